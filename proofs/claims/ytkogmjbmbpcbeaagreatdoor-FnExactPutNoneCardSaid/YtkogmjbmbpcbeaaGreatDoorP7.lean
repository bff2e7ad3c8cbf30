/- What the functions compute, in plain words. -/
import Derived.Test.YtkogmjbmbpcbeaaGreatDoorP6
set_option linter.unusedSectionVars false
set_option linter.unusedVariables false
set_option linter.unusedSimpArgs false
namespace Go.Proofs.YtkogmjbmbpcbeaaGreatDoor
open Go Go.Own
theorem zIH {c : Cch} {left : Int} (hc : c.In smax) (h0 : 0 ≤ left) (h1 : left ≤ lim) : ∃ r, z1u.F [c.d, .int left] = some (.int r) ∧ r ≤ left ∧ (0 ≤ r → c.In lim) := by
 rw [z7Y]
 have f1 : c.d.fld 1 = .lst (c.es.map Ety.d) := rfl
 rw [f1]
 have hs := zDV (left := left) hc.len hc.all h0 h1
 have hss := zKG (f := Ety.d) (fun _ _ => Ety.d_inj) zEr c.es (left := left) h0 h1
 by_cases h : szL zIi (c.es.map Ety.d) left < 0
 ·exact ⟨-1, z02 hs (z0K (decide_eq_true h) rfl), by omega, by omega⟩
 ·exact ⟨_, z02 hs (z03 (fun h' => h (of_decide_eq_true h')) rfl), hss.1, fun hp => ⟨(hss.2 hp).1, (hss.2 hp).2⟩⟩
theorem law_FnExactPutAnswer {a b : D} (ha : Sm smax tCch a) (hb : Sm smax (.lst false tRec) b) : z2p.F [a, b] = some (.bool true) := by
 obtain ⟨c, rfl, hi⟩ := zLG ha
 obtain ⟨l, rfl, hl⟩ := zJu hb
 rw [z63]
 obtain ⟨r, h1, hrle, h2⟩ := zIH hi (left := 1048576) (by decide) (by decide)
 refine z02 h1 ?_
 by_cases hr : r < 0
 ·exact z0K (decide_eq_true hr) rfl
 refine z03 (fun h => hr (of_decide_eq_true h)) ?_
 have hc := h2 (by omega)
 have hlim0 : lim = 1048576 := rfl
 have h3 := zB8 (left := r) hl.len hl.all (by omega) (by omega)
 have h4 := zKG (f := Rec.d) (c := z66) (Q := fun x => x.In lim) (fun _ _ => Rec.d_inj) (fun x s a b => z7J s a b) l (left := r) (by omega) (by omega)
 generalize szL z66 (l.map Rec.d) r = r2 at h3 h4
 refine z02 h3 ?_
 by_cases hr2 : r2 < 0
 ·exact z0K (decide_eq_true hr2) rfl
 refine z03 (fun h => hr2 (of_decide_eq_true h)) ?_
 have hrl : RIn lim l := ⟨(h4.2 (by omega)).1, (h4.2 (by omega)).2⟩
 obtain ⟨c', ok, hc', hI, hS⟩ := zGc hc hrl
 have hlim : lim = 1048576 := rfl
 have hto := zFL hc
 have hcs : ∀ {x : Cch}, x.In lim → x.In smax := fun h => ⟨Nat.le_trans h.len z0u, fun e he => (h.all e he).smax⟩
 have heqc := z8B (hcs hc)
 have heqc' := z8B (hcs hc')
 have A0 : (putD c' ok).fld 0 = c'.d := rfl
 have A1 : ((putD c' ok).fld 1).b = ok := rfl
 have hbnd : ∀ {x : Cch}, x.In lim → (1 : Int) + x.es.length * (5 + 4 * lim : Nat) < 10 ^ 16 := by
  intro x hx
  have : (x.es.length : Int) * (5 + 4 * lim : Nat) ≤ (1048576 : Int) * (5 + 4 * lim : Nat) := Int.mul_le_mul_of_nonneg_right (by have := hx.len; omega) (by omega)
  have h16 : (10 : Int) ^ 16 = 10000000000000000 := by decide
  rw [hlim] at this ⊢
  omega
 have h16 : (10 : Int) ^ 16 = 10000000000000000 := by decide
 have h17 : (10 : Int) ^ 17 = 100000000000000000 := by decide
 have h18 := zDn
 have b0 := hbnd hc
 have b1 := hbnd hc'
 have hBl : ∀ {x : Cch}, x.In lim → ∀ e ∈ x.es, e.recs.length ≤ lim := fun h e he => (h.all e he).recs.len
 have hm0 := z5r (hBl hc) hc.len (k := 1) (by decide) (by omega)
 have hk0 := z3T (k := 1) (hBl hc)
 have hm1 := z5r (hBl hc') hc'.len (k := 1) (by decide) (by omega)
 have hk1 := z3T (k := 1) (hBl hc')
 have hh1 := z9s (hBl hc') hc'.len (k := 1) (by decide) (by omega)
 generalize hK : (mkEs 1 c'.es).2 = K at hm1 hk1 hh1
 have hheld1 : z0y.F [.pair (c'.d.fld 0) (.pair (.lst ((mkEs 1 c'.es).1.map Ety.d)) .unit), .int 1] = some (.int K) := by
  rw [z6D]
  exact z02 hh1 (z03 (fun h => absurd (of_decide_eq_true h) (by rw [D.i_int]; omega)) rfl)
 have M1 : ((D.pair (.int K) (.pair (c'.d.setFld 1 (.lst ((mkEs 1 c'.es).1.map Ety.d))) .unit)).fld 1).fld 1 = .lst ((mkEs 1 c'.es).1.map Ety.d) := rfl
 have eqs : ∀ {A : D → Outc} {R}, A = (fun r10 => if (!r10.b) then ou 0 [(.bool true)] else ou 0 [(.bool (!(ok == ok)))]) → R = some (0, [D.bool false]) → (z0e.F [c'.d, c'.d]).bind A = R := by
  rintro A R rfl rfl
  exact z01 heqc' (z00 (by simp) (by simp))
 have htoR : z0l.F [.lst (l.map Rec.d)] = some (.lst (l.map Rec.d)) := zB9 hrl.len
 have heqR : z1O.F [.lst (l.map Rec.d), .lst (l.map Rec.d)] = some (.bool true) := zB6 hrl.smax.len
 have hll := hrl.len
 have hmR := z8E (xs := l) (k := (mkEs 1 c.es).2) (by omega) (by omega)
 refine z02 hto (z02 htoR (z02 hS (z02 hto (z02 htoR (z02 hI ?_)))))
 rw [A0, A1]
 refine z06 (l := [.bool false]) (eqs rfl rfl) (z03 (by simp) (z02 hto (z02 heqc (z03 (by simp) (z02 htoR (z02 heqR (z03 (by simp) (z02 hm0 (z02 hmR ?_)))))))))
 refine z06 (l := [.bool false]) (z00 (fun h => absurd (of_decide_eq_true h) (by show ¬ (mkEs 1 c.es).2 + 4 * (l.length : Int) < 0; omega)) (eqs rfl rfl)) (z03 (by simp) (z02 hm1 ?_))
 rw [M1]
 refine z02 hheld1 (z03 (fun h => absurd (of_decide_eq_true h) (by rw [D.i_int]; omega)) (z03 (by simp [D.fld]) (z02 hto (z02 htoR (z02 hI ?_)))))
 rw [A0, A1]
 refine z06 (l := [.bool false]) (eqs rfl rfl) (z03 (by simp) ?_)
 exact z02 hheld1 (z03 (fun h => absurd (of_decide_eq_true h) (by rw [D.i_int]; omega)) (z03 (by simp [D.fld]) rfl))
end Go.Proofs.YtkogmjbmbpcbeaaGreatDoor
namespace Go.Proofs.YtkogmjbmbpcbeaaGreatDoor
open Go Go.Own
theorem z8Q {a b t x : D} (ha : Sm smax tCch a) (hb : Sm smax .str b) (ht : Sm smax (.int .i64) t) (hx : Sm smax (.int .i64) x) : z3F.F [a, b, t, x] = some (.bool true) := by
 obtain ⟨c, rfl, hi⟩ := zLG ha
 obtain ⟨n, rfl, _⟩ := hb
 obtain ⟨t, rfl, _⟩ := ht
 obtain ⟨x, rfl, _⟩ := hx
 rw [z6s]
 have hlim0 : lim = 1048576 := rfl
 by_cases hn : ((D.str n).s.length : Int) > 1048576
 ·exact z0K (decide_eq_true hn) rfl
 refine z03 (fun h => hn (of_decide_eq_true h)) ?_
 have hnl : n.length ≤ lim := by rw [D.s_str] at hn; omega
 obtain ⟨r, h1, h2⟩ := zJD hi (left := 1048576) (by decide) (by decide)
 refine z02 h1 ?_
 by_cases hr : r < 0
 ·exact z0K (decide_eq_true hr) rfl
 refine z03 (fun h => hr (of_decide_eq_true h)) ?_
 have hc := h2 (by omega)
 obtain ⟨c', ok, hc', hI, hS⟩ := zJ7 hc hnl t x
 have hlim : lim = 1048576 := rfl
 have hto := zFL hc
 have hcs : ∀ {x : Cch}, x.In lim → x.In smax := fun h => ⟨Nat.le_trans h.len z0u, fun e he => (h.all e he).smax⟩
 have heqc := z8B (hcs hc)
 have heqc' := z8B (hcs hc')
 have A0 : (putD c' ok).fld 0 = c'.d := rfl
 have A1 : ((putD c' ok).fld 1).b = ok := rfl
 have hbnd : ∀ {x : Cch}, x.In lim → (1 : Int) + x.es.length * (5 + 4 * lim : Nat) < 10 ^ 16 := by
  intro x hx
  have : (x.es.length : Int) * (5 + 4 * lim : Nat) ≤ (1048576 : Int) * (5 + 4 * lim : Nat) := Int.mul_le_mul_of_nonneg_right (by have := hx.len; omega) (by omega)
  have h16 : (10 : Int) ^ 16 = 10000000000000000 := by decide
  rw [hlim] at this ⊢
  omega
 have h16 : (10 : Int) ^ 16 = 10000000000000000 := by decide
 have h17 : (10 : Int) ^ 17 = 100000000000000000 := by decide
 have h18 := zDn
 have b0 := hbnd hc
 have b1 := hbnd hc'
 have hBl : ∀ {x : Cch}, x.In lim → ∀ e ∈ x.es, e.recs.length ≤ lim := fun h e he => (h.all e he).recs.len
 have hm0 := z5r (hBl hc) hc.len (k := 1) (by decide) (by omega)
 have hk0 := z3T (k := 1) (hBl hc)
 have hm1 := z5r (hBl hc') hc'.len (k := 1) (by decide) (by omega)
 have hk1 := z3T (k := 1) (hBl hc')
 have hh1 := z9s (hBl hc') hc'.len (k := 1) (by decide) (by omega)
 generalize hK : (mkEs 1 c'.es).2 = K at hm1 hk1 hh1
 have hheld1 : z0y.F [.pair (c'.d.fld 0) (.pair (.lst ((mkEs 1 c'.es).1.map Ety.d)) .unit), .int 1] = some (.int K) := by
  rw [z6D]
  exact z02 hh1 (z03 (fun h => absurd (of_decide_eq_true h) (by rw [D.i_int]; omega)) rfl)
 have M1 : ((D.pair (.int K) (.pair (c'.d.setFld 1 (.lst ((mkEs 1 c'.es).1.map Ety.d))) .unit)).fld 1).fld 1 = .lst ((mkEs 1 c'.es).1.map Ety.d) := rfl
 have eqs : ∀ {A : D → Outc} {R}, A = (fun r10 => if (!r10.b) then ou 0 [(.bool true)] else ou 0 [(.bool (!(ok == ok)))]) → R = some (0, [D.bool false]) → (z0e.F [c'.d, c'.d]).bind A = R := by
  rintro A R rfl rfl
  exact z01 heqc' (z00 (by simp) (by simp))
 refine z02 hto (z02 hS (z02 hto (z02 hI ?_)))
 rw [A0, A1]
 refine z06 (l := [.bool false]) (eqs rfl rfl) (z03 (by simp) (z02 hto (z02 heqc (z03 (by simp) (z02 hm0 ?_)))))
 refine z06 (l := [.bool false]) (z00 (fun h => absurd (of_decide_eq_true h) (by show ¬ (mkEs 1 c.es).2 < 0; omega)) (eqs rfl rfl)) (z03 (by simp) (z02 hm1 ?_))
 rw [M1]
 refine z02 hheld1 (z03 (fun h => absurd (of_decide_eq_true h) (by rw [D.i_int]; omega)) (z03 (by simp [D.fld]) (z02 hto (z02 hI ?_))))
 rw [A0, A1]
 refine z06 (l := [.bool false]) (eqs rfl rfl) (z03 (by simp) ?_)
 exact z02 hheld1 (z03 (fun h => absurd (of_decide_eq_true h) (by rw [D.i_int]; omega)) (z03 (by simp [D.fld]) rfl))
end Go.Proofs.YtkogmjbmbpcbeaaGreatDoor
