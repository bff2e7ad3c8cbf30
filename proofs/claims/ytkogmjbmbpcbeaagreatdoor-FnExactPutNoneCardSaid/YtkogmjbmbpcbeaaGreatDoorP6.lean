/- What the functions compute, in plain words. -/
import Derived.Test.YtkogmjbmbpcbeaaGreatDoorP5
set_option linter.unusedSectionVars false
set_option linter.unusedVariables false
set_option linter.unusedSimpArgs false
namespace Go.Proofs.YtkogmjbmbpcbeaaGreatDoor
open Go Go.Own
theorem z8O {es : List Ety} {k : Nat} (hk : k ≤ es.length) (e : Ety) (i : Nat) : (z5u es k e)[i]? = if i < k then es[i]? else if i = k then some e else es[i - 1]? := by
 unfold z5u
 have hl : (es.take k).length = k := by simp; omega
 by_cases h1 : i < k
 ·rw [if_pos h1, List.getElem?_append_left (by omega), List.getElem?_take_of_lt h1]
 ·rw [if_neg h1, List.getElem?_append_right (by omega), hl]
  by_cases h2 : i = k
  ·rw [if_pos h2, h2, Nat.sub_self]; rfl
  ·rw [if_neg h2]
   obtain ⟨j, hj⟩ : ∃ j, i - k = j + 1 := ⟨i - k - 1, by omega⟩
   rw [hj, List.getElem?_cons_succ, List.getElem?_drop]
   congr 1; omega
theorem z78 {es : List Ety} {k : Nat} (hk : k ≤ es.length) (e : Ety) (i : Nat) : (z5u es k e).getD i Ety.nul = if i < k then es.getD i Ety.nul else if i = k then e else es.getD (i - 1) Ety.nul := by
 simp only [List.getD_eq_getElem?_getD, z8O hk e i]
 split
 ·rfl
 ·split <;> rfl
theorem zJI {es : List Ety} {k m : Nat} (hk : k ≤ es.length) (hm : m < es.length) (e : Ety) : (z5u es k e).eraseIdx (if m < k then m else m + 1) = z5u (es.eraseIdx m) (if m < k then k - 1 else k) e := by
 have hl : (es.eraseIdx m).length = es.length - 1 := by rw [List.length_eraseIdx, if_pos hm]
 apply List.ext_getElem?
 intro i
 rw [List.getElem?_eraseIdx, z8O hk, z8O hk, z8O (by rw [hl]; split <;> omega), List.getElem?_eraseIdx, List.getElem?_eraseIdx]
 repeat' split
 all_goals first | rfl | omega | (congr 1; omega)
def minS (L : List Ety) (a : Nat) : Nat → Int
 | 0 => -1
 | i + 1 => if i ≠ a ∧ (minS L a i < 0 ∨ (L.getD i Ety.nul).used < (L.getD (minS L a i).toNat Ety.nul).used) then (i : Int) else minS L a i
theorem zBn (L : List Ety) (a i : Nat) : minS L a (i + 1) = if i ≠ a ∧ (minS L a i < 0 ∨ (L.getD i Ety.nul).used < (L.getD (minS L a i).toNat Ety.nul).used) then (i : Int) else minS L a i := rfl
theorem zJc (L : List Ety) (a : Nat) : ∀ n, minS L a n < n ∧ -1 ≤ minS L a n
 | 0 => by unfold minS; omega
 | n + 1 => by
   have := zJc L a n
   rw [zBn]
   split <;> omega
theorem zJb {es : List Ety} {k : Nat} (hk : k ≤ es.length) (e : Ety) : ∀ i, minS (z5u es k e) k i = if (if i ≤ k then i else i - 1) = 0 then -1 else (((if minI es (if i ≤ k then i else i - 1) < k then minI es (if i ≤ k then i else i - 1) else minI es (if i ≤ k then i else i - 1) + 1) : Nat) : Int)
 | 0 => by simp [minS]
 | i + 1 => by
   rw [zBn, zJb hk e i]
   rcases Nat.lt_trichotomy i k with h | h | h
   ·have a1 : (if i ≤ k then i else i - 1) = i := if_pos (by omega)
    have a2 : (if i + 1 ≤ k then i + 1 else i + 1 - 1) = i + 1 := if_pos (by omega)
    rw [a1, a2]
    have b1 : (if i + 1 = 0 then (-1 : Int) else (((if minI es (i + 1) < k then minI es (i + 1) else minI es (i + 1) + 1) : Nat) : Int)) = (minI es (i + 1) : Nat) := by
     have := zBm es (i + 1)
     rw [if_neg (by omega), if_pos (by omega)]
    rw [b1]
    by_cases h0 : i = 0
    ·subst h0
     rw [if_pos rfl, if_pos ⟨by omega, .inl (by omega)⟩, z5W]
     split <;> rfl
    ·have hm := zBm es i
     have b2 : (if i = 0 then (-1 : Int) else (((if minI es i < k then minI es i else minI es i + 1) : Nat) : Int)) = (minI es i : Nat) := by
      rw [if_neg h0, if_pos (by omega)]
     rw [b2, Int.toNat_natCast, z78 hk, z78 hk, if_pos h, if_pos (show minI es i < k by omega), z5W]
     by_cases hu : (es.getD i Ety.nul).used < (es.getD (minI es i) Ety.nul).used
     ·rw [if_pos ⟨by omega, .inr hu⟩, if_pos hu]
     ·rw [if_neg (fun hh => hh.2.elim (fun h3 => by omega) hu), if_neg hu]
   ·subst h
    rw [if_neg (fun hh => hh.1 rfl)]
    have a1 : (if i ≤ i then i else i - 1) = i := if_pos (Nat.le_refl _)
    have a2 : (if i + 1 ≤ i then i + 1 else i + 1 - 1) = i := if_neg (by omega)
    rw [a1, a2]
   ·have a1 : (if i ≤ k then i else i - 1) = i - 1 := if_neg (by omega)
    have a2 : (if i + 1 ≤ k then i + 1 else i + 1 - 1) = i := if_neg (by omega)
    rw [a1, a2]
    have b1 : (if i = 0 then (-1 : Int) else (((if minI es i < k then minI es i else minI es i + 1) : Nat) : Int)) = (((if minI es i < k then minI es i else minI es i + 1) : Nat) : Int) := if_neg (by omega)
    rw [b1]
    obtain ⟨j, rfl⟩ : ∃ j, i = j + 1 := ⟨i - 1, by omega⟩
    simp only [Nat.add_sub_cancel]
    by_cases h0 : j = 0
    ·subst h0
     have : minI es (0 + 1) = 0 := by rw [z5W]; split <;> rfl
     rw [if_pos rfl, if_pos ⟨by omega, .inl (by omega)⟩, this, if_neg (by omega)]
    ·have b2 : (if j = 0 then (-1 : Int) else (((if minI es j < k then minI es j else minI es j + 1) : Nat) : Int)) = (((if minI es j < k then minI es j else minI es j + 1) : Nat) : Int) := if_neg h0
     rw [b2, Int.toNat_natCast]
     have g1 : (z5u es k e).getD (j + 1) Ety.nul = es.getD j Ety.nul := by rw [z78 hk, if_neg (by omega), if_neg (by omega), Nat.add_sub_cancel]
     have g2 : (z5u es k e).getD (if minI es j < k then minI es j else minI es j + 1) Ety.nul = es.getD (minI es j) Ety.nul := by
      rw [z78 hk]
      by_cases h1 : minI es j < k
      ·rw [if_pos h1, if_pos h1]
      ·rw [if_neg h1, if_neg (by omega), if_neg (by omega), Nat.add_sub_cancel]
     rw [g1, g2, z5W]
     by_cases hu : (es.getD j Ety.nul).used < (es.getD (minI es j) Ety.nul).used
     ·rw [if_pos ⟨by omega, .inr hu⟩, if_pos hu, if_neg (by omega)]
     ·rw [if_neg (fun hh => hh.2.elim (fun h3 => by omega) hu), if_neg hu]
theorem zKp {es : List Ety} {k : Nat} (hk : k ≤ es.length) (e : Ety) (h0 : 0 < es.length) : minS (z5u es k e) k (es.length + 1) = (((if minI es es.length < k then minI es es.length else minI es es.length + 1) : Nat) : Int) := by
 rw [zJb hk]
 have a2 : (if es.length + 1 ≤ k then es.length + 1 else es.length + 1 - 1) = es.length := if_neg (by omega)
 rw [a2, if_neg (by omega)]
end Go.Proofs.YtkogmjbmbpcbeaaGreatDoor
namespace Go.Proofs.YtkogmjbmbpcbeaaGreatDoor
open Go Go.Own
theorem Cch.names {c : Cch} (hg : c.good = true) : ∀ i (h : i < c.es.length), z0p (c.es[i]).name = true := by
 intro i h
 unfold Cch.good at hg
 simp only [Bool.and_eq_true] at hg
 have := z1S.1 hg.2.2 i h
 unfold z92 Ety.ok at this
 rw [z0J h] at this
 simp only [Bool.and_eq_true] at this
 exact this.1.1
theorem Cch.len20 {c : Cch} (hg : c.good = true) : c.es.length ≤ 20 := by
 unfold Cch.good at hg
 simp only [Bool.and_eq_true, decide_eq_true_eq] at hg
 exact hg.2.1
def Ety.use (e : Ety) (now : Int) : Ety := ⟨e.name, e.type, e.none, e.recs, e.till, now⟩
set_option maxHeartbeats 2000000 in
theorem zHY {c : Cch} (hc : c.In lim) (hg : c.good = true) {e : Ety} (he : e.In lim) (hn : z0p e.name = true) {k : Nat} {b : Bool} (hp : Pos c.es e.name e.type k b) : z2N.F [c.d, e.d] = some (Cch.d ⟨c.now, putL c.es (e.use c.now) k b⟩) := by
 have hsm := Nat.le_trans hc.len z0u
 have hlim : lim = 1048576 := rfl
 have hl := Cch.len20 hg
 have g0 : c.d.fld 0 = .int c.now := rfl
 have g1 : c.d.fld 1 = .lst (c.es.map Ety.d) := rfl
 have hlen : (D.lst (c.es.map Ety.d)).l.length = c.es.length := by simp
 have hll : (D.lst (c.es.map Ety.d)).l = c.es.map Ety.d := rfl
 have huse : e.d.setFld 5 (.int c.now) = (e.use c.now).d := rfl
 have heu : (e.use c.now).In lim := ⟨he.name, he.recs⟩
 have hk := hp.le
 rw [zEf, g0, g1, hlen, huse]
 have hloop : z0f (fun l2 =>
  (if (decide ((gd l2 0).i < (c.es.length : Int))) then
      if (inb (gd l2 0).i c.es.length) then
      (z0q.F [(gd (D.lst (c.es.map Ety.d)).l (gd l2 0).i.toNat), (e.use c.now).d]).bind fun r3 =>
      ou 0 [r3]
      else none
    else
     ou 0 [(.bool false)]).bind fun o3 =>
  sel2 o3.1 (if (gd o3.2 0).b then
   ou 0 [(.int (IntKind.wrap .i64 ((gd l2 0).i + 1)))]
   else
    ou 1 [(gd l2 0)]) fun _ => none) [(.int 0)] = some (0, [.int k]) := by
  have hless : ∀ i (hi : i < c.es.length), z0q.F [(c.es[i]).d, (e.use c.now).d] = some (.bool (decide (cmpE c.es[i] e.name e.type < 0))) := by
   intro i hi
   obtain ⟨r, h1, h2⟩ := zFE (hc.all _ (List.getElem_mem hi)).name heu.name
   rw [h1, h2 (Cch.names hg i hi) hn]
   rfl
  rcases z4M (l := [.int 0]) (fun i => [.int i]) c.es.length (fun i => decide (cmpE (c.es.getD i Ety.nul) e.name e.type < 0)) (t1 := 0) (t2 := 0) (o1 := fun i => [.int i]) (o2 := [.int c.es.length]) (f := fun l2 =>
   (if (decide ((gd l2 0).i < (c.es.length : Int))) then
       if (inb (gd l2 0).i c.es.length) then
       (z0q.F [(gd (D.lst (c.es.map Ety.d)).l (gd l2 0).i.toNat), (e.use c.now).d]).bind fun r3 =>
       ou 0 [r3]
       else none
     else
      ou 0 [(.bool false)]).bind fun o3 =>
   sel2 o3.1 (if (gd o3.2 0).b then
    ou 0 [(.int (IntKind.wrap .i64 ((gd l2 0).i + 1)))]
    else
     ou 1 [(gd l2 0)]) fun _ => none) rfl (by
    intro i hi h
    rw [z0J hi] at h
    have e1 : (gd [D.int (i : Int)] 0).i = i := rfl
    rw [e1, Int.toNat_natCast, hll, z5U hi, z0O hi hsm]
    exact z1V (l := [.bool true]) (z04 (by simpa using hi) (z04 (z0D hi) (z01 (hless i hi) (by rw [h])))) (z04 rfl rfl)) (by
    intro i hi h
    rw [z0J hi] at h
    have e1 : (gd [D.int (i : Int)] 0).i = i := rfl
    rw [e1, Int.toNat_natCast, hll, z5U hi]
    exact z1V (l := [.bool false]) (z04 (by simpa using hi) (z04 (z0D hi) (z01 (hless i hi) (by rw [h])))) (z00 (by simp) rfl)) (by
    exact z1V (l := [.bool false]) (z00 (by simp) rfl) (z00 (by simp) rfl)) with ⟨hall, h⟩ | ⟨j, hj, hpj, hbef, h⟩
  ·rw [h]
   have : k = c.es.length := by
    rcases Nat.lt_or_ge k c.es.length with hlt | hge
    ·have h1 := hall k hlt
     rw [z0J hlt] at h1
     have := hp.hi k hlt (Nat.le_refl _)
     simp at h1; omega
    ·omega
   rw [this]
  ·rw [h]
   have : j = k := by
    rw [z0J hj] at hpj
    rcases Nat.lt_trichotomy j k with h1 | h1 | h1
    ·have := hp.lo j hj h1
     simp at hpj; omega
    ·exact h1
    ·have hlt : k < c.es.length := by omega
     have h2 := hbef k h1
     rw [z0J hlt] at h2
     have := hp.hi k hlt (Nat.le_refl _)
     simp at h2; omega
   rw [this]
 refine z06 hloop ?_
 have o0 : (gd [D.int (k : Int)] 0).i = k := rfl
 have o0d : gd [D.int (k : Int)] 0 = .int k := rfl
 simp only [o0d, D.i_int, Int.toNat_natCast, List.drop_zero, List.nil_append, D.l_lst, List.length_map]
 have hT : (c.es.map Ety.d).take k = (c.es.take k).map Ety.d := by rw [List.map_take]
 rw [hT]
 refine z0K ?_ (z0K (z2P (n := 0) (by simp) (by simp; omega) (by decide)) (z02 (z8C heu) (z0K (z2P (n := 0) (by simp; omega) (show 1 ≤ lim by decide) (by decide)) ?_)))
 ·unfold slOk; simp; omega
 refine z06 (l := [.int ((if b = true then k + 1 else k : Nat) : Int)]) (z1V (l := [.bool b]) ?_ ?_) ?_
 ·have f0 : ∀ x : Ety, (x.d.fld 0).s = x.name := fun _ => rfl
  have f1 : ∀ x : Ety, (x.d.fld 1).i = x.type := fun _ => rfl
  by_cases hkl : k < c.es.length
  ·refine z04 (by simpa using hkl) (z04 (z0D hkl) ?_)
   rw [z5U hkl, f0, f1, f0, f1]
   have hb : b = ((c.es[k]).name == e.name && (c.es[k]).type == e.type) := by
    rw [Bool.eq_iff_iff, hp.eq]
    constructor
    ·rintro ⟨_, h⟩
     have := zIy.1 h
     simp [this.1, this.2]
    ·intro h
     simp only [Bool.and_eq_true, beq_iff_eq] at h
     exact ⟨hkl, zIy.2 h⟩
   cases a1 : (c.es[k]).name == e.name with
   | true => exact z04 rfl (by rw [hb, a1, Bool.true_and])
   | false => exact z00 (by simp) (by rw [hb, a1, Bool.false_and])
  ·refine z00 (by simpa using hkl) ?_
   cases b with
   | false => rfl
   | true => obtain ⟨h, _⟩ := hp.eq.1 rfl; exact absurd h hkl
 ·cases b with
  | true =>
    obtain ⟨h, _⟩ := hp.eq.1 rfl
    exact z04 rfl (by rw [z0O h hsm]; simp)
  | false => exact z00 (by simp [D.b]) (by simp)
 generalize hk' : (if b = true then k + 1 else k) = k'
 have hk2 : k' ≤ c.es.length := by
  rw [← hk']
  cases b with
  | true => obtain ⟨h, _⟩ := hp.eq.1 rfl; simp; omega
  | false => simpa using hk
 have o1 : (gd [D.int (k' : Int)] 0).i = k' := rfl
 have hM : (c.es.take k).map Ety.d ++ ((e.use c.now).d :: ([] : List D)) ++ ((c.es.map Ety.d).take c.es.length).drop k' = (c.es.take k ++ (e.use c.now) :: c.es.drop k').map Ety.d := by
  rw [List.take_of_length_le (l := c.es.map Ety.d) (by simp)]
  simp [List.map_drop]
 have hMl : (c.es.take k ++ (e.use c.now) :: c.es.drop k').length = k + 1 + (c.es.length - k') := by simp; omega
 have o1d : gd [D.int (k' : Int)] 0 = .int k' := rfl
 simp only [o1d, D.i_int, Int.toNat_natCast]
 refine z0K ?_ (z0K (z2P (n := 0) (by simp; omega) (by simp; omega) (by decide)) ?_)
 ·unfold slOk; simp; omega
 rw [hM]
 simp only [List.length_map]
 generalize hML : c.es.take k ++ (e.use c.now) :: c.es.drop k' = M at hMl
 have fin : ∀ R : List Ety, R = putL c.es (e.use c.now) k b → rn (ou 0 [(c.d.setFld 1 (gd [D.lst (R.map Ety.d)] 0))]) = some (Cch.d ⟨c.now, putL c.es (e.use c.now) k b⟩) := by
  rintro R rfl; rfl
 by_cases h20 : M.length > 20
 ·have hb : b = false := by
   cases b with
   | false => rfl
   | true => simp at hk'; omega
  subst hb
  simp at hk'
  subst hk'
  have hMi : M = z5u c.es k (e.use c.now) := hML.symm
  have hes : c.es.length = 20 := by omega
  have hml : minS M k M.length = (((if minI c.es c.es.length < k then minI c.es c.es.length else minI c.es c.es.length + 1) : Nat) : Int) := by
   rw [hMl, show k + 1 + (c.es.length - k) = c.es.length + 1 by omega, hMi]
   exact zKp hk _ (by omega)
  have hmlt := zGu (Nat.le_refl c.es.length) (by omega)
  generalize hq : (if minI c.es c.es.length < k then minI c.es c.es.length else minI c.es c.es.length + 1) = q at hml
  have hql : q < M.length := by rw [← hq]; split <;> omega
  refine z06 (l := [.lst ((M.eraseIdx q).map Ety.d)]) (z04 (decide_eq_true (by omega)) (z1V (l := [.int q]) ?_ ?_)) (fin _ ?_)
  ·rw [← hml]
   refine z1o (fun i (s : Int) => [.int s, .int i]) M.length (fun i => minS M k i) (t := 0) rfl ?_ ?_
   ·intro i hi
    have e0 : (gd [D.int (minS M k i), D.int (i : Int)] 0).i = minS M k i := rfl
    have e1 : (gd [D.int (minS M k i), D.int (i : Int)] 1).i = i := rfl
    have e2 : gd [D.int (minS M k i), D.int (i : Int)] 0 = .int (minS M k i) := rfl
    have e3 : gd [D.int (minS M k i), D.int (i : Int)] 1 = .int i := rfl
    have u : ∀ x : Ety, (x.d.fld 5).i = x.used := fun _ => rfl
    have hb1 := zJc M k i
    have hlm : (lim : Nat) ≤ smax := z0u
    rw [e0, e1, e2, e3, Int.toNat_natCast, z0O hi (by omega)]
    refine z04 (by simpa using hi) (z1V (l := [.int (minS M k (i + 1))]) (z04 (z0D hi) (z1V (l := [.bool (decide (i ≠ k ∧ (minS M k i < 0 ∨ (M.getD i Ety.nul).used < (M.getD (minS M k i).toNat Ety.nul).used)))]) ?_ ?_)) rfl)
    ·by_cases h1 : i = k
     ·subst h1
      exact z00 (by simp) (by simp)
     ·refine z04 (by simp; omega) ?_
      by_cases h2 : minS M k i < 0
      ·exact z04 (decide_eq_true h2) (by simp [h1, h2])
      ·have hs : (minS M k i).toNat < M.length := by omega
       refine z00 (fun h => h2 (of_decide_eq_true h)) (z04 ?_ ?_)
       ·have : minS M k i = ((minS M k i).toNat : Int) := by omega
        rw [this]; exact z0D hs
       ·rw [z5U hi, z5U hs, u, u, z0J hi, z0J hs]
        simp [h1, h2]
    ·rw [zBn]
     by_cases h : i ≠ k ∧ (minS M k i < 0 ∨ (M.getD i Ety.nul).used < (M.getD (minS M k i).toNat Ety.nul).used)
     ·rw [if_pos h]; exact z04 (decide_eq_true h) rfl
     ·rw [if_neg h]; exact z00 (fun h2 => h (of_decide_eq_true h2)) rfl
   ·exact z00 (by simp) rfl
  ·have w : IntKind.wrap .i64 ((gd [D.int (q : Int)] 0).i + 1) = ((q + 1 : Nat) : Int) := by
    show IntKind.wrap .i64 ((q : Int) + 1) = _
    rw [z0S] <;> omega
   have w0 : (gd [D.int (q : Int)] 0).i = q := rfl
   rw [w, w0]
   refine z04 ?_ (z04 (z2P (n := 0) (by simp) (by simp; omega) (by decide)) (z04 ?_ (z04 (z2P (n := 0) (by simp; omega) (by simp; omega) (by decide)) ?_)))
   ·unfold slOk; simp; omega
   ·unfold slOk; simp; omega
   ·rw [Int.toNat_natCast, Int.toNat_natCast, Nat.sub_zero, List.eraseIdx_eq_take_drop_succ, List.map_append, List.map_take, List.map_drop, List.take_of_length_le (l := (M.map Ety.d).drop (q + 1)) (by simp)]
  ·have : putL c.es (e.use c.now) k false = z5u (c.es.eraseIdx (minI c.es c.es.length)) (if minI c.es c.es.length < k then k - 1 else k) (e.use c.now) := by
    unfold putL
    rw [if_neg (by simp), if_pos hes]
   rw [hMi, ← hq, zJI hk hmlt, this]
 ·refine z06 (l := [.lst (M.map Ety.d)]) (z00 (fun h => h20 (by have := of_decide_eq_true h; omega)) rfl) (fin _ ?_)
  unfold putL
  cases b with
  | true =>
    obtain ⟨h, _⟩ := hp.eq.1 rfl
    simp at hk'
    subst hk'
    rw [if_pos rfl, ← hML, List.set_eq_take_append_cons_drop, if_pos h]
  | false =>
    simp at hk'
    subst hk'
    rw [if_neg (by simp), if_neg (by omega), ← hML]
    rfl
end Go.Proofs.YtkogmjbmbpcbeaaGreatDoor
namespace Go.Proofs.YtkogmjbmbpcbeaaGreatDoor
open Go Go.Own
def putD (c : Cch) (b : Bool) : D := .pair c.d (.pair (.bool b) .unit)
def Cch.nul : Cch := ⟨0, []⟩
theorem Cch.nul_in : Cch.nul.In lim := ⟨by simp [Cch.nul], by simp [Cch.nul]⟩
theorem zLR {es : List Ety} (hr : Ris es) (n : List UInt8) (t : Int) : ∃ k b, Pos es n t k b := by
 have key : ∀ m, m ≤ es.length → (∀ i (h : i < es.length), i < m → cmpE es[i] n t < 0) ∨ ∃ k, k < m ∧ (∀ i (h : i < es.length), i < k → cmpE es[i] n t < 0) ∧ ∃ h : k < es.length, 0 ≤ cmpE es[k] n t := by
  intro m
  induction m with
  | zero => intro _; exact .inl (fun i _ h => by omega)
  | succ m ih =>
    intro hm
    rcases ih (by omega) with h | ⟨k, h1, h2, h3⟩
    ·by_cases hx : cmpE (es[m]'(by omega)) n t < 0
     ·refine .inl (fun i hi him => ?_)
      by_cases e : i = m
      ·subst e; exact hx
      ·exact h i hi (by omega)
     ·exact .inr ⟨m, by omega, fun i hi him => h i hi him, by omega, by omega⟩
    ·exact .inr ⟨k, by omega, h2, h3⟩
 rcases key es.length (Nat.le_refl _) with h | ⟨k, h1, h2, h3, h4⟩
 ·exact ⟨es.length, false, Nat.le_refl _, fun i hi _ => h i hi hi, fun i hi h => by omega, ⟨fun h => (by cases h), fun ⟨h, _⟩ => by omega⟩⟩
 ·refine ⟨k, decide (cmpE es[k] n t = 0), by omega, h2, fun i hi hki => ?_, ⟨fun h => ⟨h3, of_decide_eq_true h⟩, fun ⟨_, h⟩ => decide_eq_true h⟩⟩
  by_cases e : k = i
  ·subst e; exact h4
  ·have := hr k i h3 hi (by omega)
   apply Int.not_lt.1
   intro hlt
   have h5 : cmpP ((es[k]).name, (es[k]).type) (n, t) < 0 := z89.lt (Int.le_of_lt this) (Int.le_of_lt hlt) (.inl (by omega))
   have : cmpE es[k] n t < 0 := h5
   omega
theorem zLS {c : Cch} (hc : c.In lim) (hl : c.es.length ≤ 20) {e : Ety} (he : e.In lim) {k : Nat} (hk : k ≤ c.es.length) (b : Bool) : (⟨c.now, putL c.es e k b⟩ : Cch).In lim := by
 have hlim : lim = 1048576 := rfl
 refine ⟨?_, fun x hx => ?_⟩
 ·show (putL c.es e k b).length ≤ lim
  unfold putL
  split
  ·simpa using hc.len
  ·split
   ·have hm := zGu (Nat.le_refl c.es.length) (by omega)
    have h2 : (c.es.eraseIdx (minI c.es c.es.length)).length = c.es.length - 1 := by rw [List.length_eraseIdx, if_pos hm]
    rw [zFW (by rw [h2]; split <;> omega), h2]
    omega
   ·rw [zFW hk]; omega
 ·rcases zKz hx with rfl | h
  ·exact he
  ·exact hc.all x h
theorem zGc {c : Cch} (hc : c.In lim) {l : List Rec} (hr : RIn lim l) : ∃ (c' : Cch) (b : Bool), c'.In lim ∧ z2H.F [c.d, .lst (l.map Rec.d)] = some (putD c' b) ∧ z2x.F [c.d, .lst (l.map Rec.d)] = some (putD c' b) := by
 have hlim : lim = 1048576 := rfl
 have h1 := z6Q hc
 have h2 := z6S hc
 have h4 := zFF hr
 have hlen : (D.lst (l.map Rec.d)).l.length = l.length := by simp
 have g0 : c.d.fld 0 = .int c.now := rfl
 rw [zAZ, zAh, hlen, g0]
 cases k1 : c.good with
 | false =>
   rw [k1] at h1 h2
   exact ⟨Cch.nul, false, Cch.nul_in, z06 (l := [.bool true]) (z01 h1 (z04 rfl rfl)) (z0K rfl rfl), z06 (l := [.bool true]) (z01 h2 (z04 rfl rfl)) (z0K rfl rfl)⟩
 | true =>
   rw [k1] at h1 h2
   cases l with
   | nil =>
     have : z8n [] = false := by simp [z8n, inP]
     rw [this] at h4
     exact ⟨Cch.nul, false, Cch.nul_in, z06 (l := [.bool true]) (z01 h1 (z00 (by simp) (z04 rfl rfl))) (z0K rfl rfl), z06 (l := [.bool true]) (z01 h2 (z00 (by simp) (z01 h4 (z04 rfl rfl)))) (z0K rfl rfl)⟩
   | cons r l =>
     have hg : gd (D.lst ((r :: l).map Rec.d)).l 0 = r.d := rfl
     have f0 : r.d.fld 0 = .str r.name := rfl
     have f1 : r.d.fld 1 = .int r.type := rfl
     have f2 : r.d.fld 2 = .int r.ttl := rfl
     have h3 := zHU hr r.name r.type
     have hs : z8n (r :: l) = zEU (r :: l) r.name r.type := rfl
     have hin : inb 0 (r :: l).length = true := z0D (i := 0) (by simp)
     have hne : ¬ (((r :: l).length : Int) == 0) = true := by simp; omega
     rw [hs] at h4
     rw [hg, f0, f1, f2]
     cases k2 : zEU (r :: l) r.name r.type with
     | false =>
       rw [k2] at h3 h4
       exact ⟨Cch.nul, false, Cch.nul_in, z06 (l := [.bool true]) (z01 h1 (z00 (by simp) (z00 hne (z04 hin (z01 h3 (z04 rfl rfl)))))) (z0K rfl rfl), z06 (l := [.bool true]) (z01 h2 (z00 (by simp) (z01 h4 (z04 rfl rfl)))) (z0K rfl rfl)⟩
     | true =>
       rw [k2] at h3 h4
       have hnm : z0p r.name = true := by
        unfold zEU at k2
        simp only [Bool.and_eq_true] at k2
        have := z1S.1 k2.2.1 0 (by simp)
        unfold upAt at this
        simp only [Bool.and_eq_true] at this
        have hok : (Rec.ok r) = true := this.1
        unfold Rec.ok at hok
        simp only [Bool.and_eq_true] at hok
        exact hok.2.1
       by_cases ht : r.ttl < 1
       ·exact ⟨Cch.nul, false, Cch.nul_in, z06 (l := [.bool true]) (z01 h1 (z00 (by simp) (z00 hne (z04 hin (z01 h3 (z00 (by simp) (by rw [D.i_int, decide_eq_true ht]))))))) (z0K rfl rfl), z06 (l := [.bool true]) (z01 h2 (z00 (by simp) (z01 h4 (z00 (by simp) (z04 hin (by rw [D.i_int, decide_eq_true ht])))))) (z0K rfl rfl)⟩
       ·have hr0 := hr.all r (by simp)
        let e : Ety := ⟨r.name, r.type, false, r :: l, IntKind.wrap .i64 (c.now + r.ttl), c.now⟩
        let e0 : Ety := ⟨r.name, r.type, false, r :: l, IntKind.wrap .i64 (c.now + r.ttl), 0⟩
        have he : e.In lim := ⟨hr0.name, hr⟩
        have he0 : e0.In lim := ⟨hr0.name, hr⟩
        obtain ⟨k, b, hp⟩ := zLR (Cch.ris k1) r.name r.type
        have hI := zDU hc (Cch.ris k1) (Cch.len20 k1) he hp
        have hS := zHY hc k1 he0 hnm hp
        have hu : e0.use c.now = e := rfl
        rw [hu] at hS
        refine ⟨⟨c.now, putL c.es e k b⟩, true, zLS hc (Cch.len20 k1) he hp.le b, ?_, ?_⟩
        ·refine z06 (l := [.bool false]) (z01 h1 (z00 (by simp) (z00 hne (z04 hin (z01 h3 (z00 (by simp) (by rw [D.i_int, decide_eq_false ht]))))))) (z03 (by simp) (z0K hin (z02 (zB3 (by simpa using hr.len)) (z02 hI rfl))))
        ·refine z06 (l := [.bool false]) (z01 h2 (z00 (by simp) (z01 h4 (z00 (by simp) (z04 hin (by rw [D.i_int, decide_eq_false ht])))))) (z03 (by simp) (z02 (zHX hc) (z0K hin (z02 hS rfl))))
theorem zJ7 {c : Cch} (hc : c.In lim) {n : List UInt8} (hn : n.length ≤ lim) (t x : Int) : ∃ (c' : Cch) (b : Bool), c'.In lim ∧ z2z.F [c.d, .str n, .int t, .int x] = some (putD c' b) ∧ z3e.F [c.d, .str n, .int t, .int x] = some (putD c' b) := by
 have hlim : lim = 1048576 := rfl
 have h1 := z6Q hc
 have h2 := z6S hc
 have h3 := z70 n
 have h4 := z5K n hn
 have h5 := zHW t
 have h6 := zHZ t
 have h7 := z5T x 1 100000
 have h8 := z94 x 1 100000
 have g0 : c.d.fld 0 = .int c.now := rfl
 rw [zDC, zDK, g0]
 cases k1 : c.good with
 | false =>
   rw [k1] at h1 h2
   exact ⟨Cch.nul, false, Cch.nul_in, z06 (l := [.bool true]) (z01 h1 (z04 rfl rfl)) (z0K rfl rfl), z06 (l := [.bool true]) (z01 h2 (z04 rfl rfl)) (z0K rfl rfl)⟩
 | true =>
   rw [k1] at h1 h2
   cases k2 : z0p n with
   | false =>
     rw [k2] at h3 h4
     exact ⟨Cch.nul, false, Cch.nul_in, z06 (l := [.bool true]) (z01 h1 (z00 (by simp) (z01 h3 (z04 rfl rfl)))) (z0K rfl rfl), z06 (l := [.bool true]) (z01 h2 (z00 (by simp) (z01 h4 (z04 rfl rfl)))) (z0K rfl rfl)⟩
   | true =>
     rw [k2] at h3 h4
     cases k3 : z8w t with
     | false =>
       rw [k3] at h5 h6
       exact ⟨Cch.nul, false, Cch.nul_in, z06 (l := [.bool true]) (z01 h1 (z00 (by simp) (z01 h3 (z00 (by simp) (z01 h5 (z04 rfl rfl)))))) (z0K rfl rfl), z06 (l := [.bool true]) (z01 h2 (z00 (by simp) (z01 h4 (z00 (by simp) (z01 h6 (z04 rfl rfl)))))) (z0K rfl rfl)⟩
     | true =>
       rw [k3] at h5 h6
       cases k4 : inP x 1 100000 with
       | false =>
         rw [k4] at h7 h8
         exact ⟨Cch.nul, false, Cch.nul_in, z06 (l := [.bool true]) (z01 h1 (z00 (by simp) (z01 h3 (z00 (by simp) (z01 h5 (z00 (by simp) (z01 h7 rfl))))))) (z0K rfl rfl), z06 (l := [.bool true]) (z01 h2 (z00 (by simp) (z01 h4 (z00 (by simp) (z01 h6 (z00 (by simp) (z01 h8 rfl))))))) (z0K rfl rfl)⟩
       | true =>
         rw [k4] at h7 h8
         let e : Ety := ⟨n, t, true, [], IntKind.wrap .i64 (c.now + x), c.now⟩
         let e0 : Ety := ⟨n, t, true, [], IntKind.wrap .i64 (c.now + x), 0⟩
         have he : e.In lim := ⟨hn, by simp [e], by simp [e]⟩
         have he0 : e0.In lim := ⟨hn, by simp [e0], by simp [e0]⟩
         obtain ⟨k, b, hp⟩ := zLR (Cch.ris k1) n t
         have hI := zDU hc (Cch.ris k1) (Cch.len20 k1) he hp
         have hS := zHY hc k1 he0 k2 hp
         have hu : e0.use c.now = e := rfl
         rw [hu] at hS
         refine ⟨⟨c.now, putL c.es e k b⟩, true, zLS hc (Cch.len20 k1) he hp.le b, ?_, ?_⟩
         ·exact z06 (l := [.bool false]) (z01 h1 (z00 (by simp) (z01 h3 (z00 (by simp) (z01 h5 (z00 (by simp) (z01 h7 rfl))))))) (z03 (by simp) (z02 hI rfl))
         ·exact z06 (l := [.bool false]) (z01 h2 (z00 (by simp) (z01 h4 (z00 (by simp) (z01 h6 (z00 (by simp) (z01 h8 rfl))))))) (z03 (by simp) (z02 (zHX hc) (z02 hS rfl)))
end Go.Proofs.YtkogmjbmbpcbeaaGreatDoor
