/- What the functions compute, in plain words. -/
import Derived.Test.YtobighfemobgjaaGreatDoorP2
set_option linter.unusedSectionVars false
set_option linter.unusedVariables false
set_option linter.unusedSimpArgs false
namespace Go.Own
variable [Glb]
open Go
theorem loop_inv {σ : Type} {f : List D → Outc} {l : List D} (enc : Nat → σ → List D) (Inv : Nat → σ → Prop) (n : Nat) {t : Nat} {out : σ → List D} (s0 : σ) (hl : l = enc 0 s0) (h0 : Inv 0 s0)
    (h : ∀ i s, i < n → Inv i s → ∃ s', f (enc i s) = some (0, enc (i + 1) s') ∧ Inv (i + 1) s') (hn : ∀ s, Inv n s → f (enc n s) = some (t + 1, out s)) : ∃ s, Inv n s ∧ loopF f l = some (t, out s) := by
  subst hl
  have key : ∀ m k s, m + k = n → Inv k s → ∃ s', Inv n s' ∧ loopF f (enc k s) = some (t, out s') := by
    intro m
    induction m with
    | zero =>
      intro k s hk hi
      have : k = n := by omega
      subst this
      exact ⟨s, hi, loopF_exit (hn s hi)⟩
    | succ m ih =>
      intro k s hk hi
      obtain ⟨s', h1, h2⟩ := h k s (by omega) hi
      obtain ⟨s'', h3, h4⟩ := ih (k + 1) s' (by omega) h2
      exact ⟨s'', h3, by rw [loopF_step h1]; exact h4⟩
  exact key n 0 s0 (by omega) h0
theorem gd_set_ne {l : List D} {i j : Nat} {x : D} (h : i ≠ j) : gd (l.set i x) j = gd l j := by
  unfold gd
  rw [List.getD_eq_getElem?_getD, List.getD_eq_getElem?_getD, List.getElem?_set_ne h]
theorem upd_len {l : List D} {i j : Nat} {v : D} : (upd l i j v).length = l.length := by simp [upd]
theorem upd2_len {l : List D} {i j k : Nat} {v : D} : (upd2 l i j k v).length = l.length := by simp [upd2]
theorem upd_ne {l : List D} {i j m : Nat} {v : D} (h : i ≠ m) : gd (upd l i j v) m = gd l m := by unfold upd; exact gd_set_ne h
theorem upd2_ne {l : List D} {i j k m : Nat} {v : D} (h : i ≠ m) : gd (upd2 l i j k v) m = gd l m := by unfold upd2; exact gd_set_ne h
theorem gd_upd {l : List D} {i j : Nat} {v : D} (h : i < l.length) : gd (upd l i j v) i = (gd l i).setFld j v := by unfold upd; exact gd_set h
theorem gd_upd2 {l : List D} {i j k : Nat} {v : D} (h : i < l.length) : gd (upd2 l i j k v) i = (gd l i).setFld j (((gd l i).fld j).setFld k v) := by unfold upd2; exact gd_set h
theorem mark_gen {α : Type} {F : List D → Outc} {f : α → D} {xs : List α} {k0 : Int} (B : Int) (hB : 0 ≤ B) (hk0 : 0 ≤ k0)
    (hstep : ∀ (i : Nat) (hi : i < xs.length) (zs : List D) (k : Int), zs.length = xs.length → gd zs i = f xs[i] → 0 ≤ k → k ≤ k0 + i * B → ∃ (zs' : List D) (k' : Int), F [.lst zs, .int k, .int i] = some (0, [.lst zs', .int k', .int ((i + 1 : Nat) : Int)]) ∧ zs'.length = xs.length ∧ (∀ j, i < j → gd zs' j = gd zs j) ∧ 0 ≤ k' ∧ k' ≤ k + B)
    (hend : ∀ (zs : List D) (k : Int), zs.length = xs.length → F [.lst zs, .int k, .int xs.length] = some (1, [.lst zs, .int k])) :
    ∃ (zs : List D) (k : Int), 0 ≤ k ∧ k ≤ k0 + xs.length * B ∧ loopF F [.lst (xs.map f), .int k0, .int 0] = some (0, [.lst zs, .int k]) := by
  obtain ⟨s, hs, hloop⟩ := loop_inv (f := F) (l := [.lst (xs.map f), .int k0, .int 0]) (fun i (s : List D × Int) => [.lst s.1, .int s.2, .int i]) (fun i s => s.1.length = xs.length ∧ (∀ j (hj : j < xs.length), i ≤ j → gd s.1 j = f xs[j]) ∧ 0 ≤ s.2 ∧ s.2 ≤ k0 + i * B) xs.length (t := 0) (out := fun s => [.lst s.1, .int s.2]) (xs.map f, k0) rfl ⟨by simp, fun j hj _ => by rw [gd_lt (by simpa using hj)]; simp, hk0, by simp⟩ (by
    rintro i ⟨zs, k⟩ hi ⟨hzl, hzg, h0, h1⟩
    obtain ⟨zs', k', hF, hl', hn', h0', h1'⟩ := hstep i hi zs k hzl (hzg i hi (Nat.le_refl _)) h0 h1
    refine ⟨(zs', k'), hF, hl', fun j hj hij => ?_, h0', ?_⟩
    · exact (hn' j (by omega)).trans (hzg j hj (by omega))
    · simp only at h1 h1' ⊢
      have : ((i + 1 : Nat) : Int) * B = i * B + B := by rw [Int.natCast_add, Int.add_mul]; simp
      rw [this]; omega) (by
    rintro ⟨zs, k⟩ ⟨hzl, _⟩
    exact hend zs k hzl)
  exact ⟨s.1, s.2, hs.2.2.1, hs.2.2.2, hloop⟩
end Go.Own
namespace Go.Proofs.YtobighfemobgjaaGreatDoor
open Go Go.Own
theorem rn_bind0 {o : Outc} {l : List D} {A : Nat × List D → Outc} {B : Nat × List D → Nat → Outc} {R : Option D} (h : o = some (0, l)) (hk : rn (A (0, l)) = R) : rn (o.bind fun o => sel2 o.1 (A o) (B o)) = R := by
  rw [h]; exact hk
theorem w_succ {k : Int} (h0 : 0 ≤ k) (h1 : k ≤ 100000000000000000) : IntKind.wrap .i64 (k + 1) = k + 1 := wrap_id (by omega) (by omega)
theorem mulB {n : Nat} {B : Int} (hn : n ≤ lim) (h0 : 0 ≤ B) (h1 : B ≤ 20000000) : (n : Int) * B ≤ 1048576 * 20000000 ∧ 0 ≤ (n : Int) * B := by
  have hlim : lim = 1048576 := rfl
  constructor
  · exact Int.mul_le_mul (by omega) h1 h0 (by omega)
  · exact Int.mul_nonneg (by omega) h0
def Marks (e : List D → Option D) (d : D) : Prop := ∀ k : Int, 0 ≤ k → k ≤ 10000000000000000 → ∃ (k' : Int) (y : D), 0 ≤ k' ∧ k' ≤ k + 30000000000000 ∧ e [d, .int k] = some (.pair (.int k') (.pair y .unit))
def nd (l : List Int) : D := .lst (l.map .int)
theorem gd_nd {l : List Int} {i : Nat} (h : i < l.length) : gd (l.map D.int) i = .int l[i] := by
  rw [gd_lt (by simpa using h)]; simp
def Run (zs : List D) (k : Int) (n : Nat) : Prop := zs.length = n ∧ ∀ j, j < n → gd zs j = .int (k + j)
end Go.Proofs.YtobighfemobgjaaGreatDoor
namespace Go.Own
open Go
theorem rise_eq : ∀ {l m : List Int}, l.Pairwise (· < ·) → m.Pairwise (· < ·) → (∀ x, x ∈ l ↔ x ∈ m) → l = m
  | [], [], _, _, _ => rfl
  | [], b :: m, _, _, h => absurd ((h b).2 (by simp)) (by simp)
  | a :: l, [], _, _, h => absurd ((h a).1 (by simp)) (by simp)
  | a :: l, b :: m, h1, h2, h => by
    rw [List.pairwise_cons] at h1 h2
    have hab : a = b := by
      have ha := (h a).1 (by simp)
      have hb := (h b).2 (by simp)
      simp only [List.mem_cons] at ha hb
      rcases ha with ha | ha
      · exact ha
      · rcases hb with hb | hb
        · exact hb.symm
        · have := h2.1 a ha; have := h1.1 b hb; omega
    subst hab
    congr 1
    refine rise_eq h1.2 h2.2 fun x => ?_
    have hx := h x
    simp only [List.mem_cons] at hx
    constructor
    · intro hm
      rcases hx.1 (.inr hm) with h' | h'
      · have := h1.1 x hm; omega
      · exact h'
    · intro hm
      rcases hx.2 (.inr hm) with h' | h'
      · have := h2.1 x hm; omega
      · exact h'
theorem compact_facts {zs : List Int} (hs : zs.Pairwise (· ≤ ·)) : (Lib.compact zs).Pairwise (· < ·) ∧ ∀ x, x ∈ Lib.compact zs ↔ x ∈ zs := by
  have le : ∀ i j, i ≤ j → j < zs.length → zs.toArray[i]! ≤ zs.toArray[j]! := by
    intro i j hij hj
    rw [getElem!_pos _ i (by simp; omega), getElem!_pos _ j (by simpa using hj)]
    simp only [List.getElem_toArray]
    by_cases h : i = j
    · subst h; exact Int.le_refl _
    · exact List.pairwise_iff_getElem.1 hs i j (by omega) hj (by omega)
  have key : ∀ m, m ≤ zs.length → (Lib.compactUpTo zs.toArray m).Pairwise (· < ·) ∧ ∀ x, x ∈ Lib.compactUpTo zs.toArray m ↔ ∃ j, j < m ∧ zs.toArray[j]! = x := by
    intro m
    induction m with
    | zero => intro _; exact ⟨by simp [Lib.compactUpTo], by simp [Lib.compactUpTo]⟩
    | succ m ih =>
      intro hm
      obtain ⟨h1, h2⟩ := ih (by omega)
      rw [Lib.compactUpTo_succ]
      by_cases hk : Lib.keeps zs.toArray m = true
      · rw [if_pos hk]
        refine ⟨List.pairwise_append.2 ⟨h1, by simp, ?_⟩, fun x => ?_⟩
        · intro a ha b hb
          simp only [List.mem_singleton] at hb
          subst hb
          obtain ⟨j, hj, rfl⟩ := (h2 a).1 ha
          have hm0 : m ≠ 0 := by omega
          have hne : zs.toArray[m]! ≠ zs.toArray[m - 1]! := by
            simpa [Lib.keeps, hm0] using hk
          have e1 := le j (m - 1) (by omega) (by omega)
          have e2 := le (m - 1) m (by omega) (by omega)
          omega
        · rw [List.mem_append, h2]
          constructor
          · rintro (⟨j, hj, e⟩ | hx)
            · exact ⟨j, by omega, e⟩
            · simp only [List.mem_singleton] at hx; exact ⟨m, by omega, hx.symm⟩
          · rintro ⟨j, hj, e⟩
            by_cases hjm : j = m
            · subst hjm; right; simp [e]
            · exact .inl ⟨j, by omega, e⟩
      · rw [if_neg hk]
        refine ⟨by simpa using h1, fun x => ?_⟩
        rw [List.append_nil, h2]
        constructor
        · rintro ⟨j, hj, e⟩; exact ⟨j, by omega, e⟩
        · rintro ⟨j, hj, e⟩
          by_cases hjm : j = m
          · subst hjm
            have h3 : j ≠ 0 ∧ zs.toArray[j]! = zs.toArray[j - 1]! := by
              simpa [Lib.keeps] using hk
            exact ⟨j - 1, by omega, by rw [← h3.2]; exact e⟩
          · exact ⟨j, by omega, e⟩
  obtain ⟨h1, h2⟩ := key zs.length (Nat.le_refl _)
  refine ⟨h1, fun x => ?_⟩
  unfold Lib.compact
  rw [h2]
  constructor
  · rintro ⟨j, hj, rfl⟩
    rw [getElem!_pos _ j (by simpa using hj)]; simp
  · intro hx
    obtain ⟨j, hj, rfl⟩ := List.getElem_of_mem hx
    exact ⟨j, hj, by rw [getElem!_pos _ j (by simpa using hj)]; simp⟩
def upTo (n : Nat) (q : Int → Bool) : List Int := ((List.range n).map Int.ofNat).filter q
theorem upTo_succ (n : Nat) (q : Int → Bool) : upTo (n + 1) q = upTo n q ++ if q n then [(n : Int)] else [] := by
  unfold upTo
  rw [List.range_succ, List.map_append, List.filter_append]
  cases h : q (n : Int) <;> simp [h]
theorem mem_upTo {n : Nat} {q : Int → Bool} {x : Int} : x ∈ upTo n q ↔ (0 ≤ x ∧ x < n) ∧ q x = true := by
  unfold upTo
  simp only [List.mem_filter, List.mem_map, List.mem_range]
  constructor
  · rintro ⟨⟨a, ha, rfl⟩, h⟩; exact ⟨⟨by simp, by simpa using ha⟩, h⟩
  · rintro ⟨⟨h0, h1⟩, h⟩; exact ⟨⟨x.toNat, by omega, by simp; omega⟩, h⟩
theorem upTo_rise (n : Nat) (q : Int → Bool) : (upTo n q).Pairwise (· < ·) := by
  unfold upTo
  refine List.Pairwise.filter _ ?_
  rw [List.pairwise_map]
  exact List.pairwise_lt_range.imp fun h => by simpa using h
theorem upTo_len (n : Nat) (q : Int → Bool) : (upTo n q).length ≤ n := by
  unfold upTo
  exact Nat.le_trans (List.length_filter_le _ _) (by simp)
theorem compact_sort {zs : List Int} {n : Nat} (h : ∀ z ∈ zs, 0 ≤ z ∧ z < n) : Lib.compact (zs.mergeSort fun x y => decide (x ≤ y)) = upTo n fun x => zs.any (· == x) := by
  have hp := List.mergeSort_perm zs fun x y => decide (x ≤ y)
  have hs : (zs.mergeSort fun x y => decide (x ≤ y)).Pairwise (· ≤ ·) := by
    have := List.pairwise_mergeSort (le := fun x y : Int => decide (x ≤ y)) (fun a b c h1 h2 => by simp at *; omega) (fun a b => by simp; omega) zs
    exact this.imp fun h => by simpa using h
  obtain ⟨h1, h2⟩ := compact_facts hs
  refine rise_eq h1 (upTo_rise _ _) fun x => ?_
  rw [h2, hp.mem_iff, mem_upTo]
  constructor
  · intro hx; exact ⟨h x hx, by simpa using hx⟩
  · rintro ⟨_, hx⟩; simpa using hx
end Go.Own
namespace Go.Proofs.YtobighfemobgjaaGreatDoor
open Go Go.Own
theorem gd_t {xs : List Target} {i : Nat} (h : i < xs.length) : gd (xs.map Target.d) i = xs[i].d := gd_ts h
theorem f_l1Has {l : List Int} {g : Int} (hl : l.length ≤ smax) : e_spec_l1Has.F [nd l, .int g] = some (.bool (l.any (· == g))) := by
  rw [q_spec_l1Has]
  unfold nd
  rcases loop_find (f := fun l2 =>
      if (decide ((gd l2 0).i < (((D.lst (l.map D.int)).l.length : Nat) : Int))) then
        if (inb (gd l2 0).i (D.lst (l.map D.int)).l.length) then
        if ((gd (D.lst (l.map D.int)).l (gd l2 0).i.toNat).i == (D.int g).i) then
          ou 1 [(.bool true)]
        else
          ou 0 [(.int (IntKind.wrap .i64 ((gd l2 0).i + 1)))]
        else none
      else
        ou 2 []) (l := [.int 0]) (fun i => [.int i]) l.length (fun i => !(l.getD i 0 == g)) (t1 := 0) (t2 := 1) (o1 := fun _ => [.bool true]) (o2 := []) rfl
    (by intro i hi hp
        have h2 : ¬ l[i] = g := by simpa [hi] using hp
        simp [hi, gd_nd hi, inb_nat hi, wrap_succ hi hl, h2])
    (by intro i hi hp
        have h2 : l[i] = g := by simpa [hi] using hp
        simp [hi, gd_nd hi, inb_nat hi, h2])
    (by simp) with ⟨ha, hloop⟩ | ⟨k, hk, hp, _, hloop⟩
  · refine rn_bind hloop ?_
    have : l.any (· == g) = false := by
      rw [List.any_eq_false]
      intro x hx
      obtain ⟨i, hi, rfl⟩ := List.getElem_of_mem hx
      have := ha i hi
      simpa [hi] using this
    rw [this]; rfl
  · refine rn_bind hloop ?_
    have : l.any (· == g) = true := by
      rw [List.any_eq_true]
      exact ⟨l[k], List.getElem_mem hk, by simpa [hk] using hp⟩
    rw [this]; rfl
def Policy.has (p : Policy) (g : Int) : Bool := p.ts.any (·.group == g)
def Policy.grp (p : Policy) : List Int := upTo 10 p.has
theorem appOk1 {l : List D} {x : D} (h : l.length ≤ 1048576) : appOk 8 l [x] = true := by
  unfold appOk
  have : smax = 9223372036854775807 := rfl
  simp only [List.length_cons, List.length_nil, this]
  simp only [Bool.and_eq_true, decide_eq_true_eq]
  omega
theorem f_l14Groups {p : Policy} (hp : p.ts.length ≤ lim) : e_spec_l14Groups.F [p.d] = some (nd p.grp) := by
  have hlim : lim = 1048576 := rfl
  have hsm : p.ts.length ≤ smax := Nat.le_trans hp lim_smax
  have f1 : p.d.fld 1 = .lst (p.ts.map Target.d) := rfl
  rw [q_spec_l14Groups, f1]
  refine rn_bind (loop_for' (fun i (l : List Int) => [nd l, .int i]) 10 (fun i => upTo i p.has) (t := 0) (o := [nd p.grp]) rfl ?_ (by simp [Policy.grp])) rfl
  intro g hg
  have e0 : gd [nd (upTo g p.has), D.int (g : Int)] 0 = nd (upTo g p.has) := rfl
  have e1 : gd [nd (upTo g p.has), D.int (g : Int)] 1 = .int g := rfl
  have hgl := upTo_len g p.has
  have hgw : IntKind.wrap .i64 ((g : Int) + 1) = ((g + 1 : Nat) : Int) := by rw [wrap_id] <;> omega
  refine out_if (by rw [e1]; exact decide_eq_true (by rw [D.i_int]; omega)) ?_
  have hin : ∀ i (l : List Int), l = upTo g p.has ++ (if (p.ts.take i).any (·.group == (g : Int)) then [(g : Int)] else []) → l.length ≤ 11 ∧ l.any (· == (g : Int)) = (p.ts.take i).any (·.group == (g : Int)) := by
    rintro i l rfl
    refine ⟨by split <;> simp <;> omega, ?_⟩
    have hno : (upTo g p.has).any (· == (g : Int)) = false := by
      rw [List.any_eq_false]
      intro x hx
      have := (mem_upTo.1 hx).1.2
      simp; omega
    rw [List.any_append, hno, Bool.false_or]
    cases h : (p.ts.take i).any (·.group == (g : Int)) <;> simp [h]
  refine out_bind (loop_for' (fun i (l : List Int) => [nd l, .int i]) p.ts.length (fun i => upTo g p.has ++ if (p.ts.take i).any (·.group == (g : Int)) then [(g : Int)] else []) (t := 0) (o := [nd (upTo (g + 1) p.has)]) (by simp [e0]) ?_ ?_) ?_
  · intro i hi
    obtain ⟨hl1, hl2⟩ := hin i _ rfl
    have htk : (p.ts.take (i + 1)).any (·.group == (g : Int)) = ((p.ts.take i).any (·.group == (g : Int)) || p.ts[i].group == (g : Int)) := by
      rw [List.take_add_one, List.any_append, List.getElem?_eq_getElem hi]
      simp
    generalize hL : (upTo g p.has ++ if (p.ts.take i).any (·.group == (g : Int)) then [(g : Int)] else []) = L at hl1 hl2
    have k0 : gd [nd L, D.int (i : Int)] 0 = nd L := rfl
    have k1 : gd [nd L, D.int (i : Int)] 1 = .int i := rfl
    have hs := f_l1Has (l := L) (g := g) (by have : smax = 9223372036854775807 := rfl; omega)
    have fg : p.ts[i].d.fld 2 = .int p.ts[i].group := rfl
    simp only [k0, k1, e1, D.l_lst, D.i_int, Int.toNat_natCast, gd_t hi, fg, List.length_map, wrap_succ hi hsm]
    refine out_if (decide_eq_true (by omega)) ?_
    by_cases hgi : p.ts[i].group = (g : Int)
    · rw [hl2] at hs
      cases hb : (p.ts.take i).any (·.group == (g : Int)) with
      | true =>
        rw [hb] at hs
        refine out_bind (r := (0, [nd L])) (out_if (inb_nat hi) (out_bind (r := (0, [.bool false])) (out_if (by simp [hgi]) (out_call hs rfl)) rfl)) ?_
        rw [htk, hb, Bool.true_or, ← hL, hb]
        rfl
      | false =>
        rw [hb] at hs
        refine out_bind (r := (0, [nd (L ++ [(g : Int)])])) (out_if (inb_nat hi) (out_bind (r := (0, [.bool true])) (out_if (by simp [hgi]) (out_call hs rfl)) (out_if (appOk1 (by simp [nd]; omega)) (by simp [nd])))) ?_
        rw [htk, hb, Bool.false_or, hgi]
        rw [← hL, hb]
        simp [nd]
    · refine out_bind (r := (0, [nd L])) (out_if (inb_nat hi) (out_bind (r := (0, [.bool false])) (out_else (by simp [hgi]) rfl) rfl)) ?_
      rw [htk]
      have : (p.ts[i].group == (g : Int)) = false := by simp [hgi]
      rw [this, Bool.or_false, hL]
      rfl
  · rw [List.take_length, upTo_succ]
    exact out_else (by simp) rfl
  · simp only [hgw, e1, D.i_int]
    rfl
end Go.Proofs.YtobighfemobgjaaGreatDoor
namespace Go.Proofs.YtobighfemobgjaaGreatDoor
open Go Go.Own
theorem map_i (l : List Int) : (l.map D.int).map D.i = l := by simp [Function.comp_def]
theorem f_groupsIn {p : Policy} (hp : p.In lim) (hg : p.good = true) : e_impl_groupsIn.F [p.d] = some (nd p.grp) := by
  have hlim : lim = 1048576 := rfl
  have hsm : p.ts.length ≤ smax := Nat.le_trans hp.len lim_smax
  have f1 : p.d.fld 1 = .lst (p.ts.map Target.d) := rfl
  have hg' : 1 ≤ p.ts.length ∧ p.ts.length ≤ 12 ∧ ∀ t ∈ p.ts, 0 ≤ t.group ∧ t.group ≤ 9 := by
    simp only [Policy.good, Bool.and_eq_true, inP, decide_eq_true_eq, List.all_eq_true, Target.ok] at hg
    refine ⟨by omega, by omega, fun t ht => ?_⟩
    have := hg.2.2 t ht
    exact ⟨this.2.2.1.1, this.2.2.1.2⟩
  rw [q_impl_groupsIn, f1]
  refine rn_bind (loop_for' (fun i (l : List Int) => [nd l, .int i]) p.ts.length (fun i => (p.ts.take i).map (·.group)) (t := 0) (o := [nd (p.ts.map (·.group))]) rfl ?_ ?_) ?_
  · intro i hi
    have hl : ((p.ts.take i).map (·.group)).length = i := by simp; omega
    generalize hL : (p.ts.take i).map (·.group) = L at hl
    have k0 : gd [nd L, D.int (i : Int)] 0 = nd L := rfl
    have k1 : gd [nd L, D.int (i : Int)] 1 = .int i := rfl
    have fg : p.ts[i].d.fld 2 = .int p.ts[i].group := rfl
    simp only [k0, k1, D.l_lst, D.i_int, Int.toNat_natCast, gd_t hi, fg, List.length_map, wrap_succ hi hsm]
    refine out_if (decide_eq_true (by omega)) (out_if (inb_nat hi) (out_if (appOk1 (by simp [nd]; omega)) ?_))
    have : (p.ts.take (i + 1)).map (·.group) = L ++ [p.ts[i].group] := by
      rw [List.take_add_one, List.map_append, hL, List.getElem?_eq_getElem hi]; rfl
    rw [this]
    simp [nd]
  · rw [List.take_length]
    exact out_else (by simp) rfl
  · have hne : (nd (p.ts.map (·.group))).l ≠ [] := by
      simp only [nd, D.l_lst, ne_eq, List.map_eq_nil_iff]
      intro h; rw [h] at hg'; simp at hg'
    have h1 : e_slices_Sort_int_int.F [nd (p.ts.map (·.group))] = some (.pair .unit (.pair (nd ((p.ts.map (·.group)).mergeSort fun x y => decide (x ≤ y))) .unit)) := by
      rw [show e_slices_Sort_int_int.F = sortF from rfl]
      unfold sortF
      refine (if_pos ⟨hne, by simp [nd]; omega⟩).trans ?_
      simp only [sortL, nd, D.l_lst, map_i]
    have h2 : e_slices_Compact_int_int.F [nd ((p.ts.map (·.group)).mergeSort fun x y => decide (x ≤ y))] = some (nd p.grp) := by
      rw [show e_slices_Compact_int_int.F = compactF from rfl]
      unfold compactF
      refine (if_pos ?_).trans ?_
      · simp only [nd, D.l_lst, ne_eq, List.map_eq_nil_iff]
        intro h
        have := congrArg List.length h
        simp [List.length_mergeSort] at this
        rw [this] at hg'; simp at hg'
      · simp only [nd, D.l_lst, map_i]
        rw [compact_sort (n := 10) (by
          intro z hz
          obtain ⟨t, ht, rfl⟩ := List.mem_map.1 hz
          have := hg'.2.2 t ht
          omega)]
        have : (fun x => (p.ts.map (·.group)).any (· == x)) = p.has := by
          funext x
          simp [Policy.has, List.any_map, Function.comp_def]
        rw [this]
        rfl
    exact rn_call h1 (rn_call h2 rfl)
def Health.well (h : Health) (s : List UInt8) : Bool := match h.hosts.find? (·.name == s) with
  | some x => x.up
  | none => true
theorem find_first {α : Type} {l : List α} {q : α → Bool} {k : Nat} (hk : k < l.length) (h : q l[k] = true) (hn : ∀ i (hi : i < l.length), i < k → q l[i] = false) : l.find? q = some l[k] := by
  rw [List.find?_eq_some_iff_getElem]
  exact ⟨h, k, hk, rfl, fun j hj => by simp [hn j (by omega) hj]⟩
theorem f_isWell {h : Health} (hl : h.hosts.length ≤ lim) (t : Target) : e_impl_isWell.F [h.d, t.d] = some (.bool (h.well t.host)) := by
  have hsm : h.hosts.length ≤ smax := Nat.le_trans hl lim_smax
  have f2 : h.d.fld 2 = .lst (h.hosts.map Host.d) := rfl
  have g0 : t.d.fld 0 = .str t.host := rfl
  have key : ∃ n : Int, e_impl_Health_findHost.F [h.d, .str t.host] = some (.int n) ∧ ((n < 0 ∧ h.well t.host = true) ∨ ∃ k, ∃ hk : k < h.hosts.length, n = k ∧ h.well t.host = h.hosts[k].up) := by
    have k1 : ∀ i (hi : i < h.hosts.length), e_impl_Health_findHost_1.F [h.hosts[i].d, .str t.host] = some (.bool (h.hosts[i].name == t.host)) := by
      intro i hi
      rw [q_impl_Health_findHost_1]; rfl
    rw [q_impl_Health_findHost, f2]
    have kf : (D.pair (.str t.host) .unit).fld 0 = .str t.host := rfl
    have ki : ∃ n : Int, e_slices_IndexFunc_impl_Host_impl_Host__impl_Health_findHost_1.F [.lst (h.hosts.map Host.d), .pair (.str t.host) .unit] = some (.int n) ∧ ((n < 0 ∧ h.well t.host = true) ∨ ∃ k, ∃ hk : k < h.hosts.length, n = k ∧ h.well t.host = h.hosts[k].up) := by
      rw [q_slices_IndexFunc_impl_Host_impl_Host__impl_Health_findHost_1]
      rcases loop_find (f := fun l2 =>
          if (decide ((gd l2 0).i < (((D.lst (h.hosts.map Host.d)).l.length : Nat) : Int))) then
            if (inb (gd l2 0).i (D.lst (h.hosts.map Host.d)).l.length) then
            (e_impl_Health_findHost_1.F [(gd (D.lst (h.hosts.map Host.d)).l (gd l2 0).i.toNat), ((D.pair (.str t.host) .unit).fld 0)]).bind fun r3 =>
            if r3.b then
              ou 1 [(gd l2 0)]
            else
              ou 0 [(.int (IntKind.wrap .i64 ((gd l2 0).i + 1)))]
            else none
          else
            ou 2 []) (l := [.int 0]) (fun i => [.int i]) h.hosts.length (fun i => !((h.hosts.getD i ⟨[], false, 0⟩).name == t.host)) (t1 := 0) (t2 := 1) (o1 := fun i => [.int i]) (o2 := []) rfl
        (by intro i hi hp
            have h2 : (h.hosts[i].name == t.host) = false := by simpa [hi] using hp
            have k1' := k1 i hi
            rw [h2] at k1'
            simp [hi, gd_hosts hi, inb_nat hi, wrap_succ hi hsm, kf, k1'])
        (by intro i hi hp
            have h2 : (h.hosts[i].name == t.host) = true := by simpa [hi] using hp
            have k1' := k1 i hi
            rw [h2] at k1'
            simp [hi, gd_hosts hi, inb_nat hi, kf, k1'])
        (by simp) with ⟨ha, hloop⟩ | ⟨k, hk, hp, hn, hloop⟩
      · refine ⟨-1, rn_bind hloop rfl, .inl ⟨by decide, ?_⟩⟩
        have : h.hosts.find? (·.name == t.host) = none := by
          rw [List.find?_eq_none]
          intro x hx
          obtain ⟨i, hi, rfl⟩ := List.getElem_of_mem hx
          have := ha i hi
          simpa [hi] using this
        simp [Health.well, this]
      · refine ⟨k, rn_bind hloop rfl, .inr ⟨k, hk, rfl, ?_⟩⟩
        have : h.hosts.find? (·.name == t.host) = some h.hosts[k] := find_first hk (by simpa [hk] using hp) (fun i hi hik => by have := hn i hik; simpa [hi] using this)
        simp [Health.well, this]
    obtain ⟨n, h1, h2⟩ := ki
    exact ⟨n, rn_call h1 rfl, h2⟩
  obtain ⟨n, h1, h2⟩ := key
  rw [q_impl_isWell, g0, f2]
  refine rn_call h1 (rn_bind (r := (0, [.bool (h.well t.host)])) ?_ rfl)
  rcases h2 with ⟨hn, hw⟩ | ⟨k, hk, rfl, hw⟩
  · rw [hw]; exact out_if (decide_eq_true hn) rfl
  · rw [hw]
    refine out_else (fun hh => absurd (of_decide_eq_true hh) (by rw [D.i_int]; omega)) (out_if (inb_nat (by simpa using hk)) ?_)
    simp only [D.i_int, Int.toNat_natCast, D.l_lst, gd_hosts hk]
    rfl
theorem f_IsUp {h : Health} (hf : h.Fit) (hl : h.hosts.length ≤ lim) (hg : h.good = true) (s : List UInt8) : ∃ a b : Bool, e_spec_IsUp.F [h.d, .str s] = some (.pair (.bool a) (.pair (.bool b) .unit)) ∧ (a || !b) = h.well s := by
  have hsm : h.hosts.length ≤ smax := Nat.le_trans hl lim_smax
  have f2 : h.d.fld 2 = .lst (h.hosts.map Host.d) := rfl
  have h1 := f_specGoodHealth h hf
  rw [hg] at h1
  rw [q_spec_IsUp, f2]
  rcases loop_find (f := fun l3 =>
        if (decide ((gd l3 0).i < (((D.lst (h.hosts.map Host.d)).l.length : Nat) : Int))) then
          if (inb (gd l3 0).i (D.lst (h.hosts.map Host.d)).l.length) then
          if (((gd (D.lst (h.hosts.map Host.d)).l (gd l3 0).i.toNat).fld 0).s == (D.str s).s) then
            ou 1 [((gd (D.lst (h.hosts.map Host.d)).l (gd l3 0).i.toNat).fld 1), (.bool true)]
          else
            ou 0 [(.int (IntKind.wrap .i64 ((gd l3 0).i + 1)))]
          else none
        else
          ou 2 []) (l := [.int 0]) (fun i => [.int i]) h.hosts.length (fun i => !((h.hosts.getD i ⟨[], false, 0⟩).name == s)) (t1 := 0) (t2 := 1) (o1 := fun i => [.bool (h.hosts.getD i ⟨[], false, 0⟩).up, .bool true]) (o2 := []) rfl
      (by intro i hi hp
          have h2 : ¬ h.hosts[i].name = s := by simpa [hi] using hp
          have hd : h.hosts[i].d.fst.s = h.hosts[i].name := rfl
          simp [hi, gd_hosts hi, inb_nat hi, wrap_succ hi hsm, hd, h2])
      (by intro i hi hp
          have h2 : h.hosts[i].name = s := by simpa [hi] using hp
          have hd : h.hosts[i].d.fst.s = h.hosts[i].name := rfl
          have hd1 : h.hosts[i].d.snd.fst = .bool h.hosts[i].up := rfl
          simp [hi, gd_hosts hi, inb_nat hi, hd, hd1, h2])
      (by simp) with ⟨ha, hloop⟩ | ⟨k, hk, hp, hn, hloop⟩
  · refine ⟨false, false, rn_call h1 (rn_else (by simp) (rn_bind hloop rfl)), ?_⟩
    have : h.hosts.find? (·.name == s) = none := by
      rw [List.find?_eq_none]
      intro x hx
      obtain ⟨i, hi, rfl⟩ := List.getElem_of_mem hx
      have := ha i hi
      simpa [hi] using this
    simp [Health.well, this]
  · refine ⟨_, true, rn_call h1 (rn_else (by simp) (rn_bind hloop rfl)), ?_⟩
    have : h.hosts.find? (·.name == s) = some h.hosts[k] := find_first hk (by simpa [hk] using hp) (fun i hi hik => by have := hn i hik; simpa [hi] using this)
    simp [Health.well, this, hk]
theorem f_l14Well {h : Health} (hf : h.Fit) (hl : h.hosts.length ≤ lim) (hg : h.good = true) (s : List UInt8) : e_spec_l14Well.F [h.d, .str s] = some (.bool (h.well s)) := by
  obtain ⟨a, b, h1, h2⟩ := f_IsUp hf hl hg s
  rw [q_spec_l14Well]
  refine rn_call h1 (rn_bind (r := (0, [.bool (h.well s)])) ?_ rfl)
  rw [← h2]
  cases a with
  | true => exact out_if rfl rfl
  | false => exact out_else (by simp [D.fld]) rfl
end Go.Proofs.YtobighfemobgjaaGreatDoor
namespace Go.Proofs.YtobighfemobgjaaGreatDoor
open Go Go.Own
def Target.fit (h : Health) (g : Int) (t : Target) : Bool := t.group == g && h.well t.host
def Policy.anyWell (p : Policy) (h : Health) (g : Int) : Bool := p.ts.any (Target.fit h g)
def Policy.group (p : Policy) (h : Health) : Int := (p.grp.find? (p.anyWell h)).getD (p.grp.getD 0 0)
theorem Policy.grp_ne {p : Policy} (hg : p.good = true) : p.grp ≠ [] := by
  simp only [Policy.good, Bool.and_eq_true, inP, decide_eq_true_eq, List.all_eq_true, Target.ok] at hg
  have h0 : 0 < p.ts.length := by omega
  have ht := List.getElem_mem h0
  have h1 := (hg.2.2 _ ht).2.2.1
  have : p.ts[0].group ∈ p.grp := mem_upTo.2 ⟨⟨h1.1, by omega⟩, by
    simp only [Policy.has, List.any_eq_true]
    exact ⟨_, ht, by simp⟩⟩
  intro h
  rw [h] at this; cases this
theorem any_idx {α : Type} {l : List α} {q : α → Bool} (d : α) : (∀ i, i < l.length → (!(q (l.getD i d))) = true) → l.any q = false := by
  intro h
  rw [List.any_eq_false]
  intro x hx
  obtain ⟨i, hi, rfl⟩ := List.getElem_of_mem hx
  have := h i hi
  simpa [hi] using this
theorem pick_none {l : List Int} {q : Int → Bool} (h : ∀ i, i < l.length → (!(q (l.getD i 0))) = true) : (l.find? q).getD (l.getD 0 0) = l.getD 0 0 := by
  have : l.find? q = none := by
    rw [List.find?_eq_none]
    intro x hx
    obtain ⟨i, hi, rfl⟩ := List.getElem_of_mem hx
    have := h i hi
    simpa [hi] using this
  rw [this]; rfl
theorem pick_some {l : List Int} {q : Int → Bool} {k : Nat} (hk : k < l.length) (hp : (!(q (l.getD k 0))) = false) (hn : ∀ i, i < k → (!(q (l.getD i 0))) = true) : (l.find? q).getD (l.getD 0 0) = l[k] := by
  rw [find_first hk (by simpa [hk] using hp) (fun i hi hik => by have := hn i hik; simpa [hi] using this)]
  rfl
theorem f_anyWell {p : Policy} {h : Health} (hp : p.ts.length ≤ lim) (hl : h.hosts.length ≤ lim) (g : Int) : e_slices_ContainsFunc_impl_Target_impl_Target__impl_groupOf_1.F [.lst (p.ts.map Target.d), .pair (.int g) (.pair h.d .unit)] = some (.bool (p.anyWell h g)) := by
  have hsm : p.ts.length ≤ smax := Nat.le_trans hp lim_smax
  have k1 : ∀ t : Target, e_impl_groupOf_1.F [t.d, .int g, h.d] = some (.bool (t.fit h g)) := by
    intro t
    have e2 : (t.d.fld 2).i = t.group := rfl
    have hw := f_isWell hl t
    rw [q_impl_groupOf_1, e2]
    refine rn_bind (r := (0, [.bool (t.fit h g)])) ?_ rfl
    unfold Target.fit
    cases hb : t.group == g with
    | true => exact out_if hb (out_call hw rfl)
    | false => exact out_else (by show ¬ ((t.group == g) = true); rw [hb]; simp) rfl
  have g0 : (D.pair (.int g) (.pair h.d .unit)).fld 0 = .int g := rfl
  have g1 : (D.pair (.int g) (.pair h.d .unit)).fld 1 = h.d := rfl
  rw [q_slices_ContainsFunc_impl_Target_impl_Target__impl_groupOf_1]
  have key : ∃ n : Int, e_slices_IndexFunc_impl_Target_impl_Target__impl_groupOf_1.F [.lst (p.ts.map Target.d), .pair (.int g) (.pair h.d .unit)] = some (.int n) ∧ decide (n ≥ 0) = p.anyWell h g := by
    rw [q_slices_IndexFunc_impl_Target_impl_Target__impl_groupOf_1, g0, g1]
    rcases loop_find (f := fun l2 =>
      if (decide ((gd l2 0).i < (((D.lst (p.ts.map Target.d)).l.length : Nat) : Int))) then
        if (inb (gd l2 0).i (D.lst (p.ts.map Target.d)).l.length) then
        (e_impl_groupOf_1.F [(gd (D.lst (p.ts.map Target.d)).l (gd l2 0).i.toNat), (.int g), h.d]).bind fun r3 =>
        if r3.b then
          ou 1 [(gd l2 0)]
        else
          ou 0 [(.int (IntKind.wrap .i64 ((gd l2 0).i + 1)))]
        else none
      else
        ou 2 []) (l := [.int 0]) (fun i => [.int i]) p.ts.length (fun i => !(Target.fit h g (p.ts.getD i ⟨[], [], 0, 0⟩))) (t1 := 0) (t2 := 1) (o1 := fun i => [.int i]) (o2 := []) rfl
      (by intro i hi hp
          have h2 : (Target.fit h g p.ts[i]) = false := by simpa [hi] using hp
          have k1' := k1 p.ts[i]
          rw [h2] at k1'
          simp [hi, gd_t hi, inb_nat hi, wrap_succ hi hsm, k1'])
      (by intro i hi hp
          have h2 : (Target.fit h g p.ts[i]) = true := by simpa [hi] using hp
          have k1' := k1 p.ts[i]
          rw [h2] at k1'
          simp [hi, gd_t hi, inb_nat hi, k1'])
      (by simp) with ⟨ha, hloop⟩ | ⟨k, hk, hp, _, hloop⟩
    · exact ⟨-1, rn_bind hloop rfl, by rw [Policy.anyWell, any_idx _ ha]; rfl⟩
    · refine ⟨k, rn_bind hloop rfl, ?_⟩
      have : p.anyWell h g = true := by
        rw [Policy.anyWell, List.any_eq_true]
        exact ⟨p.ts[k], List.getElem_mem hk, by simpa [hk] using hp⟩
      rw [this]; simp
  obtain ⟨n, h1, h2⟩ := key
  exact rn_call h1 (by rw [← h2]; rfl)
theorem f_groupOf {p : Policy} {h : Health} (hp : p.In lim) (hl : h.hosts.length ≤ lim) (hg : p.good = true) : e_impl_groupOf.F [p.d, h.d] = some (.int (p.group h)) := by
  have f1 : p.d.fld 1 = .lst (p.ts.map Target.d) := rfl
  have hgl : p.grp.length ≤ 10 := upTo_len _ _
  have hsm : p.grp.length ≤ smax := by have : smax = 9223372036854775807 := rfl; omega
  have hne := Policy.grp_ne hg
  have hpos : 0 < p.grp.length := List.length_pos_iff.2 hne
  rw [q_impl_groupOf, f1]
  refine rn_call (f_groupsIn hp hg) ?_
  rcases loop_find (f := fun l3 =>
      if (decide ((gd l3 0).i < (((nd p.grp).l.length : Nat) : Int))) then
        if (inb (gd l3 0).i (nd p.grp).l.length) then
        (e_slices_ContainsFunc_impl_Target_impl_Target__impl_groupOf_1.F [.lst (p.ts.map Target.d), (.pair (gd (nd p.grp).l (gd l3 0).i.toNat) (.pair h.d .unit))]).bind fun r4 =>
        if r4.b then
          ou 1 [(gd (nd p.grp).l (gd l3 0).i.toNat)]
        else
          ou 0 [(.int (IntKind.wrap .i64 ((gd l3 0).i + 1)))]
        else none
      else
        ou 2 []) (l := [.int 0]) (fun i => [.int i]) p.grp.length (fun i => !(p.anyWell h (p.grp.getD i 0))) (t1 := 0) (t2 := 1) (o1 := fun i => [.int (p.grp.getD i 0)]) (o2 := []) rfl
      (by intro i hi hpp
          have h2 : p.anyWell h p.grp[i] = false := by simpa [hi] using hpp
          have k1 := f_anyWell (p := p) hp.len hl p.grp[i]
          rw [h2] at k1
          simp [hi, nd, gd_nd hi, inb_nat hi, wrap_succ hi hsm, k1])
      (by intro i hi hpp
          have h2 : p.anyWell h p.grp[i] = true := by simpa [hi] using hpp
          have k1 := f_anyWell (p := p) hp.len hl p.grp[i]
          rw [h2] at k1
          simp [hi, nd, gd_nd hi, inb_nat hi, k1])
      (by simp [nd]) with ⟨ha, hloop⟩ | ⟨k, hk, hpk, hn, hloop⟩
  · refine rn_bind hloop (rn_if (inb_nat (by simpa [nd] using hpos)) ?_)
    rw [Policy.group, pick_none ha]
    have : gd (nd p.grp).l 0 = .int (p.grp.getD 0 0) := by
      simp only [nd, D.l_lst]
      rw [gd_nd hpos]; simp [hpos]
    rw [this]; rfl
  · refine rn_bind hloop ?_
    rw [Policy.group, pick_some hk hpk hn]
    simp [hk]
theorem f_l14Group {p : Policy} {h : Health} (hp : p.In lim) (hf : h.Fit) (hl : h.hosts.length ≤ lim) (hh : h.good = true) (hg : p.good = true) : e_spec_l14Group.F [p.d, h.d] = some (.int (p.group h)) := by
  have f1 : p.d.fld 1 = .lst (p.ts.map Target.d) := rfl
  have hsmt : p.ts.length ≤ smax := Nat.le_trans hp.len lim_smax
  have hgl : p.grp.length ≤ 10 := upTo_len _ _
  have hsm : p.grp.length ≤ smax := by have : smax = 9223372036854775807 := rfl; omega
  have hne := Policy.grp_ne hg
  have hpos : 0 < p.grp.length := List.length_pos_iff.2 hne
  rw [q_spec_l14Group, f1]
  have hgr := f_l14Groups hp.len
  refine rn_call hgr ?_
  have inner : ∀ (x : D) (g : Int), x = .int g → loopF (fun l4 =>
            if (decide ((gd l4 0).i < (((D.lst (p.ts.map Target.d)).l.length : Nat) : Int))) then
              if (inb (gd l4 0).i (D.lst (p.ts.map Target.d)).l.length) then
              (if (((gd (D.lst (p.ts.map Target.d)).l (gd l4 0).i.toNat).fld 2).i == x.i) then
                  (e_spec_l14Well.F [h.d, ((gd (D.lst (p.ts.map Target.d)).l (gd l4 0).i.toNat).fld 0)]).bind fun r5 =>
                  ou 0 [r5]
                else
                  ou 0 [(.bool false)]).bind fun o5 =>
              sel2 o5.1 (if (gd o5.2 0).b then
                  ou 1 [x]
                else
                  ou 0 [(.int (IntKind.wrap .i64 ((gd l4 0).i + 1)))]) fun _ => none
              else none
            else
              ou 2 []) [(.int 0)] = if p.anyWell h g then some (0, [.int g]) else some (1, []) := by
    rintro x g rfl
    have step : ∀ i (hi : i < p.ts.length), (if (((gd (D.lst (p.ts.map Target.d)).l ((D.int (i : Int))).i.toNat).fld 2).i == (D.int g).i) then
                  (e_spec_l14Well.F [h.d, ((gd (D.lst (p.ts.map Target.d)).l ((D.int (i : Int))).i.toNat).fld 0)]).bind fun r5 =>
                  ou 0 [r5]
                else
                  ou 0 [(.bool false)]) = some (0, [.bool (Target.fit h g p.ts[i])]) := by
      intro i hi
      have e2 : p.ts[i].d.fld 2 = .int p.ts[i].group := rfl
      have e0 : p.ts[i].d.fld 0 = .str p.ts[i].host := rfl
      simp only [D.i_int, Int.toNat_natCast, D.l_lst, gd_t hi, e2, e0]
      have hw := f_l14Well hf hl hh p.ts[i].host
      unfold Target.fit
      cases hb : p.ts[i].group == g with
      | true => exact out_if rfl (out_call hw rfl)
      | false => exact out_else (by simp) rfl
    rcases loop_find (f := fun l4 =>
            if (decide ((gd l4 0).i < (((D.lst (p.ts.map Target.d)).l.length : Nat) : Int))) then
              if (inb (gd l4 0).i (D.lst (p.ts.map Target.d)).l.length) then
              (if (((gd (D.lst (p.ts.map Target.d)).l (gd l4 0).i.toNat).fld 2).i == (D.int g).i) then
                  (e_spec_l14Well.F [h.d, ((gd (D.lst (p.ts.map Target.d)).l (gd l4 0).i.toNat).fld 0)]).bind fun r5 =>
                  ou 0 [r5]
                else
                  ou 0 [(.bool false)]).bind fun o5 =>
              sel2 o5.1 (if (gd o5.2 0).b then
                  ou 1 [D.int g]
                else
                  ou 0 [(.int (IntKind.wrap .i64 ((gd l4 0).i + 1)))]) fun _ => none
              else none
            else
              ou 2 []) (l := [.int 0]) (fun i => [.int i]) p.ts.length (fun i => !(Target.fit h g (p.ts.getD i ⟨[], [], 0, 0⟩))) (t1 := 0) (t2 := 1) (o1 := fun _ => [.int g]) (o2 := []) rfl
      (by intro i hi hpp
          have h2 : (Target.fit h g p.ts[i]) = false := by simpa [hi] using hpp
          have st := step i hi
          rw [h2] at st
          refine out_if (decide_eq_true (by simp [hi])) (out_if (inb_nat (by simpa using hi)) (out_bind st ?_))
          have hw1 := wrap_succ hi hsmt
          simp only [gd_zero, D.i_int, hw1]
          rfl)
      (by intro i hi hpp
          have h2 : (Target.fit h g p.ts[i]) = true := by simpa [hi] using hpp
          have st := step i hi
          rw [h2] at st
          exact out_if (decide_eq_true (by simp [hi])) (out_if (inb_nat (by simpa using hi)) (out_bind st rfl)))
      (by simp) with ⟨ha, hloop⟩ | ⟨k, hk, hpk, _, hloop⟩
    · rw [hloop, Policy.anyWell, any_idx _ ha]; rfl
    · have : p.anyWell h g = true := by
        rw [Policy.anyWell, List.any_eq_true]
        exact ⟨p.ts[k], List.getElem_mem hk, by simpa [hk] using hpk⟩
      rw [hloop, this]; rfl
  have step3 : ∀ i (hi : i < p.grp.length), gd (nd p.grp).l ((D.int (i : Int))).i.toNat = .int p.grp[i] := by
    intro i hi
    simp only [D.i_int, Int.toNat_natCast, nd, D.l_lst, gd_nd hi]
  rcases loop_find (f := fun l3 =>
      if (decide ((gd l3 0).i < (((nd p.grp).l.length : Nat) : Int))) then
        if (inb (gd l3 0).i (nd p.grp).l.length) then
        (loopF (fun l4 =>
            if (decide ((gd l4 0).i < (((D.lst (p.ts.map Target.d)).l.length : Nat) : Int))) then
              if (inb (gd l4 0).i (D.lst (p.ts.map Target.d)).l.length) then
              (if (((gd (D.lst (p.ts.map Target.d)).l (gd l4 0).i.toNat).fld 2).i == (gd (nd p.grp).l (gd l3 0).i.toNat).i) then
                  (e_spec_l14Well.F [h.d, ((gd (D.lst (p.ts.map Target.d)).l (gd l4 0).i.toNat).fld 0)]).bind fun r5 =>
                  ou 0 [r5]
                else
                  ou 0 [(.bool false)]).bind fun o5 =>
              sel2 o5.1 (if (gd o5.2 0).b then
                  ou 1 [(gd (nd p.grp).l (gd l3 0).i.toNat)]
                else
                  ou 0 [(.int (IntKind.wrap .i64 ((gd l4 0).i + 1)))]) fun _ => none
              else none
            else
              ou 2 []) [(.int 0)]).bind fun o4 =>
        sel2 o4.1 (ou 1 [(gd o4.2 0)]) fun n8 =>
        sel2 n8 (ou 0 [(.int (IntKind.wrap .i64 ((gd l3 0).i + 1)))]) fun _ => none
        else none
      else
        ou 2 []) (l := [.int 0]) (fun i => [.int i]) p.grp.length (fun i => !(p.anyWell h (p.grp.getD i 0))) (t1 := 0) (t2 := 1) (o1 := fun i => [.int (p.grp.getD i 0)]) (o2 := []) rfl
      (by intro i hi hpp
          have h2 : p.anyWell h p.grp[i] = false := by simpa [hi] using hpp
          have hin := inner _ _ (step3 i hi)
          rw [h2] at hin
          have hw1 := wrap_succ hi hsm
          refine out_if (decide_eq_true (by simp [hi, nd])) (out_if (inb_nat (by simpa [nd] using hi)) (out_bind (r := (1, [])) ?_ ?_))
          · exact hin
          · simp only [gd_zero, D.i_int, hw1]
            rfl)
      (by intro i hi hpp
          have h2 : p.anyWell h p.grp[i] = true := by simpa [hi] using hpp
          have hin := inner _ _ (step3 i hi)
          rw [h2] at hin
          refine out_if (decide_eq_true (by simp [hi, nd])) (out_if (inb_nat (by simpa [nd] using hi)) (out_bind (r := (0, [.int p.grp[i]])) ?_ ?_))
          · exact hin
          · simp [hi])
      (by simp [nd]) with ⟨ha, hloop⟩ | ⟨k, hk, hpk, hn, hloop⟩
  · refine rn_bind hloop ?_
    refine rn_call hgr (rn_if (inb_nat (by simpa [nd] using hpos)) ?_)
    rw [Policy.group, pick_none ha]
    have : gd (nd p.grp).l 0 = .int (p.grp.getD 0 0) := by
      simp only [nd, D.l_lst]
      rw [gd_nd hpos]; simp [hpos]
    rw [this]; rfl
  · refine rn_bind hloop ?_
    rw [Policy.group, pick_some hk hpk hn]
    simp [hk]
end Go.Proofs.YtobighfemobgjaaGreatDoor
namespace Go.Proofs.YtobighfemobgjaaGreatDoor
open Go Go.Own
theorem f_GroupsIn {p : Policy} (hp : p.In lim) : ∃ (l : List Int) (b : Bool), l.length ≤ 10 ∧ e_impl_GroupsIn.F [p.d] = some (.pair (nd l) (.pair (.bool b) .unit)) ∧ e_spec_GroupsIn.F [p.d] = some (.pair (nd l) (.pair (.bool b) .unit)) := by
  have h1 := f_implPolicy hp
  have h2 := f_specPolicy hp
  rw [q_impl_GroupsIn, q_spec_GroupsIn]
  cases hg : p.good with
  | false =>
    rw [hg] at h1 h2
    exact ⟨[], false, by simp, rn_call h1 (rn_if rfl rfl), rn_call h2 (rn_if rfl rfl)⟩
  | true =>
    rw [hg] at h1 h2
    exact ⟨p.grp, true, upTo_len _ _, rn_call h1 (rn_else (by simp) (rn_call (f_groupsIn hp hg) rfl)), rn_call h2 (rn_else (by simp) (rn_call (f_l14Groups hp.len) rfl))⟩
theorem f_GroupOf {p : Policy} {h : Health} (hp : p.In lim) (hh : h.In lim) : ∃ (n : Int) (b : Bool), (p.good = true → h.good = true → n = p.group h) ∧ e_impl_GroupOf.F [p.d, h.d] = some (.pair (.int n) (.pair (.bool b) .unit)) ∧ e_spec_GroupOf.F [p.d, h.d] = some (.pair (.int n) (.pair (.bool b) .unit)) := by
  have h1 := f_implPolicy hp
  have h2 := f_specPolicy hp
  have h3 := f_implGoodHealth h (Nat.le_trans hh.len lim_smax)
  have h4 := f_specGoodHealth h hh.fit
  rw [q_impl_GroupOf, q_spec_GroupOf]
  cases hg : p.good with
  | false =>
    rw [hg] at h1 h2
    exact ⟨0, false, (fun h => nomatch h), rn_bind0 (l := [.bool true]) (out_call h1 (out_if rfl rfl)) (rn_if rfl rfl), rn_bind0 (l := [.bool true]) (out_call h2 (out_if rfl rfl)) (rn_if rfl rfl)⟩
  | true =>
    rw [hg] at h1 h2
    cases hgh : h.good with
    | false =>
      rw [hgh] at h3 h4
      exact ⟨0, false, (fun _ h => nomatch h), rn_bind0 (l := [.bool true]) (out_call h1 (out_else (by simp) (out_call h3 rfl))) (rn_if rfl rfl), rn_bind0 (l := [.bool true]) (out_call h2 (out_else (by simp) (out_call h4 rfl))) (rn_if rfl rfl)⟩
    | true =>
      rw [hgh] at h3 h4
      exact ⟨p.group h, true, fun _ _ => rfl, rn_bind0 (l := [.bool false]) (out_call h1 (out_else (by simp) (out_call h3 rfl))) (rn_else (by simp) (rn_call (f_groupOf hp hh.len hg) rfl)), rn_bind0 (l := [.bool false]) (out_call h2 (out_else (by simp) (out_call h4 rfl))) (rn_else (by simp) (rn_call (f_l14Group hp hh.fit hh.len hgh hg) rfl))⟩
end Go.Proofs.YtobighfemobgjaaGreatDoor
