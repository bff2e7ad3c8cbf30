/- What the functions compute, in plain words. -/
import Derived.Test.YtlflhlgppbbahaaGreatDoorP1
import Derived.Lib.Bytealg
set_option linter.unusedSectionVars false
set_option linter.unusedVariables false
set_option linter.unusedSimpArgs false
/-! Data of each type, as the program and as the reference see it. -/
namespace Go.Own
variable [Glb]
open Go
/-- a loop that builds a text -/
theorem loop_text {f : List D → Outc} {l : List D} (Inv : Nat → List UInt8 → Prop) (n : Nat) {t : Nat} (s0 : List UInt8) (hl : l = [.str s0, .int 0]) (h0 : Inv 0 s0)
    (h : ∀ i s, i < n → Inv i s → ∃ s', f [.str s, .int i] = some (0, [.str s', .int ((i + 1 : Nat) : Int)]) ∧ Inv (i + 1) s') (hn : ∀ s, f [.str s, .int n] = some (t + 1, [.str s])) :
    ∃ s, Inv n s ∧ loopF f l = some (t, [.str s]) := by
  subst hl
  have key : ∀ m k s, m + k = n → Inv k s → ∃ s', Inv n s' ∧ loopF f [.str s, .int k] = some (t, [.str s']) := by
    intro m
    induction m with
    | zero =>
      intro k s hk hi
      have : k = n := by omega
      subst this
      exact ⟨s, hi, loopF_exit (hn s)⟩
    | succ m ih =>
      intro k s hk hi
      obtain ⟨s', h1, h2⟩ := h k s (by omega) hi
      obtain ⟨s'', h3, h4⟩ := ih (k + 1) s' (by omega) h2
      exact ⟨s'', h3, by rw [loopF_step h1]; exact h4⟩
  exact key n 0 s0 (by omega) h0
theorem splB_has {b c : UInt8} (hbc : c ≠ b) : ∀ s : List UInt8, c ∈ s ↔ ∃ p ∈ splB b s, c ∈ p
  | [] => by simp [splB]
  | x :: s => by
    have ih := splB_has hbc s
    unfold splB
    split
    · rename_i hx
      subst hx
      simp only [List.mem_cons, hbc, false_or, ih]
      constructor
      · rintro ⟨p, hp, hc⟩; exact ⟨p, .inr hp, hc⟩
      · rintro ⟨p, hp, hc⟩
        rcases hp with rfl | hp
        · simp at hc
        · exact ⟨p, hp, hc⟩
    · split
      · rename_i p ps hq
        rw [hq] at ih
        simp only [List.mem_cons] at ih ⊢
        rw [ih]
        constructor
        · rintro (rfl | ⟨q, rfl | hqm, hc⟩)
          · exact ⟨_, .inl rfl, by simp⟩
          · exact ⟨_, .inl rfl, by simp [hc]⟩
          · exact ⟨q, .inr hqm, hc⟩
        · rintro ⟨q, rfl | hqm, hc⟩
          · simp only [List.mem_cons] at hc
            rcases hc with rfl | hc
            · exact .inl rfl
            · exact .inr ⟨p, .inl rfl, hc⟩
          · exact .inr ⟨q, .inr hqm, hc⟩
      · rename_i hq
        exact absurd hq (splB_ne b s)
end Go.Own
namespace Go.Proofs.YtlflhlgppbbahaaGreatDoor
open Go Go.Own

/-- a name that a record may lead to -/
def isTgt (s : List UInt8) : Bool := !s.isEmpty && (isName s && !(s.contains 42))
theorem contains_one (s : List UInt8) (c : UInt8) : Lib.contains s [c] = s.contains c := by
  unfold Lib.contains
  by_cases h : c ∈ s
  · obtain ⟨p, q, rfl, hp⟩ := mem_cut h
    rw [index_one_cut hp]; simp
  · rw [index_one_none h]
    have : s.contains c = false := by simpa using h
    rw [this]; rfl
theorem f_contains {s : List UInt8} (h : s.length ≤ lim) : e_strings_Contains.F [.str s, .str [42]] = some (.bool (s.contains 42)) := by
  rw [show e_strings_Contains.F = containsF from by unfold e_strings_Contains containsE; rfl]
  unfold containsF
  have hlim : lim = 1048576 := rfl
  refine (if_pos (by simp; omega)).trans ?_
  simp [contains_one]
theorem f_isTarget {s : List UInt8} (h : s.length ≤ lim) : e_impl_isTarget.F [.str s] = some (.bool (isTgt s)) := by
  rw [q_impl_isTarget]
  have hn := f_GoodName s
  have hc := f_contains h
  refine rn_bind (r := (0, [.bool (isTgt s)])) ?_ rfl
  unfold isTgt
  by_cases h0 : s = []
  · subst h0; exact out_else (by simp) rfl
  · have he : s.isEmpty = false := by cases s <;> simp_all
    rw [he]
    refine out_if (by simpa using h0) ?_
    cases h1 : isName s with
    | false => rw [h1] at hn; exact out_call hn (out_else (by simp) rfl)
    | true => rw [h1] at hn; exact out_call hn (out_if rfl (out_call hc (by simp)))

theorem name_star {s : List UInt8} (h : isName s = true) (h0 : s ≠ []) : s.contains 42 = (parts s).any (· == [42]) := by
  have he : s.isEmpty = false := by cases s <;> simp_all
  have hp : parts s = splB 46 s := by unfold parts; rw [he]; rfl
  rw [hp]
  unfold isName at h
  rw [he] at h
  simp only [Bool.and_eq_true, Bool.false_or, List.all_eq_true, decide_eq_true_eq] at h
  rw [Bool.eq_iff_iff, List.any_eq_true]
  have hh := splB_has (b := 46) (c := 42) (by decide) s
  constructor
  · intro hc
    obtain ⟨p, hp, hcp⟩ := hh.1 (by simpa using hc)
    refine ⟨p, hp, ?_⟩
    have := h.2.2 p hp
    unfold isLab at this
    simp only [Bool.or_eq_true, Bool.and_eq_true, List.all_eq_true] at this
    rcases this with h1 | h1
    · exact h1
    · have := h1.2 42 hcp
      exact absurd this (by decide)
  · rintro ⟨p, hp, hpe⟩
    have : p = [42] := by simpa using hpe
    subst this
    simpa using hh.2 ⟨[42], hp, by simp⟩

theorem f_l3Target {s : List UInt8} (h : s.length ≤ lim) : e_spec_l3Target.F [.str s] = some (.bool (isTgt s)) := by
  have hlim : lim = 1048576 := rfl
  rw [q_spec_l3Target]
  obtain ⟨ls, hl, hll, hpt⟩ := f_l1LabelsX s h
  have hsm : ls.length ≤ smax := by rw [smax_eq]; omega
  have hlen : (D.lst (ls.map D.str)).l.length = ls.length := by simp
  have f0 : ((D.pair (.lst (ls.map D.str)) (.pair (.bool (isName s)) .unit)).fld 0).l = ls.map D.str := rfl
  have f1 : (D.pair (.lst (ls.map D.str)) (.pair (.bool (isName s)) .unit)).fld 1 = .bool (isName s) := rfl
  refine rn_call hl ?_
  rw [f0, f1, List.length_map]
  refine rn_bind (loop_for' (fun i (b : Bool) => [.bool b, .int i]) ls.length (fun i => isName s && (ls.take i).all (fun x => !(x == [42]))) (t := 0) (o := [.bool (isName s && ls.all (fun x => !(x == [42])))]) (by simp) ?_ ?_) ?_
  · intro i hi
    have hg := gd_parts hi
    refine out_if (by simpa using hi) (out_bind (r := (0, [.bool (isName s && (ls.take (i + 1)).all (fun x => !(x == [42])))])) (out_if (by simpa using inb_nat hi) ?_) (sel0 ?_))
    · simp only [gd_zero, gd_one, D.i_int, Int.toNat_natCast, D.b_bool, hg]
      rw [List.take_succ_eq_append_getElem hi, List.all_append, ← Bool.and_assoc]
      cases (isName s && (ls.take i).all (fun x => !(x == [42]))) with
      | false => exact out_else (by simp) (by simp)
      | true => exact out_if rfl (by simp)
    · simp [wrap_succ hi hsm]
  · simp
  · refine rn_bind (r := (0, [.bool (isTgt s)])) ?_ rfl
    unfold isTgt
    cases hn : isName s with
    | false => exact out_else (by simp) (by simp)
    | true =>
      have hls := hpt hn
      subst hls
      by_cases h0 : s = []
      · subst h0; exact out_if rfl rfl
      · have he : s.isEmpty = false := by cases s <;> simp_all
        have hs := name_star hn h0
        have hall : (parts s).all (fun x => !(x == [42])) = !(s.contains 42) := by
          rw [hs]
          rw [Bool.eq_iff_iff]; simp
        rw [hall, he]
        cases s.contains 42 with
        | true => exact out_else (by simp) (by simp)
        | false => exact out_if rfl (by simp [h0])

/-- texts that are added up stay small -/
theorem cat_ok {a b : List UInt8} (h : a.length + b.length ≤ 4 * lim + 100) : catOk a b = true := by
  have hlim : lim = 1048576 := rfl
  unfold catOk
  rw [smax_eq]
  exact decide_eq_true (by omega)
theorem parts_bound (s : List UInt8) : (parts s).length ≤ s.length + 1 ∧ ∀ p ∈ parts s, p.length ≤ 20 ∨ True := by
  unfold parts
  split
  · simp
  · exact ⟨splB_len 46 s, fun _ _ => .inr trivial⟩
/-- what the pieces hold together -/
def lens (ls : List (List UInt8)) : Nat := (ls.map fun p => p.length + 1).sum
theorem lens_take {ls : List (List UInt8)} {i : Nat} (hi : i < ls.length) : lens (ls.take (i + 1)) = lens (ls.take i) + (ls[i].length + 1) := by
  unfold lens
  rw [List.take_succ_eq_append_getElem hi, List.map_append, List.sum_append_nat]
  simp only [List.map_cons, List.map_nil, List.sum_cons, List.sum_nil, Nat.add_zero]
theorem lens_le (ls : List (List UInt8)) (i : Nat) : lens (ls.take i) ≤ lens ls := by
  unfold lens
  conv => rhs; rw [← List.take_append_drop i ls]
  rw [List.map_append, List.sum_append_nat]
  exact Nat.le_add_right _ _
theorem lens_splB (b : UInt8) : ∀ s : List UInt8, lens (splB b s) = s.length + 1
  | [] => rfl
  | c :: s => by
    have ih := lens_splB b s
    unfold lens at ih ⊢
    unfold splB
    split
    · simp only [List.map_cons, List.sum_cons, ih, List.length_cons, List.length_nil]; omega
    · split
      · rename_i p ps hq
        rw [hq] at ih
        simp only [List.map_cons, List.sum_cons, List.length_cons] at ih ⊢; omega
      · rename_i hq
        exact absurd hq (splB_ne b s)
theorem lens_parts (s : List UInt8) : lens (parts s) ≤ s.length + 1 := by
  unfold parts
  split
  · simp [lens]
  · rw [lens_splB]; exact Nat.le_refl _

theorem lab_loop {ls : List (List UInt8)} (hl : lens ls ≤ 2 * lim) (hn : ls.length ≤ 2 * lim) : ∃ s : List UInt8, s.length ≤ 2 * lim ∧ loopF (fun l2 =>
      if (decide ((gd l2 1).i < ((D.lst (ls.map D.str)).l.length : Int))) then
        if (inb (gd l2 1).i (D.lst (ls.map D.str)).l.length) then
        if (catOk (bytesStr ((.int (IntKind.wrap .u8 ((gd (D.lst (ls.map D.str)).l (gd l2 1).i.toNat).s.length : Int))) :: ([] : List D))) (gd (D.lst (ls.map D.str)).l (gd l2 1).i.toNat).s) then
        if (catOk (gd l2 0).s ((bytesStr ((.int (IntKind.wrap .u8 ((gd (D.lst (ls.map D.str)).l (gd l2 1).i.toNat).s.length : Int))) :: ([] : List D))) ++ (gd (D.lst (ls.map D.str)).l (gd l2 1).i.toNat).s)) then
        ou 0 [(.str ((gd l2 0).s ++ ((bytesStr ((.int (IntKind.wrap .u8 ((gd (D.lst (ls.map D.str)).l (gd l2 1).i.toNat).s.length : Int))) :: ([] : List D))) ++ (gd (D.lst (ls.map D.str)).l (gd l2 1).i.toNat).s))), (.int (IntKind.wrap .i64 ((gd l2 1).i + 1)))]
        else none
        else none
        else none
      else
        ou 1 [(gd l2 0)]) [(D.str []), (.int 0)] = some (0, [.str s]) := by
  have hlim : lim = 1048576 := rfl
  have hsm : ls.length ≤ smax := by rw [smax_eq]; omega
  have hlen : (D.lst (ls.map D.str)).l.length = ls.length := by simp
  obtain ⟨s, hs, hloop⟩ := loop_text (fun i s => s.length = lens (ls.take i)) ls.length (t := 0) [] rfl (by simp [lens]) (f := fun l2 =>
      if (decide ((gd l2 1).i < ((D.lst (ls.map D.str)).l.length : Int))) then
        if (inb (gd l2 1).i (D.lst (ls.map D.str)).l.length) then
        if (catOk (bytesStr ((.int (IntKind.wrap .u8 ((gd (D.lst (ls.map D.str)).l (gd l2 1).i.toNat).s.length : Int))) :: ([] : List D))) (gd (D.lst (ls.map D.str)).l (gd l2 1).i.toNat).s) then
        if (catOk (gd l2 0).s ((bytesStr ((.int (IntKind.wrap .u8 ((gd (D.lst (ls.map D.str)).l (gd l2 1).i.toNat).s.length : Int))) :: ([] : List D))) ++ (gd (D.lst (ls.map D.str)).l (gd l2 1).i.toNat).s)) then
        ou 0 [(.str ((gd l2 0).s ++ ((bytesStr ((.int (IntKind.wrap .u8 ((gd (D.lst (ls.map D.str)).l (gd l2 1).i.toNat).s.length : Int))) :: ([] : List D))) ++ (gd (D.lst (ls.map D.str)).l (gd l2 1).i.toNat).s))), (.int (IntKind.wrap .i64 ((gd l2 1).i + 1)))]
        else none
        else none
        else none
      else
        ou 1 [(gd l2 0)]) (by
    intro i s hi hs
    have hg := gd_parts hi
    have hti := lens_take hi
    have htl := lens_le ls (i + 1)
    have hb := bytesStr_size [.int (IntKind.wrap .u8 (ls[i].length : Int))]
    refine ⟨s ++ (bytesStr [.int (IntKind.wrap .u8 (ls[i].length : Int))] ++ ls[i]), ?_, by simp [hs, hti, hb]; omega⟩
    refine out_if (by rw [hlen]; simpa using hi) (out_if (by rw [hlen]; simpa using inb_nat hi) ?_)
    have e1 : (gd [D.str s, D.int (i : Int)] 1).i.toNat = i := by simp
    have e2 : (gd [D.str s, D.int (i : Int)] 1).i = i := rfl
    have e3 : (gd [D.str s, D.int (i : Int)] 0).s = s := rfl
    rw [e1, e2, e3, show (D.lst (ls.map D.str)).l = ls.map D.str from rfl, hg, wrap_succ hi hsm]
    simp only [D.s_str]
    refine out_if (cat_ok (by rw [hb, List.length_singleton]; omega)) (out_if (cat_ok (by rw [List.length_append, hb, List.length_singleton]; omega)) rfl)) (by
    intro s
    exact out_else (by rw [hlen]; simp) rfl)
  refine ⟨s, ?_, hloop⟩
  have := lens_le ls ls.length
  omega
theorem f_labelBytes {s : List UInt8} (h : s.length ≤ lim) : ∃ b : List UInt8, b.length ≤ 2 * lim ∧ e_impl_labelBytes.F [.str s] = some (.str b) := by
  have hlim : lim = 1048576 := rfl
  rw [q_impl_labelBytes]
  have hl := f_labelsOf s (by omega)
  have hp : (if s.isEmpty then [] else splB 46 s) = parts s := rfl
  rw [hp] at hl
  obtain ⟨b, hb, hloop⟩ := lab_loop (ls := parts s) (Nat.le_trans (lens_parts s) (by omega)) (Nat.le_trans (parts_bound s).1 (by omega))
  exact ⟨b, hb, rn_call hl (rn_bind hloop rfl)⟩
theorem f_l2Bytes {s : List UInt8} (h : s.length ≤ lim) (hn : isName s = true) : ∃ b : List UInt8, b.length ≤ 2 * lim + 1 ∧ e_spec_l2Bytes.F [.str s] = some (.str b) := by
  have hlim : lim = 1048576 := rfl
  rw [q_spec_l2Bytes]
  obtain ⟨ls, hl, hll, hpt⟩ := f_l1LabelsX s h
  rw [hpt hn] at hl
  obtain ⟨b, hb, hloop⟩ := lab_loop (ls := parts s) (Nat.le_trans (lens_parts s) (by omega)) (Nat.le_trans (parts_bound s).1 (by omega))
  refine ⟨b ++ [0], by simp; omega, rn_call hl (rn_bind hloop (rn_if (cat_ok (by simp; omega)) ?_))⟩
  simp
end Go.Proofs.YtlflhlgppbbahaaGreatDoor

/-! Data: numbers, mail, texts; all of it. -/
namespace Go.Proofs.YtlflhlgppbbahaaGreatDoor
open Go Go.Own

theorem f_big {c : Nat} (hc : c ≤ 4) (n : Int) : ∃ b : List UInt8, b.length = c ∧ e_impl_big.F [.int n, .int c] = some (.str b) := by
  rw [q_impl_big]
  have w0 : IntKind.wrap .i64 ((c : Int) - 1) = (c : Int) - 1 := by rw [wrap_id] <;> omega
  simp only [D.i_int, w0]
  obtain ⟨l, hl, hloop⟩ := loop_down (f := fun l2 =>
      if (decide ((gd l2 1).i ≥ 0)) then
        if (decide (0 ≤ (IntKind.wrap .i64 (8 * (gd l2 1).i)))) then
        if (appOk 1 (gd l2 0).l ((.int (IntKind.wrap .u8 (n.fdiv (2 ^ min (IntKind.wrap .i64 (8 * (gd l2 1).i)).toNat (IntKind.bits .i64))))) :: ([] : List D))) then
        ou 0 [(D.lst ((gd l2 0).l ++ ((.int (IntKind.wrap .u8 (n.fdiv (2 ^ min (IntKind.wrap .i64 (8 * (gd l2 1).i)).toNat (IntKind.bits .i64))))) :: ([] : List D)))), (.int (IntKind.wrap .i64 ((gd l2 1).i - 1)))]
        else none
        else none
      else
        ou 1 [(gd l2 0)]) (l := [.lst [], .int ((c : Int) - 1)]) (fun m (zs : List D) => [.lst zs, .int ((m : Int) - 1)]) (fun m zs => zs.length + m = c) (t := 0) (out := fun zs => [.lst zs]) c [] rfl (by simp) (by
    intro m zs hz
    have w1 : IntKind.wrap .i64 (8 * (((m + 1 : Nat) : Int) - 1)) = 8 * (m : Int) := by rw [wrap_id] <;> omega
    have w2 : IntKind.wrap .i64 ((((m + 1 : Nat) : Int) - 1) - 1) = (m : Int) - 1 := by rw [wrap_id] <;> omega
    refine ⟨zs ++ [.int (IntKind.wrap .u8 (n.fdiv (2 ^ min (8 * (m : Int)).toNat (IntKind.bits .i64))))], out_if (decide_eq_true (by simp)) (out_if ?_ (out_if ?_ ?_)), by simp; omega⟩
    · simp only [gd_one, D.i_int, w1]; exact decide_eq_true (by omega)
    · simp only [gd_zero, D.l_lst, appOk, List.length_singleton]
      simp [smax_eq]; omega
    · simp only [gd_zero, gd_one, D.i_int, D.l_lst, w1, w2]) (by
    intro zs _
    exact out_else (by simp) rfl)
  refine ⟨bytesStr l, by rw [bytesStr_size]; omega, rn_bind hloop rfl⟩
theorem f_l3Number {c : Nat} (hc : c ≤ 4) (n : Int) : ∃ b : List UInt8, b.length = c ∧ e_spec_l3Number.F [.int n, .int c] = some (.str b) := by
  rw [q_spec_l3Number]
  have w0 : IntKind.wrap .i64 ((c : Int) - 1) = (c : Int) - 1 := by rw [wrap_id] <;> omega
  simp only [D.i_int, w0]
  obtain ⟨l, hl, hloop⟩ := loop_down (f := fun l2 =>
      if (decide ((gd l2 2).i ≥ 0)) then
        if (inb (gd l2 2).i (gd l2 1).l.length) then
        if (decide (0 ≤ 8)) then
        ou 0 [(.int ((gd l2 0).i.fdiv (2 ^ min 8 (IntKind.bits .i64)))), (D.lst ((gd l2 1).l.set (gd l2 2).i.toNat (.int (IntKind.wrap .u8 (gd l2 0).i)))), (.int (IntKind.wrap .i64 ((gd l2 2).i - 1)))]
        else none
        else none
      else
        ou 1 [(gd l2 1)]) (l := [.int n, .lst (List.replicate ((c : Int)).toNat (.int 0)), .int ((c : Int) - 1)]) (fun m (z : Int × List D) => [.int z.1, .lst z.2, .int ((m : Int) - 1)]) (fun m z => z.2.length = c ∧ m ≤ c) (t := 0) (out := fun z => [.lst z.2]) c (n, List.replicate c (.int 0)) (by simp) (by simp) (by
    intro m z hz
    have w2 : IntKind.wrap .i64 ((((m + 1 : Nat) : Int) - 1) - 1) = (m : Int) - 1 := by rw [wrap_id] <;> omega
    refine ⟨(z.1.fdiv (2 ^ min 8 (IntKind.bits .i64)), z.2.set m (.int (IntKind.wrap .u8 z.1))), out_if (decide_eq_true (by simp)) (out_if ?_ (out_if (by decide) ?_)), by simp; omega⟩
    · simp only [gd_two, gd_one, D.i_int, D.l_lst]; exact inb_int (by omega) (by omega)
    · have e : (((m + 1 : Nat) : Int) - 1).toNat = m := by omega
      simp only [gd_zero, gd_one, gd_two, D.i_int, D.l_lst, w2, e]) (by
    intro zs _
    exact out_else (by simp) rfl)
  refine ⟨bytesStr l.2, by rw [bytesStr_size]; omega, rn_if ?_ (rn_bind hloop rfl)⟩
  exact makeOk_nat (by have : lim = 1048576 := rfl; omega) (by decide)

/-- what the reference reads as a number in a range -/
theorem int10_in {s : List UInt8} {m : Int} (hm : m < 10000000000) : (decide ((0 : Int) ≤ int10 s) && decide (int10 s ≤ m)) = numOk s m := by
  unfold int10 numOk
  by_cases hc : canon s = true
  · by_cases hd : (dv s : Int) ≤ m
    · have hl10 : s.length ≤ 10 := by
        have := dec_len (k := 10) (u := dv s) (by omega) (by omega)
        rwa [← (canon_iff _).1 hc] at this
      rw [if_pos ⟨hc, hl10⟩]
      simp [hc, hd]
    · have e : decide ((dv s : Int) ≤ m) = false := by simpa using hd
      rw [e, Bool.and_false]
      by_cases hl10 : s.length ≤ 10
      · rw [if_pos ⟨hc, hl10⟩, e]; simp
      · rw [if_neg (fun h => hl10 h.2)]; simp
  · have hc' : canon s = false := by simpa using hc
    rw [if_neg (fun h => hc h.1), hc']; simp

/-- mail: a number and a name -/
def mxP : List (List UInt8) → Bool
  | [a, b] => numOk a 65535 && isTgt b
  | _ => false
def mxOk (s : List UInt8) : Bool := mxP (splB 32 s)
def txtOk (s : List UInt8) : Bool := decide (s.length ≤ 30) && s.all (fun c => decide (32 ≤ c.toNat) && decide (c.toNat ≤ 126))
def dataOk (k : Int) (s : List UInt8) : Bool :=
  if k = 1 then addrOk s else if k = 2 ∨ k = 5 then isTgt s else if k = 6 then numOk s 4294967295 else if k = 15 then mxOk s else if k = 16 then txtOk s else false

theorem tgt_space {q : List UInt8} (h : 32 ∈ q) : isTgt q = false := by
  cases hq : isTgt q with
  | false => rfl
  | true =>
    exfalso
    unfold isTgt isName at hq
    simp only [Bool.and_eq_true, Bool.or_eq_true, List.all_eq_true, decide_eq_true_eq, Bool.not_eq_true'] at hq
    obtain ⟨p, hp, hc⟩ := (splB_has (b := 46) (c := 32) (by decide) q).1 h
    rcases hq.2.1.2 with he | he
    · rw [he] at hq; simp at hq
    · have := he.2 p hp
      unfold isLab at this
      simp only [Bool.or_eq_true, Bool.and_eq_true, List.all_eq_true] at this
      rcases this with h1 | h1
      · have : p = [42] := by simpa using h1
        subst this
        exact absurd hc (by decide)
      · exact absurd (h1.2 32 hc) (by decide)
theorem cut_none {s : List UInt8} (h : 32 ∉ s) : Lib.cut s [32] = (s, [], false) := by
  unfold Lib.cut
  rw [index_one_none h]; rfl
theorem cut_some {p q : List UInt8} (h : 32 ∉ p) : Lib.cut (p ++ 32 :: q) [32] = (p, q, true) := by
  unfold Lib.cut
  rw [index_one_cut h]
  simp
theorem f_cut {s : List UInt8} (h : s.length ≤ lim) : e_strings_Cut.F [.str s, .str [32]] = some (cutD (Lib.cut s [32])) := by
  rw [show e_strings_Cut.F = cutF from by unfold e_strings_Cut cutE; rfl]
  unfold cutF
  have hlim : lim = 1048576 := rfl
  exact if_pos (by simp; omega)
theorem mx_cut (s : List UInt8) : mxOk s = (numOk (Lib.cut s [32]).1 65535 && isTgt (Lib.cut s [32]).2.1) := by
  unfold mxOk
  by_cases h : 32 ∈ s
  · obtain ⟨p, q, rfl, hp⟩ := mem_cut h
    rw [cut_some hp, splB_cut hp]
    by_cases hq : 32 ∈ q
    · rw [tgt_space hq, Bool.and_false]
      obtain ⟨p2, q2, rfl, hp2⟩ := mem_cut hq
      rw [splB_cut hp2]
      cases hh : splB 32 q2 with
      | nil => exact absurd hh (splB_ne 32 q2)
      | cons a l => rfl
    · rw [splB_none hq]; rfl
  · rw [cut_none h, splB_none h]
    simp [isTgt, mxP]
end Go.Proofs.YtlflhlgppbbahaaGreatDoor

/-! Data: all of it. -/
namespace Go.Proofs.YtlflhlgppbbahaaGreatDoor
open Go Go.Own

theorem rn_bind0 {o : Outc} {l : List D} {A : Nat × List D → Outc} {B : Nat × List D → Nat → Outc} {R : Option D} (h : o = some (0, l)) (hk : rn (A (0, l)) = R) : rn (o.bind fun o => sel2 o.1 (A o) (B o)) = R := by
  rw [h]; exact hk
theorem f_data1 (n : Int) : e_impl_DataBytes_1.F [.int n] = some (.bool !(decide (32 ≤ n) && decide (n ≤ 126))) := by
  rw [q_impl_DataBytes_1]
  by_cases h : n < 32
  · have : decide (32 ≤ n) = false := by simp; omega
    simp [h, this]
  · have h1 : decide (32 ≤ n) = true := by simp; omega
    by_cases h2 : n > 126
    · have : decide (n ≤ 126) = false := by simp; omega
      simp [h, h1, h2, this]
    · have : decide (n ≤ 126) = true := by simp; omega
      simp [h, h1, h2, this]
theorem gd_bytes {s : List UInt8} {i : Nat} (hi : i < s.length) : gd (s.map fun c => D.int c.toNat) i = .int (s[i]).toNat := by
  rw [gd_lt (by simpa using hi)]; simp
theorem f_containsB {s : List UInt8} (u : D) (hl : s.length ≤ smax) : e_slices_ContainsFunc_byte_byte__impl_DataBytes_1.F [.lst (s.map fun c => D.int c.toNat), u] = some (.bool !(s.all (fun c => decide (32 ≤ c.toNat) && decide (c.toNat ≤ 126)))) := by
  rw [q_slices_ContainsFunc_byte_byte__impl_DataBytes_1]
  let q : UInt8 → Bool := fun c => decide (32 ≤ c.toNat) && decide (c.toNat ≤ 126)
  have key : ∃ r, e_slices_IndexFunc_byte_byte__impl_DataBytes_1.F [.lst (s.map fun c => D.int c.toNat), u] = some r ∧ ∃ n : Int, r = .int n ∧ decide (n ≥ 0) = !(s.all q) := by
    rw [q_slices_IndexFunc_byte_byte__impl_DataBytes_1]
    have hp : ∀ i (hi : i < s.length), e_impl_DataBytes_1.F [.int (s[i]).toNat] = some (.bool !(q s[i])) := fun i hi => by
      rw [f_data1]
      have : (decide ((32 : Int) ≤ (s[i]).toNat) && decide (((s[i]).toNat : Int) ≤ 126)) = q s[i] := by
        simp only [q]
        rw [Bool.eq_iff_iff]; simp; omega
      rw [this]
    refine find_ex (fun i => [.int i]) s.length (fun i => q (s.getD i 0)) (t1 := 0) (t2 := 1) (o1 := fun i => [.int i]) (o2 := []) rfl ?_ ?_ ?_ ?_ ?_
    · intro i hi h
      rw [getD_lt hi] at h
      have := hp i hi
      rw [h] at this
      simp [hi, inb_nat hi, wrap_succ hi hl, gd_bytes hi, this]
    · intro i hi h
      rw [getD_lt hi] at h
      have := hp i hi
      rw [h] at this
      simp [hi, inb_nat hi, gd_bytes hi, this]
    · simp
    · intro hall
      refine ⟨_, rfl, -1, rfl, ?_⟩
      have : s.all q = true := by
        rw [← all_allN s q 0, allN_true]; exact hall
      rw [this]; rfl
    · intro j hj hp' _
      refine ⟨_, rfl, j, rfl, ?_⟩
      have : s.all q = false := by
        rw [← all_allN s q 0]; exact allN_false hj hp'
      rw [this]; simp
  obtain ⟨r, h1, n, rfl, h2⟩ := key
  refine rn_call h1 ?_
  show some (D.bool (decide (n ≥ 0))) = some (D.bool !(s.all q))
  rw [h2]

theorem f_data {k : Int} {s : List UInt8} (h : s.length ≤ lim) : ∃ b : List UInt8, e_impl_DataBytes.F [.int k, .str s] = some (.pair (.str b) (.pair (.bool (dataOk k s)) .unit)) := by
  have hlim : lim = 1048576 := rfl
  unfold dataOk
  by_cases k1 : k = 1
  · subst k1; rw [if_pos rfl]; exact f_dataA h
  rw [if_neg k1, q_impl_DataBytes]
  have e1 : ¬ ((D.int k).i == 1) = true := by simpa using k1
  by_cases k25 : k = 2 ∨ k = 5
  · rw [if_pos k25]
    have ht := f_isTarget h
    have hj : (if (D.int k).i == 2 then ou 0 [.bool ((D.int k).i == 2)] else ou 0 [.bool ((D.int k).i == 5)] : Outc) = some (0, [.bool true]) := by
      rcases k25 with rfl | rfl <;> rfl
    cases hq : isTgt s with
    | false =>
      rw [hq] at ht
      exact ⟨[], rn_else e1 (rn_bind0 hj (rn_if rfl (rn_call ht (rn_if rfl rfl))))⟩
    | true =>
      rw [hq] at ht
      obtain ⟨b, hb, hlb⟩ := f_labelBytes h
      exact ⟨b ++ [0], rn_else e1 (rn_bind0 hj (rn_if rfl (rn_call ht (rn_else (by simp) (rn_call hlb (rn_if (cat_ok (by simp; omega)) rfl))))))⟩
  rw [if_neg k25]
  have hj : (if (D.int k).i == 2 then ou 0 [.bool ((D.int k).i == 2)] else ou 0 [.bool ((D.int k).i == 5)] : Outc) = some (0, [.bool false]) := by
    have h2 : ¬ k = 2 := fun h => k25 (.inl h)
    have h5 : ¬ k = 5 := fun h => k25 (.inr h)
    simp [h2, h5]
  by_cases k6 : k = 6
  · rw [if_pos k6]; subst k6
    obtain ⟨v, hn, _⟩ := f_numberIn (s := s) (m := 4294967295) h (by decide)
    cases hq : numOk s 4294967295 with
    | false =>
      rw [hq] at hn
      exact ⟨[], rn_else e1 (rn_bind0 hj (rn_else (by simp) (rn_if rfl (rn_call hn (rn_if rfl rfl)))))⟩
    | true =>
      rw [hq] at hn
      obtain ⟨b, _, hb⟩ := f_big (c := 4) (by omega) v
      exact ⟨b, rn_else e1 (rn_bind0 hj (rn_else (by simp) (rn_if rfl (rn_call hn (rn_else (by simp) (rn_call hb rfl))))))⟩
  rw [if_neg k6]
  have e6 : ¬ ((D.int k).i == 6) = true := by simpa using k6
  by_cases k15 : k = 15
  · rw [if_pos k15]; subst k15
    rw [mx_cut]
    have hc := f_cut h
    have hle := cut_le s [32]
    generalize hcut : Lib.cut s [32] = c at hc hle
    obtain ⟨a, q, f⟩ := c
    simp only at hle ⊢
    have f0 : (cutD (a, q, f)).fld 0 = .str a := rfl
    have f1 : (cutD (a, q, f)).fld 1 = .str q := rfl
    obtain ⟨v, hn, _⟩ := f_numberIn (s := a) (m := 65535) (by omega) (by decide)
    have ht := f_isTarget (s := q) (by omega)
    cases hq : numOk a 65535 && isTgt q with
    | false =>
      refine ⟨[], rn_else e1 (rn_bind0 hj (rn_else (by simp) (rn_else e6 (rn_if rfl (rn_call hc ?_)))))⟩
      rw [f0, f1]
      refine rn_call hn (rn_bind0 (l := [.bool true]) ?_ (rn_if rfl rfl))
      cases hna : numOk a 65535 with
      | false => exact out_if rfl rfl
      | true =>
        rw [hna, Bool.true_and] at hq
        rw [hq] at ht
        exact out_else (by simp) (out_call ht rfl)
    | true =>
      simp only [Bool.and_eq_true] at hq
      rw [hq.1] at hn
      rw [hq.2] at ht
      obtain ⟨b, hbl, hb⟩ := f_big (c := 2) (by omega) v
      obtain ⟨b2, hb2, hlb⟩ := f_labelBytes (s := q) (by omega)
      refine ⟨b ++ b2 ++ [0], rn_else e1 (rn_bind0 hj (rn_else (by simp) (rn_else e6 (rn_if rfl (rn_call hc ?_)))))⟩
      rw [f0, f1]
      exact rn_call hn (rn_bind0 (l := [.bool false]) (out_else (by simp) (out_call ht rfl)) (rn_else (by simp) (rn_call hb (rn_call hlb (rn_if (cat_ok (by simp only [D.s_str]; omega)) (rn_if (cat_ok (by simp; omega)) rfl))))))
  rw [if_neg k15]
  have e15 : ¬ ((D.int k).i == 15) = true := by simpa using k15
  by_cases k16 : k = 16
  · rw [if_pos k16]; subst k16
    have hc := f_containsB (s := s) .unit (Nat.le_trans h lim_smax)
    unfold txtOk
    by_cases h30 : s.length ≤ 30
    · have e30 : decide (s.length ≤ 30) = true := by simpa using h30
      rw [e30, Bool.true_and]
      cases hq : s.all (fun c => decide (32 ≤ c.toNat) && decide (c.toNat ≤ 126)) with
      | false =>
        rw [hq] at hc
        exact ⟨[], rn_else e1 (rn_bind0 hj (rn_else (by simp) (rn_else e6 (rn_else e15 (rn_if rfl (rn_bind0 (l := [.bool true]) (out_else (fun h => by have h' : (s.length : Int) > 30 := of_decide_eq_true h; omega) (out_call hc rfl)) (rn_if rfl rfl)))))))⟩
      | true =>
        rw [hq] at hc
        obtain ⟨b, hbl, hb⟩ := f_big (c := 1) (by omega) s.length
        exact ⟨b ++ s, rn_else e1 (rn_bind0 hj (rn_else (by simp) (rn_else e6 (rn_else e15 (rn_if rfl (rn_bind0 (l := [.bool false]) (out_else (fun h => by have h' : (s.length : Int) > 30 := of_decide_eq_true h; omega) (out_call hc rfl)) (rn_else (by simp) (rn_call hb (rn_if (cat_ok (by simp only [D.s_str]; omega)) rfl)))))))))⟩
    · have e30 : decide (s.length ≤ 30) = false := by simpa using h30
      rw [e30, Bool.false_and]
      exact ⟨[], rn_else e1 (rn_bind0 hj (rn_else (by simp) (rn_else e6 (rn_else e15 (rn_if rfl (rn_bind0 (l := [.bool true]) (out_if (decide_eq_true (show (s.length : Int) > 30 by omega)) rfl) (rn_if rfl rfl)))))))⟩
  rw [if_neg k16]
  have e16 : ¬ ((D.int k).i == 16) = true := by simpa using k16
  exact ⟨[], rn_else e1 (rn_bind0 hj (rn_else (by simp) (rn_else e6 (rn_else e15 (rn_else e16 rfl)))))⟩

theorem f_l3 {k : Int} {s : List UInt8} (h : s.length ≤ lim) : ∃ b : List UInt8, e_spec_l3Bytes.F [.int k, .str s] = some (.pair (.str b) (.pair (.bool (dataOk k s)) .unit)) := by
  have hlim : lim = 1048576 := rfl
  unfold dataOk
  by_cases k1 : k = 1
  · subst k1; rw [if_pos rfl]; exact f_l3A h
  rw [if_neg k1, q_spec_l3Bytes]
  have e1 : ¬ ((D.int k).i == 1) = true := by simpa using k1
  by_cases k25 : k = 2 ∨ k = 5
  · rw [if_pos k25]
    have ht := f_l3Target h
    have hj : (if (D.int k).i == 2 then ou 0 [.bool ((D.int k).i == 2)] else ou 0 [.bool ((D.int k).i == 5)] : Outc) = some (0, [.bool true]) := by
      rcases k25 with rfl | rfl <;> rfl
    cases hq : isTgt s with
    | false =>
      rw [hq] at ht
      exact ⟨[], rn_else e1 (rn_bind0 hj (rn_if rfl (rn_call ht (rn_if rfl rfl))))⟩
    | true =>
      rw [hq] at ht
      have hn : isName s = true := by unfold isTgt at hq; simp only [Bool.and_eq_true] at hq; exact hq.2.1
      obtain ⟨b, hb, hlb⟩ := f_l2Bytes h hn
      exact ⟨b, rn_else e1 (rn_bind0 hj (rn_if rfl (rn_call ht (rn_else (by simp) (rn_call hlb rfl)))))⟩
  rw [if_neg k25]
  have hj : (if (D.int k).i == 2 then ou 0 [.bool ((D.int k).i == 2)] else ou 0 [.bool ((D.int k).i == 5)] : Outc) = some (0, [.bool false]) := by
    have h2 : ¬ k = 2 := fun h => k25 (.inl h)
    have h5 : ¬ k = 5 := fun h => k25 (.inr h)
    simp [h2, h5]
  by_cases k6 : k = 6
  · rw [if_pos k6]; subst k6
    have hn := f_l1Int h
    have hin := f_l1In (int10 s) 0 4294967295
    rw [int10_in (by decide)] at hin
    obtain ⟨b, _, hb⟩ := f_l3Number (c := 4) (by omega) (int10 s)
    exact ⟨b, rn_else e1 (rn_bind0 hj (rn_else (by simp) (rn_if rfl (rn_call hn (rn_call hb (rn_call hin rfl))))))⟩
  rw [if_neg k6]
  have e6 : ¬ ((D.int k).i == 6) = true := by simpa using k6
  by_cases k15 : k = 15
  · rw [if_pos k15]; subst k15
    have hsp := f_l1Split s 32 h
    have hpm := splB_mem 32 s
    unfold mxOk
    generalize splB 32 s = ps at hsp hpm
    have hlen : (D.lst (ps.map D.str)).l.length = ps.length := by simp
    by_cases h2 : ps.length = 2
    · match ps, h2 with
      | [a, q], _ =>
        have hla := hpm a (by simp)
        have hlq := hpm q (by simp)
        have hn := f_l1Int (s := a) (by omega)
        have hin := f_l1In (int10 a) 0 65535
        rw [int10_in (by decide)] at hin
        have ht := f_l3Target (s := q) (by omega)
        show ∃ b : List UInt8, _ = some (D.pair (.str b) (.pair (.bool (numOk a 65535 && isTgt q)) .unit))
        cases hq : numOk a 65535 && isTgt q with
        | false =>
          refine ⟨[], rn_else e1 (rn_bind0 hj (rn_else (by simp) (rn_else e6 (rn_if rfl (rn_call hsp (rn_bind0 (l := [.bool true]) (out_else (by simp) (out_if rfl (out_call hn (out_call hin ?_)))) (rn_if rfl rfl)))))))⟩
          cases hna : numOk a 65535 with
          | false => exact out_if rfl rfl
          | true =>
            rw [hna, Bool.true_and] at hq
            rw [hq] at ht
            exact out_else (by simp) (out_if rfl (out_call ht rfl))
        | true =>
          simp only [Bool.and_eq_true] at hq
          rw [hq.1] at hin
          rw [hq.2] at ht
          have hnq : isName q = true := by have := hq.2; unfold isTgt at this; simp only [Bool.and_eq_true] at this; exact this.2.1
          obtain ⟨b, hbl, hb⟩ := f_l3Number (c := 2) (by omega) (int10 a)
          obtain ⟨b2, hb2, hlb⟩ := f_l2Bytes (s := q) (by omega) hnq
          exact ⟨b ++ b2, rn_else e1 (rn_bind0 hj (rn_else (by simp) (rn_else e6 (rn_if rfl (rn_call hsp (rn_bind0 (l := [.bool false]) (out_else (by simp) (out_if rfl (out_call hn (out_call hin (out_else (by simp) (out_if rfl (out_call ht rfl))))))) (rn_else (by simp) (rn_if rfl (rn_call hn (rn_call hb (rn_if rfl (rn_call hlb (rn_if (cat_ok (by simp only [D.s_str]; omega)) rfl)))))))))))))⟩
    · have hm : mxP ps = false := by
        match ps, h2 with
        | [], _ => rfl
        | [_], _ => rfl
        | [_, _], h2 => exact absurd rfl h2
        | _ :: _ :: _ :: _, _ => rfl
      rw [hm]
      refine ⟨[], rn_else e1 (rn_bind0 hj (rn_else (by simp) (rn_else e6 (rn_if rfl (rn_call hsp (rn_bind0 (l := [.bool true]) (out_if ?_ rfl) (rn_if rfl rfl)))))))⟩
      rw [hlen]; simp; omega
  rw [if_neg k15]
  have e15 : ¬ ((D.int k).i == 15) = true := by simpa using k15
  by_cases k16 : k = 16
  · rw [if_pos k16]; subst k16
    have hsm := Nat.le_trans h lim_smax
    let q : UInt8 → Bool := fun c => decide (32 ≤ c.toNat) && decide (c.toNat ≤ 126)
    have hb1 := bytesStr_size [.int (IntKind.wrap .u8 (s.length : Int))]
    have hloop := loop_all' (f := fun l3 =>
                  if (decide ((gd l3 0).i < ((D.str s).s.length : Int))) then
                    (if (inb (gd l3 0).i (D.str s).s.length) then
                      if (decide ((byteAt (D.str s).s (gd l3 0).i.toNat : Int) < 32)) then
                        ou 0 [(.bool true)]
                      else
                        ou 0 [(.bool (decide ((byteAt (D.str s).s (gd l3 0).i.toNat : Int) > 126)))]
                      else none).bind fun o4 =>
                    sel2 o4.1 (if (gd o4.2 0).b then
                        ou 1 [(D.str []), (.bool false)]
                      else
                        ou 0 [(.int (IntKind.wrap .i64 ((gd l3 0).i + 1)))]) fun _ => none
                  else
                    ou 2 []) (l := [.int 0]) (fun i => [.int i]) s.length (fun i => q (s.getD i 0)) (t1 := 0) (t2 := 1) (o1 := [.str [], .bool false]) (o2 := []) rfl (by
      intro i hi
      rw [getD_lt hi]
      have hb : byteAt s i = (s[i]).toNat := byteAt_lt hi
      refine out_if (by simpa using hi) (out_bind (r := (0, [.bool !(q s[i])])) (out_if (by simpa using inb_nat hi) ?_) (sel0 ?_))
      · simp only [gd_zero, D.i_int, Int.toNat_natCast, D.s_str, hb, q]
        by_cases hlo : ((s[i]).toNat : Int) < 32
        · have : decide (32 ≤ (s[i]).toNat) = false := by simp; omega
          exact out_if (decide_eq_true hlo) (by rw [this]; rfl)
        · have h1 : decide (32 ≤ (s[i]).toNat) = true := by simp; omega
          refine out_else (fun h => hlo (of_decide_eq_true h)) ?_
          have : decide (((s[i]).toNat : Int) > 126) = !(decide ((s[i]).toNat ≤ 126)) := by
            rw [Bool.eq_iff_iff]; simp; omega
          rw [h1, this]; rfl
      · cases q s[i] with
        | true => simp [wrap_succ hi hsm]
        | false => rfl) (by simp)
    rw [all_allN s q 0] at hloop
    unfold txtOk
    cases hq : s.all (fun c => decide (32 ≤ c.toNat) && decide (c.toNat ≤ 126)) with
    | false =>
      rw [show s.all q = false from hq] at hloop
      exact ⟨[], rn_else e1 (rn_bind0 hj (rn_else (by simp) (rn_else e6 (rn_else e15 (rn_if rfl (rn_bind hloop (by simp)))))))⟩
    | true =>
      rw [show s.all q = true from hq] at hloop
      refine ⟨bytesStr [.int (IntKind.wrap .u8 (s.length : Int))] ++ s, rn_else e1 (rn_bind0 hj (rn_else (by simp) (rn_else e6 (rn_else e15 (rn_if rfl (rn_bind hloop (rn_if (cat_ok ?_) ?_)))))))⟩
      · rw [D.s_str, hb1, List.length_singleton]; omega
      · have : decide ((s.length : Int) ≤ 30) = decide (s.length ≤ 30) := by rw [Bool.eq_iff_iff]; simp; omega
        rw [D.s_str, this, Bool.and_true]; rfl
  rw [if_neg k16]
  have e16 : ¬ ((D.int k).i == 16) = true := by simpa using k16
  exact ⟨[], rn_else e1 (rn_bind0 hj (rn_else (by simp) (rn_else e6 (rn_else e15 (rn_else e16 rfl)))))⟩

theorem data_len {k : Int} {s : List UInt8} (h : dataOk k s = true) : s.length ≤ 100 := by
  have num_len : ∀ {s : List UInt8} {m : Int}, m < 10000000000 → numOk s m = true → s.length ≤ 10 := by
    intro s m hm h
    unfold numOk at h
    simp only [Bool.and_eq_true, decide_eq_true_eq] at h
    rw [(canon_iff s).1 h.1]
    exact dec_len (k := 10) (by omega) (by omega)
  have tgt_len : ∀ {s : List UInt8}, isTgt s = true → s.length ≤ 60 := by
    intro s h
    unfold isTgt isName at h
    simp only [Bool.and_eq_true, decide_eq_true_eq] at h
    exact h.2.1.1
  unfold dataOk at h
  split at h
  · unfold addrOk at h
    simp only [Bool.and_eq_true, List.all_eq_true, decide_eq_true_eq] at h
    have hs := lens_splB 46 s
    obtain ⟨hp, h4⟩ := h
    have hle : ∀ p ∈ splB 46 s, p.length ≤ 10 := fun p hpm => num_len (by decide) (hp p hpm)
    unfold lens at hs
    generalize splB 46 s = ps at hs hle h4
    match ps, h4 with
    | [a, b, c, d], _ =>
      have h1 := hle a (by simp)
      have h2 := hle b (by simp)
      have h3 := hle c (by simp)
      have h5 := hle d (by simp)
      simp at hs
      omega
  · split at h
    · have := tgt_len h; omega
    · split at h
      · have := num_len (by decide) h; omega
      · split at h
        · unfold mxOk at h
          have hs := lens_splB 32 s
          unfold lens at hs
          unfold mxP at h
          split at h
          · rename_i a b hab
            rw [hab] at hs
            simp only [Bool.and_eq_true] at h
            have h1 := num_len (by decide) h.1
            have h2 := tgt_len h.2
            simp at hs
            omega
          · cases h
        · split at h
          · unfold txtOk at h
            simp only [Bool.and_eq_true, decide_eq_true_eq] at h
            omega
          · cases h
end Go.Proofs.YtlflhlgppbbahaaGreatDoor

/-! Records and what is asked: texts. -/
namespace Go.Proofs.YtlflhlgppbbahaaGreatDoor
open Go Go.Own

theorem bytesStr_one (n : Nat) : bytesStr [.int (n : Int)] = [UInt8.ofNat n] := by
  simp only [bytesStr, List.map_cons, List.map_nil, D.i_int, Int.toNat_natCast]
theorem f_numRec : ∀ (k u : Nat), u < 10 ^ (k + 1) → u < 10 ^ 18 → f_rec_spec_l1Num (k + 1) [.int u] = some (.str (Lib.decDigits u))
  | k, u, h, h18 => by
    have hp18 : (10 : Nat) ^ 18 = 1000000000000000000 := by decide
    rw [q_spec_l1Num]
    by_cases hu : u < 10
    · refine rn_if (decide_eq_true (show (u : Int) < 10 by omega)) ?_
      rw [Lib.decDigits_one hu]
      have w1 : IntKind.wrap .i64 (48 + (u : Int)) = ((48 + u : Nat) : Int) := by rw [wrap_id] <;> omega
      have w2 : IntKind.wrap .u8 ((48 + u : Nat) : Int) = ((48 + u : Nat) : Int) := by
        have : IntKind.wrap .u8 ((48 + u : Nat) : Int) = ((48 + u : Nat) : Int) % 256 := by simp [IntKind.wrap, IntKind.bits, IntKind.signed]
        rw [this]; omega
      simp only [D.i_int, w1, w2, bytesStr_one]
      rfl
    · match k, h with
      | 0, h => exact absurd (show u < 10 by simpa using h) hu
      | k + 1, h =>
        have hd : (u : Int).tdiv 10 = ((u / 10 : Nat) : Int) := by rw [Int.tdiv_eq_ediv_of_nonneg (by omega)]; simp
        have hm : (u : Int).tmod 10 = ((u % 10 : Nat) : Int) := by rw [Int.tmod_eq_emod_of_nonneg (by omega)]; simp
        have w0 : IntKind.wrap .i64 ((u / 10 : Nat) : Int) = ((u / 10 : Nat) : Int) := by rw [wrap_id] <;> omega
        have hpk : (10 : Nat) ^ (k + 1 + 1) = 10 ^ (k + 1) * 10 := Nat.pow_succ 10 (k + 1)
        have ih := f_numRec k (u / 10) (by omega) (by omega)
        have w1 : IntKind.wrap .i64 (48 + ((u % 10 : Nat) : Int)) = ((48 + u % 10 : Nat) : Int) := by rw [wrap_id] <;> omega
        have w2 : IntKind.wrap .u8 ((48 + u % 10 : Nat) : Int) = ((48 + u % 10 : Nat) : Int) := by
          have : IntKind.wrap .u8 ((48 + u % 10 : Nat) : Int) = ((48 + u % 10 : Nat) : Int) % 256 := by simp [IntKind.wrap, IntKind.bits, IntKind.signed]
          rw [this]; omega
        have hlen := dec_len (k := 18) (u := u / 10) (by omega) (by omega)
        refine rn_else (fun h => by have h' : (u : Int) < 10 := of_decide_eq_true h; omega) (rn_if (by decide) ?_)
        simp only [D.i_int, hd, hm, w0, w1, w2, bytesStr_one]
        refine rn_call ih (rn_if ?_ ?_)
        · simp [catOk, smax_eq]; omega
        · rw [decDigits_step hu]; rfl
theorem f_num {v : Int} (h0 : 0 ≤ v) (h1 : v < 10 ^ 18) : e_spec_l1Num.F [.int v] = some (.str (Lib.itoa v)) := by
  obtain ⟨u, rfl⟩ := Int.eq_ofNat_of_zero_le h0
  rw [itoa_nat]
  have h18 : u < 10 ^ 18 := by exact_mod_cast h1
  exact f_numRec 39 u (Nat.lt_of_lt_of_le h18 (Nat.pow_le_pow_right (by omega) (by omega))) h18

structure Rec where
  name : List UInt8
  type : Int
  ttl : Int
  data : List UInt8
def Rec.d (r : Rec) : D := .pair (.str r.name) (.pair (.int r.type) (.pair (.int r.ttl) (.pair (.str r.data) .unit)))
structure Rec.In (B : Nat) (r : Rec) : Prop where
  name : r.name.length ≤ B
  data : r.data.length ≤ B
def inP (n lo hi : Int) : Bool := decide (lo ≤ n) && decide (n ≤ hi)
def Rec.ok (r : Rec) : Bool := dataOk r.type r.data && (isName r.name && inP r.ttl 0 100000)
theorem f_withinP (a b c : Int) : e_impl_within.F [.int a, .int b, .int c] = some (.bool (inP a b c)) := f_within a b c
theorem f_l1InP (a b c : Int) : e_spec_l1In.F [.int a, .int b, .int c] = some (.bool (inP a b c)) := f_l1In a b c

theorem f_goodRec {r : Rec} (hr : r.In lim) : e_impl_GoodRecord.F [r.d] = some (.bool r.ok) := by
  rw [q_impl_GoodRecord]
  have f0 : r.d.fld 0 = .str r.name := rfl
  have f1 : r.d.fld 1 = .int r.type := rfl
  have f2 : r.d.fld 2 = .int r.ttl := rfl
  have f3 : r.d.fld 3 = .str r.data := rfl
  rw [f0, f1, f2, f3]
  have hn := f_GoodName r.name
  have hw := f_withinP r.ttl 0 100000
  obtain ⟨b, hd⟩ := f_data (k := r.type) hr.data
  unfold Rec.ok
  cases h1 : isName r.name with
  | false =>
    rw [h1] at hn
    refine rn_bind0 (l := [.bool true]) (out_call hn (out_if rfl rfl)) (rn_if rfl ?_)
    simp
  | true =>
    rw [h1] at hn
    cases h2 : inP r.ttl 0 100000 with
    | false =>
      rw [h2] at hw
      refine rn_bind0 (l := [.bool true]) (out_call hn (out_else (by simp) (out_call hw (out_if rfl rfl)))) (rn_if rfl ?_)
      simp
    | true =>
      rw [h2] at hw
      by_cases h100 : (r.data.length : Int) > 100
      · refine rn_bind0 (l := [.bool true]) (out_call hn (out_else (by simp) (out_call hw (out_else (by simp) ?_)))) (rn_if rfl ?_)
        · rw [D.s_str, decide_eq_true h100]
        · cases h3 : dataOk r.type r.data with
          | false => rfl
          | true => have := data_len h3; omega
      · refine rn_bind0 (l := [.bool false]) (out_call hn (out_else (by simp) (out_call hw (out_else (by simp) ?_)))) (rn_else (by simp) (rn_call hd ?_))
        · rw [D.s_str, decide_eq_false h100]
        · simp
theorem f_goodRecS {r : Rec} (hr : r.In lim) : e_spec_GoodRecord.F [r.d] = some (.bool r.ok) := by
  rw [q_spec_GoodRecord]
  have f0 : r.d.fld 0 = .str r.name := rfl
  have f1 : r.d.fld 1 = .int r.type := rfl
  have f2 : r.d.fld 2 = .int r.ttl := rfl
  have f3 : r.d.fld 3 = .str r.data := rfl
  rw [f0, f1, f2, f3]
  have hn := f_specGoodName r.name hr.name
  have hw := f_l1InP r.ttl 0 100000
  obtain ⟨b, hd⟩ := f_l3 (k := r.type) hr.data
  unfold Rec.ok
  refine rn_call hd (rn_bind0 (l := [.bool (dataOk r.type r.data && (isName r.name && inP r.ttl 0 100000))]) ?_ rfl)
  cases h1 : dataOk r.type r.data with
  | false => exact out_else (by simp) rfl
  | true =>
    refine out_if rfl ?_
    cases h2 : isName r.name with
    | false => rw [h2] at hn; exact out_call hn (out_else (by simp) rfl)
    | true => rw [h2] at hn; exact out_call hn (out_if rfl (out_call hw (by simp)))

/-- a good record's text -/
def told (s : List UInt8) : List UInt8 := if s.isEmpty then [46] else s
def Rec.text (r : Rec) : List UInt8 := (((((told r.name ++ [32]) ++ Lib.itoa r.ttl) ++ [32]) ++ Lib.itoa r.type) ++ [32]) ++ r.data
theorem type_R {r : Rec} (h : r.ok = true) : 0 ≤ r.type ∧ r.type ≤ 16 := by
  unfold Rec.ok dataOk at h
  simp only [Bool.and_eq_true] at h
  have h1 := h.1
  split at h1
  · omega
  · split at h1
    · omega
    · split at h1
      · omega
      · split at h1
        · omega
        · split at h1
          · omega
          · cases h1
structure Rec.Sizes (r : Rec) : Prop where
  name : (told r.name).length ≤ 60
  data : r.data.length ≤ 100
  t0 : 0 ≤ r.ttl
  t1 : r.ttl < 10 ^ 18
  k0 : 0 ≤ r.type
  k1 : r.type < 10 ^ 18
theorem Rec.sizes {r : Rec} (h : r.ok = true) : r.Sizes := by
  have hp18 : (10 : Int) ^ 18 = 1000000000000000000 := by decide
  have ht := type_R h
  unfold Rec.ok at h
  simp only [Bool.and_eq_true, inP, decide_eq_true_eq] at h
  have hn := h.2.1
  unfold isName at hn
  simp only [Bool.and_eq_true, decide_eq_true_eq] at hn
  refine ⟨?_, data_len h.1, by omega, by omega, by omega, by omega⟩
  unfold told
  split
  · simp
  · exact hn.1
theorem Rec.text_len {r : Rec} (h : r.Sizes) : r.text.length ≤ 200 := by
  have h1 := itoa_len h.t0 h.t1
  have h2 := itoa_len h.k0 h.k1
  have h3 := h.name
  have h4 := h.data
  simp only [Rec.text, List.length_append, List.length_singleton]
  omega
theorem cat_s {a b : List UInt8} (h : a.length + b.length ≤ 100000) : catOk a b = true := by
  unfold catOk
  rw [smax_eq]
  exact decide_eq_true (by omega)
end Go.Proofs.YtlflhlgppbbahaaGreatDoor

/-! Orders of texts and lists of texts; names above names. -/
namespace Go.Own
open Go

/-- what compares: a whole order, told in numbers -/
structure Cmp {α : Type} (c : α → α → Int) : Prop where
  refl : ∀ x, c x x = 0
  eq : ∀ x y, c x y = 0 → x = y
  trans : ∀ x y z, c x y ≤ 0 → c y z ≤ 0 → c x z ≤ 0
  anti : ∀ x y, c x y ≤ 0 → c y x ≤ 0 → c x y = 0

def lexC {α : Type} (c : α → α → Int) : List α → List α → Int
  | [], [] => 0
  | [], _ :: _ => -1
  | _ :: _, [] => 1
  | x :: xs, y :: ys => if c x y = 0 then lexC c xs ys else c x y

theorem Cmp.lt {α : Type} {c : α → α → Int} (h : Cmp c) {x y z : α} (h1 : c x y ≤ 0) (h2 : c y z ≤ 0) (h3 : c x y ≠ 0 ∨ c y z ≠ 0) : c x z < 0 := by
  have h4 := h.trans x y z h1 h2
  by_cases h5 : c x z = 0
  · have e := h.eq x z h5
    subst e
    have := h.anti x y h1 h2
    have := h.anti y x h2 h1
    omega
  · omega
theorem Cmp.lex {α : Type} {c : α → α → Int} (h : Cmp c) : Cmp (lexC c) where
  refl := by
    intro x
    induction x with
    | nil => rfl
    | cons a x ih => unfold lexC; rw [if_pos (h.refl a)]; exact ih
  eq := by
    intro x
    induction x with
    | nil => intro y hy; cases y with
      | nil => rfl
      | cons b y => simp [lexC] at hy
    | cons a x ih => intro y hy; cases y with
      | nil => simp [lexC] at hy
      | cons b y =>
        unfold lexC at hy
        split at hy
        · rename_i hab; rw [h.eq a b hab, ih y hy]
        · rename_i hab; exact absurd hy hab
  trans := by
    intro x
    induction x with
    | nil => intro y z _ _; cases z <;> simp [lexC]
    | cons a x ih =>
      intro y z h1 h2
      cases y with
      | nil => simp [lexC] at h1
      | cons b y =>
        cases z with
        | nil => simp [lexC] at h2
        | cons d z =>
          unfold lexC at h1 h2 ⊢
          by_cases e1 : c a b = 0
          · have := h.eq a b e1; subst this
            rw [if_pos e1] at h1
            by_cases e2 : c a d = 0
            · rw [if_pos e2] at h2 ⊢; exact ih y z h1 h2
            · rw [if_neg e2] at h2 ⊢; exact h2
          · rw [if_neg e1] at h1
            by_cases e2 : c b d = 0
            · have := h.eq b d e2; subst this
              rw [if_neg e1]; exact h1
            · rw [if_neg e2] at h2
              have := h.lt h1 h2 (.inl e1)
              rw [if_neg (by omega)]; omega
  anti := by
    intro x
    induction x with
    | nil => intro y h1 h2; cases y with
      | nil => rfl
      | cons b y => simp [lexC] at h2
    | cons a x ih =>
      intro y h1 h2
      cases y with
      | nil => simp [lexC] at h1
      | cons b y =>
        unfold lexC at h1 h2 ⊢
        by_cases e1 : c a b = 0
        · have := h.eq a b e1; subst this
          rw [if_pos e1] at h1 h2 ⊢; exact ih y h1 h2
        · rw [if_neg e1] at h1 ⊢
          by_cases e2 : c b a = 0
          · have := h.eq b a e2; subst this; exact absurd e2 e1
          · rw [if_neg e2] at h2; exact h.anti a b h1 h2

def intC (a b : Int) : Int := if a < b then -1 else if b < a then 1 else 0
theorem intC_cmp : Cmp intC where
  refl := by intro x; simp [intC]
  eq := by intro x y; unfold intC; repeat' split
           all_goals omega
  trans := by intro x y z; unfold intC; repeat' split
              all_goals omega
  anti := by intro x y; unfold intC; repeat' split
             all_goals omega
theorem compareBytes_lex : ∀ a b : List UInt8, Lib.compareBytes a b = lexC (fun x y : UInt8 => intC x.toNat y.toNat) a b
  | [], [] => rfl
  | [], _ :: _ => rfl
  | _ :: _, [] => rfl
  | x :: a, y :: b => by
    unfold Lib.compareBytes lexC intC
    have ih := compareBytes_lex a b
    by_cases h1 : x < y
    · have : (x.toNat : Int) < y.toNat := by have := UInt8.lt_iff_toNat_lt.1 h1; omega
      simp [h1, this]
    · by_cases h2 : y < x
      · have : (y.toNat : Int) < x.toNat := by have := UInt8.lt_iff_toNat_lt.1 h2; omega
        have h3 : ¬ (x.toNat : Int) < y.toNat := by omega
        simp [h1, h2, this, h3]
      · have h3 : ¬ (x.toNat : Int) < y.toNat := fun h => h1 (UInt8.lt_iff_toNat_lt.2 (by omega))
        have h4 : ¬ (y.toNat : Int) < x.toNat := fun h => h2 (UInt8.lt_iff_toNat_lt.2 (by omega))
        rw [if_neg h1, if_neg h2, if_neg h3, if_neg h4, if_pos rfl]
        exact ih
theorem byteC_cmp : Cmp (fun x y : UInt8 => intC x.toNat y.toNat) where
  refl := by intro x; exact intC_cmp.refl _
  eq := by intro x y h; have := intC_cmp.eq _ _ h; exact UInt8.toNat_inj.1 (by omega)
  trans := by intro x y z; exact intC_cmp.trans _ _ _
  anti := by intro x y; exact intC_cmp.anti _ _
theorem cmpBytes : Cmp Lib.compareBytes := by
  have h := byteC_cmp.lex
  have e : Lib.compareBytes = lexC (fun x y : UInt8 => intC x.toNat y.toNat) := by funext a b; exact compareBytes_lex a b
  rw [e]; exact h

/-! names above a name -/
def parent : List UInt8 → List UInt8
  | [] => []
  | c :: s => if c = 46 then s else parent s
theorem parent_len : ∀ {s : List UInt8}, s ≠ [] → (parent s).length < s.length
  | [], h => absurd rfl h
  | c :: s, _ => by
    unfold parent
    split
    · simp
    · cases s with
      | nil => simp [parent]
      | cons d s => have := parent_len (s := d :: s) (by simp); simp at this ⊢; omega
/-- a name is another one or below it -/
def bel (a b : List UInt8) : Bool := a == b || (b.isEmpty || (46 :: b).isSuffixOf a)
inductive Up : List UInt8 → List UInt8 → Prop
  | refl (a) : Up a a
  | step {a b} : a ≠ [] → Up (parent a) b → Up a b
theorem Up.len {a b} (h : Up a b) : a = b ∨ b.length < a.length := by
  induction h with
  | refl a => exact .inl rfl
  | step h1 _ ih => have := parent_len h1; rcases ih with rfl | ih <;> right <;> omega
theorem Up.trans {a b c} (h : Up a b) (h2 : Up b c) : Up a c := by
  induction h with
  | refl a => exact h2
  | step h1 _ ih => exact .step h1 (ih h2)
theorem Up.anti {a b} (h : Up a b) (h2 : Up b a) : a = b := by
  rcases h.len with h | h
  · exact h
  · rcases h2.len with h3 | h3
    · exact h3.symm
    · omega
theorem up_nil : ∀ (n : Nat) (a : List UInt8), a.length ≤ n → Up a []
  | 0, a, h => by cases a with
    | nil => exact .refl _
    | cons => simp at h
  | n + 1, a, h => by
    by_cases h0 : a = []
    · subst h0; exact .refl _
    · exact .step h0 (up_nil n _ (by have := parent_len h0; omega))
theorem parent_app : ∀ (x b : List UInt8), (∃ y, parent (x ++ 46 :: b) = y ++ 46 :: b) ∨ parent (x ++ 46 :: b) = b
  | [], b => .inr (by simp [parent])
  | c :: x, b => by
    simp only [List.cons_append]
    unfold parent
    split
    · exact .inl ⟨x, rfl⟩
    · exact parent_app x b
theorem up_suffix : ∀ (n : Nat) (x b : List UInt8), x.length ≤ n → Up (x ++ 46 :: b) b
  | n, x, b, h => by
    refine .step (by simp) ?_
    rcases parent_app x b with ⟨y, hy⟩ | hy
    · rw [hy]
      have hl := parent_len (s := x ++ 46 :: b) (by simp)
      rw [hy] at hl
      simp at hl
      match n with
      | 0 => omega
      | n + 1 => exact up_suffix n y b (by omega)
    · rw [hy]; exact .refl _
theorem parent_shape : ∀ (s : List UInt8), parent s = [] ∨ ∃ x, s = x ++ 46 :: parent s
  | [] => .inl rfl
  | c :: s => by
    unfold parent
    split
    · rename_i h; exact .inr ⟨[], by simp [h]⟩
    · rcases parent_shape s with h | ⟨x, h⟩
      · exact .inl h
      · exact .inr ⟨c :: x, by rw [List.cons_append, ← h]⟩
theorem bel_iff {a b : List UInt8} : bel a b = true ↔ Up a b := by
  unfold bel
  simp only [Bool.or_eq_true, beq_iff_eq, List.isEmpty_iff, List.isSuffixOf_iff_suffix]
  constructor
  · rintro (rfl | rfl | ⟨x, rfl⟩)
    · exact .refl _
    · exact up_nil _ _ (Nat.le_refl _)
    · exact up_suffix _ x b (Nat.le_refl _)
  · intro h
    induction h with
    | refl a => exact .inl rfl
    | @step a b h1 _ ih =>
      rcases ih with h | h | ⟨x, h⟩
      · rcases parent_shape a with h2 | ⟨x, h2⟩
        · exact .inr (.inl (by rw [← h, h2]))
        · rw [h] at h2; exact .inr (.inr ⟨x, h2.symm⟩)
      · exact .inr (.inl h)
      · rcases parent_shape a with h2 | ⟨y, h2⟩
        · rw [h2] at h; simp at h
        · rw [← h] at h2; exact .inr (.inr ⟨y ++ 46 :: x, by rw [h2]; simp⟩)

/-- the walk from a name up to an apex: the last name found with a mark -/
def walkUp (apex : List UInt8) (m : List UInt8 → Bool) : Nat → List UInt8 → Option (List UInt8) → Option (List UInt8)
  | 0, _, o => o
  | n + 1, s, o => if s ≠ apex ∧ bel s apex = true then
      (if s = [] then (if m s then some s else o) else walkUp apex m n (parent s) (if m s then some s else o))
    else o
theorem walk_sound {apex : List UInt8} {m : List UInt8 → Bool} {s0 : List UInt8} : ∀ (n : Nat) (s : List UInt8) (o : Option (List UInt8)), Up s0 s →
    (∀ x, o = some x → m x = true ∧ Up s0 x ∧ x ≠ apex ∧ bel x apex = true) → ∀ x, walkUp apex m n s o = some x → m x = true ∧ Up s0 x ∧ x ≠ apex ∧ bel x apex = true
  | 0, s, o, _, ho, x, hx => ho x hx
  | n + 1, s, o, hs, ho, x, hx => by
    unfold walkUp at hx
    split at hx
    · rename_i hc
      have ho' : ∀ x, (if m s then some s else o) = some x → m x = true ∧ Up s0 x ∧ x ≠ apex ∧ bel x apex = true := by
        intro x hx
        split at hx
        · rename_i hm; cases hx; exact ⟨hm, hs, hc.1, hc.2⟩
        · exact ho x hx
      split at hx
      · exact ho' x hx
      · rename_i h0
        exact walk_sound n _ _ (hs.trans (.step h0 (.refl _))) ho' x hx
    · exact ho x hx
theorem walk_keep {apex : List UInt8} {m : List UInt8 → Bool} {c : List UInt8} : ∀ (n : Nat) (s : List UInt8) (o : Option (List UInt8)), Up c s → (∃ x, o = some x ∧ Up c x) → ∃ x, walkUp apex m n s o = some x ∧ Up c x
  | 0, s, o, _, ho => ho
  | n + 1, s, o, hs, ho => by
    unfold walkUp
    have ho' : ∃ x, (if m s then some s else o) = some x ∧ Up c x := by
      split
      · exact ⟨s, rfl, hs⟩
      · exact ho
    split
    · split
      · exact ho'
      · rename_i h0; exact walk_keep n _ _ (hs.trans (.step h0 (.refl _))) ho'
    · exact ho
theorem walk_hits {apex : List UInt8} {m : List UInt8 → Bool} {c : List UInt8} (hm : m c = true) (hc : c ≠ apex) (hb : bel c apex = true) {s : List UInt8} (h : Up s c) : ∀ (n : Nat) (o : Option (List UInt8)), s.length < n → ∃ x, walkUp apex m n s o = some x ∧ Up c x := by
  induction h with
  | refl a =>
    intro n o hn
    match n, hn with
    | n + 1, hn =>
      unfold walkUp
      rw [if_pos ⟨hc, hb⟩, if_pos hm]
      split
      · exact ⟨a, rfl, .refl _⟩
      · rename_i h0; exact walk_keep n _ _ (.step h0 (.refl _)) ⟨a, rfl, .refl _⟩
  | @step a b h1 h2 ih =>
    intro n o hn
    match n, hn with
    | n + 1, hn =>
      have hab : Up a b := .step h1 h2
      have hap : Up a apex := hab.trans (bel_iff.1 hb)
      have hne : a ≠ apex := by
        rintro rfl
        exact hc (Up.anti (bel_iff.1 hb) hab)
      unfold walkUp
      rw [if_pos ⟨hne, bel_iff.2 hap⟩, if_neg h1]
      exact ih hm hc hb n _ (by have := parent_len h1; omega)
end Go.Own
