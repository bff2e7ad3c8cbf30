/- What the functions compute, in plain words. -/
import Derived.Test.YtbanjbafckgghaaDoorCq
set_option linter.unusedSectionVars false
set_option linter.unusedVariables false
set_option linter.unusedSimpArgs false
/-! Texts cut at a byte; labels. -/
namespace Go.Own
variable [Glb]
open Go Go.Lib

/-- a text cut at a byte -/
def splB (b : UInt8) : List UInt8 → List (List UInt8)
  | [] => [[]]
  | c :: s => if c = b then [] :: splB b s else match splB b s with
    | p :: ps => (c :: p) :: ps
    | [] => [[c]]
theorem splB_ne (b : UInt8) : ∀ s, splB b s ≠ []
  | [] => by simp [splB]
  | c :: s => by
    unfold splB
    split
    · simp
    · split <;> simp
theorem splB_none {b : UInt8} : ∀ {s : List UInt8}, b ∉ s → splB b s = [s]
  | [], _ => rfl
  | c :: s, h => by
    simp only [List.mem_cons, not_or] at h
    unfold splB
    rw [if_neg (Ne.symm h.1), splB_none h.2]
theorem splB_cut {b : UInt8} : ∀ {p q : List UInt8}, b ∉ p → splB b (p ++ b :: q) = p :: splB b q
  | [], q, _ => by simp [splB]
  | c :: p, q, h => by
    simp only [List.mem_cons, not_or] at h
    rw [List.cons_append, splB, if_neg (Ne.symm h.1), splB_cut h.2]
theorem mem_cut {b : UInt8} : ∀ {s : List UInt8}, b ∈ s → ∃ p q, s = p ++ b :: q ∧ b ∉ p
  | c :: s, h => by
    by_cases hc : c = b
    · exact ⟨[], s, by simp [hc], by simp⟩
    · simp only [List.mem_cons] at h
      obtain ⟨p, q, h1, h2⟩ := mem_cut (h.resolve_left (Ne.symm hc))
      exact ⟨c :: p, q, by simp [h1], by simp [Ne.symm hc, h2]⟩
theorem index_one_none {b : UInt8} : ∀ {s : List UInt8}, b ∉ s → Lib.index s [b] = -1
  | [], _ => rfl
  | c :: s, h => by
    simp only [List.mem_cons, not_or] at h
    have hp : ([b] : List UInt8).isPrefixOf (c :: s) = false := by simp [List.isPrefixOf, h.1]
    rw [Lib.index, hp, index_one_none h.2]; rfl
theorem index_one_cut {b : UInt8} : ∀ {p q : List UInt8}, b ∉ p → Lib.index (p ++ b :: q) [b] = (p.length : Int)
  | [], q, _ => by
    have hp : ([b] : List UInt8).isPrefixOf (b :: q) = true := by simp [List.isPrefixOf]
    rw [List.nil_append, Lib.index, hp]; rfl
  | c :: p, q, h => by
    simp only [List.mem_cons, not_or] at h
    have hp : ([b] : List UInt8).isPrefixOf (c :: (p ++ b :: q)) = false := by simp [List.isPrefixOf, h.1]
    rw [List.cons_append, Lib.index, hp, index_one_cut h.2]
    have : ((p.length : Int) == -1) = false := by rw [beq_eq_false_iff_ne]; omega
    simp [this]
theorem splitK_one (b : UInt8) : ∀ (k : Nat) (s : List UInt8), s.count b = k → Lib.splitK [b] 0 k s = splB b s
  | 0, s, h => by
    rw [splB_none (List.count_eq_zero.1 h)]; rfl
  | k + 1, s, h => by
    have hm : b ∈ s := List.count_pos_iff.1 (by omega)
    obtain ⟨p, q, rfl, hp⟩ := mem_cut hm
    have hc : q.count b = k := by
      rw [List.count_append, List.count_eq_zero.2 hp, List.count_cons_self] at h
      omega
    unfold Lib.splitK
    rw [index_one_cut hp, splB_cut hp]
    have : ((p.length : Int) == -1) = false := by rw [beq_eq_false_iff_ne]; omega
    rw [this]
    simp only [Bool.false_eq_true, if_false, Int.toNat_natCast, Nat.add_zero, List.take_left', List.length_cons, List.length_nil]
    rw [show p.length + (0 + 1) = p.length + 1 from rfl, List.drop_append, List.drop_eq_nil_of_le (by omega)]
    simp [splitK_one b k q hc]

theorem splitL_one (s : List UInt8) (b : UInt8) : splitL s [b] = splB b s := by
  unfold splitL
  rw [Lib.splitB_data]
  simp only [mkS_data]
  show Lib.splitK [b] 0 (Lib.count (mkS s).data.toList (mkS [b]).data.toList) s = _
  rw [mkS_data, mkS_data, Lib.count_one]
  exact splitK_one b _ s rfl

theorem splB_len (b : UInt8) : ∀ s, (splB b s).length ≤ s.length + 1
  | [] => by simp [splB]
  | c :: s => by
    have ih := splB_len b s
    unfold splB
    split
    · simp; omega
    · split
      · rename_i h; rw [h] at ih; simp at ih ⊢; omega
      · simp
theorem splB_mem (b : UInt8) : ∀ s, ∀ p ∈ splB b s, p.length ≤ s.length
  | [], p, h => by simp [splB] at h; simp [h]
  | c :: s, p, h => by
    have ih := splB_mem b s
    unfold splB at h
    split at h
    · simp only [List.mem_cons] at h
      rcases h with rfl | h
      · simp
      · have := ih p h; simp; omega
    · split at h
      · rename_i q qs hq
        simp only [List.mem_cons] at h
        rcases h with rfl | h
        · have := ih q (by simp [hq]); simp; omega
        · have := ih p (by simp [hq, h]); simp; omega
      · simp at h; simp [h]

/-- the signs of a label -/
def labelSet : List UInt8 := [97, 98, 99, 100, 101, 102, 103, 104, 105, 106, 107, 108, 109, 110, 111, 112, 113, 114, 115, 116, 117, 118, 119, 120, 121, 122, 48, 49, 50, 51, 52, 53, 54, 55, 56, 57, 45, 95]
def isSign (c : UInt8) : Bool := (decide (97 ≤ c.toNat) && decide (c.toNat ≤ 122)) || ((decide (48 ≤ c.toNat) && decide (c.toNat ≤ 57)) || (decide (c.toNat = 45) || decide (c.toNat = 95)))
theorem isSign_set (c : UInt8) : labelSet.contains c = isSign c := by
  have h : ∀ n : Fin 256, labelSet.contains (UInt8.ofNat n) = isSign (UInt8.ofNat n) := by decide +kernel
  have := h ⟨c.toNat, c.toNat_lt⟩
  simpa using this
theorem trimS_nil (l cs : List UInt8) : Lib.trimS l cs = [] ↔ ∀ c ∈ l, cs.contains c = true := by
  have h1 : ∀ l : List UInt8, l.dropWhile (cs.contains ·) = [] ↔ ∀ c ∈ l, cs.contains c = true := by
    intro l
    induction l with
    | nil => simp
    | cons a l ih =>
      by_cases ha : cs.contains a = true
      · rw [List.dropWhile_cons_of_pos ha, ih]; simp [ha]
        intro _; simpa using ha
      · rw [List.dropWhile_cons_of_neg ha]
        simp only [reduceCtorEq, false_iff]
        intro h; exact ha (h a (by simp))
  unfold Lib.trimS Lib.trimLeftS
  rw [h1]
  unfold Lib.trimRightS
  constructor
  · intro h
    by_cases he : l.reverse.dropWhile (cs.contains ·) = []
    · rw [h1] at he
      intro c hc; exact he c (by simpa using hc)
    · exfalso
      have := List.head_dropWhile_not (cs.contains ·) (l := l.reverse) he
      rw [h _ (by simp [List.head_mem])] at this
      cases this
  · intro h c hc
    refine h c ?_
    have := (List.dropWhile_sublist (cs.contains ·) (l := l.reverse)).mem (List.mem_reverse.1 hc)
    simpa using this
/-- a label -/
def isLab (s : List UInt8) : Bool := s == [42] || ((decide (1 ≤ s.length) && decide (s.length ≤ 20)) && s.all isSign)
/-- a name -/
def isName (s : List UInt8) : Bool := decide (s.length ≤ 60) && (s.isEmpty || (decide ((splB 46 s).length ≤ 8) && (splB 46 s).all isLab))
end Go.Own

/-! Names, as the program and as the reference know them. -/
namespace Go.Proofs.YtbanjbafckgghaaDoor
open Go Go.Own

theorem f_split (s : List UInt8) (h : s.length < 4294967281) : e_strings_Split.F [.str s, .str [46]] = some (.lst ((splB 46 s).map .str)) := by
  rw [show e_strings_Split.F = splitF from by unfold e_strings_Split splitE; rfl]
  unfold splitF
  refine (if_pos ⟨h, by decide⟩).trans ?_
  simp [splitL_one]
theorem f_trim (s : List UInt8) : e_strings_Trim.F [.str s, .str labelSet] = some (.str (Lib.trimS s labelSet)) := by
  rw [show e_strings_Trim.F = trimF from by unfold e_strings_Trim trimE; rfl]
  unfold trimF
  exact if_pos ⟨by decide, by decide⟩

theorem f_within (a b c : Int) : e_impl_within.F [.int a, .int b, .int c] = some (.bool (decide (b ≤ a) && decide (a ≤ c))) := by
  rw [q_impl_within]
  by_cases h : b ≤ a <;> simp [h]
  rfl
theorem f_l1In (a b c : Int) : e_spec_l1In.F [.int a, .int b, .int c] = some (.bool (decide (b ≤ a) && decide (a ≤ c))) := by
  rw [q_spec_l1In]
  by_cases h : b ≤ a <;> simp [h]
  rfl

theorem f_isLabel (s : List UInt8) : e_impl_isLabel.F [.str s] = some (.bool (isLab s)) := by
  rw [q_impl_isLabel]
  by_cases h0 : s = [42]
  · subst h0; simp [isLab]
  · have h0' : (s == [42]) = false := by simpa using h0
    have hw := f_within (s.length : Int) 1 20
    have ht := f_trim s
    unfold labelSet at ht
    by_cases h1 : 1 ≤ s.length ∧ s.length ≤ 20
    · have e1 : (decide ((1 : Int) ≤ s.length) && decide ((s.length : Int) ≤ 20)) = true := by simp; omega
      rw [e1] at hw
      have key : (Lib.trimS s labelSet == []) = s.all isSign := by
        rw [Bool.eq_iff_iff, beq_iff_eq, trimS_nil, List.all_eq_true]
        simp only [isSign_set]
      have key2 := key
      unfold labelSet at key2
      simp only [D.s_str, h0', Bool.false_eq_true, if_false, hw, Option.bind_some, D.b_bool, if_true, ht]
      simp [isLab, h0', key2, h1.1, h1.2]
    · have e1 : (decide ((1 : Int) ≤ s.length) && decide ((s.length : Int) ≤ 20)) = false := by
        cases h : (decide ((1 : Int) ≤ s.length) && decide ((s.length : Int) ≤ 20)) with
        | false => rfl
        | true => simp at h; omega
      rw [e1] at hw
      have e2 : (decide (1 ≤ s.length) && decide (s.length ≤ 20)) = false := by
        cases h : (decide (1 ≤ s.length) && decide (s.length ≤ 20)) with
        | false => rfl
        | true => simp at h; omega
      simp only [D.s_str, h0', Bool.false_eq_true, if_false, hw, Option.bind_some, D.b_bool]
      simp [isLab, h0', e2]

theorem f_containsLab (ls : List (List UInt8)) (u : D) (hl : ls.length ≤ smax) : e_slices_ContainsFunc_string_string__impl_GoodName_1.F [.lst (ls.map .str), u] = some (.bool !(ls.all isLab)) := by
  have h1 : ∀ s : List UInt8, e_impl_GoodName_1.F [.str s] = some (.bool !(isLab s)) := fun s => by
    rw [q_impl_GoodName_1, f_isLabel]; rfl
  rw [q_slices_ContainsFunc_string_string__impl_GoodName_1]
  have key : ∃ r : Int, e_slices_IndexFunc_string_string__impl_GoodName_1.F [.lst (ls.map .str), u] = some (.int r) ∧ decide (r ≥ 0) = !(ls.all isLab) := by
    rw [q_slices_IndexFunc_string_string__impl_GoodName_1]
    have hle : (ls.map D.str).length = ls.length := by simp
    have := find_ex (c := fun o2 => sel2 o2.1 (ou 0 [(gd o2.2 0)]) fun n2 => sel2 n2 (ou 0 [(.int (-1))]) fun _ => none) (Q := fun d => ∃ r : Int, d = .int r ∧ decide (r ≥ 0) = !(ls.all isLab))
      (f := fun l2 =>
      if (decide ((gd l2 0).i < (((D.lst (ls.map .str)).l).length : Int))) then
        if (inb (gd l2 0).i ((D.lst (ls.map .str)).l).length) then
        (e_impl_GoodName_1.F [(gd ((D.lst (ls.map .str)).l) (gd l2 0).i.toNat)]).bind fun r3 =>
        if r3.b then
          ou 1 [(gd l2 0)]
        else
          ou 0 [(.int (IntKind.wrap .i64 ((gd l2 0).i + 1)))]
        else none
      else
        ou 2 []) (l := [.int 0]) (fun i => [.int i]) ls.length (fun i => isLab (ls.getD i [])) (t1 := 0) (t2 := 1) (o1 := fun i => [.int i]) (o2 := []) rfl ?_ ?_ ?_ ?_ ?_
    · obtain ⟨d, h1, r, rfl, h2⟩ := this
      exact ⟨r, h1, h2⟩
    · intro i hi hp
      have hg : gd (ls.map D.str) i = .str (ls.getD i []) := by rw [gd_lt (by simpa using hi)]; simp [hi]
      simp [hi, inb_nat hi, wrap_succ hi hl, hg, h1] at *
      simp [hp]
    · intro i hi hp
      have hg : gd (ls.map D.str) i = .str (ls.getD i []) := by rw [gd_lt (by simpa using hi)]; simp [hi]
      simp [hi, inb_nat hi, wrap_succ hi hl, hg, h1] at *
      simp [hp]
    · simp
    · intro hall
      refine ⟨.int (-1), rfl, -1, rfl, ?_⟩
      have : ls.all isLab = true := by
        rw [List.all_eq_true]
        intro x hx
        obtain ⟨i, hi, rfl⟩ := List.getElem_of_mem hx
        have := hall i hi
        simpa [hi] using this
      rw [this]; rfl
    · intro j hj hp _
      refine ⟨.int j, rfl, j, rfl, ?_⟩
      have : ls.all isLab = false := by
        rw [List.all_eq_false]
        exact ⟨ls[j], List.getElem_mem hj, by simpa [hj] using hp⟩
      rw [this]; simp
  obtain ⟨r, h2, h3⟩ := key
  refine rn_call h2 ?_
  rw [← h3]; rfl

theorem f_labelsOf (s : List UInt8) (h : s.length < 4294967281) : e_impl_labelsOf.F [.str s] = some (.lst ((if s.isEmpty then [] else splB 46 s).map .str)) := by
  rw [q_impl_labelsOf]
  cases s with
  | nil => rfl
  | cons c s =>
    have : ((c :: s) == ([] : List UInt8)) = false := rfl
    simp only [D.s_str, this, Bool.false_eq_true, if_false]
    rw [f_split _ h]; rfl

theorem f_GoodName (s : List UInt8) : e_impl_GoodName.F [.str s] = some (.bool (isName s)) := by
  rw [q_impl_GoodName]
  by_cases h : s.length ≤ 60
  · refine rn_else (by simp; omega) (rn_call (f_labelsOf s (by omega)) ?_)
    have hle : (if s.isEmpty then [] else splB 46 s).length ≤ 61 := by
      split
      · simp
      · have := splB_len 46 s; omega
    have hn : isName s = (decide ((if s.isEmpty then [] else splB 46 s).length ≤ 8) && (if s.isEmpty then [] else splB 46 s).all isLab) := by
      cases he : s.isEmpty <;> simp [isName, h, he]
    rw [hn]
    generalize (if s.isEmpty then [] else splB 46 s) = ls at hle ⊢
    by_cases h2 : ls.length ≤ 8
    · refine rn_bind (out_if (by simp; omega) (out_call (f_containsLab ls _ (by rw [smax_eq]; omega)) rfl)) ?_
      simp [h2]
    · refine rn_bind (out_else (by simp; omega) rfl) ?_
      simp [h2]
  · refine rn_if (by simp; omega) ?_
    simp [isName, h]
end Go.Proofs.YtbanjbafckgghaaDoor

/-! Names, as the reference knows them. -/
namespace Go.Proofs.YtbanjbafckgghaaDoor
open Go Go.Own

theorem byteAt_lt {s : List UInt8} {i : Nat} (h : i < s.length) : byteAt s i = (s[i]).toNat := by
  unfold byteAt; rw [List.getD_eq_getElem?_getD, List.getElem?_eq_getElem h]; rfl

/-- the pieces that have been cut, and what is left -/
structure Cut (b : UInt8) (s : List UInt8) (i : Nat) (out : List (List UInt8)) (from' : Nat) : Prop where
  le : from' ≤ i
  no : b ∉ (s.take i).drop from'
  eq : out ++ splB b (s.drop from') = splB b s
  len : out.length ≤ i

theorem Cut.zero (b : UInt8) (s : List UInt8) : Cut b s 0 [] 0 := ⟨Nat.le_refl _, by simp, by simp, by simp⟩
theorem Cut.miss {b : UInt8} {s : List UInt8} {i fr : Nat} {out : List (List UInt8)} (h : Cut b s i out fr) (hi : i < s.length) (hb : s[i] ≠ b) : Cut b s (i + 1) out fr := by
  refine ⟨by have := h.le; omega, ?_, h.eq, by have := h.len; omega⟩
  rw [List.take_succ_eq_append_getElem hi, List.drop_append_of_le_length (by simp; have := h.le; omega)]
  simp only [List.mem_append, not_or]
  exact ⟨h.no, by simpa using Ne.symm hb⟩
theorem Cut.hit {b : UInt8} {s : List UInt8} {i fr : Nat} {out : List (List UInt8)} (h : Cut b s i out fr) (hi : i < s.length) (hb : s[i] = b) : Cut b s (i + 1) (out ++ [(s.take i).drop fr]) (i + 1) := by
  refine ⟨Nat.le_refl _, ?_, ?_, by have := h.len; simp; omega⟩
  · rw [List.drop_eq_nil_of_le (by simp; omega)]; simp
  · rw [← h.eq]
    have e : s.drop fr = (s.take i).drop fr ++ b :: s.drop (i + 1) := by
      conv => lhs; rw [← List.take_append_drop i s]
      rw [List.drop_append_of_le_length (by simp; have := h.le; omega), List.drop_eq_getElem_cons hi, hb]
    rw [e, splB_cut h.no, List.append_assoc]; rfl

theorem f_l1Split (s : List UInt8) (b : UInt8) (hl : s.length ≤ lim) : e_spec_l1Split.F [.str s, .int b.toNat] = some (.lst ((splB b s).map .str)) := by
  have hlim : lim = 1048576 := rfl
  have hsm := smax_eq
  rw [q_spec_l1Split]
  have happ : ∀ (l : List (List UInt8)) (x : D), l.length ≤ lim → appOk 16 (l.map D.str) [x] = true := by
    intro l x h
    simp [appOk, smax_eq]; omega
  have key : ∃ (out : List (List UInt8)) (fr : Nat), Cut b s s.length out fr ∧ ∀ k : Nat × List D → Outc, rn ((loopF (fun l2 =>
      if (decide ((gd l2 2).i < ((D.str s).s.length : Int))) then
        (if (inb (gd l2 2).i (D.str s).s.length) then
          if ((byteAt (D.str s).s (gd l2 2).i.toNat : Int) == (D.int b.toNat).i) then
            if (slOk (gd l2 1).i (gd l2 2).i ((D.str s).s.length : Int)) then
            if (appOk 16 (gd l2 0).l ((.str (((D.str s).s.take (gd l2 2).i.toNat).drop (gd l2 1).i.toNat)) :: ([] : List D))) then
            ou 0 [(D.lst ((gd l2 0).l ++ ((.str (((D.str s).s.take (gd l2 2).i.toNat).drop (gd l2 1).i.toNat)) :: ([] : List D)))), (.int (IntKind.wrap .i64 ((gd l2 2).i + 1)))]
            else none
            else none
          else
            ou 0 [(gd l2 0), (gd l2 1)]
          else none).bind fun o5 =>
        sel2 o5.1 (ou 0 [(gd o5.2 0), (gd o5.2 1), (.int (IntKind.wrap .i64 ((gd l2 2).i + 1)))]) fun _ => none
      else
        ou 1 [(gd l2 0), (gd l2 1)]) [(D.lst []), (.int 0), (.int 0)]).bind k) = rn (k (0, [.lst (out.map .str), .int fr])) := by
    have st : ∀ n, n ≤ s.length → ∃ (out : List (List UInt8)) (fr : Nat), Cut b s n out fr ∧ ∀ R, loopF (fun l2 =>
      if (decide ((gd l2 2).i < ((D.str s).s.length : Int))) then
        (if (inb (gd l2 2).i (D.str s).s.length) then
          if ((byteAt (D.str s).s (gd l2 2).i.toNat : Int) == (D.int b.toNat).i) then
            if (slOk (gd l2 1).i (gd l2 2).i ((D.str s).s.length : Int)) then
            if (appOk 16 (gd l2 0).l ((.str (((D.str s).s.take (gd l2 2).i.toNat).drop (gd l2 1).i.toNat)) :: ([] : List D))) then
            ou 0 [(D.lst ((gd l2 0).l ++ ((.str (((D.str s).s.take (gd l2 2).i.toNat).drop (gd l2 1).i.toNat)) :: ([] : List D)))), (.int (IntKind.wrap .i64 ((gd l2 2).i + 1)))]
            else none
            else none
          else
            ou 0 [(gd l2 0), (gd l2 1)]
          else none).bind fun o5 =>
        sel2 o5.1 (ou 0 [(gd o5.2 0), (gd o5.2 1), (.int (IntKind.wrap .i64 ((gd l2 2).i + 1)))]) fun _ => none
      else
        ou 1 [(gd l2 0), (gd l2 1)]) [.lst (out.map .str), .int fr, .int n] = R → loopF (fun l2 =>
      if (decide ((gd l2 2).i < ((D.str s).s.length : Int))) then
        (if (inb (gd l2 2).i (D.str s).s.length) then
          if ((byteAt (D.str s).s (gd l2 2).i.toNat : Int) == (D.int b.toNat).i) then
            if (slOk (gd l2 1).i (gd l2 2).i ((D.str s).s.length : Int)) then
            if (appOk 16 (gd l2 0).l ((.str (((D.str s).s.take (gd l2 2).i.toNat).drop (gd l2 1).i.toNat)) :: ([] : List D))) then
            ou 0 [(D.lst ((gd l2 0).l ++ ((.str (((D.str s).s.take (gd l2 2).i.toNat).drop (gd l2 1).i.toNat)) :: ([] : List D)))), (.int (IntKind.wrap .i64 ((gd l2 2).i + 1)))]
            else none
            else none
          else
            ou 0 [(gd l2 0), (gd l2 1)]
          else none).bind fun o5 =>
        sel2 o5.1 (ou 0 [(gd o5.2 0), (gd o5.2 1), (.int (IntKind.wrap .i64 ((gd l2 2).i + 1)))]) fun _ => none
      else
        ou 1 [(gd l2 0), (gd l2 1)]) [(D.lst []), (.int 0), (.int 0)] = R := by
      intro n
      induction n with
      | zero => intro _; exact ⟨[], 0, Cut.zero b s, fun R h => h⟩
      | succ n ih =>
        intro hn
        obtain ⟨out, fr, hc, hR⟩ := ih (by omega)
        have hi : n < s.length := by omega
        by_cases hb : s[n] = b
        · refine ⟨_, _, hc.hit hi hb, fun R h => hR R ?_⟩
          rw [loopF_step ?_]
          · exact h
          · have hsl : slOk (fr : Int) (n : Int) (s.length : Int) = true := by
              have := hc.le
              simp [slOk]; omega
            have ha := happ out (.str ((s.take n).drop fr)) (by have := hc.len; omega)
            simp [hi, inb_nat hi, wrap_succ hi (Nat.le_trans hl lim_smax), byteAt_lt hi, hb, hsl, ha]
        · refine ⟨_, _, hc.miss hi hb, fun R h => hR R ?_⟩
          rw [loopF_step ?_]
          · exact h
          · have hb' : ¬ ((s[n].toNat : Int) = (b.toNat : Int)) := fun e => hb (UInt8.toNat_inj.1 (by omega))
            simp [hi, inb_nat hi, wrap_succ hi (Nat.le_trans hl lim_smax), byteAt_lt hi, hb']
    obtain ⟨out, fr, hc, hR⟩ := st s.length (Nat.le_refl _)
    refine ⟨out, fr, hc, fun k => ?_⟩
    rw [hR _ (loopF_exit (t := 0) (l' := [.lst (out.map .str), .int fr]) ?_)]
    · rfl
    · simp
  obtain ⟨out, fr, hc, hk⟩ := key
  rw [hk]
  have hsl : slOk (fr : Int) (s.length : Int) (s.length : Int) = true := by
    have := hc.le
    simp [slOk]; omega
  have ha := happ out (.str ((s.take s.length).drop fr)) (by have := hc.len; omega)
  have hno : b ∉ s.drop fr := by have := hc.no; rwa [List.take_of_length_le (Nat.le_refl _)] at this
  have he := hc.eq
  rw [splB_none hno] at he
  simp only [List.take_length] at ha
  simp [hsl, ha, ← he]

theorem f_l1Label (s : List UInt8) (hl : s.length ≤ smax) : e_spec_l1Label.F [.str s] = some (.bool (isLab s)) := by
  rw [q_spec_l1Label]
  by_cases h0 : s = [42]
  · subst h0; simp [isLab]
  · have h0' : (s == [42]) = false := by simpa using h0
    refine rn_else (by simpa using h0) ?_
    refine rn_bind (loop_all' (fun i => [.int i]) s.length (fun i => isSign (s.getD i 0)) (t1 := 0) (t2 := 1) (o1 := []) (o2 := []) rfl ?_ ?_) ?_
    · intro i hi
      have hg : s.getD i 0 = s[i] := by simp [hi]
      rw [hg]
      refine out_if (by simpa using hi) (out_if (by simpa using inb_nat hi) ?_)
      have hb : (byteAt (D.str s).s (gd [D.int (i : Int)] 0).i.toNat : Int) = ((s[i].toNat : Nat) : Int) := by simp [byteAt_lt hi]
      rw [hb]
      generalize s[i] = c
      have hw : D.int (IntKind.wrap .i64 ((gd [D.int (i : Int)] 0).i + 1)) = .int ((i + 1 : Nat) : Int) := by simp [wrap_succ hi hl]
      rw [hw]
      cases hs : isSign c with
      | true =>
        refine out_bind (r := (0, [.bool false])) ?_ (by simp)
        simp only [isSign, Bool.or_eq_true, Bool.and_eq_true, decide_eq_true_eq] at hs
        by_cases c1 : (97 : Int) ≤ c.toNat <;> by_cases c2 : (c.toNat : Int) ≤ 122 <;> by_cases c3 : (48 : Int) ≤ c.toNat <;> by_cases c4 : (c.toNat : Int) ≤ 57 <;> by_cases c5 : (c.toNat : Int) = 45 <;> by_cases c6 : (c.toNat : Int) = 95 <;> simp [c1, c2, c3, c4, c5, c6] <;> omega
      | false =>
        refine out_bind (r := (0, [.bool true])) ?_ (by simp)
        simp only [isSign, Bool.or_eq_false_iff, Bool.and_eq_false_iff, decide_eq_false_iff_not] at hs
        by_cases c1 : (97 : Int) ≤ c.toNat <;> by_cases c2 : (c.toNat : Int) ≤ 122 <;> by_cases c3 : (48 : Int) ≤ c.toNat <;> by_cases c4 : (c.toNat : Int) ≤ 57 <;> by_cases c5 : (c.toNat : Int) = 45 <;> by_cases c6 : (c.toNat : Int) = 95 <;> simp [c1, c2, c3, c4, c5, c6] <;> omega
    · simp
    · have hall : allN s.length (fun i => isSign (s.getD i 0)) = s.all isSign := by
        rw [Bool.eq_iff_iff, allN_true, List.all_eq_true]
        constructor
        · intro h c hc
          obtain ⟨i, hi, rfl⟩ := List.getElem_of_mem hc
          simpa [hi] using h i hi
        · intro h i hi
          simpa [hi] using h _ (List.getElem_mem hi)
      rw [hall]
      cases hs : s.all isSign with
      | false => simp [isLab, h0', hs]
      | true =>
        refine rn_call (f_l1In _ _ _) ?_
        have e1 : (decide ((1 : Int) ≤ s.length) && decide ((s.length : Int) ≤ 20)) = (decide (1 ≤ s.length) && decide (s.length ≤ 20)) := by
          rw [Bool.eq_iff_iff]; simp; omega
        simp [isLab, h0', hs]
        exact e1

theorem f_l1Labels (s : List UInt8) (hl : s.length ≤ lim) : ∃ d : D, e_spec_l1Labels.F [.str s] = some (.pair d (.pair (.bool (isName s)) .unit)) := by
  have hlim : lim = 1048576 := rfl
  rw [q_spec_l1Labels]
  by_cases h0 : s = []
  · subst h0; exact ⟨_, rfl⟩
  · have hemp : s.isEmpty = false := by cases s <;> simp_all
    have hsl := splB_len 46 s
    have hmem := splB_mem 46 s
    have hname : isName s = ((splB 46 s).all isLab && (decide (s.length ≤ 60) && decide ((splB 46 s).length ≤ 8))) := by
      simp [isName, hemp]
      cases (splB 46 s).all isLab <;> cases decide (s.length ≤ 60) <;> cases decide ((splB 46 s).length ≤ 8) <;> rfl
    have hsp := f_l1Split s 46 hl
    rw [hname]
    generalize splB 46 s = ls at hsl hmem hsp ⊢
    have hlab : ∀ i, i < ls.length → e_spec_l1Label.F [gd (ls.map D.str) i] = some (.bool (isLab (ls.getD i []))) := by
      intro i hi
      rw [gd_lt (by simpa using hi)]
      simp only [List.getElem_map]
      rw [f_l1Label _ (by have := hmem _ (List.getElem_mem hi); rw [smax_eq]; omega)]
      simp [hi]
    have key := loop_all' (f := fun l2 =>
        if (decide ((gd l2 0).i < ((D.lst (ls.map D.str)).l.length : Int))) then
          if (inb (gd l2 0).i (D.lst (ls.map D.str)).l.length) then
          (e_spec_l1Label.F [(gd (D.lst (ls.map D.str)).l (gd l2 0).i.toNat)]).bind fun r3 =>
          if (!r3.b) then
            ou 1 []
          else
            ou 0 [(.int (IntKind.wrap .i64 ((gd l2 0).i + 1)))]
          else none
        else
          ou 2 []) (l := [.int 0]) (fun i => [.int i]) ls.length (fun i => isLab (ls.getD i [])) (t1 := 0) (t2 := 1) (o1 := []) (o2 := []) rfl (by
      intro i hi
      have := hlab i hi
      cases hp : isLab (ls.getD i []) with
      | true => rw [hp] at this; simp [hi, inb_nat hi, wrap_succ hi (show ls.length ≤ smax by rw [smax_eq]; omega), this]
      | false => rw [hp] at this; simp [hi, inb_nat hi, this]) (by simp)
    have hall : allN ls.length (fun i => isLab (ls.getD i [])) = ls.all isLab := by
      rw [Bool.eq_iff_iff, allN_true, List.all_eq_true]
      constructor
      · intro h c hc
        obtain ⟨i, hi, rfl⟩ := List.getElem_of_mem hc
        simpa [hi] using h i hi
      · intro h i hi
        simpa [hi] using h _ (List.getElem_mem hi)
    rw [hall] at key
    cases hs : ls.all isLab with
    | false =>
      rw [hs] at key
      exact ⟨_, rn_else (by simpa using h0) (rn_call hsp (rn_bind key rfl))⟩
    | true =>
      rw [hs] at key
      by_cases h60 : s.length ≤ 60
      · refine ⟨.lst (ls.map .str), rn_else (by simpa using h0) (rn_call hsp (rn_bind key (rn_bind (out_if ?_ rfl) ?_)))⟩
        · exact decide_eq_true (show (s.length : Int) ≤ 60 by omega)
        have e : decide (((D.lst (ls.map D.str)).l.length : Int) ≤ 8) = decide (ls.length ≤ 8) := by rw [Bool.eq_iff_iff]; simp; omega
        simp only [Bool.true_and, decide_eq_true h60, ← e]
        rfl
      · refine ⟨.lst (ls.map .str), rn_else (by simpa using h0) (rn_call hsp (rn_bind key (rn_bind (out_else ?_ rfl) ?_)))⟩
        · exact fun h => absurd (of_decide_eq_true h) (show ¬ (s.length : Int) ≤ 60 by omega)
        simp only [Bool.true_and, decide_eq_false h60, Bool.false_and]
        rfl

theorem f_specGoodName (s : List UInt8) (hl : s.length ≤ lim) : e_spec_GoodName.F [.str s] = some (.bool (isName s)) := by
  rw [q_spec_GoodName]
  obtain ⟨d, h⟩ := f_l1Labels s hl
  exact rn_call h rfl
end Go.Proofs.YtbanjbafckgghaaDoor

/-! Health: the words, and when it is good. -/
namespace Go.Proofs.YtbanjbafckgghaaDoor
open Go Go.Own

structure Host where
  name : List UInt8
  up : Bool
  row : Int
  deriving DecidableEq
structure Health where
  rise : Int
  fall : Int
  hosts : List Host
  deriving DecidableEq
structure Prb where
  host : Int
  fine : Bool
  deriving DecidableEq
def Host.d (x : Host) : D := .pair (.str x.name) (.pair (.bool x.up) (.pair (.int x.row) .unit))
def Health.d (h : Health) : D := .pair (.int h.rise) (.pair (.int h.fall) (.pair (.lst (h.hosts.map Host.d)) .unit))
def Prb.d (p : Prb) : D := .pair (.int p.host) (.pair (.bool p.fine) .unit)
def Health.nul : Health := ⟨0, 0, []⟩

def inR (n lo hi : Int) : Bool := decide (lo ≤ n) && decide (n ≤ hi)
def Health.most (h : Health) (x : Host) : Int := if x.up then h.fall else h.rise
/-- a name is there ahead of a place -/
def seen (l : List (List UInt8)) (s : List UInt8) : Bool := l.any (· == s)
def nameOk (l : List (List UInt8)) (i : Nat) : Bool := !(l.getD i []).isEmpty && (isName (l.getD i []) && !seen (l.take i) (l.getD i []))
def Health.names (h : Health) : List (List UInt8) := h.hosts.map (·.name)
def Health.rowOk (h : Health) (x : Host) : Bool := inR x.row 0 (h.most x - 1)
def Health.good (h : Health) : Bool := (inR h.rise 1 10 && (inR h.fall 1 10 && inR h.hosts.length 1 12)) && (h.hosts.all h.rowOk && allN h.hosts.length (nameOk h.names))

/-- what a law's argument is -/
structure Health.Fit (h : Health) : Prop where
  len : h.hosts.length ≤ lim
  nm : ∀ x ∈ h.hosts, x.name.length ≤ lim
  row : ∀ x ∈ h.hosts, -9223372036854775808 ≤ x.row ∧ x.row ≤ 9223372036854775807
  rise : -9223372036854775808 ≤ h.rise ∧ h.rise ≤ 9223372036854775807
  fall : -9223372036854775808 ≤ h.fall ∧ h.fall ≤ 9223372036854775807

theorem gd_hosts {xs : List Host} {i : Nat} (hi : i < xs.length) : gd (xs.map Host.d) i = xs[i].d := by
  rw [gd_lt (by simpa using hi)]; simp
theorem Health.names_get {h : Health} {i : Nat} (hi : i < h.hosts.length) : h.names.getD i [] = h.hosts[i].name := by
  simp [Health.names, hi]

theorem f_within' (a b c : Int) : e_impl_within.F [.int a, .int b, .int c] = some (.bool (inR a b c)) := f_within a b c
theorem f_l1In' (a b c : Int) : e_spec_l1In.F [.int a, .int b, .int c] = some (.bool (inR a b c)) := f_l1In a b c

theorem f_mostRow (h : Health) (x : Host) : e_impl_Health_mostRow.F [h.d, x.d] = some (.int (h.most x)) := by
  rw [q_impl_Health_mostRow]
  cases hu : x.up <;> simp [Health.d, Host.d, Health.most, hu]
theorem f_l13Most (h : Health) (x : Host) : e_spec_l13Most.F [h.d, x.d] = some (.int (h.most x)) := by
  rw [q_spec_l13Most]
  cases hu : x.up <;> simp [Health.d, Host.d, Health.most, hu]

theorem f_containsHost (xs : List Host) (x : Host) (u : D) (hl : xs.length ≤ smax) : e_slices_ContainsFunc_impl_Host_impl_Host__impl_GoodHealth_1.F [.lst (xs.map Host.d), .pair x.d u] = some (.bool (seen (xs.map (·.name)) x.name)) := by
  rw [q_slices_ContainsFunc_impl_Host_impl_Host__impl_GoodHealth_1]
  have key : ∃ r, e_slices_IndexFunc_impl_Host_impl_Host__impl_GoodHealth_1.F [.lst (xs.map Host.d), .pair x.d u] = some r ∧ ∃ n : Int, r = .int n ∧ decide (n ≥ 0) = seen (xs.map (·.name)) x.name := by
    rw [q_slices_IndexFunc_impl_Host_impl_Host__impl_GoodHealth_1]
    have hp : ∀ i (hi : i < xs.length), e_impl_GoodHealth_1.F [xs[i].d, x.d] = some (.bool (xs[i].name == x.name)) := by
      intro i hi; rw [q_impl_GoodHealth_1]; rfl
    refine find_ex (fun i => [.int i]) xs.length (fun i => !((xs.getD i ⟨[], false, 0⟩).name == x.name)) (t1 := 0) (t2 := 1) (o1 := fun i => [.int i]) (o2 := []) rfl ?_ ?_ ?_ ?_ ?_
    · intro i hi h
      simp only [List.getD_eq_getElem?_getD, List.getElem?_eq_getElem hi, Option.getD_some] at h
      have h' : (xs[i].name == x.name) = false := by simpa using h
      have := hp i hi
      rw [h'] at this
      simp [hi, inb_nat hi, wrap_succ hi hl, gd_hosts hi, this]
    · intro i hi h
      simp only [List.getD_eq_getElem?_getD, List.getElem?_eq_getElem hi, Option.getD_some] at h
      have h' : (xs[i].name == x.name) = true := by simpa using h
      have := hp i hi
      rw [h'] at this
      simp [hi, inb_nat hi, gd_hosts hi, this]
    · simp
    · intro hall
      refine ⟨_, rfl, -1, rfl, ?_⟩
      have : seen (xs.map (·.name)) x.name = false := by
        unfold seen
        rw [List.any_eq_false]
        intro s hs
        obtain ⟨y, hy, rfl⟩ := List.mem_map.1 hs
        obtain ⟨i, hi, rfl⟩ := List.getElem_of_mem hy
        have := hall i hi
        simpa [hi] using this
      rw [this]; rfl
    · intro j hj hp' _
      refine ⟨_, rfl, j, rfl, ?_⟩
      have : seen (xs.map (·.name)) x.name = true := by
        unfold seen
        rw [List.any_eq_true]
        exact ⟨xs[j].name, List.mem_map.2 ⟨_, List.getElem_mem hj, rfl⟩, by simpa [hj] using hp'⟩
      rw [this]; simp
  obtain ⟨r, h1, n, rfl, h2⟩ := key
  refine rn_call h1 ?_
  rw [← h2]; rfl

theorem wrap_pred {n : Int} (h : inR n 1 10 = true) : IntKind.wrap .i64 (n - 1) = n - 1 := by
  simp only [inR, Bool.and_eq_true, decide_eq_true_eq] at h
  exact wrap_id (by omega) (by omega)

theorem Health.most_R {h : Health} (h1 : inR h.rise 1 10 = true) (h2 : inR h.fall 1 10 = true) (x : Host) : inR (h.most x) 1 10 = true := by
  unfold Health.most; split <;> assumption

/-- one host is right, as the program looks at it -/
def Health.hostOk (h : Health) (i : Nat) : Bool := h.rowOk (h.hosts.getD i ⟨[], false, 0⟩) && nameOk h.names i

theorem Health.all_hosts (h : Health) : allN h.hosts.length h.hostOk = (h.hosts.all h.rowOk && allN h.hosts.length (nameOk h.names)) := by
  rw [Bool.eq_iff_iff, Bool.and_eq_true, allN_true, allN_true, List.all_eq_true]
  constructor
  · intro ha
    refine ⟨fun x hx => ?_, fun i hi => ?_⟩
    · obtain ⟨i, hi, rfl⟩ := List.getElem_of_mem hx
      have := ha i hi
      simp only [Health.hostOk, Bool.and_eq_true] at this
      simpa [hi] using this.1
    · have := ha i hi
      simp only [Health.hostOk, Bool.and_eq_true] at this
      exact this.2
  · rintro ⟨h1, h2⟩ i hi
    simp only [Health.hostOk, Bool.and_eq_true]
    refine ⟨?_, h2 i hi⟩
    have := h1 _ (List.getElem_mem hi)
    simpa [hi] using this

theorem rn_boolR {o : Outc} {b c : Bool} (h : rn o = some (.bool b)) (hb : b = c) : rn o = some (.bool c) := hb ▸ h

theorem f_implGoodHealth (h : Health) (hf : h.hosts.length ≤ smax) : e_impl_GoodHealth.F [h.d] = some (.bool h.good) := by
  rw [q_impl_GoodHealth]
  have hd0 : h.d.fld 0 = .int h.rise := rfl
  have hd1 : h.d.fld 1 = .int h.fall := rfl
  have hd2 : h.d.fld 2 = .lst (h.hosts.map Host.d) := rfl
  have hlen : (h.d.fld 2).l.length = h.hosts.length := by rw [hd2]; simp
  have w1 := f_within' h.rise 1 10
  have w2 := f_within' h.fall 1 10
  have w3 := f_within' h.hosts.length 1 12
  rw [hd0, hd1, hlen]
  cases r1 : inR h.rise 1 10 with
  | false =>
    rw [r1] at w1
    refine rn_bind (r := (0, [.bool true])) (out_call w1 (out_if rfl rfl)) ?_
    simp [Health.good, r1]
  | true =>
    rw [r1] at w1
    cases r2 : inR h.fall 1 10 with
    | false =>
      rw [r2] at w2
      refine rn_bind (r := (0, [.bool true])) (out_call w1 (out_else (by simp) (out_call w2 (out_if rfl rfl)))) ?_
      simp [Health.good, r2]
    | true =>
      rw [r2] at w2
      refine rn_bind (r := (0, [.bool !(inR h.hosts.length 1 12)])) (out_call w1 (out_else (by simp) (out_call w2 (out_else (by simp) (out_call w3 rfl))))) ?_
      cases r3 : inR h.hosts.length 1 12 with
      | false => simp [Health.good, r3]
      | true =>
        simp only [sel2_zero, gd_zero]
        refine rn_else (by decide) ?_
        refine rn_bind (loop_all' (fun i => [.int i]) h.hosts.length h.hostOk (t1 := 0) (t2 := 1) (o1 := [.bool false]) (o2 := []) rfl ?_ ?_) ?_
        · intro i hi
          have hg : gd (h.d.fld 2).l i = h.hosts[i].d := by rw [hd2]; exact gd_hosts hi
          refine out_if (by simpa using hi) (out_if (by simpa using inb_nat hi) ?_)
          have e0 : (gd [D.int (i : Int)] 0).i.toNat = i := by simp
          have e1 : (gd [D.int (i : Int)] 0).i = i := rfl
          rw [e0, e1, hg]
          have hx0 : h.hosts[i].d.fld 0 = .str h.hosts[i].name := rfl
          have hx2 : h.hosts[i].d.fld 2 = .int h.hosts[i].row := rfl
          rw [hx0, hx2]
          have hnm := f_GoodName h.hosts[i].name
          have hms := f_mostRow h h.hosts[i]
          have hwi := f_within' h.hosts[i].row 0 (h.most h.hosts[i] - 1)
          have hwr := wrap_pred (Health.most_R r1 r2 h.hosts[i])
          have hok : h.hostOk i = (inR h.hosts[i].row 0 (h.most h.hosts[i] - 1) && (!h.hosts[i].name.isEmpty && (isName h.hosts[i].name && !seen (h.names.take i) h.hosts[i].name))) := by
            unfold Health.hostOk nameOk Health.rowOk
            rw [Health.names_get hi]
            simp [hi]
          have hnext : D.int (IntKind.wrap .i64 ((i : Int) + 1)) = .int ((i + 1 : Nat) : Int) := by rw [wrap_succ hi hf]
          rw [hok, hnext]
          by_cases n0 : h.hosts[i].name = []
          · refine out_bind (r := (0, [.bool true])) (out_if (by simp [n0]) rfl) ?_
            simp [n0]
          · have n0' : h.hosts[i].name.isEmpty = false := by cases hq : h.hosts[i].name <;> simp_all
            cases n1 : isName h.hosts[i].name with
            | false =>
              rw [n1] at hnm
              refine out_bind (r := (0, [.bool true])) (out_else (by simpa using n0) (out_call hnm (out_if rfl rfl))) ?_
              simp
            | true =>
              rw [n1] at hnm
              cases n2 : inR h.hosts[i].row 0 (h.most h.hosts[i] - 1) with
              | false =>
                rw [n2] at hwi
                refine out_bind (r := (0, [.bool true])) (out_else (by simpa using n0) (out_call hnm (out_else (by simp) (out_call hms ?_)))) ?_
                · simp only [D.i_int, hwr]; exact out_call hwi (out_if rfl rfl)
                · simp
              | true =>
                rw [n2] at hwi
                have hsl : slOk 0 (i : Int) ((h.hosts.length : Nat) : Int) = true := by simp [slOk]; omega
                have hct := f_containsHost (h.hosts.take i) h.hosts[i] .unit (by rw [List.length_take]; omega)
                have htk : (List.take i (h.d.fld 2).l).drop 0 = (h.hosts.take i).map Host.d := by rw [hd2]; simp [List.map_take]
                refine out_bind (r := (0, [.bool (seen (h.names.take i) h.hosts[i].name)])) (out_else (by simpa using n0) (out_call hnm (out_else (by simp) (out_call hms ?_)))) ?_
                · simp only [D.i_int, hwr]
                  refine out_call hwi (out_else (by simp) (out_if hsl ?_))
                  rw [htk]
                  refine out_call hct ?_
                  simp [Health.names, List.map_take]
                · cases n3 : seen (h.names.take i) h.hosts[i].name <;> simp [n0']
        · simp
        · rw [Health.all_hosts]
          cases hb : (h.hosts.all h.rowOk && allN h.hosts.length (nameOk h.names)) <;> simp [Health.good, r1, r2, r3, hb]
end Go.Proofs.YtbanjbafckgghaaDoor

/-! Health: the reference's looks. -/
namespace Go.Proofs.YtbanjbafckgghaaDoor
open Go Go.Own

theorem gd_strs {ls : List (List UInt8)} {i : Nat} (hi : i < ls.length) : gd (ls.map D.str) i = .str (ls.getD i []) := by
  rw [gd_lt (by simpa using hi)]; simp [hi]

theorem f_l13Names (ls : List (List UInt8)) (hl : ls.length ≤ lim) (hm : ∀ s ∈ ls, s.length ≤ lim) : e_spec_l13Names.F [.lst (ls.map .str)] = some (.bool (allN ls.length (nameOk ls) && inR ls.length 1 12)) := by
  have hs := Nat.le_trans hl lim_smax
  rw [q_spec_l13Names]
  have hlen : (D.lst (ls.map D.str)).l.length = ls.length := by simp
  rw [hlen]
  have hb := loop_all' (f := fun l1 =>
      if (decide ((gd l1 0).i < (ls.length : Int))) then
        if (inb (gd l1 0).i ls.length) then
        ((e_spec_GoodName.F [(gd (D.lst (ls.map D.str)).l (gd l1 0).i.toNat)]).bind fun r2 =>
          if (!r2.b) then
            ou 0 [(.bool true)]
          else
            ou 0 [(.bool ((gd (D.lst (ls.map D.str)).l (gd l1 0).i.toNat).s == ([] : List UInt8)))]).bind fun o2 =>
        sel2 o2.1 (if (gd o2.2 0).b then
            ou 1 [(.bool false)]
          else
            if (slOk 0 (gd l1 0).i (ls.length : Int)) then
            (loopF (fun l3 =>
                if (decide ((gd l3 0).i < ((((D.lst (ls.map D.str)).l.take (gd l1 0).i.toNat).drop 0).length : Int))) then
                  if (inb (gd l3 0).i (((D.lst (ls.map D.str)).l.take (gd l1 0).i.toNat).drop 0).length) then
                  if ((gd (D.lst (((D.lst (ls.map D.str)).l.take (gd l1 0).i.toNat).drop 0)).l (gd l3 0).i.toNat).s == (gd (D.lst (ls.map D.str)).l (gd l1 0).i.toNat).s) then
                    ou 1 [(.bool false)]
                  else
                    ou 0 [(.int (IntKind.wrap .i64 ((gd l3 0).i + 1)))]
                  else none
                else
                  ou 2 []) [(.int 0)]).bind fun o3 =>
            sel2 o3.1 (ou 1 [(gd o3.2 0)]) fun n12 =>
            sel2 n12 (ou 0 [(.int (IntKind.wrap .i64 ((gd l1 0).i + 1)))]) fun _ => none
            else none) fun _ => none
        else none
      else
        ou 2 []) (l := [.int 0]) (fun i => [.int i]) ls.length (nameOk ls) (t1 := 0) (t2 := 1) (o1 := [.bool false]) (o2 := []) rfl ?_ ?_
  · rw [hb]
    cases hn : allN ls.length (nameOk ls) with
    | false => rfl
    | true =>
      refine rn_call (f_l1In' _ _ _) ?_
      rfl
  · intro i hi
    have hg : gd (D.lst (ls.map D.str)).l i = .str (ls.getD i []) := gd_strs hi
    refine out_if (by simpa using hi) (out_if (by simpa using inb_nat hi) ?_)
    have e0 : (gd [D.int (i : Int)] 0).i.toNat = i := by simp
    have e1 : (gd [D.int (i : Int)] 0).i = i := rfl
    rw [e0, e1, hg]
    have hmem : ls.getD i [] ∈ ls := by simp [hi]
    have hgn := f_specGoodName (ls.getD i []) (hm _ hmem)
    have hnext : D.int (IntKind.wrap .i64 ((i : Int) + 1)) = .int ((i + 1 : Nat) : Int) := by rw [wrap_succ hi hs]
    rw [hnext]
    unfold nameOk
    generalize hx : ls.getD i [] = x at hgn hmem ⊢
    cases n1 : isName x with
    | false =>
      rw [n1] at hgn
      refine out_bind (r := (0, [.bool true])) (out_call hgn (out_if rfl rfl)) ?_
      simp
    | true =>
      rw [n1] at hgn
      refine out_bind (r := (0, [.bool (x == [])])) (out_call hgn (out_else (by simp) rfl)) ?_
      cases x with
      | nil => simp
      | cons c x =>
        simp only [sel2_zero, gd_zero]
        refine out_else (by simp) (out_if (by simp [slOk]; omega) ?_)
        have hlt : (((D.lst (ls.map D.str)).l.take i).drop 0).length = (ls.take i).length := by simp
        have htl : (ls.take i).length ≤ smax := by rw [List.length_take]; omega
        have hin := loop_find (f := fun l3 =>
                if (decide ((gd l3 0).i < ((((D.lst (ls.map D.str)).l.take i).drop 0).length : Int))) then
                  if (inb (gd l3 0).i (((D.lst (ls.map D.str)).l.take i).drop 0).length) then
                  if ((gd (D.lst (((D.lst (ls.map D.str)).l.take i).drop 0)).l (gd l3 0).i.toNat).s == (D.str (c :: x)).s) then
                    ou 1 [(.bool false)]
                  else
                    ou 0 [(.int (IntKind.wrap .i64 ((gd l3 0).i + 1)))]
                  else none
                else
                  ou 2 []) (l := [.int 0]) (fun j => [.int j]) (ls.take i).length (fun j => !((ls.take i).getD j [] == c :: x)) (t1 := 0) (t2 := 1) (o1 := fun _ => [.bool false]) (o2 := []) rfl ?_ ?_ ?_
        · rcases hin with ⟨h1, h2⟩ | ⟨k, hk, h1, _, h2⟩
          · rw [h2]
            have : seen (ls.take i) (c :: x) = false := by
              unfold seen
              rw [List.any_eq_false]
              intro s hs'
              obtain ⟨j, hj, rfl⟩ := List.getElem_of_mem hs'
              have := h1 j hj
              rw [List.getD_eq_getElem?_getD, List.getElem?_eq_getElem hj] at this
              simpa using this
            rw [this]; rfl
          · rw [h2]
            have : seen (ls.take i) (c :: x) = true := by
              unfold seen
              rw [List.any_eq_true]
              rw [List.getD_eq_getElem?_getD, List.getElem?_eq_getElem hk] at h1
              exact ⟨_, List.getElem_mem hk, by simpa using h1⟩
            rw [this]; rfl
        · intro j hj h
          have hgj : gd (D.lst (((D.lst (ls.map D.str)).l.take i).drop 0)).l j = .str ((ls.take i).getD j []) := by
            have : (D.lst (((D.lst (ls.map D.str)).l.take i).drop 0)).l = (ls.take i).map D.str := by simp [List.map_take]
            rw [this, gd_strs hj]
          have h' : ((ls.take i).getD j [] == c :: x) = false := by simpa using h
          refine out_if (by rw [hlt]; simpa using hj) (out_if (by rw [hlt]; simpa using inb_nat hj) (out_else ?_ ?_))
          · have e0 : (gd [D.int (j : Int)] 0).i.toNat = j := by simp
            rw [e0, hgj]; simp only [D.s_str]; rw [h']; simp
          · have := wrap_succ hj htl
            simp [this]
        · intro j hj h
          have hgj : gd (D.lst (((D.lst (ls.map D.str)).l.take i).drop 0)).l j = .str ((ls.take i).getD j []) := by
            have : (D.lst (((D.lst (ls.map D.str)).l.take i).drop 0)).l = (ls.take i).map D.str := by simp [List.map_take]
            rw [this, gd_strs hj]
          have h' : ((ls.take i).getD j [] == c :: x) = true := by simpa using h
          refine out_if (by rw [hlt]; simpa using hj) (out_if (by rw [hlt]; simpa using inb_nat hj) (out_if ?_ rfl))
          have e0 : (gd [D.int (j : Int)] 0).i.toNat = j := by simp
          rw [e0, hgj]; simp only [D.s_str]; exact h'
        · simp
  · simp

theorem f_specGoodHealth (h : Health) (hf : h.Fit) : e_spec_GoodHealth.F [h.d] = some (.bool h.good) := by
  rw [q_spec_GoodHealth]
  have hsm := Nat.le_trans hf.len lim_smax
  have hd0 : h.d.fld 0 = .int h.rise := rfl
  have hd1 : h.d.fld 1 = .int h.fall := rfl
  have hd2 : h.d.fld 2 = .lst (h.hosts.map Host.d) := rfl
  have hlen : (h.d.fld 2).l.length = h.hosts.length := by rw [hd2]; simp
  rw [hd0, hd1, hlen]
  -- a row is looked at with what wraps
  let rk : Nat → Bool := fun i => inR (h.hosts.getD i ⟨[], false, 0⟩).row 0 (IntKind.wrap .i64 (h.most (h.hosts.getD i ⟨[], false, 0⟩) - 1))
  have hnl : ∀ i, i ≤ h.hosts.length → (h.names.take i).length = i := fun i hi => by simp [Health.names]; omega
  have key : ∀ k : Nat × List D → Outc, rn ((loopF (fun l1 =>
      if (decide ((gd l1 1).i < (h.hosts.length : Int))) then
        if (inb (gd l1 1).i h.hosts.length) then
        (e_spec_l13Most.F [h.d, (gd (h.d.fld 2).l (gd l1 1).i.toNat)]).bind fun r3 =>
        (e_spec_l1In.F [((gd (h.d.fld 2).l (gd l1 1).i.toNat).fld 2), (.int 0), (.int (IntKind.wrap .i64 (r3.i - 1)))]).bind fun r4 =>
        if (!r4.b) then
          ou 1 []
        else
          if (appOk 16 (gd l1 0).l (((gd (h.d.fld 2).l (gd l1 1).i.toNat).fld 0) :: ([] : List D))) then
          ou 0 [(D.lst ((gd l1 0).l ++ (((gd (h.d.fld 2).l (gd l1 1).i.toNat).fld 0) :: ([] : List D)))), (.int (IntKind.wrap .i64 ((gd l1 1).i + 1)))]
          else none
        else none
      else
        ou 2 [(gd l1 0)]) [(D.lst []), (.int 0)]).bind k) = rn (k (cond (allN h.hosts.length rk) (1, [.lst (h.names.map .str)]) (0, []))) := by
    intro k
    have := loop_all' (f := fun l1 =>
      if (decide ((gd l1 1).i < (h.hosts.length : Int))) then
        if (inb (gd l1 1).i h.hosts.length) then
        (e_spec_l13Most.F [h.d, (gd (h.d.fld 2).l (gd l1 1).i.toNat)]).bind fun r3 =>
        (e_spec_l1In.F [((gd (h.d.fld 2).l (gd l1 1).i.toNat).fld 2), (.int 0), (.int (IntKind.wrap .i64 (r3.i - 1)))]).bind fun r4 =>
        if (!r4.b) then
          ou 1 []
        else
          if (appOk 16 (gd l1 0).l (((gd (h.d.fld 2).l (gd l1 1).i.toNat).fld 0) :: ([] : List D))) then
          ou 0 [(D.lst ((gd l1 0).l ++ (((gd (h.d.fld 2).l (gd l1 1).i.toNat).fld 0) :: ([] : List D)))), (.int (IntKind.wrap .i64 ((gd l1 1).i + 1)))]
          else none
        else none
      else
        ou 2 [(gd l1 0)]) (l := [(D.lst []), (.int 0)]) (fun i => [.lst ((h.names.take i).map .str), .int i]) h.hosts.length rk (t1 := 0) (t2 := 1) (o1 := []) (o2 := [.lst (h.names.map .str)]) (by simp) ?_ ?_
    · rw [this]; rfl
    · intro i hi
      have hg : gd (h.d.fld 2).l i = h.hosts[i].d := by rw [hd2]; exact gd_hosts hi
      refine out_if (by simpa using hi) (out_if (by simpa using inb_nat hi) ?_)
      have e0 : (gd [D.lst ((h.names.take i).map D.str), D.int (i : Int)] 1).i.toNat = i := by simp
      have e1 : (gd [D.lst ((h.names.take i).map D.str), D.int (i : Int)] 1).i = i := rfl
      have e2 : gd [D.lst ((h.names.take i).map D.str), D.int (i : Int)] 0 = .lst ((h.names.take i).map D.str) := rfl
      rw [e0, e1, e2, hg]
      have hx0 : h.hosts[i].d.fld 0 = .str h.hosts[i].name := rfl
      have hx2 : h.hosts[i].d.fld 2 = .int h.hosts[i].row := rfl
      rw [hx0, hx2]
      have hrk : rk i = inR h.hosts[i].row 0 (IntKind.wrap .i64 (h.most h.hosts[i] - 1)) := by simp [rk, hi]
      have hw := f_l1In' h.hosts[i].row 0 (IntKind.wrap .i64 (h.most h.hosts[i] - 1))
      rw [← hrk] at hw
      refine out_call (f_l13Most h h.hosts[i]) ?_
      simp only [D.i_int]
      cases hr : rk i with
      | false =>
        rw [hr] at hw
        exact out_call hw (out_if rfl rfl)
      | true =>
        rw [hr] at hw
        have ha : appOk 16 (D.lst ((h.names.take i).map D.str)).l [D.str h.hosts[i].name] = true := by
          have := hf.len
          have hlim : lim = 1048576 := rfl
          simp [appOk, smax_eq, hnl i (by omega)]; omega
        refine out_call hw (out_else (by simp) (out_if ha ?_))
        have hnx : h.names.take (i + 1) = h.names.take i ++ [h.hosts[i].name] := by
          have hi' : i < h.names.length := by simpa [Health.names] using hi
          rw [List.take_succ_eq_append_getElem hi']
          simp [Health.names]
        simp [wrap_succ hi hsm, hnx]
    · have : h.names.take h.hosts.length = h.names := List.take_of_length_le (by simp [Health.names])
      simp [this]
  rw [key]
  have hrow : inR h.rise 1 10 = true → inR h.fall 1 10 = true → allN h.hosts.length rk = h.hosts.all h.rowOk := by
    intro h1 h2
    rw [Bool.eq_iff_iff, allN_true, List.all_eq_true]
    constructor
    · intro ha x hx
      obtain ⟨i, hi, rfl⟩ := List.getElem_of_mem hx
      have := ha i hi
      simp only [rk] at this
      simp only [List.getD_eq_getElem?_getD, List.getElem?_eq_getElem hi, Option.getD_some] at this
      rw [wrap_pred (Health.most_R h1 h2 _)] at this
      exact this
    · intro ha i hi
      have := ha _ (List.getElem_mem hi)
      simp only [rk, List.getD_eq_getElem?_getD, List.getElem?_eq_getElem hi, Option.getD_some]
      rw [wrap_pred (Health.most_R h1 h2 _)]
      exact this
  have hnm := f_l13Names h.names (by simpa [Health.names] using hf.len) (by
    intro s hs
    obtain ⟨x, hx, rfl⟩ := List.mem_map.1 hs
    exact hf.nm x hx)
  have hnlen : h.names.length = h.hosts.length := by simp [Health.names]
  rw [hnlen] at hnm
  have w1 := f_l1In' h.rise 1 10
  have w2 := f_l1In' h.fall 1 10
  cases ha : allN h.hosts.length rk with
  | false =>
    cases r1 : inR h.rise 1 10 with
    | false => simp [Health.good, r1]
    | true =>
      cases r2 : inR h.fall 1 10 with
      | false => simp [Health.good, r2]
      | true => simp [Health.good, r1, r2, ← hrow r1 r2, ha]
  | true =>
    cases r1 : inR h.rise 1 10 with
    | false =>
      rw [r1] at w1
      refine rn_bind (r := (0, [.bool false])) (out_call w1 (out_else (by simp) rfl)) ?_
      simp [Health.good, r1]
    | true =>
      rw [r1] at w1
      cases r2 : inR h.fall 1 10 with
      | false =>
        rw [r2] at w2
        refine rn_bind (r := (0, [.bool false])) (out_call w1 (out_if rfl (out_call w2 (out_else (by simp) rfl)))) ?_
        simp [Health.good, r2]
      | true =>
        rw [r2] at w2
        refine rn_bind (r := (0, [.bool (allN h.hosts.length (nameOk h.names) && inR h.hosts.length 1 12)])) (out_call w1 (out_if rfl (out_call w2 (out_if rfl (out_call hnm rfl))))) ?_
        simp [Health.good, r1, r2, ← hrow r1 r2, ha, Bool.and_comm]
end Go.Proofs.YtbanjbafckgghaaDoor
