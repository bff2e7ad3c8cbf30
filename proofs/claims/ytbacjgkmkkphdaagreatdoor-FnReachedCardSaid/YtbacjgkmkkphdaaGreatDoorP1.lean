/- What the functions compute, in plain words. -/
import Derived.Test.YtbacjgkmkkphdaaGreatDoorCq
set_option linter.unusedSectionVars false
set_option linter.unusedVariables false
set_option linter.unusedSimpArgs false
namespace Go.Own
variable [Glb]
open Go Go.Lib
def splB (b : UInt8) : List UInt8 → List (List UInt8)
 | [] => [[]]
 | c :: s => if c = b then [] :: splB b s else match splB b s with
   | p :: ps => (c :: p) :: ps
   | [] => [[c]]
theorem splB_ne (b : UInt8) : ∀ s, splB b s ≠ []
 | [] => by simp [splB]
 | c :: s => by
   unfold splB
   split
   ·simp
   ·split <;> simp
theorem splB_none {b : UInt8} : ∀ {s : List UInt8}, b ∉ s → splB b s = [s]
 | [], _ => rfl
 | c :: s, h => by
   simp only [List.mem_cons, not_or] at h
   unfold splB
   rw [if_neg (Ne.symm h.1), splB_none h.2]
theorem splB_cut {b : UInt8} : ∀ {p q : List UInt8}, b ∉ p → splB b (p ++ b :: q) = p :: splB b q
 | [], q, _ => by simp [splB]
 | c :: p, q, h => by
   simp only [List.mem_cons, not_or] at h
   rw [List.cons_append, splB, if_neg (Ne.symm h.1), splB_cut h.2]
theorem mem_cut {b : UInt8} : ∀ {s : List UInt8}, b ∈ s → ∃ p q, s = p ++ b :: q ∧ b ∉ p
 | c :: s, h => by
   by_cases hc : c = b
   ·exact ⟨[], s, by simp [hc], by simp⟩
   ·simp only [List.mem_cons] at h
    obtain ⟨p, q, h1, h2⟩ := mem_cut (h.resolve_left (Ne.symm hc))
    exact ⟨c :: p, q, by simp [h1], by simp [Ne.symm hc, h2]⟩
theorem index_one_none {b : UInt8} : ∀ {s : List UInt8}, b ∉ s → Lib.index s [b] = -1
 | [], _ => rfl
 | c :: s, h => by
   simp only [List.mem_cons, not_or] at h
   have hp : ([b] : List UInt8).isPrefixOf (c :: s) = false := by simp [List.isPrefixOf, h.1]
   rw [Lib.index, hp, index_one_none h.2]; rfl
theorem index_one_cut {b : UInt8} : ∀ {p q : List UInt8}, b ∉ p → Lib.index (p ++ b :: q) [b] = (p.length : Int)
 | [], q, _ => by
   have hp : ([b] : List UInt8).isPrefixOf (b :: q) = true := by simp [List.isPrefixOf]
   rw [List.nil_append, Lib.index, hp]; rfl
 | c :: p, q, h => by
   simp only [List.mem_cons, not_or] at h
   have hp : ([b] : List UInt8).isPrefixOf (c :: (p ++ b :: q)) = false := by simp [List.isPrefixOf, h.1]
   rw [List.cons_append, Lib.index, hp, index_one_cut h.2]
   have : ((p.length : Int) == -1) = false := by rw [beq_eq_false_iff_ne]; omega
   simp [this]
theorem splitK_one (b : UInt8) : ∀ (k : Nat) (s : List UInt8), s.count b = k → Lib.splitK [b] 0 k s = splB b s
 | 0, s, h => by
   rw [splB_none (List.count_eq_zero.1 h)]; rfl
 | k + 1, s, h => by
   have hm : b ∈ s := List.count_pos_iff.1 (by omega)
   obtain ⟨p, q, rfl, hp⟩ := mem_cut hm
   have hc : q.count b = k := by
    rw [List.count_append, List.count_eq_zero.2 hp, List.count_cons_self] at h
    omega
   unfold Lib.splitK
   rw [index_one_cut hp, splB_cut hp]
   have : ((p.length : Int) == -1) = false := by rw [beq_eq_false_iff_ne]; omega
   rw [this]
   simp only [Bool.false_eq_true, if_false, Int.toNat_natCast, Nat.add_zero, List.take_left', List.length_cons, List.length_nil]
   rw [show p.length + (0 + 1) = p.length + 1 from rfl, List.drop_append, List.drop_eq_nil_of_le (by omega)]
   simp [splitK_one b k q hc]
theorem splitL_one (s : List UInt8) (b : UInt8) : splitL s [b] = splB b s := by
 unfold splitL
 rw [Lib.splitB_data]
 simp only [mkS_data]
 show Lib.splitK [b] 0 (Lib.count (mkS s).data.toList (mkS [b]).data.toList) s = _
 rw [mkS_data, mkS_data, Lib.count_one]
 exact splitK_one b _ s rfl
theorem splB_len (b : UInt8) : ∀ s, (splB b s).length ≤ s.length + 1
 | [] => by simp [splB]
 | c :: s => by
   have ih := splB_len b s
   unfold splB
   split
   ·simp; omega
   ·split
    ·rename_i h; rw [h] at ih; simp at ih ⊢; omega
    ·simp
theorem splB_mem (b : UInt8) : ∀ s, ∀ p ∈ splB b s, p.length ≤ s.length
 | [], p, h => by simp [splB] at h; simp [h]
 | c :: s, p, h => by
   have ih := splB_mem b s
   unfold splB at h
   split at h
   ·simp only [List.mem_cons] at h
    rcases h with rfl | h
    ·simp
    ·have := ih p h; simp; omega
   ·split at h
    ·rename_i q qs hq
     simp only [List.mem_cons] at h
     rcases h with rfl | h
     ·have := ih q (by simp [hq]); simp; omega
     ·have := ih p (by simp [hq, h]); simp; omega
    ·simp at h; simp [h]
def labelSet : List UInt8 := [97, 98, 99, 100, 101, 102, 103, 104, 105, 106, 107, 108, 109, 110, 111, 112, 113, 114, 115, 116, 117, 118, 119, 120, 121, 122, 48, 49, 50, 51, 52, 53, 54, 55, 56, 57, 45, 95]
def isSign (c : UInt8) : Bool := (decide (97 ≤ c.toNat) && decide (c.toNat ≤ 122)) || ((decide (48 ≤ c.toNat) && decide (c.toNat ≤ 57)) || (decide (c.toNat = 45) || decide (c.toNat = 95)))
theorem isSign_set (c : UInt8) : labelSet.contains c = isSign c := by
 have h : ∀ n : Fin 256, labelSet.contains (UInt8.ofNat n) = isSign (UInt8.ofNat n) := by decide +kernel
 have := h ⟨c.toNat, c.toNat_lt⟩
 simpa using this
theorem trimS_nil (l cs : List UInt8) : Lib.trimS l cs = [] ↔ ∀ c ∈ l, cs.contains c = true := by
 have h1 : ∀ l : List UInt8, l.dropWhile (cs.contains ·) = [] ↔ ∀ c ∈ l, cs.contains c = true := by
  intro l
  induction l with
  | nil => simp
  | cons a l ih =>
    by_cases ha : cs.contains a = true
    ·rw [List.dropWhile_cons_of_pos ha, ih]; simp [ha]
     intro _; simpa using ha
    ·rw [List.dropWhile_cons_of_neg ha]
     simp only [reduceCtorEq, false_iff]
     intro h; exact ha (h a (by simp))
 unfold Lib.trimS Lib.trimLeftS
 rw [h1]
 unfold Lib.trimRightS
 constructor
 ·intro h
  by_cases he : l.reverse.dropWhile (cs.contains ·) = []
  ·rw [h1] at he
   intro c hc; exact he c (by simpa using hc)
  ·exfalso
   have := List.head_dropWhile_not (cs.contains ·) (l := l.reverse) he
   rw [h _ (by simp [List.head_mem])] at this
   cases this
 ·intro h c hc
  refine h c ?_
  have := (List.dropWhile_sublist (cs.contains ·) (l := l.reverse)).mem (List.mem_reverse.1 hc)
  simpa using this
def isLab (s : List UInt8) : Bool := s == [42] || ((decide (1 ≤ s.length) && decide (s.length ≤ 20)) && s.all isSign)
def isName (s : List UInt8) : Bool := decide (s.length ≤ 60) && (s.isEmpty || (decide ((splB 46 s).length ≤ 8) && (splB 46 s).all isLab))
end Go.Own
namespace Go.Proofs.YtbacjgkmkkphdaaGreatDoor
open Go Go.Own
theorem f_split (s : List UInt8) (h : s.length < 4294967281) : e_strings_Split.F [.str s, .str [46]] = some (.lst ((splB 46 s).map .str)) := by
 rw [show e_strings_Split.F = splitF from by unfold e_strings_Split splitE; rfl]
 unfold splitF
 refine (if_pos ⟨h, by decide⟩).trans ?_
 simp [splitL_one]
theorem f_trim (s : List UInt8) : e_strings_Trim.F [.str s, .str labelSet] = some (.str (Lib.trimS s labelSet)) := by
 rw [show e_strings_Trim.F = trimF from by unfold e_strings_Trim trimE; rfl]
 unfold trimF
 exact if_pos ⟨by decide, by decide⟩
theorem f_within (a b c : Int) : e_impl_within.F [.int a, .int b, .int c] = some (.bool (decide (b ≤ a) && decide (a ≤ c))) := by
 rw [q_impl_within]
 by_cases h : b ≤ a <;> simp [h]
 rfl
theorem f_l1In (a b c : Int) : e_spec_l1In.F [.int a, .int b, .int c] = some (.bool (decide (b ≤ a) && decide (a ≤ c))) := by
 rw [q_spec_l1In]
 by_cases h : b ≤ a <;> simp [h]
 rfl
theorem f_isLabel (s : List UInt8) : e_impl_isLabel.F [.str s] = some (.bool (isLab s)) := by
 rw [q_impl_isLabel]
 by_cases h0 : s = [42]
 ·subst h0; simp [isLab]
 ·have h0' : (s == [42]) = false := by simpa using h0
  have hw := f_within (s.length : Int) 1 20
  have ht := f_trim s
  unfold labelSet at ht
  by_cases h1 : 1 ≤ s.length ∧ s.length ≤ 20
  ·have e1 : (decide ((1 : Int) ≤ s.length) && decide ((s.length : Int) ≤ 20)) = true := by simp; omega
   rw [e1] at hw
   have key : (Lib.trimS s labelSet == []) = s.all isSign := by
    rw [Bool.eq_iff_iff, beq_iff_eq, trimS_nil, List.all_eq_true]
    simp only [isSign_set]
   have key2 := key
   unfold labelSet at key2
   simp only [D.s_str, h0', Bool.false_eq_true, if_false, hw, Option.bind_some, D.b_bool, if_true, ht]
   simp [isLab, h0', key2, h1.1, h1.2]
  ·have e1 : (decide ((1 : Int) ≤ s.length) && decide ((s.length : Int) ≤ 20)) = false := by
    cases h : (decide ((1 : Int) ≤ s.length) && decide ((s.length : Int) ≤ 20)) with
    | false => rfl
    | true => simp at h; omega
   rw [e1] at hw
   have e2 : (decide (1 ≤ s.length) && decide (s.length ≤ 20)) = false := by
    cases h : (decide (1 ≤ s.length) && decide (s.length ≤ 20)) with
    | false => rfl
    | true => simp at h; omega
   simp only [D.s_str, h0', Bool.false_eq_true, if_false, hw, Option.bind_some, D.b_bool]
   simp [isLab, h0', e2]
theorem f_containsLab (ls : List (List UInt8)) (u : D) (hl : ls.length ≤ smax) : e_slices_ContainsFunc_string_string__impl_GoodName_1.F [.lst (ls.map .str), u] = some (.bool !(ls.all isLab)) := by
 have h1 : ∀ s : List UInt8, e_impl_GoodName_1.F [.str s] = some (.bool !(isLab s)) := fun s => by
  rw [q_impl_GoodName_1, f_isLabel]; rfl
 rw [q_slices_ContainsFunc_string_string__impl_GoodName_1]
 have key : ∃ r : Int, e_slices_IndexFunc_string_string__impl_GoodName_1.F [.lst (ls.map .str), u] = some (.int r) ∧ decide (r ≥ 0) = !(ls.all isLab) := by
  rw [q_slices_IndexFunc_string_string__impl_GoodName_1]
  have hle : (ls.map D.str).length = ls.length := by simp
  have := find_ex (c := fun o2 => sel2 o2.1 (ou 0 [(gd o2.2 0)]) fun n2 => sel2 n2 (ou 0 [(.int (-1))]) fun _ => none) (Q := fun d => ∃ r : Int, d = .int r ∧ decide (r ≥ 0) = !(ls.all isLab))
   (f := fun l2 =>
   if (decide ((gd l2 0).i < (((D.lst (ls.map .str)).l).length : Int))) then
    if (inb (gd l2 0).i ((D.lst (ls.map .str)).l).length) then
    (e_impl_GoodName_1.F [(gd ((D.lst (ls.map .str)).l) (gd l2 0).i.toNat)]).bind fun r3 =>
    if r3.b then
     ou 1 [(gd l2 0)]
    else
     ou 0 [(.int (IntKind.wrap .i64 ((gd l2 0).i + 1)))]
    else none
   else
    ou 2 []) (l := [.int 0]) (fun i => [.int i]) ls.length (fun i => isLab (ls.getD i [])) (t1 := 0) (t2 := 1) (o1 := fun i => [.int i]) (o2 := []) rfl ?_ ?_ ?_ ?_ ?_
  ·obtain ⟨d, h1, r, rfl, h2⟩ := this
   exact ⟨r, h1, h2⟩
  ·intro i hi hp
   have hg : gd (ls.map D.str) i = .str (ls.getD i []) := by rw [gd_lt (by simpa using hi)]; simp [hi]
   simp [hi, inb_nat hi, wrap_succ hi hl, hg, h1] at *
   simp [hp]
  ·intro i hi hp
   have hg : gd (ls.map D.str) i = .str (ls.getD i []) := by rw [gd_lt (by simpa using hi)]; simp [hi]
   simp [hi, inb_nat hi, wrap_succ hi hl, hg, h1] at *
   simp [hp]
  ·simp
  ·intro hall
   refine ⟨.int (-1), rfl, -1, rfl, ?_⟩
   have : ls.all isLab = true := by
    rw [List.all_eq_true]
    intro x hx
    obtain ⟨i, hi, rfl⟩ := List.getElem_of_mem hx
    have := hall i hi
    simpa [hi] using this
   rw [this]; rfl
  ·intro j hj hp _
   refine ⟨.int j, rfl, j, rfl, ?_⟩
   have : ls.all isLab = false := by
    rw [List.all_eq_false]
    exact ⟨ls[j], List.getElem_mem hj, by simpa [hj] using hp⟩
   rw [this]; simp
 obtain ⟨r, h2, h3⟩ := key
 refine rn_call h2 ?_
 rw [← h3]; rfl
theorem f_labelsOf (s : List UInt8) (h : s.length < 4294967281) : e_impl_labelsOf.F [.str s] = some (.lst ((if s.isEmpty then [] else splB 46 s).map .str)) := by
 rw [q_impl_labelsOf]
 cases s with
 | nil => rfl
 | cons c s =>
   have : ((c :: s) == ([] : List UInt8)) = false := rfl
   simp only [D.s_str, this, Bool.false_eq_true, if_false]
   rw [f_split _ h]; rfl
theorem f_GoodName (s : List UInt8) : e_impl_GoodName.F [.str s] = some (.bool (isName s)) := by
 rw [q_impl_GoodName]
 by_cases h : s.length ≤ 60
 ·refine rn_else (by simp; omega) (rn_call (f_labelsOf s (by omega)) ?_)
  have hle : (if s.isEmpty then [] else splB 46 s).length ≤ 61 := by
   split
   ·simp
   ·have := splB_len 46 s; omega
  have hn : isName s = (decide ((if s.isEmpty then [] else splB 46 s).length ≤ 8) && (if s.isEmpty then [] else splB 46 s).all isLab) := by
   cases he : s.isEmpty <;> simp [isName, h, he]
  rw [hn]
  generalize (if s.isEmpty then [] else splB 46 s) = ls at hle ⊢
  by_cases h2 : ls.length ≤ 8
  ·refine rn_bind (out_if (by simp; omega) (out_call (f_containsLab ls _ (by rw [smax_eq]; omega)) rfl)) ?_
   simp [h2]
  ·refine rn_bind (out_else (by simp; omega) rfl) ?_
   simp [h2]
 ·refine rn_if (by simp; omega) ?_
  simp [isName, h]
end Go.Proofs.YtbacjgkmkkphdaaGreatDoor
namespace Go.Proofs.YtbacjgkmkkphdaaGreatDoor
open Go Go.Own
theorem byteAt_lt {s : List UInt8} {i : Nat} (h : i < s.length) : byteAt s i = (s[i]).toNat := by
 unfold byteAt; rw [List.getD_eq_getElem?_getD, List.getElem?_eq_getElem h]; rfl
structure Cut (b : UInt8) (s : List UInt8) (i : Nat) (out : List (List UInt8)) (from' : Nat) : Prop where
 le : from' ≤ i
 no : b ∉ (s.take i).drop from'
 eq : out ++ splB b (s.drop from') = splB b s
 len : out.length ≤ i
theorem Cut.zero (b : UInt8) (s : List UInt8) : Cut b s 0 [] 0 := ⟨Nat.le_refl _, by simp, by simp, by simp⟩
theorem Cut.miss {b : UInt8} {s : List UInt8} {i fr : Nat} {out : List (List UInt8)} (h : Cut b s i out fr) (hi : i < s.length) (hb : s[i] ≠ b) : Cut b s (i + 1) out fr := by
 refine ⟨by have := h.le; omega, ?_, h.eq, by have := h.len; omega⟩
 rw [List.take_succ_eq_append_getElem hi, List.drop_append_of_le_length (by simp; have := h.le; omega)]
 simp only [List.mem_append, not_or]
 exact ⟨h.no, by simpa using Ne.symm hb⟩
theorem Cut.hit {b : UInt8} {s : List UInt8} {i fr : Nat} {out : List (List UInt8)} (h : Cut b s i out fr) (hi : i < s.length) (hb : s[i] = b) : Cut b s (i + 1) (out ++ [(s.take i).drop fr]) (i + 1) := by
 refine ⟨Nat.le_refl _, ?_, ?_, by have := h.len; simp; omega⟩
 ·rw [List.drop_eq_nil_of_le (by simp; omega)]; simp
 ·rw [← h.eq]
  have e : s.drop fr = (s.take i).drop fr ++ b :: s.drop (i + 1) := by
   conv => lhs; rw [← List.take_append_drop i s]
   rw [List.drop_append_of_le_length (by simp; have := h.le; omega), List.drop_eq_getElem_cons hi, hb]
  rw [e, splB_cut h.no, List.append_assoc]; rfl
theorem f_l1Split (s : List UInt8) (b : UInt8) (hl : s.length ≤ lim) : e_spec_l1Split.F [.str s, .int b.toNat] = some (.lst ((splB b s).map .str)) := by
 have hlim : lim = 1048576 := rfl
 have hsm := smax_eq
 rw [q_spec_l1Split]
 have happ : ∀ (l : List (List UInt8)) (x : D), l.length ≤ lim → appOk 16 (l.map D.str) [x] = true := by
  intro l x h
  simp [appOk, smax_eq]; omega
 have key : ∃ (out : List (List UInt8)) (fr : Nat), Cut b s s.length out fr ∧ ∀ k : Nat × List D → Outc, rn ((loopF (fun l2 =>
  if (decide ((gd l2 2).i < ((D.str s).s.length : Int))) then
   (if (inb (gd l2 2).i (D.str s).s.length) then
     if ((byteAt (D.str s).s (gd l2 2).i.toNat : Int) == (D.int b.toNat).i) then
      if (slOk (gd l2 1).i (gd l2 2).i ((D.str s).s.length : Int)) then
      if (appOk 16 (gd l2 0).l ((.str (((D.str s).s.take (gd l2 2).i.toNat).drop (gd l2 1).i.toNat)) :: ([] : List D))) then
      ou 0 [(D.lst ((gd l2 0).l ++ ((.str (((D.str s).s.take (gd l2 2).i.toNat).drop (gd l2 1).i.toNat)) :: ([] : List D)))), (.int (IntKind.wrap .i64 ((gd l2 2).i + 1)))]
      else none
      else none
     else
      ou 0 [(gd l2 0), (gd l2 1)]
     else none).bind fun o5 =>
   sel2 o5.1 (ou 0 [(gd o5.2 0), (gd o5.2 1), (.int (IntKind.wrap .i64 ((gd l2 2).i + 1)))]) fun _ => none
  else
   ou 1 [(gd l2 0), (gd l2 1)]) [(D.lst []), (.int 0), (.int 0)]).bind k) = rn (k (0, [.lst (out.map .str), .int fr])) := by
  have st : ∀ n, n ≤ s.length → ∃ (out : List (List UInt8)) (fr : Nat), Cut b s n out fr ∧ ∀ R, loopF (fun l2 =>
   if (decide ((gd l2 2).i < ((D.str s).s.length : Int))) then
    (if (inb (gd l2 2).i (D.str s).s.length) then
      if ((byteAt (D.str s).s (gd l2 2).i.toNat : Int) == (D.int b.toNat).i) then
       if (slOk (gd l2 1).i (gd l2 2).i ((D.str s).s.length : Int)) then
       if (appOk 16 (gd l2 0).l ((.str (((D.str s).s.take (gd l2 2).i.toNat).drop (gd l2 1).i.toNat)) :: ([] : List D))) then
       ou 0 [(D.lst ((gd l2 0).l ++ ((.str (((D.str s).s.take (gd l2 2).i.toNat).drop (gd l2 1).i.toNat)) :: ([] : List D)))), (.int (IntKind.wrap .i64 ((gd l2 2).i + 1)))]
       else none
       else none
      else
       ou 0 [(gd l2 0), (gd l2 1)]
      else none).bind fun o5 =>
    sel2 o5.1 (ou 0 [(gd o5.2 0), (gd o5.2 1), (.int (IntKind.wrap .i64 ((gd l2 2).i + 1)))]) fun _ => none
   else
    ou 1 [(gd l2 0), (gd l2 1)]) [.lst (out.map .str), .int fr, .int n] = R → loopF (fun l2 =>
   if (decide ((gd l2 2).i < ((D.str s).s.length : Int))) then
    (if (inb (gd l2 2).i (D.str s).s.length) then
      if ((byteAt (D.str s).s (gd l2 2).i.toNat : Int) == (D.int b.toNat).i) then
       if (slOk (gd l2 1).i (gd l2 2).i ((D.str s).s.length : Int)) then
       if (appOk 16 (gd l2 0).l ((.str (((D.str s).s.take (gd l2 2).i.toNat).drop (gd l2 1).i.toNat)) :: ([] : List D))) then
       ou 0 [(D.lst ((gd l2 0).l ++ ((.str (((D.str s).s.take (gd l2 2).i.toNat).drop (gd l2 1).i.toNat)) :: ([] : List D)))), (.int (IntKind.wrap .i64 ((gd l2 2).i + 1)))]
       else none
       else none
      else
       ou 0 [(gd l2 0), (gd l2 1)]
      else none).bind fun o5 =>
    sel2 o5.1 (ou 0 [(gd o5.2 0), (gd o5.2 1), (.int (IntKind.wrap .i64 ((gd l2 2).i + 1)))]) fun _ => none
   else
    ou 1 [(gd l2 0), (gd l2 1)]) [(D.lst []), (.int 0), (.int 0)] = R := by
   intro n
   induction n with
   | zero => intro _; exact ⟨[], 0, Cut.zero b s, fun R h => h⟩
   | succ n ih =>
     intro hn
     obtain ⟨out, fr, hc, hR⟩ := ih (by omega)
     have hi : n < s.length := by omega
     by_cases hb : s[n] = b
     ·refine ⟨_, _, hc.hit hi hb, fun R h => hR R ?_⟩
      rw [loopF_step ?_]
      ·exact h
      ·have hsl : slOk (fr : Int) (n : Int) (s.length : Int) = true := by
        have := hc.le
        simp [slOk]; omega
       have ha := happ out (.str ((s.take n).drop fr)) (by have := hc.len; omega)
       simp [hi, inb_nat hi, wrap_succ hi (Nat.le_trans hl lim_smax), byteAt_lt hi, hb, hsl, ha]
     ·refine ⟨_, _, hc.miss hi hb, fun R h => hR R ?_⟩
      rw [loopF_step ?_]
      ·exact h
      ·have hb' : ¬ ((s[n].toNat : Int) = (b.toNat : Int)) := fun e => hb (UInt8.toNat_inj.1 (by omega))
       simp [hi, inb_nat hi, wrap_succ hi (Nat.le_trans hl lim_smax), byteAt_lt hi, hb']
  obtain ⟨out, fr, hc, hR⟩ := st s.length (Nat.le_refl _)
  refine ⟨out, fr, hc, fun k => ?_⟩
  rw [hR _ (loopF_exit (t := 0) (l' := [.lst (out.map .str), .int fr]) ?_)]
  ·rfl
  ·simp
 obtain ⟨out, fr, hc, hk⟩ := key
 rw [hk]
 have hsl : slOk (fr : Int) (s.length : Int) (s.length : Int) = true := by
  have := hc.le
  simp [slOk]; omega
 have ha := happ out (.str ((s.take s.length).drop fr)) (by have := hc.len; omega)
 have hno : b ∉ s.drop fr := by have := hc.no; rwa [List.take_of_length_le (Nat.le_refl _)] at this
 have he := hc.eq
 rw [splB_none hno] at he
 simp only [List.take_length] at ha
 simp [hsl, ha, ← he]
theorem f_l1Label (s : List UInt8) (hl : s.length ≤ smax) : e_spec_l1Label.F [.str s] = some (.bool (isLab s)) := by
 rw [q_spec_l1Label]
 by_cases h0 : s = [42]
 ·subst h0; simp [isLab]
 ·have h0' : (s == [42]) = false := by simpa using h0
  refine rn_else (by simpa using h0) ?_
  refine rn_bind (loop_all' (fun i => [.int i]) s.length (fun i => isSign (s.getD i 0)) (t1 := 0) (t2 := 1) (o1 := []) (o2 := []) rfl ?_ ?_) ?_
  ·intro i hi
   have hg : s.getD i 0 = s[i] := by simp [hi]
   rw [hg]
   refine out_if (by simpa using hi) (out_if (by simpa using inb_nat hi) ?_)
   have hb : (byteAt (D.str s).s (gd [D.int (i : Int)] 0).i.toNat : Int) = ((s[i].toNat : Nat) : Int) := by simp [byteAt_lt hi]
   rw [hb]
   generalize s[i] = c
   have hw : D.int (IntKind.wrap .i64 ((gd [D.int (i : Int)] 0).i + 1)) = .int ((i + 1 : Nat) : Int) := by simp [wrap_succ hi hl]
   rw [hw]
   cases hs : isSign c with
   | true =>
     refine out_bind (r := (0, [.bool false])) ?_ (by simp)
     simp only [isSign, Bool.or_eq_true, Bool.and_eq_true, decide_eq_true_eq] at hs
     by_cases c1 : (97 : Int) ≤ c.toNat <;> by_cases c2 : (c.toNat : Int) ≤ 122 <;> by_cases c3 : (48 : Int) ≤ c.toNat <;> by_cases c4 : (c.toNat : Int) ≤ 57 <;> by_cases c5 : (c.toNat : Int) = 45 <;> by_cases c6 : (c.toNat : Int) = 95 <;> simp [c1, c2, c3, c4, c5, c6] <;> omega
   | false =>
     refine out_bind (r := (0, [.bool true])) ?_ (by simp)
     simp only [isSign, Bool.or_eq_false_iff, Bool.and_eq_false_iff, decide_eq_false_iff_not] at hs
     by_cases c1 : (97 : Int) ≤ c.toNat <;> by_cases c2 : (c.toNat : Int) ≤ 122 <;> by_cases c3 : (48 : Int) ≤ c.toNat <;> by_cases c4 : (c.toNat : Int) ≤ 57 <;> by_cases c5 : (c.toNat : Int) = 45 <;> by_cases c6 : (c.toNat : Int) = 95 <;> simp [c1, c2, c3, c4, c5, c6] <;> omega
  ·simp
  ·have hall : allN s.length (fun i => isSign (s.getD i 0)) = s.all isSign := by
    rw [Bool.eq_iff_iff, allN_true, List.all_eq_true]
    constructor
    ·intro h c hc
     obtain ⟨i, hi, rfl⟩ := List.getElem_of_mem hc
     simpa [hi] using h i hi
    ·intro h i hi
     simpa [hi] using h _ (List.getElem_mem hi)
   rw [hall]
   cases hs : s.all isSign with
   | false => simp [isLab, h0', hs]
   | true =>
     refine rn_call (f_l1In _ _ _) ?_
     have e1 : (decide ((1 : Int) ≤ s.length) && decide ((s.length : Int) ≤ 20)) = (decide (1 ≤ s.length) && decide (s.length ≤ 20)) := by
      rw [Bool.eq_iff_iff]; simp; omega
     simp [isLab, h0', hs]
     exact e1
def parts (s : List UInt8) : List (List UInt8) := if s.isEmpty then [] else splB 46 s
theorem f_l1LabelsX (s : List UInt8) (hl : s.length ≤ lim) : ∃ ls : List (List UInt8), e_spec_l1Labels.F [.str s] = some (.pair (.lst (ls.map .str)) (.pair (.bool (isName s)) .unit)) ∧ ls.length ≤ s.length + 1 ∧ (isName s = true → ls = parts s) := by
 have hlim : lim = 1048576 := rfl
 rw [q_spec_l1Labels]
 by_cases h0 : s = []
 ·subst h0; exact ⟨[], rfl, by simp, fun _ => rfl⟩
 ·have hemp : s.isEmpty = false := by cases s <;> simp_all
  have hpt : parts s = splB 46 s := by unfold parts; rw [hemp]; rfl
  have hsl := splB_len 46 s
  have hmem := splB_mem 46 s
  have hname : isName s = ((splB 46 s).all isLab && (decide (s.length ≤ 60) && decide ((splB 46 s).length ≤ 8))) := by
   simp [isName, hemp]
   cases (splB 46 s).all isLab <;> cases decide (s.length ≤ 60) <;> cases decide ((splB 46 s).length ≤ 8) <;> rfl
  have hsp := f_l1Split s 46 hl
  rw [hname, hpt]
  generalize splB 46 s = ls at hsl hmem hsp ⊢
  have hlab : ∀ i, i < ls.length → e_spec_l1Label.F [gd (ls.map D.str) i] = some (.bool (isLab (ls.getD i []))) := by
   intro i hi
   rw [gd_lt (by simpa using hi)]
   simp only [List.getElem_map]
   rw [f_l1Label _ (by have := hmem _ (List.getElem_mem hi); rw [smax_eq]; omega)]
   simp [hi]
  have key := loop_all' (f := fun l2 =>
   if (decide ((gd l2 0).i < ((D.lst (ls.map D.str)).l.length : Int))) then
    if (inb (gd l2 0).i (D.lst (ls.map D.str)).l.length) then
    (e_spec_l1Label.F [(gd (D.lst (ls.map D.str)).l (gd l2 0).i.toNat)]).bind fun r3 =>
    if (!r3.b) then
     ou 1 []
    else
     ou 0 [(.int (IntKind.wrap .i64 ((gd l2 0).i + 1)))]
    else none
   else
    ou 2 []) (l := [.int 0]) (fun i => [.int i]) ls.length (fun i => isLab (ls.getD i [])) (t1 := 0) (t2 := 1) (o1 := []) (o2 := []) rfl (by
   intro i hi
   have := hlab i hi
   cases hp : isLab (ls.getD i []) with
   | true => rw [hp] at this; simp [hi, inb_nat hi, wrap_succ hi (show ls.length ≤ smax by rw [smax_eq]; omega), this]
   | false => rw [hp] at this; simp [hi, inb_nat hi, this]) (by simp)
  have hall : allN ls.length (fun i => isLab (ls.getD i [])) = ls.all isLab := by
   rw [Bool.eq_iff_iff, allN_true, List.all_eq_true]
   constructor
   ·intro h c hc
    obtain ⟨i, hi, rfl⟩ := List.getElem_of_mem hc
    simpa [hi] using h i hi
   ·intro h i hi
    simpa [hi] using h _ (List.getElem_mem hi)
  rw [hall] at key
  cases hs : ls.all isLab with
  | false =>
    rw [hs] at key
    exact ⟨[], rn_else (by simpa using h0) (rn_call hsp (rn_bind key rfl)), by simp, fun h => by simp at h⟩
  | true =>
    rw [hs] at key
    by_cases h60 : s.length ≤ 60
    ·refine ⟨ls, rn_else (by simpa using h0) (rn_call hsp (rn_bind key (rn_bind (out_if ?_ rfl) ?_))), hsl, fun _ => rfl⟩
     ·exact decide_eq_true (show (s.length : Int) ≤ 60 by omega)
     have e : decide (((D.lst (ls.map D.str)).l.length : Int) ≤ 8) = decide (ls.length ≤ 8) := by rw [Bool.eq_iff_iff]; simp; omega
     simp only [Bool.true_and, decide_eq_true h60, ← e]
     rfl
    ·refine ⟨ls, rn_else (by simpa using h0) (rn_call hsp (rn_bind key (rn_bind (out_else ?_ rfl) ?_))), hsl, fun _ => rfl⟩
     ·exact fun h => absurd (of_decide_eq_true h) (show ¬ (s.length : Int) ≤ 60 by omega)
     simp only [Bool.true_and, decide_eq_false h60, Bool.false_and]
     rfl
theorem f_l1Labels (s : List UInt8) (hl : s.length ≤ lim) : ∃ d : D, e_spec_l1Labels.F [.str s] = some (.pair d (.pair (.bool (isName s)) .unit)) := by
 obtain ⟨ls, h, _⟩ := f_l1LabelsX s hl
 exact ⟨_, h⟩
theorem f_specGoodName (s : List UInt8) (hl : s.length ≤ lim) : e_spec_GoodName.F [.str s] = some (.bool (isName s)) := by
 rw [q_spec_GoodName]
 obtain ⟨d, h⟩ := f_l1Labels s hl
 exact rn_call h rfl
end Go.Proofs.YtbacjgkmkkphdaaGreatDoor
namespace Go.Own
variable [Glb]
open Go Go.Lib
def isDig (c : UInt8) : Bool := decide (48 ≤ c.toNat) && decide (c.toNat ≤ 57)
def dvF (a : Nat) (c : UInt8) : Nat := 10 * a + (c.toNat - 48)
def dv (s : List UInt8) : Nat := s.foldl dvF 0
theorem dv_snoc (s : List UInt8) (c : UInt8) : dv (s ++ [c]) = 10 * dv s + (c.toNat - 48) := by simp [dv, List.foldl_append, dvF]
theorem ofNat_toNat {n : Nat} (h : n < 10) : (UInt8.ofNat (48 + n)).toNat = 48 + n := by
 rw [UInt8.toNat_ofNat']; omega
theorem dig_back {c : UInt8} (h : isDig c = true) : UInt8.ofNat (48 + (c.toNat - 48)) = c := by
 simp only [isDig, Bool.and_eq_true, decide_eq_true_eq] at h
 rw [← UInt8.toNat_inj, UInt8.toNat_ofNat']; omega
theorem decDigits_step {u : Nat} (h : ¬ u < 10) : decDigits u = decDigits (u / 10) ++ [UInt8.ofNat (48 + u % 10)] := by
 rw [decDigits, dif_neg h]
theorem dv_decDigits : ∀ u : Nat, dv (decDigits u) = u := by
 intro u
 induction u using Nat.strongRecOn with
 | _ u ih =>
   by_cases h : u < 10
   ·rw [decDigits_one h]
    simp [dv, dvF]; omega
   ·rw [decDigits_step h, dv_snoc, ih (u / 10) (by omega), ofNat_toNat (by omega)]; omega
theorem decDigits_digs : ∀ u : Nat, ∀ c ∈ decDigits u, isDig c = true := by
 intro u
 induction u using Nat.strongRecOn with
 | _ u ih =>
   intro c hc
   by_cases h : u < 10
   ·rw [decDigits_one h] at hc
    simp only [List.mem_singleton] at hc
    subst hc
    simp only [isDig, ofNat_toNat h, Bool.and_eq_true, decide_eq_true_eq]; omega
   ·rw [decDigits_step h] at hc
    simp only [List.mem_append, List.mem_singleton] at hc
    rcases hc with hc | rfl
    ·exact ih (u / 10) (by omega) c hc
    ·have h10 : u % 10 < 10 := by omega
     simp only [isDig, ofNat_toNat h10, Bool.and_eq_true, decide_eq_true_eq]; omega
theorem decDigits_ne (u : Nat) : decDigits u ≠ [] := by
 by_cases h : u < 10
 ·rw [decDigits_one h]; simp
 ·rw [decDigits_step h]; simp
theorem decDigits_head : ∀ u : Nat, 1 ≤ u → ∃ c r, decDigits u = c :: r ∧ c ≠ 48 := by
 intro u
 induction u using Nat.strongRecOn with
 | _ u ih =>
   intro hu
   by_cases h : u < 10
   ·refine ⟨_, [], decDigits_one h, fun he => ?_⟩
    have := congrArg UInt8.toNat he
    rw [ofNat_toNat h] at this
    have h48 : (48 : UInt8).toNat = 48 := rfl
    omega
   ·obtain ⟨c, r, h1, h2⟩ := ih (u / 10) (by omega) (by omega)
    exact ⟨c, r ++ [UInt8.ofNat (48 + u % 10)], by rw [decDigits_step h, h1]; rfl, h2⟩
def canon (s : List UInt8) : Bool := !s.isEmpty && (s.all isDig && !((s.head? == some 48) && decide (1 < s.length)))
theorem canon_dec (u : Nat) : canon (decDigits u) = true := by
 have h1 := decDigits_ne u
 have h2 := decDigits_digs u
 have h3 : (decDigits u).all isDig = true := List.all_eq_true.2 h2
 unfold canon
 rw [h3]
 have h4 : (decDigits u).isEmpty = false := by cases h : decDigits u <;> simp_all
 rw [h4]
 by_cases h : u < 10
 ·rw [decDigits_one h]; simp
 ·obtain ⟨c, r, h5, h6⟩ := decDigits_head u (by omega)
  rw [h5]; simp [h6]
theorem canon_eq : ∀ (n : Nat) (s : List UInt8), s.length = n → canon s = true → s = decDigits (dv s)
 | 0, s, hl, hc => by
   have : s = [] := List.length_eq_zero_iff.1 hl
   subst this; cases hc
 | n + 1, s, hl, hc => by
   obtain ⟨t, c, rfl⟩ : ∃ t c, s = t ++ [c] := ⟨s.dropLast, s.getLast (by intro h; subst h; cases hl), (List.dropLast_concat_getLast _).symm⟩
   unfold canon at hc
   simp only [Bool.and_eq_true, List.all_eq_true, Bool.not_eq_true'] at hc
   obtain ⟨_, hd, hh⟩ := hc
   have hcd : isDig c = true := hd c (by simp)
   have hcn := hcd
   simp only [isDig, Bool.and_eq_true, decide_eq_true_eq] at hcn
   by_cases ht : t = []
   ·subst ht
    rw [show dv ([] ++ [c]) = c.toNat - 48 by simp [dv, dvF], decDigits_one (by omega), dig_back hcd]; rfl
   ·have htl : 1 ≤ t.length := by cases t with | nil => exact absurd rfl ht | cons _ _ => simp
    have hlt : t.length = n := by simp at hl; omega
    have hhd : (t ++ [c]).head? = t.head? := by cases t with | nil => exact absurd rfl ht | cons _ _ => rfl
    have hgt : decide (1 < (t ++ [c]).length) = true := by simp; omega
    rw [hhd, hgt, Bool.and_true] at hh
    have hct : canon t = true := by
     unfold canon
     simp only [Bool.and_eq_true, List.all_eq_true, Bool.not_eq_true']
     refine ⟨by cases t with | nil => exact absurd rfl ht | cons _ _ => rfl, fun x hx => hd x (by simp [hx]), by rw [hh]; rfl⟩
    have ih := canon_eq n t hlt hct
    have hpos : 1 ≤ dv t := by
     rcases Nat.eq_zero_or_pos (dv t) with h0 | h0
     ·exfalso
      rw [h0, decDigits_one (by omega)] at ih
      rw [ih] at hh
      simp at hh
     ·exact h0
    rw [dv_snoc, decDigits_step (by omega)]
    have e1 : (10 * dv t + (c.toNat - 48)) / 10 = dv t := by omega
    have e2 : (10 * dv t + (c.toNat - 48)) % 10 = c.toNat - 48 := by omega
    rw [e1, e2, ← ih, dig_back hcd]
theorem canon_iff (s : List UInt8) : canon s = true ↔ s = decDigits (dv s) := ⟨canon_eq _ s rfl, fun h => h ▸ canon_dec _⟩
def numOk (s : List UInt8) (m : Int) : Bool := canon s && decide ((dv s : Int) ≤ m)
theorem foldl_ge : ∀ (l : List UInt8) (a : Nat), a ≤ l.foldl dvF a
 | [], a => Nat.le_refl _
 | c :: l, a => Nat.le_trans (by unfold dvF; omega) (foldl_ge l (dvF a c))
theorem parse_digs : ∀ (l : List UInt8) (a : Nat), (∀ c ∈ l, isDig c = true) → l.foldl dvF a < 18446744073709551616 → parseUint10 a l = .ok (l.foldl dvF a)
 | [], a, _, _ => rfl
 | c :: l, a, hd, hlt => by
   have hc := hd c (by simp)
   simp only [isDig, Bool.and_eq_true, decide_eq_true_eq] at hc
   have hge := foldl_ge l (dvF a c)
   have hlt' : l.foldl dvF (dvF a c) < 18446744073709551616 := hlt
   have e : dvF a c = a * 10 + (c.toNat - 48) := by unfold dvF; omega
   unfold parseUint10
   rw [if_pos hc, if_neg (by omega), if_neg (by omega), ← e]
   exact parse_digs l _ (fun x hx => hd x (by simp [hx])) hlt'
theorem atoi_dec {u : Nat} (h : u < 9223372036854775808) : atoiAll (decDigits u) = .ok (u : Int) := by
 have hne := decDigits_ne u
 have hd := decDigits_digs u
 have hv := dv_decDigits u
 have hp : parseMag (decDigits u) = .ok u := by
  unfold parseMag
  rw [if_neg hne, parse_digs _ 0 hd (by show dv (decDigits u) < _; rw [hv]; omega)]
  show NumEnd.ok (dv (decDigits u)) = _
  rw [hv]
 cases hs : decDigits u with
 | nil => exact absurd hs hne
 | cons c r =>
   rw [hs] at hp hd
   have hc := hd c (by simp)
   simp only [isDig, Bool.and_eq_true, decide_eq_true_eq] at hc
   have h43 : ¬ c.toNat = 43 := by omega
   have h45 : ¬ c.toNat = 45 := by omega
   simp only [atoiAll, h43, h45, or_self, if_false, hp, not_false_eq_true, true_and, false_and]
   rw [if_neg (by omega)]
theorem nDigits_le : ∀ (k u : Nat), u < 10 ^ k → 1 ≤ k → nDigits u ≤ k
 | 0, _, _, h => by omega
 | 1, u, h, _ => by rw [nDigits_small (by simpa using h)]; exact Nat.le_refl _
 | k + 2, u, h, _ => by
   rw [nDigits]
   split
   ·omega
   ·have hp : (10 : Nat) ^ (k + 2) = 10 ^ (k + 1) * 10 := Nat.pow_succ 10 (k + 1)
    have := nDigits_le (k + 1) (u / 10) (by omega) (by omega)
    omega
theorem dec_len {k u : Nat} (h : u < 10 ^ k) (hk : 1 ≤ k) : (decDigits u).length ≤ k := by rw [decDigits_length]; exact nDigits_le k u h hk
end Go.Own
namespace Go.Proofs.YtbacjgkmkkphdaaGreatDoor
open Go Go.Own
theorem f_atoi {s : List UInt8} (h : s.length ≤ lim) : e_strconv_Atoi.F [.str s] = some (atoiD s) := by
 rw [show e_strconv_Atoi.F = atoiF from by unfold e_strconv_Atoi atoiE; rfl]
 unfold atoiF
 have hlim : lim = 1048576 := rfl
 exact if_pos (by simp; omega)
theorem itoa_len {v : Int} (h0 : 0 ≤ v) (h1 : v < 10 ^ 18) : (Lib.itoa v).length ≤ 18 := by
 obtain ⟨n, rfl⟩ := Int.eq_ofNat_of_zero_le h0
 rw [show Lib.itoa ((n : Nat) : Int) = Lib.decDigits n by unfold Lib.itoa; rw [if_neg (by omega)]; simp]
 exact dec_len (by exact_mod_cast h1) (by omega)
theorem f_itoa {v : Int} (h0 : 0 ≤ v) (h1 : v < 10 ^ 18) : e_strconv_Itoa.F [.int v] = some (.str (Lib.itoa v)) := by
 rw [show e_strconv_Itoa.F = itoaF from by unfold e_strconv_Itoa itoaE; rfl]
 unfold itoaF
 have := itoa_len h0 h1
 exact if_pos (by rw [D.i_int, smax_eq]; omega)
theorem itoa_nat (n : Nat) : Lib.itoa (n : Int) = Lib.decDigits n := by unfold Lib.itoa; rw [if_neg (by omega)]; simp
theorem f_numberIn {s : List UInt8} {m : Int} (h : s.length ≤ lim) (hm : m < 10 ^ 18) :
 ∃ v : Int, e_impl_numberIn.F [.str s, .int m] = some (.pair (.int v) (.pair (.bool (numOk s m)) .unit)) ∧ (numOk s m = true → v = dv s) := by
 have h18 : (10 : Int) ^ 18 = 1000000000000000000 := by decide
 rw [q_impl_numberIn]
 have ha := f_atoi h
 by_cases hn : numOk s m = true
 ·rw [hn]
  unfold numOk at hn
  simp only [Bool.and_eq_true, decide_eq_true_eq] at hn
  have hs := (canon_iff s).1 hn.1
  have hat : Lib.atoiAll s = .ok (dv s : Int) := by
   have := atoi_dec (u := dv s) (by omega)
   rw [← hs] at this; exact this
  have hd : atoiD s = .pair (.int (dv s)) (.pair (.bool false) .unit) := by unfold atoiD; rw [hat]
  rw [hd] at ha
  have hw := f_within (dv s) 0 m
  have hwt : (decide ((0 : Int) ≤ dv s) && decide ((dv s : Int) ≤ m)) = true := by simp [hn.2]
  rw [hwt] at hw
  have hi := f_itoa (v := dv s) (by omega) (by omega)
  refine ⟨dv s, rn_call ha (rn_bind (r := (0, [.int (dv s), .bool true])) (out_if rfl (out_call hw (out_if rfl (out_call hi ?_)))) rfl), fun _ => rfl⟩
  simp [itoa_nat, ← hs]
 ·have hn' : numOk s m = false := by simpa using hn
  rw [hn']
  have hcase : ∃ (v : Int) (e : Bool), atoiD s = .pair (.int v) (.pair (.bool e) .unit) ∧ (e = false → Lib.atoiAll s = .ok v) := by
   unfold atoiD
   cases hq : Lib.atoiAll s with
   | ok v => exact ⟨v, false, rfl, fun _ => rfl⟩
   | range => exact ⟨_, true, rfl, fun h => by cases h⟩
   | _ => exact ⟨0, true, rfl, fun h => by cases h⟩
  obtain ⟨v, e, hd, he⟩ := hcase
  rw [hd] at ha
  refine ⟨v, rn_call ha (rn_bind (r := (0, [.int v, .bool false])) ?_ rfl), fun h => by cases h⟩
  cases e with
  | true => exact out_else (by simp) rfl
  | false =>
    refine out_if rfl ?_
    have hw := f_within v 0 m
    cases hr : (decide ((0 : Int) ≤ v) && decide (v ≤ m)) with
    | false => rw [hr] at hw; exact out_call hw (out_else (by simp) rfl)
    | true =>
      rw [hr] at hw
      simp only [Bool.and_eq_true, decide_eq_true_eq] at hr
      refine out_call hw (out_if rfl (out_call (f_itoa hr.1 (by omega)) ?_))
      have : (Lib.itoa v == s) = false := by
       rw [beq_eq_false_iff_ne]
       intro hs
       obtain ⟨n, rfl⟩ := Int.eq_ofNat_of_zero_le hr.1
       rw [itoa_nat] at hs
       have h1 : canon s = true := by rw [← hs]; exact canon_dec n
       have h2 : dv s = n := by rw [← hs]; exact dv_decDigits n
       unfold numOk at hn'
       rw [h1, h2] at hn'
       simp at hn'
       omega
      simp [this]
def int10 (s : List UInt8) : Int := if canon s = true ∧ s.length ≤ 10 then dv s else -1
def gInt (_ : Nat) (n : Nat) (c : UInt8) : Sum Nat (Nat × List D) := if isDig c = true then .inl (dvF n c) else .inr (0, [.int (-1)])
theorem foldE_gInt : ∀ (s : List UInt8) (i n : Nat), foldE gInt i n s = if s.all isDig = true then .inl (s.foldl dvF n) else .inr (0, [.int (-1)])
 | [], _, _ => rfl
 | c :: s, i, n => by
   rw [foldE]
   by_cases hc : isDig c = true
   ·have hg : gInt i n c = .inl (dvF n c) := if_pos hc
    rw [hg]
    simp only [foldE_gInt s (i + 1) (dvF n c), List.all_cons, hc, Bool.true_and, List.foldl_cons]
   ·have hg : gInt i n c = .inr (0, [.int (-1)]) := if_neg hc
    rw [hg, if_neg (by simp [hc])]
theorem f_l1Int {s : List UInt8} (h : s.length ≤ lim) : e_spec_l1Int.F [.str s] = some (.int (int10 s)) := by
 have hsm : s.length ≤ smax := Nat.le_trans h lim_smax
 rw [q_spec_l1Int]
 have hl := f_l1In s.length 1 10
 by_cases hlen : 1 ≤ s.length ∧ s.length ≤ 10
 ·have e1 : (decide ((1 : Int) ≤ s.length) && decide ((s.length : Int) ≤ 10)) = true := by simp; omega
  rw [e1] at hl
  obtain ⟨c, r, rfl⟩ : ∃ c r, s = c :: r := by cases s with | nil => simp at hlen | cons c r => exact ⟨c, r, rfl⟩
  have hb0 : byteAt (c :: r) 0 = c.toNat := byteAt_lt (by simp)
  by_cases hz : c = 48 ∧ 1 < (c :: r).length
  ·have hcan : canon (c :: r) = false := by
    unfold canon; rw [hz.1]
    have : decide (1 < ((48 : UInt8) :: r).length) = true := by have := hz.2; simpa using this
    rw [this]; simp
   refine rn_bind (r := (0, [.bool true])) (out_call hl (out_else (by simp) (out_if (inb_nat (i := 0) (by simp)) (out_if ?_ ?_)))) ?_
   ·rw [D.s_str, hb0, hz.1]; rfl
   ·have := hz.2
    simp only [List.length_cons] at this
    simp; omega
   ·simp [int10, hcan]
  ·refine rn_bind (r := (0, [.bool false])) (out_call hl (out_else (by simp) (out_if (inb_nat (i := 0) (by simp)) ?_))) ?_
   ·rw [D.s_str, hb0]
    by_cases hc : c = 48
    ·refine out_if (by rw [hc]; rfl) ?_
     have : ¬ 1 < (c :: r).length := fun h => hz ⟨hc, h⟩
     simp only [List.length_cons] at this
     simp; omega
    ·refine out_else ?_ rfl
     intro he
     apply hc
     rw [← UInt8.toNat_inj]
     have h48 : (48 : UInt8).toNat = 48 := rfl
     simp at he; omega
   ·simp only [sel2_zero, gd_zero]
    refine rn_else (by simp) ?_
    have hcan : canon (c :: r) = (c :: r).all isDig := by
     unfold canon
     have : ((c :: r).head? == some 48 && decide (1 < (c :: r).length)) = false := by
      cases hb : ((c :: r).head? == some 48 && decide (1 < (c :: r).length)) with
      | false => rfl
      | true => simp at hb; exact absurd ⟨hb.1, by simpa using hb.2⟩ hz
     rw [this]; simp
    generalize hs : c :: r = s at *
    refine rn_fold (loop_foldE' (T := 1) (out := fun n : Nat => [.int n]) (fun i (n : Nat) => [.int n, .int i]) s gInt (fun i n => n < 10 ^ i ∧ i ≤ 10) 0 rfl ⟨by decide, by omega⟩ ?_ ?_) ?_ ?_
    ·rintro i n hi ⟨hn, hi10⟩
     have hb : byteAt s i = (s[i]).toNat := byteAt_lt hi
     have hp10 : (10 : Nat) ^ i ≤ 10 ^ 10 := Nat.pow_le_pow_right (by omega) hi10
     have h10 : (10 : Nat) ^ 10 = 10000000000 := by decide
     have hw := wrap_succ hi hsm
     unfold gInt
     by_cases hdg : isDig s[i] = true
     ·rw [if_pos hdg]
      have hdg' := hdg
      simp only [isDig, Bool.and_eq_true, decide_eq_true_eq] at hdg'
      refine ⟨out_if (by simpa using hi) (out_bind (r := (0, [.bool false])) (out_if (by simpa using inb_nat hi) ?_) (sel0 (out_else (by simp) (out_if (by simpa using inb_nat hi) ?_)))), ?_⟩
      ·simp only [gd_one, D.i_int, Int.toNat_natCast, D.s_str, hb]
       refine out_else (fun h => by have := of_decide_eq_true h; omega) ?_
       have : ¬ ((s[i]).toNat : Int) > 57 := by omega
       simp [this]
      ·simp only [gd_zero, gd_one, D.i_int, Int.toNat_natCast, D.s_str, hb, hw]
       have w1 : IntKind.wrap .i64 (10 * (n : Int)) = 10 * n := by rw [wrap_id] <;> omega
       have w2 : IntKind.wrap .u8 (((s[i]).toNat : Int) - 48) = (((s[i]).toNat - 48 : Nat) : Int) := by
        have : IntKind.wrap .u8 (((s[i]).toNat : Int) - 48) = (((s[i]).toNat : Int) - 48) % 256 := by simp [IntKind.wrap, IntKind.bits, IntKind.signed]
        rw [this]; omega
       have w3 : IntKind.wrap .i64 ((((s[i]).toNat - 48 : Nat) : Int)) = (((s[i]).toNat - 48 : Nat) : Int) := by rw [wrap_id] <;> omega
       have w4 : IntKind.wrap .i64 (10 * (n : Int) + (((s[i]).toNat - 48 : Nat) : Int)) = ((dvF n s[i] : Nat) : Int) := by
        unfold dvF; rw [wrap_id] <;> omega
       rw [w1, w2, w3, w4]
      ·have hp : (10 : Nat) ^ (i + 1) = 10 ^ i * 10 := Nat.pow_succ 10 i
       unfold dvF
       refine ⟨by omega, by omega⟩
     ·rw [if_neg hdg]
      refine out_if (by simpa using hi) (out_bind (r := (0, [.bool true])) (out_if (by simpa using inb_nat hi) ?_) (sel0 (out_if rfl rfl)))
      simp only [gd_one, D.i_int, Int.toNat_natCast, D.s_str, hb]
      simp only [isDig, Bool.and_eq_true, decide_eq_true_eq, not_and] at hdg
      by_cases h48 : ((s[i]).toNat : Int) < 48
      ·exact out_if (decide_eq_true h48) rfl
      ·refine out_else (fun h => h48 (of_decide_eq_true h)) ?_
       have : ((s[i]).toNat : Int) > 57 := by have := hdg (by omega); omega
       simp [this]
    ·rintro n _
     exact out_else (by simp) rfl
    ·intro n hf
     rw [foldE_gInt] at hf
     split at hf
     ·rename_i hall
      cases hf
      have : int10 s = (dv s : Nat) := by
       unfold int10; rw [if_pos ⟨by rw [hcan]; exact hall, by omega⟩]
      rw [this]; rfl
     ·cases hf
    ·intro e hf
     rw [foldE_gInt] at hf
     split at hf
     ·cases hf
     ·rename_i hall
      cases hf
      have : int10 s = -1 := by
       unfold int10; rw [if_neg (fun h => hall (by rw [← hcan]; exact h.1))]
      rw [this]; rfl
 ·have e1 : (decide ((1 : Int) ≤ s.length) && decide ((s.length : Int) ≤ 10)) = false := by
   cases h : (decide ((1 : Int) ≤ s.length) && decide ((s.length : Int) ≤ 10)) with
   | false => rfl
   | true => simp at h; omega
  rw [e1] at hl
  refine rn_bind (r := (0, [.bool true])) (out_call hl (out_if rfl rfl)) ?_
  have : int10 s = -1 := by
   unfold int10
   refine if_neg fun h => ?_
   have hc := h.1
   unfold canon at hc
   cases s with
   | nil => simp at hc
   | cons c r => exact hlen ⟨by simp, h.2⟩
  rw [this]; rfl
end Go.Proofs.YtbacjgkmkkphdaaGreatDoor
namespace Go.Proofs.YtbacjgkmkkphdaaGreatDoor
open Go Go.Own
theorem f_big1 (n : Int) : ∃ b : List UInt8, b.length = 1 ∧ e_impl_big.F [.int n, .int 1] = some (.str b) := by
 rw [q_impl_big]
 refine ⟨_, bytesStr_size [.int (IntKind.wrap .u8 (n.fdiv (2 ^ min (IntKind.wrap .i64 (8 * 0)).toNat (IntKind.bits .i64))))], rn_bind (r := (0, [.lst [.int (IntKind.wrap .u8 (n.fdiv (2 ^ min (IntKind.wrap .i64 (8 * 0)).toNat (IntKind.bits .i64))))]])) ?_ rfl⟩
 have w0 : IntKind.wrap .i64 ((1 : Int) - 1) = 0 := by decide
 have w1 : IntKind.wrap .i64 ((0 : Int) - 1) = -1 := by decide
 simp only [D.i_int, w0]
 rw [loopF_step (l' := [.lst [.int (IntKind.wrap .u8 (n.fdiv (2 ^ min (IntKind.wrap .i64 (8 * 0)).toNat (IntKind.bits .i64))))], .int (-1)])]
 ·exact loopF_exit rfl
 ·refine out_if (by decide) (out_if (by decide) (out_if (by simp [appOk, smax_eq]) ?_))
  simp only [gd_zero, gd_one, D.i_int, D.l_lst, w1, List.nil_append]
theorem f_l3Number1 (n : Int) : ∃ b : List UInt8, b.length = 1 ∧ e_spec_l3Number.F [.int n, .int 1] = some (.str b) := by
 rw [q_spec_l3Number]
 refine ⟨_, bytesStr_size [.int (IntKind.wrap .u8 n)], rn_if (by decide) (rn_bind (r := (0, [.lst [.int (IntKind.wrap .u8 n)]])) ?_ rfl)⟩
 have w0 : IntKind.wrap .i64 ((1 : Int) - 1) = 0 := by decide
 have w1 : IntKind.wrap .i64 ((0 : Int) - 1) = -1 := by decide
 simp only [D.i_int, w0]
 rw [loopF_step (l' := [.int (n.fdiv (2 ^ min 8 (IntKind.bits .i64))), .lst [.int (IntKind.wrap .u8 n)], .int (-1)])]
 ·exact loopF_exit rfl
 ·refine out_if rfl (out_if rfl (out_if (by decide) ?_))
  simp only [gd_zero, gd_one, gd_two, D.i_int, D.l_lst, w1]
  rfl
def addrOk (s : List UInt8) : Bool := (splB 46 s).all (fun p => numOk p 255) && decide ((splB 46 s).length = 4)
theorem gd_parts {ls : List (List UInt8)} {i : Nat} (hi : i < ls.length) : gd (ls.map D.str) i = .str ls[i] := by
 rw [gd_lt (by simpa using hi)]; simp
theorem loop_cat {f : List D → Outc} {l : List D} (n : Nat) (p : Nat → Bool) {t1 t2 : Nat} {o1 : List D} (h0 : l = [.str [], .int 0])
 (hp : ∀ i (s : List UInt8), i < n → s.length = i → (p i = true → ∃ s' : List UInt8, s'.length = i + 1 ∧ f [.str s, .int i] = some (0, [.str s', .int ((i + 1 : Nat) : Int)])) ∧ (p i = false → f [.str s, .int i] = some (t1 + 1, o1)))
 (hn : ∀ s : List UInt8, f [.str s, .int n] = some (t2 + 1, [.str s])) :
 ∃ s : List UInt8, loopF f l = some (cond (allN n p) (t2, [.str s]) (t1, o1)) := by
 subst h0
 have key : ∀ m k (s : List UInt8), m + k = n → s.length = k → (∀ i, i < k → p i = true) → ∃ s' : List UInt8, loopF f [.str s, .int k] = some (cond (allN n p) (t2, [.str s']) (t1, o1)) := by
  intro m
  induction m with
  | zero =>
    intro k s hk hs hb
    have : k = n := by omega
    subst this
    exact ⟨s, by rw [loopF_exit (hn s), allN_true.2 hb]; rfl⟩
  | succ m ih =>
    intro k s hk hs hb
    have h := hp k s (by omega) hs
    cases hq : p k with
    | true =>
      obtain ⟨s', h1, h2⟩ := h.1 hq
      rw [loopF_step h2]
      refine ih (k + 1) s' (by omega) h1 fun i hi => ?_
      by_cases hik : i = k
      ·rw [hik]; exact hq
      ·exact hb i (by omega)
    | false =>
      exact ⟨[], by rw [loopF_exit (h.2 hq), allN_false (by omega) hq]; rfl⟩
 exact key n 0 [] (by omega) rfl (fun i hi => by omega)
theorem all_allN {α : Type} (l : List α) (q : α → Bool) (d : α) : allN l.length (fun i => q (l.getD i d)) = l.all q := by
 rw [Bool.eq_iff_iff, allN_true, List.all_eq_true]
 constructor
 ·intro h x hx
  obtain ⟨i, hi, rfl⟩ := List.getElem_of_mem hx
  have := h i hi
  rwa [show l.getD i d = l[i] by simp [List.getD_eq_getElem?_getD, List.getElem?_eq_getElem hi]] at this
 ·intro h i hi
  rw [show l.getD i d = l[i] by simp [List.getD_eq_getElem?_getD, List.getElem?_eq_getElem hi]]
  exact h _ (List.getElem_mem hi)
theorem getD_lt {α : Type} {l : List α} {i : Nat} (hi : i < l.length) (d : α) : l.getD i d = l[i] := by simp [List.getD_eq_getElem?_getD, List.getElem?_eq_getElem hi]
noncomputable def fAddr (ps : List (List UInt8)) : List D → Outc := fun l3 =>
 if (decide ((gd l3 1).i < ((D.lst (ps.map D.str)).l.length : Int))) then
  if (inb (gd l3 1).i (D.lst (ps.map D.str)).l.length) then
  (e_impl_numberIn.F [(gd (D.lst (ps.map D.str)).l (gd l3 1).i.toNat), (.int 255)]).bind fun r5 =>
  (if (!(r5.fld 1).b) then
      ou 0 [(.bool true)]
    else
     ou 0 [(.bool (((D.lst (ps.map D.str)).l.length : Int) != 4))]).bind fun o6 =>
  sel2 o6.1 (if (gd o6.2 0).b then
   ou 1 []
   else
    (e_impl_big.F [(r5.fld 0), (.int 1)]).bind fun r7 =>
    if (catOk (gd l3 0).s r7.s) then
    ou 0 [(.str ((gd l3 0).s ++ r7.s)), (.int (IntKind.wrap .i64 ((gd l3 1).i + 1)))]
    else none) fun _ => none
  else none
 else
  ou 2 [(gd l3 0)]
noncomputable def gAddr (ps : List (List UInt8)) : List D → Outc := fun l3 =>
 if (decide ((gd l3 1).i < ((D.lst (ps.map D.str)).l.length : Int))) then
  if (inb (gd l3 1).i (D.lst (ps.map D.str)).l.length) then
  (e_spec_l1Int.F [(gd (D.lst (ps.map D.str)).l (gd l3 1).i.toNat)]).bind fun r5 =>
  (e_spec_l1In.F [r5, (.int 0), (.int 255)]).bind fun r6 =>
  if (!r6.b) then
   ou 1 []
  else
   (e_spec_l3Number.F [r5, (.int 1)]).bind fun r7 =>
   if (catOk (gd l3 0).s r7.s) then
   ou 0 [(.str ((gd l3 0).s ++ r7.s)), (.int (IntKind.wrap .i64 ((gd l3 1).i + 1)))]
   else none
  else none
 else
  ou 2 [(gd l3 0)]
theorem fAddr_step {ps : List (List UInt8)} {i : Nat} (hi : i < ps.length) (hsm : ps.length ≤ smax) (t : List UInt8) : fAddr ps [.str t, .int i] = ((e_impl_numberIn.F [(.str ps[i]), (.int 255)]).bind fun r5 =>
 (if (!(r5.fld 1).b) then
     ou 0 [(.bool true)]
   else
    ou 0 [(.bool ((ps.length : Int) != 4))]).bind fun o6 =>
 sel2 o6.1 (if (gd o6.2 0).b then
  ou 1 []
  else
   (e_impl_big.F [(r5.fld 0), (.int 1)]).bind fun r7 =>
   if (catOk t r7.s) then
   ou 0 [(.str (t ++ r7.s)), (.int ((i + 1 : Nat) : Int))]
   else none) fun _ => none) := by
 have hlen : (D.lst (ps.map D.str)).l.length = ps.length := by simp
 have hg := gd_parts hi
 refine out_if (by rw [hlen]; simpa using hi) (out_if (by rw [hlen]; simpa using inb_nat hi) ?_)
 have e1 : (gd [D.str t, D.int (i : Int)] 1).i.toNat = i := by simp
 have e2 : (gd [D.str t, D.int (i : Int)] 1).i = i := rfl
 have e3 : (gd [D.str t, D.int (i : Int)] 0).s = t := rfl
 rw [e1, e2, e3, hlen, show (D.lst (ps.map D.str)).l = ps.map D.str from rfl, hg, wrap_succ hi hsm]
theorem gAddr_step {ps : List (List UInt8)} {i : Nat} (hi : i < ps.length) (hsm : ps.length ≤ smax) (t : List UInt8) : gAddr ps [.str t, .int i] = ((e_spec_l1Int.F [(.str ps[i])]).bind fun r5 =>
 (e_spec_l1In.F [r5, (.int 0), (.int 255)]).bind fun r6 =>
 if (!r6.b) then
  ou 1 []
 else
  (e_spec_l3Number.F [r5, (.int 1)]).bind fun r7 =>
  if (catOk t r7.s) then
  ou 0 [(.str (t ++ r7.s)), (.int ((i + 1 : Nat) : Int))]
  else none) := by
 have hlen : (D.lst (ps.map D.str)).l.length = ps.length := by simp
 have hg := gd_parts hi
 refine out_if (by rw [hlen]; simpa using hi) (out_if (by rw [hlen]; simpa using inb_nat hi) ?_)
 have e1 : (gd [D.str t, D.int (i : Int)] 1).i.toNat = i := by simp
 have e2 : (gd [D.str t, D.int (i : Int)] 1).i = i := rfl
 have e3 : (gd [D.str t, D.int (i : Int)] 0).s = t := rfl
 rw [e1, e2, e3, show (D.lst (ps.map D.str)).l = ps.map D.str from rfl, hg, wrap_succ hi hsm]
theorem f_dataA {s : List UInt8} (h : s.length ≤ lim) : ∃ b : List UInt8, e_impl_DataBytes.F [.int 1, .str s] = some (.pair (.str b) (.pair (.bool (addrOk s)) .unit)) := by
 have hlim : lim = 1048576 := rfl
 rw [q_impl_DataBytes]
 have hsp := f_split s (by omega)
 have hpl := splB_len 46 s
 have hpm := splB_mem 46 s
 have hne := splB_ne 46 s
 unfold addrOk
 generalize splB 46 s = ps at hsp hpl hpm hne
 have hsm : ps.length ≤ smax := by rw [smax_eq]; omega
 have hlen : (D.lst (ps.map D.str)).l.length = ps.length := by simp
 have hcat := loop_cat (f := fAddr ps) (l := [D.str [], .int 0]) ps.length (fun i => numOk (ps.getD i []) 255 && decide (ps.length = 4)) (t1 := 0) (t2 := 1) (o1 := []) rfl ?_ ?_
 ·obtain ⟨b, hb⟩ := hcat
  refine ⟨cond (allN ps.length (fun i => numOk (ps.getD i []) 255 && decide (ps.length = 4))) b [], rn_if rfl (rn_call hsp (rn_bind hb ?_))⟩
  have hall : allN ps.length (fun i => numOk (ps.getD i []) 255 && decide (ps.length = 4)) = (ps.all (fun p => numOk p 255) && decide (ps.length = 4)) := by
   rw [← all_allN ps (fun p => numOk p 255) []]
   by_cases h4 : ps.length = 4
   ·simp [h4]
   ·have : allN ps.length (fun i => numOk (ps.getD i []) 255 && decide (ps.length = 4)) = false := by
     have hpos : 0 < ps.length := List.length_pos_iff.2 hne
     exact allN_false hpos (by simp [h4])
    rw [this]; simp [h4]
  rw [hall]
  cases (ps.all (fun p => numOk p 255) && decide (ps.length = 4)) <;> rfl
 ·intro i t hi ht
  rw [getD_lt hi]
  have hpi := hpm _ (List.getElem_mem hi)
  obtain ⟨v, hnum, hv⟩ := f_numberIn (s := ps[i]) (m := 255) (by omega) (by decide)
  have hg := gd_parts hi
  constructor
  ·intro hp
   simp only [Bool.and_eq_true, decide_eq_true_eq] at hp
   rw [hp.1] at hnum
   obtain ⟨b, hbl, hbig⟩ := f_big1 v
   refine ⟨t ++ b, by simp [ht, hbl], (fAddr_step hi hsm t).trans (out_call hnum (out_bind (r := (0, [.bool false])) (out_else (by simp) (by simp [hp.2])) (sel0 (out_else (by simp) (out_call hbig (out_if ?_ rfl))))))⟩
   simp [catOk, smax_eq, hbl]; omega
  ·intro hp
   refine (fAddr_step hi hsm t).trans (out_call hnum (out_bind (r := (0, [.bool true])) ?_ (sel0 (out_if rfl rfl))))
   cases hq : numOk ps[i] 255 with
   | false => exact out_if rfl rfl
   | true =>
     rw [hq] at hp
     simp only [Bool.true_and, decide_eq_false_iff_not] at hp
     refine out_else (by simp) ?_
     have : ((ps.length : Int) != 4) = true := by simp; omega
     rw [this]
 ·intro t
  exact out_else (by simp) rfl
theorem f_l3A {s : List UInt8} (h : s.length ≤ lim) : ∃ b : List UInt8, e_spec_l3Bytes.F [.int 1, .str s] = some (.pair (.str b) (.pair (.bool (addrOk s)) .unit)) := by
 have hlim : lim = 1048576 := rfl
 rw [q_spec_l3Bytes]
 have hsp := f_l1Split s 46 h
 have hpl := splB_len 46 s
 have hpm := splB_mem 46 s
 unfold addrOk
 generalize splB 46 s = ps at hsp hpl hpm
 have hsm : ps.length ≤ smax := by rw [smax_eq]; omega
 have hlen : (D.lst (ps.map D.str)).l.length = ps.length := by simp
 have hcat := loop_cat (f := gAddr ps) (l := [D.str [], .int 0]) ps.length (fun i => numOk (ps.getD i []) 255) (t1 := 0) (t2 := 1) (o1 := []) rfl ?_ ?_
 ·obtain ⟨b, hb⟩ := hcat
  refine ⟨cond (allN ps.length (fun i => numOk (ps.getD i []) 255)) b [], rn_if rfl (rn_call hsp (rn_bind hb ?_))⟩
  rw [all_allN ps (fun p => numOk p 255) []]
  cases ps.all (fun p => numOk p 255) with
  | false => rfl
  | true =>
    simp only [cond_true, sel2_one, sel2_zero, gd_zero, hlen]
    have : ((ps.length : Int) == 4) = decide (ps.length = 4) := by
     rw [Bool.eq_iff_iff]; simp; omega
    rw [this]; rfl
 ·intro i t hi ht
  rw [getD_lt hi]
  have hpi := hpm _ (List.getElem_mem hi)
  have hint := f_l1Int (s := ps[i]) (by omega)
  have hg := gd_parts hi
  have hin := f_l1In (int10 ps[i]) 0 255
  have hok : (decide ((0 : Int) ≤ int10 ps[i]) && decide (int10 ps[i] ≤ 255)) = numOk ps[i] 255 := by
   unfold int10 numOk
   by_cases hc : canon ps[i] = true
   ·by_cases hd : (dv ps[i] : Int) ≤ 255
    ·have hl10 : ps[i].length ≤ 10 := by
      have := dec_len (k := 10) (u := dv ps[i]) (by omega) (by omega)
      rwa [← (canon_iff _).1 hc] at this
     rw [if_pos ⟨hc, hl10⟩]
     simp [hc, hd]
    ·have e : decide ((dv ps[i] : Int) ≤ 255) = false := by simpa using hd
     rw [e, Bool.and_false]
     by_cases hl10 : ps[i].length ≤ 10
     ·rw [if_pos ⟨hc, hl10⟩, e]; simp
     ·rw [if_neg (fun h => hl10 h.2)]; simp
   ·have hc' : canon ps[i] = false := by simpa using hc
    rw [if_neg (fun h => hc h.1), hc']; simp
  rw [hok] at hin
  constructor
  ·intro hp
   rw [hp] at hin
   obtain ⟨b, hbl, hnum⟩ := f_l3Number1 (int10 ps[i])
   refine ⟨t ++ b, by simp [ht, hbl], (gAddr_step hi hsm t).trans (out_call hint (out_call hin (out_else (by simp) (out_call hnum (out_if ?_ rfl)))))⟩
   simp [catOk, smax_eq, hbl]; omega
  ·intro hp
   rw [hp] at hin
   exact (gAddr_step hi hsm t).trans (out_call hint (out_call hin (out_if rfl rfl)))
 ·intro t
  exact out_else (by simp) rfl
end Go.Proofs.YtbacjgkmkkphdaaGreatDoor
namespace Go.Own
variable [Glb]
open Go
theorem loop_text {f : List D → Outc} {l : List D} (Inv : Nat → List UInt8 → Prop) (n : Nat) {t : Nat} (s0 : List UInt8) (hl : l = [.str s0, .int 0]) (h0 : Inv 0 s0)
 (h : ∀ i s, i < n → Inv i s → ∃ s', f [.str s, .int i] = some (0, [.str s', .int ((i + 1 : Nat) : Int)]) ∧ Inv (i + 1) s') (hn : ∀ s, f [.str s, .int n] = some (t + 1, [.str s])) :
 ∃ s, Inv n s ∧ loopF f l = some (t, [.str s]) := by
 subst hl
 have key : ∀ m k s, m + k = n → Inv k s → ∃ s', Inv n s' ∧ loopF f [.str s, .int k] = some (t, [.str s']) := by
  intro m
  induction m with
  | zero =>
    intro k s hk hi
    have : k = n := by omega
    subst this
    exact ⟨s, hi, loopF_exit (hn s)⟩
  | succ m ih =>
    intro k s hk hi
    obtain ⟨s', h1, h2⟩ := h k s (by omega) hi
    obtain ⟨s'', h3, h4⟩ := ih (k + 1) s' (by omega) h2
    exact ⟨s'', h3, by rw [loopF_step h1]; exact h4⟩
 exact key n 0 s0 (by omega) h0
theorem splB_has {b c : UInt8} (hbc : c ≠ b) : ∀ s : List UInt8, c ∈ s ↔ ∃ p ∈ splB b s, c ∈ p
 | [] => by simp [splB]
 | x :: s => by
   have ih := splB_has hbc s
   unfold splB
   split
   ·rename_i hx
    subst hx
    simp only [List.mem_cons, hbc, false_or, ih]
    constructor
    ·rintro ⟨p, hp, hc⟩; exact ⟨p, .inr hp, hc⟩
    ·rintro ⟨p, hp, hc⟩
     rcases hp with rfl | hp
     ·simp at hc
     ·exact ⟨p, hp, hc⟩
   ·split
    ·rename_i p ps hq
     rw [hq] at ih
     simp only [List.mem_cons] at ih ⊢
     rw [ih]
     constructor
     ·rintro (rfl | ⟨q, rfl | hqm, hc⟩)
      ·exact ⟨_, .inl rfl, by simp⟩
      ·exact ⟨_, .inl rfl, by simp [hc]⟩
      ·exact ⟨q, .inr hqm, hc⟩
     ·rintro ⟨q, rfl | hqm, hc⟩
      ·simp only [List.mem_cons] at hc
       rcases hc with rfl | hc
       ·exact .inl rfl
       ·exact .inr ⟨p, .inl rfl, hc⟩
      ·exact .inr ⟨q, .inr hqm, hc⟩
    ·rename_i hq
     exact absurd hq (splB_ne b s)
end Go.Own
namespace Go.Proofs.YtbacjgkmkkphdaaGreatDoor
open Go Go.Own
def isTgt (s : List UInt8) : Bool := !s.isEmpty && (isName s && !(s.contains 42))
theorem contains_one (s : List UInt8) (c : UInt8) : Lib.contains s [c] = s.contains c := by
 unfold Lib.contains
 by_cases h : c ∈ s
 ·obtain ⟨p, q, rfl, hp⟩ := mem_cut h
  rw [index_one_cut hp]; simp
 ·rw [index_one_none h]
  have : s.contains c = false := by simpa using h
  rw [this]; rfl
theorem f_contains {s : List UInt8} (h : s.length ≤ lim) : e_strings_Contains.F [.str s, .str [42]] = some (.bool (s.contains 42)) := by
 rw [show e_strings_Contains.F = containsF from by unfold e_strings_Contains containsE; rfl]
 unfold containsF
 have hlim : lim = 1048576 := rfl
 refine (if_pos (by simp; omega)).trans ?_
 simp [contains_one]
theorem f_isTarget {s : List UInt8} (h : s.length ≤ lim) : e_impl_isTarget.F [.str s] = some (.bool (isTgt s)) := by
 rw [q_impl_isTarget]
 have hn := f_GoodName s
 have hc := f_contains h
 refine rn_bind (r := (0, [.bool (isTgt s)])) ?_ rfl
 unfold isTgt
 by_cases h0 : s = []
 ·subst h0; exact out_else (by simp) rfl
 ·have he : s.isEmpty = false := by cases s <;> simp_all
  rw [he]
  refine out_if (by simpa using h0) ?_
  cases h1 : isName s with
  | false => rw [h1] at hn; exact out_call hn (out_else (by simp) rfl)
  | true => rw [h1] at hn; exact out_call hn (out_if rfl (out_call hc (by simp)))
theorem name_star {s : List UInt8} (h : isName s = true) (h0 : s ≠ []) : s.contains 42 = (parts s).any (· == [42]) := by
 have he : s.isEmpty = false := by cases s <;> simp_all
 have hp : parts s = splB 46 s := by unfold parts; rw [he]; rfl
 rw [hp]
 unfold isName at h
 rw [he] at h
 simp only [Bool.and_eq_true, Bool.false_or, List.all_eq_true, decide_eq_true_eq] at h
 rw [Bool.eq_iff_iff, List.any_eq_true]
 have hh := splB_has (b := 46) (c := 42) (by decide) s
 constructor
 ·intro hc
  obtain ⟨p, hp, hcp⟩ := hh.1 (by simpa using hc)
  refine ⟨p, hp, ?_⟩
  have := h.2.2 p hp
  unfold isLab at this
  simp only [Bool.or_eq_true, Bool.and_eq_true, List.all_eq_true] at this
  rcases this with h1 | h1
  ·exact h1
  ·have := h1.2 42 hcp
   exact absurd this (by decide)
 ·rintro ⟨p, hp, hpe⟩
  have : p = [42] := by simpa using hpe
  subst this
  simpa using hh.2 ⟨[42], hp, by simp⟩
theorem f_l3Target {s : List UInt8} (h : s.length ≤ lim) : e_spec_l3Target.F [.str s] = some (.bool (isTgt s)) := by
 have hlim : lim = 1048576 := rfl
 rw [q_spec_l3Target]
 obtain ⟨ls, hl, hll, hpt⟩ := f_l1LabelsX s h
 have hsm : ls.length ≤ smax := by rw [smax_eq]; omega
 have hlen : (D.lst (ls.map D.str)).l.length = ls.length := by simp
 have f0 : ((D.pair (.lst (ls.map D.str)) (.pair (.bool (isName s)) .unit)).fld 0).l = ls.map D.str := rfl
 have f1 : (D.pair (.lst (ls.map D.str)) (.pair (.bool (isName s)) .unit)).fld 1 = .bool (isName s) := rfl
 refine rn_call hl ?_
 rw [f0, f1, List.length_map]
 refine rn_bind (loop_for' (fun i (b : Bool) => [.bool b, .int i]) ls.length (fun i => isName s && (ls.take i).all (fun x => !(x == [42]))) (t := 0) (o := [.bool (isName s && ls.all (fun x => !(x == [42])))]) (by simp) ?_ ?_) ?_
 ·intro i hi
  have hg := gd_parts hi
  refine out_if (by simpa using hi) (out_bind (r := (0, [.bool (isName s && (ls.take (i + 1)).all (fun x => !(x == [42])))])) (out_if (by simpa using inb_nat hi) ?_) (sel0 ?_))
  ·simp only [gd_zero, gd_one, D.i_int, Int.toNat_natCast, D.b_bool, hg]
   rw [List.take_succ_eq_append_getElem hi, List.all_append, ← Bool.and_assoc]
   cases (isName s && (ls.take i).all (fun x => !(x == [42]))) with
   | false => exact out_else (by simp) (by simp)
   | true => exact out_if rfl (by simp)
  ·simp [wrap_succ hi hsm]
 ·simp
 ·refine rn_bind (r := (0, [.bool (isTgt s)])) ?_ rfl
  unfold isTgt
  cases hn : isName s with
  | false => exact out_else (by simp) (by simp)
  | true =>
    have hls := hpt hn
    subst hls
    by_cases h0 : s = []
    ·subst h0; exact out_if rfl rfl
    ·have he : s.isEmpty = false := by cases s <;> simp_all
     have hs := name_star hn h0
     have hall : (parts s).all (fun x => !(x == [42])) = !(s.contains 42) := by
      rw [hs]
      rw [Bool.eq_iff_iff]; simp
     rw [hall, he]
     cases s.contains 42 with
     | true => exact out_else (by simp) (by simp)
     | false => exact out_if rfl (by simp [h0])
theorem cat_ok {a b : List UInt8} (h : a.length + b.length ≤ 4 * lim + 100) : catOk a b = true := by
 have hlim : lim = 1048576 := rfl
 unfold catOk
 rw [smax_eq]
 exact decide_eq_true (by omega)
theorem parts_bound (s : List UInt8) : (parts s).length ≤ s.length + 1 ∧ ∀ p ∈ parts s, p.length ≤ 20 ∨ True := by
 unfold parts
 split
 ·simp
 ·exact ⟨splB_len 46 s, fun _ _ => .inr trivial⟩
def lens (ls : List (List UInt8)) : Nat := (ls.map fun p => p.length + 1).sum
theorem lens_take {ls : List (List UInt8)} {i : Nat} (hi : i < ls.length) : lens (ls.take (i + 1)) = lens (ls.take i) + (ls[i].length + 1) := by
 unfold lens
 rw [List.take_succ_eq_append_getElem hi, List.map_append, List.sum_append_nat]
 simp only [List.map_cons, List.map_nil, List.sum_cons, List.sum_nil, Nat.add_zero]
theorem lens_le (ls : List (List UInt8)) (i : Nat) : lens (ls.take i) ≤ lens ls := by
 unfold lens
 conv => rhs; rw [← List.take_append_drop i ls]
 rw [List.map_append, List.sum_append_nat]
 exact Nat.le_add_right _ _
theorem lens_splB (b : UInt8) : ∀ s : List UInt8, lens (splB b s) = s.length + 1
 | [] => rfl
 | c :: s => by
   have ih := lens_splB b s
   unfold lens at ih ⊢
   unfold splB
   split
   ·simp only [List.map_cons, List.sum_cons, ih, List.length_cons, List.length_nil]; omega
   ·split
    ·rename_i p ps hq
     rw [hq] at ih
     simp only [List.map_cons, List.sum_cons, List.length_cons] at ih ⊢; omega
    ·rename_i hq
     exact absurd hq (splB_ne b s)
theorem lens_parts (s : List UInt8) : lens (parts s) ≤ s.length + 1 := by
 unfold parts
 split
 ·simp [lens]
 ·rw [lens_splB]; exact Nat.le_refl _
theorem lab_loop {ls : List (List UInt8)} (hl : lens ls ≤ 2 * lim) (hn : ls.length ≤ 2 * lim) : ∃ s : List UInt8, s.length ≤ 2 * lim ∧ loopF (fun l2 =>
 if (decide ((gd l2 1).i < ((D.lst (ls.map D.str)).l.length : Int))) then
  if (inb (gd l2 1).i (D.lst (ls.map D.str)).l.length) then
  if (catOk (bytesStr ((.int (IntKind.wrap .u8 ((gd (D.lst (ls.map D.str)).l (gd l2 1).i.toNat).s.length : Int))) :: ([] : List D))) (gd (D.lst (ls.map D.str)).l (gd l2 1).i.toNat).s) then
  if (catOk (gd l2 0).s ((bytesStr ((.int (IntKind.wrap .u8 ((gd (D.lst (ls.map D.str)).l (gd l2 1).i.toNat).s.length : Int))) :: ([] : List D))) ++ (gd (D.lst (ls.map D.str)).l (gd l2 1).i.toNat).s)) then
  ou 0 [(.str ((gd l2 0).s ++ ((bytesStr ((.int (IntKind.wrap .u8 ((gd (D.lst (ls.map D.str)).l (gd l2 1).i.toNat).s.length : Int))) :: ([] : List D))) ++ (gd (D.lst (ls.map D.str)).l (gd l2 1).i.toNat).s))), (.int (IntKind.wrap .i64 ((gd l2 1).i + 1)))]
  else none
  else none
  else none
 else
  ou 1 [(gd l2 0)]) [(D.str []), (.int 0)] = some (0, [.str s]) := by
 have hlim : lim = 1048576 := rfl
 have hsm : ls.length ≤ smax := by rw [smax_eq]; omega
 have hlen : (D.lst (ls.map D.str)).l.length = ls.length := by simp
 obtain ⟨s, hs, hloop⟩ := loop_text (fun i s => s.length = lens (ls.take i)) ls.length (t := 0) [] rfl (by simp [lens]) (f := fun l2 =>
  if (decide ((gd l2 1).i < ((D.lst (ls.map D.str)).l.length : Int))) then
   if (inb (gd l2 1).i (D.lst (ls.map D.str)).l.length) then
   if (catOk (bytesStr ((.int (IntKind.wrap .u8 ((gd (D.lst (ls.map D.str)).l (gd l2 1).i.toNat).s.length : Int))) :: ([] : List D))) (gd (D.lst (ls.map D.str)).l (gd l2 1).i.toNat).s) then
   if (catOk (gd l2 0).s ((bytesStr ((.int (IntKind.wrap .u8 ((gd (D.lst (ls.map D.str)).l (gd l2 1).i.toNat).s.length : Int))) :: ([] : List D))) ++ (gd (D.lst (ls.map D.str)).l (gd l2 1).i.toNat).s)) then
   ou 0 [(.str ((gd l2 0).s ++ ((bytesStr ((.int (IntKind.wrap .u8 ((gd (D.lst (ls.map D.str)).l (gd l2 1).i.toNat).s.length : Int))) :: ([] : List D))) ++ (gd (D.lst (ls.map D.str)).l (gd l2 1).i.toNat).s))), (.int (IntKind.wrap .i64 ((gd l2 1).i + 1)))]
   else none
   else none
   else none
  else
   ou 1 [(gd l2 0)]) (by
  intro i s hi hs
  have hg := gd_parts hi
  have hti := lens_take hi
  have htl := lens_le ls (i + 1)
  have hb := bytesStr_size [.int (IntKind.wrap .u8 (ls[i].length : Int))]
  refine ⟨s ++ (bytesStr [.int (IntKind.wrap .u8 (ls[i].length : Int))] ++ ls[i]), ?_, by simp [hs, hti, hb]; omega⟩
  refine out_if (by rw [hlen]; simpa using hi) (out_if (by rw [hlen]; simpa using inb_nat hi) ?_)
  have e1 : (gd [D.str s, D.int (i : Int)] 1).i.toNat = i := by simp
  have e2 : (gd [D.str s, D.int (i : Int)] 1).i = i := rfl
  have e3 : (gd [D.str s, D.int (i : Int)] 0).s = s := rfl
  rw [e1, e2, e3, show (D.lst (ls.map D.str)).l = ls.map D.str from rfl, hg, wrap_succ hi hsm]
  simp only [D.s_str]
  refine out_if (cat_ok (by rw [hb, List.length_singleton]; omega)) (out_if (cat_ok (by rw [List.length_append, hb, List.length_singleton]; omega)) rfl)) (by
  intro s
  exact out_else (by rw [hlen]; simp) rfl)
 refine ⟨s, ?_, hloop⟩
 have := lens_le ls ls.length
 omega
theorem f_labelBytes {s : List UInt8} (h : s.length ≤ lim) : ∃ b : List UInt8, b.length ≤ 2 * lim ∧ e_impl_labelBytes.F [.str s] = some (.str b) := by
 have hlim : lim = 1048576 := rfl
 rw [q_impl_labelBytes]
 have hl := f_labelsOf s (by omega)
 have hp : (if s.isEmpty then [] else splB 46 s) = parts s := rfl
 rw [hp] at hl
 obtain ⟨b, hb, hloop⟩ := lab_loop (ls := parts s) (Nat.le_trans (lens_parts s) (by omega)) (Nat.le_trans (parts_bound s).1 (by omega))
 exact ⟨b, hb, rn_call hl (rn_bind hloop rfl)⟩
theorem f_l2Bytes {s : List UInt8} (h : s.length ≤ lim) (hn : isName s = true) : ∃ b : List UInt8, b.length ≤ 2 * lim + 1 ∧ e_spec_l2Bytes.F [.str s] = some (.str b) := by
 have hlim : lim = 1048576 := rfl
 rw [q_spec_l2Bytes]
 obtain ⟨ls, hl, hll, hpt⟩ := f_l1LabelsX s h
 rw [hpt hn] at hl
 obtain ⟨b, hb, hloop⟩ := lab_loop (ls := parts s) (Nat.le_trans (lens_parts s) (by omega)) (Nat.le_trans (parts_bound s).1 (by omega))
 refine ⟨b ++ [0], by simp; omega, rn_call hl (rn_bind hloop (rn_if (cat_ok (by simp; omega)) ?_))⟩
 simp
end Go.Proofs.YtbacjgkmkkphdaaGreatDoor
namespace Go.Proofs.YtbacjgkmkkphdaaGreatDoor
open Go Go.Own
theorem f_big {c : Nat} (hc : c ≤ 4) (n : Int) : ∃ b : List UInt8, b.length = c ∧ e_impl_big.F [.int n, .int c] = some (.str b) := by
 rw [q_impl_big]
 have w0 : IntKind.wrap .i64 ((c : Int) - 1) = (c : Int) - 1 := by rw [wrap_id] <;> omega
 simp only [D.i_int, w0]
 obtain ⟨l, hl, hloop⟩ := loop_down (f := fun l2 =>
  if (decide ((gd l2 1).i ≥ 0)) then
   if (decide (0 ≤ (IntKind.wrap .i64 (8 * (gd l2 1).i)))) then
   if (appOk 1 (gd l2 0).l ((.int (IntKind.wrap .u8 (n.fdiv (2 ^ min (IntKind.wrap .i64 (8 * (gd l2 1).i)).toNat (IntKind.bits .i64))))) :: ([] : List D))) then
   ou 0 [(D.lst ((gd l2 0).l ++ ((.int (IntKind.wrap .u8 (n.fdiv (2 ^ min (IntKind.wrap .i64 (8 * (gd l2 1).i)).toNat (IntKind.bits .i64))))) :: ([] : List D)))), (.int (IntKind.wrap .i64 ((gd l2 1).i - 1)))]
   else none
   else none
  else
   ou 1 [(gd l2 0)]) (l := [.lst [], .int ((c : Int) - 1)]) (fun m (zs : List D) => [.lst zs, .int ((m : Int) - 1)]) (fun m zs => zs.length + m = c) (t := 0) (out := fun zs => [.lst zs]) c [] rfl (by simp) (by
  intro m zs hz
  have w1 : IntKind.wrap .i64 (8 * (((m + 1 : Nat) : Int) - 1)) = 8 * (m : Int) := by rw [wrap_id] <;> omega
  have w2 : IntKind.wrap .i64 ((((m + 1 : Nat) : Int) - 1) - 1) = (m : Int) - 1 := by rw [wrap_id] <;> omega
  refine ⟨zs ++ [.int (IntKind.wrap .u8 (n.fdiv (2 ^ min (8 * (m : Int)).toNat (IntKind.bits .i64))))], out_if (decide_eq_true (by simp)) (out_if ?_ (out_if ?_ ?_)), by simp; omega⟩
  ·simp only [gd_one, D.i_int, w1]; exact decide_eq_true (by omega)
  ·simp only [gd_zero, D.l_lst, appOk, List.length_singleton]
   simp [smax_eq]; omega
  ·simp only [gd_zero, gd_one, D.i_int, D.l_lst, w1, w2]) (by
  intro zs _
  exact out_else (by simp) rfl)
 refine ⟨bytesStr l, by rw [bytesStr_size]; omega, rn_bind hloop rfl⟩
theorem f_l3Number {c : Nat} (hc : c ≤ 4) (n : Int) : ∃ b : List UInt8, b.length = c ∧ e_spec_l3Number.F [.int n, .int c] = some (.str b) := by
 rw [q_spec_l3Number]
 have w0 : IntKind.wrap .i64 ((c : Int) - 1) = (c : Int) - 1 := by rw [wrap_id] <;> omega
 simp only [D.i_int, w0]
 obtain ⟨l, hl, hloop⟩ := loop_down (f := fun l2 =>
  if (decide ((gd l2 2).i ≥ 0)) then
   if (inb (gd l2 2).i (gd l2 1).l.length) then
   if (decide (0 ≤ 8)) then
   ou 0 [(.int ((gd l2 0).i.fdiv (2 ^ min 8 (IntKind.bits .i64)))), (D.lst ((gd l2 1).l.set (gd l2 2).i.toNat (.int (IntKind.wrap .u8 (gd l2 0).i)))), (.int (IntKind.wrap .i64 ((gd l2 2).i - 1)))]
   else none
   else none
  else
   ou 1 [(gd l2 1)]) (l := [.int n, .lst (List.replicate ((c : Int)).toNat (.int 0)), .int ((c : Int) - 1)]) (fun m (z : Int × List D) => [.int z.1, .lst z.2, .int ((m : Int) - 1)]) (fun m z => z.2.length = c ∧ m ≤ c) (t := 0) (out := fun z => [.lst z.2]) c (n, List.replicate c (.int 0)) (by simp) (by simp) (by
  intro m z hz
  have w2 : IntKind.wrap .i64 ((((m + 1 : Nat) : Int) - 1) - 1) = (m : Int) - 1 := by rw [wrap_id] <;> omega
  refine ⟨(z.1.fdiv (2 ^ min 8 (IntKind.bits .i64)), z.2.set m (.int (IntKind.wrap .u8 z.1))), out_if (decide_eq_true (by simp)) (out_if ?_ (out_if (by decide) ?_)), by simp; omega⟩
  ·simp only [gd_two, gd_one, D.i_int, D.l_lst]; exact inb_int (by omega) (by omega)
  ·have e : (((m + 1 : Nat) : Int) - 1).toNat = m := by omega
   simp only [gd_zero, gd_one, gd_two, D.i_int, D.l_lst, w2, e]) (by
  intro zs _
  exact out_else (by simp) rfl)
 refine ⟨bytesStr l.2, by rw [bytesStr_size]; omega, rn_if ?_ (rn_bind hloop rfl)⟩
 exact makeOk_nat (by have : lim = 1048576 := rfl; omega) (by decide)
theorem int10_in {s : List UInt8} {m : Int} (hm : m < 10000000000) : (decide ((0 : Int) ≤ int10 s) && decide (int10 s ≤ m)) = numOk s m := by
 unfold int10 numOk
 by_cases hc : canon s = true
 ·by_cases hd : (dv s : Int) ≤ m
  ·have hl10 : s.length ≤ 10 := by
    have := dec_len (k := 10) (u := dv s) (by omega) (by omega)
    rwa [← (canon_iff _).1 hc] at this
   rw [if_pos ⟨hc, hl10⟩]
   simp [hc, hd]
  ·have e : decide ((dv s : Int) ≤ m) = false := by simpa using hd
   rw [e, Bool.and_false]
   by_cases hl10 : s.length ≤ 10
   ·rw [if_pos ⟨hc, hl10⟩, e]; simp
   ·rw [if_neg (fun h => hl10 h.2)]; simp
 ·have hc' : canon s = false := by simpa using hc
  rw [if_neg (fun h => hc h.1), hc']; simp
def mxP : List (List UInt8) → Bool
 | [a, b] => numOk a 65535 && isTgt b
 | _ => false
def mxOk (s : List UInt8) : Bool := mxP (splB 32 s)
def txtOk (s : List UInt8) : Bool := decide (s.length ≤ 30) && s.all (fun c => decide (32 ≤ c.toNat) && decide (c.toNat ≤ 126))
def dataOk (k : Int) (s : List UInt8) : Bool :=
 if k = 1 then addrOk s else if k = 2 ∨ k = 5 then isTgt s else if k = 6 then numOk s 4294967295 else if k = 15 then mxOk s else if k = 16 then txtOk s else false
theorem tgt_space {q : List UInt8} (h : 32 ∈ q) : isTgt q = false := by
 cases hq : isTgt q with
 | false => rfl
 | true =>
   exfalso
   unfold isTgt isName at hq
   simp only [Bool.and_eq_true, Bool.or_eq_true, List.all_eq_true, decide_eq_true_eq, Bool.not_eq_true'] at hq
   obtain ⟨p, hp, hc⟩ := (splB_has (b := 46) (c := 32) (by decide) q).1 h
   rcases hq.2.1.2 with he | he
   ·rw [he] at hq; simp at hq
   ·have := he.2 p hp
    unfold isLab at this
    simp only [Bool.or_eq_true, Bool.and_eq_true, List.all_eq_true] at this
    rcases this with h1 | h1
    ·have : p = [42] := by simpa using h1
     subst this
     exact absurd hc (by decide)
    ·exact absurd (h1.2 32 hc) (by decide)
theorem cut_none {s : List UInt8} (h : 32 ∉ s) : Lib.cut s [32] = (s, [], false) := by
 unfold Lib.cut
 rw [index_one_none h]; rfl
theorem cut_some {p q : List UInt8} (h : 32 ∉ p) : Lib.cut (p ++ 32 :: q) [32] = (p, q, true) := by
 unfold Lib.cut
 rw [index_one_cut h]
 simp
theorem f_cut {s : List UInt8} (h : s.length ≤ lim) : e_strings_Cut.F [.str s, .str [32]] = some (cutD (Lib.cut s [32])) := by
 rw [show e_strings_Cut.F = cutF from by unfold e_strings_Cut cutE; rfl]
 unfold cutF
 have hlim : lim = 1048576 := rfl
 exact if_pos (by simp; omega)
theorem mx_cut (s : List UInt8) : mxOk s = (numOk (Lib.cut s [32]).1 65535 && isTgt (Lib.cut s [32]).2.1) := by
 unfold mxOk
 by_cases h : 32 ∈ s
 ·obtain ⟨p, q, rfl, hp⟩ := mem_cut h
  rw [cut_some hp, splB_cut hp]
  by_cases hq : 32 ∈ q
  ·rw [tgt_space hq, Bool.and_false]
   obtain ⟨p2, q2, rfl, hp2⟩ := mem_cut hq
   rw [splB_cut hp2]
   cases hh : splB 32 q2 with
   | nil => exact absurd hh (splB_ne 32 q2)
   | cons a l => rfl
  ·rw [splB_none hq]; rfl
 ·rw [cut_none h, splB_none h]
  simp [isTgt, mxP]
end Go.Proofs.YtbacjgkmkkphdaaGreatDoor
namespace Go.Proofs.YtbacjgkmkkphdaaGreatDoor
open Go Go.Own
theorem rn_bind0 {o : Outc} {l : List D} {A : Nat × List D → Outc} {B : Nat × List D → Nat → Outc} {R : Option D} (h : o = some (0, l)) (hk : rn (A (0, l)) = R) : rn (o.bind fun o => sel2 o.1 (A o) (B o)) = R := by
 rw [h]; exact hk
theorem f_data1 (n : Int) : e_impl_DataBytes_1.F [.int n] = some (.bool !(decide (32 ≤ n) && decide (n ≤ 126))) := by
 rw [q_impl_DataBytes_1]
 by_cases h : n < 32
 ·have : decide (32 ≤ n) = false := by simp; omega
  simp [h, this]
 ·have h1 : decide (32 ≤ n) = true := by simp; omega
  by_cases h2 : n > 126
  ·have : decide (n ≤ 126) = false := by simp; omega
   simp [h, h1, h2, this]
  ·have : decide (n ≤ 126) = true := by simp; omega
   simp [h, h1, h2, this]
theorem gd_bytes {s : List UInt8} {i : Nat} (hi : i < s.length) : gd (s.map fun c => D.int c.toNat) i = .int (s[i]).toNat := by
 rw [gd_lt (by simpa using hi)]; simp
theorem f_containsB {s : List UInt8} (u : D) (hl : s.length ≤ smax) : e_slices_ContainsFunc_byte_byte__impl_DataBytes_1.F [.lst (s.map fun c => D.int c.toNat), u] = some (.bool !(s.all (fun c => decide (32 ≤ c.toNat) && decide (c.toNat ≤ 126)))) := by
 rw [q_slices_ContainsFunc_byte_byte__impl_DataBytes_1]
 let q : UInt8 → Bool := fun c => decide (32 ≤ c.toNat) && decide (c.toNat ≤ 126)
 have key : ∃ r, e_slices_IndexFunc_byte_byte__impl_DataBytes_1.F [.lst (s.map fun c => D.int c.toNat), u] = some r ∧ ∃ n : Int, r = .int n ∧ decide (n ≥ 0) = !(s.all q) := by
  rw [q_slices_IndexFunc_byte_byte__impl_DataBytes_1]
  have hp : ∀ i (hi : i < s.length), e_impl_DataBytes_1.F [.int (s[i]).toNat] = some (.bool !(q s[i])) := fun i hi => by
   rw [f_data1]
   have : (decide ((32 : Int) ≤ (s[i]).toNat) && decide (((s[i]).toNat : Int) ≤ 126)) = q s[i] := by
    simp only [q]
    rw [Bool.eq_iff_iff]; simp; omega
   rw [this]
  refine find_ex (fun i => [.int i]) s.length (fun i => q (s.getD i 0)) (t1 := 0) (t2 := 1) (o1 := fun i => [.int i]) (o2 := []) rfl ?_ ?_ ?_ ?_ ?_
  ·intro i hi h
   rw [getD_lt hi] at h
   have := hp i hi
   rw [h] at this
   simp [hi, inb_nat hi, wrap_succ hi hl, gd_bytes hi, this]
  ·intro i hi h
   rw [getD_lt hi] at h
   have := hp i hi
   rw [h] at this
   simp [hi, inb_nat hi, gd_bytes hi, this]
  ·simp
  ·intro hall
   refine ⟨_, rfl, -1, rfl, ?_⟩
   have : s.all q = true := by
    rw [← all_allN s q 0, allN_true]; exact hall
   rw [this]; rfl
  ·intro j hj hp' _
   refine ⟨_, rfl, j, rfl, ?_⟩
   have : s.all q = false := by
    rw [← all_allN s q 0]; exact allN_false hj hp'
   rw [this]; simp
 obtain ⟨r, h1, n, rfl, h2⟩ := key
 refine rn_call h1 ?_
 show some (D.bool (decide (n ≥ 0))) = some (D.bool !(s.all q))
 rw [h2]
theorem f_data {k : Int} {s : List UInt8} (h : s.length ≤ lim) : ∃ b : List UInt8, e_impl_DataBytes.F [.int k, .str s] = some (.pair (.str b) (.pair (.bool (dataOk k s)) .unit)) := by
 have hlim : lim = 1048576 := rfl
 unfold dataOk
 by_cases k1 : k = 1
 ·subst k1; rw [if_pos rfl]; exact f_dataA h
 rw [if_neg k1, q_impl_DataBytes]
 have e1 : ¬ ((D.int k).i == 1) = true := by simpa using k1
 by_cases k25 : k = 2 ∨ k = 5
 ·rw [if_pos k25]
  have ht := f_isTarget h
  have hj : (if (D.int k).i == 2 then ou 0 [.bool ((D.int k).i == 2)] else ou 0 [.bool ((D.int k).i == 5)] : Outc) = some (0, [.bool true]) := by
   rcases k25 with rfl | rfl <;> rfl
  cases hq : isTgt s with
  | false =>
    rw [hq] at ht
    exact ⟨[], rn_else e1 (rn_bind0 hj (rn_if rfl (rn_call ht (rn_if rfl rfl))))⟩
  | true =>
    rw [hq] at ht
    obtain ⟨b, hb, hlb⟩ := f_labelBytes h
    exact ⟨b ++ [0], rn_else e1 (rn_bind0 hj (rn_if rfl (rn_call ht (rn_else (by simp) (rn_call hlb (rn_if (cat_ok (by simp; omega)) rfl))))))⟩
 rw [if_neg k25]
 have hj : (if (D.int k).i == 2 then ou 0 [.bool ((D.int k).i == 2)] else ou 0 [.bool ((D.int k).i == 5)] : Outc) = some (0, [.bool false]) := by
  have h2 : ¬ k = 2 := fun h => k25 (.inl h)
  have h5 : ¬ k = 5 := fun h => k25 (.inr h)
  simp [h2, h5]
 by_cases k6 : k = 6
 ·rw [if_pos k6]; subst k6
  obtain ⟨v, hn, _⟩ := f_numberIn (s := s) (m := 4294967295) h (by decide)
  cases hq : numOk s 4294967295 with
  | false =>
    rw [hq] at hn
    exact ⟨[], rn_else e1 (rn_bind0 hj (rn_else (by simp) (rn_if rfl (rn_call hn (rn_if rfl rfl)))))⟩
  | true =>
    rw [hq] at hn
    obtain ⟨b, _, hb⟩ := f_big (c := 4) (by omega) v
    exact ⟨b, rn_else e1 (rn_bind0 hj (rn_else (by simp) (rn_if rfl (rn_call hn (rn_else (by simp) (rn_call hb rfl))))))⟩
 rw [if_neg k6]
 have e6 : ¬ ((D.int k).i == 6) = true := by simpa using k6
 by_cases k15 : k = 15
 ·rw [if_pos k15]; subst k15
  rw [mx_cut]
  have hc := f_cut h
  have hle := cut_le s [32]
  generalize hcut : Lib.cut s [32] = c at hc hle
  obtain ⟨a, q, f⟩ := c
  simp only at hle ⊢
  have f0 : (cutD (a, q, f)).fld 0 = .str a := rfl
  have f1 : (cutD (a, q, f)).fld 1 = .str q := rfl
  obtain ⟨v, hn, _⟩ := f_numberIn (s := a) (m := 65535) (by omega) (by decide)
  have ht := f_isTarget (s := q) (by omega)
  cases hq : numOk a 65535 && isTgt q with
  | false =>
    refine ⟨[], rn_else e1 (rn_bind0 hj (rn_else (by simp) (rn_else e6 (rn_if rfl (rn_call hc ?_)))))⟩
    rw [f0, f1]
    refine rn_call hn (rn_bind0 (l := [.bool true]) ?_ (rn_if rfl rfl))
    cases hna : numOk a 65535 with
    | false => exact out_if rfl rfl
    | true =>
      rw [hna, Bool.true_and] at hq
      rw [hq] at ht
      exact out_else (by simp) (out_call ht rfl)
  | true =>
    simp only [Bool.and_eq_true] at hq
    rw [hq.1] at hn
    rw [hq.2] at ht
    obtain ⟨b, hbl, hb⟩ := f_big (c := 2) (by omega) v
    obtain ⟨b2, hb2, hlb⟩ := f_labelBytes (s := q) (by omega)
    refine ⟨b ++ b2 ++ [0], rn_else e1 (rn_bind0 hj (rn_else (by simp) (rn_else e6 (rn_if rfl (rn_call hc ?_)))))⟩
    rw [f0, f1]
    exact rn_call hn (rn_bind0 (l := [.bool false]) (out_else (by simp) (out_call ht rfl)) (rn_else (by simp) (rn_call hb (rn_call hlb (rn_if (cat_ok (by simp only [D.s_str]; omega)) (rn_if (cat_ok (by simp; omega)) rfl))))))
 rw [if_neg k15]
 have e15 : ¬ ((D.int k).i == 15) = true := by simpa using k15
 by_cases k16 : k = 16
 ·rw [if_pos k16]; subst k16
  have hc := f_containsB (s := s) .unit (Nat.le_trans h lim_smax)
  unfold txtOk
  by_cases h30 : s.length ≤ 30
  ·have e30 : decide (s.length ≤ 30) = true := by simpa using h30
   rw [e30, Bool.true_and]
   cases hq : s.all (fun c => decide (32 ≤ c.toNat) && decide (c.toNat ≤ 126)) with
   | false =>
     rw [hq] at hc
     exact ⟨[], rn_else e1 (rn_bind0 hj (rn_else (by simp) (rn_else e6 (rn_else e15 (rn_if rfl (rn_bind0 (l := [.bool true]) (out_else (fun h => by have h' : (s.length : Int) > 30 := of_decide_eq_true h; omega) (out_call hc rfl)) (rn_if rfl rfl)))))))⟩
   | true =>
     rw [hq] at hc
     obtain ⟨b, hbl, hb⟩ := f_big (c := 1) (by omega) s.length
     exact ⟨b ++ s, rn_else e1 (rn_bind0 hj (rn_else (by simp) (rn_else e6 (rn_else e15 (rn_if rfl (rn_bind0 (l := [.bool false]) (out_else (fun h => by have h' : (s.length : Int) > 30 := of_decide_eq_true h; omega) (out_call hc rfl)) (rn_else (by simp) (rn_call hb (rn_if (cat_ok (by simp only [D.s_str]; omega)) rfl)))))))))⟩
  ·have e30 : decide (s.length ≤ 30) = false := by simpa using h30
   rw [e30, Bool.false_and]
   exact ⟨[], rn_else e1 (rn_bind0 hj (rn_else (by simp) (rn_else e6 (rn_else e15 (rn_if rfl (rn_bind0 (l := [.bool true]) (out_if (decide_eq_true (show (s.length : Int) > 30 by omega)) rfl) (rn_if rfl rfl)))))))⟩
 rw [if_neg k16]
 have e16 : ¬ ((D.int k).i == 16) = true := by simpa using k16
 exact ⟨[], rn_else e1 (rn_bind0 hj (rn_else (by simp) (rn_else e6 (rn_else e15 (rn_else e16 rfl)))))⟩
theorem f_l3 {k : Int} {s : List UInt8} (h : s.length ≤ lim) : ∃ b : List UInt8, e_spec_l3Bytes.F [.int k, .str s] = some (.pair (.str b) (.pair (.bool (dataOk k s)) .unit)) := by
 have hlim : lim = 1048576 := rfl
 unfold dataOk
 by_cases k1 : k = 1
 ·subst k1; rw [if_pos rfl]; exact f_l3A h
 rw [if_neg k1, q_spec_l3Bytes]
 have e1 : ¬ ((D.int k).i == 1) = true := by simpa using k1
 by_cases k25 : k = 2 ∨ k = 5
 ·rw [if_pos k25]
  have ht := f_l3Target h
  have hj : (if (D.int k).i == 2 then ou 0 [.bool ((D.int k).i == 2)] else ou 0 [.bool ((D.int k).i == 5)] : Outc) = some (0, [.bool true]) := by
   rcases k25 with rfl | rfl <;> rfl
  cases hq : isTgt s with
  | false =>
    rw [hq] at ht
    exact ⟨[], rn_else e1 (rn_bind0 hj (rn_if rfl (rn_call ht (rn_if rfl rfl))))⟩
  | true =>
    rw [hq] at ht
    have hn : isName s = true := by unfold isTgt at hq; simp only [Bool.and_eq_true] at hq; exact hq.2.1
    obtain ⟨b, hb, hlb⟩ := f_l2Bytes h hn
    exact ⟨b, rn_else e1 (rn_bind0 hj (rn_if rfl (rn_call ht (rn_else (by simp) (rn_call hlb rfl)))))⟩
 rw [if_neg k25]
 have hj : (if (D.int k).i == 2 then ou 0 [.bool ((D.int k).i == 2)] else ou 0 [.bool ((D.int k).i == 5)] : Outc) = some (0, [.bool false]) := by
  have h2 : ¬ k = 2 := fun h => k25 (.inl h)
  have h5 : ¬ k = 5 := fun h => k25 (.inr h)
  simp [h2, h5]
 by_cases k6 : k = 6
 ·rw [if_pos k6]; subst k6
  have hn := f_l1Int h
  have hin := f_l1In (int10 s) 0 4294967295
  rw [int10_in (by decide)] at hin
  obtain ⟨b, _, hb⟩ := f_l3Number (c := 4) (by omega) (int10 s)
  exact ⟨b, rn_else e1 (rn_bind0 hj (rn_else (by simp) (rn_if rfl (rn_call hn (rn_call hb (rn_call hin rfl))))))⟩
 rw [if_neg k6]
 have e6 : ¬ ((D.int k).i == 6) = true := by simpa using k6
 by_cases k15 : k = 15
 ·rw [if_pos k15]; subst k15
  have hsp := f_l1Split s 32 h
  have hpm := splB_mem 32 s
  unfold mxOk
  generalize splB 32 s = ps at hsp hpm
  have hlen : (D.lst (ps.map D.str)).l.length = ps.length := by simp
  by_cases h2 : ps.length = 2
  ·match ps, h2 with
   | [a, q], _ =>
     have hla := hpm a (by simp)
     have hlq := hpm q (by simp)
     have hn := f_l1Int (s := a) (by omega)
     have hin := f_l1In (int10 a) 0 65535
     rw [int10_in (by decide)] at hin
     have ht := f_l3Target (s := q) (by omega)
     show ∃ b : List UInt8, _ = some (D.pair (.str b) (.pair (.bool (numOk a 65535 && isTgt q)) .unit))
     cases hq : numOk a 65535 && isTgt q with
     | false =>
       refine ⟨[], rn_else e1 (rn_bind0 hj (rn_else (by simp) (rn_else e6 (rn_if rfl (rn_call hsp (rn_bind0 (l := [.bool true]) (out_else (by simp) (out_if rfl (out_call hn (out_call hin ?_)))) (rn_if rfl rfl)))))))⟩
       cases hna : numOk a 65535 with
       | false => exact out_if rfl rfl
       | true =>
         rw [hna, Bool.true_and] at hq
         rw [hq] at ht
         exact out_else (by simp) (out_if rfl (out_call ht rfl))
     | true =>
       simp only [Bool.and_eq_true] at hq
       rw [hq.1] at hin
       rw [hq.2] at ht
       have hnq : isName q = true := by have := hq.2; unfold isTgt at this; simp only [Bool.and_eq_true] at this; exact this.2.1
       obtain ⟨b, hbl, hb⟩ := f_l3Number (c := 2) (by omega) (int10 a)
       obtain ⟨b2, hb2, hlb⟩ := f_l2Bytes (s := q) (by omega) hnq
       exact ⟨b ++ b2, rn_else e1 (rn_bind0 hj (rn_else (by simp) (rn_else e6 (rn_if rfl (rn_call hsp (rn_bind0 (l := [.bool false]) (out_else (by simp) (out_if rfl (out_call hn (out_call hin (out_else (by simp) (out_if rfl (out_call ht rfl))))))) (rn_else (by simp) (rn_if rfl (rn_call hn (rn_call hb (rn_if rfl (rn_call hlb (rn_if (cat_ok (by simp only [D.s_str]; omega)) rfl)))))))))))))⟩
  ·have hm : mxP ps = false := by
    match ps, h2 with
    | [], _ => rfl
    | [_], _ => rfl
    | [_, _], h2 => exact absurd rfl h2
    | _ :: _ :: _ :: _, _ => rfl
   rw [hm]
   refine ⟨[], rn_else e1 (rn_bind0 hj (rn_else (by simp) (rn_else e6 (rn_if rfl (rn_call hsp (rn_bind0 (l := [.bool true]) (out_if ?_ rfl) (rn_if rfl rfl)))))))⟩
   rw [hlen]; simp; omega
 rw [if_neg k15]
 have e15 : ¬ ((D.int k).i == 15) = true := by simpa using k15
 by_cases k16 : k = 16
 ·rw [if_pos k16]; subst k16
  have hsm := Nat.le_trans h lim_smax
  let q : UInt8 → Bool := fun c => decide (32 ≤ c.toNat) && decide (c.toNat ≤ 126)
  have hb1 := bytesStr_size [.int (IntKind.wrap .u8 (s.length : Int))]
  have hloop := loop_all' (f := fun l3 =>
                if (decide ((gd l3 0).i < ((D.str s).s.length : Int))) then
                 (if (inb (gd l3 0).i (D.str s).s.length) then
                   if (decide ((byteAt (D.str s).s (gd l3 0).i.toNat : Int) < 32)) then
                    ou 0 [(.bool true)]
                   else
                    ou 0 [(.bool (decide ((byteAt (D.str s).s (gd l3 0).i.toNat : Int) > 126)))]
                   else none).bind fun o4 =>
                 sel2 o4.1 (if (gd o4.2 0).b then
                  ou 1 [(D.str []), (.bool false)]
                  else
                   ou 0 [(.int (IntKind.wrap .i64 ((gd l3 0).i + 1)))]) fun _ => none
                else
                 ou 2 []) (l := [.int 0]) (fun i => [.int i]) s.length (fun i => q (s.getD i 0)) (t1 := 0) (t2 := 1) (o1 := [.str [], .bool false]) (o2 := []) rfl (by
   intro i hi
   rw [getD_lt hi]
   have hb : byteAt s i = (s[i]).toNat := byteAt_lt hi
   refine out_if (by simpa using hi) (out_bind (r := (0, [.bool !(q s[i])])) (out_if (by simpa using inb_nat hi) ?_) (sel0 ?_))
   ·simp only [gd_zero, D.i_int, Int.toNat_natCast, D.s_str, hb, q]
    by_cases hlo : ((s[i]).toNat : Int) < 32
    ·have : decide (32 ≤ (s[i]).toNat) = false := by simp; omega
     exact out_if (decide_eq_true hlo) (by rw [this]; rfl)
    ·have h1 : decide (32 ≤ (s[i]).toNat) = true := by simp; omega
     refine out_else (fun h => hlo (of_decide_eq_true h)) ?_
     have : decide (((s[i]).toNat : Int) > 126) = !(decide ((s[i]).toNat ≤ 126)) := by
      rw [Bool.eq_iff_iff]; simp; omega
     rw [h1, this]; rfl
   ·cases q s[i] with
    | true => simp [wrap_succ hi hsm]
    | false => rfl) (by simp)
  rw [all_allN s q 0] at hloop
  unfold txtOk
  cases hq : s.all (fun c => decide (32 ≤ c.toNat) && decide (c.toNat ≤ 126)) with
  | false =>
    rw [show s.all q = false from hq] at hloop
    exact ⟨[], rn_else e1 (rn_bind0 hj (rn_else (by simp) (rn_else e6 (rn_else e15 (rn_if rfl (rn_bind hloop (by simp)))))))⟩
  | true =>
    rw [show s.all q = true from hq] at hloop
    refine ⟨bytesStr [.int (IntKind.wrap .u8 (s.length : Int))] ++ s, rn_else e1 (rn_bind0 hj (rn_else (by simp) (rn_else e6 (rn_else e15 (rn_if rfl (rn_bind hloop (rn_if (cat_ok ?_) ?_)))))))⟩
    ·rw [D.s_str, hb1, List.length_singleton]; omega
    ·have : decide ((s.length : Int) ≤ 30) = decide (s.length ≤ 30) := by rw [Bool.eq_iff_iff]; simp; omega
     rw [D.s_str, this, Bool.and_true]; rfl
 rw [if_neg k16]
 have e16 : ¬ ((D.int k).i == 16) = true := by simpa using k16
 exact ⟨[], rn_else e1 (rn_bind0 hj (rn_else (by simp) (rn_else e6 (rn_else e15 (rn_else e16 rfl)))))⟩
theorem data_len {k : Int} {s : List UInt8} (h : dataOk k s = true) : s.length ≤ 100 := by
 have num_len : ∀ {s : List UInt8} {m : Int}, m < 10000000000 → numOk s m = true → s.length ≤ 10 := by
  intro s m hm h
  unfold numOk at h
  simp only [Bool.and_eq_true, decide_eq_true_eq] at h
  rw [(canon_iff s).1 h.1]
  exact dec_len (k := 10) (by omega) (by omega)
 have tgt_len : ∀ {s : List UInt8}, isTgt s = true → s.length ≤ 60 := by
  intro s h
  unfold isTgt isName at h
  simp only [Bool.and_eq_true, decide_eq_true_eq] at h
  exact h.2.1.1
 unfold dataOk at h
 split at h
 ·unfold addrOk at h
  simp only [Bool.and_eq_true, List.all_eq_true, decide_eq_true_eq] at h
  have hs := lens_splB 46 s
  obtain ⟨hp, h4⟩ := h
  have hle : ∀ p ∈ splB 46 s, p.length ≤ 10 := fun p hpm => num_len (by decide) (hp p hpm)
  unfold lens at hs
  generalize splB 46 s = ps at hs hle h4
  match ps, h4 with
  | [a, b, c, d], _ =>
    have h1 := hle a (by simp)
    have h2 := hle b (by simp)
    have h3 := hle c (by simp)
    have h5 := hle d (by simp)
    simp at hs
    omega
 ·split at h
  ·have := tgt_len h; omega
  ·split at h
   ·have := num_len (by decide) h; omega
   ·split at h
    ·unfold mxOk at h
     have hs := lens_splB 32 s
     unfold lens at hs
     unfold mxP at h
     split at h
     ·rename_i a b hab
      rw [hab] at hs
      simp only [Bool.and_eq_true] at h
      have h1 := num_len (by decide) h.1
      have h2 := tgt_len h.2
      simp at hs
      omega
     ·cases h
    ·split at h
     ·unfold txtOk at h
      simp only [Bool.and_eq_true, decide_eq_true_eq] at h
      omega
     ·cases h
end Go.Proofs.YtbacjgkmkkphdaaGreatDoor
namespace Go.Proofs.YtbacjgkmkkphdaaGreatDoor
open Go Go.Own
theorem bytesStr_one (n : Nat) : bytesStr [.int (n : Int)] = [UInt8.ofNat n] := by
 simp only [bytesStr, List.map_cons, List.map_nil, D.i_int, Int.toNat_natCast]
theorem f_numRec : ∀ (k u : Nat), u < 10 ^ (k + 1) → u < 10 ^ 18 → f_rec_spec_l1Num (k + 1) [.int u] = some (.str (Lib.decDigits u))
 | k, u, h, h18 => by
   have hp18 : (10 : Nat) ^ 18 = 1000000000000000000 := by decide
   rw [q_spec_l1Num]
   by_cases hu : u < 10
   ·refine rn_if (decide_eq_true (show (u : Int) < 10 by omega)) ?_
    rw [Lib.decDigits_one hu]
    have w1 : IntKind.wrap .i64 (48 + (u : Int)) = ((48 + u : Nat) : Int) := by rw [wrap_id] <;> omega
    have w2 : IntKind.wrap .u8 ((48 + u : Nat) : Int) = ((48 + u : Nat) : Int) := by
     have : IntKind.wrap .u8 ((48 + u : Nat) : Int) = ((48 + u : Nat) : Int) % 256 := by simp [IntKind.wrap, IntKind.bits, IntKind.signed]
     rw [this]; omega
    simp only [D.i_int, w1, w2, bytesStr_one]
    rfl
   ·match k, h with
    | 0, h => exact absurd (show u < 10 by simpa using h) hu
    | k + 1, h =>
      have hd : (u : Int).tdiv 10 = ((u / 10 : Nat) : Int) := by rw [Int.tdiv_eq_ediv_of_nonneg (by omega)]; simp
      have hm : (u : Int).tmod 10 = ((u % 10 : Nat) : Int) := by rw [Int.tmod_eq_emod_of_nonneg (by omega)]; simp
      have w0 : IntKind.wrap .i64 ((u / 10 : Nat) : Int) = ((u / 10 : Nat) : Int) := by rw [wrap_id] <;> omega
      have hpk : (10 : Nat) ^ (k + 1 + 1) = 10 ^ (k + 1) * 10 := Nat.pow_succ 10 (k + 1)
      have ih := f_numRec k (u / 10) (by omega) (by omega)
      have w1 : IntKind.wrap .i64 (48 + ((u % 10 : Nat) : Int)) = ((48 + u % 10 : Nat) : Int) := by rw [wrap_id] <;> omega
      have w2 : IntKind.wrap .u8 ((48 + u % 10 : Nat) : Int) = ((48 + u % 10 : Nat) : Int) := by
       have : IntKind.wrap .u8 ((48 + u % 10 : Nat) : Int) = ((48 + u % 10 : Nat) : Int) % 256 := by simp [IntKind.wrap, IntKind.bits, IntKind.signed]
       rw [this]; omega
      have hlen := dec_len (k := 18) (u := u / 10) (by omega) (by omega)
      refine rn_else (fun h => by have h' : (u : Int) < 10 := of_decide_eq_true h; omega) (rn_if (by decide) ?_)
      simp only [D.i_int, hd, hm, w0, w1, w2, bytesStr_one]
      refine rn_call ih (rn_if ?_ ?_)
      ·simp [catOk, smax_eq]; omega
      ·rw [decDigits_step hu]; rfl
theorem f_num {v : Int} (h0 : 0 ≤ v) (h1 : v < 10 ^ 18) : e_spec_l1Num.F [.int v] = some (.str (Lib.itoa v)) := by
 obtain ⟨u, rfl⟩ := Int.eq_ofNat_of_zero_le h0
 rw [itoa_nat]
 have h18 : u < 10 ^ 18 := by exact_mod_cast h1
 exact f_numRec 39 u (Nat.lt_of_lt_of_le h18 (Nat.pow_le_pow_right (by omega) (by omega))) h18
structure Rec where
 name : List UInt8
 type : Int
 ttl : Int
 data : List UInt8
def Rec.d (r : Rec) : D := .pair (.str r.name) (.pair (.int r.type) (.pair (.int r.ttl) (.pair (.str r.data) .unit)))
structure Rec.In (B : Nat) (r : Rec) : Prop where
 name : r.name.length ≤ B
 data : r.data.length ≤ B
def inP (n lo hi : Int) : Bool := decide (lo ≤ n) && decide (n ≤ hi)
def Rec.ok (r : Rec) : Bool := dataOk r.type r.data && (isName r.name && inP r.ttl 0 100000)
theorem f_withinP (a b c : Int) : e_impl_within.F [.int a, .int b, .int c] = some (.bool (inP a b c)) := f_within a b c
theorem f_l1InP (a b c : Int) : e_spec_l1In.F [.int a, .int b, .int c] = some (.bool (inP a b c)) := f_l1In a b c
theorem f_goodRec {r : Rec} (hr : r.In lim) : e_impl_GoodRecord.F [r.d] = some (.bool r.ok) := by
 rw [q_impl_GoodRecord]
 have f0 : r.d.fld 0 = .str r.name := rfl
 have f1 : r.d.fld 1 = .int r.type := rfl
 have f2 : r.d.fld 2 = .int r.ttl := rfl
 have f3 : r.d.fld 3 = .str r.data := rfl
 rw [f0, f1, f2, f3]
 have hn := f_GoodName r.name
 have hw := f_withinP r.ttl 0 100000
 obtain ⟨b, hd⟩ := f_data (k := r.type) hr.data
 unfold Rec.ok
 cases h1 : isName r.name with
 | false =>
   rw [h1] at hn
   refine rn_bind0 (l := [.bool true]) (out_call hn (out_if rfl rfl)) (rn_if rfl ?_)
   simp
 | true =>
   rw [h1] at hn
   cases h2 : inP r.ttl 0 100000 with
   | false =>
     rw [h2] at hw
     refine rn_bind0 (l := [.bool true]) (out_call hn (out_else (by simp) (out_call hw (out_if rfl rfl)))) (rn_if rfl ?_)
     simp
   | true =>
     rw [h2] at hw
     by_cases h100 : (r.data.length : Int) > 100
     ·refine rn_bind0 (l := [.bool true]) (out_call hn (out_else (by simp) (out_call hw (out_else (by simp) ?_)))) (rn_if rfl ?_)
      ·rw [D.s_str, decide_eq_true h100]
      ·cases h3 : dataOk r.type r.data with
       | false => rfl
       | true => have := data_len h3; omega
     ·refine rn_bind0 (l := [.bool false]) (out_call hn (out_else (by simp) (out_call hw (out_else (by simp) ?_)))) (rn_else (by simp) (rn_call hd ?_))
      ·rw [D.s_str, decide_eq_false h100]
      ·simp
theorem f_goodRecS {r : Rec} (hr : r.In lim) : e_spec_GoodRecord.F [r.d] = some (.bool r.ok) := by
 rw [q_spec_GoodRecord]
 have f0 : r.d.fld 0 = .str r.name := rfl
 have f1 : r.d.fld 1 = .int r.type := rfl
 have f2 : r.d.fld 2 = .int r.ttl := rfl
 have f3 : r.d.fld 3 = .str r.data := rfl
 rw [f0, f1, f2, f3]
 have hn := f_specGoodName r.name hr.name
 have hw := f_l1InP r.ttl 0 100000
 obtain ⟨b, hd⟩ := f_l3 (k := r.type) hr.data
 unfold Rec.ok
 refine rn_call hd (rn_bind0 (l := [.bool (dataOk r.type r.data && (isName r.name && inP r.ttl 0 100000))]) ?_ rfl)
 cases h1 : dataOk r.type r.data with
 | false => exact out_else (by simp) rfl
 | true =>
   refine out_if rfl ?_
   cases h2 : isName r.name with
   | false => rw [h2] at hn; exact out_call hn (out_else (by simp) rfl)
   | true => rw [h2] at hn; exact out_call hn (out_if rfl (out_call hw (by simp)))
def told (s : List UInt8) : List UInt8 := if s.isEmpty then [46] else s
structure Rec.Sizes (r : Rec) : Prop where
 name : (told r.name).length ≤ 60
 data : r.data.length ≤ 100
 t0 : 0 ≤ r.ttl
 t1 : r.ttl < 10 ^ 18
 k0 : 0 ≤ r.type
 k1 : r.type < 10 ^ 18
end Go.Proofs.YtbacjgkmkkphdaaGreatDoor
