/- What the functions compute, in plain words. -/
import Derived.Test.YtkogmjbmbpcbeaaGreatDoorCq
set_option linter.unusedSectionVars false
set_option linter.unusedVariables false
set_option linter.unusedSimpArgs false
namespace Go.Own
variable [Glb]
open Go Go.Lib
def splB (b : UInt8) : List UInt8 → List (List UInt8)
 | [] => [[]]
 | c :: s => if c = b then [] :: splB b s else match splB b s with
   | p :: ps => (c :: p) :: ps
   | [] => [[c]]
theorem z6y (b : UInt8) : ∀ s, splB b s ≠ []
 | [] => by simp [splB]
 | c :: s => by
   unfold splB
   split
   ·simp
   ·split <;> simp
theorem z4w {b : UInt8} : ∀ {s : List UInt8}, b ∉ s → splB b s = [s]
 | [], _ => rfl
 | c :: s, h => by
   simp only [List.mem_cons, not_or] at h
   unfold splB
   rw [if_neg (Ne.symm h.1), z4w h.2]
theorem z7H {b : UInt8} : ∀ {p q : List UInt8}, b ∉ p → splB b (p ++ b :: q) = p :: splB b q
 | [], q, _ => by simp [splB]
 | c :: p, q, h => by
   simp only [List.mem_cons, not_or] at h
   rw [List.cons_append, splB, if_neg (Ne.symm h.1), z7H h.2]
theorem z9P {b : UInt8} : ∀ {s : List UInt8}, b ∈ s → ∃ p q, s = p ++ b :: q ∧ b ∉ p
 | c :: s, h => by
   by_cases hc : c = b
   ·exact ⟨[], s, by simp [hc], by simp⟩
   ·simp only [List.mem_cons] at h
    obtain ⟨p, q, h1, h2⟩ := z9P (h.resolve_left (Ne.symm hc))
    exact ⟨c :: p, q, by simp [h1], by simp [Ne.symm hc, h2]⟩
theorem z5M {b : UInt8} : ∀ {s : List UInt8}, b ∉ s → Lib.index s [b] = -1
 | [], _ => rfl
 | c :: s, h => by
   simp only [List.mem_cons, not_or] at h
   have hp : ([b] : List UInt8).isPrefixOf (c :: s) = false := by simp [List.isPrefixOf, h.1]
   rw [Lib.index, hp, z5M h.2]; rfl
theorem z4g {b : UInt8} : ∀ {p q : List UInt8}, b ∉ p → Lib.index (p ++ b :: q) [b] = (p.length : Int)
 | [], q, _ => by
   have hp : ([b] : List UInt8).isPrefixOf (b :: q) = true := by simp [List.isPrefixOf]
   rw [List.nil_append, Lib.index, hp]; rfl
 | c :: p, q, h => by
   simp only [List.mem_cons, not_or] at h
   have hp : ([b] : List UInt8).isPrefixOf (c :: (p ++ b :: q)) = false := by simp [List.isPrefixOf, h.1]
   rw [List.cons_append, Lib.index, hp, z4g h.2]
   have : ((p.length : Int) == -1) = false := by rw [beq_eq_false_iff_ne]; omega
   simp [this]
theorem zDu (b : UInt8) : ∀ (k : Nat) (s : List UInt8), s.count b = k → Lib.splitK [b] 0 k s = splB b s
 | 0, s, h => by
   rw [z4w (List.count_eq_zero.1 h)]; rfl
 | k + 1, s, h => by
   have hm : b ∈ s := List.count_pos_iff.1 (by omega)
   obtain ⟨p, q, rfl, hp⟩ := z9P hm
   have hc : q.count b = k := by
    rw [List.count_append, List.count_eq_zero.2 hp, List.count_cons_self] at h
    omega
   unfold Lib.splitK
   rw [z4g hp, z7H hp]
   have : ((p.length : Int) == -1) = false := by rw [beq_eq_false_iff_ne]; omega
   rw [this]
   simp only [Bool.false_eq_true, if_false, Int.toNat_natCast, Nat.add_zero, List.take_left', List.length_cons, List.length_nil]
   rw [show p.length + (0 + 1) = p.length + 1 from rfl, List.drop_append, List.drop_eq_nil_of_le (by omega)]
   simp [zDu b k q hc]
theorem zIg (s : List UInt8) (b : UInt8) : zCi s [b] = splB b s := by
 unfold zCi
 rw [Lib.splitB_data]
 simp only [z2Y]
 show Lib.splitK [b] 0 (Lib.count (mkS s).data.toList (mkS [b]).data.toList) s = _
 rw [z2Y, z2Y, Lib.count_one]
 exact zDu b _ s rfl
theorem z65 (b : UInt8) : ∀ s, (splB b s).length ≤ s.length + 1
 | [] => by simp [splB]
 | c :: s => by
   have ih := z65 b s
   unfold splB
   split
   ·simp; omega
   ·split
    ·rename_i h; rw [h] at ih; simp at ih ⊢; omega
    ·simp
theorem z7I (b : UInt8) : ∀ s, ∀ p ∈ splB b s, p.length ≤ s.length
 | [], p, h => by simp [splB] at h; simp [h]
 | c :: s, p, h => by
   have ih := z7I b s
   unfold splB at h
   split at h
   ·simp only [List.mem_cons] at h
    rcases h with rfl | h
    ·simp
    ·have := ih p h; simp; omega
   ·split at h
    ·rename_i q qs hq
     simp only [List.mem_cons] at h
     rcases h with rfl | h
     ·have := ih q (by simp [hq]); simp; omega
     ·have := ih p (by simp [hq, h]); simp; omega
    ·simp at h; simp [h]
def z5v : List UInt8 := [97, 98, 99, 100, 101, 102, 103, 104, 105, 106, 107, 108, 109, 110, 111, 112, 113, 114, 115, 116, 117, 118, 119, 120, 121, 122, 48, 49, 50, 51, 52, 53, 54, 55, 56, 57, 45, 95]
def z6Y (c : UInt8) : Bool := (decide (97 ≤ c.toNat) && decide (c.toNat ≤ 122)) || ((decide (48 ≤ c.toNat) && decide (c.toNat ≤ 57)) || (decide (c.toNat = 45) || decide (c.toNat = 95)))
theorem zIR (c : UInt8) : z5v.contains c = z6Y c := by
 have h : ∀ n : Fin 256, z5v.contains (UInt8.ofNat n) = z6Y (UInt8.ofNat n) := by decide +kernel
 have := h ⟨c.toNat, c.toNat_lt⟩
 simpa using this
theorem zKK (l cs : List UInt8) : Lib.trimS l cs = [] ↔ ∀ c ∈ l, cs.contains c = true := by
 have h1 : ∀ l : List UInt8, l.dropWhile (cs.contains ·) = [] ↔ ∀ c ∈ l, cs.contains c = true := by
  intro l
  induction l with
  | nil => simp
  | cons a l ih =>
    by_cases ha : cs.contains a = true
    ·rw [List.dropWhile_cons_of_pos ha, ih]; simp [ha]
     intro _; simpa using ha
    ·rw [List.dropWhile_cons_of_neg ha]
     simp only [reduceCtorEq, false_iff]
     intro h; exact ha (h a (by simp))
 unfold Lib.trimS Lib.trimLeftS
 rw [h1]
 unfold Lib.trimRightS
 constructor
 ·intro h
  by_cases he : l.reverse.dropWhile (cs.contains ·) = []
  ·rw [h1] at he
   intro c hc; exact he c (by simpa using hc)
  ·exfalso
   have := List.head_dropWhile_not (cs.contains ·) (l := l.reverse) he
   rw [h _ (by simp [List.head_mem])] at this
   cases this
 ·intro h c hc
  refine h c ?_
  have := (List.dropWhile_sublist (cs.contains ·) (l := l.reverse)).mem (List.mem_reverse.1 hc)
  simpa using this
def z45 (s : List UInt8) : Bool := s == [42] || ((decide (1 ≤ s.length) && decide (s.length ≤ 20)) && s.all z6Y)
def z0p (s : List UInt8) : Bool := decide (s.length ≤ 60) && (s.isEmpty || (decide ((splB 46 s).length ≤ 8) && (splB 46 s).all z45))
end Go.Own
namespace Go.Proofs.YtkogmjbmbpcbeaaGreatDoor
open Go Go.Own
theorem zGj (s : List UInt8) (h : s.length < 4294967281) : z1b.F [.str s, .str [46]] = some (.lst ((splB 46 s).map .str)) := by
 rw [show z1b.F = zG8 from by unfold z1b zG7; rfl]
 unfold zG8
 refine (if_pos ⟨h, by decide⟩).trans ?_
 simp [zIg]
theorem zMI (s : List UInt8) : z36.F [.str s, .str z5v] = some (.str (Lib.trimS s z5v)) := by
 rw [show z36.F = zKJ from by unfold z36 zKI; rfl]
 unfold zKJ
 exact if_pos ⟨by decide, by decide⟩
theorem zAq (a b c : Int) : z0W.F [.int a, .int b, .int c] = some (.bool (decide (b ≤ a) && decide (a ≤ c))) := by
 rw [zEd]
 by_cases h : b ≤ a <;> simp [h]
 rfl
theorem z8D (a b c : Int) : z0X.F [.int a, .int b, .int c] = some (.bool (decide (b ≤ a) && decide (a ≤ c))) := by
 rw [zH1]
 by_cases h : b ≤ a <;> simp [h]
 rfl
theorem zJB (s : List UInt8) : z3d.F [.str s] = some (.bool (z45 s)) := by
 rw [zDE]
 by_cases h0 : s = [42]
 ·subst h0; simp [z45]
 ·have h0' : (s == [42]) = false := by simpa using h0
  have hw := zAq (s.length : Int) 1 20
  have ht := zMI s
  unfold z5v at ht
  by_cases h1 : 1 ≤ s.length ∧ s.length ≤ 20
  ·have e1 : (decide ((1 : Int) ≤ s.length) && decide ((s.length : Int) ≤ 20)) = true := by simp; omega
   rw [e1] at hw
   have key : (Lib.trimS s z5v == []) = s.all z6Y := by
    rw [Bool.eq_iff_iff, beq_iff_eq, zKK, List.all_eq_true]
    simp only [zIR]
   have key2 := key
   unfold z5v at key2
   simp only [D.s_str, h0', Bool.false_eq_true, if_false, hw, Option.bind_some, D.b_bool, if_true, ht]
   simp [z45, h0', key2, h1.1, h1.2]
  ·have e1 : (decide ((1 : Int) ≤ s.length) && decide ((s.length : Int) ≤ 20)) = false := by
    cases h : (decide ((1 : Int) ≤ s.length) && decide ((s.length : Int) ≤ 20)) with
    | false => rfl
    | true => simp at h; omega
   rw [e1] at hw
   have e2 : (decide (1 ≤ s.length) && decide (s.length ≤ 20)) = false := by
    cases h : (decide (1 ≤ s.length) && decide (s.length ≤ 20)) with
    | false => rfl
    | true => simp at h; omega
   simp only [D.s_str, h0', Bool.false_eq_true, if_false, hw, Option.bind_some, D.b_bool]
   simp [z45, h0', e2]
theorem zE6 (ls : List (List UInt8)) (u : D) (hl : ls.length ≤ smax) : z0C.F [.lst (ls.map .str), u] = some (.bool !(ls.all z45)) := by
 have h1 : ∀ s : List UInt8, z1y.F [.str s] = some (.bool !(z45 s)) := fun s => by
  rw [z9a, zJB]; rfl
 rw [z26]
 have key : ∃ r : Int, z0I.F [.lst (ls.map .str), u] = some (.int r) ∧ decide (r ≥ 0) = !(ls.all z45) := by
  rw [z2F]
  have hle : (ls.map D.str).length = ls.length := by simp
  have := zJG (c := fun o2 => sel2 o2.1 (ou 0 [(gd o2.2 0)]) fun n2 => sel2 n2 (ou 0 [(.int (-1))]) fun _ => none) (Q := fun d => ∃ r : Int, d = .int r ∧ decide (r ≥ 0) = !(ls.all z45))
   (f := fun l2 =>
   if (decide ((gd l2 0).i < (((D.lst (ls.map .str)).l).length : Int))) then
    if (inb (gd l2 0).i ((D.lst (ls.map .str)).l).length) then
    (z1y.F [(gd ((D.lst (ls.map .str)).l) (gd l2 0).i.toNat)]).bind fun r3 =>
    if r3.b then
     ou 1 [(gd l2 0)]
    else
     ou 0 [(.int (IntKind.wrap .i64 ((gd l2 0).i + 1)))]
    else none
   else
    ou 2 []) (l := [.int 0]) (fun i => [.int i]) ls.length (fun i => z45 (ls.getD i [])) (t1 := 0) (t2 := 1) (o1 := fun i => [.int i]) (o2 := []) rfl ?_ ?_ ?_ ?_ ?_
  ·obtain ⟨d, h1, r, rfl, h2⟩ := this
   exact ⟨r, h1, h2⟩
  ·intro i hi hp
   have hg : gd (ls.map D.str) i = .str (ls.getD i []) := by rw [zA4 (by simpa using hi)]; simp [hi]
   simp [hi, z0D hi, z0O hi hl, hg, h1] at *
   simp [hp]
  ·intro i hi hp
   have hg : gd (ls.map D.str) i = .str (ls.getD i []) := by rw [zA4 (by simpa using hi)]; simp [hi]
   simp [hi, z0D hi, z0O hi hl, hg, h1] at *
   simp [hp]
  ·simp
  ·intro hall
   refine ⟨.int (-1), rfl, -1, rfl, ?_⟩
   have : ls.all z45 = true := by
    rw [List.all_eq_true]
    intro x hx
    obtain ⟨i, hi, rfl⟩ := List.getElem_of_mem hx
    have := hall i hi
    simpa [hi] using this
   rw [this]; rfl
  ·intro j hj hp _
   refine ⟨.int j, rfl, j, rfl, ?_⟩
   have : ls.all z45 = false := by
    rw [List.all_eq_false]
    exact ⟨ls[j], List.getElem_mem hj, by simpa [hj] using hp⟩
   rw [this]; simp
 obtain ⟨r, h2, h3⟩ := key
 refine z02 h2 ?_
 rw [← h3]; rfl
theorem z5S (s : List UInt8) (h : s.length < 4294967281) : z17.F [.str s] = some (.lst ((if s.isEmpty then [] else splB 46 s).map .str)) := by
 rw [zCJ]
 cases s with
 | nil => rfl
 | cons c s =>
   have : ((c :: s) == ([] : List UInt8)) = false := rfl
   simp only [D.s_str, this, Bool.false_eq_true, if_false]
   rw [zGj _ h]; rfl
theorem z70 (s : List UInt8) : z0w.F [.str s] = some (.bool (z0p s)) := by
 rw [zCG]
 by_cases h : s.length ≤ 60
 ·refine z03 (by simp; omega) (z02 (z5S s (by omega)) ?_)
  have hle : (if s.isEmpty then [] else splB 46 s).length ≤ 61 := by
   split
   ·simp
   ·have := z65 46 s; omega
  have hn : z0p s = (decide ((if s.isEmpty then [] else splB 46 s).length ≤ 8) && (if s.isEmpty then [] else splB 46 s).all z45) := by
   cases he : s.isEmpty <;> simp [z0p, h, he]
  rw [hn]
  generalize (if s.isEmpty then [] else splB 46 s) = ls at hle ⊢
  by_cases h2 : ls.length ≤ 8
  ·refine z0N (z04 (by simp; omega) (z01 (zE6 ls _ (by rw [z19]; omega)) rfl)) ?_
   simp [h2]
  ·refine z0N (z00 (by simp; omega) rfl) ?_
   simp [h2]
 ·refine z0K (by simp; omega) ?_
  simp [z0p, h]
end Go.Proofs.YtkogmjbmbpcbeaaGreatDoor
namespace Go.Proofs.YtkogmjbmbpcbeaaGreatDoor
open Go Go.Own
theorem z4l {s : List UInt8} {i : Nat} (h : i < s.length) : byteAt s i = (s[i]).toNat := by
 unfold byteAt; rw [List.getD_eq_getElem?_getD, List.getElem?_eq_getElem h]; rfl
structure Cut (b : UInt8) (s : List UInt8) (i : Nat) (out : List (List UInt8)) (from' : Nat) : Prop where
 le : from' ≤ i
 no : b ∉ (s.take i).drop from'
 eq : out ++ splB b (s.drop from') = splB b s
 len : out.length ≤ i
theorem Cut.zero (b : UInt8) (s : List UInt8) : Cut b s 0 [] 0 := ⟨Nat.le_refl _, by simp, by simp, by simp⟩
theorem Cut.miss {b : UInt8} {s : List UInt8} {i fr : Nat} {out : List (List UInt8)} (h : Cut b s i out fr) (hi : i < s.length) (hb : s[i] ≠ b) : Cut b s (i + 1) out fr := by
 refine ⟨by have := h.le; omega, ?_, h.eq, by have := h.len; omega⟩
 rw [List.take_succ_eq_append_getElem hi, List.drop_append_of_le_length (by simp; have := h.le; omega)]
 simp only [List.mem_append, not_or]
 exact ⟨h.no, by simpa using Ne.symm hb⟩
theorem Cut.hit {b : UInt8} {s : List UInt8} {i fr : Nat} {out : List (List UInt8)} (h : Cut b s i out fr) (hi : i < s.length) (hb : s[i] = b) : Cut b s (i + 1) (out ++ [(s.take i).drop fr]) (i + 1) := by
 refine ⟨Nat.le_refl _, ?_, ?_, by have := h.len; simp; omega⟩
 ·rw [List.drop_eq_nil_of_le (by simp; omega)]; simp
 ·rw [← h.eq]
  have e : s.drop fr = (s.take i).drop fr ++ b :: s.drop (i + 1) := by
   conv => lhs; rw [← List.take_append_drop i s]
   rw [List.drop_append_of_le_length (by simp; have := h.le; omega), List.drop_eq_getElem_cons hi, hb]
  rw [e, z7H h.no, List.append_assoc]; rfl
theorem z6R (s : List UInt8) (b : UInt8) (hl : s.length ≤ lim) : z1w.F [.str s, .int b.toNat] = some (.lst ((splB b s).map .str)) := by
 have hlim : lim = 1048576 := rfl
 have hsm := z19
 rw [zDO]
 have happ : ∀ (l : List (List UInt8)) (x : D), l.length ≤ lim → appOk 16 (l.map D.str) [x] = true := by
  intro l x h
  simp [appOk, z19]; omega
 have key : ∃ (out : List (List UInt8)) (fr : Nat), Cut b s s.length out fr ∧ ∀ k : Nat × List D → Outc, rn ((z0f (fun l2 =>
  if (decide ((gd l2 2).i < ((D.str s).s.length : Int))) then
   (if (inb (gd l2 2).i (D.str s).s.length) then
     if ((byteAt (D.str s).s (gd l2 2).i.toNat : Int) == (D.int b.toNat).i) then
      if (slOk (gd l2 1).i (gd l2 2).i ((D.str s).s.length : Int)) then
      if (appOk 16 (gd l2 0).l ((.str (((D.str s).s.take (gd l2 2).i.toNat).drop (gd l2 1).i.toNat)) :: ([] : List D))) then
      ou 0 [(D.lst ((gd l2 0).l ++ ((.str (((D.str s).s.take (gd l2 2).i.toNat).drop (gd l2 1).i.toNat)) :: ([] : List D)))), (.int (IntKind.wrap .i64 ((gd l2 2).i + 1)))]
      else none
      else none
     else
      ou 0 [(gd l2 0), (gd l2 1)]
     else none).bind fun o5 =>
   sel2 o5.1 (ou 0 [(gd o5.2 0), (gd o5.2 1), (.int (IntKind.wrap .i64 ((gd l2 2).i + 1)))]) fun _ => none
  else
   ou 1 [(gd l2 0), (gd l2 1)]) [(D.lst []), (.int 0), (.int 0)]).bind k) = rn (k (0, [.lst (out.map .str), .int fr])) := by
  have st : ∀ n, n ≤ s.length → ∃ (out : List (List UInt8)) (fr : Nat), Cut b s n out fr ∧ ∀ R, z0f (fun l2 =>
   if (decide ((gd l2 2).i < ((D.str s).s.length : Int))) then
    (if (inb (gd l2 2).i (D.str s).s.length) then
      if ((byteAt (D.str s).s (gd l2 2).i.toNat : Int) == (D.int b.toNat).i) then
       if (slOk (gd l2 1).i (gd l2 2).i ((D.str s).s.length : Int)) then
       if (appOk 16 (gd l2 0).l ((.str (((D.str s).s.take (gd l2 2).i.toNat).drop (gd l2 1).i.toNat)) :: ([] : List D))) then
       ou 0 [(D.lst ((gd l2 0).l ++ ((.str (((D.str s).s.take (gd l2 2).i.toNat).drop (gd l2 1).i.toNat)) :: ([] : List D)))), (.int (IntKind.wrap .i64 ((gd l2 2).i + 1)))]
       else none
       else none
      else
       ou 0 [(gd l2 0), (gd l2 1)]
      else none).bind fun o5 =>
    sel2 o5.1 (ou 0 [(gd o5.2 0), (gd o5.2 1), (.int (IntKind.wrap .i64 ((gd l2 2).i + 1)))]) fun _ => none
   else
    ou 1 [(gd l2 0), (gd l2 1)]) [.lst (out.map .str), .int fr, .int n] = R → z0f (fun l2 =>
   if (decide ((gd l2 2).i < ((D.str s).s.length : Int))) then
    (if (inb (gd l2 2).i (D.str s).s.length) then
      if ((byteAt (D.str s).s (gd l2 2).i.toNat : Int) == (D.int b.toNat).i) then
       if (slOk (gd l2 1).i (gd l2 2).i ((D.str s).s.length : Int)) then
       if (appOk 16 (gd l2 0).l ((.str (((D.str s).s.take (gd l2 2).i.toNat).drop (gd l2 1).i.toNat)) :: ([] : List D))) then
       ou 0 [(D.lst ((gd l2 0).l ++ ((.str (((D.str s).s.take (gd l2 2).i.toNat).drop (gd l2 1).i.toNat)) :: ([] : List D)))), (.int (IntKind.wrap .i64 ((gd l2 2).i + 1)))]
       else none
       else none
      else
       ou 0 [(gd l2 0), (gd l2 1)]
      else none).bind fun o5 =>
    sel2 o5.1 (ou 0 [(gd o5.2 0), (gd o5.2 1), (.int (IntKind.wrap .i64 ((gd l2 2).i + 1)))]) fun _ => none
   else
    ou 1 [(gd l2 0), (gd l2 1)]) [(D.lst []), (.int 0), (.int 0)] = R := by
   intro n
   induction n with
   | zero => intro _; exact ⟨[], 0, Cut.zero b s, fun R h => h⟩
   | succ n ih =>
     intro hn
     obtain ⟨out, fr, hc, hR⟩ := ih (by omega)
     have hi : n < s.length := by omega
     by_cases hb : s[n] = b
     ·refine ⟨_, _, hc.hit hi hb, fun R h => hR R ?_⟩
      rw [z1j ?_]
      ·exact h
      ·have hsl : slOk (fr : Int) (n : Int) (s.length : Int) = true := by
        have := hc.le
        simp [slOk]; omega
       have ha := happ out (.str ((s.take n).drop fr)) (by have := hc.len; omega)
       simp [hi, z0D hi, z0O hi (Nat.le_trans hl z0u), z4l hi, hb, hsl, ha]
     ·refine ⟨_, _, hc.miss hi hb, fun R h => hR R ?_⟩
      rw [z1j ?_]
      ·exact h
      ·have hb' : ¬ ((s[n].toNat : Int) = (b.toNat : Int)) := fun e => hb (UInt8.toNat_inj.1 (by omega))
       simp [hi, z0D hi, z0O hi (Nat.le_trans hl z0u), z4l hi, hb']
  obtain ⟨out, fr, hc, hR⟩ := st s.length (Nat.le_refl _)
  refine ⟨out, fr, hc, fun k => ?_⟩
  rw [hR _ (z1F (t := 0) (l' := [.lst (out.map .str), .int fr]) ?_)]
  ·rfl
  ·simp
 obtain ⟨out, fr, hc, hk⟩ := key
 rw [hk]
 have hsl : slOk (fr : Int) (s.length : Int) (s.length : Int) = true := by
  have := hc.le
  simp [slOk]; omega
 have ha := happ out (.str ((s.take s.length).drop fr)) (by have := hc.len; omega)
 have hno : b ∉ s.drop fr := by have := hc.no; rwa [List.take_of_length_le (Nat.le_refl _)] at this
 have he := hc.eq
 rw [z4w hno] at he
 simp only [List.take_length] at ha
 simp [hsl, ha, ← he]
theorem zJC (s : List UInt8) (hl : s.length ≤ smax) : z2R.F [.str s] = some (.bool (z45 s)) := by
 rw [zDN]
 by_cases h0 : s = [42]
 ·subst h0; simp [z45]
 ·have h0' : (s == [42]) = false := by simpa using h0
  refine z03 (by simpa using h0) ?_
  refine z0N (z3v (fun i => [.int i]) s.length (fun i => z6Y (s.getD i 0)) (t1 := 0) (t2 := 1) (o1 := []) (o2 := []) rfl ?_ ?_) ?_
  ·intro i hi
   have hg : s.getD i 0 = s[i] := by simp [hi]
   rw [hg]
   refine z04 (by simpa using hi) (z04 (by simpa using z0D hi) ?_)
   have hb : (byteAt (D.str s).s (gd [D.int (i : Int)] 0).i.toNat : Int) = ((s[i].toNat : Nat) : Int) := by simp [z4l hi]
   rw [hb]
   generalize s[i] = c
   have hw : D.int (IntKind.wrap .i64 ((gd [D.int (i : Int)] 0).i + 1)) = .int ((i + 1 : Nat) : Int) := by simp [z0O hi hl]
   rw [hw]
   cases hs : z6Y c with
   | true =>
     refine z2Z (r := (0, [.bool false])) ?_ (by simp)
     simp only [z6Y, Bool.or_eq_true, Bool.and_eq_true, decide_eq_true_eq] at hs
     by_cases c1 : (97 : Int) ≤ c.toNat <;> by_cases c2 : (c.toNat : Int) ≤ 122 <;> by_cases c3 : (48 : Int) ≤ c.toNat <;> by_cases c4 : (c.toNat : Int) ≤ 57 <;> by_cases c5 : (c.toNat : Int) = 45 <;> by_cases c6 : (c.toNat : Int) = 95 <;> simp [c1, c2, c3, c4, c5, c6] <;> omega
   | false =>
     refine z2Z (r := (0, [.bool true])) ?_ (by simp)
     simp only [z6Y, Bool.or_eq_false_iff, Bool.and_eq_false_iff, decide_eq_false_iff_not] at hs
     by_cases c1 : (97 : Int) ≤ c.toNat <;> by_cases c2 : (c.toNat : Int) ≤ 122 <;> by_cases c3 : (48 : Int) ≤ c.toNat <;> by_cases c4 : (c.toNat : Int) ≤ 57 <;> by_cases c5 : (c.toNat : Int) = 45 <;> by_cases c6 : (c.toNat : Int) = 95 <;> simp [c1, c2, c3, c4, c5, c6] <;> omega
  ·simp
  ·have hall : allN s.length (fun i => z6Y (s.getD i 0)) = s.all z6Y := by
    rw [Bool.eq_iff_iff, z1S, List.all_eq_true]
    constructor
    ·intro h c hc
     obtain ⟨i, hi, rfl⟩ := List.getElem_of_mem hc
     simpa [hi] using h i hi
    ·intro h i hi
     simpa [hi] using h _ (List.getElem_mem hi)
   rw [hall]
   cases hs : s.all z6Y with
   | false => simp [z45, h0', hs]
   | true =>
     refine z02 (z8D _ _ _) ?_
     have e1 : (decide ((1 : Int) ≤ s.length) && decide ((s.length : Int) ≤ 20)) = (decide (1 ≤ s.length) && decide (s.length ≤ 20)) := by
      rw [Bool.eq_iff_iff]; simp; omega
     simp [z45, h0', hs]
     exact e1
def z1N (s : List UInt8) : List (List UInt8) := if s.isEmpty then [] else splB 46 s
theorem z44 (s : List UInt8) (hl : s.length ≤ lim) : ∃ ls : List (List UInt8), z0m.F [.str s] = some (.pair (.lst (ls.map .str)) (.pair (.bool (z0p s)) .unit)) ∧ ls.length ≤ s.length + 1 ∧ (z0p s = true → ls = z1N s) := by
 have hlim : lim = 1048576 := rfl
 rw [zCW]
 by_cases h0 : s = []
 ·subst h0; exact ⟨[], rfl, by simp, fun _ => rfl⟩
 ·have hemp : s.isEmpty = false := by cases s <;> simp_all
  have hpt : z1N s = splB 46 s := by unfold z1N; rw [hemp]; rfl
  have hsl := z65 46 s
  have hmem := z7I 46 s
  have hname : z0p s = ((splB 46 s).all z45 && (decide (s.length ≤ 60) && decide ((splB 46 s).length ≤ 8))) := by
   simp [z0p, hemp]
   cases (splB 46 s).all z45 <;> cases decide (s.length ≤ 60) <;> cases decide ((splB 46 s).length ≤ 8) <;> rfl
  have hsp := z6R s 46 hl
  rw [hname, hpt]
  generalize splB 46 s = ls at hsl hmem hsp ⊢
  have hlab : ∀ i, i < ls.length → z2R.F [gd (ls.map D.str) i] = some (.bool (z45 (ls.getD i []))) := by
   intro i hi
   rw [zA4 (by simpa using hi)]
   simp only [List.getElem_map]
   rw [zJC _ (by have := hmem _ (List.getElem_mem hi); rw [z19]; omega)]
   simp [hi]
  have key := z3v (f := fun l2 =>
   if (decide ((gd l2 0).i < ((D.lst (ls.map D.str)).l.length : Int))) then
    if (inb (gd l2 0).i (D.lst (ls.map D.str)).l.length) then
    (z2R.F [(gd (D.lst (ls.map D.str)).l (gd l2 0).i.toNat)]).bind fun r3 =>
    if (!r3.b) then
     ou 1 []
    else
     ou 0 [(.int (IntKind.wrap .i64 ((gd l2 0).i + 1)))]
    else none
   else
    ou 2 []) (l := [.int 0]) (fun i => [.int i]) ls.length (fun i => z45 (ls.getD i [])) (t1 := 0) (t2 := 1) (o1 := []) (o2 := []) rfl (by
   intro i hi
   have := hlab i hi
   cases hp : z45 (ls.getD i []) with
   | true => rw [hp] at this; simp [hi, z0D hi, z0O hi (show ls.length ≤ smax by rw [z19]; omega), this]
   | false => rw [hp] at this; simp [hi, z0D hi, this]) (by simp)
  have hall : allN ls.length (fun i => z45 (ls.getD i [])) = ls.all z45 := by
   rw [Bool.eq_iff_iff, z1S, List.all_eq_true]
   constructor
   ·intro h c hc
    obtain ⟨i, hi, rfl⟩ := List.getElem_of_mem hc
    simpa [hi] using h i hi
   ·intro h i hi
    simpa [hi] using h _ (List.getElem_mem hi)
  rw [hall] at key
  cases hs : ls.all z45 with
  | false =>
    rw [hs] at key
    exact ⟨[], z03 (by simpa using h0) (z02 hsp (z0N key rfl)), by simp, fun h => by simp at h⟩
  | true =>
    rw [hs] at key
    by_cases h60 : s.length ≤ 60
    ·refine ⟨ls, z03 (by simpa using h0) (z02 hsp (z0N key (z0N (z04 ?_ rfl) ?_))), hsl, fun _ => rfl⟩
     ·exact decide_eq_true (show (s.length : Int) ≤ 60 by omega)
     have e : decide (((D.lst (ls.map D.str)).l.length : Int) ≤ 8) = decide (ls.length ≤ 8) := by rw [Bool.eq_iff_iff]; simp; omega
     simp only [Bool.true_and, decide_eq_true h60, ← e]
     rfl
    ·refine ⟨ls, z03 (by simpa using h0) (z02 hsp (z0N key (z0N (z00 ?_ rfl) ?_))), hsl, fun _ => rfl⟩
     ·exact fun h => absurd (of_decide_eq_true h) (show ¬ (s.length : Int) ≤ 60 by omega)
     simp only [Bool.true_and, decide_eq_false h60, Bool.false_and]
     rfl
theorem zIE (s : List UInt8) (hl : s.length ≤ lim) : ∃ d : D, z0m.F [.str s] = some (.pair d (.pair (.bool (z0p s)) .unit)) := by
 obtain ⟨ls, h, _⟩ := z44 s hl
 exact ⟨_, h⟩
theorem z5K (s : List UInt8) (hl : s.length ≤ lim) : z1K.F [.str s] = some (.bool (z0p s)) := by
 rw [zCV]
 obtain ⟨d, h⟩ := zIE s hl
 exact z02 h rfl
end Go.Proofs.YtkogmjbmbpcbeaaGreatDoor
namespace Go.Own
variable [Glb]
open Go Go.Lib
def z50 (c : UInt8) : Bool := decide (48 ≤ c.toNat) && decide (c.toNat ≤ 57)
def dvF (a : Nat) (c : UInt8) : Nat := 10 * a + (c.toNat - 48)
def dv (s : List UInt8) : Nat := s.foldl dvF 0
theorem zGZ (s : List UInt8) (c : UInt8) : dv (s ++ [c]) = 10 * dv s + (c.toNat - 48) := by simp [dv, List.foldl_append, dvF]
theorem z5x {n : Nat} (h : n < 10) : (UInt8.ofNat (48 + n)).toNat = 48 + n := by
 rw [UInt8.toNat_ofNat']; omega
theorem zHS {c : UInt8} (h : z50 c = true) : UInt8.ofNat (48 + (c.toNat - 48)) = c := by
 simp only [z50, Bool.and_eq_true, decide_eq_true_eq] at h
 rw [← UInt8.toNat_inj, UInt8.toNat_ofNat']; omega
theorem z3b {u : Nat} (h : ¬ u < 10) : decDigits u = decDigits (u / 10) ++ [UInt8.ofNat (48 + u % 10)] := by
 rw [decDigits, dif_neg h]
theorem z9q : ∀ u : Nat, dv (decDigits u) = u := by
 intro u
 induction u using Nat.strongRecOn with
 | _ u ih =>
   by_cases h : u < 10
   ·rw [decDigits_one h]
    simp [dv, dvF]; omega
   ·rw [z3b h, zGZ, ih (u / 10) (by omega), z5x (by omega)]; omega
theorem z7Q : ∀ u : Nat, ∀ c ∈ decDigits u, z50 c = true := by
 intro u
 induction u using Nat.strongRecOn with
 | _ u ih =>
   intro c hc
   by_cases h : u < 10
   ·rw [decDigits_one h] at hc
    simp only [List.mem_singleton] at hc
    subst hc
    simp only [z50, z5x h, Bool.and_eq_true, decide_eq_true_eq]; omega
   ·rw [z3b h] at hc
    simp only [List.mem_append, List.mem_singleton] at hc
    rcases hc with hc | rfl
    ·exact ih (u / 10) (by omega) c hc
    ·have h10 : u % 10 < 10 := by omega
     simp only [z50, z5x h10, Bool.and_eq_true, decide_eq_true_eq]; omega
theorem z9p (u : Nat) : decDigits u ≠ [] := by
 by_cases h : u < 10
 ·rw [decDigits_one h]; simp
 ·rw [z3b h]; simp
theorem zCq : ∀ u : Nat, 1 ≤ u → ∃ c r, decDigits u = c :: r ∧ c ≠ 48 := by
 intro u
 induction u using Nat.strongRecOn with
 | _ u ih =>
   intro hu
   by_cases h : u < 10
   ·refine ⟨_, [], decDigits_one h, fun he => ?_⟩
    have := congrArg UInt8.toNat he
    rw [z5x h] at this
    have h48 : (48 : UInt8).toNat = 48 := rfl
    omega
   ·obtain ⟨c, r, h1, h2⟩ := ih (u / 10) (by omega) (by omega)
    exact ⟨c, r ++ [UInt8.ofNat (48 + u % 10)], by rw [z3b h, h1]; rfl, h2⟩
def z5n (s : List UInt8) : Bool := !s.isEmpty && (s.all z50 && !((s.head? == some 48) && decide (1 < s.length)))
theorem zF3 (u : Nat) : z5n (decDigits u) = true := by
 have h1 := z9p u
 have h2 := z7Q u
 have h3 : (decDigits u).all z50 = true := List.all_eq_true.2 h2
 unfold z5n
 rw [h3]
 have h4 : (decDigits u).isEmpty = false := by cases h : decDigits u <;> simp_all
 rw [h4]
 by_cases h : u < 10
 ·rw [decDigits_one h]; simp
 ·obtain ⟨c, r, h5, h6⟩ := zCq u (by omega)
  rw [h5]; simp [h6]
theorem zHO : ∀ (n : Nat) (s : List UInt8), s.length = n → z5n s = true → s = decDigits (dv s)
 | 0, s, hl, hc => by
   have : s = [] := List.length_eq_zero_iff.1 hl
   subst this; cases hc
 | n + 1, s, hl, hc => by
   obtain ⟨t, c, rfl⟩ : ∃ t c, s = t ++ [c] := ⟨s.dropLast, s.getLast (by intro h; subst h; cases hl), (List.dropLast_concat_getLast _).symm⟩
   unfold z5n at hc
   simp only [Bool.and_eq_true, List.all_eq_true, Bool.not_eq_true'] at hc
   obtain ⟨_, hd, hh⟩ := hc
   have hcd : z50 c = true := hd c (by simp)
   have hcn := hcd
   simp only [z50, Bool.and_eq_true, decide_eq_true_eq] at hcn
   by_cases ht : t = []
   ·subst ht
    rw [show dv ([] ++ [c]) = c.toNat - 48 by simp [dv, dvF], decDigits_one (by omega), zHS hcd]; rfl
   ·have htl : 1 ≤ t.length := by cases t with | nil => exact absurd rfl ht | cons _ _ => simp
    have hlt : t.length = n := by simp at hl; omega
    have hhd : (t ++ [c]).head? = t.head? := by cases t with | nil => exact absurd rfl ht | cons _ _ => rfl
    have hgt : decide (1 < (t ++ [c]).length) = true := by simp; omega
    rw [hhd, hgt, Bool.and_true] at hh
    have hct : z5n t = true := by
     unfold z5n
     simp only [Bool.and_eq_true, List.all_eq_true, Bool.not_eq_true']
     refine ⟨by cases t with | nil => exact absurd rfl ht | cons _ _ => rfl, fun x hx => hd x (by simp [hx]), by rw [hh]; rfl⟩
    have ih := zHO n t hlt hct
    have hpos : 1 ≤ dv t := by
     rcases Nat.eq_zero_or_pos (dv t) with h0 | h0
     ·exfalso
      rw [h0, decDigits_one (by omega)] at ih
      rw [ih] at hh
      simp at hh
     ·exact h0
    rw [zGZ, z3b (by omega)]
    have e1 : (10 * dv t + (c.toNat - 48)) / 10 = dv t := by omega
    have e2 : (10 * dv t + (c.toNat - 48)) % 10 = c.toNat - 48 := by omega
    rw [e1, e2, ← ih, zHS hcd]
theorem z88 (s : List UInt8) : z5n s = true ↔ s = decDigits (dv s) := ⟨zHO _ s rfl, fun h => h ▸ zF3 _⟩
def z3M (s : List UInt8) (m : Int) : Bool := z5n s && decide ((dv s : Int) ≤ m)
theorem zHa : ∀ (l : List UInt8) (a : Nat), a ≤ l.foldl dvF a
 | [], a => Nat.le_refl _
 | c :: l, a => Nat.le_trans (by unfold dvF; omega) (zHa l (dvF a c))
theorem zDm : ∀ (l : List UInt8) (a : Nat), (∀ c ∈ l, z50 c = true) → l.foldl dvF a < 18446744073709551616 → parseUint10 a l = .ok (l.foldl dvF a)
 | [], a, _, _ => rfl
 | c :: l, a, hd, hlt => by
   have hc := hd c (by simp)
   simp only [z50, Bool.and_eq_true, decide_eq_true_eq] at hc
   have hge := zHa l (dvF a c)
   have hlt' : l.foldl dvF (dvF a c) < 18446744073709551616 := hlt
   have e : dvF a c = a * 10 + (c.toNat - 48) := by unfold dvF; omega
   unfold parseUint10
   rw [if_pos hc, if_neg (by omega), if_neg (by omega), ← e]
   exact zDm l _ (fun x hx => hd x (by simp [hx])) hlt'
theorem zKR {u : Nat} (h : u < 9223372036854775808) : atoiAll (decDigits u) = .ok (u : Int) := by
 have hne := z9p u
 have hd := z7Q u
 have hv := z9q u
 have hp : parseMag (decDigits u) = .ok u := by
  unfold parseMag
  rw [if_neg hne, zDm _ 0 hd (by show dv (decDigits u) < _; rw [hv]; omega)]
  show NumEnd.ok (dv (decDigits u)) = _
  rw [hv]
 cases hs : decDigits u with
 | nil => exact absurd hs hne
 | cons c r =>
   rw [hs] at hp hd
   have hc := hd c (by simp)
   simp only [z50, Bool.and_eq_true, decide_eq_true_eq] at hc
   have h43 : ¬ c.toNat = 43 := by omega
   have h45 : ¬ c.toNat = 45 := by omega
   simp only [atoiAll, h43, h45, or_self, if_false, hp, not_false_eq_true, true_and, false_and]
   rw [if_neg (by omega)]
theorem zDd : ∀ (k u : Nat), u < 10 ^ k → 1 ≤ k → nDigits u ≤ k
 | 0, _, _, h => by omega
 | 1, u, h, _ => by rw [nDigits_small (by simpa using h)]; exact Nat.le_refl _
 | k + 2, u, h, _ => by
   rw [nDigits]
   split
   ·omega
   ·have hp : (10 : Nat) ^ (k + 2) = 10 ^ (k + 1) * 10 := Nat.pow_succ 10 (k + 1)
    have := zDd (k + 1) (u / 10) (by omega) (by omega)
    omega
theorem zE1 {k u : Nat} (h : u < 10 ^ k) (hk : 1 ≤ k) : (decDigits u).length ≤ k := by rw [decDigits_length]; exact zDd k u h hk
end Go.Own
namespace Go.Proofs.YtkogmjbmbpcbeaaGreatDoor
open Go Go.Own
theorem zMD {s : List UInt8} (h : s.length ≤ lim) : z34.F [.str s] = some (z8z s) := by
 rw [show z34.F = zIt from by unfold z34 zGP; rfl]
 unfold zIt
 have hlim : lim = 1048576 := rfl
 exact if_pos (by simp; omega)
theorem zEN {v : Int} (h0 : 0 ≤ v) (h1 : v < 10 ^ 18) : (Lib.itoa v).length ≤ 18 := by
 obtain ⟨n, rfl⟩ := Int.eq_ofNat_of_zero_le h0
 rw [show Lib.itoa ((n : Nat) : Int) = Lib.decDigits n by unfold Lib.itoa; rw [if_neg (by omega)]; simp]
 exact zE1 (by exact_mod_cast h1) (by omega)
theorem zLK {v : Int} (h0 : 0 ≤ v) (h1 : v < 10 ^ 18) : z35.F [.int v] = some (.str (Lib.itoa v)) := by
 rw [show z35.F = zJO from by unfold z35 zJN; rfl]
 unfold zJO
 have := zEN h0 h1
 exact if_pos (by rw [D.i_int, z19]; omega)
theorem zHf (n : Nat) : Lib.itoa (n : Int) = Lib.decDigits n := by unfold Lib.itoa; rw [if_neg (by omega)]; simp
theorem z4j {s : List UInt8} {m : Int} (h : s.length ≤ lim) (hm : m < 10 ^ 18) :
 ∃ v : Int, z1I.F [.str s, .int m] = some (.pair (.int v) (.pair (.bool (z3M s m)) .unit)) ∧ (z3M s m = true → v = dv s) := by
 have h18 : (10 : Int) ^ 18 = 1000000000000000000 := by decide
 rw [zCK]
 have ha := zMD h
 by_cases hn : z3M s m = true
 ·rw [hn]
  unfold z3M at hn
  simp only [Bool.and_eq_true, decide_eq_true_eq] at hn
  have hs := (z88 s).1 hn.1
  have hat : Lib.atoiAll s = .ok (dv s : Int) := by
   have := zKR (u := dv s) (by omega)
   rw [← hs] at this; exact this
  have hd : z8z s = .pair (.int (dv s)) (.pair (.bool false) .unit) := by unfold z8z; rw [hat]
  rw [hd] at ha
  have hw := zAq (dv s) 0 m
  have hwt : (decide ((0 : Int) ≤ dv s) && decide ((dv s : Int) ≤ m)) = true := by simp [hn.2]
  rw [hwt] at hw
  have hi := zLK (v := dv s) (by omega) (by omega)
  refine ⟨dv s, z02 ha (z0N (r := (0, [.int (dv s), .bool true])) (z04 rfl (z01 hw (z04 rfl (z01 hi ?_)))) rfl), fun _ => rfl⟩
  simp [zHf, ← hs]
 ·have hn' : z3M s m = false := by simpa using hn
  rw [hn']
  have hcase : ∃ (v : Int) (e : Bool), z8z s = .pair (.int v) (.pair (.bool e) .unit) ∧ (e = false → Lib.atoiAll s = .ok v) := by
   unfold z8z
   cases hq : Lib.atoiAll s with
   | ok v => exact ⟨v, false, rfl, fun _ => rfl⟩
   | range => exact ⟨_, true, rfl, fun h => by cases h⟩
   | _ => exact ⟨0, true, rfl, fun h => by cases h⟩
  obtain ⟨v, e, hd, he⟩ := hcase
  rw [hd] at ha
  refine ⟨v, z02 ha (z0N (r := (0, [.int v, .bool false])) ?_ rfl), fun h => by cases h⟩
  cases e with
  | true => exact z00 (by simp) rfl
  | false =>
    refine z04 rfl ?_
    have hw := zAq v 0 m
    cases hr : (decide ((0 : Int) ≤ v) && decide (v ≤ m)) with
    | false => rw [hr] at hw; exact z01 hw (z00 (by simp) rfl)
    | true =>
      rw [hr] at hw
      simp only [Bool.and_eq_true, decide_eq_true_eq] at hr
      refine z01 hw (z04 rfl (z01 (zLK hr.1 (by omega)) ?_))
      have : (Lib.itoa v == s) = false := by
       rw [beq_eq_false_iff_ne]
       intro hs
       obtain ⟨n, rfl⟩ := Int.eq_ofNat_of_zero_le hr.1
       rw [zHf] at hs
       have h1 : z5n s = true := by rw [← hs]; exact zF3 n
       have h2 : dv s = n := by rw [← hs]; exact z9q n
       unfold z3M at hn'
       rw [h1, h2] at hn'
       simp at hn'
       omega
      simp [this]
theorem dv_lt : ∀ (s : List UInt8) (k : Nat), s.length ≤ k → (∀ c ∈ s, z50 c = true) → dv s < 10 ^ k := by
 intro s k hl hd
 have key : ∀ (n : Nat) (s : List UInt8), s.length = n → (∀ c ∈ s, z50 c = true) → dv s < 10 ^ n := by
  intro n
  induction n with
  | zero => intro s hs _; rw [List.length_eq_zero_iff.1 hs]; decide
  | succ n ih =>
    intro s hs hd
    obtain ⟨t, c, rfl⟩ : ∃ t c, s = t ++ [c] := ⟨s.dropLast, s.getLast (by intro h; subst h; cases hs), (List.dropLast_concat_getLast _).symm⟩
    have h1 := ih t (by simp at hs; exact hs) (fun x hx => hd x (by simp [hx]))
    have hc := hd c (by simp)
    simp only [z50, Bool.and_eq_true, decide_eq_true_eq] at hc
    rw [zGZ]
    have hp : (10 : Nat) ^ (n + 1) = 10 ^ n * 10 := Nat.pow_succ 10 n
    omega
 exact Nat.lt_of_lt_of_le (key _ s rfl hd) (Nat.pow_le_pow_right (by omega) hl)
def z4X (s : List UInt8) : Int := if z5n s = true ∧ s.length ≤ 10 then dv s else -1
def gInt (_ : Nat) (n : Nat) (c : UInt8) : Sum Nat (Nat × List D) := if z50 c = true then .inl (dvF n c) else .inr (0, [.int (-1)])
theorem z96 : ∀ (s : List UInt8) (i n : Nat), zA3 gInt i n s = if s.all z50 = true then .inl (s.foldl dvF n) else .inr (0, [.int (-1)])
 | [], _, _ => rfl
 | c :: s, i, n => by
   rw [zA3]
   by_cases hc : z50 c = true
   ·have hg : gInt i n c = .inl (dvF n c) := if_pos hc
    rw [hg]
    simp only [z96 s (i + 1) (dvF n c), List.all_cons, hc, Bool.true_and, List.foldl_cons]
   ·have hg : gInt i n c = .inr (0, [.int (-1)]) := if_neg hc
    rw [hg, if_neg (by simp [hc])]
theorem z95 {s : List UInt8} (h : s.length ≤ lim) : z1v.F [.str s] = some (.int (z4X s)) := by
 have hsm : s.length ≤ smax := Nat.le_trans h z0u
 rw [zFu]
 have hl := z8D s.length 1 10
 by_cases hlen : 1 ≤ s.length ∧ s.length ≤ 10
 ·have e1 : (decide ((1 : Int) ≤ s.length) && decide ((s.length : Int) ≤ 10)) = true := by simp; omega
  rw [e1] at hl
  obtain ⟨c, r, rfl⟩ : ∃ c r, s = c :: r := by cases s with | nil => simp at hlen | cons c r => exact ⟨c, r, rfl⟩
  have hb0 : byteAt (c :: r) 0 = c.toNat := z4l (by simp)
  by_cases hz : c = 48 ∧ 1 < (c :: r).length
  ·have hcan : z5n (c :: r) = false := by
    unfold z5n; rw [hz.1]
    have : decide (1 < ((48 : UInt8) :: r).length) = true := by have := hz.2; simpa using this
    rw [this]; simp
   refine z0N (r := (0, [.bool true])) (z01 hl (z00 (by simp) (z04 (z0D (i := 0) (by simp)) (z04 ?_ ?_)))) ?_
   ·rw [D.s_str, hb0, hz.1]; rfl
   ·have := hz.2
    simp only [List.length_cons] at this
    simp; omega
   ·simp [z4X, hcan]
  ·refine z0N (r := (0, [.bool false])) (z01 hl (z00 (by simp) (z04 (z0D (i := 0) (by simp)) ?_))) ?_
   ·rw [D.s_str, hb0]
    by_cases hc : c = 48
    ·refine z04 (by rw [hc]; rfl) ?_
     have : ¬ 1 < (c :: r).length := fun h => hz ⟨hc, h⟩
     simp only [List.length_cons] at this
     simp; omega
    ·refine z00 ?_ rfl
     intro he
     apply hc
     rw [← UInt8.toNat_inj]
     have h48 : (48 : UInt8).toNat = 48 := rfl
     simp at he; omega
   ·simp only [zCe, z1G]
    refine z03 (by simp) ?_
    have hcan : z5n (c :: r) = (c :: r).all z50 := by
     unfold z5n
     have : ((c :: r).head? == some 48 && decide (1 < (c :: r).length)) = false := by
      cases hb : ((c :: r).head? == some 48 && decide (1 < (c :: r).length)) with
      | false => rfl
      | true => simp at hb; exact absurd ⟨hb.1, by simpa using hb.2⟩ hz
     rw [this]; simp
    generalize hs : c :: r = s at *
    refine zLt (zBj (T := 1) (out := fun n : Nat => [.int n]) (fun i (n : Nat) => [.int n, .int i]) s gInt (fun i n => n < 10 ^ i ∧ i ≤ 10) 0 rfl ⟨by decide, by omega⟩ ?_ ?_) ?_ ?_
    ·rintro i n hi ⟨hn, hi10⟩
     have hb : byteAt s i = (s[i]).toNat := z4l hi
     have hp10 : (10 : Nat) ^ i ≤ 10 ^ 10 := Nat.pow_le_pow_right (by omega) hi10
     have h10 : (10 : Nat) ^ 10 = 10000000000 := by decide
     have hw := z0O hi hsm
     unfold gInt
     by_cases hdg : z50 s[i] = true
     ·rw [if_pos hdg]
      have hdg' := hdg
      simp only [z50, Bool.and_eq_true, decide_eq_true_eq] at hdg'
      refine ⟨z04 (by simpa using hi) (z2Z (r := (0, [.bool false])) (z04 (by simpa using z0D hi) ?_) (sel0 (z00 (by simp) (z04 (by simpa using z0D hi) ?_)))), ?_⟩
      ·simp only [z3Z, D.i_int, Int.toNat_natCast, D.s_str, hb]
       refine z00 (fun h => by have := of_decide_eq_true h; omega) ?_
       have : ¬ ((s[i]).toNat : Int) > 57 := by omega
       simp [this]
      ·simp only [z1G, z3Z, D.i_int, Int.toNat_natCast, D.s_str, hb, hw]
       have w1 : IntKind.wrap .i64 (10 * (n : Int)) = 10 * n := by rw [z0S] <;> omega
       have w2 : IntKind.wrap .u8 (((s[i]).toNat : Int) - 48) = (((s[i]).toNat - 48 : Nat) : Int) := by
        have : IntKind.wrap .u8 (((s[i]).toNat : Int) - 48) = (((s[i]).toNat : Int) - 48) % 256 := by simp [IntKind.wrap, IntKind.bits, IntKind.signed]
        rw [this]; omega
       have w3 : IntKind.wrap .i64 ((((s[i]).toNat - 48 : Nat) : Int)) = (((s[i]).toNat - 48 : Nat) : Int) := by rw [z0S] <;> omega
       have w4 : IntKind.wrap .i64 (10 * (n : Int) + (((s[i]).toNat - 48 : Nat) : Int)) = ((dvF n s[i] : Nat) : Int) := by
        unfold dvF; rw [z0S] <;> omega
       rw [w1, w2, w3, w4]
      ·have hp : (10 : Nat) ^ (i + 1) = 10 ^ i * 10 := Nat.pow_succ 10 i
       unfold dvF
       refine ⟨by omega, by omega⟩
     ·rw [if_neg hdg]
      refine z04 (by simpa using hi) (z2Z (r := (0, [.bool true])) (z04 (by simpa using z0D hi) ?_) (sel0 (z04 rfl rfl)))
      simp only [z3Z, D.i_int, Int.toNat_natCast, D.s_str, hb]
      simp only [z50, Bool.and_eq_true, decide_eq_true_eq, not_and] at hdg
      by_cases h48 : ((s[i]).toNat : Int) < 48
      ·exact z04 (decide_eq_true h48) rfl
      ·refine z00 (fun h => h48 (of_decide_eq_true h)) ?_
       have : ((s[i]).toNat : Int) > 57 := by have := hdg (by omega); omega
       simp [this]
    ·rintro n _
     exact z00 (by simp) rfl
    ·intro n hf
     rw [z96] at hf
     split at hf
     ·rename_i hall
      cases hf
      have : z4X s = (dv s : Nat) := by
       unfold z4X; rw [if_pos ⟨by rw [hcan]; exact hall, by omega⟩]
      rw [this]; rfl
     ·cases hf
    ·intro e hf
     rw [z96] at hf
     split at hf
     ·cases hf
     ·rename_i hall
      cases hf
      have : z4X s = -1 := by
       unfold z4X; rw [if_neg (fun h => hall (by rw [← hcan]; exact h.1))]
      rw [this]; rfl
 ·have e1 : (decide ((1 : Int) ≤ s.length) && decide ((s.length : Int) ≤ 10)) = false := by
   cases h : (decide ((1 : Int) ≤ s.length) && decide ((s.length : Int) ≤ 10)) with
   | false => rfl
   | true => simp at h; omega
  rw [e1] at hl
  refine z0N (r := (0, [.bool true])) (z01 hl (z04 rfl rfl)) ?_
  have : z4X s = -1 := by
   unfold z4X
   refine if_neg fun h => ?_
   have hc := h.1
   unfold z5n at hc
   cases s with
   | nil => simp at hc
   | cons c r => exact hlen ⟨by simp, h.2⟩
  rw [this]; rfl
end Go.Proofs.YtkogmjbmbpcbeaaGreatDoor
namespace Go.Proofs.YtkogmjbmbpcbeaaGreatDoor
open Go Go.Own
theorem zME (n : Int) : ∃ b : List UInt8, b.length = 1 ∧ z2I.F [.int n, .int 1] = some (.str b) := by
 rw [z9c]
 refine ⟨_, z0t [.int (IntKind.wrap .u8 (n.fdiv (2 ^ min (IntKind.wrap .i64 (8 * 0)).toNat (IntKind.bits .i64))))], z0N (r := (0, [.lst [.int (IntKind.wrap .u8 (n.fdiv (2 ^ min (IntKind.wrap .i64 (8 * 0)).toNat (IntKind.bits .i64))))]])) ?_ rfl⟩
 have w0 : IntKind.wrap .i64 ((1 : Int) - 1) = 0 := by decide
 have w1 : IntKind.wrap .i64 ((0 : Int) - 1) = -1 := by decide
 simp only [D.i_int, w0]
 rw [z1j (l' := [.lst [.int (IntKind.wrap .u8 (n.fdiv (2 ^ min (IntKind.wrap .i64 (8 * 0)).toNat (IntKind.bits .i64))))], .int (-1)])]
 ·exact z1F rfl
 ·refine z04 (by decide) (z04 (by decide) (z04 (by simp [appOk, z19]) ?_))
  simp only [z1G, z3Z, D.i_int, D.l_lst, w1, List.nil_append]
theorem zGi (n : Int) : ∃ b : List UInt8, b.length = 1 ∧ z0x.F [.int n, .int 1] = some (.str b) := by
 rw [z4u]
 refine ⟨_, z0t [.int (IntKind.wrap .u8 n)], z0K (by decide) (z0N (r := (0, [.lst [.int (IntKind.wrap .u8 n)]])) ?_ rfl)⟩
 have w0 : IntKind.wrap .i64 ((1 : Int) - 1) = 0 := by decide
 have w1 : IntKind.wrap .i64 ((0 : Int) - 1) = -1 := by decide
 simp only [D.i_int, w0]
 rw [z1j (l' := [.int (n.fdiv (2 ^ min 8 (IntKind.bits .i64))), .lst [.int (IntKind.wrap .u8 n)], .int (-1)])]
 ·exact z1F rfl
 ·refine z04 rfl (z04 rfl (z04 (by decide) ?_))
  simp only [z1G, z3Z, z69, D.i_int, D.l_lst, w1]
  rfl
def z9o (s : List UInt8) : Bool := (splB 46 s).all (fun p => z3M p 255) && decide ((splB 46 s).length = 4)
theorem z77 {ls : List (List UInt8)} {i : Nat} (hi : i < ls.length) : gd (ls.map D.str) i = .str ls[i] := by
 rw [zA4 (by simpa using hi)]; simp
theorem zHi {f : List D → Outc} {l : List D} (n : Nat) (p : Nat → Bool) {t1 t2 : Nat} {o1 : List D} (h0 : l = [.str [], .int 0])
 (hp : ∀ i (s : List UInt8), i < n → s.length = i → (p i = true → ∃ s' : List UInt8, s'.length = i + 1 ∧ f [.str s, .int i] = some (0, [.str s', .int ((i + 1 : Nat) : Int)])) ∧ (p i = false → f [.str s, .int i] = some (t1 + 1, o1)))
 (hn : ∀ s : List UInt8, f [.str s, .int n] = some (t2 + 1, [.str s])) :
 ∃ s : List UInt8, z0f f l = some (cond (allN n p) (t2, [.str s]) (t1, o1)) := by
 subst h0
 have key : ∀ m k (s : List UInt8), m + k = n → s.length = k → (∀ i, i < k → p i = true) → ∃ s' : List UInt8, z0f f [.str s, .int k] = some (cond (allN n p) (t2, [.str s']) (t1, o1)) := by
  intro m
  induction m with
  | zero =>
    intro k s hk hs hb
    have : k = n := by omega
    subst this
    exact ⟨s, by rw [z1F (hn s), z1S.2 hb]; rfl⟩
  | succ m ih =>
    intro k s hk hs hb
    have h := hp k s (by omega) hs
    cases hq : p k with
    | true =>
      obtain ⟨s', h1, h2⟩ := h.1 hq
      rw [z1j h2]
      refine ih (k + 1) s' (by omega) h1 fun i hi => ?_
      by_cases hik : i = k
      ·rw [hik]; exact hq
      ·exact hb i (by omega)
    | false =>
      exact ⟨[], by rw [z1F (h.2 hq), z43 (by omega) hq]; rfl⟩
 exact key n 0 [] (by omega) rfl (fun i hi => by omega)
theorem z5m {α : Type} (l : List α) (q : α → Bool) (d : α) : allN l.length (fun i => q (l.getD i d)) = l.all q := by
 rw [Bool.eq_iff_iff, z1S, List.all_eq_true]
 constructor
 ·intro h x hx
  obtain ⟨i, hi, rfl⟩ := List.getElem_of_mem hx
  have := h i hi
  rwa [show l.getD i d = l[i] by simp [List.getD_eq_getElem?_getD, List.getElem?_eq_getElem hi]] at this
 ·intro h i hi
  rw [show l.getD i d = l[i] by simp [List.getD_eq_getElem?_getD, List.getElem?_eq_getElem hi]]
  exact h _ (List.getElem_mem hi)
theorem z0J {α : Type} {l : List α} {i : Nat} (hi : i < l.length) (d : α) : l.getD i d = l[i] := by simp [List.getD_eq_getElem?_getD, List.getElem?_eq_getElem hi]
noncomputable def zLc (ps : List (List UInt8)) : List D → Outc := fun l3 =>
 if (decide ((gd l3 1).i < ((D.lst (ps.map D.str)).l.length : Int))) then
  if (inb (gd l3 1).i (D.lst (ps.map D.str)).l.length) then
  (z1I.F [(gd (D.lst (ps.map D.str)).l (gd l3 1).i.toNat), (.int 255)]).bind fun r5 =>
  (if (!(r5.fld 1).b) then
      ou 0 [(.bool true)]
    else
     ou 0 [(.bool (((D.lst (ps.map D.str)).l.length : Int) != 4))]).bind fun o6 =>
  sel2 o6.1 (if (gd o6.2 0).b then
   ou 1 []
   else
    (z2I.F [(r5.fld 0), (.int 1)]).bind fun r7 =>
    if (catOk (gd l3 0).s r7.s) then
    ou 0 [(.str ((gd l3 0).s ++ r7.s)), (.int (IntKind.wrap .i64 ((gd l3 1).i + 1)))]
    else none) fun _ => none
  else none
 else
  ou 2 [(gd l3 0)]
noncomputable def zLh (ps : List (List UInt8)) : List D → Outc := fun l3 =>
 if (decide ((gd l3 1).i < ((D.lst (ps.map D.str)).l.length : Int))) then
  if (inb (gd l3 1).i (D.lst (ps.map D.str)).l.length) then
  (z1v.F [(gd (D.lst (ps.map D.str)).l (gd l3 1).i.toNat)]).bind fun r5 =>
  (z0X.F [r5, (.int 0), (.int 255)]).bind fun r6 =>
  if (!r6.b) then
   ou 1 []
  else
   (z0x.F [r5, (.int 1)]).bind fun r7 =>
   if (catOk (gd l3 0).s r7.s) then
   ou 0 [(.str ((gd l3 0).s ++ r7.s)), (.int (IntKind.wrap .i64 ((gd l3 1).i + 1)))]
   else none
  else none
 else
  ou 2 [(gd l3 0)]
theorem z93 {ps : List (List UInt8)} {i : Nat} (hi : i < ps.length) (hsm : ps.length ≤ smax) (t : List UInt8) : zLc ps [.str t, .int i] = ((z1I.F [(.str ps[i]), (.int 255)]).bind fun r5 =>
 (if (!(r5.fld 1).b) then
     ou 0 [(.bool true)]
   else
    ou 0 [(.bool ((ps.length : Int) != 4))]).bind fun o6 =>
 sel2 o6.1 (if (gd o6.2 0).b then
  ou 1 []
  else
   (z2I.F [(r5.fld 0), (.int 1)]).bind fun r7 =>
   if (catOk t r7.s) then
   ou 0 [(.str (t ++ r7.s)), (.int ((i + 1 : Nat) : Int))]
   else none) fun _ => none) := by
 have hlen : (D.lst (ps.map D.str)).l.length = ps.length := by simp
 have hg := z77 hi
 refine z04 (by rw [hlen]; simpa using hi) (z04 (by rw [hlen]; simpa using z0D hi) ?_)
 have e1 : (gd [D.str t, D.int (i : Int)] 1).i.toNat = i := by simp
 have e2 : (gd [D.str t, D.int (i : Int)] 1).i = i := rfl
 have e3 : (gd [D.str t, D.int (i : Int)] 0).s = t := rfl
 rw [e1, e2, e3, hlen, show (D.lst (ps.map D.str)).l = ps.map D.str from rfl, hg, z0O hi hsm]
theorem z97 {ps : List (List UInt8)} {i : Nat} (hi : i < ps.length) (hsm : ps.length ≤ smax) (t : List UInt8) : zLh ps [.str t, .int i] = ((z1v.F [(.str ps[i])]).bind fun r5 =>
 (z0X.F [r5, (.int 0), (.int 255)]).bind fun r6 =>
 if (!r6.b) then
  ou 1 []
 else
  (z0x.F [r5, (.int 1)]).bind fun r7 =>
  if (catOk t r7.s) then
  ou 0 [(.str (t ++ r7.s)), (.int ((i + 1 : Nat) : Int))]
  else none) := by
 have hlen : (D.lst (ps.map D.str)).l.length = ps.length := by simp
 have hg := z77 hi
 refine z04 (by rw [hlen]; simpa using hi) (z04 (by rw [hlen]; simpa using z0D hi) ?_)
 have e1 : (gd [D.str t, D.int (i : Int)] 1).i.toNat = i := by simp
 have e2 : (gd [D.str t, D.int (i : Int)] 1).i = i := rfl
 have e3 : (gd [D.str t, D.int (i : Int)] 0).s = t := rfl
 rw [e1, e2, e3, show (D.lst (ps.map D.str)).l = ps.map D.str from rfl, hg, z0O hi hsm]
theorem zLf {s : List UInt8} (h : s.length ≤ lim) : ∃ b : List UInt8, z0k.F [.int 1, .str s] = some (.pair (.str b) (.pair (.bool (z9o s)) .unit)) := by
 have hlim : lim = 1048576 := rfl
 rw [z3l]
 have hsp := zGj s (by omega)
 have hpl := z65 46 s
 have hpm := z7I 46 s
 have hne := z6y 46 s
 unfold z9o
 generalize splB 46 s = ps at hsp hpl hpm hne
 have hsm : ps.length ≤ smax := by rw [z19]; omega
 have hlen : (D.lst (ps.map D.str)).l.length = ps.length := by simp
 have hcat := zHi (f := zLc ps) (l := [D.str [], .int 0]) ps.length (fun i => z3M (ps.getD i []) 255 && decide (ps.length = 4)) (t1 := 0) (t2 := 1) (o1 := []) rfl ?_ ?_
 ·obtain ⟨b, hb⟩ := hcat
  refine ⟨cond (allN ps.length (fun i => z3M (ps.getD i []) 255 && decide (ps.length = 4))) b [], z0K rfl (z02 hsp (z0N hb ?_))⟩
  have hall : allN ps.length (fun i => z3M (ps.getD i []) 255 && decide (ps.length = 4)) = (ps.all (fun p => z3M p 255) && decide (ps.length = 4)) := by
   rw [← z5m ps (fun p => z3M p 255) []]
   by_cases h4 : ps.length = 4
   ·simp [h4]
   ·have : allN ps.length (fun i => z3M (ps.getD i []) 255 && decide (ps.length = 4)) = false := by
     have hpos : 0 < ps.length := List.length_pos_iff.2 hne
     exact z43 hpos (by simp [h4])
    rw [this]; simp [h4]
  rw [hall]
  cases (ps.all (fun p => z3M p 255) && decide (ps.length = 4)) <;> rfl
 ·intro i t hi ht
  rw [z0J hi]
  have hpi := hpm _ (List.getElem_mem hi)
  obtain ⟨v, hnum, hv⟩ := z4j (s := ps[i]) (m := 255) (by omega) (by decide)
  have hg := z77 hi
  constructor
  ·intro hp
   simp only [Bool.and_eq_true, decide_eq_true_eq] at hp
   rw [hp.1] at hnum
   obtain ⟨b, hbl, hbig⟩ := zME v
   refine ⟨t ++ b, by simp [ht, hbl], (z93 hi hsm t).trans (z01 hnum (z2Z (r := (0, [.bool false])) (z00 (by simp) (by simp [hp.2])) (sel0 (z00 (by simp) (z01 hbig (z04 ?_ rfl))))))⟩
   simp [catOk, z19, hbl]; omega
  ·intro hp
   refine (z93 hi hsm t).trans (z01 hnum (z2Z (r := (0, [.bool true])) ?_ (sel0 (z04 rfl rfl))))
   cases hq : z3M ps[i] 255 with
   | false => exact z04 rfl rfl
   | true =>
     rw [hq] at hp
     simp only [Bool.true_and, decide_eq_false_iff_not] at hp
     refine z00 (by simp) ?_
     have : ((ps.length : Int) != 4) = true := by simp; omega
     rw [this]
 ·intro t
  exact z00 (by simp) rfl
theorem zMd {s : List UInt8} (h : s.length ≤ lim) : ∃ b : List UInt8, z0z.F [.int 1, .str s] = some (.pair (.str b) (.pair (.bool (z9o s)) .unit)) := by
 have hlim : lim = 1048576 := rfl
 rw [z4F]
 have hsp := z6R s 46 h
 have hpl := z65 46 s
 have hpm := z7I 46 s
 unfold z9o
 generalize splB 46 s = ps at hsp hpl hpm
 have hsm : ps.length ≤ smax := by rw [z19]; omega
 have hlen : (D.lst (ps.map D.str)).l.length = ps.length := by simp
 have hcat := zHi (f := zLh ps) (l := [D.str [], .int 0]) ps.length (fun i => z3M (ps.getD i []) 255) (t1 := 0) (t2 := 1) (o1 := []) rfl ?_ ?_
 ·obtain ⟨b, hb⟩ := hcat
  refine ⟨cond (allN ps.length (fun i => z3M (ps.getD i []) 255)) b [], z0K rfl (z02 hsp (z0N hb ?_))⟩
  rw [z5m ps (fun p => z3M p 255) []]
  cases ps.all (fun p => z3M p 255) with
  | false => rfl
  | true =>
    simp only [cond_true, zHv, zCe, z1G, hlen]
    have : ((ps.length : Int) == 4) = decide (ps.length = 4) := by
     rw [Bool.eq_iff_iff]; simp; omega
    rw [this]; rfl
 ·intro i t hi ht
  rw [z0J hi]
  have hpi := hpm _ (List.getElem_mem hi)
  have hint := z95 (s := ps[i]) (by omega)
  have hg := z77 hi
  have hin := z8D (z4X ps[i]) 0 255
  have hok : (decide ((0 : Int) ≤ z4X ps[i]) && decide (z4X ps[i] ≤ 255)) = z3M ps[i] 255 := by
   unfold z4X z3M
   by_cases hc : z5n ps[i] = true
   ·by_cases hd : (dv ps[i] : Int) ≤ 255
    ·have hl10 : ps[i].length ≤ 10 := by
      have := zE1 (k := 10) (u := dv ps[i]) (by omega) (by omega)
      rwa [← (z88 _).1 hc] at this
     rw [if_pos ⟨hc, hl10⟩]
     simp [hc, hd]
    ·have e : decide ((dv ps[i] : Int) ≤ 255) = false := by simpa using hd
     rw [e, Bool.and_false]
     by_cases hl10 : ps[i].length ≤ 10
     ·rw [if_pos ⟨hc, hl10⟩, e]; simp
     ·rw [if_neg (fun h => hl10 h.2)]; simp
   ·have hc' : z5n ps[i] = false := by simpa using hc
    rw [if_neg (fun h => hc h.1), hc']; simp
  rw [hok] at hin
  constructor
  ·intro hp
   rw [hp] at hin
   obtain ⟨b, hbl, hnum⟩ := zGi (z4X ps[i])
   refine ⟨t ++ b, by simp [ht, hbl], (z97 hi hsm t).trans (z01 hint (z01 hin (z00 (by simp) (z01 hnum (z04 ?_ rfl)))))⟩
   simp [catOk, z19, hbl]; omega
  ·intro hp
   rw [hp] at hin
   exact (z97 hi hsm t).trans (z01 hint (z01 hin (z04 rfl rfl)))
 ·intro t
  exact z00 (by simp) rfl
end Go.Proofs.YtkogmjbmbpcbeaaGreatDoor
namespace Go.Own
variable [Glb]
open Go
theorem zJY {f : List D → Outc} {l : List D} (Inv : Nat → List UInt8 → Prop) (n : Nat) {t : Nat} (s0 : List UInt8) (hl : l = [.str s0, .int 0]) (h0 : Inv 0 s0)
 (h : ∀ i s, i < n → Inv i s → ∃ s', f [.str s, .int i] = some (0, [.str s', .int ((i + 1 : Nat) : Int)]) ∧ Inv (i + 1) s') (hn : ∀ s, f [.str s, .int n] = some (t + 1, [.str s])) :
 ∃ s, Inv n s ∧ z0f f l = some (t, [.str s]) := by
 subst hl
 have key : ∀ m k s, m + k = n → Inv k s → ∃ s', Inv n s' ∧ z0f f [.str s, .int k] = some (t, [.str s']) := by
  intro m
  induction m with
  | zero =>
    intro k s hk hi
    have : k = n := by omega
    subst this
    exact ⟨s, hi, z1F (hn s)⟩
  | succ m ih =>
    intro k s hk hi
    obtain ⟨s', h1, h2⟩ := h k s (by omega) hi
    obtain ⟨s'', h3, h4⟩ := ih (k + 1) s' (by omega) h2
    exact ⟨s'', h3, by rw [z1j h1]; exact h4⟩
 exact key n 0 s0 (by omega) h0
theorem zEq {b c : UInt8} (hbc : c ≠ b) : ∀ s : List UInt8, c ∈ s ↔ ∃ p ∈ splB b s, c ∈ p
 | [] => by simp [splB]
 | x :: s => by
   have ih := zEq hbc s
   unfold splB
   split
   ·rename_i hx
    subst hx
    simp only [List.mem_cons, hbc, false_or, ih]
    constructor
    ·rintro ⟨p, hp, hc⟩; exact ⟨p, .inr hp, hc⟩
    ·rintro ⟨p, hp, hc⟩
     rcases hp with rfl | hp
     ·simp at hc
     ·exact ⟨p, hp, hc⟩
   ·split
    ·rename_i p ps hq
     rw [hq] at ih
     simp only [List.mem_cons] at ih ⊢
     rw [ih]
     constructor
     ·rintro (rfl | ⟨q, rfl | hqm, hc⟩)
      ·exact ⟨_, .inl rfl, by simp⟩
      ·exact ⟨_, .inl rfl, by simp [hc]⟩
      ·exact ⟨q, .inr hqm, hc⟩
     ·rintro ⟨q, rfl | hqm, hc⟩
      ·simp only [List.mem_cons] at hc
       rcases hc with rfl | hc
       ·exact .inl rfl
       ·exact .inr ⟨p, .inl rfl, hc⟩
      ·exact .inr ⟨q, .inr hqm, hc⟩
    ·rename_i hq
     exact absurd hq (z6y b s)
end Go.Own
namespace Go.Proofs.YtkogmjbmbpcbeaaGreatDoor
open Go Go.Own
def z4h (s : List UInt8) : Bool := !s.isEmpty && (z0p s && !(s.contains 42))
theorem zF9 (s : List UInt8) (c : UInt8) : Lib.contains s [c] = s.contains c := by
 unfold Lib.contains
 by_cases h : c ∈ s
 ·obtain ⟨p, q, rfl, hp⟩ := z9P h
  rw [z4g hp]; simp
 ·rw [z5M h]
  have : s.contains c = false := by simpa using h
  rw [this]; rfl
theorem zIA {s : List UInt8} (h : s.length ≤ lim) : z1i.F [.str s, .str [42]] = some (.bool (s.contains 42)) := by
 rw [show z1i.F = z6P from by unfold z1i z6O; rfl]
 unfold z6P
 have hlim : lim = 1048576 := rfl
 refine (if_pos (by simp; omega)).trans ?_
 simp [zF9]
theorem z71 {s : List UInt8} (h : s.length ≤ lim) : z2e.F [.str s] = some (.bool (z4h s)) := by
 rw [zCI]
 have hn := z70 s
 have hc := zIA h
 refine z0N (r := (0, [.bool (z4h s)])) ?_ rfl
 unfold z4h
 by_cases h0 : s = []
 ·subst h0; exact z00 (by simp) rfl
 ·have he : s.isEmpty = false := by cases s <;> simp_all
  rw [he]
  refine z04 (by simpa using h0) ?_
  cases h1 : z0p s with
  | false => rw [h1] at hn; exact z01 hn (z00 (by simp) rfl)
  | true => rw [h1] at hn; exact z01 hn (z04 rfl (z01 hc (by simp)))
theorem zJe {s : List UInt8} (h : z0p s = true) (h0 : s ≠ []) : s.contains 42 = (z1N s).any (· == [42]) := by
 have he : s.isEmpty = false := by cases s <;> simp_all
 have hp : z1N s = splB 46 s := by unfold z1N; rw [he]; rfl
 rw [hp]
 unfold z0p at h
 rw [he] at h
 simp only [Bool.and_eq_true, Bool.false_or, List.all_eq_true, decide_eq_true_eq] at h
 rw [Bool.eq_iff_iff, List.any_eq_true]
 have hh := zEq (b := 46) (c := 42) (by decide) s
 constructor
 ·intro hc
  obtain ⟨p, hp, hcp⟩ := hh.1 (by simpa using hc)
  refine ⟨p, hp, ?_⟩
  have := h.2.2 p hp
  unfold z45 at this
  simp only [Bool.or_eq_true, Bool.and_eq_true, List.all_eq_true] at this
  rcases this with h1 | h1
  ·exact h1
  ·have := h1.2 42 hcp
   exact absurd this (by decide)
 ·rintro ⟨p, hp, hpe⟩
  have : p = [42] := by simpa using hpe
  subst this
  simpa using hh.2 ⟨[42], hp, by simp⟩
theorem z73 {s : List UInt8} (h : s.length ≤ lim) : z2i.F [.str s] = some (.bool (z4h s)) := by
 have hlim : lim = 1048576 := rfl
 rw [zCX]
 obtain ⟨ls, hl, hll, hpt⟩ := z44 s h
 have hsm : ls.length ≤ smax := by rw [z19]; omega
 have hlen : (D.lst (ls.map D.str)).l.length = ls.length := by simp
 have f0 : ((D.pair (.lst (ls.map D.str)) (.pair (.bool (z0p s)) .unit)).fld 0).l = ls.map D.str := rfl
 have f1 : (D.pair (.lst (ls.map D.str)) (.pair (.bool (z0p s)) .unit)).fld 1 = .bool (z0p s) := rfl
 refine z02 hl ?_
 rw [f0, f1, List.length_map]
 refine z0N (z1o (fun i (b : Bool) => [.bool b, .int i]) ls.length (fun i => z0p s && (ls.take i).all (fun x => !(x == [42]))) (t := 0) (o := [.bool (z0p s && ls.all (fun x => !(x == [42])))]) (by simp) ?_ ?_) ?_
 ·intro i hi
  have hg := z77 hi
  refine z04 (by simpa using hi) (z2Z (r := (0, [.bool (z0p s && (ls.take (i + 1)).all (fun x => !(x == [42])))])) (z04 (by simpa using z0D hi) ?_) (sel0 ?_))
  ·simp only [z1G, z3Z, D.i_int, Int.toNat_natCast, D.b_bool, hg]
   rw [List.take_succ_eq_append_getElem hi, List.all_append, ← Bool.and_assoc]
   cases (z0p s && (ls.take i).all (fun x => !(x == [42]))) with
   | false => exact z00 (by simp) (by simp)
   | true => exact z04 rfl (by simp)
  ·simp [z0O hi hsm]
 ·simp
 ·refine z0N (r := (0, [.bool (z4h s)])) ?_ rfl
  unfold z4h
  cases hn : z0p s with
  | false => exact z00 (by simp) (by simp)
  | true =>
    have hls := hpt hn
    subst hls
    by_cases h0 : s = []
    ·subst h0; exact z04 rfl rfl
    ·have he : s.isEmpty = false := by cases s <;> simp_all
     have hs := zJe hn h0
     have hall : (z1N s).all (fun x => !(x == [42])) = !(s.contains 42) := by
      rw [hs]
      rw [Bool.eq_iff_iff]; simp
     rw [hall, he]
     cases s.contains 42 with
     | true => exact z00 (by simp) (by simp)
     | false => exact z04 rfl (by simp [h0])
theorem z4c {a b : List UInt8} (h : a.length + b.length ≤ 4 * lim + 100) : catOk a b = true := by
 have hlim : lim = 1048576 := rfl
 unfold catOk
 rw [z19]
 exact decide_eq_true (by omega)
theorem z4s (s : List UInt8) : (z1N s).length ≤ s.length + 1 ∧ ∀ p ∈ z1N s, p.length ≤ 20 ∨ True := by
 unfold z1N
 split
 ·simp
 ·exact ⟨z65 46 s, fun _ _ => .inr trivial⟩
def lens (ls : List (List UInt8)) : Nat := (ls.map fun p => p.length + 1).sum
theorem zJT {ls : List (List UInt8)} {i : Nat} (hi : i < ls.length) : lens (ls.take (i + 1)) = lens (ls.take i) + (ls[i].length + 1) := by
 unfold lens
 rw [List.take_succ_eq_append_getElem hi, List.map_append, List.sum_append_nat]
 simp only [List.map_cons, List.map_nil, List.sum_cons, List.sum_nil, Nat.add_zero]
theorem zJS (ls : List (List UInt8)) (i : Nat) : lens (ls.take i) ≤ lens ls := by
 unfold lens
 conv => rhs; rw [← List.take_append_drop i ls]
 rw [List.map_append, List.sum_append_nat]
 exact Nat.le_add_right _ _
theorem z8R (b : UInt8) : ∀ s : List UInt8, lens (splB b s) = s.length + 1
 | [] => rfl
 | c :: s => by
   have ih := z8R b s
   unfold lens at ih ⊢
   unfold splB
   split
   ·simp only [List.map_cons, List.sum_cons, ih, List.length_cons, List.length_nil]; omega
   ·split
    ·rename_i p ps hq
     rw [hq] at ih
     simp only [List.map_cons, List.sum_cons, List.length_cons] at ih ⊢; omega
    ·rename_i hq
     exact absurd hq (z6y b s)
theorem z9J (s : List UInt8) : lens (z1N s) ≤ s.length + 1 := by
 unfold z1N
 split
 ·simp [lens]
 ·rw [z8R]; exact Nat.le_refl _
theorem zEO {ls : List (List UInt8)} (hl : lens ls ≤ 2 * lim) (hn : ls.length ≤ 2 * lim) : ∃ s : List UInt8, s.length ≤ 2 * lim ∧ z0f (fun l2 =>
 if (decide ((gd l2 1).i < ((D.lst (ls.map D.str)).l.length : Int))) then
  if (inb (gd l2 1).i (D.lst (ls.map D.str)).l.length) then
  if (catOk (z0c ((.int (IntKind.wrap .u8 ((gd (D.lst (ls.map D.str)).l (gd l2 1).i.toNat).s.length : Int))) :: ([] : List D))) (gd (D.lst (ls.map D.str)).l (gd l2 1).i.toNat).s) then
  if (catOk (gd l2 0).s ((z0c ((.int (IntKind.wrap .u8 ((gd (D.lst (ls.map D.str)).l (gd l2 1).i.toNat).s.length : Int))) :: ([] : List D))) ++ (gd (D.lst (ls.map D.str)).l (gd l2 1).i.toNat).s)) then
  ou 0 [(.str ((gd l2 0).s ++ ((z0c ((.int (IntKind.wrap .u8 ((gd (D.lst (ls.map D.str)).l (gd l2 1).i.toNat).s.length : Int))) :: ([] : List D))) ++ (gd (D.lst (ls.map D.str)).l (gd l2 1).i.toNat).s))), (.int (IntKind.wrap .i64 ((gd l2 1).i + 1)))]
  else none
  else none
  else none
 else
  ou 1 [(gd l2 0)]) [(D.str []), (.int 0)] = some (0, [.str s]) := by
 have hlim : lim = 1048576 := rfl
 have hsm : ls.length ≤ smax := by rw [z19]; omega
 have hlen : (D.lst (ls.map D.str)).l.length = ls.length := by simp
 obtain ⟨s, hs, hloop⟩ := zJY (fun i s => s.length = lens (ls.take i)) ls.length (t := 0) [] rfl (by simp [lens]) (f := fun l2 =>
  if (decide ((gd l2 1).i < ((D.lst (ls.map D.str)).l.length : Int))) then
   if (inb (gd l2 1).i (D.lst (ls.map D.str)).l.length) then
   if (catOk (z0c ((.int (IntKind.wrap .u8 ((gd (D.lst (ls.map D.str)).l (gd l2 1).i.toNat).s.length : Int))) :: ([] : List D))) (gd (D.lst (ls.map D.str)).l (gd l2 1).i.toNat).s) then
   if (catOk (gd l2 0).s ((z0c ((.int (IntKind.wrap .u8 ((gd (D.lst (ls.map D.str)).l (gd l2 1).i.toNat).s.length : Int))) :: ([] : List D))) ++ (gd (D.lst (ls.map D.str)).l (gd l2 1).i.toNat).s)) then
   ou 0 [(.str ((gd l2 0).s ++ ((z0c ((.int (IntKind.wrap .u8 ((gd (D.lst (ls.map D.str)).l (gd l2 1).i.toNat).s.length : Int))) :: ([] : List D))) ++ (gd (D.lst (ls.map D.str)).l (gd l2 1).i.toNat).s))), (.int (IntKind.wrap .i64 ((gd l2 1).i + 1)))]
   else none
   else none
   else none
  else
   ou 1 [(gd l2 0)]) (by
  intro i s hi hs
  have hg := z77 hi
  have hti := zJT hi
  have htl := zJS ls (i + 1)
  have hb := z0t [.int (IntKind.wrap .u8 (ls[i].length : Int))]
  refine ⟨s ++ (z0c [.int (IntKind.wrap .u8 (ls[i].length : Int))] ++ ls[i]), ?_, by simp [hs, hti, hb]; omega⟩
  refine z04 (by rw [hlen]; simpa using hi) (z04 (by rw [hlen]; simpa using z0D hi) ?_)
  have e1 : (gd [D.str s, D.int (i : Int)] 1).i.toNat = i := by simp
  have e2 : (gd [D.str s, D.int (i : Int)] 1).i = i := rfl
  have e3 : (gd [D.str s, D.int (i : Int)] 0).s = s := rfl
  rw [e1, e2, e3, show (D.lst (ls.map D.str)).l = ls.map D.str from rfl, hg, z0O hi hsm]
  simp only [D.s_str]
  refine z04 (z4c (by rw [hb, List.length_singleton]; omega)) (z04 (z4c (by rw [List.length_append, hb, List.length_singleton]; omega)) rfl)) (by
  intro s
  exact z00 (by rw [hlen]; simp) rfl)
 refine ⟨s, ?_, hloop⟩
 have := zJS ls ls.length
 omega
theorem z9t {s : List UInt8} (h : s.length ≤ lim) : ∃ b : List UInt8, b.length ≤ 2 * lim ∧ z1Y.F [.str s] = some (.str b) := by
 have hlim : lim = 1048576 := rfl
 rw [z5j]
 have hl := z5S s (by omega)
 have hp : (if s.isEmpty then [] else splB 46 s) = z1N s := rfl
 rw [hp] at hl
 obtain ⟨b, hb, hloop⟩ := zEO (ls := z1N s) (Nat.le_trans (z9J s) (by omega)) (Nat.le_trans (z4s s).1 (by omega))
 exact ⟨b, hb, z02 hl (z0N hloop rfl)⟩
theorem zFH {s : List UInt8} (h : s.length ≤ lim) (hn : z0p s = true) : ∃ b : List UInt8, b.length ≤ 2 * lim + 1 ∧ z2S.F [.str s] = some (.str b) := by
 have hlim : lim = 1048576 := rfl
 rw [z7Z]
 obtain ⟨ls, hl, hll, hpt⟩ := z44 s h
 rw [hpt hn] at hl
 obtain ⟨b, hb, hloop⟩ := zEO (ls := z1N s) (Nat.le_trans (z9J s) (by omega)) (Nat.le_trans (z4s s).1 (by omega))
 refine ⟨b ++ [0], by simp; omega, z02 hl (z0N hloop (z0K (z4c (by simp; omega)) ?_))⟩
 simp
end Go.Proofs.YtkogmjbmbpcbeaaGreatDoor
