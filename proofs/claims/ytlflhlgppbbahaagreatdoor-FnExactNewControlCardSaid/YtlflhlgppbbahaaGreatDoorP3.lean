/- What the functions compute, in plain words. -/
import Derived.Test.YtlflhlgppbbahaaGreatDoorP2
set_option linter.unusedSectionVars false
set_option linter.unusedVariables false
set_option linter.unusedSimpArgs false
/-! Names compared, by the program and by the reference. -/
namespace Go.Proofs.YtlflhlgppbbahaaGreatDoor
open Go Go.Own

theorem rn_bind' {o : Outc} {k : Nat × List D → Outc} {r : Nat × List D} {R : Option D} (h : o = some r) (hk : rn (k r) = R) : rn (o.bind k) = R := by rw [h]; exact hk
theorem gd_map {α : Type} {f : α → D} {xs : List α} {i : Nat} (h : i < xs.length) : gd (xs.map f) i = f xs[i] := by
  rw [gd_lt (by simpa using h)]; simp

theorem bytesLess_cmp : ∀ a b : List UInt8, (Op.bytesLess a b = true ↔ Lib.compareBytes a b = -1) ∧ (a = b ↔ Lib.compareBytes a b = 0)
  | [], [] => by simp [Op.bytesLess, Lib.compareBytes]
  | [], _ :: _ => by simp [Op.bytesLess, Lib.compareBytes]
  | _ :: _, [] => by simp [Op.bytesLess, Lib.compareBytes]
  | a :: x, b :: y => by
    have ih := bytesLess_cmp x y
    unfold Op.bytesLess Lib.compareBytes
    by_cases h1 : a < b
    · have hne : a ≠ b := by rintro rfl; exact absurd h1 (UInt8.lt_irrefl a)
      simp [h1, hne]
    · by_cases h2 : b < a
      · have hne : a ≠ b := by rintro rfl; exact absurd h2 (UInt8.lt_irrefl a)
        simp [h1, h2, hne]
      · have he : a = b := UInt8.le_antisymm (UInt8.not_lt.1 h2) (UInt8.not_lt.1 h1)
        subst he
        simp only [h1, if_false, decide_false, Bool.false_or, beq_self_eq_true, Bool.true_and, List.cons.injEq, true_and]
        exact ih
theorem compareBytes_val (a b : List UInt8) : Lib.compareBytes a b = -1 ∨ Lib.compareBytes a b = 0 ∨ Lib.compareBytes a b = 1 := by
  induction a generalizing b with
  | nil => cases b <;> simp [Lib.compareBytes]
  | cons x a ih => cases b with
    | nil => simp [Lib.compareBytes]
    | cons y b =>
      unfold Lib.compareBytes
      split
      · exact .inl rfl
      · split
        · exact .inr (.inr rfl)
        · exact ih b
theorem lexC_val {c : List UInt8 → List UInt8 → Int} (hc : ∀ a b, c a b = -1 ∨ c a b = 0 ∨ c a b = 1) (a b : List (List UInt8)) : lexC c a b = -1 ∨ lexC c a b = 0 ∨ lexC c a b = 1 := by
  induction a generalizing b with
  | nil => cases b <;> simp [lexC]
  | cons x a ih => cases b with
    | nil => simp [lexC]
    | cons y b =>
      unfold lexC
      split
      · exact ih b
      · exact hc x y

/-! Reverse -/
def swapped (n i : Nat) (xs : List D) : List D := (List.range n).map fun k => if k < i ∨ n - i ≤ k then gd xs (n - 1 - k) else gd xs k
theorem swapped_len {n i : Nat} {xs : List D} : (swapped n i xs).length = n := by simp [swapped]
theorem swapped_get {n i k : Nat} {xs : List D} (h : k < n) : gd (swapped n i xs) k = if k < i ∨ n - i ≤ k then gd xs (n - 1 - k) else gd xs k := by
  rw [gd_lt (by rw [swapped_len]; exact h)]; simp [swapped]
theorem swapped_zero {xs : List D} : swapped xs.length 0 xs = xs := by
  apply List.ext_getElem
  · simp [swapped]
  · intro k h1 h2
    simp only [swapped, List.getElem_map, List.getElem_range]
    rw [if_neg (by omega), gd_lt h2]
theorem swapped_last {xs : List D} : swapped xs.length (xs.length / 2) xs = xs.reverse := by
  apply List.ext_getElem
  · simp [swapped]
  · intro k h1 h2
    have hk : k < xs.length := by simpa using h2
    simp only [swapped, List.getElem_map, List.getElem_range, List.getElem_reverse]
    split
    · rw [gd_lt (by omega)]
    · have : xs.length - 1 - k = k := by omega
      rw [gd_lt hk]; congr 1; omega
theorem swapped_step {xs : List D} {i : Nat} (hi : i < xs.length / 2) : ((swapped xs.length i xs).set i (gd (swapped xs.length i xs) (xs.length - 1 - i))).set (xs.length - 1 - i) (gd (swapped xs.length i xs) i) = swapped xs.length (i + 1) xs := by
  have ha : gd (swapped xs.length i xs) (xs.length - 1 - i) = gd xs (xs.length - 1 - i) := by rw [swapped_get (by omega), if_neg (by omega)]
  have hb : gd (swapped xs.length i xs) i = gd xs i := by rw [swapped_get (by omega), if_neg (by omega)]
  rw [ha, hb]
  apply List.ext_getElem
  · simp [swapped]
  · intro k h1 h2
    have hk : k < xs.length := by simpa [swapped] using h2
    simp only [List.getElem_set]
    simp only [swapped, List.getElem_map, List.getElem_range]
    by_cases e1 : xs.length - 1 - i = k
    · rw [if_pos e1, if_pos (by omega)]; congr 1; omega
    · rw [if_neg e1]
      by_cases e2 : i = k
      · rw [if_pos e2, if_pos (by omega)]; congr 1; omega
      · rw [if_neg e2]
        by_cases e3 : k < i ∨ xs.length - i ≤ k
        · rw [if_pos e3, if_pos (by omega)]
        · rw [if_neg e3, if_neg (by omega)]
theorem f_reverse {xs : List D} (hl : xs.length ≤ lim + 1) : e_slices_Reverse_string_string.F [.lst xs] = some (.pair .unit (.pair (.lst xs.reverse) .unit)) := by
  have hlim : lim = 1048576 := rfl
  rw [q_slices_Reverse_string_string]
  have w0 : IntKind.wrap .i64 ((xs.length : Int) - 1) = (xs.length : Int) - 1 := by rw [wrap_id] <;> omega
  refine rn_bind (loop_for' (fun i (zs : List D) => [.lst zs, .int i, .int ((xs.length : Int) - 1 - i)]) (xs.length / 2) (fun i => swapped xs.length i xs) (t := 0) (o := [.lst xs.reverse]) ?_ ?_ ?_) rfl
  · simp only [swapped_zero, D.l_lst, w0]
    congr 3
    · simp
  · intro i hi
    have w1 : IntKind.wrap .i64 ((i : Int) + 1) = ((i + 1 : Nat) : Int) := by rw [wrap_id] <;> omega
    have w2 : IntKind.wrap .i64 ((xs.length : Int) - 1 - i - 1) = (xs.length : Int) - 1 - ((i + 1 : Nat) : Int) := by rw [wrap_id] <;> omega
    have ej : ((xs.length : Int) - 1 - (i : Int)).toNat = xs.length - 1 - i := by omega
    have hj : inb ((xs.length : Int) - 1 - (i : Int)) xs.length = true := inb_int (by omega) (by omega)
    have hst := swapped_step hi
    refine out_if (decide_eq_true (by simp; omega)) (out_if ?_ (out_if ?_ ?_))
    · simp only [gd_two, gd_zero, D.i_int, D.l_lst, swapped_len]; exact hj
    · simp only [gd_one, gd_zero, D.i_int, D.l_lst, swapped_len]; exact inb_nat (by omega)
    · simp only [gd_two, gd_one, gd_zero, D.i_int, D.l_lst, ej, Int.toNat_natCast, hst, w1, w2]
  · refine out_else (fun h => ?_) ?_
    · have h' : ((xs.length / 2 : Nat) : Int) < (xs.length : Int) - 1 - ((xs.length / 2 : Nat) : Int) := of_decide_eq_true h
      omega
    · simp only [gd_zero, swapped_last]

/-! lists of texts compared -/
theorem f_cmpString (a b : List UInt8) : e_cmp_Compare_string.F [.str a, .str b] = some (.int (Lib.compareBytes a b)) := by
  have n1 : ∀ s : List UInt8, e_cmp_isNaN_string.F [.str s] = some (.bool false) := fun s => by
    rw [q_cmp_isNaN_string]; simp
  rw [q_cmp_Compare_string]
  refine rn_call (n1 a) (rn_call (n1 b) (rn_else (by simp) (rn_else (by simp) ?_)))
  obtain ⟨h1, h2⟩ := bytesLess_cmp a b
  simp only [D.s_str]
  rcases compareBytes_val a b with h | h | h
  · rw [h]; exact rn_if (h1.2 h) rfl
  · have he := h2.2 h
    subst he
    have hl : Op.bytesLess a a = false := by
      cases hq : Op.bytesLess a a with
      | false => rfl
      | true => rw [h1.1 hq] at h; cases h
    rw [h]; exact rn_else (by rw [hl]; decide) (rn_else (by simp) rfl)
  · have hl : Op.bytesLess a b = false := by
      cases hq : Op.bytesLess a b with
      | false => rfl
      | true => rw [h1.1 hq] at h; cases h
    have hne : a ≠ b := fun e => by rw [h2.1 e] at h; cases h
    rw [h]; exact rn_else (by rw [hl]; decide) (rn_if (by simp [hl, hne]) rfl)
theorem lexC_drop {α : Type} {c : α → α → Int} {xs ys : List α} : ∀ (k : Nat), k ≤ xs.length → k ≤ ys.length → (∀ i (h1 : i < xs.length) (h2 : i < ys.length), i < k → c xs[i] ys[i] = 0) → lexC c xs ys = lexC c (xs.drop k) (ys.drop k)
  | 0, _, _, _ => by simp
  | k + 1, h1, h2, h => by
    rw [lexC_drop k (by omega) (by omega) (fun i a b hi => h i a b (by omega))]
    rw [List.drop_eq_getElem_cons (show k < xs.length by omega), List.drop_eq_getElem_cons (show k < ys.length by omega)]
    rw [lexC, if_pos (h k (by omega) (by omega) (by omega))]
theorem lexC_at {α : Type} {c : α → α → Int} {xs ys : List α} {k : Nat} (h1 : k < xs.length) (h2 : k < ys.length) (h : ∀ i (h1 : i < xs.length) (h2 : i < ys.length), i < k → c xs[i] ys[i] = 0) (hk : c xs[k] ys[k] ≠ 0) : lexC c xs ys = c xs[k] ys[k] := by
  rw [lexC_drop k (by omega) (by omega) h, List.drop_eq_getElem_cons h1, List.drop_eq_getElem_cons h2, lexC, if_neg hk]
theorem lexC_long {α : Type} {c : α → α → Int} {xs ys : List α} (h1 : ys.length < xs.length) (h : ∀ i (h1 : i < xs.length) (h2 : i < ys.length), c xs[i] ys[i] = 0) : lexC c xs ys = 1 := by
  rw [lexC_drop ys.length (by omega) (by omega) (fun i a b _ => h i a b), List.drop_length, List.drop_eq_getElem_cons h1]; rfl
theorem lexC_short {α : Type} {c : α → α → Int} {xs ys : List α} (h1 : xs.length ≤ ys.length) (h : ∀ i (h1 : i < xs.length) (h2 : i < ys.length), c xs[i] ys[i] = 0) : lexC c xs ys = if xs.length < ys.length then -1 else 0 := by
  rw [lexC_drop xs.length (by omega) (by omega) (fun i a b _ => h i a b), List.drop_length]
  by_cases h2 : xs.length < ys.length
  · rw [List.drop_eq_getElem_cons h2, if_pos h2]; rfl
  · rw [List.drop_eq_nil_of_le (by omega), if_neg h2]; rfl
def cmpL (xs ys : List (List UInt8)) : Int := lexC Lib.compareBytes xs ys
theorem cmpL_val (a b : List (List UInt8)) : cmpL a b = -1 ∨ cmpL a b = 0 ∨ cmpL a b = 1 := lexC_val compareBytes_val a b
theorem cmpL_cmp : Cmp cmpL := cmpBytes.lex
theorem f_cmpSlices {xs ys : List (List UInt8)} (hl : xs.length ≤ lim + 1) : e_slices_Compare_string_string.F [.lst (xs.map .str), .lst (ys.map .str)] = some (.int (cmpL xs ys)) := by
  have hsm : xs.length ≤ smax := by rw [smax_eq]; have hlim : lim = 1048576 := rfl; omega
  rw [q_slices_Compare_string_string]
  have hlx : (D.lst (xs.map D.str)).l.length = xs.length := by simp
  have hly : (D.lst (ys.map D.str)).l.length = ys.length := by simp
  rw [hlx, hly]
  have hcmp : ∀ i (h1 : i < xs.length) (h2 : i < ys.length), e_cmp_Compare_string.F [gd (xs.map D.str) i, gd (ys.map D.str) i] = some (.int (Lib.compareBytes xs[i] ys[i])) := fun i h1 h2 => by
    rw [gd_map h1, gd_map h2]; exact f_cmpString _ _
  let p : Nat → Bool := fun i => decide (i < ys.length) && (Lib.compareBytes (xs.getD i []) (ys.getD i []) == 0)
  have hp0 : ∀ i (h1 : i < xs.length), p i = true → ∃ h2 : i < ys.length, Lib.compareBytes xs[i] ys[i] = 0 := by
    intro i h1 h
    simp only [p, Bool.and_eq_true, decide_eq_true_eq, beq_iff_eq] at h
    refine ⟨h.1, ?_⟩
    have := h.2
    rwa [getD_lt h1, getD_lt h.1] at this
  have key := loop_find (l := [.int 0]) (fun i => [.int i]) xs.length p (t1 := 0) (t2 := 1) (o1 := fun i => [.int (if ys.length ≤ i then 1 else Lib.compareBytes (xs.getD i []) (ys.getD i []))]) (o2 := []) (f := fun l2 =>
      if (decide ((gd l2 0).i < (xs.length : Int))) then
        if (inb (gd l2 0).i xs.length) then
        if (decide ((gd l2 0).i ≥ (ys.length : Int))) then
          ou 1 [(.int 1)]
        else
          if (inb (gd l2 0).i ys.length) then
          (e_cmp_Compare_string.F [(gd (D.lst (xs.map D.str)).l (gd l2 0).i.toNat), (gd (D.lst (ys.map D.str)).l (gd l2 0).i.toNat)]).bind fun r3 =>
          if (r3.i != 0) then
            ou 1 [r3]
          else
            ou 0 [(.int (IntKind.wrap .i64 ((gd l2 0).i + 1)))]
          else none
        else none
      else
        ou 2 []) rfl (by
      intro i hi hp
      obtain ⟨h2, hc⟩ := hp0 i hi hp
      have := hcmp i hi h2
      rw [hc] at this
      have hn : ¬ ys.length ≤ i := by omega
      simp [hi, inb_nat hi, inb_nat h2, hn, this, wrap_succ hi hsm]) (by
      intro i hi hp
      by_cases h2 : ys.length ≤ i
      · simp [hi, inb_nat hi, h2]
      · have h3 : i < ys.length := by omega
        have := hcmp i hi h3
        have hne : ¬ Lib.compareBytes xs[i] ys[i] = 0 := by
          intro h
          simp only [p, h3, decide_true, Bool.true_and, getD_lt hi, getD_lt h3, h] at hp
          simp at hp
        simp [hi, h3, inb_nat hi, inb_nat h3, h2, this, hne]) (by simp)
  rcases key with ⟨hall, hloop⟩ | ⟨k, hk, hpk, hall, hloop⟩
  · refine rn_bind hloop ?_
    have hle : xs.length ≤ ys.length := by
      rcases Nat.eq_zero_or_pos xs.length with h | h
      · omega
      · have := (hp0 (xs.length - 1) (by omega) (hall _ (by omega))).1; omega
    have hs : cmpL xs ys = if xs.length < ys.length then -1 else 0 := lexC_short hle (fun i h1 h2 => (hp0 i h1 (hall i h1)).2)
    rw [hs]
    by_cases h : xs.length < ys.length
    · rw [if_pos h]; exact rn_if (decide_eq_true (by omega)) rfl
    · rw [if_neg h]; exact rn_else (fun h' => h (by have h'' : (xs.length : Int) < ys.length := of_decide_eq_true h'; omega)) rfl
  · refine rn_bind hloop ?_
    by_cases h2 : ys.length ≤ k
    · have : cmpL xs ys = 1 := lexC_long (by omega) (fun i h1 h3 => (hp0 i h1 (hall i (by omega))).2)
      simp only [if_pos h2, this]; rfl
    · have h3 : k < ys.length := by omega
      have hne : Lib.compareBytes xs[k] ys[k] ≠ 0 := by
        intro h
        simp only [p, h3, decide_true, Bool.true_and, getD_lt hk, getD_lt h3, h] at hpk
        simp at hpk
      have : cmpL xs ys = Lib.compareBytes xs[k] ys[k] := lexC_at hk h3 (fun i h1 h4 hi => (hp0 i h1 (hall i hi)).2) hne
      simp only [if_neg h2, this, getD_lt hk, getD_lt h3]; rfl

/-- names compared -/
def cmpN (a b : List UInt8) : Int := cmpL (parts a).reverse (parts b).reverse
theorem cmpN_val (a b : List UInt8) : cmpN a b = -1 ∨ cmpN a b = 0 ∨ cmpN a b = 1 := cmpL_val _ _
theorem f_compareNames {a b : List UInt8} (ha : a.length ≤ lim) (hb : b.length ≤ lim) : e_impl_compareNames.F [.str a, .str b] = some (.int (cmpN a b)) := by
  have hlim : lim = 1048576 := rfl
  rw [q_impl_compareNames]
  have h1 := f_labelsOf a (by omega)
  have h2 := f_labelsOf b (by omega)
  rw [show (if a.isEmpty then [] else splB 46 a) = parts a from rfl] at h1
  rw [show (if b.isEmpty then [] else splB 46 b) = parts b from rfl] at h2
  have hla := (parts_bound a).1
  have hlb := (parts_bound b).1
  refine rn_call h1 (rn_call h2 (rn_call (f_reverse (by simp; omega)) (rn_call (f_reverse (by simp; omega)) ?_)))
  have f0 : ∀ l : List (List UInt8), (D.pair .unit (.pair (.lst (l.map D.str).reverse) .unit)).fld 1 = .lst (l.reverse.map D.str) := fun l => by
    rw [← List.map_reverse]; rfl
  rw [f0, f0]
  exact rn_call (f_cmpSlices (by simp; omega)) rfl
theorem f_l1CompareX (ls ms : List (List UInt8)) (hl : ls.length ≤ lim + 1) (hm : ms.length ≤ lim + 1) (x y : D) (R : Option D) (hR : some (.int (cmpL ls.reverse ms.reverse)) = R) : rn ((loopF (fun l4 =>
      (if (decide ((gd l4 0).i ≤ (((D.pair (.lst (ls.map D.str)) x).fld 0).l.length : Int))) then
          ou 0 [(.bool (decide ((gd l4 0).i ≤ (((D.pair (.lst (ms.map D.str)) y).fld 0).l.length : Int))))]
        else
          ou 0 [(.bool false)]).bind fun o5 =>
      sel2 o5.1 (if (gd o5.2 0).b then
          if (inb (IntKind.wrap .i64 ((((D.pair (.lst (ls.map D.str)) x).fld 0).l.length : Int) - (gd l4 0).i)) ((D.pair (.lst (ls.map D.str)) x).fld 0).l.length) then
          if (inb (IntKind.wrap .i64 ((((D.pair (.lst (ms.map D.str)) y).fld 0).l.length : Int) - (gd l4 0).i)) ((D.pair (.lst (ms.map D.str)) y).fld 0).l.length) then
          if (Op.bytesLess (gd ((D.pair (.lst (ls.map D.str)) x).fld 0).l (IntKind.wrap .i64 ((((D.pair (.lst (ls.map D.str)) x).fld 0).l.length : Int) - (gd l4 0).i)).toNat).s (gd ((D.pair (.lst (ms.map D.str)) y).fld 0).l (IntKind.wrap .i64 ((((D.pair (.lst (ms.map D.str)) y).fld 0).l.length : Int) - (gd l4 0).i)).toNat).s) then
            ou 1 [(.int (-1))]
          else
            if (!(Op.bytesLess (gd ((D.pair (.lst (ls.map D.str)) x).fld 0).l (IntKind.wrap .i64 ((((D.pair (.lst (ls.map D.str)) x).fld 0).l.length : Int) - (gd l4 0).i)).toNat).s (gd ((D.pair (.lst (ms.map D.str)) y).fld 0).l (IntKind.wrap .i64 ((((D.pair (.lst (ms.map D.str)) y).fld 0).l.length : Int) - (gd l4 0).i)).toNat).s || (gd ((D.pair (.lst (ls.map D.str)) x).fld 0).l (IntKind.wrap .i64 ((((D.pair (.lst (ls.map D.str)) x).fld 0).l.length : Int) - (gd l4 0).i)).toNat).s == (gd ((D.pair (.lst (ms.map D.str)) y).fld 0).l (IntKind.wrap .i64 ((((D.pair (.lst (ms.map D.str)) y).fld 0).l.length : Int) - (gd l4 0).i)).toNat).s)) then
              ou 1 [(.int 1)]
            else
              ou 0 [(.int (IntKind.wrap .i64 ((gd l4 0).i + 1)))]
          else none
          else none
        else
          ou 2 []) fun _ => none) [(.int 1)]).bind fun o4 =>
  sel2 o4.1 (ou 0 [(gd o4.2 0)]) fun n2 =>
  sel2 n2 (if (decide ((((D.pair (.lst (ls.map D.str)) x).fld 0).l.length : Int) < (((D.pair (.lst (ms.map D.str)) y).fld 0).l.length : Int))) then
      ou 0 [(.int (-1))]
    else
      if (decide ((((D.pair (.lst (ls.map D.str)) x).fld 0).l.length : Int) > (((D.pair (.lst (ms.map D.str)) y).fld 0).l.length : Int))) then
        ou 0 [(.int 1)]
      else
        ou 0 [(.int 0)]) fun _ => none) = R := by
  have hlim : lim = 1048576 := rfl
  subst hR
  have fx : ((D.pair (.lst (ls.map D.str)) x).fld 0).l = ls.map D.str := rfl
  have fy : ((D.pair (.lst (ms.map D.str)) y).fld 0).l = ms.map D.str := rfl
  rw [fx, fy]
  simp only [List.length_map]
  let n := min ls.length ms.length
  have hn1 : n ≤ ls.length := Nat.min_le_left _ _
  have hn2 : n ≤ ms.length := Nat.min_le_right _ _
  let c : Nat → Int := fun i => Lib.compareBytes (ls.reverse.getD i []) (ms.reverse.getD i [])
  have hg : ∀ (l : List (List UInt8)) i (hi : i < l.length), (gd (l.map D.str) (l.length - 1 - i)).s = l.reverse.getD i [] := by
    intro l i hi
    rw [gd_map (by omega), getD_lt (by simpa using hi) [], List.getElem_reverse]; rfl
  have key := loop_find (l := [.int 1]) (fun i => [.int ((i + 1 : Nat) : Int)]) n (fun i => c i == 0) (t1 := 0) (t2 := 1) (o1 := fun i => [.int (c i)]) (o2 := []) (f := fun l4 =>
      (if (decide ((gd l4 0).i ≤ (ls.length : Int))) then
          ou 0 [(.bool (decide ((gd l4 0).i ≤ (ms.length : Int))))]
        else
          ou 0 [(.bool false)]).bind fun o5 =>
      sel2 o5.1 (if (gd o5.2 0).b then
          if (inb (IntKind.wrap .i64 ((ls.length : Int) - (gd l4 0).i)) ls.length) then
          if (inb (IntKind.wrap .i64 ((ms.length : Int) - (gd l4 0).i)) ms.length) then
          if (Op.bytesLess (gd (ls.map D.str) (IntKind.wrap .i64 ((ls.length : Int) - (gd l4 0).i)).toNat).s (gd (ms.map D.str) (IntKind.wrap .i64 ((ms.length : Int) - (gd l4 0).i)).toNat).s) then
            ou 1 [(.int (-1))]
          else
            if (!(Op.bytesLess (gd (ls.map D.str) (IntKind.wrap .i64 ((ls.length : Int) - (gd l4 0).i)).toNat).s (gd (ms.map D.str) (IntKind.wrap .i64 ((ms.length : Int) - (gd l4 0).i)).toNat).s || (gd (ls.map D.str) (IntKind.wrap .i64 ((ls.length : Int) - (gd l4 0).i)).toNat).s == (gd (ms.map D.str) (IntKind.wrap .i64 ((ms.length : Int) - (gd l4 0).i)).toNat).s)) then
              ou 1 [(.int 1)]
            else
              ou 0 [(.int (IntKind.wrap .i64 ((gd l4 0).i + 1)))]
          else none
          else none
        else
          ou 2 []) fun _ => none) rfl ?_ ?_ ?_
  · rcases key with ⟨hall, hloop⟩ | ⟨k, hk, hpk, hall, hloop⟩
    · refine rn_bind hloop ?_
      have hz : ∀ i (h1 : i < ls.reverse.length) (h2 : i < ms.reverse.length), Lib.compareBytes ls.reverse[i] ms.reverse[i] = 0 := by
        intro i h1 h2
        have h1' : i < ls.length := by simpa using h1
        have h2' : i < ms.length := by simpa using h2
        have := hall i (by simp only [n]; omega)
        simp only [c, beq_iff_eq, getD_lt h1, getD_lt h2] at this
        exact this
      by_cases h1 : ls.length < ms.length
      · have : cmpL ls.reverse ms.reverse = -1 := by
          refine (lexC_short (by simp; omega) hz).trans (if_pos (by simpa using h1))
        rw [this]
        exact rn_if (decide_eq_true (by omega)) rfl
      · refine rn_else (fun h => h1 (by have h' : (ls.length : Int) < ms.length := of_decide_eq_true h; omega)) ?_
        by_cases h2 : ms.length < ls.length
        · have : cmpL ls.reverse ms.reverse = 1 := lexC_long (by simpa using h2) hz
          rw [this]
          exact rn_if (decide_eq_true (by omega)) rfl
        · have : cmpL ls.reverse ms.reverse = 0 := by
            refine (lexC_short (by simp; omega) hz).trans (if_neg (by simp; omega))
          rw [this]
          exact rn_else (fun h => h2 (by have h' : (ls.length : Int) > ms.length := of_decide_eq_true h; omega)) rfl
    · refine rn_bind hloop ?_
      have h1 : k < ls.reverse.length := by simp; omega
      have h2 : k < ms.reverse.length := by simp; omega
      have hne : Lib.compareBytes ls.reverse[k] ms.reverse[k] ≠ 0 := by
        intro h
        simp only [c, getD_lt h1, getD_lt h2, h] at hpk
        simp at hpk
      have : cmpL ls.reverse ms.reverse = Lib.compareBytes ls.reverse[k] ms.reverse[k] := lexC_at h1 h2 (fun i a b hi => by
        have := hall i hi
        simp only [c, beq_iff_eq, getD_lt a, getD_lt b] at this
        exact this) hne
      rw [this]
      simp only [c, getD_lt h1, getD_lt h2]; rfl
  · intro i hi hp
    have hi1 : i < ls.length := by omega
    have hi2 : i < ms.length := by omega
    have hp' : c i = 0 := by simpa using hp
    obtain ⟨b1, b2⟩ := bytesLess_cmp (ls.reverse.getD i []) (ms.reverse.getD i [])
    have he := b2.2 hp'
    have hbl : Op.bytesLess (ls.reverse.getD i []) (ms.reverse.getD i []) = false := by
      cases hq : Op.bytesLess (ls.reverse.getD i []) (ms.reverse.getD i []) with
      | false => rfl
      | true => have := b1.1 hq; simp only [c] at hp'; omega
    have wl : IntKind.wrap .i64 ((ls.length : Int) - ((i + 1 : Nat) : Int)) = ((ls.length - 1 - i : Nat) : Int) := by rw [wrap_id] <;> omega
    have wm : IntKind.wrap .i64 ((ms.length : Int) - ((i + 1 : Nat) : Int)) = ((ms.length - 1 - i : Nat) : Int) := by rw [wrap_id] <;> omega
    have w1 : IntKind.wrap .i64 (((i + 1 : Nat) : Int) + 1) = ((i + 1 + 1 : Nat) : Int) := by rw [wrap_id] <;> omega
    refine out_bind (r := (0, [.bool true])) (out_if (decide_eq_true (by simp; omega)) ?_) (sel0 (out_if rfl ?_))
    · have : decide ((gd [D.int ((i + 1 : Nat) : Int)] 0).i ≤ (ms.length : Int)) = true := decide_eq_true (by simp; omega)
      rw [this]
    · simp only [gd_zero, D.i_int, wl, wm, w1, Int.toNat_natCast, hg ls i hi1, hg ms i hi2]
      refine out_if (inb_nat (by omega)) (out_if (inb_nat (by omega)) (out_else (by rw [hbl]; decide) (out_else ?_ rfl)))
      rw [hbl, he]; simp
  · intro i hi hp
    have hi1 : i < ls.length := by omega
    have hi2 : i < ms.length := by omega
    have hp' : c i ≠ 0 := by simpa using hp
    obtain ⟨b1, b2⟩ := bytesLess_cmp (ls.reverse.getD i []) (ms.reverse.getD i [])
    have wl : IntKind.wrap .i64 ((ls.length : Int) - ((i + 1 : Nat) : Int)) = ((ls.length - 1 - i : Nat) : Int) := by rw [wrap_id] <;> omega
    have wm : IntKind.wrap .i64 ((ms.length : Int) - ((i + 1 : Nat) : Int)) = ((ms.length - 1 - i : Nat) : Int) := by rw [wrap_id] <;> omega
    refine out_bind (r := (0, [.bool true])) (out_if (decide_eq_true (by simp; omega)) ?_) (sel0 (out_if rfl ?_))
    · have : decide ((gd [D.int ((i + 1 : Nat) : Int)] 0).i ≤ (ms.length : Int)) = true := decide_eq_true (by simp; omega)
      rw [this]
    · simp only [gd_zero, D.i_int, wl, wm, Int.toNat_natCast, hg ls i hi1, hg ms i hi2]
      refine out_if (inb_nat (by omega)) (out_if (inb_nat (by omega)) ?_)
      rcases compareBytes_val (ls.reverse.getD i []) (ms.reverse.getD i []) with h | h | h
      · refine out_if (b1.2 h) ?_
        simp only [c, h]
      · exact absurd h hp'
      · have hbl : Op.bytesLess (ls.reverse.getD i []) (ms.reverse.getD i []) = false := by
          cases hq : Op.bytesLess (ls.reverse.getD i []) (ms.reverse.getD i []) with
          | false => rfl
          | true => have := b1.1 hq; omega
        have hne : ls.reverse.getD i [] ≠ ms.reverse.getD i [] := fun e => hp' (b2.1 e)
        refine out_else (by rw [hbl]; decide) (out_if ?_ ?_)
        · rw [hbl]; simpa using hne
        · simp only [c, h]
  · have hd : ¬ (((n + 1 : Nat) : Int) ≤ (ls.length : Int) ∧ ((n + 1 : Nat) : Int) ≤ (ms.length : Int)) := by simp only [n]; omega
    by_cases h1 : ((n + 1 : Nat) : Int) ≤ (ls.length : Int)
    · refine out_bind (r := (0, [.bool false])) (out_if (decide_eq_true h1) ?_) (sel0 (out_else (by simp) rfl))
      have : decide ((gd [D.int ((n + 1 : Nat) : Int)] 0).i ≤ (ms.length : Int)) = false := decide_eq_false (fun h => hd ⟨h1, h⟩)
      rw [this]
    · exact out_bind (r := (0, [.bool false])) (out_else (fun h => h1 (of_decide_eq_true h)) rfl) (sel0 (out_else (by simp) rfl))
theorem f_l1Compare {a b : List UInt8} (ha : a.length ≤ lim) (hb : b.length ≤ lim) : ∃ n : Int, e_spec_l1Compare.F [.str a, .str b] = some (.int n) ∧ (isName a = true → isName b = true → n = cmpN a b) := by
  rw [q_spec_l1Compare]
  obtain ⟨ls, h1, hl1, hp1⟩ := f_l1LabelsX a ha
  obtain ⟨ms, h2, hl2, hp2⟩ := f_l1LabelsX b hb
  refine ⟨cmpL ls.reverse ms.reverse, rn_call h1 (rn_call h2 (f_l1CompareX ls ms (by omega) (by omega) _ _ _ rfl)), fun n1 n2 => ?_⟩
  rw [hp1 n1, hp2 n2]; rfl
end Go.Proofs.YtlflhlgppbbahaaGreatDoor

/-! The bytes of good data: the program and the reference tell the same. -/
namespace Go.Proofs.YtlflhlgppbbahaaGreatDoor
open Go Go.Own

def byteD (n k : Nat) : D := .int (IntKind.wrap .u8 ((n / 2 ^ (8 * k) : Nat) : Int))
def bigL (n : Nat) : Nat → List D
  | 0 => []
  | c + 1 => byteD n c :: bigL n c
theorem bigL_len (n : Nat) : ∀ c, (bigL n c).length = c
  | 0 => rfl
  | c + 1 => by simp [bigL, bigL_len n c]
def bigB (n c : Nat) : List UInt8 := bytesStr (bigL n c)
theorem bigB_len (n c : Nat) : (bigB n c).length = c := by unfold bigB; rw [bytesStr_size, bigL_len]
theorem fdiv_pow (n k : Nat) : (n : Int).fdiv (2 ^ k) = ((n / 2 ^ k : Nat) : Int) := by
  rw [Int.fdiv_eq_ediv_of_nonneg _ (Int.le_of_lt (Int.pow_pos (by decide)))]
  norm_cast
theorem f_bigE {c : Nat} (hc : c ≤ 4) (n : Nat) : e_impl_big.F [.int (n : Int), .int c] = some (.str (bigB n c)) := by
  rw [q_impl_big]
  have w0 : IntKind.wrap .i64 ((c : Int) - 1) = (c : Int) - 1 := by rw [wrap_id] <;> omega
  simp only [D.i_int, w0]
  obtain ⟨l, hl, hloop⟩ := loop_down (f := fun l2 =>
      if (decide ((gd l2 1).i ≥ 0)) then
        if (decide (0 ≤ (IntKind.wrap .i64 (8 * (gd l2 1).i)))) then
        if (appOk 1 (gd l2 0).l ((.int (IntKind.wrap .u8 ((n : Int).fdiv (2 ^ min (IntKind.wrap .i64 (8 * (gd l2 1).i)).toNat (IntKind.bits .i64))))) :: ([] : List D))) then
        ou 0 [(D.lst ((gd l2 0).l ++ ((.int (IntKind.wrap .u8 ((n : Int).fdiv (2 ^ min (IntKind.wrap .i64 (8 * (gd l2 1).i)).toNat (IntKind.bits .i64))))) :: ([] : List D)))), (.int (IntKind.wrap .i64 ((gd l2 1).i - 1)))]
        else none
        else none
      else
        ou 1 [(gd l2 0)]) (l := [.lst [], .int ((c : Int) - 1)]) (fun m (zs : List D) => [.lst zs, .int ((m : Int) - 1)]) (fun m zs => m ≤ 4 ∧ zs ++ bigL n m = bigL n c) (t := 0) (out := fun zs => [.lst zs]) c [] rfl ⟨hc, rfl⟩ (by
    intro m zs hz
    have hzl : zs.length + (m + 1) = c := by have := congrArg List.length hz.2; simpa [bigL_len] using this
    have w1 : IntKind.wrap .i64 (8 * (((m + 1 : Nat) : Int) - 1)) = ((8 * m : Nat) : Int) := by rw [wrap_id] <;> omega
    have w2 : IntKind.wrap .i64 ((((m + 1 : Nat) : Int) - 1) - 1) = (m : Int) - 1 := by rw [wrap_id] <;> omega
    have hb : (D.int (IntKind.wrap .u8 ((n : Int).fdiv (2 ^ min ((8 * m : Nat) : Int).toNat (IntKind.bits .i64))))) = byteD n m := by
      have : min ((8 * m : Nat) : Int).toNat (IntKind.bits .i64) = 8 * m := by
        have : IntKind.bits .i64 = 64 := rfl
        rw [this]; omega
      rw [this, fdiv_pow]; rfl
    refine ⟨zs ++ [byteD n m], out_if (decide_eq_true (by simp)) (out_if ?_ (out_if ?_ ?_)), by omega, by rw [← hz.2]; simp [bigL]⟩
    · simp only [gd_one, D.i_int, w1]; exact decide_eq_true (by omega)
    · simp only [gd_zero, D.l_lst, appOk, List.length_singleton]
      simp [smax_eq]; omega
    · simp only [gd_zero, gd_one, D.i_int, D.l_lst, w1, w2, hb]) (by
    intro zs _
    exact out_else (by simp) rfl)
  have : l = bigL n c := by simpa [bigL] using hl.2
  subst this
  exact rn_bind hloop rfl
theorem f_l3NumberE {c : Nat} (hc : c ≤ 4) (n : Nat) : e_spec_l3Number.F [.int (n : Int), .int c] = some (.str (bigB n c)) := by
  rw [q_spec_l3Number]
  have w0 : IntKind.wrap .i64 ((c : Int) - 1) = (c : Int) - 1 := by rw [wrap_id] <;> omega
  simp only [D.i_int, w0]
  obtain ⟨l, hl, hloop⟩ := loop_down (f := fun l2 =>
      if (decide ((gd l2 2).i ≥ 0)) then
        if (inb (gd l2 2).i (gd l2 1).l.length) then
        if (decide (0 ≤ 8)) then
        ou 0 [(.int ((gd l2 0).i.fdiv (2 ^ min 8 (IntKind.bits .i64)))), (D.lst ((gd l2 1).l.set (gd l2 2).i.toNat (.int (IntKind.wrap .u8 (gd l2 0).i)))), (.int (IntKind.wrap .i64 ((gd l2 2).i - 1)))]
        else none
        else none
      else
        ou 1 [(gd l2 1)]) (l := [.int n, .lst (List.replicate ((c : Int)).toNat (.int 0)), .int ((c : Int) - 1)]) (fun m (z : Int × List D) => [.int z.1, .lst z.2, .int ((m : Int) - 1)]) (fun m z => m ≤ c ∧ z.1 = ((n / 2 ^ (8 * (c - m)) : Nat) : Int) ∧ z.2 = List.replicate m (.int 0) ++ bigL n (c - m)) (t := 0) (out := fun z => [.lst z.2]) c (n, List.replicate c (.int 0)) (by simp) (by simp [bigL]) (by
    rintro m ⟨x, zs⟩ ⟨hm, hx, hz⟩
    simp only at hx hz
    have w2 : IntKind.wrap .i64 ((((m + 1 : Nat) : Int) - 1) - 1) = (m : Int) - 1 := by rw [wrap_id] <;> omega
    have hlen : zs.length = c := by rw [hz]; simp [bigL_len]; omega
    have hcm : c - m = (c - (m + 1)) + 1 := by omega
    refine ⟨(x.fdiv (2 ^ min 8 (IntKind.bits .i64)), zs.set m (.int (IntKind.wrap .u8 x))), out_if (decide_eq_true (by simp)) (out_if ?_ (out_if (by decide) ?_)), by omega, ?_, ?_⟩
    · simp only [gd_two, gd_one, D.i_int, D.l_lst]; exact inb_int (by omega) (by omega)
    · have e : (((m + 1 : Nat) : Int) - 1).toNat = m := by omega
      simp only [gd_zero, gd_one, gd_two, D.i_int, D.l_lst, w2, e]
    · simp only
      rw [hx, show min 8 (IntKind.bits .i64) = 8 from rfl, fdiv_pow, hcm, Nat.div_div_eq_div_mul, ← Nat.pow_add, show 8 * (c - (m + 1)) + 8 = 8 * (c - (m + 1) + 1) by omega]
    · simp only
      rw [hz, hx, hcm, bigL, List.replicate_succ', List.append_assoc, List.set_append_right _ _ (by simp)]
      simp [byteD]) (by
    intro zs _
    exact out_else (by simp) rfl)
  have : l.2 = bigL n c := by simpa using hl.2.2
  refine rn_if ?_ (rn_bind hloop ?_)
  · exact makeOk_nat (by have : lim = 1048576 := rfl; omega) (by decide)
  · rw [this]; rfl

theorem int10_num {s : List UInt8} {m : Int} (hm : m < 10000000000) (h : numOk s m = true) : int10 s = dv s := by
  have h2 := int10_in (s := s) hm
  rw [h] at h2
  simp only [Bool.and_eq_true, decide_eq_true_eq] at h2
  unfold int10 at h2 ⊢
  split
  · rfl
  · rename_i hn; rw [if_neg hn] at h2; omega

/-- the bytes of an address -/
def addrB (ps : List (List UInt8)) : Nat → List UInt8
  | 0 => []
  | i + 1 => addrB ps i ++ bigB (dv (ps.getD i [])) 1
theorem addrB_len (ps : List (List UInt8)) : ∀ i, (addrB ps i).length = i
  | 0 => rfl
  | i + 1 => by simp [addrB, addrB_len ps i, bigB_len]
theorem dataA_J {s : List UInt8} (h : s.length ≤ lim) (hok : addrOk s = true) : ∃ b : List UInt8, e_impl_DataBytes.F [.int 1, .str s] = some (.pair (.str b) (.pair (.bool true) .unit)) ∧ e_spec_l3Bytes.F [.int 1, .str s] = some (.pair (.str b) (.pair (.bool true) .unit)) := by
  have hlim : lim = 1048576 := rfl
  rw [q_impl_DataBytes, q_spec_l3Bytes]
  have hsp := f_split s (by omega)
  have hsp2 := f_l1Split s 46 h
  have hpl := splB_len 46 s
  have hpm := splB_mem 46 s
  unfold addrOk at hok
  generalize splB 46 s = ps at hsp hsp2 hpl hpm hok
  simp only [Bool.and_eq_true, decide_eq_true_eq, List.all_eq_true] at hok
  obtain ⟨hnum, h4⟩ := hok
  have hsm : ps.length ≤ smax := by rw [smax_eq]; omega
  have hlen : (D.lst (ps.map D.str)).l.length = ps.length := by simp
  have hcat : ∀ i, i < ps.length → catOk (addrB ps i) (bigB (dv (ps.getD i [])) 1) = true := fun i hi => by
    unfold catOk; rw [smax_eq, addrB_len, bigB_len]; exact decide_eq_true (by omega)
  refine ⟨addrB ps ps.length, rn_if rfl (rn_call hsp (rn_bind (r := (1, [.str (addrB ps ps.length)])) ?_ rfl)), rn_if rfl (rn_call hsp2 (rn_bind (r := (1, [.str (addrB ps ps.length)])) ?_ ?_))⟩
  · refine loop_for' (f := fAddr ps) (fun i (t : List UInt8) => [.str t, .int i]) ps.length (addrB ps) rfl ?_ (out_else (by simp) rfl)
    intro i hi
    have hpi := hpm _ (List.getElem_mem hi)
    obtain ⟨v, hn, hv⟩ := f_numberIn (s := ps[i]) (m := 255) (by omega) (by decide)
    have hq := hnum _ (List.getElem_mem hi)
    rw [hq] at hn
    have hv' := hv hq
    subst hv'
    have hc := hcat i hi
    rw [getD_lt hi] at hc
    refine (fAddr_step hi hsm _).trans (out_call hn (out_bind (r := (0, [.bool false])) (out_else (by simp) (by simp [h4])) (sel0 (out_else (by simp) (out_call (f_bigE (c := 1) (by omega) _) (out_if hc ?_))))))
    rw [addrB, getD_lt hi]; rfl
  · refine loop_for' (f := gAddr ps) (fun i (t : List UInt8) => [.str t, .int i]) ps.length (addrB ps) rfl ?_ (out_else (by simp) rfl)
    intro i hi
    have hpi := hpm _ (List.getElem_mem hi)
    have hint := f_l1Int (s := ps[i]) (by omega)
    have hq := hnum _ (List.getElem_mem hi)
    have hin := f_l1In (int10 ps[i]) 0 255
    rw [int10_in (by decide), hq] at hin
    have he := int10_num (by decide) hq
    rw [he] at hint hin
    have hc := hcat i hi
    rw [getD_lt hi] at hc
    refine (gAddr_step hi hsm _).trans (out_call hint (out_call hin (out_else (by simp) (out_call (f_l3NumberE (c := 1) (by omega) _) (out_if hc ?_)))))
    rw [addrB, getD_lt hi]; rfl
  · have : ((ps.length : Int) == 4) = true := by rw [h4]; rfl
    simp only [sel2_one, sel2_zero, gd_zero, hlen, this]; rfl

theorem lab_J {s : List UInt8} (h : s.length ≤ lim) (hn : isName s = true) : ∃ b : List UInt8, b.length ≤ 2 * lim ∧ e_impl_labelBytes.F [.str s] = some (.str b) ∧ e_spec_l2Bytes.F [.str s] = some (.str (b ++ [0])) := by
  have hlim : lim = 1048576 := rfl
  rw [q_impl_labelBytes, q_spec_l2Bytes]
  have hl := f_labelsOf s (by omega)
  have hp : (if s.isEmpty then [] else splB 46 s) = parts s := rfl
  rw [hp] at hl
  obtain ⟨ls, hl2, hll, hpt⟩ := f_l1LabelsX s h
  rw [hpt hn] at hl2
  obtain ⟨b, hb, hloop⟩ := lab_loop (ls := parts s) (Nat.le_trans (lens_parts s) (by omega)) (Nat.le_trans (parts_bound s).1 (by omega))
  refine ⟨b, hb, rn_call hl (rn_bind hloop rfl), rn_call hl2 (rn_bind hloop (rn_if (cat_ok (by simp; omega)) ?_))⟩
  simp

theorem data_J {k : Int} {s : List UInt8} (h : s.length ≤ lim) (hok : dataOk k s = true) : ∃ b : List UInt8, e_impl_DataBytes.F [.int k, .str s] = some (.pair (.str b) (.pair (.bool true) .unit)) ∧ e_spec_l3Bytes.F [.int k, .str s] = some (.pair (.str b) (.pair (.bool true) .unit)) := by
  have hlim : lim = 1048576 := rfl
  unfold dataOk at hok
  by_cases k1 : k = 1
  · subst k1; rw [if_pos rfl] at hok; exact dataA_J h hok
  rw [if_neg k1] at hok
  rw [q_impl_DataBytes, q_spec_l3Bytes]
  have e1 : ¬ ((D.int k).i == 1) = true := by simpa using k1
  by_cases k25 : k = 2 ∨ k = 5
  · rw [if_pos k25] at hok
    have ht := f_isTarget h
    have ht2 := f_l3Target h
    rw [hok] at ht ht2
    have hj : (if (D.int k).i == 2 then ou 0 [.bool ((D.int k).i == 2)] else ou 0 [.bool ((D.int k).i == 5)] : Outc) = some (0, [.bool true]) := by
      rcases k25 with rfl | rfl <;> rfl
    have hn : isName s = true := by unfold isTgt at hok; simp only [Bool.and_eq_true] at hok; exact hok.2.1
    obtain ⟨b, hbl, hb1, hb2⟩ := lab_J h hn
    exact ⟨b ++ [0], rn_else e1 (rn_bind0 hj (rn_if rfl (rn_call ht (rn_else (by simp) (rn_call hb1 (rn_if (cat_ok (by simp; omega)) rfl)))))), rn_else e1 (rn_bind0 hj (rn_if rfl (rn_call ht2 (rn_else (by simp) (rn_call hb2 rfl)))))⟩
  rw [if_neg k25] at hok
  have hj : (if (D.int k).i == 2 then ou 0 [.bool ((D.int k).i == 2)] else ou 0 [.bool ((D.int k).i == 5)] : Outc) = some (0, [.bool false]) := by
    have h2 : ¬ k = 2 := fun h => k25 (.inl h)
    have h5 : ¬ k = 5 := fun h => k25 (.inr h)
    simp [h2, h5]
  by_cases k6 : k = 6
  · rw [if_pos k6] at hok; subst k6
    obtain ⟨v, hn, hv⟩ := f_numberIn (s := s) (m := 4294967295) h (by decide)
    have hv' := hv hok
    subst hv'
    rw [hok] at hn
    have hi := f_l1Int h
    have hin := f_l1In (int10 s) 0 4294967295
    rw [int10_in (by decide), hok] at hin
    rw [int10_num (by decide) hok] at hi hin
    exact ⟨bigB (dv s) 4, rn_else e1 (rn_bind0 hj (rn_else (by simp) (rn_if rfl (rn_call hn (rn_else (by simp) (rn_call (f_bigE (c := 4) (by omega) _) rfl)))))), rn_else e1 (rn_bind0 hj (rn_else (by simp) (rn_if rfl (rn_call hi (rn_call (f_l3NumberE (c := 4) (by omega) _) (rn_call hin rfl))))))⟩
  rw [if_neg k6] at hok
  have e6 : ¬ ((D.int k).i == 6) = true := by simpa using k6
  by_cases k15 : k = 15
  · rw [if_pos k15] at hok; subst k15
    have hmx := mx_cut s
    rw [hok] at hmx
    have hc := f_cut h
    have hle := cut_le s [32]
    have hsp := f_l1Split s 32 h
    unfold mxOk at hok
    have h32 : 32 ∈ s := by
      by_cases h0 : 32 ∈ s
      · exact h0
      · rw [splB_none h0] at hok; simp [mxP] at hok
    obtain ⟨a, q, rfl, hp⟩ := mem_cut h32
    rw [cut_some hp] at hc hmx
    have hq32 : 32 ∉ q := by
      intro hq
      have := hmx.symm
      simp only [Bool.and_eq_true] at this
      rw [tgt_space hq] at this
      exact absurd this.2 (by decide)
    rw [splB_cut hp, splB_none hq32] at hsp
    have hmx' := hmx.symm
    simp only [Bool.and_eq_true] at hmx'
    obtain ⟨hna, htq⟩ := hmx'
    have hla : a.length ≤ lim := by simp at h; omega
    have hlq : q.length ≤ lim := by simp at h; omega
    obtain ⟨v, hn, hv⟩ := f_numberIn (s := a) (m := 65535) hla (by decide)
    have hv' := hv hna
    subst hv'
    rw [hna] at hn
    have ht := f_isTarget hlq
    have ht2 := f_l3Target hlq
    rw [htq] at ht ht2
    have hi := f_l1Int (s := a) hla
    have hin := f_l1In (int10 a) 0 65535
    rw [int10_in (by decide), hna] at hin
    rw [int10_num (by decide) hna] at hi hin
    have hnq : isName q = true := by unfold isTgt at htq; simp only [Bool.and_eq_true] at htq; exact htq.2.1
    obtain ⟨b, hbl, hb1, hb2⟩ := lab_J hlq hnq
    have f0 : (cutD (a, q, true)).fld 0 = .str a := rfl
    have f1 : (cutD (a, q, true)).fld 1 = .str q := rfl
    have hbb := bigB_len (dv a) 2
    refine ⟨(bigB (dv a) 2 ++ b) ++ [0], rn_else e1 (rn_bind0 hj (rn_else (by simp) (rn_else e6 (rn_if rfl (rn_call hc ?_))))), rn_else e1 (rn_bind0 hj (rn_else (by simp) (rn_else e6 (rn_if rfl (rn_call hsp (rn_bind0 (l := [.bool false]) (out_else (by simp) (out_if rfl (out_call hi (out_call hin (out_else (by simp) (out_if rfl (out_call ht2 rfl))))))) (rn_else (by simp) (rn_if rfl (rn_call hi (rn_call (f_l3NumberE (c := 2) (by omega) _) (rn_if rfl (rn_call hb2 (rn_if (cat_ok (by simp; omega)) ?_)))))))))))))⟩
    · rw [f0, f1]
      exact rn_call hn (rn_bind0 (l := [.bool false]) (out_else (by simp) (out_call ht rfl)) (rn_else (by simp) (rn_call (f_bigE (c := 2) (by omega) _) (rn_call hb1 (rn_if (cat_ok (by simp only [D.s_str]; omega)) (rn_if (cat_ok (by simp; omega)) rfl))))))
    · simp
  rw [if_neg k15] at hok
  have e15 : ¬ ((D.int k).i == 15) = true := by simpa using k15
  by_cases k16 : k = 16
  · rw [if_pos k16] at hok; subst k16
    have hc := f_containsB (s := s) .unit (Nat.le_trans h lim_smax)
    have hsm := Nat.le_trans h lim_smax
    let q : UInt8 → Bool := fun c => decide (32 ≤ c.toNat) && decide (c.toNat ≤ 126)
    have hb1 := bytesStr_size [.int (IntKind.wrap .u8 (s.length : Int))]
    have hloop := loop_all' (f := fun l3 =>
                  if (decide ((gd l3 0).i < ((D.str s).s.length : Int))) then
                    (if (inb (gd l3 0).i (D.str s).s.length) then
                      if (decide ((byteAt (D.str s).s (gd l3 0).i.toNat : Int) < 32)) then
                        ou 0 [(.bool true)]
                      else
                        ou 0 [(.bool (decide ((byteAt (D.str s).s (gd l3 0).i.toNat : Int) > 126)))]
                      else none).bind fun o4 =>
                    sel2 o4.1 (if (gd o4.2 0).b then
                        ou 1 [(D.str []), (.bool false)]
                      else
                        ou 0 [(.int (IntKind.wrap .i64 ((gd l3 0).i + 1)))]) fun _ => none
                  else
                    ou 2 []) (l := [.int 0]) (fun i => [.int i]) s.length (fun i => q (s.getD i 0)) (t1 := 0) (t2 := 1) (o1 := [.str [], .bool false]) (o2 := []) rfl (by
      intro i hi
      rw [getD_lt hi]
      have hb : byteAt s i = (s[i]).toNat := byteAt_lt hi
      refine out_if (by simpa using hi) (out_bind (r := (0, [.bool !(q s[i])])) (out_if (by simpa using inb_nat hi) ?_) (sel0 ?_))
      · simp only [gd_zero, D.i_int, Int.toNat_natCast, D.s_str, hb, q]
        by_cases hlo : ((s[i]).toNat : Int) < 32
        · have : decide (32 ≤ (s[i]).toNat) = false := by simp; omega
          exact out_if (decide_eq_true hlo) (by rw [this]; rfl)
        · have h1 : decide (32 ≤ (s[i]).toNat) = true := by simp; omega
          refine out_else (fun h => hlo (of_decide_eq_true h)) ?_
          have : decide (((s[i]).toNat : Int) > 126) = !(decide ((s[i]).toNat ≤ 126)) := by
            rw [Bool.eq_iff_iff]; simp; omega
          rw [h1, this]; rfl
      · cases q s[i] with
        | true => simp [wrap_succ hi hsm]
        | false => rfl) (by simp)
    rw [all_allN s q 0] at hloop
    unfold txtOk at hok
    simp only [Bool.and_eq_true, decide_eq_true_eq] at hok
    obtain ⟨h30, hq⟩ := hok
    rw [hq] at hc
    rw [show s.all q = true from hq] at hloop
    have hbb := bigB_len s.length 1
    have he : bytesStr [.int (IntKind.wrap .u8 (s.length : Int))] = bigB s.length 1 := by
      simp [bigB, bigL, byteD]
    refine ⟨bigB s.length 1 ++ s, rn_else e1 (rn_bind0 hj (rn_else (by simp) (rn_else e6 (rn_else e15 (rn_if rfl (rn_bind0 (l := [.bool false]) (out_else (fun h => by have h' : (s.length : Int) > 30 := of_decide_eq_true h; omega) (out_call hc rfl)) (rn_else (by simp) (rn_call (f_bigE (c := 1) (by omega) _) (rn_if (cat_ok (by simp only [D.s_str]; omega)) rfl))))))))), rn_else e1 (rn_bind0 hj (rn_else (by simp) (rn_else e6 (rn_else e15 (rn_if rfl (rn_bind hloop (rn_if (cat_ok ?_) ?_)))))))⟩
    · rw [D.s_str, hb1, List.length_singleton]; omega
    · have : decide ((s.length : Int) ≤ 30) = true := by simp; omega
      rw [D.s_str, this, he]; rfl
  · rw [if_neg k16] at hok; cases hok
/-- the bytes of data, as the program tells them -/
noncomputable def datB (k : Int) (s : List UInt8) : List UInt8 := match e_impl_DataBytes.F [.int k, .str s] with
  | some (.pair (.str b) _) => b
  | _ => []
theorem f_dataE {k : Int} {s : List UInt8} (h : s.length ≤ lim) (hok : dataOk k s = true) : e_impl_DataBytes.F [.int k, .str s] = some (.pair (.str (datB k s)) (.pair (.bool true) .unit)) := by
  obtain ⟨b, h1, _⟩ := data_J h hok
  unfold datB
  rw [h1]
theorem f_l3E {k : Int} {s : List UInt8} (h : s.length ≤ lim) (hok : dataOk k s = true) : e_spec_l3Bytes.F [.int k, .str s] = some (.pair (.str (datB k s)) (.pair (.bool true) .unit)) := by
  obtain ⟨b, h1, h2⟩ := data_J h hok
  unfold datB
  rw [h1]; exact h2
end Go.Proofs.YtlflhlgppbbahaaGreatDoor
