/- What the functions compute, in plain words. -/
import Derived.Test.YtbacjgkmkkphdaaGreatDoorP1
import Derived.Lib.Bytealg
set_option linter.unusedSectionVars false
set_option linter.unusedVariables false
set_option linter.unusedSimpArgs false
namespace Go.Own
open Go
structure Cmp {α : Type} (c : α → α → Int) : Prop where
 refl : ∀ x, c x x = 0
 eq : ∀ x y, c x y = 0 → x = y
 trans : ∀ x y z, c x y ≤ 0 → c y z ≤ 0 → c x z ≤ 0
 anti : ∀ x y, c x y ≤ 0 → c y x ≤ 0 → c x y = 0
def lexC {α : Type} (c : α → α → Int) : List α → List α → Int
 | [], [] => 0
 | [], _ :: _ => -1
 | _ :: _, [] => 1
 | x :: xs, y :: ys => if c x y = 0 then lexC c xs ys else c x y
theorem Cmp.lt {α : Type} {c : α → α → Int} (h : Cmp c) {x y z : α} (h1 : c x y ≤ 0) (h2 : c y z ≤ 0) (h3 : c x y ≠ 0 ∨ c y z ≠ 0) : c x z < 0 := by
 have h4 := h.trans x y z h1 h2
 by_cases h5 : c x z = 0
 ·have e := h.eq x z h5
  subst e
  have := h.anti x y h1 h2
  have := h.anti y x h2 h1
  omega
 ·omega
theorem Cmp.lex {α : Type} {c : α → α → Int} (h : Cmp c) : Cmp (lexC c) where
 refl := by
  intro x
  induction x with
  | nil => rfl
  | cons a x ih => unfold lexC; rw [if_pos (h.refl a)]; exact ih
 eq := by
  intro x
  induction x with
  | nil => intro y hy; cases y with
    | nil => rfl
    | cons b y => simp [lexC] at hy
  | cons a x ih => intro y hy; cases y with
    | nil => simp [lexC] at hy
    | cons b y =>
      unfold lexC at hy
      split at hy
      ·rename_i hab; rw [h.eq a b hab, ih y hy]
      ·rename_i hab; exact absurd hy hab
 trans := by
  intro x
  induction x with
  | nil => intro y z _ _; cases z <;> simp [lexC]
  | cons a x ih =>
    intro y z h1 h2
    cases y with
    | nil => simp [lexC] at h1
    | cons b y =>
      cases z with
      | nil => simp [lexC] at h2
      | cons d z =>
        unfold lexC at h1 h2 ⊢
        by_cases e1 : c a b = 0
        ·have := h.eq a b e1; subst this
         rw [if_pos e1] at h1
         by_cases e2 : c a d = 0
         ·rw [if_pos e2] at h2 ⊢; exact ih y z h1 h2
         ·rw [if_neg e2] at h2 ⊢; exact h2
        ·rw [if_neg e1] at h1
         by_cases e2 : c b d = 0
         ·have := h.eq b d e2; subst this
          rw [if_neg e1]; exact h1
         ·rw [if_neg e2] at h2
          have := h.lt h1 h2 (.inl e1)
          rw [if_neg (by omega)]; omega
 anti := by
  intro x
  induction x with
  | nil => intro y h1 h2; cases y with
    | nil => rfl
    | cons b y => simp [lexC] at h2
  | cons a x ih =>
    intro y h1 h2
    cases y with
    | nil => simp [lexC] at h1
    | cons b y =>
      unfold lexC at h1 h2 ⊢
      by_cases e1 : c a b = 0
      ·have := h.eq a b e1; subst this
       rw [if_pos e1] at h1 h2 ⊢; exact ih y h1 h2
      ·rw [if_neg e1] at h1 ⊢
       by_cases e2 : c b a = 0
       ·have := h.eq b a e2; subst this; exact absurd e2 e1
       ·rw [if_neg e2] at h2; exact h.anti a b h1 h2
def intC (a b : Int) : Int := if a < b then -1 else if b < a then 1 else 0
theorem intC_cmp : Cmp intC where
 refl := by intro x; simp [intC]
 eq := by intro x y; unfold intC; repeat' split
          all_goals omega
 trans := by intro x y z; unfold intC; repeat' split
             all_goals omega
 anti := by intro x y; unfold intC; repeat' split
            all_goals omega
theorem compareBytes_lex : ∀ a b : List UInt8, Lib.compareBytes a b = lexC (fun x y : UInt8 => intC x.toNat y.toNat) a b
 | [], [] => rfl
 | [], _ :: _ => rfl
 | _ :: _, [] => rfl
 | x :: a, y :: b => by
   unfold Lib.compareBytes lexC intC
   have ih := compareBytes_lex a b
   by_cases h1 : x < y
   ·have : (x.toNat : Int) < y.toNat := by have := UInt8.lt_iff_toNat_lt.1 h1; omega
    simp [h1, this]
   ·by_cases h2 : y < x
    ·have : (y.toNat : Int) < x.toNat := by have := UInt8.lt_iff_toNat_lt.1 h2; omega
     have h3 : ¬ (x.toNat : Int) < y.toNat := by omega
     simp [h1, h2, this, h3]
    ·have h3 : ¬ (x.toNat : Int) < y.toNat := fun h => h1 (UInt8.lt_iff_toNat_lt.2 (by omega))
     have h4 : ¬ (y.toNat : Int) < x.toNat := fun h => h2 (UInt8.lt_iff_toNat_lt.2 (by omega))
     rw [if_neg h1, if_neg h2, if_neg h3, if_neg h4, if_pos rfl]
     exact ih
theorem byteC_cmp : Cmp (fun x y : UInt8 => intC x.toNat y.toNat) where
 refl := by intro x; exact intC_cmp.refl _
 eq := by intro x y h; have := intC_cmp.eq _ _ h; exact UInt8.toNat_inj.1 (by omega)
 trans := by intro x y z; exact intC_cmp.trans _ _ _
 anti := by intro x y; exact intC_cmp.anti _ _
theorem cmpBytes : Cmp Lib.compareBytes := by
 have h := byteC_cmp.lex
 have e : Lib.compareBytes = lexC (fun x y : UInt8 => intC x.toNat y.toNat) := by funext a b; exact compareBytes_lex a b
 rw [e]; exact h
def parent : List UInt8 → List UInt8
 | [] => []
 | c :: s => if c = 46 then s else parent s
theorem parent_len : ∀ {s : List UInt8}, s ≠ [] → (parent s).length < s.length
 | [], h => absurd rfl h
 | c :: s, _ => by
   unfold parent
   split
   ·simp
   ·cases s with
    | nil => simp [parent]
    | cons d s => have := parent_len (s := d :: s) (by simp); simp at this ⊢; omega
def bel (a b : List UInt8) : Bool := a == b || (b.isEmpty || (46 :: b).isSuffixOf a)
inductive Up : List UInt8 → List UInt8 → Prop
 | refl (a) : Up a a
 | step {a b} : a ≠ [] → Up (parent a) b → Up a b
theorem Up.len {a b} (h : Up a b) : a = b ∨ b.length < a.length := by
 induction h with
 | refl a => exact .inl rfl
 | step h1 _ ih => have := parent_len h1; rcases ih with rfl | ih <;> right <;> omega
theorem Up.trans {a b c} (h : Up a b) (h2 : Up b c) : Up a c := by
 induction h with
 | refl a => exact h2
 | step h1 _ ih => exact .step h1 (ih h2)
theorem Up.anti {a b} (h : Up a b) (h2 : Up b a) : a = b := by
 rcases h.len with h | h
 ·exact h
 ·rcases h2.len with h3 | h3
  ·exact h3.symm
  ·omega
theorem up_nil : ∀ (n : Nat) (a : List UInt8), a.length ≤ n → Up a []
 | 0, a, h => by cases a with
   | nil => exact .refl _
   | cons => simp at h
 | n + 1, a, h => by
   by_cases h0 : a = []
   ·subst h0; exact .refl _
   ·exact .step h0 (up_nil n _ (by have := parent_len h0; omega))
theorem parent_app : ∀ (x b : List UInt8), (∃ y, parent (x ++ 46 :: b) = y ++ 46 :: b) ∨ parent (x ++ 46 :: b) = b
 | [], b => .inr (by simp [parent])
 | c :: x, b => by
   simp only [List.cons_append]
   unfold parent
   split
   ·exact .inl ⟨x, rfl⟩
   ·exact parent_app x b
theorem up_suffix : ∀ (n : Nat) (x b : List UInt8), x.length ≤ n → Up (x ++ 46 :: b) b
 | n, x, b, h => by
   refine .step (by simp) ?_
   rcases parent_app x b with ⟨y, hy⟩ | hy
   ·rw [hy]
    have hl := parent_len (s := x ++ 46 :: b) (by simp)
    rw [hy] at hl
    simp at hl
    match n with
    | 0 => omega
    | n + 1 => exact up_suffix n y b (by omega)
   ·rw [hy]; exact .refl _
theorem parent_shape : ∀ (s : List UInt8), parent s = [] ∨ ∃ x, s = x ++ 46 :: parent s
 | [] => .inl rfl
 | c :: s => by
   unfold parent
   split
   ·rename_i h; exact .inr ⟨[], by simp [h]⟩
   ·rcases parent_shape s with h | ⟨x, h⟩
    ·exact .inl h
    ·exact .inr ⟨c :: x, by rw [List.cons_append, ← h]⟩
theorem bel_iff {a b : List UInt8} : bel a b = true ↔ Up a b := by
 unfold bel
 simp only [Bool.or_eq_true, beq_iff_eq, List.isEmpty_iff, List.isSuffixOf_iff_suffix]
 constructor
 ·rintro (rfl | rfl | ⟨x, rfl⟩)
  ·exact .refl _
  ·exact up_nil _ _ (Nat.le_refl _)
  ·exact up_suffix _ x b (Nat.le_refl _)
 ·intro h
  induction h with
  | refl a => exact .inl rfl
  | @step a b h1 _ ih =>
    rcases ih with h | h | ⟨x, h⟩
    ·rcases parent_shape a with h2 | ⟨x, h2⟩
     ·exact .inr (.inl (by rw [← h, h2]))
     ·rw [h] at h2; exact .inr (.inr ⟨x, h2.symm⟩)
    ·exact .inr (.inl h)
    ·rcases parent_shape a with h2 | ⟨y, h2⟩
     ·rw [h2] at h; simp at h
     ·rw [← h] at h2; exact .inr (.inr ⟨y ++ 46 :: x, by rw [h2]; simp⟩)
def walkUp (apex : List UInt8) (m : List UInt8 → Bool) : Nat → List UInt8 → Option (List UInt8) → Option (List UInt8)
 | 0, _, o => o
 | n + 1, s, o => if s ≠ apex ∧ bel s apex = true then
    (if s = [] then (if m s then some s else o) else walkUp apex m n (parent s) (if m s then some s else o))
   else o
theorem walk_sound {apex : List UInt8} {m : List UInt8 → Bool} {s0 : List UInt8} : ∀ (n : Nat) (s : List UInt8) (o : Option (List UInt8)), Up s0 s →
 (∀ x, o = some x → m x = true ∧ Up s0 x ∧ x ≠ apex ∧ bel x apex = true) → ∀ x, walkUp apex m n s o = some x → m x = true ∧ Up s0 x ∧ x ≠ apex ∧ bel x apex = true
 | 0, s, o, _, ho, x, hx => ho x hx
 | n + 1, s, o, hs, ho, x, hx => by
   unfold walkUp at hx
   split at hx
   ·rename_i hc
    have ho' : ∀ x, (if m s then some s else o) = some x → m x = true ∧ Up s0 x ∧ x ≠ apex ∧ bel x apex = true := by
     intro x hx
     split at hx
     ·rename_i hm; cases hx; exact ⟨hm, hs, hc.1, hc.2⟩
     ·exact ho x hx
    split at hx
    ·exact ho' x hx
    ·rename_i h0
     exact walk_sound n _ _ (hs.trans (.step h0 (.refl _))) ho' x hx
   ·exact ho x hx
theorem walk_keep {apex : List UInt8} {m : List UInt8 → Bool} {c : List UInt8} : ∀ (n : Nat) (s : List UInt8) (o : Option (List UInt8)), Up c s → (∃ x, o = some x ∧ Up c x) → ∃ x, walkUp apex m n s o = some x ∧ Up c x
 | 0, s, o, _, ho => ho
 | n + 1, s, o, hs, ho => by
   unfold walkUp
   have ho' : ∃ x, (if m s then some s else o) = some x ∧ Up c x := by
    split
    ·exact ⟨s, rfl, hs⟩
    ·exact ho
   split
   ·split
    ·exact ho'
    ·rename_i h0; exact walk_keep n _ _ (hs.trans (.step h0 (.refl _))) ho'
   ·exact ho
theorem walk_hits {apex : List UInt8} {m : List UInt8 → Bool} {c : List UInt8} (hm : m c = true) (hc : c ≠ apex) (hb : bel c apex = true) {s : List UInt8} (h : Up s c) : ∀ (n : Nat) (o : Option (List UInt8)), s.length < n → ∃ x, walkUp apex m n s o = some x ∧ Up c x := by
 induction h with
 | refl a =>
   intro n o hn
   match n, hn with
   | n + 1, hn =>
     unfold walkUp
     rw [if_pos ⟨hc, hb⟩, if_pos hm]
     split
     ·exact ⟨a, rfl, .refl _⟩
     ·rename_i h0; exact walk_keep n _ _ (.step h0 (.refl _)) ⟨a, rfl, .refl _⟩
 | @step a b h1 h2 ih =>
   intro n o hn
   match n, hn with
   | n + 1, hn =>
     have hab : Up a b := .step h1 h2
     have hap : Up a apex := hab.trans (bel_iff.1 hb)
     have hne : a ≠ apex := by
      rintro rfl
      exact hc (Up.anti (bel_iff.1 hb) hab)
     unfold walkUp
     rw [if_pos ⟨hne, bel_iff.2 hap⟩, if_neg h1]
     exact ih hm hc hb n _ (by have := parent_len h1; omega)
end Go.Own
namespace Go.Proofs.YtbacjgkmkkphdaaGreatDoor
open Go Go.Own
theorem gd_map {α : Type} {f : α → D} {xs : List α} {i : Nat} (h : i < xs.length) : gd (xs.map f) i = f xs[i] := by
 rw [gd_lt (by simpa using h)]; simp
theorem bytesLess_cmp : ∀ a b : List UInt8, (Op.bytesLess a b = true ↔ Lib.compareBytes a b = -1) ∧ (a = b ↔ Lib.compareBytes a b = 0)
 | [], [] => by simp [Op.bytesLess, Lib.compareBytes]
 | [], _ :: _ => by simp [Op.bytesLess, Lib.compareBytes]
 | _ :: _, [] => by simp [Op.bytesLess, Lib.compareBytes]
 | a :: x, b :: y => by
   have ih := bytesLess_cmp x y
   unfold Op.bytesLess Lib.compareBytes
   by_cases h1 : a < b
   ·have hne : a ≠ b := by rintro rfl; exact absurd h1 (UInt8.lt_irrefl a)
    simp [h1, hne]
   ·by_cases h2 : b < a
    ·have hne : a ≠ b := by rintro rfl; exact absurd h2 (UInt8.lt_irrefl a)
     simp [h1, h2, hne]
    ·have he : a = b := UInt8.le_antisymm (UInt8.not_lt.1 h2) (UInt8.not_lt.1 h1)
     subst he
     simp only [h1, if_false, decide_false, Bool.false_or, beq_self_eq_true, Bool.true_and, List.cons.injEq, true_and]
     exact ih
theorem compareBytes_val (a b : List UInt8) : Lib.compareBytes a b = -1 ∨ Lib.compareBytes a b = 0 ∨ Lib.compareBytes a b = 1 := by
 induction a generalizing b with
 | nil => cases b <;> simp [Lib.compareBytes]
 | cons x a ih => cases b with
   | nil => simp [Lib.compareBytes]
   | cons y b =>
     unfold Lib.compareBytes
     split
     ·exact .inl rfl
     ·split
      ·exact .inr (.inr rfl)
      ·exact ih b
def swapped (n i : Nat) (xs : List D) : List D := (List.range n).map fun k => if k < i ∨ n - i ≤ k then gd xs (n - 1 - k) else gd xs k
theorem swapped_len {n i : Nat} {xs : List D} : (swapped n i xs).length = n := by simp [swapped]
theorem swapped_get {n i k : Nat} {xs : List D} (h : k < n) : gd (swapped n i xs) k = if k < i ∨ n - i ≤ k then gd xs (n - 1 - k) else gd xs k := by
 rw [gd_lt (by rw [swapped_len]; exact h)]; simp [swapped]
theorem swapped_zero {xs : List D} : swapped xs.length 0 xs = xs := by
 apply List.ext_getElem
 ·simp [swapped]
 ·intro k h1 h2
  simp only [swapped, List.getElem_map, List.getElem_range]
  rw [if_neg (by omega), gd_lt h2]
theorem swapped_last {xs : List D} : swapped xs.length (xs.length / 2) xs = xs.reverse := by
 apply List.ext_getElem
 ·simp [swapped]
 ·intro k h1 h2
  have hk : k < xs.length := by simpa using h2
  simp only [swapped, List.getElem_map, List.getElem_range, List.getElem_reverse]
  split
  ·rw [gd_lt (by omega)]
  ·have : xs.length - 1 - k = k := by omega
   rw [gd_lt hk]; congr 1; omega
theorem swapped_step {xs : List D} {i : Nat} (hi : i < xs.length / 2) : ((swapped xs.length i xs).set i (gd (swapped xs.length i xs) (xs.length - 1 - i))).set (xs.length - 1 - i) (gd (swapped xs.length i xs) i) = swapped xs.length (i + 1) xs := by
 have ha : gd (swapped xs.length i xs) (xs.length - 1 - i) = gd xs (xs.length - 1 - i) := by rw [swapped_get (by omega), if_neg (by omega)]
 have hb : gd (swapped xs.length i xs) i = gd xs i := by rw [swapped_get (by omega), if_neg (by omega)]
 rw [ha, hb]
 apply List.ext_getElem
 ·simp [swapped]
 ·intro k h1 h2
  have hk : k < xs.length := by simpa [swapped] using h2
  simp only [List.getElem_set]
  simp only [swapped, List.getElem_map, List.getElem_range]
  by_cases e1 : xs.length - 1 - i = k
  ·rw [if_pos e1, if_pos (by omega)]; congr 1; omega
  ·rw [if_neg e1]
   by_cases e2 : i = k
   ·rw [if_pos e2, if_pos (by omega)]; congr 1; omega
   ·rw [if_neg e2]
    by_cases e3 : k < i ∨ xs.length - i ≤ k
    ·rw [if_pos e3, if_pos (by omega)]
    ·rw [if_neg e3, if_neg (by omega)]
theorem f_reverse {xs : List D} (hl : xs.length ≤ lim + 1) : e_slices_Reverse_string_string.F [.lst xs] = some (.pair .unit (.pair (.lst xs.reverse) .unit)) := by
 have hlim : lim = 1048576 := rfl
 rw [q_slices_Reverse_string_string]
 have w0 : IntKind.wrap .i64 ((xs.length : Int) - 1) = (xs.length : Int) - 1 := by rw [wrap_id] <;> omega
 refine rn_bind (loop_for' (fun i (zs : List D) => [.lst zs, .int i, .int ((xs.length : Int) - 1 - i)]) (xs.length / 2) (fun i => swapped xs.length i xs) (t := 0) (o := [.lst xs.reverse]) ?_ ?_ ?_) rfl
 ·simp only [swapped_zero, D.l_lst, w0]
  congr 3
  ·simp
 ·intro i hi
  have w1 : IntKind.wrap .i64 ((i : Int) + 1) = ((i + 1 : Nat) : Int) := by rw [wrap_id] <;> omega
  have w2 : IntKind.wrap .i64 ((xs.length : Int) - 1 - i - 1) = (xs.length : Int) - 1 - ((i + 1 : Nat) : Int) := by rw [wrap_id] <;> omega
  have ej : ((xs.length : Int) - 1 - (i : Int)).toNat = xs.length - 1 - i := by omega
  have hj : inb ((xs.length : Int) - 1 - (i : Int)) xs.length = true := inb_int (by omega) (by omega)
  have hst := swapped_step hi
  refine out_if (decide_eq_true (by simp; omega)) (out_if ?_ (out_if ?_ ?_))
  ·simp only [gd_two, gd_zero, D.i_int, D.l_lst, swapped_len]; exact hj
  ·simp only [gd_one, gd_zero, D.i_int, D.l_lst, swapped_len]; exact inb_nat (by omega)
  ·simp only [gd_two, gd_one, gd_zero, D.i_int, D.l_lst, ej, Int.toNat_natCast, hst, w1, w2]
 ·refine out_else (fun h => ?_) ?_
  ·have h' : ((xs.length / 2 : Nat) : Int) < (xs.length : Int) - 1 - ((xs.length / 2 : Nat) : Int) := of_decide_eq_true h
   omega
  ·simp only [gd_zero, swapped_last]
theorem f_cmpString (a b : List UInt8) : e_cmp_Compare_string.F [.str a, .str b] = some (.int (Lib.compareBytes a b)) := by
 have n1 : ∀ s : List UInt8, e_cmp_isNaN_string.F [.str s] = some (.bool false) := fun s => by
  rw [q_cmp_isNaN_string]; simp
 rw [q_cmp_Compare_string]
 refine rn_call (n1 a) (rn_call (n1 b) (rn_else (by simp) (rn_else (by simp) ?_)))
 obtain ⟨h1, h2⟩ := bytesLess_cmp a b
 simp only [D.s_str]
 rcases compareBytes_val a b with h | h | h
 ·rw [h]; exact rn_if (h1.2 h) rfl
 ·have he := h2.2 h
  subst he
  have hl : Op.bytesLess a a = false := by
   cases hq : Op.bytesLess a a with
   | false => rfl
   | true => rw [h1.1 hq] at h; cases h
  rw [h]; exact rn_else (by rw [hl]; decide) (rn_else (by simp) rfl)
 ·have hl : Op.bytesLess a b = false := by
   cases hq : Op.bytesLess a b with
   | false => rfl
   | true => rw [h1.1 hq] at h; cases h
  have hne : a ≠ b := fun e => by rw [h2.1 e] at h; cases h
  rw [h]; exact rn_else (by rw [hl]; decide) (rn_if (by simp [hl, hne]) rfl)
theorem lexC_drop {α : Type} {c : α → α → Int} {xs ys : List α} : ∀ (k : Nat), k ≤ xs.length → k ≤ ys.length → (∀ i (h1 : i < xs.length) (h2 : i < ys.length), i < k → c xs[i] ys[i] = 0) → lexC c xs ys = lexC c (xs.drop k) (ys.drop k)
 | 0, _, _, _ => by simp
 | k + 1, h1, h2, h => by
   rw [lexC_drop k (by omega) (by omega) (fun i a b hi => h i a b (by omega))]
   rw [List.drop_eq_getElem_cons (show k < xs.length by omega), List.drop_eq_getElem_cons (show k < ys.length by omega)]
   rw [lexC, if_pos (h k (by omega) (by omega) (by omega))]
theorem lexC_at {α : Type} {c : α → α → Int} {xs ys : List α} {k : Nat} (h1 : k < xs.length) (h2 : k < ys.length) (h : ∀ i (h1 : i < xs.length) (h2 : i < ys.length), i < k → c xs[i] ys[i] = 0) (hk : c xs[k] ys[k] ≠ 0) : lexC c xs ys = c xs[k] ys[k] := by
 rw [lexC_drop k (by omega) (by omega) h, List.drop_eq_getElem_cons h1, List.drop_eq_getElem_cons h2, lexC, if_neg hk]
theorem lexC_long {α : Type} {c : α → α → Int} {xs ys : List α} (h1 : ys.length < xs.length) (h : ∀ i (h1 : i < xs.length) (h2 : i < ys.length), c xs[i] ys[i] = 0) : lexC c xs ys = 1 := by
 rw [lexC_drop ys.length (by omega) (by omega) (fun i a b _ => h i a b), List.drop_length, List.drop_eq_getElem_cons h1]; rfl
theorem lexC_short {α : Type} {c : α → α → Int} {xs ys : List α} (h1 : xs.length ≤ ys.length) (h : ∀ i (h1 : i < xs.length) (h2 : i < ys.length), c xs[i] ys[i] = 0) : lexC c xs ys = if xs.length < ys.length then -1 else 0 := by
 rw [lexC_drop xs.length (by omega) (by omega) (fun i a b _ => h i a b), List.drop_length]
 by_cases h2 : xs.length < ys.length
 ·rw [List.drop_eq_getElem_cons h2, if_pos h2]; rfl
 ·rw [List.drop_eq_nil_of_le (by omega), if_neg h2]; rfl
def cmpL (xs ys : List (List UInt8)) : Int := lexC Lib.compareBytes xs ys
theorem cmpL_cmp : Cmp cmpL := cmpBytes.lex
theorem f_cmpSlices {xs ys : List (List UInt8)} (hl : xs.length ≤ lim + 1) : e_slices_Compare_string_string.F [.lst (xs.map .str), .lst (ys.map .str)] = some (.int (cmpL xs ys)) := by
 have hsm : xs.length ≤ smax := by rw [smax_eq]; have hlim : lim = 1048576 := rfl; omega
 rw [q_slices_Compare_string_string]
 have hlx : (D.lst (xs.map D.str)).l.length = xs.length := by simp
 have hly : (D.lst (ys.map D.str)).l.length = ys.length := by simp
 rw [hlx, hly]
 have hcmp : ∀ i (h1 : i < xs.length) (h2 : i < ys.length), e_cmp_Compare_string.F [gd (xs.map D.str) i, gd (ys.map D.str) i] = some (.int (Lib.compareBytes xs[i] ys[i])) := fun i h1 h2 => by
  rw [gd_map h1, gd_map h2]; exact f_cmpString _ _
 let p : Nat → Bool := fun i => decide (i < ys.length) && (Lib.compareBytes (xs.getD i []) (ys.getD i []) == 0)
 have hp0 : ∀ i (h1 : i < xs.length), p i = true → ∃ h2 : i < ys.length, Lib.compareBytes xs[i] ys[i] = 0 := by
  intro i h1 h
  simp only [p, Bool.and_eq_true, decide_eq_true_eq, beq_iff_eq] at h
  refine ⟨h.1, ?_⟩
  have := h.2
  rwa [getD_lt h1, getD_lt h.1] at this
 have key := loop_find (l := [.int 0]) (fun i => [.int i]) xs.length p (t1 := 0) (t2 := 1) (o1 := fun i => [.int (if ys.length ≤ i then 1 else Lib.compareBytes (xs.getD i []) (ys.getD i []))]) (o2 := []) (f := fun l2 =>
  if (decide ((gd l2 0).i < (xs.length : Int))) then
   if (inb (gd l2 0).i xs.length) then
   if (decide ((gd l2 0).i ≥ (ys.length : Int))) then
    ou 1 [(.int 1)]
   else
    if (inb (gd l2 0).i ys.length) then
    (e_cmp_Compare_string.F [(gd (D.lst (xs.map D.str)).l (gd l2 0).i.toNat), (gd (D.lst (ys.map D.str)).l (gd l2 0).i.toNat)]).bind fun r3 =>
    if (r3.i != 0) then
     ou 1 [r3]
    else
     ou 0 [(.int (IntKind.wrap .i64 ((gd l2 0).i + 1)))]
    else none
   else none
  else
   ou 2 []) rfl (by
  intro i hi hp
  obtain ⟨h2, hc⟩ := hp0 i hi hp
  have := hcmp i hi h2
  rw [hc] at this
  have hn : ¬ ys.length ≤ i := by omega
  simp [hi, inb_nat hi, inb_nat h2, hn, this, wrap_succ hi hsm]) (by
  intro i hi hp
  by_cases h2 : ys.length ≤ i
  ·simp [hi, inb_nat hi, h2]
  ·have h3 : i < ys.length := by omega
   have := hcmp i hi h3
   have hne : ¬ Lib.compareBytes xs[i] ys[i] = 0 := by
    intro h
    simp only [p, h3, decide_true, Bool.true_and, getD_lt hi, getD_lt h3, h] at hp
    simp at hp
   simp [hi, h3, inb_nat hi, inb_nat h3, h2, this, hne]) (by simp)
 rcases key with ⟨hall, hloop⟩ | ⟨k, hk, hpk, hall, hloop⟩
 ·refine rn_bind hloop ?_
  have hle : xs.length ≤ ys.length := by
   rcases Nat.eq_zero_or_pos xs.length with h | h
   ·omega
   ·have := (hp0 (xs.length - 1) (by omega) (hall _ (by omega))).1; omega
  have hs : cmpL xs ys = if xs.length < ys.length then -1 else 0 := lexC_short hle (fun i h1 h2 => (hp0 i h1 (hall i h1)).2)
  rw [hs]
  by_cases h : xs.length < ys.length
  ·rw [if_pos h]; exact rn_if (decide_eq_true (by omega)) rfl
  ·rw [if_neg h]; exact rn_else (fun h' => h (by have h'' : (xs.length : Int) < ys.length := of_decide_eq_true h'; omega)) rfl
 ·refine rn_bind hloop ?_
  by_cases h2 : ys.length ≤ k
  ·have : cmpL xs ys = 1 := lexC_long (by omega) (fun i h1 h3 => (hp0 i h1 (hall i (by omega))).2)
   simp only [if_pos h2, this]; rfl
  ·have h3 : k < ys.length := by omega
   have hne : Lib.compareBytes xs[k] ys[k] ≠ 0 := by
    intro h
    simp only [p, h3, decide_true, Bool.true_and, getD_lt hk, getD_lt h3, h] at hpk
    simp at hpk
   have : cmpL xs ys = Lib.compareBytes xs[k] ys[k] := lexC_at hk h3 (fun i h1 h4 hi => (hp0 i h1 (hall i hi)).2) hne
   simp only [if_neg h2, this, getD_lt hk, getD_lt h3]; rfl
def cmpN (a b : List UInt8) : Int := cmpL (parts a).reverse (parts b).reverse
theorem f_compareNames {a b : List UInt8} (ha : a.length ≤ lim) (hb : b.length ≤ lim) : e_impl_compareNames.F [.str a, .str b] = some (.int (cmpN a b)) := by
 have hlim : lim = 1048576 := rfl
 rw [q_impl_compareNames]
 have h1 := f_labelsOf a (by omega)
 have h2 := f_labelsOf b (by omega)
 rw [show (if a.isEmpty then [] else splB 46 a) = parts a from rfl] at h1
 rw [show (if b.isEmpty then [] else splB 46 b) = parts b from rfl] at h2
 have hla := (parts_bound a).1
 have hlb := (parts_bound b).1
 refine rn_call h1 (rn_call h2 (rn_call (f_reverse (by simp; omega)) (rn_call (f_reverse (by simp; omega)) ?_)))
 have f0 : ∀ l : List (List UInt8), (D.pair .unit (.pair (.lst (l.map D.str).reverse) .unit)).fld 1 = .lst (l.reverse.map D.str) := fun l => by
  rw [← List.map_reverse]; rfl
 rw [f0, f0]
 exact rn_call (f_cmpSlices (by simp; omega)) rfl
theorem f_l1CompareX (ls ms : List (List UInt8)) (hl : ls.length ≤ lim + 1) (hm : ms.length ≤ lim + 1) (x y : D) (R : Option D) (hR : some (.int (cmpL ls.reverse ms.reverse)) = R) : rn ((loopF (fun l4 =>
 (if (decide ((gd l4 0).i ≤ (((D.pair (.lst (ls.map D.str)) x).fld 0).l.length : Int))) then
     ou 0 [(.bool (decide ((gd l4 0).i ≤ (((D.pair (.lst (ms.map D.str)) y).fld 0).l.length : Int))))]
   else
    ou 0 [(.bool false)]).bind fun o5 =>
 sel2 o5.1 (if (gd o5.2 0).b then
  if (inb (IntKind.wrap .i64 ((((D.pair (.lst (ls.map D.str)) x).fld 0).l.length : Int) - (gd l4 0).i)) ((D.pair (.lst (ls.map D.str)) x).fld 0).l.length) then
  if (inb (IntKind.wrap .i64 ((((D.pair (.lst (ms.map D.str)) y).fld 0).l.length : Int) - (gd l4 0).i)) ((D.pair (.lst (ms.map D.str)) y).fld 0).l.length) then
  if (Op.bytesLess (gd ((D.pair (.lst (ls.map D.str)) x).fld 0).l (IntKind.wrap .i64 ((((D.pair (.lst (ls.map D.str)) x).fld 0).l.length : Int) - (gd l4 0).i)).toNat).s (gd ((D.pair (.lst (ms.map D.str)) y).fld 0).l (IntKind.wrap .i64 ((((D.pair (.lst (ms.map D.str)) y).fld 0).l.length : Int) - (gd l4 0).i)).toNat).s) then
   ou 1 [(.int (-1))]
  else
   if (!(Op.bytesLess (gd ((D.pair (.lst (ls.map D.str)) x).fld 0).l (IntKind.wrap .i64 ((((D.pair (.lst (ls.map D.str)) x).fld 0).l.length : Int) - (gd l4 0).i)).toNat).s (gd ((D.pair (.lst (ms.map D.str)) y).fld 0).l (IntKind.wrap .i64 ((((D.pair (.lst (ms.map D.str)) y).fld 0).l.length : Int) - (gd l4 0).i)).toNat).s || (gd ((D.pair (.lst (ls.map D.str)) x).fld 0).l (IntKind.wrap .i64 ((((D.pair (.lst (ls.map D.str)) x).fld 0).l.length : Int) - (gd l4 0).i)).toNat).s == (gd ((D.pair (.lst (ms.map D.str)) y).fld 0).l (IntKind.wrap .i64 ((((D.pair (.lst (ms.map D.str)) y).fld 0).l.length : Int) - (gd l4 0).i)).toNat).s)) then
    ou 1 [(.int 1)]
   else
    ou 0 [(.int (IntKind.wrap .i64 ((gd l4 0).i + 1)))]
  else none
  else none
  else
   ou 2 []) fun _ => none) [(.int 1)]).bind fun o4 =>
 sel2 o4.1 (ou 0 [(gd o4.2 0)]) fun n2 =>
 sel2 n2 (if (decide ((((D.pair (.lst (ls.map D.str)) x).fld 0).l.length : Int) < (((D.pair (.lst (ms.map D.str)) y).fld 0).l.length : Int))) then
  ou 0 [(.int (-1))]
  else
   if (decide ((((D.pair (.lst (ls.map D.str)) x).fld 0).l.length : Int) > (((D.pair (.lst (ms.map D.str)) y).fld 0).l.length : Int))) then
    ou 0 [(.int 1)]
   else
    ou 0 [(.int 0)]) fun _ => none) = R := by
 have hlim : lim = 1048576 := rfl
 subst hR
 have fx : ((D.pair (.lst (ls.map D.str)) x).fld 0).l = ls.map D.str := rfl
 have fy : ((D.pair (.lst (ms.map D.str)) y).fld 0).l = ms.map D.str := rfl
 rw [fx, fy]
 simp only [List.length_map]
 let n := min ls.length ms.length
 have hn1 : n ≤ ls.length := Nat.min_le_left _ _
 have hn2 : n ≤ ms.length := Nat.min_le_right _ _
 let c : Nat → Int := fun i => Lib.compareBytes (ls.reverse.getD i []) (ms.reverse.getD i [])
 have hg : ∀ (l : List (List UInt8)) i (hi : i < l.length), (gd (l.map D.str) (l.length - 1 - i)).s = l.reverse.getD i [] := by
  intro l i hi
  rw [gd_map (by omega), getD_lt (by simpa using hi) [], List.getElem_reverse]; rfl
 have key := loop_find (l := [.int 1]) (fun i => [.int ((i + 1 : Nat) : Int)]) n (fun i => c i == 0) (t1 := 0) (t2 := 1) (o1 := fun i => [.int (c i)]) (o2 := []) (f := fun l4 =>
  (if (decide ((gd l4 0).i ≤ (ls.length : Int))) then
      ou 0 [(.bool (decide ((gd l4 0).i ≤ (ms.length : Int))))]
    else
     ou 0 [(.bool false)]).bind fun o5 =>
  sel2 o5.1 (if (gd o5.2 0).b then
   if (inb (IntKind.wrap .i64 ((ls.length : Int) - (gd l4 0).i)) ls.length) then
   if (inb (IntKind.wrap .i64 ((ms.length : Int) - (gd l4 0).i)) ms.length) then
   if (Op.bytesLess (gd (ls.map D.str) (IntKind.wrap .i64 ((ls.length : Int) - (gd l4 0).i)).toNat).s (gd (ms.map D.str) (IntKind.wrap .i64 ((ms.length : Int) - (gd l4 0).i)).toNat).s) then
    ou 1 [(.int (-1))]
   else
    if (!(Op.bytesLess (gd (ls.map D.str) (IntKind.wrap .i64 ((ls.length : Int) - (gd l4 0).i)).toNat).s (gd (ms.map D.str) (IntKind.wrap .i64 ((ms.length : Int) - (gd l4 0).i)).toNat).s || (gd (ls.map D.str) (IntKind.wrap .i64 ((ls.length : Int) - (gd l4 0).i)).toNat).s == (gd (ms.map D.str) (IntKind.wrap .i64 ((ms.length : Int) - (gd l4 0).i)).toNat).s)) then
     ou 1 [(.int 1)]
    else
     ou 0 [(.int (IntKind.wrap .i64 ((gd l4 0).i + 1)))]
   else none
   else none
   else
    ou 2 []) fun _ => none) rfl ?_ ?_ ?_
 ·rcases key with ⟨hall, hloop⟩ | ⟨k, hk, hpk, hall, hloop⟩
  ·refine rn_bind hloop ?_
   have hz : ∀ i (h1 : i < ls.reverse.length) (h2 : i < ms.reverse.length), Lib.compareBytes ls.reverse[i] ms.reverse[i] = 0 := by
    intro i h1 h2
    have h1' : i < ls.length := by simpa using h1
    have h2' : i < ms.length := by simpa using h2
    have := hall i (by simp only [n]; omega)
    simp only [c, beq_iff_eq, getD_lt h1, getD_lt h2] at this
    exact this
   by_cases h1 : ls.length < ms.length
   ·have : cmpL ls.reverse ms.reverse = -1 := by
     refine (lexC_short (by simp; omega) hz).trans (if_pos (by simpa using h1))
    rw [this]
    exact rn_if (decide_eq_true (by omega)) rfl
   ·refine rn_else (fun h => h1 (by have h' : (ls.length : Int) < ms.length := of_decide_eq_true h; omega)) ?_
    by_cases h2 : ms.length < ls.length
    ·have : cmpL ls.reverse ms.reverse = 1 := lexC_long (by simpa using h2) hz
     rw [this]
     exact rn_if (decide_eq_true (by omega)) rfl
    ·have : cmpL ls.reverse ms.reverse = 0 := by
      refine (lexC_short (by simp; omega) hz).trans (if_neg (by simp; omega))
     rw [this]
     exact rn_else (fun h => h2 (by have h' : (ls.length : Int) > ms.length := of_decide_eq_true h; omega)) rfl
  ·refine rn_bind hloop ?_
   have h1 : k < ls.reverse.length := by simp; omega
   have h2 : k < ms.reverse.length := by simp; omega
   have hne : Lib.compareBytes ls.reverse[k] ms.reverse[k] ≠ 0 := by
    intro h
    simp only [c, getD_lt h1, getD_lt h2, h] at hpk
    simp at hpk
   have : cmpL ls.reverse ms.reverse = Lib.compareBytes ls.reverse[k] ms.reverse[k] := lexC_at h1 h2 (fun i a b hi => by
    have := hall i hi
    simp only [c, beq_iff_eq, getD_lt a, getD_lt b] at this
    exact this) hne
   rw [this]
   simp only [c, getD_lt h1, getD_lt h2]; rfl
 ·intro i hi hp
  have hi1 : i < ls.length := by omega
  have hi2 : i < ms.length := by omega
  have hp' : c i = 0 := by simpa using hp
  obtain ⟨b1, b2⟩ := bytesLess_cmp (ls.reverse.getD i []) (ms.reverse.getD i [])
  have he := b2.2 hp'
  have hbl : Op.bytesLess (ls.reverse.getD i []) (ms.reverse.getD i []) = false := by
   cases hq : Op.bytesLess (ls.reverse.getD i []) (ms.reverse.getD i []) with
   | false => rfl
   | true => have := b1.1 hq; simp only [c] at hp'; omega
  have wl : IntKind.wrap .i64 ((ls.length : Int) - ((i + 1 : Nat) : Int)) = ((ls.length - 1 - i : Nat) : Int) := by rw [wrap_id] <;> omega
  have wm : IntKind.wrap .i64 ((ms.length : Int) - ((i + 1 : Nat) : Int)) = ((ms.length - 1 - i : Nat) : Int) := by rw [wrap_id] <;> omega
  have w1 : IntKind.wrap .i64 (((i + 1 : Nat) : Int) + 1) = ((i + 1 + 1 : Nat) : Int) := by rw [wrap_id] <;> omega
  refine out_bind (r := (0, [.bool true])) (out_if (decide_eq_true (by simp; omega)) ?_) (sel0 (out_if rfl ?_))
  ·have : decide ((gd [D.int ((i + 1 : Nat) : Int)] 0).i ≤ (ms.length : Int)) = true := decide_eq_true (by simp; omega)
   rw [this]
  ·simp only [gd_zero, D.i_int, wl, wm, w1, Int.toNat_natCast, hg ls i hi1, hg ms i hi2]
   refine out_if (inb_nat (by omega)) (out_if (inb_nat (by omega)) (out_else (by rw [hbl]; decide) (out_else ?_ rfl)))
   rw [hbl, he]; simp
 ·intro i hi hp
  have hi1 : i < ls.length := by omega
  have hi2 : i < ms.length := by omega
  have hp' : c i ≠ 0 := by simpa using hp
  obtain ⟨b1, b2⟩ := bytesLess_cmp (ls.reverse.getD i []) (ms.reverse.getD i [])
  have wl : IntKind.wrap .i64 ((ls.length : Int) - ((i + 1 : Nat) : Int)) = ((ls.length - 1 - i : Nat) : Int) := by rw [wrap_id] <;> omega
  have wm : IntKind.wrap .i64 ((ms.length : Int) - ((i + 1 : Nat) : Int)) = ((ms.length - 1 - i : Nat) : Int) := by rw [wrap_id] <;> omega
  refine out_bind (r := (0, [.bool true])) (out_if (decide_eq_true (by simp; omega)) ?_) (sel0 (out_if rfl ?_))
  ·have : decide ((gd [D.int ((i + 1 : Nat) : Int)] 0).i ≤ (ms.length : Int)) = true := decide_eq_true (by simp; omega)
   rw [this]
  ·simp only [gd_zero, D.i_int, wl, wm, Int.toNat_natCast, hg ls i hi1, hg ms i hi2]
   refine out_if (inb_nat (by omega)) (out_if (inb_nat (by omega)) ?_)
   rcases compareBytes_val (ls.reverse.getD i []) (ms.reverse.getD i []) with h | h | h
   ·refine out_if (b1.2 h) ?_
    simp only [c, h]
   ·exact absurd h hp'
   ·have hbl : Op.bytesLess (ls.reverse.getD i []) (ms.reverse.getD i []) = false := by
     cases hq : Op.bytesLess (ls.reverse.getD i []) (ms.reverse.getD i []) with
     | false => rfl
     | true => have := b1.1 hq; omega
    have hne : ls.reverse.getD i [] ≠ ms.reverse.getD i [] := fun e => hp' (b2.1 e)
    refine out_else (by rw [hbl]; decide) (out_if ?_ ?_)
    ·rw [hbl]; simpa using hne
    ·simp only [c, h]
 ·have hd : ¬ (((n + 1 : Nat) : Int) ≤ (ls.length : Int) ∧ ((n + 1 : Nat) : Int) ≤ (ms.length : Int)) := by simp only [n]; omega
  by_cases h1 : ((n + 1 : Nat) : Int) ≤ (ls.length : Int)
  ·refine out_bind (r := (0, [.bool false])) (out_if (decide_eq_true h1) ?_) (sel0 (out_else (by simp) rfl))
   have : decide ((gd [D.int ((n + 1 : Nat) : Int)] 0).i ≤ (ms.length : Int)) = false := decide_eq_false (fun h => hd ⟨h1, h⟩)
   rw [this]
  ·exact out_bind (r := (0, [.bool false])) (out_else (fun h => h1 (of_decide_eq_true h)) rfl) (sel0 (out_else (by simp) rfl))
theorem f_l1Compare {a b : List UInt8} (ha : a.length ≤ lim) (hb : b.length ≤ lim) : ∃ n : Int, e_spec_l1Compare.F [.str a, .str b] = some (.int n) ∧ (isName a = true → isName b = true → n = cmpN a b) := by
 rw [q_spec_l1Compare]
 obtain ⟨ls, h1, hl1, hp1⟩ := f_l1LabelsX a ha
 obtain ⟨ms, h2, hl2, hp2⟩ := f_l1LabelsX b hb
 refine ⟨cmpL ls.reverse ms.reverse, rn_call h1 (rn_call h2 (f_l1CompareX ls ms (by omega) (by omega) _ _ _ rfl)), fun n1 n2 => ?_⟩
 rw [hp1 n1, hp2 n2]; rfl
end Go.Proofs.YtbacjgkmkkphdaaGreatDoor
namespace Go.Proofs.YtbacjgkmkkphdaaGreatDoor
open Go Go.Own
def byteD (n k : Nat) : D := .int (IntKind.wrap .u8 ((n / 2 ^ (8 * k) : Nat) : Int))
def bigL (n : Nat) : Nat → List D
 | 0 => []
 | c + 1 => byteD n c :: bigL n c
theorem bigL_len (n : Nat) : ∀ c, (bigL n c).length = c
 | 0 => rfl
 | c + 1 => by simp [bigL, bigL_len n c]
def bigB (n c : Nat) : List UInt8 := bytesStr (bigL n c)
theorem bigB_len (n c : Nat) : (bigB n c).length = c := by unfold bigB; rw [bytesStr_size, bigL_len]
theorem fdiv_pow (n k : Nat) : (n : Int).fdiv (2 ^ k) = ((n / 2 ^ k : Nat) : Int) := by
 rw [Int.fdiv_eq_ediv_of_nonneg _ (Int.le_of_lt (Int.pow_pos (by decide)))]
 norm_cast
theorem f_bigE {c : Nat} (hc : c ≤ 4) (n : Nat) : e_impl_big.F [.int (n : Int), .int c] = some (.str (bigB n c)) := by
 rw [q_impl_big]
 have w0 : IntKind.wrap .i64 ((c : Int) - 1) = (c : Int) - 1 := by rw [wrap_id] <;> omega
 simp only [D.i_int, w0]
 obtain ⟨l, hl, hloop⟩ := loop_down (f := fun l2 =>
  if (decide ((gd l2 1).i ≥ 0)) then
   if (decide (0 ≤ (IntKind.wrap .i64 (8 * (gd l2 1).i)))) then
   if (appOk 1 (gd l2 0).l ((.int (IntKind.wrap .u8 ((n : Int).fdiv (2 ^ min (IntKind.wrap .i64 (8 * (gd l2 1).i)).toNat (IntKind.bits .i64))))) :: ([] : List D))) then
   ou 0 [(D.lst ((gd l2 0).l ++ ((.int (IntKind.wrap .u8 ((n : Int).fdiv (2 ^ min (IntKind.wrap .i64 (8 * (gd l2 1).i)).toNat (IntKind.bits .i64))))) :: ([] : List D)))), (.int (IntKind.wrap .i64 ((gd l2 1).i - 1)))]
   else none
   else none
  else
   ou 1 [(gd l2 0)]) (l := [.lst [], .int ((c : Int) - 1)]) (fun m (zs : List D) => [.lst zs, .int ((m : Int) - 1)]) (fun m zs => m ≤ 4 ∧ zs ++ bigL n m = bigL n c) (t := 0) (out := fun zs => [.lst zs]) c [] rfl ⟨hc, rfl⟩ (by
  intro m zs hz
  have hzl : zs.length + (m + 1) = c := by have := congrArg List.length hz.2; simpa [bigL_len] using this
  have w1 : IntKind.wrap .i64 (8 * (((m + 1 : Nat) : Int) - 1)) = ((8 * m : Nat) : Int) := by rw [wrap_id] <;> omega
  have w2 : IntKind.wrap .i64 ((((m + 1 : Nat) : Int) - 1) - 1) = (m : Int) - 1 := by rw [wrap_id] <;> omega
  have hb : (D.int (IntKind.wrap .u8 ((n : Int).fdiv (2 ^ min ((8 * m : Nat) : Int).toNat (IntKind.bits .i64))))) = byteD n m := by
   have : min ((8 * m : Nat) : Int).toNat (IntKind.bits .i64) = 8 * m := by
    have : IntKind.bits .i64 = 64 := rfl
    rw [this]; omega
   rw [this, fdiv_pow]; rfl
  refine ⟨zs ++ [byteD n m], out_if (decide_eq_true (by simp)) (out_if ?_ (out_if ?_ ?_)), by omega, by rw [← hz.2]; simp [bigL]⟩
  ·simp only [gd_one, D.i_int, w1]; exact decide_eq_true (by omega)
  ·simp only [gd_zero, D.l_lst, appOk, List.length_singleton]
   simp [smax_eq]; omega
  ·simp only [gd_zero, gd_one, D.i_int, D.l_lst, w1, w2, hb]) (by
  intro zs _
  exact out_else (by simp) rfl)
 have : l = bigL n c := by simpa [bigL] using hl.2
 subst this
 exact rn_bind hloop rfl
theorem f_l3NumberE {c : Nat} (hc : c ≤ 4) (n : Nat) : e_spec_l3Number.F [.int (n : Int), .int c] = some (.str (bigB n c)) := by
 rw [q_spec_l3Number]
 have w0 : IntKind.wrap .i64 ((c : Int) - 1) = (c : Int) - 1 := by rw [wrap_id] <;> omega
 simp only [D.i_int, w0]
 obtain ⟨l, hl, hloop⟩ := loop_down (f := fun l2 =>
  if (decide ((gd l2 2).i ≥ 0)) then
   if (inb (gd l2 2).i (gd l2 1).l.length) then
   if (decide (0 ≤ 8)) then
   ou 0 [(.int ((gd l2 0).i.fdiv (2 ^ min 8 (IntKind.bits .i64)))), (D.lst ((gd l2 1).l.set (gd l2 2).i.toNat (.int (IntKind.wrap .u8 (gd l2 0).i)))), (.int (IntKind.wrap .i64 ((gd l2 2).i - 1)))]
   else none
   else none
  else
   ou 1 [(gd l2 1)]) (l := [.int n, .lst (List.replicate ((c : Int)).toNat (.int 0)), .int ((c : Int) - 1)]) (fun m (z : Int × List D) => [.int z.1, .lst z.2, .int ((m : Int) - 1)]) (fun m z => m ≤ c ∧ z.1 = ((n / 2 ^ (8 * (c - m)) : Nat) : Int) ∧ z.2 = List.replicate m (.int 0) ++ bigL n (c - m)) (t := 0) (out := fun z => [.lst z.2]) c (n, List.replicate c (.int 0)) (by simp) (by simp [bigL]) (by
  rintro m ⟨x, zs⟩ ⟨hm, hx, hz⟩
  simp only at hx hz
  have w2 : IntKind.wrap .i64 ((((m + 1 : Nat) : Int) - 1) - 1) = (m : Int) - 1 := by rw [wrap_id] <;> omega
  have hlen : zs.length = c := by rw [hz]; simp [bigL_len]; omega
  have hcm : c - m = (c - (m + 1)) + 1 := by omega
  refine ⟨(x.fdiv (2 ^ min 8 (IntKind.bits .i64)), zs.set m (.int (IntKind.wrap .u8 x))), out_if (decide_eq_true (by simp)) (out_if ?_ (out_if (by decide) ?_)), by omega, ?_, ?_⟩
  ·simp only [gd_two, gd_one, D.i_int, D.l_lst]; exact inb_int (by omega) (by omega)
  ·have e : (((m + 1 : Nat) : Int) - 1).toNat = m := by omega
   simp only [gd_zero, gd_one, gd_two, D.i_int, D.l_lst, w2, e]
  ·simp only
   rw [hx, show min 8 (IntKind.bits .i64) = 8 from rfl, fdiv_pow, hcm, Nat.div_div_eq_div_mul, ← Nat.pow_add, show 8 * (c - (m + 1)) + 8 = 8 * (c - (m + 1) + 1) by omega]
  ·simp only
   rw [hz, hx, hcm, bigL, List.replicate_succ', List.append_assoc, List.set_append_right _ _ (by simp)]
   simp [byteD]) (by
  intro zs _
  exact out_else (by simp) rfl)
 have : l.2 = bigL n c := by simpa using hl.2.2
 refine rn_if ?_ (rn_bind hloop ?_)
 ·exact makeOk_nat (by have : lim = 1048576 := rfl; omega) (by decide)
 ·rw [this]; rfl
theorem int10_num {s : List UInt8} {m : Int} (hm : m < 10000000000) (h : numOk s m = true) : int10 s = dv s := by
 have h2 := int10_in (s := s) hm
 rw [h] at h2
 simp only [Bool.and_eq_true, decide_eq_true_eq] at h2
 unfold int10 at h2 ⊢
 split
 ·rfl
 ·rename_i hn; rw [if_neg hn] at h2; omega
def addrB (ps : List (List UInt8)) : Nat → List UInt8
 | 0 => []
 | i + 1 => addrB ps i ++ bigB (dv (ps.getD i [])) 1
theorem addrB_len (ps : List (List UInt8)) : ∀ i, (addrB ps i).length = i
 | 0 => rfl
 | i + 1 => by simp [addrB, addrB_len ps i, bigB_len]
theorem dataA_J {s : List UInt8} (h : s.length ≤ lim) (hok : addrOk s = true) : ∃ b : List UInt8, e_impl_DataBytes.F [.int 1, .str s] = some (.pair (.str b) (.pair (.bool true) .unit)) ∧ e_spec_l3Bytes.F [.int 1, .str s] = some (.pair (.str b) (.pair (.bool true) .unit)) := by
 have hlim : lim = 1048576 := rfl
 rw [q_impl_DataBytes, q_spec_l3Bytes]
 have hsp := f_split s (by omega)
 have hsp2 := f_l1Split s 46 h
 have hpl := splB_len 46 s
 have hpm := splB_mem 46 s
 unfold addrOk at hok
 generalize splB 46 s = ps at hsp hsp2 hpl hpm hok
 simp only [Bool.and_eq_true, decide_eq_true_eq, List.all_eq_true] at hok
 obtain ⟨hnum, h4⟩ := hok
 have hsm : ps.length ≤ smax := by rw [smax_eq]; omega
 have hlen : (D.lst (ps.map D.str)).l.length = ps.length := by simp
 have hcat : ∀ i, i < ps.length → catOk (addrB ps i) (bigB (dv (ps.getD i [])) 1) = true := fun i hi => by
  unfold catOk; rw [smax_eq, addrB_len, bigB_len]; exact decide_eq_true (by omega)
 refine ⟨addrB ps ps.length, rn_if rfl (rn_call hsp (rn_bind (r := (1, [.str (addrB ps ps.length)])) ?_ rfl)), rn_if rfl (rn_call hsp2 (rn_bind (r := (1, [.str (addrB ps ps.length)])) ?_ ?_))⟩
 ·refine loop_for' (f := fAddr ps) (fun i (t : List UInt8) => [.str t, .int i]) ps.length (addrB ps) rfl ?_ (out_else (by simp) rfl)
  intro i hi
  have hpi := hpm _ (List.getElem_mem hi)
  obtain ⟨v, hn, hv⟩ := f_numberIn (s := ps[i]) (m := 255) (by omega) (by decide)
  have hq := hnum _ (List.getElem_mem hi)
  rw [hq] at hn
  have hv' := hv hq
  subst hv'
  have hc := hcat i hi
  rw [getD_lt hi] at hc
  refine (fAddr_step hi hsm _).trans (out_call hn (out_bind (r := (0, [.bool false])) (out_else (by simp) (by simp [h4])) (sel0 (out_else (by simp) (out_call (f_bigE (c := 1) (by omega) _) (out_if hc ?_))))))
  rw [addrB, getD_lt hi]; rfl
 ·refine loop_for' (f := gAddr ps) (fun i (t : List UInt8) => [.str t, .int i]) ps.length (addrB ps) rfl ?_ (out_else (by simp) rfl)
  intro i hi
  have hpi := hpm _ (List.getElem_mem hi)
  have hint := f_l1Int (s := ps[i]) (by omega)
  have hq := hnum _ (List.getElem_mem hi)
  have hin := f_l1In (int10 ps[i]) 0 255
  rw [int10_in (by decide), hq] at hin
  have he := int10_num (by decide) hq
  rw [he] at hint hin
  have hc := hcat i hi
  rw [getD_lt hi] at hc
  refine (gAddr_step hi hsm _).trans (out_call hint (out_call hin (out_else (by simp) (out_call (f_l3NumberE (c := 1) (by omega) _) (out_if hc ?_)))))
  rw [addrB, getD_lt hi]; rfl
 ·have : ((ps.length : Int) == 4) = true := by rw [h4]; rfl
  simp only [sel2_one, sel2_zero, gd_zero, hlen, this]; rfl
theorem lab_J {s : List UInt8} (h : s.length ≤ lim) (hn : isName s = true) : ∃ b : List UInt8, b.length ≤ 2 * lim ∧ e_impl_labelBytes.F [.str s] = some (.str b) ∧ e_spec_l2Bytes.F [.str s] = some (.str (b ++ [0])) := by
 have hlim : lim = 1048576 := rfl
 rw [q_impl_labelBytes, q_spec_l2Bytes]
 have hl := f_labelsOf s (by omega)
 have hp : (if s.isEmpty then [] else splB 46 s) = parts s := rfl
 rw [hp] at hl
 obtain ⟨ls, hl2, hll, hpt⟩ := f_l1LabelsX s h
 rw [hpt hn] at hl2
 obtain ⟨b, hb, hloop⟩ := lab_loop (ls := parts s) (Nat.le_trans (lens_parts s) (by omega)) (Nat.le_trans (parts_bound s).1 (by omega))
 refine ⟨b, hb, rn_call hl (rn_bind hloop rfl), rn_call hl2 (rn_bind hloop (rn_if (cat_ok (by simp; omega)) ?_))⟩
 simp
theorem data_J {k : Int} {s : List UInt8} (h : s.length ≤ lim) (hok : dataOk k s = true) : ∃ b : List UInt8, e_impl_DataBytes.F [.int k, .str s] = some (.pair (.str b) (.pair (.bool true) .unit)) ∧ e_spec_l3Bytes.F [.int k, .str s] = some (.pair (.str b) (.pair (.bool true) .unit)) := by
 have hlim : lim = 1048576 := rfl
 unfold dataOk at hok
 by_cases k1 : k = 1
 ·subst k1; rw [if_pos rfl] at hok; exact dataA_J h hok
 rw [if_neg k1] at hok
 rw [q_impl_DataBytes, q_spec_l3Bytes]
 have e1 : ¬ ((D.int k).i == 1) = true := by simpa using k1
 by_cases k25 : k = 2 ∨ k = 5
 ·rw [if_pos k25] at hok
  have ht := f_isTarget h
  have ht2 := f_l3Target h
  rw [hok] at ht ht2
  have hj : (if (D.int k).i == 2 then ou 0 [.bool ((D.int k).i == 2)] else ou 0 [.bool ((D.int k).i == 5)] : Outc) = some (0, [.bool true]) := by
   rcases k25 with rfl | rfl <;> rfl
  have hn : isName s = true := by unfold isTgt at hok; simp only [Bool.and_eq_true] at hok; exact hok.2.1
  obtain ⟨b, hbl, hb1, hb2⟩ := lab_J h hn
  exact ⟨b ++ [0], rn_else e1 (rn_bind0 hj (rn_if rfl (rn_call ht (rn_else (by simp) (rn_call hb1 (rn_if (cat_ok (by simp; omega)) rfl)))))), rn_else e1 (rn_bind0 hj (rn_if rfl (rn_call ht2 (rn_else (by simp) (rn_call hb2 rfl)))))⟩
 rw [if_neg k25] at hok
 have hj : (if (D.int k).i == 2 then ou 0 [.bool ((D.int k).i == 2)] else ou 0 [.bool ((D.int k).i == 5)] : Outc) = some (0, [.bool false]) := by
  have h2 : ¬ k = 2 := fun h => k25 (.inl h)
  have h5 : ¬ k = 5 := fun h => k25 (.inr h)
  simp [h2, h5]
 by_cases k6 : k = 6
 ·rw [if_pos k6] at hok; subst k6
  obtain ⟨v, hn, hv⟩ := f_numberIn (s := s) (m := 4294967295) h (by decide)
  have hv' := hv hok
  subst hv'
  rw [hok] at hn
  have hi := f_l1Int h
  have hin := f_l1In (int10 s) 0 4294967295
  rw [int10_in (by decide), hok] at hin
  rw [int10_num (by decide) hok] at hi hin
  exact ⟨bigB (dv s) 4, rn_else e1 (rn_bind0 hj (rn_else (by simp) (rn_if rfl (rn_call hn (rn_else (by simp) (rn_call (f_bigE (c := 4) (by omega) _) rfl)))))), rn_else e1 (rn_bind0 hj (rn_else (by simp) (rn_if rfl (rn_call hi (rn_call (f_l3NumberE (c := 4) (by omega) _) (rn_call hin rfl))))))⟩
 rw [if_neg k6] at hok
 have e6 : ¬ ((D.int k).i == 6) = true := by simpa using k6
 by_cases k15 : k = 15
 ·rw [if_pos k15] at hok; subst k15
  have hmx := mx_cut s
  rw [hok] at hmx
  have hc := f_cut h
  have hle := cut_le s [32]
  have hsp := f_l1Split s 32 h
  unfold mxOk at hok
  have h32 : 32 ∈ s := by
   by_cases h0 : 32 ∈ s
   ·exact h0
   ·rw [splB_none h0] at hok; simp [mxP] at hok
  obtain ⟨a, q, rfl, hp⟩ := mem_cut h32
  rw [cut_some hp] at hc hmx
  have hq32 : 32 ∉ q := by
   intro hq
   have := hmx.symm
   simp only [Bool.and_eq_true] at this
   rw [tgt_space hq] at this
   exact absurd this.2 (by decide)
  rw [splB_cut hp, splB_none hq32] at hsp
  have hmx' := hmx.symm
  simp only [Bool.and_eq_true] at hmx'
  obtain ⟨hna, htq⟩ := hmx'
  have hla : a.length ≤ lim := by simp at h; omega
  have hlq : q.length ≤ lim := by simp at h; omega
  obtain ⟨v, hn, hv⟩ := f_numberIn (s := a) (m := 65535) hla (by decide)
  have hv' := hv hna
  subst hv'
  rw [hna] at hn
  have ht := f_isTarget hlq
  have ht2 := f_l3Target hlq
  rw [htq] at ht ht2
  have hi := f_l1Int (s := a) hla
  have hin := f_l1In (int10 a) 0 65535
  rw [int10_in (by decide), hna] at hin
  rw [int10_num (by decide) hna] at hi hin
  have hnq : isName q = true := by unfold isTgt at htq; simp only [Bool.and_eq_true] at htq; exact htq.2.1
  obtain ⟨b, hbl, hb1, hb2⟩ := lab_J hlq hnq
  have f0 : (cutD (a, q, true)).fld 0 = .str a := rfl
  have f1 : (cutD (a, q, true)).fld 1 = .str q := rfl
  have hbb := bigB_len (dv a) 2
  refine ⟨(bigB (dv a) 2 ++ b) ++ [0], rn_else e1 (rn_bind0 hj (rn_else (by simp) (rn_else e6 (rn_if rfl (rn_call hc ?_))))), rn_else e1 (rn_bind0 hj (rn_else (by simp) (rn_else e6 (rn_if rfl (rn_call hsp (rn_bind0 (l := [.bool false]) (out_else (by simp) (out_if rfl (out_call hi (out_call hin (out_else (by simp) (out_if rfl (out_call ht2 rfl))))))) (rn_else (by simp) (rn_if rfl (rn_call hi (rn_call (f_l3NumberE (c := 2) (by omega) _) (rn_if rfl (rn_call hb2 (rn_if (cat_ok (by simp; omega)) ?_)))))))))))))⟩
  ·rw [f0, f1]
   exact rn_call hn (rn_bind0 (l := [.bool false]) (out_else (by simp) (out_call ht rfl)) (rn_else (by simp) (rn_call (f_bigE (c := 2) (by omega) _) (rn_call hb1 (rn_if (cat_ok (by simp only [D.s_str]; omega)) (rn_if (cat_ok (by simp; omega)) rfl))))))
  ·simp
 rw [if_neg k15] at hok
 have e15 : ¬ ((D.int k).i == 15) = true := by simpa using k15
 by_cases k16 : k = 16
 ·rw [if_pos k16] at hok; subst k16
  have hc := f_containsB (s := s) .unit (Nat.le_trans h lim_smax)
  have hsm := Nat.le_trans h lim_smax
  let q : UInt8 → Bool := fun c => decide (32 ≤ c.toNat) && decide (c.toNat ≤ 126)
  have hb1 := bytesStr_size [.int (IntKind.wrap .u8 (s.length : Int))]
  have hloop := loop_all' (f := fun l3 =>
                if (decide ((gd l3 0).i < ((D.str s).s.length : Int))) then
                 (if (inb (gd l3 0).i (D.str s).s.length) then
                   if (decide ((byteAt (D.str s).s (gd l3 0).i.toNat : Int) < 32)) then
                    ou 0 [(.bool true)]
                   else
                    ou 0 [(.bool (decide ((byteAt (D.str s).s (gd l3 0).i.toNat : Int) > 126)))]
                   else none).bind fun o4 =>
                 sel2 o4.1 (if (gd o4.2 0).b then
                  ou 1 [(D.str []), (.bool false)]
                  else
                   ou 0 [(.int (IntKind.wrap .i64 ((gd l3 0).i + 1)))]) fun _ => none
                else
                 ou 2 []) (l := [.int 0]) (fun i => [.int i]) s.length (fun i => q (s.getD i 0)) (t1 := 0) (t2 := 1) (o1 := [.str [], .bool false]) (o2 := []) rfl (by
   intro i hi
   rw [getD_lt hi]
   have hb : byteAt s i = (s[i]).toNat := byteAt_lt hi
   refine out_if (by simpa using hi) (out_bind (r := (0, [.bool !(q s[i])])) (out_if (by simpa using inb_nat hi) ?_) (sel0 ?_))
   ·simp only [gd_zero, D.i_int, Int.toNat_natCast, D.s_str, hb, q]
    by_cases hlo : ((s[i]).toNat : Int) < 32
    ·have : decide (32 ≤ (s[i]).toNat) = false := by simp; omega
     exact out_if (decide_eq_true hlo) (by rw [this]; rfl)
    ·have h1 : decide (32 ≤ (s[i]).toNat) = true := by simp; omega
     refine out_else (fun h => hlo (of_decide_eq_true h)) ?_
     have : decide (((s[i]).toNat : Int) > 126) = !(decide ((s[i]).toNat ≤ 126)) := by
      rw [Bool.eq_iff_iff]; simp; omega
     rw [h1, this]; rfl
   ·cases q s[i] with
    | true => simp [wrap_succ hi hsm]
    | false => rfl) (by simp)
  rw [all_allN s q 0] at hloop
  unfold txtOk at hok
  simp only [Bool.and_eq_true, decide_eq_true_eq] at hok
  obtain ⟨h30, hq⟩ := hok
  rw [hq] at hc
  rw [show s.all q = true from hq] at hloop
  have hbb := bigB_len s.length 1
  have he : bytesStr [.int (IntKind.wrap .u8 (s.length : Int))] = bigB s.length 1 := by
   simp [bigB, bigL, byteD]
  refine ⟨bigB s.length 1 ++ s, rn_else e1 (rn_bind0 hj (rn_else (by simp) (rn_else e6 (rn_else e15 (rn_if rfl (rn_bind0 (l := [.bool false]) (out_else (fun h => by have h' : (s.length : Int) > 30 := of_decide_eq_true h; omega) (out_call hc rfl)) (rn_else (by simp) (rn_call (f_bigE (c := 1) (by omega) _) (rn_if (cat_ok (by simp only [D.s_str]; omega)) rfl))))))))), rn_else e1 (rn_bind0 hj (rn_else (by simp) (rn_else e6 (rn_else e15 (rn_if rfl (rn_bind hloop (rn_if (cat_ok ?_) ?_)))))))⟩
  ·rw [D.s_str, hb1, List.length_singleton]; omega
  ·have : decide ((s.length : Int) ≤ 30) = true := by simp; omega
   rw [D.s_str, this, he]; rfl
 ·rw [if_neg k16] at hok; cases hok
noncomputable def datB (k : Int) (s : List UInt8) : List UInt8 := match e_impl_DataBytes.F [.int k, .str s] with
 | some (.pair (.str b) _) => b
 | _ => []
theorem f_dataE {k : Int} {s : List UInt8} (h : s.length ≤ lim) (hok : dataOk k s = true) : e_impl_DataBytes.F [.int k, .str s] = some (.pair (.str (datB k s)) (.pair (.bool true) .unit)) := by
 obtain ⟨b, h1, _⟩ := data_J h hok
 unfold datB
 rw [h1]
theorem f_l3E {k : Int} {s : List UInt8} (h : s.length ≤ lim) (hok : dataOk k s = true) : e_spec_l3Bytes.F [.int k, .str s] = some (.pair (.str (datB k s)) (.pair (.bool true) .unit)) := by
 obtain ⟨b, h1, h2⟩ := data_J h hok
 unfold datB
 rw [h1]; exact h2
end Go.Proofs.YtbacjgkmkkphdaaGreatDoor
namespace Go.Proofs.YtbacjgkmkkphdaaGreatDoor
open Go Go.Own
theorem f_cmpInt (a b : Int) : e_cmp_Compare_int.F [.int a, .int b] = some (.int (intC a b)) := by
 have n1 : ∀ s : Int, e_cmp_isNaN_int.F [.int s] = some (.bool false) := fun s => by
  rw [q_cmp_isNaN_int]; simp
 rw [q_cmp_Compare_int]
 refine rn_call (n1 a) (rn_call (n1 b) (rn_else (by simp) (rn_else (by simp) ?_)))
 unfold intC
 by_cases h : a < b
 ·rw [if_pos h]; exact rn_if (decide_eq_true h) rfl
 ·rw [if_neg h]
  refine rn_else (fun h' => h (of_decide_eq_true h')) ?_
  by_cases h2 : b < a
  ·rw [if_pos h2]; exact rn_if (decide_eq_true h2) rfl
  ·rw [if_neg h2]; exact rn_else (fun h' => h2 (of_decide_eq_true h')) rfl
def orL : List Int → Int
 | [] => 0
 | x :: xs => if x = 0 then orL xs else x
theorem orL_zero : ∀ {xs : List Int}, (∀ i (h : i < xs.length), xs[i] = 0) → orL xs = 0
 | [], _ => rfl
 | x :: xs, h => by
   have h0 := h 0 (by simp)
   simp only [List.getElem_cons_zero] at h0
   rw [orL, if_pos h0]
   exact orL_zero fun i hi => by have := h (i + 1) (by simp; omega); simpa using this
theorem orL_at : ∀ {xs : List Int} {k : Nat} (hk : k < xs.length), (∀ i (h : i < xs.length), i < k → xs[i] = 0) → xs[k] ≠ 0 → orL xs = xs[k]
 | x :: xs, 0, _, _, hne => by rw [orL, if_neg (by simpa using hne)]; rfl
 | x :: xs, k + 1, hk, h, hne => by
   have h0 := h 0 (by simp) (by omega)
   simp only [List.getElem_cons_zero] at h0
   rw [orL, if_pos h0]
   exact orL_at (xs := xs) (k := k) (by simpa using hk) (fun i hi hik => by have := h (i + 1) (by simp; omega) (by omega); simpa using this) (by simpa using hne)
theorem f_cmpOr {xs : List Int} (hl : xs.length ≤ lim) : e_cmp_Or_int.F [.lst (xs.map .int)] = some (.int (orL xs)) := by
 have hsm := Nat.le_trans hl lim_smax
 rw [q_cmp_Or_int]
 have hlen : (D.lst (xs.map D.int)).l.length = xs.length := by simp
 rw [hlen]
 have key := loop_find (l := [.int 0]) (fun i => [.int i]) xs.length (fun i => xs.getD i 0 == 0) (t1 := 0) (t2 := 1) (o1 := fun i => [.int (xs.getD i 0)]) (o2 := []) (f := fun l1 =>
  if (decide ((gd l1 0).i < (xs.length : Int))) then
   if (inb (gd l1 0).i xs.length) then
   if ((gd (D.lst (xs.map D.int)).l (gd l1 0).i.toNat).i != 0) then
    ou 1 [(gd (D.lst (xs.map D.int)).l (gd l1 0).i.toNat)]
   else
    ou 0 [(.int (IntKind.wrap .i64 ((gd l1 0).i + 1)))]
   else none
  else
   ou 2 []) rfl (by
  intro i hi hp
  rw [getD_lt hi] at hp
  have : xs[i] = 0 := by simpa using hp
  simp [hi, inb_nat hi, gd_map hi, this, wrap_succ hi hsm]) (by
  intro i hi hp
  rw [getD_lt hi] at hp
  have : ¬ xs[i] = 0 := by simpa using hp
  simp [hi, inb_nat hi, gd_map hi, this]) (by simp)
 rcases key with ⟨hall, hloop⟩ | ⟨k, hk, hpk, hall, hloop⟩
 ·refine rn_bind hloop ?_
  rw [orL_zero (fun i hi => by have := hall i hi; rw [getD_lt hi] at this; simpa using this)]; rfl
 ·refine rn_bind hloop ?_
  rw [getD_lt hk] at hpk
  have : orL xs = xs[k] := orL_at hk (fun i hi hik => by have := hall i hik; rw [getD_lt hi] at this; simpa using this) (by simpa using hpk)
  rw [this, getD_lt hk]; rfl
theorem orL2 (x y : Int) : orL [x, y] = if x = 0 then y else x := by
 simp only [orL]; split
 ·split <;> simp_all
 ·rfl
theorem orL3 (x y z : Int) : orL [x, y, z] = if x = 0 then (if y = 0 then z else y) else x := by
 simp only [orL]; split
 ·split
  ·split <;> simp_all
  ·rfl
 ·rfl
def cmpK (a b : Rec) : Int := orL [cmpN a.name b.name, intC a.type b.type]
theorem f_compareKeys {a b : Rec} (ha : a.In lim) (hb : b.In lim) : e_impl_compareKeys.F [a.d, b.d] = some (.int (cmpK a b)) := by
 rw [q_impl_compareKeys]
 exact rn_call (f_compareNames ha.name hb.name) (rn_call (f_cmpInt a.type b.type) (rn_call (f_cmpOr (xs := [cmpN a.name b.name, intC a.type b.type]) (Nat.le_of_ble_eq_true rfl)) rfl))
noncomputable def datX (k : Int) (s : List UInt8) : List UInt8 := if dataOk k s = true then datB k s else []
theorem f_dataBytes {k : Int} {s : List UInt8} (h : s.length ≤ lim) : e_impl_dataBytes.F [.int k, .str s] = some (.str (datX k s)) := by
 rw [q_impl_dataBytes]
 unfold datX
 by_cases hok : dataOk k s = true
 ·rw [if_pos hok]
  exact rn_call (f_dataE h hok) (rn_else (by simp) rfl)
 ·rw [if_neg hok]
  obtain ⟨b, hb⟩ := f_data (k := k) h
  rw [show dataOk k s = false by simpa using hok] at hb
  exact rn_call hb (rn_if rfl rfl)
noncomputable def cmpR (a b : Rec) : Int := orL [cmpK a b, Lib.compareBytes (datX a.type a.data) (datX b.type b.data), intC a.ttl b.ttl]
theorem f_strCompare (a b : List UInt8) : e_strings_Compare.F [.str a, .str b] = some (.int (Lib.compareBytes a b)) := by
 rw [show e_strings_Compare.F = compareF from by unfold e_strings_Compare compareE; rfl]
 rfl
theorem f_compareRecords {a b : Rec} (ha : a.In lim) (hb : b.In lim) : e_impl_compareRecords.F [a.d, b.d] = some (.int (cmpR a b)) := by
 rw [q_impl_compareRecords]
 exact rn_call (f_compareKeys ha hb) (rn_call (f_dataBytes ha.data) (rn_call (f_dataBytes hb.data) (rn_call (f_strCompare _ _) (rn_call (f_cmpInt a.ttl b.ttl) (rn_call (f_cmpOr (xs := [cmpK a b, Lib.compareBytes (datX a.type a.data) (datX b.type b.data), intC a.ttl b.ttl]) (Nat.le_of_ble_eq_true rfl)) rfl)))))
theorem f_l3Less (b : Bool) : e_spec_l3Less.F [.bool b] = some (.int (if b then -1 else 1)) := by
 rw [q_spec_l3Less]; cases b <;> rfl
theorem lessC_int {x y : Int} (h : x ≠ y) : (if decide (x < y) then (-1 : Int) else 1) = intC x y := by
 unfold intC
 by_cases h1 : x < y
 ·simp [h1]
 ·have : y < x := by omega
  simp [h1, this]
theorem lessC_bytes {x y : List UInt8} (h : x ≠ y) : (if Op.bytesLess x y then (-1 : Int) else 1) = Lib.compareBytes x y := by
 obtain ⟨h1, h2⟩ := bytesLess_cmp x y
 rcases compareBytes_val x y with h3 | h3 | h3
 ·rw [if_pos (h1.2 h3), h3]
 ·exact absurd (h2.2 h3) h
 ·rw [if_neg (fun e => by have := h1.1 e; omega), h3]
theorem f_l3Compare {a b : Rec} (ha : a.In lim) (hb : b.In lim) : ∃ n : Int, e_spec_l3Compare.F [a.d, b.d] = some (.int n) ∧ (a.ok = true → b.ok = true → n = cmpR a b) := by
 rw [q_spec_l3Compare]
 have f0 : a.d.fld 0 = .str a.name := rfl
 have f1 : a.d.fld 1 = .int a.type := rfl
 have f2 : a.d.fld 2 = .int a.ttl := rfl
 have f3 : a.d.fld 3 = .str a.data := rfl
 have g0 : b.d.fld 0 = .str b.name := rfl
 have g1 : b.d.fld 1 = .int b.type := rfl
 have g2 : b.d.fld 2 = .int b.ttl := rfl
 have g3 : b.d.fld 3 = .str b.data := rfl
 rw [f0, f1, f2, f3, g0, g1, g2, g3]
 obtain ⟨m, hm, hmE⟩ := f_l1Compare ha.name hb.name
 by_cases hok : a.ok = true ∧ b.ok = true
 ·obtain ⟨oka, okb⟩ := hok
  have ha' := oka
  have hb' := okb
  unfold Rec.ok at ha' hb'
  simp only [Bool.and_eq_true] at ha' hb'
  have hmE' := hmE ha'.2.1 hb'.2.1
  subst hmE'
  have ea : datX a.type a.data = datB a.type a.data := by unfold datX; rw [if_pos ha'.1]
  have eb : datX b.type b.data = datB b.type b.data := by unfold datX; rw [if_pos hb'.1]
  have hK : cmpK a b = if cmpN a.name b.name = 0 then intC a.type b.type else cmpN a.name b.name := orL2 _ _
  have hR : cmpR a b = if cmpK a b = 0 then (if Lib.compareBytes (datB a.type a.data) (datB b.type b.data) = 0 then intC a.ttl b.ttl else Lib.compareBytes (datB a.type a.data) (datB b.type b.data)) else cmpK a b := by
   have := orL3 (cmpK a b) (Lib.compareBytes (datX a.type a.data) (datX b.type b.data)) (intC a.ttl b.ttl)
   rw [ea, eb] at this
   rw [← this, cmpR, ea, eb]
  refine ⟨cmpR a b, rn_call hm ?_, fun _ _ => rfl⟩
  by_cases h1 : cmpN a.name b.name = 0
  ·rw [if_pos h1] at hK
   refine rn_else (by simp [h1]) (rn_call (f_l3E ha.data ha'.1) (rn_call (f_l3E hb.data hb'.1) ?_))
   by_cases h2 : a.type = b.type
   ·have : intC a.type b.type = 0 := by rw [h2]; exact intC_cmp.refl _
    rw [if_pos (hK.trans this)] at hR
    refine rn_else (by simp [h2]) ?_
    by_cases h3 : datB a.type a.data = datB b.type b.data
    ·rw [if_pos ((bytesLess_cmp _ _).2.1 h3)] at hR
     refine rn_else (by simp [h3]) ?_
     rw [hR]
     by_cases h4 : a.ttl = b.ttl
     ·have : intC a.ttl b.ttl = 0 := by rw [h4]; exact intC_cmp.refl _
      rw [this]
      exact rn_else (by simp [h4]) rfl
     ·refine rn_if (by simpa using h4) (rn_call (f_l3Less _) ?_)
      rw [← lessC_int h4]; rfl
    ·have : Lib.compareBytes (datB a.type a.data) (datB b.type b.data) ≠ 0 := fun h => h3 ((bytesLess_cmp _ _).2.2 h)
     rw [if_neg this] at hR
     refine rn_if (by simpa using h3) (rn_call (f_l3Less _) ?_)
     have e1 : ((D.pair (.str (datB a.type a.data)) (.pair (.bool true) .unit)).fld 0).s = datB a.type a.data := rfl
     have e2 : ((D.pair (.str (datB b.type b.data)) (.pair (.bool true) .unit)).fld 0).s = datB b.type b.data := rfl
     rw [e1, e2, lessC_bytes h3, hR]; rfl
   ·have : intC a.type b.type ≠ 0 := fun h => h2 (intC_cmp.eq _ _ h)
    rw [if_neg (by rw [hK]; exact this), hK] at hR
    refine rn_if (by simpa using h2) (rn_call (f_l3Less _) ?_)
    rw [hR, ← lessC_int h2]; rfl
  ·rw [if_neg h1] at hK
   rw [if_neg (by rw [hK]; exact h1), hK] at hR
   rw [hR]
   exact rn_if (by simpa using h1) rfl
 ·have hc : ∀ n : Int, a.ok = true → b.ok = true → n = cmpR a b := fun n h1 h2 => absurd ⟨h1, h2⟩ hok
  obtain ⟨x, hx⟩ := f_l3 (k := a.type) ha.data
  obtain ⟨y, hy⟩ := f_l3 (k := b.type) hb.data
  by_cases h1 : m = 0
  ·by_cases h2 : a.type = b.type
   ·by_cases h3 : x = y
    ·by_cases h4 : a.ttl = b.ttl
     ·exact ⟨0, rn_call hm (rn_else (by simp [h1]) (rn_call hx (rn_call hy (rn_else (by simp [h2]) (rn_else (by rw [h3]; simp) (rn_else (by simp [h4]) rfl)))))), hc _⟩
     ·exact ⟨_, rn_call hm (rn_else (by simp [h1]) (rn_call hx (rn_call hy (rn_else (by simp [h2]) (rn_else (by rw [h3]; simp) (rn_if (by simpa using h4) (rn_call (f_l3Less _) rfl))))))), hc _⟩
    ·exact ⟨_, rn_call hm (rn_else (by simp [h1]) (rn_call hx (rn_call hy (rn_else (by simp [h2]) (rn_if (by simpa using h3) (rn_call (f_l3Less _) rfl)))))), hc _⟩
   ·exact ⟨_, rn_call hm (rn_else (by simp [h1]) (rn_call hx (rn_call hy (rn_if (by simpa using h2) (rn_call (f_l3Less _) rfl))))), hc _⟩
  ·exact ⟨m, rn_call hm (rn_if (by simpa using h1) rfl), hc _⟩
def Rec.nul : Rec := ⟨[], 0, 0, []⟩
theorem gd_rec {xs : List Rec} {i : Nat} (hi : i < xs.length) : gd (xs.map Rec.d) i = xs[i].d := gd_map hi
noncomputable def upAt (xs : List Rec) (i : Nat) : Bool := (xs.getD i Rec.nul).ok && (i == 0 || decide (cmpR (xs.getD (i - 1) Rec.nul) (xs.getD i Rec.nul) < 0))
noncomputable def rising (xs : List Rec) : Bool := allN xs.length (upAt xs)
theorem f_areRising {xs : List Rec} (hl : xs.length ≤ lim) (hx : ∀ x ∈ xs, x.In lim) : e_impl_areRising.F [.lst (xs.map Rec.d)] = some (.bool (rising xs)) := by
 have hsm := Nat.le_trans hl lim_smax
 rw [q_impl_areRising]
 have hlen : (D.lst (xs.map Rec.d)).l.length = xs.length := by simp
 rw [hlen]
 refine rn_bind (loop_all' (fun i => [.int i]) xs.length (upAt xs) (t1 := 0) (t2 := 1) (o1 := []) (o2 := []) rfl ?_ ?_) ?_
 ·intro i hi
  have hg : gd (D.lst (xs.map Rec.d)).l i = xs[i].d := gd_rec hi
  have h1 := f_goodRec (hx _ (List.getElem_mem hi))
  refine out_if (by simpa using hi) (out_if (by simpa using inb_nat hi) ?_)
  have e0 : (gd [D.int (i : Int)] 0).i.toNat = i := by simp
  have e1 : (gd [D.int (i : Int)] 0).i = i := rfl
  rw [e0, e1, hg, wrap_succ hi hsm]
  refine out_bind (r := (0, [.bool !(upAt xs i)])) ?_ ?_
  ·unfold upAt
   rw [getD_lt hi]
   cases hk : xs[i].ok with
   | false => rw [hk] at h1; exact out_call h1 (out_if rfl rfl)
   | true =>
     rw [hk] at h1
     refine out_call h1 (out_else (by simp) ?_)
     by_cases h0 : i = 0
     ·subst h0; exact out_else (by simp) rfl
     ·have w : IntKind.wrap .i64 ((i : Int) - 1) = ((i - 1 : Nat) : Int) := by rw [smax_eq] at hsm; rw [wrap_id] <;> omega
      have hi1 : i - 1 < xs.length := by omega
      have hc := f_compareRecords (hx _ (List.getElem_mem hi1)) (hx _ (List.getElem_mem hi))
      refine out_if (decide_eq_true (by omega)) (out_if (by rw [w]; exact inb_nat hi1) ?_)
      rw [w, Int.toNat_natCast, show (D.lst (xs.map Rec.d)).l = xs.map Rec.d from rfl, gd_rec hi1]
      refine out_call hc ?_
      rw [getD_lt hi1]
      have : decide ((D.int (cmpR xs[i - 1] xs[i])).i ≥ 0) = !(decide (cmpR xs[i - 1] xs[i] < 0)) := by
       rw [Bool.eq_iff_iff]; simp
      rw [this]
      have : (i == 0) = false := by simpa using h0
      rw [this]; simp
  ·cases upAt xs i <;> simp
 ·simp
 ·unfold rising
  cases allN xs.length (upAt xs) <;> simp
theorem f_l6List {xs : List Rec} (hl : xs.length ≤ lim) (hx : ∀ x ∈ xs, x.In lim) : e_spec_l6List.F [.lst (xs.map Rec.d)] = some (.bool (rising xs && decide (xs.length ≤ 40))) := by
 have hsm := Nat.le_trans hl lim_smax
 rw [q_spec_l6List]
 have hlen : (D.lst (xs.map Rec.d)).l.length = xs.length := by simp
 rw [hlen]
 -- what the reference compares
 have hcs : ∀ i, i < xs.length → ∃ n : Int, e_spec_l3Compare.F [(xs.getD (i - 1) Rec.nul).d, (xs.getD i Rec.nul).d] = some (.int n) ∧ ((xs.getD (i - 1) Rec.nul).ok = true → (xs.getD i Rec.nul).ok = true → n = cmpR (xs.getD (i - 1) Rec.nul) (xs.getD i Rec.nul)) := by
  intro i hi
  have hi1 : i - 1 < xs.length := by omega
  rw [getD_lt hi, getD_lt hi1]
  exact f_l3Compare (hx _ (List.getElem_mem hi1)) (hx _ (List.getElem_mem hi))
 let cS : Nat → Int := fun i => match e_spec_l3Compare.F [(xs.getD (i - 1) Rec.nul).d, (xs.getD i Rec.nul).d] with
  | some (.int n) => n
  | _ => 0
 have hcS : ∀ i, i < xs.length → e_spec_l3Compare.F [(xs.getD (i - 1) Rec.nul).d, (xs.getD i Rec.nul).d] = some (.int (cS i)) ∧ ((xs.getD (i - 1) Rec.nul).ok = true → (xs.getD i Rec.nul).ok = true → cS i = cmpR (xs.getD (i - 1) Rec.nul) (xs.getD i Rec.nul)) := by
  intro i hi
  obtain ⟨n, h1, h2⟩ := hcs i hi
  have : cS i = n := by simp only [cS, h1]
  rw [this]; exact ⟨h1, h2⟩
 let up : Nat → Bool := fun i => (xs.getD i Rec.nul).ok && (i == 0 || decide (cS i < 0))
 have hup : allN xs.length up = rising xs := by
  unfold rising
  rw [Bool.eq_iff_iff, allN_true, allN_true]
  constructor
  ·intro h i hi
   have h1 := h i hi
   simp only [up, upAt, Bool.and_eq_true, Bool.or_eq_true, beq_iff_eq, decide_eq_true_eq] at h1 ⊢
   refine ⟨h1.1, h1.2.imp id fun h2 => ?_⟩
   by_cases h0 : i = 0
   ·subst h0
    rw [← (hcS 0 hi).2 h1.1 h1.1]; exact h2
   ·have h3 := h (i - 1) (by omega)
    simp only [up, Bool.and_eq_true] at h3
    rw [← (hcS i hi).2 h3.1 h1.1]; exact h2
  ·intro h i hi
   have h1 := h i hi
   simp only [up, upAt, Bool.and_eq_true, Bool.or_eq_true, beq_iff_eq, decide_eq_true_eq] at h1 ⊢
   refine ⟨h1.1, h1.2.imp id fun h2 => ?_⟩
   by_cases h0 : i = 0
   ·subst h0
    rw [(hcS 0 hi).2 h1.1 h1.1]; exact h2
   ·have h3 := h (i - 1) (by omega)
    simp only [upAt, Bool.and_eq_true] at h3
    rw [(hcS i hi).2 h3.1 h1.1]; exact h2
 refine rn_bind (loop_all' (fun i => [.int i]) xs.length up (t1 := 0) (t2 := 1) (o1 := []) (o2 := []) rfl ?_ ?_) ?_
 ·intro i hi
  have hg : gd (D.lst (xs.map Rec.d)).l i = xs[i].d := gd_rec hi
  have h1 := f_goodRecS (hx _ (List.getElem_mem hi))
  refine out_if (by simpa using hi) (out_if (by simpa using inb_nat hi) ?_)
  have e0 : (gd [D.int (i : Int)] 0).i.toNat = i := by simp
  have e1 : (gd [D.int (i : Int)] 0).i = i := rfl
  rw [e0, e1, hg, wrap_succ hi hsm]
  refine out_bind (r := (0, [.bool !(up i)])) ?_ ?_
  ·simp only [up]
   have hc := (hcS i hi).1
   rw [getD_lt hi] at hc ⊢
   cases hk : xs[i].ok with
   | false => rw [hk] at h1; exact out_call h1 (out_if rfl rfl)
   | true =>
     rw [hk] at h1
     refine out_call h1 (out_else (by simp) ?_)
     by_cases h0 : i = 0
     ·subst h0; exact out_else (by simp) rfl
     ·have w : IntKind.wrap .i64 ((i : Int) - 1) = ((i - 1 : Nat) : Int) := by rw [smax_eq] at hsm; rw [wrap_id] <;> omega
      have hi1 : i - 1 < xs.length := by omega
      rw [getD_lt hi1] at hc
      refine out_if (decide_eq_true (by omega)) (out_if (by rw [w]; exact inb_nat hi1) ?_)
      rw [w, Int.toNat_natCast, show (D.lst (xs.map Rec.d)).l = xs.map Rec.d from rfl, gd_rec hi1]
      refine out_call hc ?_
      have : decide ((D.int (cS i)).i ≥ 0) = !(decide (cS i < 0)) := by
       rw [Bool.eq_iff_iff]; simp
      rw [this]
      have : (i == 0) = false := by simpa using h0
      rw [this]; simp
  ·cases up i <;> simp
 ·simp
 ·rw [hup]
  have : decide ((xs.length : Int) ≤ 40) = decide (xs.length ≤ 40) := by rw [Bool.eq_iff_iff]; simp; omega
  cases rising xs <;> simp [this]
end Go.Proofs.YtbacjgkmkkphdaaGreatDoor
namespace Go.Proofs.YtbacjgkmkkphdaaGreatDoor
open Go Go.Own
theorem idx_gen {α : Type} {f : α → D} {c : D → Option D} {xs : List α} {p : α → Bool} (hl : xs.length ≤ smax) (hc : ∀ x ∈ xs, c (f x) = some (.bool (p x))) :
 ∃ n : Int, rn ((loopF (fun l2 =>
  if (decide ((gd l2 0).i < ((D.lst (xs.map f)).l.length : Int))) then
   if (inb (gd l2 0).i (D.lst (xs.map f)).l.length) then
   (c (gd (D.lst (xs.map f)).l (gd l2 0).i.toNat)).bind fun r3 =>
   if r3.b then
    ou 1 [(gd l2 0)]
   else
    ou 0 [(.int (IntKind.wrap .i64 ((gd l2 0).i + 1)))]
   else none
  else
   ou 2 []) [(.int 0)]).bind fun o2 =>
  sel2 o2.1 (ou 0 [(gd o2.2 0)]) fun n2 =>
  sel2 n2 (ou 0 [(.int (-1))]) fun _ => none) = some (.int n) ∧ decide (n ≥ 0) = xs.any p := by
 have hlen : (D.lst (xs.map f)).l.length = xs.length := by simp
 rw [hlen]
 have key : ∃ r, rn ((loopF (fun l2 =>
  if (decide ((gd l2 0).i < (xs.length : Int))) then
   if (inb (gd l2 0).i xs.length) then
   (c (gd (D.lst (xs.map f)).l (gd l2 0).i.toNat)).bind fun r3 =>
   if r3.b then
    ou 1 [(gd l2 0)]
   else
    ou 0 [(.int (IntKind.wrap .i64 ((gd l2 0).i + 1)))]
   else none
  else
   ou 2 []) [(.int 0)]).bind fun o2 =>
  sel2 o2.1 (ou 0 [(gd o2.2 0)]) fun n2 =>
  sel2 n2 (ou 0 [(.int (-1))]) fun _ => none) = some r ∧ ∃ n : Int, r = .int n ∧ decide (n ≥ 0) = xs.any p := by
  cases xs with
  | nil => exact ⟨_, by rw [loopF_exit (t := 1) (l' := []) (by simp)]; rfl, -1, rfl, rfl⟩
  | cons x0 xs' =>
    refine find_ex (fun i => [.int i]) (x0 :: xs').length (fun i => !(p ((x0 :: xs').getD i x0))) (t1 := 0) (t2 := 1) (o1 := fun i => [.int i]) (o2 := []) rfl ?_ ?_ ?_ ?_ ?_
    ·intro i hi h
     rw [getD_lt hi] at h
     have := hc _ (List.getElem_mem hi)
     rw [show p (x0 :: xs')[i] = false by simpa using h] at this
     refine out_if (decide_eq_true (show (i : Int) < ((x0 :: xs').length : Int) by omega)) (out_if (by simpa using inb_nat hi) ?_)
     have e0 : (gd [D.int (i : Int)] 0).i.toNat = i := by simp
     have e1 : (gd [D.int (i : Int)] 0).i = i := rfl
     rw [e0, e1, wrap_succ hi hl, show (D.lst ((x0 :: xs').map f)).l = (x0 :: xs').map f from rfl, gd_map hi]
     exact out_call this (out_else (by simp) rfl)
    ·intro i hi h
     rw [getD_lt hi] at h
     have := hc _ (List.getElem_mem hi)
     rw [show p (x0 :: xs')[i] = true by simpa using h] at this
     refine out_if (decide_eq_true (show (i : Int) < ((x0 :: xs').length : Int) by omega)) (out_if (by simpa using inb_nat hi) ?_)
     have e0 : (gd [D.int (i : Int)] 0).i.toNat = i := by simp
     rw [e0, show (D.lst ((x0 :: xs').map f)).l = (x0 :: xs').map f from rfl, gd_map hi]
     exact out_call this (out_if rfl rfl)
    ·exact out_else (by simp) rfl
    ·intro hall
     refine ⟨_, rfl, -1, rfl, ?_⟩
     have : (x0 :: xs').any p = false := by
      rw [List.any_eq_false]
      intro x hx
      obtain ⟨i, hi, rfl⟩ := List.getElem_of_mem hx
      have := hall i hi
      rw [getD_lt hi] at this
      simpa using this
     rw [this]; rfl
    ·intro j hj hp' _
     refine ⟨_, rfl, j, rfl, ?_⟩
     rw [getD_lt hj] at hp'
     have : (x0 :: xs').any p = true := by
      rw [List.any_eq_true]
      exact ⟨_, List.getElem_mem hj, by simpa using hp'⟩
     rw [this]; simp
 obtain ⟨r, h1, n, rfl, h2⟩ := key
 exact ⟨n, h1, h2⟩
theorem suf_iff {a l : List UInt8} : (l.isSuffixOf a) = (decide (l.length ≤ a.length) && (a.drop (a.length - l.length) == l)) := by
 rw [Bool.eq_iff_iff, List.isSuffixOf_iff_suffix]
 simp only [Bool.and_eq_true, decide_eq_true_eq, beq_iff_eq]
 constructor
 ·intro h; exact ⟨h.length_le, (List.suffix_iff_eq_drop.1 h).symm⟩
 ·rintro ⟨_, h⟩; rw [← h]; exact List.drop_suffix _ _
theorem f_hasSuffix {a l : List UInt8} (ha : a.length ≤ lim) (hb : l.length ≤ lim + 1) : e_strings_HasSuffix.F [.str a, .str l] = some (.bool (l.isSuffixOf a)) := by
 have hlim : lim = 1048576 := rfl
 rw [q_strings_HasSuffix]
 have : e_internal_stringslite_HasSuffix.F [.str a, .str l] = some (.bool (l.isSuffixOf a)) := by
  rw [q_internal_stringslite_HasSuffix, suf_iff]
  by_cases h : l.length ≤ a.length
  ·have w : IntKind.wrap .i64 ((a.length : Int) - (l.length : Int)) = ((a.length - l.length : Nat) : Int) := by rw [wrap_id] <;> omega
   refine rn_bind0 (out_if (decide_eq_true (by simp; omega)) (out_if ?_ rfl)) ?_
   ·simp only [D.s_str, w, slOk]; simp
   ·simp only [D.s_str, w, Int.toNat_natCast, List.take_length, h, decide_true, Bool.true_and]; rfl
  ·refine rn_bind0 (out_else (fun h' => h ?_) rfl) ?_
   ·have h'' : (a.length : Int) ≥ (l.length : Int) := of_decide_eq_true h'
    omega
   ·simp only [h, decide_false, Bool.false_and]; rfl
 exact rn_call this rfl
theorem f_isBelow {a b : List UInt8} (ha : a.length ≤ lim) (hb : b.length ≤ lim) : e_impl_isBelow.F [.str a, .str b] = some (.bool (bel a b)) := by
 have hlim : lim = 1048576 := rfl
 rw [q_impl_isBelow]
 refine rn_bind0 (l := [.bool (bel a b)]) ?_ rfl
 unfold bel
 simp only [D.s_str]
 by_cases h1 : a = b
 ·exact out_if (by simpa using h1) (by simp [h1])
 ·have e1 : (a == b) = false := by simpa using h1
  refine out_else (by simpa using h1) ?_
  by_cases h2 : b = []
  ·exact out_if (by simpa using h2) (by simp [h2])
  ·have e2 : b.isEmpty = false := by cases b <;> simp_all
   refine out_else (by simpa using h2) (out_if (by simp [catOk, smax_eq]; omega) (out_call (f_hasSuffix (l := [46] ++ b) ha (by simp; omega)) ?_))
   simp [e1, e2]
theorem f_l1Below {a b : List UInt8} (ha : a.length ≤ lim) (hb : b.length ≤ lim) : e_spec_l1Below.F [.str a, .str b] = some (.bool (bel a b)) := by
 have hlim : lim = 1048576 := rfl
 rw [q_spec_l1Below]
 refine rn_bind0 (l := [.bool (bel a b)]) ?_ rfl
 unfold bel
 simp only [D.s_str]
 by_cases h2 : b = []
 ·exact out_if (by simpa using h2) (by simp [h2])
 ·have e2 : b.isEmpty = false := by cases b <;> simp_all
  refine out_else (by simpa using h2) ?_
  by_cases h1 : a = b
  ·exact out_if (by simpa using h1) (by simp [h1])
  ·have e1 : (a == b) = false := by simpa using h1
   refine out_else (by simpa using h1) ?_
   rw [e1, e2, Bool.false_or, Bool.false_or, suf_iff]
   have w : IntKind.wrap .i64 ((a.length : Int) - (b.length : Int)) = (a.length : Int) - (b.length : Int) := by rw [wrap_id] <;> omega
   simp only [w]
   by_cases h : b.length < a.length
   ·have w2 : IntKind.wrap .i64 ((a.length : Int) - (b.length : Int) - 1) = ((a.length - b.length - 1 : Nat) : Int) := by rw [wrap_id] <;> omega
    have en : ((a.length : Int) - (b.length : Int)).toNat = a.length - b.length := by omega
    have hd : a.drop (a.length - b.length - 1) = a[a.length - b.length - 1]'(by omega) :: a.drop (a.length - b.length) := by
     rw [List.drop_eq_getElem_cons (show a.length - b.length - 1 < a.length by omega)]
     congr 2; omega
    have hle : decide ((46 :: b).length ≤ a.length) = true := decide_eq_true (by simp; omega)
    rw [hle, Bool.true_and, show a.length - (46 :: b).length = a.length - b.length - 1 by simp; omega, hd]
    refine out_if (decide_eq_true (by omega)) (out_if (by simp [slOk]; omega) ?_)
    rw [en, Int.toNat_natCast, List.take_length]
    by_cases h3 : a.drop (a.length - b.length) = b
    ·refine out_if (by simpa using h3) (out_if (by rw [w2]; exact inb_nat (by omega)) ?_)
     rw [w2, Int.toNat_natCast, byteAt_lt (show a.length - b.length - 1 < a.length by omega)]
     generalize a[a.length - b.length - 1]'(by omega) = c
     have : ((c.toNat : Int) == 46) = (c :: a.drop (a.length - b.length) == 46 :: b) := by
      rw [Bool.eq_iff_iff]
      simp only [beq_iff_eq, List.cons.injEq, h3, and_true]
      constructor
      ·intro h; exact UInt8.toNat_inj.1 (by show c.toNat = 46; omega)
      ·rintro rfl; rfl
     rw [this]
    ·refine out_else (by simpa using h3) ?_
     have : (a[a.length - b.length - 1]'(by omega) :: a.drop (a.length - b.length) == 46 :: b) = false := by
      simp [h3]
     rw [this]
   ·have hle : decide ((46 :: b).length ≤ a.length) = false := decide_eq_false (by simp; omega)
    rw [hle, Bool.false_and]
    exact out_else (fun h' => by have h'' : (a.length : Int) - (b.length : Int) > 0 := of_decide_eq_true h'; omega) rfl
theorem parent_drop {s : List UInt8} {k : Nat} (hk : k < s.length) (hb : s[k] = 46) (h : ∀ i (hi : i < s.length), i < k → s[i] ≠ 46) : parent s = s.drop (k + 1) := by
 induction s generalizing k with
 | nil => simp at hk
 | cons c s ih =>
   unfold parent
   cases k with
   | zero => rw [if_pos (by simpa using hb)]; rfl
   | succ k =>
     have h0 := h 0 (by simp) (by omega)
     rw [if_neg (by simpa using h0)]
     exact ih (by simpa using hk) (by simpa using hb) (fun i hi hik => by have := h (i + 1) (by simp; omega) (by omega); simpa using this)
theorem parent_none : ∀ {s : List UInt8}, (∀ i (hi : i < s.length), s[i] ≠ 46) → parent s = []
 | [], _ => rfl
 | c :: s, h => by
   unfold parent
   have h0 := h 0 (by simp)
   rw [if_neg (by simpa using h0)]
   exact parent_none fun i hi => by have := h (i + 1) (by simp; omega); simpa using this
theorem f_l1Parent {s : List UInt8} (h : s.length ≤ lim) : e_spec_l1Parent.F [.str s] = some (.str (parent s)) := by
 have hlim : lim = 1048576 := rfl
 have hsm := Nat.le_trans h lim_smax
 rw [q_spec_l1Parent]
 have hp : ∀ i (hi : i < s.length), ((byteAt s i : Int) == 46) = (s[i] == 46) := by
  intro i hi
  rw [byteAt_lt hi, Bool.eq_iff_iff]
  simp only [beq_iff_eq]
  constructor
  ·intro h; exact UInt8.toNat_inj.1 (by show s[i].toNat = 46; omega)
  ·intro h; rw [h]; rfl
 rcases loop_find (l := [.int 0]) (fun i => [.int i]) s.length (fun i => !(s.getD i 0 == 46)) (t1 := 0) (t2 := 1) (o1 := fun k => [.str (s.drop (k + 1))]) (o2 := []) (f := fun l1 =>
  if (decide ((gd l1 0).i < ((D.str s).s.length : Int))) then
   if (inb (gd l1 0).i (D.str s).s.length) then
   if ((byteAt (D.str s).s (gd l1 0).i.toNat : Int) == 46) then
    if (slOk (IntKind.wrap .i64 ((gd l1 0).i + 1)) ((D.str s).s.length : Int) ((D.str s).s.length : Int)) then
    ou 1 [(.str (((D.str s).s.take ((D.str s).s.length : Int).toNat).drop (IntKind.wrap .i64 ((gd l1 0).i + 1)).toNat))]
    else none
   else
    ou 0 [(.int (IntKind.wrap .i64 ((gd l1 0).i + 1)))]
   else none
  else
   ou 2 []) rfl (by
  intro i hi hpi
  rw [getD_lt hi] at hpi
  have := hp i hi
  rw [show (s[i] == 46) = false by simpa using hpi] at this
  refine out_if (by simpa using hi) (out_if (by simpa using inb_nat hi) ?_)
  have e0 : (gd [D.int (i : Int)] 0).i.toNat = i := by simp
  have e1 : (gd [D.int (i : Int)] 0).i = i := rfl
  rw [e0, e1, wrap_succ hi hsm]
  exact out_else (by rw [show (D.str s).s = s from rfl, this]; decide) rfl) (by
  intro i hi hpi
  rw [getD_lt hi] at hpi
  have := hp i hi
  rw [show (s[i] == 46) = true by simpa using hpi] at this
  refine out_if (by simpa using hi) (out_if (by simpa using inb_nat hi) ?_)
  have e0 : (gd [D.int (i : Int)] 0).i.toNat = i := by simp
  have e1 : (gd [D.int (i : Int)] 0).i = i := rfl
  rw [e0, e1, wrap_succ hi hsm, show (D.str s).s = s from rfl]
  refine out_if this (out_if (by simp [slOk]; omega) ?_)
  rw [Int.toNat_natCast, Int.toNat_natCast, List.take_length]) (by
  exact out_else (by simp) rfl) with ⟨hall, hloop⟩ | ⟨k, hk, hpk, hall, hloop⟩
 ·refine rn_bind hloop ?_
  rw [parent_none (fun i hi => by have := hall i hi; rw [getD_lt hi] at this; simpa using this)]; rfl
 ·refine rn_bind hloop ?_
  rw [getD_lt hk] at hpk
  rw [parent_drop hk (by simpa using hpk) (fun i hi hik => by have := hall i hik; rw [getD_lt hi] at this; simpa using this)]; rfl
def isAt (n : List UInt8) (k : Int) (r : Rec) : Bool := r.name == n && (k == 0 || r.type == k)
theorem f_at {xs : List Rec} {n : List UInt8} {k : Int} (hl : xs.length ≤ lim) : e_impl_at.F [.lst (xs.map Rec.d), .str n, .int k] = some (.lst ((xs.filter (isAt n k)).map Rec.d)) := by
 have hlim : lim = 1048576 := rfl
 have hsm := Nat.le_trans hl lim_smax
 rw [q_impl_at]
 have hlen : (D.lst (xs.map Rec.d)).l.length = xs.length := by simp
 rw [hlen]
 refine rn_bind (loop_for' (fun i (zs : List Rec) => [.lst (zs.map Rec.d), .int i]) xs.length (fun i => (xs.take i).filter (isAt n k)) (t := 0) (o := [.lst ((xs.filter (isAt n k)).map Rec.d)]) (by simp) ?_ ?_) rfl
 ·intro i hi
  have hg : gd (D.lst (xs.map Rec.d)).l i = xs[i].d := gd_rec hi
  have e0 : (gd [D.lst (((xs.take i).filter (isAt n k)).map Rec.d), D.int (i : Int)] 1).i.toNat = i := by simp
  have e1 : (gd [D.lst (((xs.take i).filter (isAt n k)).map Rec.d), D.int (i : Int)] 1).i = i := rfl
  have e2 : (gd [D.lst (((xs.take i).filter (isAt n k)).map Rec.d), D.int (i : Int)] 0) = D.lst (((xs.take i).filter (isAt n k)).map Rec.d) := rfl
  have g0 : (xs[i].d.fld 0).s = xs[i].name := rfl
  have g1 : (xs[i].d.fld 1).i = xs[i].type := rfl
  have hfl : ((xs.take i).filter (isAt n k)).length ≤ i := by
   have := List.length_filter_le (isAt n k) (xs.take i); simp at this; omega
  rw [e0, e1, e2, hg, g0, g1, wrap_succ hi hsm]
  refine out_if (by simpa using hi) (out_bind (r := (0, [.lst (((xs.take (i + 1)).filter (isAt n k)).map Rec.d)])) (out_if (by simpa using inb_nat hi) (out_bind (r := (0, [.bool (isAt n k xs[i])])) ?_ (sel0 ?_))) (sel0 rfl))
  ·unfold isAt
   simp only [D.s_str, D.i_int]
   by_cases h1 : xs[i].name = n
   ·refine out_if (by simpa using h1) ?_
    by_cases h2 : k = 0
    ·exact out_if (by simpa using h2) (by simp [h1, h2])
    ·exact out_else (by simpa using h2) (by simp [h1, h2])
   ·exact out_else (by simpa using h1) (by simp [h1])
  ·rw [List.take_succ_eq_append_getElem hi, List.filter_append]
   cases hq : isAt n k xs[i] with
   | false => exact out_else (by simp) (by simp [List.filter_cons, hq])
   | true =>
     refine out_if rfl (out_if ?_ (by simp [List.filter_cons, hq]))
     simp only [D.l_lst, appOk, List.length_map, List.length_singleton, smax_eq, Bool.and_eq_true, decide_eq_true_eq]
     omega
 ·have h1 : xs.take xs.length = xs := List.take_length
  exact out_else (by simp) (by simp [h1])
def hasAt (xs : List Rec) (n : List UInt8) (k : Int) : Bool := xs.any fun r => r.name == n && r.type == k
theorem f_l6Has {xs : List Rec} {n : List UInt8} {k : Int} (hl : xs.length ≤ lim) : e_spec_l6Has.F [.lst (xs.map Rec.d), .str n, .int k] = some (.bool (hasAt xs n k)) := by
 have hsm := Nat.le_trans hl lim_smax
 rw [q_spec_l6Has]
 have hlen : (D.lst (xs.map Rec.d)).l.length = xs.length := by simp
 rw [hlen]
 refine rn_bind (loop_all' (fun i => [.int i]) xs.length (fun i => !((xs.getD i Rec.nul).name == n && (xs.getD i Rec.nul).type == k)) (t1 := 0) (t2 := 1) (o1 := [.bool true]) (o2 := []) rfl ?_ ?_) ?_
 ·intro i hi
  rw [getD_lt hi]
  have hg : gd (D.lst (xs.map Rec.d)).l i = xs[i].d := gd_rec hi
  have e0 : (gd [D.int (i : Int)] 0).i.toNat = i := by simp
  have e1 : (gd [D.int (i : Int)] 0).i = i := rfl
  have g0 : (xs[i].d.fld 0).s = xs[i].name := rfl
  have g1 : (xs[i].d.fld 1).i = xs[i].type := rfl
  rw [e0, e1, hg, g0, g1, wrap_succ hi hsm]
  refine out_if (by simpa using hi) (out_if (by simpa using inb_nat hi) (out_bind (r := (0, [.bool (xs[i].name == n && xs[i].type == k)])) ?_ ?_))
  ·by_cases h1 : xs[i].name = n
   ·exact out_if (by simpa using h1) (by simp [h1])
   ·exact out_else (by simpa using h1) (by simp [h1])
  ·cases (xs[i].name == n && xs[i].type == k) <;> simp
 ·simp
 ·have : allN xs.length (fun i => !((xs.getD i Rec.nul).name == n && (xs.getD i Rec.nul).type == k)) = !(hasAt xs n k) := by
   rw [all_allN xs (fun r => !(r.name == n && r.type == k)) Rec.nul]
   unfold hasAt
   rw [← List.not_any_eq_all_not]
  rw [this]
  cases hasAt xs n k <;> simp
def cutOf (apex : List UInt8) (xs : List Rec) (s : List UInt8) : Option (List UInt8) := walkUp apex (fun n => hasAt xs n 2) (s.length + 1) s none
def cutDt : Option (List UInt8) → D × D
 | none => (.str [], .bool false)
 | some s => (.str s, .bool true)
theorem f_l6Cut {apex : List UInt8} {xs : List Rec} {s : List UInt8} (ha : apex.length ≤ lim) (hl : xs.length ≤ lim) (hs : s.length ≤ lim) : e_spec_l6Cut.F [.str apex, .lst (xs.map Rec.d), .str s] = some (.pair (cutDt (cutOf apex xs s)).1 (.pair (cutDt (cutOf apex xs s)).2 .unit)) := by
 rw [q_spec_l6Cut]
 have key : ∀ (n : Nat) (s : List UInt8) (o : Option (List UInt8)), s.length < n → s.length ≤ lim → loopF (fun l3 =>
  (if (!((gd l3 0).s == (D.str apex).s)) then
      (e_spec_l1Below.F [(gd l3 0), (.str apex)]).bind fun r6 =>
      ou 0 [r6]
    else
     ou 0 [(.bool false)]).bind fun o6 =>
  sel2 o6.1 (if (gd o6.2 0).b then
   ((e_spec_l6Has.F [(.lst (xs.map Rec.d)), (gd l3 0), (.int 2)]).bind fun r7 =>
     if r7.b then
      ou 0 [(gd l3 0), (.bool true)]
     else
      ou 0 [(gd l3 1), (gd l3 2)]).bind fun o7 =>
   sel2 o7.1 (if ((gd l3 0).s == ([] : List UInt8)) then
    ou 1 [(gd o7.2 0), (gd o7.2 1)]
    else
     (e_spec_l1Parent.F [(gd l3 0)]).bind fun r9 =>
     ou 0 [r9, (gd o7.2 0), (gd o7.2 1)]) fun _ => none
   else
    ou 1 [(gd l3 1), (gd l3 2)]) fun _ => none) [.str s, (cutDt o).1, (cutDt o).2] = some (0, [(cutDt (walkUp apex (fun n => hasAt xs n 2) n s o)).1, (cutDt (walkUp apex (fun n => hasAt xs n 2) n s o)).2]) := by
  intro n
  induction n with
  | zero => intro s o h; omega
  | succ n ih =>
    intro s o h hs
    unfold walkUp
    have hb := f_l1Below hs ha
    have hh := f_l6Has (xs := xs) (n := s) (k := 2) hl
    have e0 : gd [D.str s, (cutDt o).1, (cutDt o).2] 0 = .str s := rfl
    have hj : (s ≠ apex ∧ bel s apex = true) ↔ (!(s == apex) && bel s apex) = true := by simp
    by_cases hc : s ≠ apex ∧ bel s apex = true
    ·rw [if_pos hc]
     have h1 : (if (!((D.str s).s == (D.str apex).s)) = true then (e_spec_l1Below.F [(D.str s), (.str apex)]).bind fun r6 => ou 0 [r6] else ou 0 [(.bool false)] : Outc) = some (0, [.bool true]) := by
      rw [hc.2] at hb
      exact out_if (by simpa using hc.1) (out_call hb rfl)
     have h2 : ((e_spec_l6Has.F [(.lst (xs.map Rec.d)), (D.str s), (.int 2)]).bind fun r7 =>
      if r7.b then
       ou 0 [(D.str s), (.bool true)]
      else
       ou 0 [(cutDt o).1, (cutDt o).2] : Outc) = some (0, [(cutDt (if hasAt xs s 2 then some s else o)).1, (cutDt (if hasAt xs s 2 then some s else o)).2]) := by
      refine out_call hh ?_
      cases hasAt xs s 2 with
      | false => exact out_else (by simp) (by simp)
      | true => exact out_if rfl (by simp [cutDt])
     by_cases h0 : s = []
     ·rw [if_pos h0]
      refine loopF_exit (out_bind h1 (sel0 (out_if rfl (out_bind h2 (sel0 (out_if ?_ rfl))))))
      simpa using h0
     ·rw [if_neg h0]
      have hp := f_l1Parent hs
      have hpl := parent_len h0
      rw [← ih (parent s) (if hasAt xs s 2 then some s else o) (by omega) (by omega)]
      refine loopF_step (out_bind h1 (sel0 (out_if rfl (out_bind h2 (sel0 (out_else ?_ (out_call hp rfl)))))))
      simpa using h0
    ·rw [if_neg hc]
     refine loopF_exit (out_bind (r := (0, [.bool false])) ?_ (sel0 (out_else (by simp) rfl)))
     by_cases h1 : s = apex
     ·exact out_else (by simpa using h1) rfl
     ·refine out_if (by simpa using h1) ?_
      have : bel s apex = false := by
       cases hq : bel s apex with
       | false => rfl
       | true => exact absurd ⟨h1, hq⟩ hc
      rw [this] at hb
      exact out_call hb rfl
 exact rn_bind (key (s.length + 1) s none (by omega) hs) rfl
end Go.Proofs.YtbacjgkmkkphdaaGreatDoor
