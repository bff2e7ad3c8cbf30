/- What the functions compute, in plain words. -/
import Derived.Test.YtllbponcjpcbnaaGreatDoorP1
import Derived.Lib.Bytealg
set_option linter.unusedSectionVars false
set_option linter.unusedVariables false
set_option linter.unusedSimpArgs false
namespace Go.Own
open Go
structure Cmp {α : Type} (c : α → α → Int) : Prop where
 refl : ∀ x, c x x = 0
 eq : ∀ x y, c x y = 0 → x = y
 trans : ∀ x y z, c x y ≤ 0 → c y z ≤ 0 → c x z ≤ 0
 anti : ∀ x y, c x y ≤ 0 → c y x ≤ 0 → c x y = 0
def lexC {α : Type} (c : α → α → Int) : List α → List α → Int
 | [], [] => 0
 | [], _ :: _ => -1
 | _ :: _, [] => 1
 | x :: xs, y :: ys => if c x y = 0 then lexC c xs ys else c x y
theorem Cmp.lt {α : Type} {c : α → α → Int} (h : Cmp c) {x y z : α} (h1 : c x y ≤ 0) (h2 : c y z ≤ 0) (h3 : c x y ≠ 0 ∨ c y z ≠ 0) : c x z < 0 := by
 have h4 := h.trans x y z h1 h2
 by_cases h5 : c x z = 0
 ·have e := h.eq x z h5
  subst e
  have := h.anti x y h1 h2
  have := h.anti y x h2 h1
  omega
 ·omega
theorem Cmp.lex {α : Type} {c : α → α → Int} (h : Cmp c) : Cmp (lexC c) where
 refl := by
  intro x
  induction x with
  | nil => rfl
  | cons a x ih => unfold lexC; rw [if_pos (h.refl a)]; exact ih
 eq := by
  intro x
  induction x with
  | nil => intro y hy; cases y with
    | nil => rfl
    | cons b y => simp [lexC] at hy
  | cons a x ih => intro y hy; cases y with
    | nil => simp [lexC] at hy
    | cons b y =>
      unfold lexC at hy
      split at hy
      ·rename_i hab; rw [h.eq a b hab, ih y hy]
      ·rename_i hab; exact absurd hy hab
 trans := by
  intro x
  induction x with
  | nil => intro y z _ _; cases z <;> simp [lexC]
  | cons a x ih =>
    intro y z h1 h2
    cases y with
    | nil => simp [lexC] at h1
    | cons b y =>
      cases z with
      | nil => simp [lexC] at h2
      | cons d z =>
        unfold lexC at h1 h2 ⊢
        by_cases e1 : c a b = 0
        ·have := h.eq a b e1; subst this
         rw [if_pos e1] at h1
         by_cases e2 : c a d = 0
         ·rw [if_pos e2] at h2 ⊢; exact ih y z h1 h2
         ·rw [if_neg e2] at h2 ⊢; exact h2
        ·rw [if_neg e1] at h1
         by_cases e2 : c b d = 0
         ·have := h.eq b d e2; subst this
          rw [if_neg e1]; exact h1
         ·rw [if_neg e2] at h2
          have := h.lt h1 h2 (.inl e1)
          rw [if_neg (by omega)]; omega
 anti := by
  intro x
  induction x with
  | nil => intro y h1 h2; cases y with
    | nil => rfl
    | cons b y => simp [lexC] at h2
  | cons a x ih =>
    intro y h1 h2
    cases y with
    | nil => simp [lexC] at h1
    | cons b y =>
      unfold lexC at h1 h2 ⊢
      by_cases e1 : c a b = 0
      ·have := h.eq a b e1; subst this
       rw [if_pos e1] at h1 h2 ⊢; exact ih y h1 h2
      ·rw [if_neg e1] at h1 ⊢
       by_cases e2 : c b a = 0
       ·have := h.eq b a e2; subst this; exact absurd e2 e1
       ·rw [if_neg e2] at h2; exact h.anti a b h1 h2
def intC (a b : Int) : Int := if a < b then -1 else if b < a then 1 else 0
theorem z4s : Cmp intC where
 refl := by intro x; simp [intC]
 eq := by intro x y; unfold intC; repeat' split
          all_goals omega
 trans := by intro x y z; unfold intC; repeat' split
             all_goals omega
 anti := by intro x y; unfold intC; repeat' split
            all_goals omega
theorem z4r : ∀ a b : List UInt8, Lib.compareBytes a b = lexC (fun x y : UInt8 => intC x.toNat y.toNat) a b
 | [], [] => rfl
 | [], _ :: _ => rfl
 | _ :: _, [] => rfl
 | x :: a, y :: b => by
   unfold Lib.compareBytes lexC intC
   have ih := z4r a b
   by_cases h1 : x < y
   ·have : (x.toNat : Int) < y.toNat := by have := UInt8.lt_iff_toNat_lt.1 h1; omega
    simp [h1, this]
   ·by_cases h2 : y < x
    ·have : (y.toNat : Int) < x.toNat := by have := UInt8.lt_iff_toNat_lt.1 h2; omega
     have h3 : ¬ (x.toNat : Int) < y.toNat := by omega
     simp [h1, h2, this, h3]
    ·have h3 : ¬ (x.toNat : Int) < y.toNat := fun h => h1 (UInt8.lt_iff_toNat_lt.2 (by omega))
     have h4 : ¬ (y.toNat : Int) < x.toNat := fun h => h2 (UInt8.lt_iff_toNat_lt.2 (by omega))
     rw [if_neg h1, if_neg h2, if_neg h3, if_neg h4, if_pos rfl]
     exact ih
theorem zN4 : Cmp (fun x y : UInt8 => intC x.toNat y.toNat) where
 refl := by intro x; exact z4s.refl _
 eq := by intro x y h; have := z4s.eq _ _ h; exact UInt8.toNat_inj.1 (by omega)
 trans := by intro x y z; exact z4s.trans _ _ _
 anti := by intro x y; exact z4s.anti _ _
theorem zCi : Cmp Lib.compareBytes := by
 have h := zN4.lex
 have e : Lib.compareBytes = lexC (fun x y : UInt8 => intC x.toNat y.toNat) := by funext a b; exact z4r a b
 rw [e]; exact h
def z5P : List UInt8 → List UInt8
 | [] => []
 | c :: s => if c = 46 then s else z5P s
theorem z6D : ∀ {s : List UInt8}, s ≠ [] → (z5P s).length < s.length
 | [], h => absurd rfl h
 | c :: s, _ => by
   unfold z5P
   split
   ·simp
   ·cases s with
    | nil => simp [z5P]
    | cons d s => have := z6D (s := d :: s) (by simp); simp at this ⊢; omega
def bel (a b : List UInt8) : Bool := a == b || (b.isEmpty || (46 :: b).isSuffixOf a)
inductive Up : List UInt8 → List UInt8 → Prop
 | refl (a) : Up a a
 | step {a b} : a ≠ [] → Up (z5P a) b → Up a b
theorem Up.len {a b} (h : Up a b) : a = b ∨ b.length < a.length := by
 induction h with
 | refl a => exact .inl rfl
 | step h1 _ ih => have := z6D h1; rcases ih with rfl | ih <;> right <;> omega
theorem Up.trans {a b c} (h : Up a b) (h2 : Up b c) : Up a c := by
 induction h with
 | refl a => exact h2
 | step h1 _ ih => exact .step h1 (ih h2)
theorem Up.anti {a b} (h : Up a b) (h2 : Up b a) : a = b := by
 rcases h.len with h | h
 ·exact h
 ·rcases h2.len with h3 | h3
  ·exact h3.symm
  ·omega
theorem zQ4 : ∀ (n : Nat) (a : List UInt8), a.length ≤ n → Up a []
 | 0, a, h => by cases a with
   | nil => exact .refl _
   | cons => simp at h
 | n + 1, a, h => by
   by_cases h0 : a = []
   ·subst h0; exact .refl _
   ·exact .step h0 (zQ4 n _ (by have := z6D h0; omega))
theorem zGT : ∀ (x b : List UInt8), (∃ y, z5P (x ++ 46 :: b) = y ++ 46 :: b) ∨ z5P (x ++ 46 :: b) = b
 | [], b => .inr (by simp [z5P])
 | c :: x, b => by
   simp only [List.cons_append]
   unfold z5P
   split
   ·exact .inl ⟨x, rfl⟩
   ·exact zGT x b
theorem zJv : ∀ (n : Nat) (x b : List UInt8), x.length ≤ n → Up (x ++ 46 :: b) b
 | n, x, b, h => by
   refine .step (by simp) ?_
   rcases zGT x b with ⟨y, hy⟩ | hy
   ·rw [hy]
    have hl := z6D (s := x ++ 46 :: b) (by simp)
    rw [hy] at hl
    simp at hl
    match n with
    | 0 => omega
    | n + 1 => exact zJv n y b (by omega)
   ·rw [hy]; exact .refl _
theorem z89 : ∀ (s : List UInt8), z5P s = [] ∨ ∃ x, s = x ++ 46 :: z5P s
 | [] => .inl rfl
 | c :: s => by
   unfold z5P
   split
   ·rename_i h; exact .inr ⟨[], by simp [h]⟩
   ·rcases z89 s with h | ⟨x, h⟩
    ·exact .inl h
    ·exact .inr ⟨c :: x, by rw [List.cons_append, ← h]⟩
theorem z8v {a b : List UInt8} : bel a b = true ↔ Up a b := by
 unfold bel
 simp only [Bool.or_eq_true, beq_iff_eq, List.isEmpty_iff, List.isSuffixOf_iff_suffix]
 constructor
 ·rintro (rfl | rfl | ⟨x, rfl⟩)
  ·exact .refl _
  ·exact zQ4 _ _ (Nat.le_refl _)
  ·exact zJv _ x b (Nat.le_refl _)
 ·intro h
  induction h with
  | refl a => exact .inl rfl
  | @step a b h1 _ ih =>
    rcases ih with h | h | ⟨x, h⟩
    ·rcases z89 a with h2 | ⟨x, h2⟩
     ·exact .inr (.inl (by rw [← h, h2]))
     ·rw [h] at h2; exact .inr (.inr ⟨x, h2.symm⟩)
    ·exact .inr (.inl h)
    ·rcases z89 a with h2 | ⟨y, h2⟩
     ·rw [h2] at h; simp at h
     ·rw [← h] at h2; exact .inr (.inr ⟨y ++ 46 :: x, by rw [h2]; simp⟩)
def z6m (apex : List UInt8) (m : List UInt8 → Bool) : Nat → List UInt8 → Option (List UInt8) → Option (List UInt8)
 | 0, _, o => o
 | n + 1, s, o => if s ≠ apex ∧ bel s apex = true then
    (if s = [] then (if m s then some s else o) else z6m apex m n (z5P s) (if m s then some s else o))
   else o
theorem zGe {apex : List UInt8} {m : List UInt8 → Bool} {s0 : List UInt8} : ∀ (n : Nat) (s : List UInt8) (o : Option (List UInt8)), Up s0 s →
 (∀ x, o = some x → m x = true ∧ Up s0 x ∧ x ≠ apex ∧ bel x apex = true) → ∀ x, z6m apex m n s o = some x → m x = true ∧ Up s0 x ∧ x ≠ apex ∧ bel x apex = true
 | 0, s, o, _, ho, x, hx => ho x hx
 | n + 1, s, o, hs, ho, x, hx => by
   unfold z6m at hx
   split at hx
   ·rename_i hc
    have ho' : ∀ x, (if m s then some s else o) = some x → m x = true ∧ Up s0 x ∧ x ≠ apex ∧ bel x apex = true := by
     intro x hx
     split at hx
     ·rename_i hm; cases hx; exact ⟨hm, hs, hc.1, hc.2⟩
     ·exact ho x hx
    split at hx
    ·exact ho' x hx
    ·rename_i h0
     exact zGe n _ _ (hs.trans (.step h0 (.refl _))) ho' x hx
   ·exact ho x hx
theorem zJw {apex : List UInt8} {m : List UInt8 → Bool} {c : List UInt8} : ∀ (n : Nat) (s : List UInt8) (o : Option (List UInt8)), Up c s → (∃ x, o = some x ∧ Up c x) → ∃ x, z6m apex m n s o = some x ∧ Up c x
 | 0, s, o, _, ho => ho
 | n + 1, s, o, hs, ho => by
   unfold z6m
   have ho' : ∃ x, (if m s then some s else o) = some x ∧ Up c x := by
    split
    ·exact ⟨s, rfl, hs⟩
    ·exact ho
   split
   ·split
    ·exact ho'
    ·rename_i h0; exact zJw n _ _ (hs.trans (.step h0 (.refl _))) ho'
   ·exact ho
theorem zOl {apex : List UInt8} {m : List UInt8 → Bool} {c : List UInt8} (hm : m c = true) (hc : c ≠ apex) (hb : bel c apex = true) {s : List UInt8} (h : Up s c) : ∀ (n : Nat) (o : Option (List UInt8)), s.length < n → ∃ x, z6m apex m n s o = some x ∧ Up c x := by
 induction h with
 | refl a =>
   intro n o hn
   match n, hn with
   | n + 1, hn =>
     unfold z6m
     rw [if_pos ⟨hc, hb⟩, if_pos hm]
     split
     ·exact ⟨a, rfl, .refl _⟩
     ·rename_i h0; exact zJw n _ _ (.step h0 (.refl _)) ⟨a, rfl, .refl _⟩
 | @step a b h1 h2 ih =>
   intro n o hn
   match n, hn with
   | n + 1, hn =>
     have hab : Up a b := .step h1 h2
     have hap : Up a apex := hab.trans (z8v.1 hb)
     have hne : a ≠ apex := by
      rintro rfl
      exact hc (Up.anti (z8v.1 hb) hab)
     unfold z6m
     rw [if_pos ⟨hne, z8v.2 hap⟩, if_neg h1]
     exact ih hm hc hb n _ (by have := z6D h1; omega)
end Go.Own
namespace Go.Proofs.YtllbponcjpcbnaaGreatDoor
open Go Go.Own
theorem z5V {α : Type} {f : α → D} {xs : List α} {i : Nat} (h : i < xs.length) : gd (xs.map f) i = f xs[i] := by
 rw [z9g (by simpa using h)]; simp
theorem z3g : ∀ a b : List UInt8, (Op.bytesLess a b = true ↔ Lib.compareBytes a b = -1) ∧ (a = b ↔ Lib.compareBytes a b = 0)
 | [], [] => by simp [Op.bytesLess, Lib.compareBytes]
 | [], _ :: _ => by simp [Op.bytesLess, Lib.compareBytes]
 | _ :: _, [] => by simp [Op.bytesLess, Lib.compareBytes]
 | a :: x, b :: y => by
   have ih := z3g x y
   unfold Op.bytesLess Lib.compareBytes
   by_cases h1 : a < b
   ·have hne : a ≠ b := by rintro rfl; exact absurd h1 (UInt8.lt_irrefl a)
    simp [h1, hne]
   ·by_cases h2 : b < a
    ·have hne : a ≠ b := by rintro rfl; exact absurd h2 (UInt8.lt_irrefl a)
     simp [h1, h2, hne]
    ·have he : a = b := UInt8.le_antisymm (UInt8.not_lt.1 h2) (UInt8.not_lt.1 h1)
     subst he
     simp only [h1, if_false, decide_false, Bool.false_or, beq_self_eq_true, Bool.true_and, List.cons.injEq, true_and]
     exact ih
theorem z5z (a b : List UInt8) : Lib.compareBytes a b = -1 ∨ Lib.compareBytes a b = 0 ∨ Lib.compareBytes a b = 1 := by
 induction a generalizing b with
 | nil => cases b <;> simp [Lib.compareBytes]
 | cons x a ih => cases b with
   | nil => simp [Lib.compareBytes]
   | cons y b =>
     unfold Lib.compareBytes
     split
     ·exact .inl rfl
     ·split
      ·exact .inr (.inr rfl)
      ·exact ih b
def z3c (n i : Nat) (xs : List D) : List D := (List.range n).map fun k => if k < i ∨ n - i ≤ k then gd xs (n - 1 - k) else gd xs k
theorem z9X {n i : Nat} {xs : List D} : (z3c n i xs).length = n := by simp [z3c]
theorem zF1 {n i k : Nat} {xs : List D} (h : k < n) : gd (z3c n i xs) k = if k < i ∨ n - i ≤ k then gd xs (n - 1 - k) else gd xs k := by
 rw [z9g (by rw [z9X]; exact h)]; simp [z3c]
theorem zJq {xs : List D} : z3c xs.length 0 xs = xs := by
 apply List.ext_getElem
 ·simp [z3c]
 ·intro k h1 h2
  simp only [z3c, List.getElem_map, List.getElem_range]
  rw [if_neg (by omega), z9g h2]
theorem zJo {xs : List D} : z3c xs.length (xs.length / 2) xs = xs.reverse := by
 apply List.ext_getElem
 ·simp [z3c]
 ·intro k h1 h2
  have hk : k < xs.length := by simpa using h2
  simp only [z3c, List.getElem_map, List.getElem_range, List.getElem_reverse]
  split
  ·rw [z9g (by omega)]
  ·have : xs.length - 1 - k = k := by omega
   rw [z9g hk]; congr 1; omega
theorem zJp {xs : List D} {i : Nat} (hi : i < xs.length / 2) : ((z3c xs.length i xs).set i (gd (z3c xs.length i xs) (xs.length - 1 - i))).set (xs.length - 1 - i) (gd (z3c xs.length i xs) i) = z3c xs.length (i + 1) xs := by
 have ha : gd (z3c xs.length i xs) (xs.length - 1 - i) = gd xs (xs.length - 1 - i) := by rw [zF1 (by omega), if_neg (by omega)]
 have hb : gd (z3c xs.length i xs) i = gd xs i := by rw [zF1 (by omega), if_neg (by omega)]
 rw [ha, hb]
 apply List.ext_getElem
 ·simp [z3c]
 ·intro k h1 h2
  have hk : k < xs.length := by simpa [z3c] using h2
  simp only [List.getElem_set]
  simp only [z3c, List.getElem_map, List.getElem_range]
  by_cases e1 : xs.length - 1 - i = k
  ·rw [if_pos e1, if_pos (by omega)]; congr 1; omega
  ·rw [if_neg e1]
   by_cases e2 : i = k
   ·rw [if_pos e2, if_pos (by omega)]; congr 1; omega
   ·rw [if_neg e2]
    by_cases e3 : k < i ∨ xs.length - i ≤ k
    ·rw [if_pos e3, if_pos (by omega)]
    ·rw [if_neg e3, if_neg (by omega)]
theorem zIe {xs : List D} (hl : xs.length ≤ lim + 1) : z0o.F [.lst xs] = some (.pair .unit (.pair (.lst xs.reverse) .unit)) := by
 have hlim : lim = 1048576 := rfl
 rw [z5s]
 have w0 : IntKind.wrap .i64 ((xs.length : Int) - 1) = (xs.length : Int) - 1 := by rw [z0c] <;> omega
 refine z0K (z1R (fun i (zs : List D) => [.lst zs, .int i, .int ((xs.length : Int) - 1 - i)]) (xs.length / 2) (fun i => z3c xs.length i xs) (t := 0) (o := [.lst xs.reverse]) ?_ ?_ ?_) rfl
 ·simp only [zJq, D.l_lst, w0]
  congr 3
  ·simp
 ·intro i hi
  have w1 : IntKind.wrap .i64 ((i : Int) + 1) = ((i + 1 : Nat) : Int) := by rw [z0c] <;> omega
  have w2 : IntKind.wrap .i64 ((xs.length : Int) - 1 - i - 1) = (xs.length : Int) - 1 - ((i + 1 : Nat) : Int) := by rw [z0c] <;> omega
  have ej : ((xs.length : Int) - 1 - (i : Int)).toNat = xs.length - 1 - i := by omega
  have hj : inb ((xs.length : Int) - 1 - (i : Int)) xs.length = true := zKZ (by omega) (by omega)
  have hst := zJp hi
  refine z01 (decide_eq_true (by simp; omega)) (z01 ?_ (z01 ?_ ?_))
  ·simp only [z7m, z14, D.i_int, D.l_lst, z9X]; exact hj
  ·simp only [z4d, z14, D.i_int, D.l_lst, z9X]; exact z0B (by omega)
  ·simp only [z7m, z4d, z14, D.i_int, D.l_lst, ej, Int.toNat_natCast, hst, w1, w2]
 ·refine z00 (fun h => ?_) ?_
  ·have h' : ((xs.length / 2 : Nat) : Int) < (xs.length : Int) - 1 - ((xs.length / 2 : Nat) : Int) := of_decide_eq_true h
   omega
  ·simp only [z14, zJo]
theorem zKG (a b : List UInt8) : z1L.F [.str a, .str b] = some (.int (Lib.compareBytes a b)) := by
 have n1 : ∀ s : List UInt8, z2Z.F [.str s] = some (.bool false) := fun s => by
  rw [zAB]; simp
 rw [z8j]
 refine z02 (n1 a) (z02 (n1 b) (z04 (by simp) (z04 (by simp) ?_)))
 obtain ⟨h1, h2⟩ := z3g a b
 simp only [D.s_str]
 rcases z5z a b with h | h | h
 ·rw [h]; exact z0U (h1.2 h) rfl
 ·have he := h2.2 h
  subst he
  have hl : Op.bytesLess a a = false := by
   cases hq : Op.bytesLess a a with
   | false => rfl
   | true => rw [h1.1 hq] at h; cases h
  rw [h]; exact z04 (by rw [hl]; decide) (z04 (by simp) rfl)
 ·have hl : Op.bytesLess a b = false := by
   cases hq : Op.bytesLess a b with
   | false => rfl
   | true => rw [h1.1 hq] at h; cases h
  have hne : a ≠ b := fun e => by rw [h2.1 e] at h; cases h
  rw [h]; exact z04 (by rw [hl]; decide) (z0U (by simp [hl, hne]) rfl)
theorem z9t {α : Type} {c : α → α → Int} {xs ys : List α} : ∀ (k : Nat), k ≤ xs.length → k ≤ ys.length → (∀ i (h1 : i < xs.length) (h2 : i < ys.length), i < k → c xs[i] ys[i] = 0) → lexC c xs ys = lexC c (xs.drop k) (ys.drop k)
 | 0, _, _, _ => by simp
 | k + 1, h1, h2, h => by
   rw [z9t k (by omega) (by omega) (fun i a b hi => h i a b (by omega))]
   rw [List.drop_eq_getElem_cons (show k < xs.length by omega), List.drop_eq_getElem_cons (show k < ys.length by omega)]
   rw [lexC, if_pos (h k (by omega) (by omega) (by omega))]
theorem zNq {α : Type} {c : α → α → Int} {xs ys : List α} {k : Nat} (h1 : k < xs.length) (h2 : k < ys.length) (h : ∀ i (h1 : i < xs.length) (h2 : i < ys.length), i < k → c xs[i] ys[i] = 0) (hk : c xs[k] ys[k] ≠ 0) : lexC c xs ys = c xs[k] ys[k] := by
 rw [z9t k (by omega) (by omega) h, List.drop_eq_getElem_cons h1, List.drop_eq_getElem_cons h2, lexC, if_neg hk]
theorem zJ4 {α : Type} {c : α → α → Int} {xs ys : List α} (h1 : ys.length < xs.length) (h : ∀ i (h1 : i < xs.length) (h2 : i < ys.length), c xs[i] ys[i] = 0) : lexC c xs ys = 1 := by
 rw [z9t ys.length (by omega) (by omega) (fun i a b _ => h i a b), List.drop_length, List.drop_eq_getElem_cons h1]; rfl
theorem zAp {α : Type} {c : α → α → Int} {xs ys : List α} (h1 : xs.length ≤ ys.length) (h : ∀ i (h1 : i < xs.length) (h2 : i < ys.length), c xs[i] ys[i] = 0) : lexC c xs ys = if xs.length < ys.length then -1 else 0 := by
 rw [z9t xs.length (by omega) (by omega) (fun i a b _ => h i a b), List.drop_length]
 by_cases h2 : xs.length < ys.length
 ·rw [List.drop_eq_getElem_cons h2, if_pos h2]; rfl
 ·rw [List.drop_eq_nil_of_le (by omega), if_neg h2]; rfl
def cmpL (xs ys : List (List UInt8)) : Int := lexC Lib.compareBytes xs ys
theorem zCj : Cmp cmpL := zCi.lex
theorem zKF {xs ys : List (List UInt8)} (hl : xs.length ≤ lim + 1) : z10.F [.lst (xs.map .str), .lst (ys.map .str)] = some (.int (cmpL xs ys)) := by
 have hsm : xs.length ≤ smax := by rw [z0p]; have hlim : lim = 1048576 := rfl; omega
 rw [z5r]
 have hlx : (D.lst (xs.map D.str)).l.length = xs.length := by simp
 have hly : (D.lst (ys.map D.str)).l.length = ys.length := by simp
 rw [hlx, hly]
 have hcmp : ∀ i (h1 : i < xs.length) (h2 : i < ys.length), z1L.F [gd (xs.map D.str) i, gd (ys.map D.str) i] = some (.int (Lib.compareBytes xs[i] ys[i])) := fun i h1 h2 => by
  rw [z5V h1, z5V h2]; exact zKG _ _
 let p : Nat → Bool := fun i => decide (i < ys.length) && (Lib.compareBytes (xs.getD i []) (ys.getD i []) == 0)
 have hp0 : ∀ i (h1 : i < xs.length), p i = true → ∃ h2 : i < ys.length, Lib.compareBytes xs[i] ys[i] = 0 := by
  intro i h1 h
  simp only [p, Bool.and_eq_true, decide_eq_true_eq, beq_iff_eq] at h
  refine ⟨h.1, ?_⟩
  have := h.2
  rwa [z0J h1, z0J h.1] at this
 have key := z5M (l := [.int 0]) (fun i => [.int i]) xs.length p (t1 := 0) (t2 := 1) (o1 := fun i => [.int (if ys.length ≤ i then 1 else Lib.compareBytes (xs.getD i []) (ys.getD i []))]) (o2 := []) (f := fun l2 =>
  if (decide ((gd l2 0).i < (xs.length : Int))) then
   if (inb (gd l2 0).i xs.length) then
   if (decide ((gd l2 0).i ≥ (ys.length : Int))) then
    ou 1 [(.int 1)]
   else
    if (inb (gd l2 0).i ys.length) then
    (z1L.F [(gd (D.lst (xs.map D.str)).l (gd l2 0).i.toNat), (gd (D.lst (ys.map D.str)).l (gd l2 0).i.toNat)]).bind fun r3 =>
    if (r3.i != 0) then
     ou 1 [r3]
    else
     ou 0 [(.int (IntKind.wrap .i64 ((gd l2 0).i + 1)))]
    else none
   else none
  else
   ou 2 []) rfl (by
  intro i hi hp
  obtain ⟨h2, hc⟩ := hp0 i hi hp
  have := hcmp i hi h2
  rw [hc] at this
  have hn : ¬ ys.length ≤ i := by omega
  simp [hi, z0B hi, z0B h2, hn, this, z0N hi hsm]) (by
  intro i hi hp
  by_cases h2 : ys.length ≤ i
  ·simp [hi, z0B hi, h2]
  ·have h3 : i < ys.length := by omega
   have := hcmp i hi h3
   have hne : ¬ Lib.compareBytes xs[i] ys[i] = 0 := by
    intro h
    simp only [p, h3, decide_true, Bool.true_and, z0J hi, z0J h3, h] at hp
    simp at hp
   simp [hi, h3, z0B hi, z0B h3, h2, this, hne]) (by simp)
 rcases key with ⟨hall, hloop⟩ | ⟨k, hk, hpk, hall, hloop⟩
 ·refine z0K hloop ?_
  have hle : xs.length ≤ ys.length := by
   rcases Nat.eq_zero_or_pos xs.length with h | h
   ·omega
   ·have := (hp0 (xs.length - 1) (by omega) (hall _ (by omega))).1; omega
  have hs : cmpL xs ys = if xs.length < ys.length then -1 else 0 := zAp hle (fun i h1 h2 => (hp0 i h1 (hall i h1)).2)
  rw [hs]
  by_cases h : xs.length < ys.length
  ·rw [if_pos h]; exact z0U (decide_eq_true (by omega)) rfl
  ·rw [if_neg h]; exact z04 (fun h' => h (by have h'' : (xs.length : Int) < ys.length := of_decide_eq_true h'; omega)) rfl
 ·refine z0K hloop ?_
  by_cases h2 : ys.length ≤ k
  ·have : cmpL xs ys = 1 := zJ4 (by omega) (fun i h1 h3 => (hp0 i h1 (hall i (by omega))).2)
   simp only [if_pos h2, this]; rfl
  ·have h3 : k < ys.length := by omega
   have hne : Lib.compareBytes xs[k] ys[k] ≠ 0 := by
    intro h
    simp only [p, h3, decide_true, Bool.true_and, z0J hk, z0J h3, h] at hpk
    simp at hpk
   have : cmpL xs ys = Lib.compareBytes xs[k] ys[k] := zNq hk h3 (fun i h1 h4 hi => (hp0 i h1 (hall i hi)).2) hne
   simp only [if_neg h2, this, z0J hk, z0J h3]; rfl
def cmpN (a b : List UInt8) : Int := cmpL (z1X a).reverse (z1X b).reverse
theorem zFA {a b : List UInt8} (ha : a.length ≤ lim) (hb : b.length ≤ lim) : z2r.F [.str a, .str b] = some (.int (cmpN a b)) := by
 have hlim : lim = 1048576 := rfl
 rw [z9P]
 have h1 := z6s a (by omega)
 have h2 := z6s b (by omega)
 rw [show (if a.isEmpty then [] else splB 46 a) = z1X a from rfl] at h1
 rw [show (if b.isEmpty then [] else splB 46 b) = z1X b from rfl] at h2
 have hla := (z6O a).1
 have hlb := (z6O b).1
 refine z02 h1 (z02 h2 (z02 (zIe (by simp; omega)) (z02 (zIe (by simp; omega)) ?_)))
 have f0 : ∀ l : List (List UInt8), (D.pair .unit (.pair (.lst (l.map D.str).reverse) .unit)).fld 1 = .lst (l.reverse.map D.str) := fun l => by
  rw [← List.map_reverse]; rfl
 rw [f0, f0]
 exact z02 (zKF (by simp; omega)) rfl
theorem zIa (ls ms : List (List UInt8)) (hl : ls.length ≤ lim + 1) (hm : ms.length ≤ lim + 1) (x y : D) (R : Option D) (hR : some (.int (cmpL ls.reverse ms.reverse)) = R) : rn ((z0a (fun l4 =>
 (if (decide ((gd l4 0).i ≤ (((D.pair (.lst (ls.map D.str)) x).fld 0).l.length : Int))) then
     ou 0 [(.bool (decide ((gd l4 0).i ≤ (((D.pair (.lst (ms.map D.str)) y).fld 0).l.length : Int))))]
   else
    ou 0 [(.bool false)]).bind fun o5 =>
 sel2 o5.1 (if (gd o5.2 0).b then
  if (inb (IntKind.wrap .i64 ((((D.pair (.lst (ls.map D.str)) x).fld 0).l.length : Int) - (gd l4 0).i)) ((D.pair (.lst (ls.map D.str)) x).fld 0).l.length) then
  if (inb (IntKind.wrap .i64 ((((D.pair (.lst (ms.map D.str)) y).fld 0).l.length : Int) - (gd l4 0).i)) ((D.pair (.lst (ms.map D.str)) y).fld 0).l.length) then
  if (Op.bytesLess (gd ((D.pair (.lst (ls.map D.str)) x).fld 0).l (IntKind.wrap .i64 ((((D.pair (.lst (ls.map D.str)) x).fld 0).l.length : Int) - (gd l4 0).i)).toNat).s (gd ((D.pair (.lst (ms.map D.str)) y).fld 0).l (IntKind.wrap .i64 ((((D.pair (.lst (ms.map D.str)) y).fld 0).l.length : Int) - (gd l4 0).i)).toNat).s) then
   ou 1 [(.int (-1))]
  else
   if (!(Op.bytesLess (gd ((D.pair (.lst (ls.map D.str)) x).fld 0).l (IntKind.wrap .i64 ((((D.pair (.lst (ls.map D.str)) x).fld 0).l.length : Int) - (gd l4 0).i)).toNat).s (gd ((D.pair (.lst (ms.map D.str)) y).fld 0).l (IntKind.wrap .i64 ((((D.pair (.lst (ms.map D.str)) y).fld 0).l.length : Int) - (gd l4 0).i)).toNat).s || (gd ((D.pair (.lst (ls.map D.str)) x).fld 0).l (IntKind.wrap .i64 ((((D.pair (.lst (ls.map D.str)) x).fld 0).l.length : Int) - (gd l4 0).i)).toNat).s == (gd ((D.pair (.lst (ms.map D.str)) y).fld 0).l (IntKind.wrap .i64 ((((D.pair (.lst (ms.map D.str)) y).fld 0).l.length : Int) - (gd l4 0).i)).toNat).s)) then
    ou 1 [(.int 1)]
   else
    ou 0 [(.int (IntKind.wrap .i64 ((gd l4 0).i + 1)))]
  else none
  else none
  else
   ou 2 []) fun _ => none) [(.int 1)]).bind fun o4 =>
 sel2 o4.1 (ou 0 [(gd o4.2 0)]) fun n2 =>
 sel2 n2 (if (decide ((((D.pair (.lst (ls.map D.str)) x).fld 0).l.length : Int) < (((D.pair (.lst (ms.map D.str)) y).fld 0).l.length : Int))) then
  ou 0 [(.int (-1))]
  else
   if (decide ((((D.pair (.lst (ls.map D.str)) x).fld 0).l.length : Int) > (((D.pair (.lst (ms.map D.str)) y).fld 0).l.length : Int))) then
    ou 0 [(.int 1)]
   else
    ou 0 [(.int 0)]) fun _ => none) = R := by
 have hlim : lim = 1048576 := rfl
 subst hR
 have fx : ((D.pair (.lst (ls.map D.str)) x).fld 0).l = ls.map D.str := rfl
 have fy : ((D.pair (.lst (ms.map D.str)) y).fld 0).l = ms.map D.str := rfl
 rw [fx, fy]
 simp only [List.length_map]
 let n := min ls.length ms.length
 have hn1 : n ≤ ls.length := Nat.min_le_left _ _
 have hn2 : n ≤ ms.length := Nat.min_le_right _ _
 let c : Nat → Int := fun i => Lib.compareBytes (ls.reverse.getD i []) (ms.reverse.getD i [])
 have hg : ∀ (l : List (List UInt8)) i (hi : i < l.length), (gd (l.map D.str) (l.length - 1 - i)).s = l.reverse.getD i [] := by
  intro l i hi
  rw [z5V (by omega), z0J (by simpa using hi) [], List.getElem_reverse]; rfl
 have key := z5M (l := [.int 1]) (fun i => [.int ((i + 1 : Nat) : Int)]) n (fun i => c i == 0) (t1 := 0) (t2 := 1) (o1 := fun i => [.int (c i)]) (o2 := []) (f := fun l4 =>
  (if (decide ((gd l4 0).i ≤ (ls.length : Int))) then
      ou 0 [(.bool (decide ((gd l4 0).i ≤ (ms.length : Int))))]
    else
     ou 0 [(.bool false)]).bind fun o5 =>
  sel2 o5.1 (if (gd o5.2 0).b then
   if (inb (IntKind.wrap .i64 ((ls.length : Int) - (gd l4 0).i)) ls.length) then
   if (inb (IntKind.wrap .i64 ((ms.length : Int) - (gd l4 0).i)) ms.length) then
   if (Op.bytesLess (gd (ls.map D.str) (IntKind.wrap .i64 ((ls.length : Int) - (gd l4 0).i)).toNat).s (gd (ms.map D.str) (IntKind.wrap .i64 ((ms.length : Int) - (gd l4 0).i)).toNat).s) then
    ou 1 [(.int (-1))]
   else
    if (!(Op.bytesLess (gd (ls.map D.str) (IntKind.wrap .i64 ((ls.length : Int) - (gd l4 0).i)).toNat).s (gd (ms.map D.str) (IntKind.wrap .i64 ((ms.length : Int) - (gd l4 0).i)).toNat).s || (gd (ls.map D.str) (IntKind.wrap .i64 ((ls.length : Int) - (gd l4 0).i)).toNat).s == (gd (ms.map D.str) (IntKind.wrap .i64 ((ms.length : Int) - (gd l4 0).i)).toNat).s)) then
     ou 1 [(.int 1)]
    else
     ou 0 [(.int (IntKind.wrap .i64 ((gd l4 0).i + 1)))]
   else none
   else none
   else
    ou 2 []) fun _ => none) rfl ?_ ?_ ?_
 ·rcases key with ⟨hall, hloop⟩ | ⟨k, hk, hpk, hall, hloop⟩
  ·refine z0K hloop ?_
   have hz : ∀ i (h1 : i < ls.reverse.length) (h2 : i < ms.reverse.length), Lib.compareBytes ls.reverse[i] ms.reverse[i] = 0 := by
    intro i h1 h2
    have h1' : i < ls.length := by simpa using h1
    have h2' : i < ms.length := by simpa using h2
    have := hall i (by simp only [n]; omega)
    simp only [c, beq_iff_eq, z0J h1, z0J h2] at this
    exact this
   by_cases h1 : ls.length < ms.length
   ·have : cmpL ls.reverse ms.reverse = -1 := by
     refine (zAp (by simp; omega) hz).trans (if_pos (by simpa using h1))
    rw [this]
    exact z0U (decide_eq_true (by omega)) rfl
   ·refine z04 (fun h => h1 (by have h' : (ls.length : Int) < ms.length := of_decide_eq_true h; omega)) ?_
    by_cases h2 : ms.length < ls.length
    ·have : cmpL ls.reverse ms.reverse = 1 := zJ4 (by simpa using h2) hz
     rw [this]
     exact z0U (decide_eq_true (by omega)) rfl
    ·have : cmpL ls.reverse ms.reverse = 0 := by
      refine (zAp (by simp; omega) hz).trans (if_neg (by simp; omega))
     rw [this]
     exact z04 (fun h => h2 (by have h' : (ls.length : Int) > ms.length := of_decide_eq_true h; omega)) rfl
  ·refine z0K hloop ?_
   have h1 : k < ls.reverse.length := by simp; omega
   have h2 : k < ms.reverse.length := by simp; omega
   have hne : Lib.compareBytes ls.reverse[k] ms.reverse[k] ≠ 0 := by
    intro h
    simp only [c, z0J h1, z0J h2, h] at hpk
    simp at hpk
   have : cmpL ls.reverse ms.reverse = Lib.compareBytes ls.reverse[k] ms.reverse[k] := zNq h1 h2 (fun i a b hi => by
    have := hall i hi
    simp only [c, beq_iff_eq, z0J a, z0J b] at this
    exact this) hne
   rw [this]
   simp only [c, z0J h1, z0J h2]; rfl
 ·intro i hi hp
  have hi1 : i < ls.length := by omega
  have hi2 : i < ms.length := by omega
  have hp' : c i = 0 := by simpa using hp
  obtain ⟨b1, b2⟩ := z3g (ls.reverse.getD i []) (ms.reverse.getD i [])
  have he := b2.2 hp'
  have hbl : Op.bytesLess (ls.reverse.getD i []) (ms.reverse.getD i []) = false := by
   cases hq : Op.bytesLess (ls.reverse.getD i []) (ms.reverse.getD i []) with
   | false => rfl
   | true => have := b1.1 hq; simp only [c] at hp'; omega
  have wl : IntKind.wrap .i64 ((ls.length : Int) - ((i + 1 : Nat) : Int)) = ((ls.length - 1 - i : Nat) : Int) := by rw [z0c] <;> omega
  have wm : IntKind.wrap .i64 ((ms.length : Int) - ((i + 1 : Nat) : Int)) = ((ms.length - 1 - i : Nat) : Int) := by rw [z0c] <;> omega
  have w1 : IntKind.wrap .i64 (((i + 1 : Nat) : Int) + 1) = ((i + 1 + 1 : Nat) : Int) := by rw [z0c] <;> omega
  refine z0x (r := (0, [.bool true])) (z01 (decide_eq_true (by simp; omega)) ?_) (sel0 (z01 rfl ?_))
  ·have : decide ((gd [D.int ((i + 1 : Nat) : Int)] 0).i ≤ (ms.length : Int)) = true := decide_eq_true (by simp; omega)
   rw [this]
  ·simp only [z14, D.i_int, wl, wm, w1, Int.toNat_natCast, hg ls i hi1, hg ms i hi2]
   refine z01 (z0B (by omega)) (z01 (z0B (by omega)) (z00 (by rw [hbl]; decide) (z00 ?_ rfl)))
   rw [hbl, he]; simp
 ·intro i hi hp
  have hi1 : i < ls.length := by omega
  have hi2 : i < ms.length := by omega
  have hp' : c i ≠ 0 := by simpa using hp
  obtain ⟨b1, b2⟩ := z3g (ls.reverse.getD i []) (ms.reverse.getD i [])
  have wl : IntKind.wrap .i64 ((ls.length : Int) - ((i + 1 : Nat) : Int)) = ((ls.length - 1 - i : Nat) : Int) := by rw [z0c] <;> omega
  have wm : IntKind.wrap .i64 ((ms.length : Int) - ((i + 1 : Nat) : Int)) = ((ms.length - 1 - i : Nat) : Int) := by rw [z0c] <;> omega
  refine z0x (r := (0, [.bool true])) (z01 (decide_eq_true (by simp; omega)) ?_) (sel0 (z01 rfl ?_))
  ·have : decide ((gd [D.int ((i + 1 : Nat) : Int)] 0).i ≤ (ms.length : Int)) = true := decide_eq_true (by simp; omega)
   rw [this]
  ·simp only [z14, D.i_int, wl, wm, Int.toNat_natCast, hg ls i hi1, hg ms i hi2]
   refine z01 (z0B (by omega)) (z01 (z0B (by omega)) ?_)
   rcases z5z (ls.reverse.getD i []) (ms.reverse.getD i []) with h | h | h
   ·refine z01 (b1.2 h) ?_
    simp only [c, h]
   ·exact absurd h hp'
   ·have hbl : Op.bytesLess (ls.reverse.getD i []) (ms.reverse.getD i []) = false := by
     cases hq : Op.bytesLess (ls.reverse.getD i []) (ms.reverse.getD i []) with
     | false => rfl
     | true => have := b1.1 hq; omega
    have hne : ls.reverse.getD i [] ≠ ms.reverse.getD i [] := fun e => hp' (b2.1 e)
    refine z00 (by rw [hbl]; decide) (z01 ?_ ?_)
    ·rw [hbl]; simpa using hne
    ·simp only [c, h]
 ·have hd : ¬ (((n + 1 : Nat) : Int) ≤ (ls.length : Int) ∧ ((n + 1 : Nat) : Int) ≤ (ms.length : Int)) := by simp only [n]; omega
  by_cases h1 : ((n + 1 : Nat) : Int) ≤ (ls.length : Int)
  ·refine z0x (r := (0, [.bool false])) (z01 (decide_eq_true h1) ?_) (sel0 (z00 (by simp) rfl))
   have : decide ((gd [D.int ((n + 1 : Nat) : Int)] 0).i ≤ (ms.length : Int)) = false := decide_eq_false (fun h => hd ⟨h1, h⟩)
   rw [this]
  ·exact z0x (r := (0, [.bool false])) (z00 (fun h => h1 (of_decide_eq_true h)) rfl) (sel0 (z00 (by simp) rfl))
theorem zKP {a b : List UInt8} (ha : a.length ≤ lim) (hb : b.length ≤ lim) : ∃ n : Int, z3z.F [.str a, .str b] = some (.int n) ∧ (z16 a = true → z16 b = true → n = cmpN a b) := by
 rw [zCd]
 obtain ⟨ls, h1, hl1, hp1⟩ := z4v a ha
 obtain ⟨ms, h2, hl2, hp2⟩ := z4v b hb
 refine ⟨cmpL ls.reverse ms.reverse, z02 h1 (z02 h2 (zIa ls ms (by omega) (by omega) _ _ _ rfl)), fun n1 n2 => ?_⟩
 rw [hp1 n1, hp2 n2]; rfl
end Go.Proofs.YtllbponcjpcbnaaGreatDoor
namespace Go.Proofs.YtllbponcjpcbnaaGreatDoor
open Go Go.Own
def zGj (n k : Nat) : D := .int (IntKind.wrap .u8 ((n / 2 ^ (8 * k) : Nat) : Int))
def bigL (n : Nat) : Nat → List D
 | 0 => []
 | c + 1 => zGj n c :: bigL n c
theorem zCh (n : Nat) : ∀ c, (bigL n c).length = c
 | 0 => rfl
 | c + 1 => by simp [bigL, zCh n c]
def bigB (n c : Nat) : List UInt8 := z0e (bigL n c)
theorem z6W (n c : Nat) : (bigB n c).length = c := by unfold bigB; rw [z1D, zCh]
theorem zGw (n k : Nat) : (n : Int).fdiv (2 ^ k) = ((n / 2 ^ k : Nat) : Int) := by
 rw [Int.fdiv_eq_ediv_of_nonneg _ (Int.le_of_lt (Int.pow_pos (by decide)))]
 norm_cast
theorem zLJ {c : Nat} (hc : c ≤ 4) (n : Nat) : z34.F [.int (n : Int), .int c] = some (.str (bigB n c)) := by
 rw [zBE]
 have w0 : IntKind.wrap .i64 ((c : Int) - 1) = (c : Int) - 1 := by rw [z0c] <;> omega
 simp only [D.i_int, w0]
 obtain ⟨l, hl, hloop⟩ := z9v (f := fun l2 =>
  if (decide ((gd l2 1).i ≥ 0)) then
   if (decide (0 ≤ (IntKind.wrap .i64 (8 * (gd l2 1).i)))) then
   if (appOk 1 (gd l2 0).l ((.int (IntKind.wrap .u8 ((n : Int).fdiv (2 ^ min (IntKind.wrap .i64 (8 * (gd l2 1).i)).toNat (IntKind.bits .i64))))) :: ([] : List D))) then
   ou 0 [(D.lst ((gd l2 0).l ++ ((.int (IntKind.wrap .u8 ((n : Int).fdiv (2 ^ min (IntKind.wrap .i64 (8 * (gd l2 1).i)).toNat (IntKind.bits .i64))))) :: ([] : List D)))), (.int (IntKind.wrap .i64 ((gd l2 1).i - 1)))]
   else none
   else none
  else
   ou 1 [(gd l2 0)]) (l := [.lst [], .int ((c : Int) - 1)]) (fun m (zs : List D) => [.lst zs, .int ((m : Int) - 1)]) (fun m zs => m ≤ 4 ∧ zs ++ bigL n m = bigL n c) (t := 0) (out := fun zs => [.lst zs]) c [] rfl ⟨hc, rfl⟩ (by
  intro m zs hz
  have hzl : zs.length + (m + 1) = c := by have := congrArg List.length hz.2; simpa [zCh] using this
  have w1 : IntKind.wrap .i64 (8 * (((m + 1 : Nat) : Int) - 1)) = ((8 * m : Nat) : Int) := by rw [z0c] <;> omega
  have w2 : IntKind.wrap .i64 ((((m + 1 : Nat) : Int) - 1) - 1) = (m : Int) - 1 := by rw [z0c] <;> omega
  have hb : (D.int (IntKind.wrap .u8 ((n : Int).fdiv (2 ^ min ((8 * m : Nat) : Int).toNat (IntKind.bits .i64))))) = zGj n m := by
   have : min ((8 * m : Nat) : Int).toNat (IntKind.bits .i64) = 8 * m := by
    have : IntKind.bits .i64 = 64 := rfl
    rw [this]; omega
   rw [this, zGw]; rfl
  refine ⟨zs ++ [zGj n m], z01 (decide_eq_true (by simp)) (z01 ?_ (z01 ?_ ?_)), by omega, by rw [← hz.2]; simp [bigL]⟩
  ·simp only [z4d, D.i_int, w1]; exact decide_eq_true (by omega)
  ·simp only [z14, D.l_lst, appOk, List.length_singleton]
   simp [z0p]; omega
  ·simp only [z14, z4d, D.i_int, D.l_lst, w1, w2, hb]) (by
  intro zs _
  exact z00 (by simp) rfl)
 have : l = bigL n c := by simpa [bigL] using hl.2
 subst this
 exact z0K hloop rfl
theorem z8z {c : Nat} (hc : c ≤ 4) (n : Nat) : z1G.F [.int (n : Int), .int c] = some (.str (bigB n c)) := by
 rw [z6Q]
 have w0 : IntKind.wrap .i64 ((c : Int) - 1) = (c : Int) - 1 := by rw [z0c] <;> omega
 simp only [D.i_int, w0]
 obtain ⟨l, hl, hloop⟩ := z9v (f := fun l2 =>
  if (decide ((gd l2 2).i ≥ 0)) then
   if (inb (gd l2 2).i (gd l2 1).l.length) then
   if (decide (0 ≤ 8)) then
   ou 0 [(.int ((gd l2 0).i.fdiv (2 ^ min 8 (IntKind.bits .i64)))), (D.lst ((gd l2 1).l.set (gd l2 2).i.toNat (.int (IntKind.wrap .u8 (gd l2 0).i)))), (.int (IntKind.wrap .i64 ((gd l2 2).i - 1)))]
   else none
   else none
  else
   ou 1 [(gd l2 1)]) (l := [.int n, .lst (List.replicate ((c : Int)).toNat (.int 0)), .int ((c : Int) - 1)]) (fun m (z : Int × List D) => [.int z.1, .lst z.2, .int ((m : Int) - 1)]) (fun m z => m ≤ c ∧ z.1 = ((n / 2 ^ (8 * (c - m)) : Nat) : Int) ∧ z.2 = List.replicate m (.int 0) ++ bigL n (c - m)) (t := 0) (out := fun z => [.lst z.2]) c (n, List.replicate c (.int 0)) (by simp) (by simp [bigL]) (by
  rintro m ⟨x, zs⟩ ⟨hm, hx, hz⟩
  simp only at hx hz
  have w2 : IntKind.wrap .i64 ((((m + 1 : Nat) : Int) - 1) - 1) = (m : Int) - 1 := by rw [z0c] <;> omega
  have hlen : zs.length = c := by rw [hz]; simp [zCh]; omega
  have hcm : c - m = (c - (m + 1)) + 1 := by omega
  refine ⟨(x.fdiv (2 ^ min 8 (IntKind.bits .i64)), zs.set m (.int (IntKind.wrap .u8 x))), z01 (decide_eq_true (by simp)) (z01 ?_ (z01 (by decide) ?_)), by omega, ?_, ?_⟩
  ·simp only [z7m, z4d, D.i_int, D.l_lst]; exact zKZ (by omega) (by omega)
  ·have e : (((m + 1 : Nat) : Int) - 1).toNat = m := by omega
   simp only [z14, z4d, z7m, D.i_int, D.l_lst, w2, e]
  ·simp only
   rw [hx, show min 8 (IntKind.bits .i64) = 8 from rfl, zGw, hcm, Nat.div_div_eq_div_mul, ← Nat.pow_add, show 8 * (c - (m + 1)) + 8 = 8 * (c - (m + 1) + 1) by omega]
  ·simp only
   rw [hz, hx, hcm, bigL, List.replicate_succ', List.append_assoc, List.set_append_right _ _ (by simp)]
   simp [zGj]) (by
  intro zs _
  exact z00 (by simp) rfl)
 have : l.2 = bigL n c := by simpa using hl.2.2
 refine z0U ?_ (z0K hloop ?_)
 ·exact zAu (by have : lim = 1048576 := rfl; omega) (by decide)
 ·rw [this]; rfl
theorem zDf {s : List UInt8} {m : Int} (hm : m < 10000000000) (h : z2g s m = true) : z62 s = dv s := by
 have h2 := z8Q (s := s) hm
 rw [h] at h2
 simp only [Bool.and_eq_true, decide_eq_true_eq] at h2
 unfold z62 at h2 ⊢
 split
 ·rfl
 ·rename_i hn; rw [if_neg hn] at h2; omega
def z74 (ps : List (List UInt8)) : Nat → List UInt8
 | 0 => []
 | i + 1 => z74 ps i ++ bigB (dv (ps.getD i [])) 1
theorem z9Z (ps : List (List UInt8)) : ∀ i, (z74 ps i).length = i
 | 0 => rfl
 | i + 1 => by simp [z74, z9Z ps i, z6W]
theorem zQ9 {s : List UInt8} (h : s.length ≤ lim) (hok : z9a s = true) : ∃ b : List UInt8, z0y.F [.int 1, .str s] = some (.pair (.str b) (.pair (.bool true) .unit)) ∧ z1I.F [.int 1, .str s] = some (.pair (.str b) (.pair (.bool true) .unit)) ∧ b = z74 (splB 46 s) (splB 46 s).length := by
 have hlim : lim = 1048576 := rfl
 rw [z4t, z5j]
 have hsp := zKR s (by omega)
 have hsp2 := z7i s 46 h
 have hpl := z7Q 46 s
 have hpm := z7R 46 s
 unfold z9a at hok
 generalize splB 46 s = ps at hsp hsp2 hpl hpm hok ⊢
 simp only [Bool.and_eq_true, decide_eq_true_eq, List.all_eq_true] at hok
 obtain ⟨hnum, h4⟩ := hok
 have hsm : ps.length ≤ smax := by rw [z0p]; omega
 have hlen : (D.lst (ps.map D.str)).l.length = ps.length := by simp
 have hcat : ∀ i, i < ps.length → catOk (z74 ps i) (bigB (dv (ps.getD i [])) 1) = true := fun i hi => by
  unfold catOk; rw [z0p, z9Z, z6W]; exact decide_eq_true (by omega)
 refine ⟨z74 ps ps.length, z0U rfl (z02 hsp (z0K (r := (1, [.str (z74 ps ps.length)])) ?_ rfl)), z0U rfl (z02 hsp2 (z0K (r := (1, [.str (z74 ps ps.length)])) ?_ ?_)), rfl⟩
 ·refine z1R (f := zQA ps) (fun i (t : List UInt8) => [.str t, .int i]) ps.length (z74 ps) rfl ?_ (z00 (by simp) rfl)
  intro i hi
  have hpi := hpm _ (List.getElem_mem hi)
  obtain ⟨v, hn, hv⟩ := z6C (s := ps[i]) (m := 255) (by omega) (by decide)
  have hq := hnum _ (List.getElem_mem hi)
  rw [hq] at hn
  have hv' := hv hq
  subst hv'
  have hc := hcat i hi
  rw [z0J hi] at hc
  refine (zAV hi hsm _).trans (z05 hn (z0x (r := (0, [.bool false])) (z00 (by simp) (by simp [h4])) (sel0 (z00 (by simp) (z05 (zLJ (c := 1) (by omega) _) (z01 hc ?_))))))
  rw [z74, z0J hi]; rfl
 ·refine z1R (f := zQJ ps) (fun i (t : List UInt8) => [.str t, .int i]) ps.length (z74 ps) rfl ?_ (z00 (by simp) rfl)
  intro i hi
  have hpi := hpm _ (List.getElem_mem hi)
  have hint := zAX (s := ps[i]) (by omega)
  have hq := hnum _ (List.getElem_mem hi)
  have hin := z9e (z62 ps[i]) 0 255
  rw [z8Q (by decide), hq] at hin
  have he := zDf (by decide) hq
  rw [he] at hint hin
  have hc := hcat i hi
  rw [z0J hi] at hc
  refine (zAZ hi hsm _).trans (z05 hint (z05 hin (z00 (by simp) (z05 (z8z (c := 1) (by omega) _) (z01 hc ?_)))))
  rw [z74, z0J hi]; rfl
 ·have : ((ps.length : Int) == 4) = true := by rw [h4]; rfl
  simp only [zLm, zEv, z14, hlen, this]; rfl
theorem zR2 {s : List UInt8} (h : s.length ≤ lim) (hn : z16 s = true) : ∃ b : List UInt8, b.length ≤ 2 * lim ∧ z28.F [.str s] = some (.str b) ∧ z3D.F [.str s] = some (.str (b ++ [0])) ∧ b = labB (z1X s) := by
 have hlim : lim = 1048576 := rfl
 rw [z72, z8s]
 have hl := z6s s (by omega)
 have hp : (if s.isEmpty then [] else splB 46 s) = z1X s := rfl
 rw [hp] at hl
 obtain ⟨ls, hl2, hll, hpt⟩ := z4v s h
 rw [hpt hn] at hl2
 obtain ⟨b, hb, hloop, hbE⟩ := zHN (ls := z1X s) (Nat.le_trans (zAo s) (by omega)) (Nat.le_trans (z6O s).1 (by omega))
 refine ⟨b, hb, z02 hl (z0K hloop rfl), z02 hl2 (z0K hloop (z0U (z67 (by simp; omega)) ?_)), hbE⟩
 simp
def datE (k : Int) (s : List UInt8) : List UInt8 := if k = 1 then z74 (splB 46 s) (splB 46 s).length else if k = 2 ∨ k = 5 then labB (z1X s) ++ [0] else if k = 6 then bigB (dv s) 4 else
 if k = 15 then (bigB (dv (Lib.cut s [32]).1) 2 ++ labB (z1X (Lib.cut s [32]).2.1)) ++ [0] else bigB s.length 1 ++ s
theorem zNC {k : Int} {s : List UInt8} (h : s.length ≤ lim) (hok : z3r k s = true) : ∃ b : List UInt8, z0y.F [.int k, .str s] = some (.pair (.str b) (.pair (.bool true) .unit)) ∧ z1I.F [.int k, .str s] = some (.pair (.str b) (.pair (.bool true) .unit)) ∧ b = datE k s := by
 have hlim : lim = 1048576 := rfl
 unfold z3r at hok
 by_cases k1 : k = 1
 ·subst k1; rw [if_pos rfl] at hok; 
  obtain ⟨b, h1, h2, h3⟩ := zQ9 h hok
  exact ⟨b, h1, h2, by rw [h3, datE, if_pos rfl]⟩
 rw [if_neg k1] at hok
 rw [z4t, z5j]
 have e1 : ¬ ((D.int k).i == 1) = true := by simpa using k1
 by_cases k25 : k = 2 ∨ k = 5
 ·rw [if_pos k25] at hok
  have ht := z8M h
  have ht2 := z8O h
  rw [hok] at ht ht2
  have hj : (if (D.int k).i == 2 then ou 0 [.bool ((D.int k).i == 2)] else ou 0 [.bool ((D.int k).i == 5)] : Outc) = some (0, [.bool true]) := by
   rcases k25 with rfl | rfl <;> rfl
  have hn : z16 s = true := by unfold z5c at hok; simp only [Bool.and_eq_true] at hok; exact hok.2.1
  obtain ⟨b, hbl, hb1, hb2, hbE⟩ := zR2 h hn
  exact ⟨b ++ [0], z04 e1 (z06 hj (z0U rfl (z02 ht (z04 (by simp) (z02 hb1 (z0U (z67 (by simp; omega)) rfl)))))), z04 e1 (z06 hj (z0U rfl (z02 ht2 (z04 (by simp) (z02 hb2 rfl))))), by rw [datE, if_neg k1, if_pos k25, hbE]⟩
 rw [if_neg k25] at hok
 have hj : (if (D.int k).i == 2 then ou 0 [.bool ((D.int k).i == 2)] else ou 0 [.bool ((D.int k).i == 5)] : Outc) = some (0, [.bool false]) := by
  have h2 : ¬ k = 2 := fun h => k25 (.inl h)
  have h5 : ¬ k = 5 := fun h => k25 (.inr h)
  simp [h2, h5]
 by_cases k6 : k = 6
 ·rw [if_pos k6] at hok; subst k6
  obtain ⟨v, hn, hv⟩ := z6C (s := s) (m := 4294967295) h (by decide)
  have hv' := hv hok
  subst hv'
  rw [hok] at hn
  have hi := zAX h
  have hin := z9e (z62 s) 0 4294967295
  rw [z8Q (by decide), hok] at hin
  rw [zDf (by decide) hok] at hi hin
  exact ⟨bigB (dv s) 4, z04 e1 (z06 hj (z04 (by simp) (z0U rfl (z02 hn (z04 (by simp) (z02 (zLJ (c := 4) (by omega) _) rfl)))))), z04 e1 (z06 hj (z04 (by simp) (z0U rfl (z02 hi (z02 (z8z (c := 4) (by omega) _) (z02 hin rfl)))))), by rfl⟩
 rw [if_neg k6] at hok
 have e6 : ¬ ((D.int k).i == 6) = true := by simpa using k6
 by_cases k15 : k = 15
 ·rw [if_pos k15] at hok; subst k15
  have hmx := zNy s
  rw [hok] at hmx
  have hc := zQq h
  have hle := zNA s [32]
  have hsp := z7i s 32 h
  unfold mxOk at hok
  have h32 : 32 ∈ s := by
   by_cases h0 : 32 ∈ s
   ·exact h0
   ·rw [z5y h0] at hok; simp [mxP] at hok
  obtain ⟨a, q, rfl, hp⟩ := z9A h32
  rw [z9c hp] at hc hmx
  have hq32 : 32 ∉ q := by
   intro hq
   have := hmx.symm
   simp only [Bool.and_eq_true] at this
   rw [zJt hq] at this
   exact absurd this.2 (by decide)
  rw [z8Y hp, z5y hq32] at hsp
  have hmx' := hmx.symm
  simp only [Bool.and_eq_true] at hmx'
  obtain ⟨hna, htq⟩ := hmx'
  have hla : a.length ≤ lim := by simp at h; omega
  have hlq : q.length ≤ lim := by simp at h; omega
  obtain ⟨v, hn, hv⟩ := z6C (s := a) (m := 65535) hla (by decide)
  have hv' := hv hna
  subst hv'
  rw [hna] at hn
  have ht := z8M hlq
  have ht2 := z8O hlq
  rw [htq] at ht ht2
  have hi := zAX (s := a) hla
  have hin := z9e (z62 a) 0 65535
  rw [z8Q (by decide), hna] at hin
  rw [zDf (by decide) hna] at hi hin
  have hnq : z16 q = true := by unfold z5c at htq; simp only [Bool.and_eq_true] at htq; exact htq.2.1
  obtain ⟨b, hbl, hb1, hb2, hbE⟩ := zR2 hlq hnq
  have f0 : (cutD (a, q, true)).fld 0 = .str a := rfl
  have f1 : (cutD (a, q, true)).fld 1 = .str q := rfl
  have hbb := z6W (dv a) 2
  refine ⟨(bigB (dv a) 2 ++ b) ++ [0], z04 e1 (z06 hj (z04 (by simp) (z04 e6 (z0U rfl (z02 hc ?_))))), z04 e1 (z06 hj (z04 (by simp) (z04 e6 (z0U rfl (z02 hsp (z06 (l := [.bool false]) (z00 (by simp) (z01 rfl (z05 hi (z05 hin (z00 (by simp) (z01 rfl (z05 ht2 rfl))))))) (z04 (by simp) (z0U rfl (z02 hi (z02 (z8z (c := 2) (by omega) _) (z0U rfl (z02 hb2 (z0U (z67 (by simp; omega)) ?_))))))))))))), by rw [datE, if_neg (by decide), if_neg (by decide), if_neg (by decide), if_pos rfl, z9c hp, hbE]⟩
  ·rw [f0, f1]
   exact z02 hn (z06 (l := [.bool false]) (z00 (by simp) (z05 ht rfl)) (z04 (by simp) (z02 (zLJ (c := 2) (by omega) _) (z02 hb1 (z0U (z67 (by simp only [D.s_str]; omega)) (z0U (z67 (by simp; omega)) rfl))))))
  ·simp
 rw [if_neg k15] at hok
 have e15 : ¬ ((D.int k).i == 15) = true := by simpa using k15
 by_cases k16 : k = 16
 ·rw [if_pos k16] at hok; subst k16
  have hc := zD2 (s := s) .unit (Nat.le_trans h z1A)
  have hsm := Nat.le_trans h z1A
  let q : UInt8 → Bool := fun c => decide (32 ≤ c.toNat) && decide (c.toNat ≤ 126)
  have hb1 := z1D [.int (IntKind.wrap .u8 (s.length : Int))]
  have hloop := z3a (f := fun l3 =>
                if (decide ((gd l3 0).i < ((D.str s).s.length : Int))) then
                 (if (inb (gd l3 0).i (D.str s).s.length) then
                   if (decide ((byteAt (D.str s).s (gd l3 0).i.toNat : Int) < 32)) then
                    ou 0 [(.bool true)]
                   else
                    ou 0 [(.bool (decide ((byteAt (D.str s).s (gd l3 0).i.toNat : Int) > 126)))]
                   else none).bind fun o4 =>
                 sel2 o4.1 (if (gd o4.2 0).b then
                  ou 1 [(D.str []), (.bool false)]
                  else
                   ou 0 [(.int (IntKind.wrap .i64 ((gd l3 0).i + 1)))]) fun _ => none
                else
                 ou 2 []) (l := [.int 0]) (fun i => [.int i]) s.length (fun i => q (s.getD i 0)) (t1 := 0) (t2 := 1) (o1 := [.str [], .bool false]) (o2 := []) rfl (by
   intro i hi
   rw [z0J hi]
   have hb : byteAt s i = (s[i]).toNat := z5A hi
   refine z01 (by simpa using hi) (z0x (r := (0, [.bool !(q s[i])])) (z01 (by simpa using z0B hi) ?_) (sel0 ?_))
   ·simp only [z14, D.i_int, Int.toNat_natCast, D.s_str, hb, q]
    by_cases hlo : ((s[i]).toNat : Int) < 32
    ·have : decide (32 ≤ (s[i]).toNat) = false := by simp; omega
     exact z01 (decide_eq_true hlo) (by rw [this]; rfl)
    ·have h1 : decide (32 ≤ (s[i]).toNat) = true := by simp; omega
     refine z00 (fun h => hlo (of_decide_eq_true h)) ?_
     have : decide (((s[i]).toNat : Int) > 126) = !(decide ((s[i]).toNat ≤ 126)) := by
      rw [Bool.eq_iff_iff]; simp; omega
     rw [h1, this]; rfl
   ·cases q s[i] with
    | true => simp [z0N hi hsm]
    | false => rfl) (by simp)
  rw [z5h s q 0] at hloop
  unfold zOj at hok
  simp only [Bool.and_eq_true, decide_eq_true_eq] at hok
  obtain ⟨h30, hq⟩ := hok
  rw [hq] at hc
  rw [show s.all q = true from hq] at hloop
  have hbb := z6W s.length 1
  have he : z0e [.int (IntKind.wrap .u8 (s.length : Int))] = bigB s.length 1 := by
   simp [bigB, bigL, zGj]
  refine ⟨bigB s.length 1 ++ s, z04 e1 (z06 hj (z04 (by simp) (z04 e6 (z04 e15 (z0U rfl (z06 (l := [.bool false]) (z00 (fun h => by have h' : (s.length : Int) > 30 := of_decide_eq_true h; omega) (z05 hc rfl)) (z04 (by simp) (z02 (zLJ (c := 1) (by omega) _) (z0U (z67 (by simp only [D.s_str]; omega)) rfl))))))))), z04 e1 (z06 hj (z04 (by simp) (z04 e6 (z04 e15 (z0U rfl (z0K hloop (z0U (z67 ?_) ?_))))))), by rfl⟩
  ·rw [D.s_str, hb1, List.length_singleton]; omega
  ·have : decide ((s.length : Int) ≤ 30) = true := by simp; omega
   rw [D.s_str, this, he]; rfl
 ·rw [if_neg k16] at hok; cases hok
noncomputable def datB (k : Int) (s : List UInt8) : List UInt8 := match z0y.F [.int k, .str s] with
 | some (.pair (.str b) _) => b
 | _ => []
theorem zQF {k : Int} {s : List UInt8} (h : s.length ≤ lim) (hok : z3r k s = true) : z0y.F [.int k, .str s] = some (.pair (.str (datB k s)) (.pair (.bool true) .unit)) := by
 obtain ⟨b, h1, _⟩ := zNC h hok
 unfold datB
 rw [h1]
theorem zQs {k : Int} {s : List UInt8} (h : s.length ≤ lim) (hok : z3r k s = true) : z1I.F [.int k, .str s] = some (.pair (.str (datB k s)) (.pair (.bool true) .unit)) := by
 obtain ⟨b, h1, h2, _⟩ := zNC h hok
 unfold datB
 rw [h1]; exact h2
theorem zNB {k : Int} {s : List UInt8} (h : s.length ≤ lim) (hok : z3r k s = true) : datB k s = datE k s := by
 obtain ⟨b, h1, _, h3⟩ := zNC h hok
 unfold datB
 rw [h1]; exact h3
end Go.Proofs.YtllbponcjpcbnaaGreatDoor
namespace Go.Proofs.YtllbponcjpcbnaaGreatDoor
open Go Go.Own
theorem zGp (a b : Int) : z1K.F [.int a, .int b] = some (.int (intC a b)) := by
 have n1 : ∀ s : Int, z3K.F [.int s] = some (.bool false) := fun s => by
  rw [zEP]; simp
 rw [zB9]
 refine z02 (n1 a) (z02 (n1 b) (z04 (by simp) (z04 (by simp) ?_)))
 unfold intC
 by_cases h : a < b
 ·rw [if_pos h]; exact z0U (decide_eq_true h) rfl
 ·rw [if_neg h]
  refine z04 (fun h' => h (of_decide_eq_true h')) ?_
  by_cases h2 : b < a
  ·rw [if_pos h2]; exact z0U (decide_eq_true h2) rfl
  ·rw [if_neg h2]; exact z04 (fun h' => h2 (of_decide_eq_true h')) rfl
def orL : List Int → Int
 | [] => 0
 | x :: xs => if x = 0 then orL xs else x
theorem zLg : ∀ {xs : List Int}, (∀ i (h : i < xs.length), xs[i] = 0) → orL xs = 0
 | [], _ => rfl
 | x :: xs, h => by
   have h0 := h 0 (by simp)
   simp only [List.getElem_cons_zero] at h0
   rw [orL, if_pos h0]
   exact zLg fun i hi => by have := h (i + 1) (by simp; omega); simpa using this
theorem zPw : ∀ {xs : List Int} {k : Nat} (hk : k < xs.length), (∀ i (h : i < xs.length), i < k → xs[i] = 0) → xs[k] ≠ 0 → orL xs = xs[k]
 | x :: xs, 0, _, _, hne => by rw [orL, if_neg (by simpa using hne)]; rfl
 | x :: xs, k + 1, hk, h, hne => by
   have h0 := h 0 (by simp) (by omega)
   simp only [List.getElem_cons_zero] at h0
   rw [orL, if_pos h0]
   exact zPw (xs := xs) (k := k) (by simpa using hk) (fun i hi hik => by have := h (i + 1) (by simp; omega) (by omega); simpa using this) (by simpa using hne)
theorem zNP {xs : List Int} (hl : xs.length ≤ lim) : z4H.F [.lst (xs.map .int)] = some (.int (orL xs)) := by
 have hsm := Nat.le_trans hl z1A
 rw [zJL]
 have hlen : (D.lst (xs.map D.int)).l.length = xs.length := by simp
 rw [hlen]
 have key := z5M (l := [.int 0]) (fun i => [.int i]) xs.length (fun i => xs.getD i 0 == 0) (t1 := 0) (t2 := 1) (o1 := fun i => [.int (xs.getD i 0)]) (o2 := []) (f := fun l1 =>
  if (decide ((gd l1 0).i < (xs.length : Int))) then
   if (inb (gd l1 0).i xs.length) then
   if ((gd (D.lst (xs.map D.int)).l (gd l1 0).i.toNat).i != 0) then
    ou 1 [(gd (D.lst (xs.map D.int)).l (gd l1 0).i.toNat)]
   else
    ou 0 [(.int (IntKind.wrap .i64 ((gd l1 0).i + 1)))]
   else none
  else
   ou 2 []) rfl (by
  intro i hi hp
  rw [z0J hi] at hp
  have : xs[i] = 0 := by simpa using hp
  simp [hi, z0B hi, z5V hi, this, z0N hi hsm]) (by
  intro i hi hp
  rw [z0J hi] at hp
  have : ¬ xs[i] = 0 := by simpa using hp
  simp [hi, z0B hi, z5V hi, this]) (by simp)
 rcases key with ⟨hall, hloop⟩ | ⟨k, hk, hpk, hall, hloop⟩
 ·refine z0K hloop ?_
  rw [zLg (fun i hi => by have := hall i hi; rw [z0J hi] at this; simpa using this)]; rfl
 ·refine z0K hloop ?_
  rw [z0J hk] at hpk
  have : orL xs = xs[k] := zPw hk (fun i hi hik => by have := hall i hik; rw [z0J hi] at this; simpa using this) (by simpa using hpk)
  rw [this, z0J hk]; rfl
theorem orL2 (x y : Int) : orL [x, y] = if x = 0 then y else x := by
 simp only [orL]; split
 ·split <;> simp_all
 ·rfl
theorem orL3 (x y z : Int) : orL [x, y, z] = if x = 0 then (if y = 0 then z else y) else x := by
 simp only [orL]; split
 ·split
  ·split <;> simp_all
  ·rfl
 ·rfl
def cmpK (a b : Rec) : Int := orL [cmpN a.name b.name, intC a.type b.type]
theorem zGq {a b : Rec} (ha : a.In lim) (hb : b.In lim) : z36.F [a.d, b.d] = some (.int (cmpK a b)) := by
 rw [zAD]
 exact z02 (zFA ha.name hb.name) (z02 (zGp a.type b.type) (z02 (zNP (xs := [cmpN a.name b.name, intC a.type b.type]) (Nat.le_of_ble_eq_true rfl)) rfl))
noncomputable def datX (k : Int) (s : List UInt8) : List UInt8 := if z3r k s = true then datB k s else []
theorem zD3 {k : Int} {s : List UInt8} (h : s.length ≤ lim) : z35.F [.int k, .str s] = some (.str (datX k s)) := by
 rw [zCT]
 unfold datX
 by_cases hok : z3r k s = true
 ·rw [if_pos hok]
  exact z02 (zQF h hok) (z04 (by simp) rfl)
 ·rw [if_neg hok]
  obtain ⟨b, hb⟩ := zPq (k := k) h
  rw [show z3r k s = false by simpa using hok] at hb
  exact z02 hb (z0U rfl rfl)
noncomputable def cmpR (a b : Rec) : Int := orL [cmpK a b, Lib.compareBytes (datX a.type a.data) (datX b.type b.data), intC a.ttl b.ttl]
theorem zIg (a b : List UInt8) : z2n.F [.str a, .str b] = some (.int (Lib.compareBytes a b)) := by
 rw [show z2n.F = zLF from by unfold z2n zCk; rfl]
 rfl
theorem z7T {a b : Rec} (ha : a.In lim) (hb : b.In lim) : z0s.F [a.d, b.d] = some (.int (cmpR a b)) := by
 rw [z8B]
 exact z02 (zGq ha hb) (z02 (zD3 ha.data) (z02 (zD3 hb.data) (z02 (zIg _ _) (z02 (zGp a.ttl b.ttl) (z02 (zNP (xs := [cmpK a b, Lib.compareBytes (datX a.type a.data) (datX b.type b.data), intC a.ttl b.ttl]) (Nat.le_of_ble_eq_true rfl)) rfl)))))
theorem z8N (b : Bool) : z3j.F [.bool b] = some (.int (if b then -1 else 1)) := by
 rw [zHm]; cases b <;> rfl
theorem zJ3 {x y : Int} (h : x ≠ y) : (if decide (x < y) then (-1 : Int) else 1) = intC x y := by
 unfold intC
 by_cases h1 : x < y
 ·simp [h1]
 ·have : y < x := by omega
  simp [h1, this]
theorem zKd {x y : List UInt8} (h : x ≠ y) : (if Op.bytesLess x y then (-1 : Int) else 1) = Lib.compareBytes x y := by
 obtain ⟨h1, h2⟩ := z3g x y
 rcases z5z x y with h3 | h3 | h3
 ·rw [if_pos (h1.2 h3), h3]
 ·exact absurd (h2.2 h3) h
 ·rw [if_neg (fun e => by have := h1.1 e; omega), h3]
theorem zD5 {a b : Rec} (ha : a.In lim) (hb : b.In lim) : ∃ n : Int, z0z.F [a.d, b.d] = some (.int n) ∧ (a.ok = true → b.ok = true → n = cmpR a b) := by
 rw [zCe]
 have f0 : a.d.fld 0 = .str a.name := rfl
 have f1 : a.d.fld 1 = .int a.type := rfl
 have f2 : a.d.fld 2 = .int a.ttl := rfl
 have f3 : a.d.fld 3 = .str a.data := rfl
 have g0 : b.d.fld 0 = .str b.name := rfl
 have g1 : b.d.fld 1 = .int b.type := rfl
 have g2 : b.d.fld 2 = .int b.ttl := rfl
 have g3 : b.d.fld 3 = .str b.data := rfl
 rw [f0, f1, f2, f3, g0, g1, g2, g3]
 obtain ⟨m, hm, hmE⟩ := zKP ha.name hb.name
 by_cases hok : a.ok = true ∧ b.ok = true
 ·obtain ⟨oka, okb⟩ := hok
  have ha' := oka
  have hb' := okb
  unfold Rec.ok at ha' hb'
  simp only [Bool.and_eq_true] at ha' hb'
  have hmE' := hmE ha'.2.1 hb'.2.1
  subst hmE'
  have ea : datX a.type a.data = datB a.type a.data := by unfold datX; rw [if_pos ha'.1]
  have eb : datX b.type b.data = datB b.type b.data := by unfold datX; rw [if_pos hb'.1]
  have hK : cmpK a b = if cmpN a.name b.name = 0 then intC a.type b.type else cmpN a.name b.name := orL2 _ _
  have hR : cmpR a b = if cmpK a b = 0 then (if Lib.compareBytes (datB a.type a.data) (datB b.type b.data) = 0 then intC a.ttl b.ttl else Lib.compareBytes (datB a.type a.data) (datB b.type b.data)) else cmpK a b := by
   have := orL3 (cmpK a b) (Lib.compareBytes (datX a.type a.data) (datX b.type b.data)) (intC a.ttl b.ttl)
   rw [ea, eb] at this
   rw [← this, cmpR, ea, eb]
  refine ⟨cmpR a b, z02 hm ?_, fun _ _ => rfl⟩
  by_cases h1 : cmpN a.name b.name = 0
  ·rw [if_pos h1] at hK
   refine z04 (by simp [h1]) (z02 (zQs ha.data ha'.1) (z02 (zQs hb.data hb'.1) ?_))
   by_cases h2 : a.type = b.type
   ·have : intC a.type b.type = 0 := by rw [h2]; exact z4s.refl _
    rw [if_pos (hK.trans this)] at hR
    refine z04 (by simp [h2]) ?_
    by_cases h3 : datB a.type a.data = datB b.type b.data
    ·rw [if_pos ((z3g _ _).2.1 h3)] at hR
     refine z04 (by simp [h3]) ?_
     rw [hR]
     by_cases h4 : a.ttl = b.ttl
     ·have : intC a.ttl b.ttl = 0 := by rw [h4]; exact z4s.refl _
      rw [this]
      exact z04 (by simp [h4]) rfl
     ·refine z0U (by simpa using h4) (z02 (z8N _) ?_)
      rw [← zJ3 h4]; rfl
    ·have : Lib.compareBytes (datB a.type a.data) (datB b.type b.data) ≠ 0 := fun h => h3 ((z3g _ _).2.2 h)
     rw [if_neg this] at hR
     refine z0U (by simpa using h3) (z02 (z8N _) ?_)
     have e1 : ((D.pair (.str (datB a.type a.data)) (.pair (.bool true) .unit)).fld 0).s = datB a.type a.data := rfl
     have e2 : ((D.pair (.str (datB b.type b.data)) (.pair (.bool true) .unit)).fld 0).s = datB b.type b.data := rfl
     rw [e1, e2, zKd h3, hR]; rfl
   ·have : intC a.type b.type ≠ 0 := fun h => h2 (z4s.eq _ _ h)
    rw [if_neg (by rw [hK]; exact this), hK] at hR
    refine z0U (by simpa using h2) (z02 (z8N _) ?_)
    rw [hR, ← zJ3 h2]; rfl
  ·rw [if_neg h1] at hK
   rw [if_neg (by rw [hK]; exact h1), hK] at hR
   rw [hR]
   exact z0U (by simpa using h1) rfl
 ·have hc : ∀ n : Int, a.ok = true → b.ok = true → n = cmpR a b := fun n h1 h2 => absurd ⟨h1, h2⟩ hok
  obtain ⟨x, hx⟩ := f_l3 (k := a.type) ha.data
  obtain ⟨y, hy⟩ := f_l3 (k := b.type) hb.data
  by_cases h1 : m = 0
  ·by_cases h2 : a.type = b.type
   ·by_cases h3 : x = y
    ·by_cases h4 : a.ttl = b.ttl
     ·exact ⟨0, z02 hm (z04 (by simp [h1]) (z02 hx (z02 hy (z04 (by simp [h2]) (z04 (by rw [h3]; simp) (z04 (by simp [h4]) rfl)))))), hc _⟩
     ·exact ⟨_, z02 hm (z04 (by simp [h1]) (z02 hx (z02 hy (z04 (by simp [h2]) (z04 (by rw [h3]; simp) (z0U (by simpa using h4) (z02 (z8N _) rfl))))))), hc _⟩
    ·exact ⟨_, z02 hm (z04 (by simp [h1]) (z02 hx (z02 hy (z04 (by simp [h2]) (z0U (by simpa using h3) (z02 (z8N _) rfl)))))), hc _⟩
   ·exact ⟨_, z02 hm (z04 (by simp [h1]) (z02 hx (z02 hy (z0U (by simpa using h2) (z02 (z8N _) rfl))))), hc _⟩
  ·exact ⟨m, z02 hm (z0U (by simpa using h1) rfl), hc _⟩
def Rec.nul : Rec := ⟨[], 0, 0, []⟩
theorem z4E {xs : List Rec} {i : Nat} (hi : i < xs.length) : gd (xs.map Rec.d) i = xs[i].d := z5V hi
noncomputable def upAt (xs : List Rec) (i : Nat) : Bool := (xs.getD i Rec.nul).ok && (i == 0 || decide (cmpR (xs.getD (i - 1) Rec.nul) (xs.getD i Rec.nul) < 0))
noncomputable def z6h (xs : List Rec) : Bool := allN xs.length (upAt xs)
theorem zKE {xs : List Rec} (hl : xs.length ≤ lim) (hx : ∀ x ∈ xs, x.In lim) : z3s.F [.lst (xs.map Rec.d)] = some (.bool (z6h xs)) := by
 have hsm := Nat.le_trans hl z1A
 rw [zCR]
 have hlen : (D.lst (xs.map Rec.d)).l.length = xs.length := by simp
 rw [hlen]
 refine z0K (z3a (fun i => [.int i]) xs.length (upAt xs) (t1 := 0) (t2 := 1) (o1 := []) (o2 := []) rfl ?_ ?_) ?_
 ·intro i hi
  have hg : gd (D.lst (xs.map Rec.d)).l i = xs[i].d := z4E hi
  have h1 := zIX (hx _ (List.getElem_mem hi))
  refine z01 (by simpa using hi) (z01 (by simpa using z0B hi) ?_)
  have e0 : (gd [D.int (i : Int)] 0).i.toNat = i := by simp
  have e1 : (gd [D.int (i : Int)] 0).i = i := rfl
  rw [e0, e1, hg, z0N hi hsm]
  refine z0x (r := (0, [.bool !(upAt xs i)])) ?_ ?_
  ·unfold upAt
   rw [z0J hi]
   cases hk : xs[i].ok with
   | false => rw [hk] at h1; exact z05 h1 (z01 rfl rfl)
   | true =>
     rw [hk] at h1
     refine z05 h1 (z00 (by simp) ?_)
     by_cases h0 : i = 0
     ·subst h0; exact z00 (by simp) rfl
     ·have w : IntKind.wrap .i64 ((i : Int) - 1) = ((i - 1 : Nat) : Int) := by rw [z0p] at hsm; rw [z0c] <;> omega
      have hi1 : i - 1 < xs.length := by omega
      have hc := z7T (hx _ (List.getElem_mem hi1)) (hx _ (List.getElem_mem hi))
      refine z01 (decide_eq_true (by omega)) (z01 (by rw [w]; exact z0B hi1) ?_)
      rw [w, Int.toNat_natCast, show (D.lst (xs.map Rec.d)).l = xs.map Rec.d from rfl, z4E hi1]
      refine z05 hc ?_
      rw [z0J hi1]
      have : decide ((D.int (cmpR xs[i - 1] xs[i])).i ≥ 0) = !(decide (cmpR xs[i - 1] xs[i] < 0)) := by
       rw [Bool.eq_iff_iff]; simp
      rw [this]
      have : (i == 0) = false := by simpa using h0
      rw [this]; simp
  ·cases upAt xs i <;> simp
 ·simp
 ·unfold z6h
  cases allN xs.length (upAt xs) <;> simp
theorem zP8 {xs : List Rec} (hl : xs.length ≤ lim) (hx : ∀ x ∈ xs, x.In lim) : z5K.F [.lst (xs.map Rec.d)] = some (.bool (z6h xs && decide (xs.length ≤ 40))) := by
 have hsm := Nat.le_trans hl z1A
 rw [zHp]
 have hlen : (D.lst (xs.map Rec.d)).l.length = xs.length := by simp
 rw [hlen]
 -- what the reference compares
 have hcs : ∀ i, i < xs.length → ∃ n : Int, z0z.F [(xs.getD (i - 1) Rec.nul).d, (xs.getD i Rec.nul).d] = some (.int n) ∧ ((xs.getD (i - 1) Rec.nul).ok = true → (xs.getD i Rec.nul).ok = true → n = cmpR (xs.getD (i - 1) Rec.nul) (xs.getD i Rec.nul)) := by
  intro i hi
  have hi1 : i - 1 < xs.length := by omega
  rw [z0J hi, z0J hi1]
  exact zD5 (hx _ (List.getElem_mem hi1)) (hx _ (List.getElem_mem hi))
 let cS : Nat → Int := fun i => match z0z.F [(xs.getD (i - 1) Rec.nul).d, (xs.getD i Rec.nul).d] with
  | some (.int n) => n
  | _ => 0
 have hcS : ∀ i, i < xs.length → z0z.F [(xs.getD (i - 1) Rec.nul).d, (xs.getD i Rec.nul).d] = some (.int (cS i)) ∧ ((xs.getD (i - 1) Rec.nul).ok = true → (xs.getD i Rec.nul).ok = true → cS i = cmpR (xs.getD (i - 1) Rec.nul) (xs.getD i Rec.nul)) := by
  intro i hi
  obtain ⟨n, h1, h2⟩ := hcs i hi
  have : cS i = n := by simp only [cS, h1]
  rw [this]; exact ⟨h1, h2⟩
 let up : Nat → Bool := fun i => (xs.getD i Rec.nul).ok && (i == 0 || decide (cS i < 0))
 have hup : allN xs.length up = z6h xs := by
  unfold z6h
  rw [Bool.eq_iff_iff, z1s, z1s]
  constructor
  ·intro h i hi
   have h1 := h i hi
   simp only [up, upAt, Bool.and_eq_true, Bool.or_eq_true, beq_iff_eq, decide_eq_true_eq] at h1 ⊢
   refine ⟨h1.1, h1.2.imp id fun h2 => ?_⟩
   by_cases h0 : i = 0
   ·subst h0
    rw [← (hcS 0 hi).2 h1.1 h1.1]; exact h2
   ·have h3 := h (i - 1) (by omega)
    simp only [up, Bool.and_eq_true] at h3
    rw [← (hcS i hi).2 h3.1 h1.1]; exact h2
  ·intro h i hi
   have h1 := h i hi
   simp only [up, upAt, Bool.and_eq_true, Bool.or_eq_true, beq_iff_eq, decide_eq_true_eq] at h1 ⊢
   refine ⟨h1.1, h1.2.imp id fun h2 => ?_⟩
   by_cases h0 : i = 0
   ·subst h0
    rw [(hcS 0 hi).2 h1.1 h1.1]; exact h2
   ·have h3 := h (i - 1) (by omega)
    simp only [upAt, Bool.and_eq_true] at h3
    rw [(hcS i hi).2 h3.1 h1.1]; exact h2
 refine z0K (z3a (fun i => [.int i]) xs.length up (t1 := 0) (t2 := 1) (o1 := []) (o2 := []) rfl ?_ ?_) ?_
 ·intro i hi
  have hg : gd (D.lst (xs.map Rec.d)).l i = xs[i].d := z4E hi
  have h1 := zGD (hx _ (List.getElem_mem hi))
  refine z01 (by simpa using hi) (z01 (by simpa using z0B hi) ?_)
  have e0 : (gd [D.int (i : Int)] 0).i.toNat = i := by simp
  have e1 : (gd [D.int (i : Int)] 0).i = i := rfl
  rw [e0, e1, hg, z0N hi hsm]
  refine z0x (r := (0, [.bool !(up i)])) ?_ ?_
  ·simp only [up]
   have hc := (hcS i hi).1
   rw [z0J hi] at hc ⊢
   cases hk : xs[i].ok with
   | false => rw [hk] at h1; exact z05 h1 (z01 rfl rfl)
   | true =>
     rw [hk] at h1
     refine z05 h1 (z00 (by simp) ?_)
     by_cases h0 : i = 0
     ·subst h0; exact z00 (by simp) rfl
     ·have w : IntKind.wrap .i64 ((i : Int) - 1) = ((i - 1 : Nat) : Int) := by rw [z0p] at hsm; rw [z0c] <;> omega
      have hi1 : i - 1 < xs.length := by omega
      rw [z0J hi1] at hc
      refine z01 (decide_eq_true (by omega)) (z01 (by rw [w]; exact z0B hi1) ?_)
      rw [w, Int.toNat_natCast, show (D.lst (xs.map Rec.d)).l = xs.map Rec.d from rfl, z4E hi1]
      refine z05 hc ?_
      have : decide ((D.int (cS i)).i ≥ 0) = !(decide (cS i < 0)) := by
       rw [Bool.eq_iff_iff]; simp
      rw [this]
      have : (i == 0) = false := by simpa using h0
      rw [this]; simp
  ·cases up i <;> simp
 ·simp
 ·rw [hup]
  have : decide ((xs.length : Int) ≤ 40) = decide (xs.length ≤ 40) := by rw [Bool.eq_iff_iff]; simp; omega
  cases z6h xs <;> simp [this]
end Go.Proofs.YtllbponcjpcbnaaGreatDoor
namespace Go.Proofs.YtllbponcjpcbnaaGreatDoor
open Go Go.Own
theorem zDd {α : Type} {f : α → D} {c : D → Option D} {xs : List α} {p : α → Bool} (hl : xs.length ≤ smax) (hc : ∀ x ∈ xs, c (f x) = some (.bool (p x))) :
 ∃ n : Int, rn ((z0a (fun l2 =>
  if (decide ((gd l2 0).i < ((D.lst (xs.map f)).l.length : Int))) then
   if (inb (gd l2 0).i (D.lst (xs.map f)).l.length) then
   (c (gd (D.lst (xs.map f)).l (gd l2 0).i.toNat)).bind fun r3 =>
   if r3.b then
    ou 1 [(gd l2 0)]
   else
    ou 0 [(.int (IntKind.wrap .i64 ((gd l2 0).i + 1)))]
   else none
  else
   ou 2 []) [(.int 0)]).bind fun o2 =>
  sel2 o2.1 (ou 0 [(gd o2.2 0)]) fun n2 =>
  sel2 n2 (ou 0 [(.int (-1))]) fun _ => none) = some (.int n) ∧ decide (n ≥ 0) = xs.any p := by
 have hlen : (D.lst (xs.map f)).l.length = xs.length := by simp
 rw [hlen]
 have key : ∃ r, rn ((z0a (fun l2 =>
  if (decide ((gd l2 0).i < (xs.length : Int))) then
   if (inb (gd l2 0).i xs.length) then
   (c (gd (D.lst (xs.map f)).l (gd l2 0).i.toNat)).bind fun r3 =>
   if r3.b then
    ou 1 [(gd l2 0)]
   else
    ou 0 [(.int (IntKind.wrap .i64 ((gd l2 0).i + 1)))]
   else none
  else
   ou 2 []) [(.int 0)]).bind fun o2 =>
  sel2 o2.1 (ou 0 [(gd o2.2 0)]) fun n2 =>
  sel2 n2 (ou 0 [(.int (-1))]) fun _ => none) = some r ∧ ∃ n : Int, r = .int n ∧ decide (n ≥ 0) = xs.any p := by
  cases xs with
  | nil => exact ⟨_, by rw [z11 (t := 1) (l' := []) (by simp)]; rfl, -1, rfl, rfl⟩
  | cons x0 xs' =>
    refine zKV (fun i => [.int i]) (x0 :: xs').length (fun i => !(p ((x0 :: xs').getD i x0))) (t1 := 0) (t2 := 1) (o1 := fun i => [.int i]) (o2 := []) rfl ?_ ?_ ?_ ?_ ?_
    ·intro i hi h
     rw [z0J hi] at h
     have := hc _ (List.getElem_mem hi)
     rw [show p (x0 :: xs')[i] = false by simpa using h] at this
     refine z01 (decide_eq_true (show (i : Int) < ((x0 :: xs').length : Int) by omega)) (z01 (by simpa using z0B hi) ?_)
     have e0 : (gd [D.int (i : Int)] 0).i.toNat = i := by simp
     have e1 : (gd [D.int (i : Int)] 0).i = i := rfl
     rw [e0, e1, z0N hi hl, show (D.lst ((x0 :: xs').map f)).l = (x0 :: xs').map f from rfl, z5V hi]
     exact z05 this (z00 (by simp) rfl)
    ·intro i hi h
     rw [z0J hi] at h
     have := hc _ (List.getElem_mem hi)
     rw [show p (x0 :: xs')[i] = true by simpa using h] at this
     refine z01 (decide_eq_true (show (i : Int) < ((x0 :: xs').length : Int) by omega)) (z01 (by simpa using z0B hi) ?_)
     have e0 : (gd [D.int (i : Int)] 0).i.toNat = i := by simp
     rw [e0, show (D.lst ((x0 :: xs').map f)).l = (x0 :: xs').map f from rfl, z5V hi]
     exact z05 this (z01 rfl rfl)
    ·exact z00 (by simp) rfl
    ·intro hall
     refine ⟨_, rfl, -1, rfl, ?_⟩
     have : (x0 :: xs').any p = false := by
      rw [List.any_eq_false]
      intro x hx
      obtain ⟨i, hi, rfl⟩ := List.getElem_of_mem hx
      have := hall i hi
      rw [z0J hi] at this
      simpa using this
     rw [this]; rfl
    ·intro j hj hp' _
     refine ⟨_, rfl, j, rfl, ?_⟩
     rw [z0J hj] at hp'
     have : (x0 :: xs').any p = true := by
      rw [List.any_eq_true]
      exact ⟨_, List.getElem_mem hj, by simpa using hp'⟩
     rw [this]; simp
 obtain ⟨r, h1, n, rfl, h2⟩ := key
 exact ⟨n, h1, h2⟩
theorem zOa {a l : List UInt8} : (l.isSuffixOf a) = (decide (l.length ≤ a.length) && (a.drop (a.length - l.length) == l)) := by
 rw [Bool.eq_iff_iff, List.isSuffixOf_iff_suffix]
 simp only [Bool.and_eq_true, decide_eq_true_eq, beq_iff_eq]
 constructor
 ·intro h; exact ⟨h.length_le, (List.suffix_iff_eq_drop.1 h).symm⟩
 ·rintro ⟨_, h⟩; rw [← h]; exact List.drop_suffix _ _
theorem zKN {a l : List UInt8} (ha : a.length ≤ lim) (hb : l.length ≤ lim + 1) : z2t.F [.str a, .str l] = some (.bool (l.isSuffixOf a)) := by
 have hlim : lim = 1048576 := rfl
 rw [z9Q]
 have : z0v.F [.str a, .str l] = some (.bool (l.isSuffixOf a)) := by
  rw [z5U, zOa]
  by_cases h : l.length ≤ a.length
  ·have w : IntKind.wrap .i64 ((a.length : Int) - (l.length : Int)) = ((a.length - l.length : Nat) : Int) := by rw [z0c] <;> omega
   refine z06 (z01 (decide_eq_true (by simp; omega)) (z01 ?_ rfl)) ?_
   ·simp only [D.s_str, w, slOk]; simp
   ·simp only [D.s_str, w, Int.toNat_natCast, List.take_length, h, decide_true, Bool.true_and]; rfl
  ·refine z06 (z00 (fun h' => h ?_) rfl) ?_
   ·have h'' : (a.length : Int) ≥ (l.length : Int) := of_decide_eq_true h'
    omega
   ·simp only [h, decide_false, Bool.false_and]; rfl
 exact z02 this rfl
theorem zIY {a b : List UInt8} (ha : a.length ≤ lim) (hb : b.length ≤ lim) : z3B.F [.str a, .str b] = some (.bool (bel a b)) := by
 have hlim : lim = 1048576 := rfl
 rw [zFs]
 refine z06 (l := [.bool (bel a b)]) ?_ rfl
 unfold bel
 simp only [D.s_str]
 by_cases h1 : a = b
 ·exact z01 (by simpa using h1) (by simp [h1])
 ·have e1 : (a == b) = false := by simpa using h1
  refine z00 (by simpa using h1) ?_
  by_cases h2 : b = []
  ·exact z01 (by simpa using h2) (by simp [h2])
  ·have e2 : b.isEmpty = false := by cases b <;> simp_all
   refine z00 (by simpa using h2) (z01 (by simp [catOk, z0p]; omega) (z05 (zKN (l := [46] ++ b) ha (by simp; omega)) ?_))
   simp [e1, e2]
theorem zIZ {a b : List UInt8} (ha : a.length ≤ lim) (hb : b.length ≤ lim) : z1d.F [.str a, .str b] = some (.bool (bel a b)) := by
 have hlim : lim = 1048576 := rfl
 rw [zG2]
 refine z06 (l := [.bool (bel a b)]) ?_ rfl
 unfold bel
 simp only [D.s_str]
 by_cases h2 : b = []
 ·exact z01 (by simpa using h2) (by simp [h2])
 ·have e2 : b.isEmpty = false := by cases b <;> simp_all
  refine z00 (by simpa using h2) ?_
  by_cases h1 : a = b
  ·exact z01 (by simpa using h1) (by simp [h1])
  ·have e1 : (a == b) = false := by simpa using h1
   refine z00 (by simpa using h1) ?_
   rw [e1, e2, Bool.false_or, Bool.false_or, zOa]
   have w : IntKind.wrap .i64 ((a.length : Int) - (b.length : Int)) = (a.length : Int) - (b.length : Int) := by rw [z0c] <;> omega
   simp only [w]
   by_cases h : b.length < a.length
   ·have w2 : IntKind.wrap .i64 ((a.length : Int) - (b.length : Int) - 1) = ((a.length - b.length - 1 : Nat) : Int) := by rw [z0c] <;> omega
    have en : ((a.length : Int) - (b.length : Int)).toNat = a.length - b.length := by omega
    have hd : a.drop (a.length - b.length - 1) = a[a.length - b.length - 1]'(by omega) :: a.drop (a.length - b.length) := by
     rw [List.drop_eq_getElem_cons (show a.length - b.length - 1 < a.length by omega)]
     congr 2; omega
    have hle : decide ((46 :: b).length ≤ a.length) = true := decide_eq_true (by simp; omega)
    rw [hle, Bool.true_and, show a.length - (46 :: b).length = a.length - b.length - 1 by simp; omega, hd]
    refine z01 (decide_eq_true (by omega)) (z01 (by simp [slOk]; omega) ?_)
    rw [en, Int.toNat_natCast, List.take_length]
    by_cases h3 : a.drop (a.length - b.length) = b
    ·refine z01 (by simpa using h3) (z01 (by rw [w2]; exact z0B (by omega)) ?_)
     rw [w2, Int.toNat_natCast, z5A (show a.length - b.length - 1 < a.length by omega)]
     generalize a[a.length - b.length - 1]'(by omega) = c
     have : ((c.toNat : Int) == 46) = (c :: a.drop (a.length - b.length) == 46 :: b) := by
      rw [Bool.eq_iff_iff]
      simp only [beq_iff_eq, List.cons.injEq, h3, and_true]
      constructor
      ·intro h; exact UInt8.toNat_inj.1 (by show c.toNat = 46; omega)
      ·rintro rfl; rfl
     rw [this]
    ·refine z00 (by simpa using h3) ?_
     have : (a[a.length - b.length - 1]'(by omega) :: a.drop (a.length - b.length) == 46 :: b) = false := by
      simp [h3]
     rw [this]
   ·have hle : decide ((46 :: b).length ≤ a.length) = false := decide_eq_false (by simp; omega)
    rw [hle, Bool.false_and]
    exact z00 (fun h' => by have h'' : (a.length : Int) - (b.length : Int) > 0 := of_decide_eq_true h'; omega) rfl
theorem zKm {s : List UInt8} {k : Nat} (hk : k < s.length) (hb : s[k] = 46) (h : ∀ i (hi : i < s.length), i < k → s[i] ≠ 46) : z5P s = s.drop (k + 1) := by
 induction s generalizing k with
 | nil => simp at hk
 | cons c s ih =>
   unfold z5P
   cases k with
   | zero => rw [if_pos (by simpa using hb)]; rfl
   | succ k =>
     have h0 := h 0 (by simp) (by omega)
     rw [if_neg (by simpa using h0)]
     exact ih (by simpa using hk) (by simpa using hb) (fun i hi hik => by have := h (i + 1) (by simp; omega) (by omega); simpa using this)
theorem zEN : ∀ {s : List UInt8}, (∀ i (hi : i < s.length), s[i] ≠ 46) → z5P s = []
 | [], _ => rfl
 | c :: s, h => by
   unfold z5P
   have h0 := h 0 (by simp)
   rw [if_neg (by simpa using h0)]
   exact zEN fun i hi => by have := h (i + 1) (by simp; omega); simpa using this
theorem zMA {s : List UInt8} (h : s.length ≤ lim) : z3Y.F [.str s] = some (.str (z5P s)) := by
 have hlim : lim = 1048576 := rfl
 have hsm := Nat.le_trans h z1A
 rw [zEo]
 have hp : ∀ i (hi : i < s.length), ((byteAt s i : Int) == 46) = (s[i] == 46) := by
  intro i hi
  rw [z5A hi, Bool.eq_iff_iff]
  simp only [beq_iff_eq]
  constructor
  ·intro h; exact UInt8.toNat_inj.1 (by show s[i].toNat = 46; omega)
  ·intro h; rw [h]; rfl
 rcases z5M (l := [.int 0]) (fun i => [.int i]) s.length (fun i => !(s.getD i 0 == 46)) (t1 := 0) (t2 := 1) (o1 := fun k => [.str (s.drop (k + 1))]) (o2 := []) (f := fun l1 =>
  if (decide ((gd l1 0).i < ((D.str s).s.length : Int))) then
   if (inb (gd l1 0).i (D.str s).s.length) then
   if ((byteAt (D.str s).s (gd l1 0).i.toNat : Int) == 46) then
    if (slOk (IntKind.wrap .i64 ((gd l1 0).i + 1)) ((D.str s).s.length : Int) ((D.str s).s.length : Int)) then
    ou 1 [(.str (((D.str s).s.take ((D.str s).s.length : Int).toNat).drop (IntKind.wrap .i64 ((gd l1 0).i + 1)).toNat))]
    else none
   else
    ou 0 [(.int (IntKind.wrap .i64 ((gd l1 0).i + 1)))]
   else none
  else
   ou 2 []) rfl (by
  intro i hi hpi
  rw [z0J hi] at hpi
  have := hp i hi
  rw [show (s[i] == 46) = false by simpa using hpi] at this
  refine z01 (by simpa using hi) (z01 (by simpa using z0B hi) ?_)
  have e0 : (gd [D.int (i : Int)] 0).i.toNat = i := by simp
  have e1 : (gd [D.int (i : Int)] 0).i = i := rfl
  rw [e0, e1, z0N hi hsm]
  exact z00 (by rw [show (D.str s).s = s from rfl, this]; decide) rfl) (by
  intro i hi hpi
  rw [z0J hi] at hpi
  have := hp i hi
  rw [show (s[i] == 46) = true by simpa using hpi] at this
  refine z01 (by simpa using hi) (z01 (by simpa using z0B hi) ?_)
  have e0 : (gd [D.int (i : Int)] 0).i.toNat = i := by simp
  have e1 : (gd [D.int (i : Int)] 0).i = i := rfl
  rw [e0, e1, z0N hi hsm, show (D.str s).s = s from rfl]
  refine z01 this (z01 (by simp [slOk]; omega) ?_)
  rw [Int.toNat_natCast, Int.toNat_natCast, List.take_length]) (by
  exact z00 (by simp) rfl) with ⟨hall, hloop⟩ | ⟨k, hk, hpk, hall, hloop⟩
 ·refine z0K hloop ?_
  rw [zEN (fun i hi => by have := hall i hi; rw [z0J hi] at this; simpa using this)]; rfl
 ·refine z0K hloop ?_
  rw [z0J hk] at hpk
  rw [zKm hk (by simpa using hpk) (fun i hi hik => by have := hall i hik; rw [z0J hi] at this; simpa using this)]; rfl
def isAt (n : List UInt8) (k : Int) (r : Rec) : Bool := r.name == n && (k == 0 || r.type == k)
theorem f_at {xs : List Rec} {n : List UInt8} {k : Int} (hl : xs.length ≤ lim) : z3O.F [.lst (xs.map Rec.d), .str n, .int k] = some (.lst ((xs.filter (isAt n k)).map Rec.d)) := by
 have hlim : lim = 1048576 := rfl
 have hsm := Nat.le_trans hl z1A
 rw [zOC]
 have hlen : (D.lst (xs.map Rec.d)).l.length = xs.length := by simp
 rw [hlen]
 refine z0K (z1R (fun i (zs : List Rec) => [.lst (zs.map Rec.d), .int i]) xs.length (fun i => (xs.take i).filter (isAt n k)) (t := 0) (o := [.lst ((xs.filter (isAt n k)).map Rec.d)]) (by simp) ?_ ?_) rfl
 ·intro i hi
  have hg : gd (D.lst (xs.map Rec.d)).l i = xs[i].d := z4E hi
  have e0 : (gd [D.lst (((xs.take i).filter (isAt n k)).map Rec.d), D.int (i : Int)] 1).i.toNat = i := by simp
  have e1 : (gd [D.lst (((xs.take i).filter (isAt n k)).map Rec.d), D.int (i : Int)] 1).i = i := rfl
  have e2 : (gd [D.lst (((xs.take i).filter (isAt n k)).map Rec.d), D.int (i : Int)] 0) = D.lst (((xs.take i).filter (isAt n k)).map Rec.d) := rfl
  have g0 : (xs[i].d.fld 0).s = xs[i].name := rfl
  have g1 : (xs[i].d.fld 1).i = xs[i].type := rfl
  have hfl : ((xs.take i).filter (isAt n k)).length ≤ i := by
   have := List.length_filter_le (isAt n k) (xs.take i); simp at this; omega
  rw [e0, e1, e2, hg, g0, g1, z0N hi hsm]
  refine z01 (by simpa using hi) (z0x (r := (0, [.lst (((xs.take (i + 1)).filter (isAt n k)).map Rec.d)])) (z01 (by simpa using z0B hi) (z0x (r := (0, [.bool (isAt n k xs[i])])) ?_ (sel0 ?_))) (sel0 rfl))
  ·unfold isAt
   simp only [D.s_str, D.i_int]
   by_cases h1 : xs[i].name = n
   ·refine z01 (by simpa using h1) ?_
    by_cases h2 : k = 0
    ·exact z01 (by simpa using h2) (by simp [h1, h2])
    ·exact z00 (by simpa using h2) (by simp [h1, h2])
   ·exact z00 (by simpa using h1) (by simp [h1])
  ·rw [List.take_succ_eq_append_getElem hi, List.filter_append]
   cases hq : isAt n k xs[i] with
   | false => exact z00 (by simp) (by simp [List.filter_cons, hq])
   | true =>
     refine z01 rfl (z01 ?_ (by simp [List.filter_cons, hq]))
     simp only [D.l_lst, appOk, List.length_map, List.length_singleton, z0p, Bool.and_eq_true, decide_eq_true_eq]
     omega
 ·have h1 : xs.take xs.length = xs := List.take_length
  exact z00 (by simp) (by simp [h1])
def z5a (xs : List Rec) (n : List UInt8) (k : Int) : Bool := xs.any fun r => r.name == n && r.type == k
theorem zGt {xs : List Rec} {n : List UInt8} {k : Int} (hl : xs.length ≤ lim) : z1l.F [.lst (xs.map Rec.d), .str n, .int k] = some (.bool (z5a xs n k)) := by
 have hsm := Nat.le_trans hl z1A
 rw [zJR]
 have hlen : (D.lst (xs.map Rec.d)).l.length = xs.length := by simp
 rw [hlen]
 refine z0K (z3a (fun i => [.int i]) xs.length (fun i => !((xs.getD i Rec.nul).name == n && (xs.getD i Rec.nul).type == k)) (t1 := 0) (t2 := 1) (o1 := [.bool true]) (o2 := []) rfl ?_ ?_) ?_
 ·intro i hi
  rw [z0J hi]
  have hg : gd (D.lst (xs.map Rec.d)).l i = xs[i].d := z4E hi
  have e0 : (gd [D.int (i : Int)] 0).i.toNat = i := by simp
  have e1 : (gd [D.int (i : Int)] 0).i = i := rfl
  have g0 : (xs[i].d.fld 0).s = xs[i].name := rfl
  have g1 : (xs[i].d.fld 1).i = xs[i].type := rfl
  rw [e0, e1, hg, g0, g1, z0N hi hsm]
  refine z01 (by simpa using hi) (z01 (by simpa using z0B hi) (z0x (r := (0, [.bool (xs[i].name == n && xs[i].type == k)])) ?_ ?_))
  ·by_cases h1 : xs[i].name = n
   ·exact z01 (by simpa using h1) (by simp [h1])
   ·exact z00 (by simpa using h1) (by simp [h1])
  ·cases (xs[i].name == n && xs[i].type == k) <;> simp
 ·simp
 ·have : allN xs.length (fun i => !((xs.getD i Rec.nul).name == n && (xs.getD i Rec.nul).type == k)) = !(z5a xs n k) := by
   rw [z5h xs (fun r => !(r.name == n && r.type == k)) Rec.nul]
   unfold z5a
   rw [← List.not_any_eq_all_not]
  rw [this]
  cases z5a xs n k <;> simp
def zF8 (apex : List UInt8) (xs : List Rec) (s : List UInt8) : Option (List UInt8) := z6m apex (fun n => z5a xs n 2) (s.length + 1) s none
def z8w : Option (List UInt8) → D × D
 | none => (.str [], .bool false)
 | some s => (.str s, .bool true)
theorem zQG {apex : List UInt8} {xs : List Rec} {s : List UInt8} (ha : apex.length ≤ lim) (hl : xs.length ≤ lim) (hs : s.length ≤ lim) : z50.F [.str apex, .lst (xs.map Rec.d), .str s] = some (.pair (z8w (zF8 apex xs s)).1 (.pair (z8w (zF8 apex xs s)).2 .unit)) := by
 rw [zJQ]
 have key : ∀ (n : Nat) (s : List UInt8) (o : Option (List UInt8)), s.length < n → s.length ≤ lim → z0a (fun l3 =>
  (if (!((gd l3 0).s == (D.str apex).s)) then
      (z1d.F [(gd l3 0), (.str apex)]).bind fun r6 =>
      ou 0 [r6]
    else
     ou 0 [(.bool false)]).bind fun o6 =>
  sel2 o6.1 (if (gd o6.2 0).b then
   ((z1l.F [(.lst (xs.map Rec.d)), (gd l3 0), (.int 2)]).bind fun r7 =>
     if r7.b then
      ou 0 [(gd l3 0), (.bool true)]
     else
      ou 0 [(gd l3 1), (gd l3 2)]).bind fun o7 =>
   sel2 o7.1 (if ((gd l3 0).s == ([] : List UInt8)) then
    ou 1 [(gd o7.2 0), (gd o7.2 1)]
    else
     (z3Y.F [(gd l3 0)]).bind fun r9 =>
     ou 0 [r9, (gd o7.2 0), (gd o7.2 1)]) fun _ => none
   else
    ou 1 [(gd l3 1), (gd l3 2)]) fun _ => none) [.str s, (z8w o).1, (z8w o).2] = some (0, [(z8w (z6m apex (fun n => z5a xs n 2) n s o)).1, (z8w (z6m apex (fun n => z5a xs n 2) n s o)).2]) := by
  intro n
  induction n with
  | zero => intro s o h; omega
  | succ n ih =>
    intro s o h hs
    unfold z6m
    have hb := zIZ hs ha
    have hh := zGt (xs := xs) (n := s) (k := 2) hl
    have e0 : gd [D.str s, (z8w o).1, (z8w o).2] 0 = .str s := rfl
    have hj : (s ≠ apex ∧ bel s apex = true) ↔ (!(s == apex) && bel s apex) = true := by simp
    by_cases hc : s ≠ apex ∧ bel s apex = true
    ·rw [if_pos hc]
     have h1 : (if (!((D.str s).s == (D.str apex).s)) = true then (z1d.F [(D.str s), (.str apex)]).bind fun r6 => ou 0 [r6] else ou 0 [(.bool false)] : Outc) = some (0, [.bool true]) := by
      rw [hc.2] at hb
      exact z01 (by simpa using hc.1) (z05 hb rfl)
     have h2 : ((z1l.F [(.lst (xs.map Rec.d)), (D.str s), (.int 2)]).bind fun r7 =>
      if r7.b then
       ou 0 [(D.str s), (.bool true)]
      else
       ou 0 [(z8w o).1, (z8w o).2] : Outc) = some (0, [(z8w (if z5a xs s 2 then some s else o)).1, (z8w (if z5a xs s 2 then some s else o)).2]) := by
      refine z05 hh ?_
      cases z5a xs s 2 with
      | false => exact z00 (by simp) (by simp)
      | true => exact z01 rfl (by simp [z8w])
     by_cases h0 : s = []
     ·rw [if_pos h0]
      refine z11 (z0x h1 (sel0 (z01 rfl (z0x h2 (sel0 (z01 ?_ rfl))))))
      simpa using h0
     ·rw [if_neg h0]
      have hp := zMA hs
      have hpl := z6D h0
      rw [← ih (z5P s) (if z5a xs s 2 then some s else o) (by omega) (by omega)]
      refine z1Y (z0x h1 (sel0 (z01 rfl (z0x h2 (sel0 (z00 ?_ (z05 hp rfl)))))))
      simpa using h0
    ·rw [if_neg hc]
     refine z11 (z0x (r := (0, [.bool false])) ?_ (sel0 (z00 (by simp) rfl)))
     by_cases h1 : s = apex
     ·exact z00 (by simpa using h1) rfl
     ·refine z01 (by simpa using h1) ?_
      have : bel s apex = false := by
       cases hq : bel s apex with
       | false => rfl
       | true => exact absurd ⟨h1, hq⟩ hc
      rw [this] at hb
      exact z05 hb rfl
 exact z0K (key (s.length + 1) s none (by omega) hs) rfl
end Go.Proofs.YtllbponcjpcbnaaGreatDoor
