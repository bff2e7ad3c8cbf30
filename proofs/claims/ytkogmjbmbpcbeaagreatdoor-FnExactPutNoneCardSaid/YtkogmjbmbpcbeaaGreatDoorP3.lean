/- What the functions compute, in plain words. -/
import Derived.Test.YtkogmjbmbpcbeaaGreatDoorP2
import Derived.Lib.Bytealg
set_option linter.unusedSectionVars false
set_option linter.unusedVariables false
set_option linter.unusedSimpArgs false
namespace Go.Own
open Go
structure Cmp {α : Type} (c : α → α → Int) : Prop where
 refl : ∀ x, c x x = 0
 eq : ∀ x y, c x y = 0 → x = y
 trans : ∀ x y z, c x y ≤ 0 → c y z ≤ 0 → c x z ≤ 0
 anti : ∀ x y, c x y ≤ 0 → c y x ≤ 0 → c x y = 0
def lexC {α : Type} (c : α → α → Int) : List α → List α → Int
 | [], [] => 0
 | [], _ :: _ => -1
 | _ :: _, [] => 1
 | x :: xs, y :: ys => if c x y = 0 then lexC c xs ys else c x y
theorem Cmp.lt {α : Type} {c : α → α → Int} (h : Cmp c) {x y z : α} (h1 : c x y ≤ 0) (h2 : c y z ≤ 0) (h3 : c x y ≠ 0 ∨ c y z ≠ 0) : c x z < 0 := by
 have h4 := h.trans x y z h1 h2
 by_cases h5 : c x z = 0
 ·have e := h.eq x z h5
  subst e
  have := h.anti x y h1 h2
  have := h.anti y x h2 h1
  omega
 ·omega
theorem Cmp.lex {α : Type} {c : α → α → Int} (h : Cmp c) : Cmp (lexC c) where
 refl := by
  intro x
  induction x with
  | nil => rfl
  | cons a x ih => unfold lexC; rw [if_pos (h.refl a)]; exact ih
 eq := by
  intro x
  induction x with
  | nil => intro y hy; cases y with
    | nil => rfl
    | cons b y => simp [lexC] at hy
  | cons a x ih => intro y hy; cases y with
    | nil => simp [lexC] at hy
    | cons b y =>
      unfold lexC at hy
      split at hy
      ·rename_i hab; rw [h.eq a b hab, ih y hy]
      ·rename_i hab; exact absurd hy hab
 trans := by
  intro x
  induction x with
  | nil => intro y z _ _; cases z <;> simp [lexC]
  | cons a x ih =>
    intro y z h1 h2
    cases y with
    | nil => simp [lexC] at h1
    | cons b y =>
      cases z with
      | nil => simp [lexC] at h2
      | cons d z =>
        unfold lexC at h1 h2 ⊢
        by_cases e1 : c a b = 0
        ·have := h.eq a b e1; subst this
         rw [if_pos e1] at h1
         by_cases e2 : c a d = 0
         ·rw [if_pos e2] at h2 ⊢; exact ih y z h1 h2
         ·rw [if_neg e2] at h2 ⊢; exact h2
        ·rw [if_neg e1] at h1
         by_cases e2 : c b d = 0
         ·have := h.eq b d e2; subst this
          rw [if_neg e1]; exact h1
         ·rw [if_neg e2] at h2
          have := h.lt h1 h2 (.inl e1)
          rw [if_neg (by omega)]; omega
 anti := by
  intro x
  induction x with
  | nil => intro y h1 h2; cases y with
    | nil => rfl
    | cons b y => simp [lexC] at h2
  | cons a x ih =>
    intro y h1 h2
    cases y with
    | nil => simp [lexC] at h1
    | cons b y =>
      unfold lexC at h1 h2 ⊢
      by_cases e1 : c a b = 0
      ·have := h.eq a b e1; subst this
       rw [if_pos e1] at h1 h2 ⊢; exact ih y h1 h2
      ·rw [if_neg e1] at h1 ⊢
       by_cases e2 : c b a = 0
       ·have := h.eq b a e2; subst this; exact absurd e2 e1
       ·rw [if_neg e2] at h2; exact h.anti a b h1 h2
def intC (a b : Int) : Int := if a < b then -1 else if b < a then 1 else 0
theorem z58 : Cmp intC where
 refl := by intro x; simp [intC]
 eq := by intro x y; unfold intC; repeat' split
          all_goals omega
 trans := by intro x y z; unfold intC; repeat' split
             all_goals omega
 anti := by intro x y; unfold intC; repeat' split
            all_goals omega
theorem z68 : ∀ a b : List UInt8, Lib.compareBytes a b = lexC (fun x y : UInt8 => intC x.toNat y.toNat) a b
 | [], [] => rfl
 | [], _ :: _ => rfl
 | _ :: _, [] => rfl
 | x :: a, y :: b => by
   unfold Lib.compareBytes lexC intC
   have ih := z68 a b
   by_cases h1 : x < y
   ·have : (x.toNat : Int) < y.toNat := by have := UInt8.lt_iff_toNat_lt.1 h1; omega
    simp [h1, this]
   ·by_cases h2 : y < x
    ·have : (y.toNat : Int) < x.toNat := by have := UInt8.lt_iff_toNat_lt.1 h2; omega
     have h3 : ¬ (x.toNat : Int) < y.toNat := by omega
     simp [h1, h2, this, h3]
    ·have h3 : ¬ (x.toNat : Int) < y.toNat := fun h => h1 (UInt8.lt_iff_toNat_lt.2 (by omega))
     have h4 : ¬ (y.toNat : Int) < x.toNat := fun h => h2 (UInt8.lt_iff_toNat_lt.2 (by omega))
     rw [if_neg h1, if_neg h2, if_neg h3, if_neg h4, if_pos rfl]
     exact ih
theorem zIw : Cmp (fun x y : UInt8 => intC x.toNat y.toNat) where
 refl := by intro x; exact z58.refl _
 eq := by intro x y h; have := z58.eq _ _ h; exact UInt8.toNat_inj.1 (by omega)
 trans := by intro x y z; exact z58.trans _ _ _
 anti := by intro x y; exact z58.anti _ _
theorem zKV : Cmp Lib.compareBytes := by
 have h := zIw.lex
 have e : Lib.compareBytes = lexC (fun x y : UInt8 => intC x.toNat y.toNat) := by funext a b; exact z68 a b
 rw [e]; exact h
def z5h : List UInt8 → List UInt8
 | [] => []
 | c :: s => if c = 46 then s else z5h s
theorem z5i : ∀ {s : List UInt8}, s ≠ [] → (z5h s).length < s.length
 | [], h => absurd rfl h
 | c :: s, _ => by
   unfold z5h
   split
   ·simp
   ·cases s with
    | nil => simp [z5h]
    | cons d s => have := z5i (s := d :: s) (by simp); simp at this ⊢; omega
def bel (a b : List UInt8) : Bool := a == b || (b.isEmpty || (46 :: b).isSuffixOf a)
inductive Up : List UInt8 → List UInt8 → Prop
 | refl (a) : Up a a
 | step {a b} : a ≠ [] → Up (z5h a) b → Up a b
theorem Up.len {a b} (h : Up a b) : a = b ∨ b.length < a.length := by
 induction h with
 | refl a => exact .inl rfl
 | step h1 _ ih => have := z5i h1; rcases ih with rfl | ih <;> right <;> omega
theorem Up.trans {a b c} (h : Up a b) (h2 : Up b c) : Up a c := by
 induction h with
 | refl a => exact h2
 | step h1 _ ih => exact .step h1 (ih h2)
theorem Up.anti {a b} (h : Up a b) (h2 : Up b a) : a = b := by
 rcases h.len with h | h
 ·exact h
 ·rcases h2.len with h3 | h3
  ·exact h3.symm
  ·omega
theorem zLW : ∀ (n : Nat) (a : List UInt8), a.length ≤ n → Up a []
 | 0, a, h => by cases a with
   | nil => exact .refl _
   | cons => simp at h
 | n + 1, a, h => by
   by_cases h0 : a = []
   ·subst h0; exact .refl _
   ·exact .step h0 (zLW n _ (by have := z5i h0; omega))
theorem zDl : ∀ (x b : List UInt8), (∃ y, z5h (x ++ 46 :: b) = y ++ 46 :: b) ∨ z5h (x ++ 46 :: b) = b
 | [], b => .inr (by simp [z5h])
 | c :: x, b => by
   simp only [List.cons_append]
   unfold z5h
   split
   ·exact .inl ⟨x, rfl⟩
   ·exact zDl x b
theorem zGL : ∀ (n : Nat) (x b : List UInt8), x.length ≤ n → Up (x ++ 46 :: b) b
 | n, x, b, h => by
   refine .step (by simp) ?_
   rcases zDl x b with ⟨y, hy⟩ | hy
   ·rw [hy]
    have hl := z5i (s := x ++ 46 :: b) (by simp)
    rw [hy] at hl
    simp at hl
    match n with
    | 0 => omega
    | n + 1 => exact zGL n y b (by omega)
   ·rw [hy]; exact .refl _
theorem z6q : ∀ (s : List UInt8), z5h s = [] ∨ ∃ x, s = x ++ 46 :: z5h s
 | [] => .inl rfl
 | c :: s => by
   unfold z5h
   split
   ·rename_i h; exact .inr ⟨[], by simp [h]⟩
   ·rcases z6q s with h | ⟨x, h⟩
    ·exact .inl h
    ·exact .inr ⟨c :: x, by rw [List.cons_append, ← h]⟩
theorem zGQ {a b : List UInt8} : bel a b = true ↔ Up a b := by
 unfold bel
 simp only [Bool.or_eq_true, beq_iff_eq, List.isEmpty_iff, List.isSuffixOf_iff_suffix]
 constructor
 ·rintro (rfl | rfl | ⟨x, rfl⟩)
  ·exact .refl _
  ·exact zLW _ _ (Nat.le_refl _)
  ·exact zGL _ x b (Nat.le_refl _)
 ·intro h
  induction h with
  | refl a => exact .inl rfl
  | @step a b h1 _ ih =>
    rcases ih with h | h | ⟨x, h⟩
    ·rcases z6q a with h2 | ⟨x, h2⟩
     ·exact .inr (.inl (by rw [← h, h2]))
     ·rw [h] at h2; exact .inr (.inr ⟨x, h2.symm⟩)
    ·exact .inr (.inl h)
    ·rcases z6q a with h2 | ⟨y, h2⟩
     ·rw [h2] at h; simp at h
     ·rw [← h] at h2; exact .inr (.inr ⟨y ++ 46 :: x, by rw [h2]; simp⟩)
def z9z (apex : List UInt8) (m : List UInt8 → Bool) : Nat → List UInt8 → Option (List UInt8) → Option (List UInt8)
 | 0, _, o => o
 | n + 1, s, o => if s ≠ apex ∧ bel s apex = true then
    (if s = [] then (if m s then some s else o) else z9z apex m n (z5h s) (if m s then some s else o))
   else o
theorem zIl {apex : List UInt8} {m : List UInt8 → Bool} {s0 : List UInt8} : ∀ (n : Nat) (s : List UInt8) (o : Option (List UInt8)), Up s0 s →
 (∀ x, o = some x → m x = true ∧ Up s0 x ∧ x ≠ apex ∧ bel x apex = true) → ∀ x, z9z apex m n s o = some x → m x = true ∧ Up s0 x ∧ x ≠ apex ∧ bel x apex = true
 | 0, s, o, _, ho, x, hx => ho x hx
 | n + 1, s, o, hs, ho, x, hx => by
   unfold z9z at hx
   split at hx
   ·rename_i hc
    have ho' : ∀ x, (if m s then some s else o) = some x → m x = true ∧ Up s0 x ∧ x ≠ apex ∧ bel x apex = true := by
     intro x hx
     split at hx
     ·rename_i hm; cases hx; exact ⟨hm, hs, hc.1, hc.2⟩
     ·exact ho x hx
    split at hx
    ·exact ho' x hx
    ·rename_i h0
     exact zIl n _ _ (hs.trans (.step h0 (.refl _))) ho' x hx
   ·exact ho x hx
theorem zGM {apex : List UInt8} {m : List UInt8 → Bool} {c : List UInt8} : ∀ (n : Nat) (s : List UInt8) (o : Option (List UInt8)), Up c s → (∃ x, o = some x ∧ Up c x) → ∃ x, z9z apex m n s o = some x ∧ Up c x
 | 0, s, o, _, ho => ho
 | n + 1, s, o, hs, ho => by
   unfold z9z
   have ho' : ∃ x, (if m s then some s else o) = some x ∧ Up c x := by
    split
    ·exact ⟨s, rfl, hs⟩
    ·exact ho
   split
   ·split
    ·exact ho'
    ·rename_i h0; exact zGM n _ _ (hs.trans (.step h0 (.refl _))) ho'
   ·exact ho
theorem walk_hits {apex : List UInt8} {m : List UInt8 → Bool} {c : List UInt8} (hm : m c = true) (hc : c ≠ apex) (hb : bel c apex = true) {s : List UInt8} (h : Up s c) : ∀ (n : Nat) (o : Option (List UInt8)), s.length < n → ∃ x, z9z apex m n s o = some x ∧ Up c x := by
 induction h with
 | refl a =>
   intro n o hn
   match n, hn with
   | n + 1, hn =>
     unfold z9z
     rw [if_pos ⟨hc, hb⟩, if_pos hm]
     split
     ·exact ⟨a, rfl, .refl _⟩
     ·rename_i h0; exact zGM n _ _ (.step h0 (.refl _)) ⟨a, rfl, .refl _⟩
 | @step a b h1 h2 ih =>
   intro n o hn
   match n, hn with
   | n + 1, hn =>
     have hab : Up a b := .step h1 h2
     have hap : Up a apex := hab.trans (zGQ.1 hb)
     have hne : a ≠ apex := by
      rintro rfl
      exact hc (Up.anti (zGQ.1 hb) hab)
     unfold z9z
     rw [if_pos ⟨hne, zGQ.2 hap⟩, if_neg h1]
     exact ih hm hc hb n _ (by have := z5i h1; omega)
end Go.Own
namespace Go.Proofs.YtkogmjbmbpcbeaaGreatDoor
open Go Go.Own
theorem rn_bind' {o : Outc} {k : Nat × List D → Outc} {r : Nat × List D} {R : Option D} (h : o = some r) (hk : rn (k r) = R) : rn (o.bind k) = R := by rw [h]; exact hk
theorem z40 {α : Type} {f : α → D} {xs : List α} {i : Nat} (h : i < xs.length) : gd (xs.map f) i = f xs[i] := by
 rw [zA4 (by simpa using h)]; simp
theorem z2m : ∀ a b : List UInt8, (Op.bytesLess a b = true ↔ Lib.compareBytes a b = -1) ∧ (a = b ↔ Lib.compareBytes a b = 0)
 | [], [] => by simp [Op.bytesLess, Lib.compareBytes]
 | [], _ :: _ => by simp [Op.bytesLess, Lib.compareBytes]
 | _ :: _, [] => by simp [Op.bytesLess, Lib.compareBytes]
 | a :: x, b :: y => by
   have ih := z2m x y
   unfold Op.bytesLess Lib.compareBytes
   by_cases h1 : a < b
   ·have hne : a ≠ b := by rintro rfl; exact absurd h1 (UInt8.lt_irrefl a)
    simp [h1, hne]
   ·by_cases h2 : b < a
    ·have hne : a ≠ b := by rintro rfl; exact absurd h2 (UInt8.lt_irrefl a)
     simp [h1, h2, hne]
    ·have he : a = b := UInt8.le_antisymm (UInt8.not_lt.1 h2) (UInt8.not_lt.1 h1)
     subst he
     simp only [h1, if_false, decide_false, Bool.false_or, beq_self_eq_true, Bool.true_and, List.cons.injEq, true_and]
     exact ih
theorem z3h (a b : List UInt8) : Lib.compareBytes a b = -1 ∨ Lib.compareBytes a b = 0 ∨ Lib.compareBytes a b = 1 := by
 induction a generalizing b with
 | nil => cases b <;> simp [Lib.compareBytes]
 | cons x a ih => cases b with
   | nil => simp [Lib.compareBytes]
   | cons y b =>
     unfold Lib.compareBytes
     split
     ·exact .inl rfl
     ·split
      ·exact .inr (.inr rfl)
      ·exact ih b
theorem zKi {c : List UInt8 → List UInt8 → Int} (hc : ∀ a b, c a b = -1 ∨ c a b = 0 ∨ c a b = 1) (a b : List (List UInt8)) : lexC c a b = -1 ∨ lexC c a b = 0 ∨ lexC c a b = 1 := by
 induction a generalizing b with
 | nil => cases b <;> simp [lexC]
 | cons x a ih => cases b with
   | nil => simp [lexC]
   | cons y b =>
     unfold lexC
     split
     ·exact ih b
     ·exact hc x y
def z2k (n i : Nat) (xs : List D) : List D := (List.range n).map fun k => if k < i ∨ n - i ≤ k then gd xs (n - 1 - k) else gd xs k
theorem z86 {n i : Nat} {xs : List D} : (z2k n i xs).length = n := by simp [z2k]
theorem zCk {n i k : Nat} {xs : List D} (h : k < n) : gd (z2k n i xs) k = if k < i ∨ n - i ≤ k then gd xs (n - 1 - k) else gd xs k := by
 rw [zA4 (by rw [z86]; exact h)]; simp [z2k]
theorem zGF {xs : List D} : z2k xs.length 0 xs = xs := by
 apply List.ext_getElem
 ·simp [z2k]
 ·intro k h1 h2
  simp only [z2k, List.getElem_map, List.getElem_range]
  rw [if_neg (by omega), zA4 h2]
theorem zGD {xs : List D} : z2k xs.length (xs.length / 2) xs = xs.reverse := by
 apply List.ext_getElem
 ·simp [z2k]
 ·intro k h1 h2
  have hk : k < xs.length := by simpa using h2
  simp only [z2k, List.getElem_map, List.getElem_range, List.getElem_reverse]
  split
  ·rw [zA4 (by omega)]
  ·have : xs.length - 1 - k = k := by omega
   rw [zA4 hk]; congr 1; omega
theorem zGE {xs : List D} {i : Nat} (hi : i < xs.length / 2) : ((z2k xs.length i xs).set i (gd (z2k xs.length i xs) (xs.length - 1 - i))).set (xs.length - 1 - i) (gd (z2k xs.length i xs) i) = z2k xs.length (i + 1) xs := by
 have ha : gd (z2k xs.length i xs) (xs.length - 1 - i) = gd xs (xs.length - 1 - i) := by rw [zCk (by omega), if_neg (by omega)]
 have hb : gd (z2k xs.length i xs) i = gd xs i := by rw [zCk (by omega), if_neg (by omega)]
 rw [ha, hb]
 apply List.ext_getElem
 ·simp [z2k]
 ·intro k h1 h2
  have hk : k < xs.length := by simpa [z2k] using h2
  simp only [List.getElem_set]
  simp only [z2k, List.getElem_map, List.getElem_range]
  by_cases e1 : xs.length - 1 - i = k
  ·rw [if_pos e1, if_pos (by omega)]; congr 1; omega
  ·rw [if_neg e1]
   by_cases e2 : i = k
   ·rw [if_pos e2, if_pos (by omega)]; congr 1; omega
   ·rw [if_neg e2]
    by_cases e3 : k < i ∨ xs.length - i ≤ k
    ·rw [if_pos e3, if_pos (by omega)]
    ·rw [if_neg e3, if_neg (by omega)]
theorem zFJ {xs : List D} (hl : xs.length ≤ lim + 1) : z0b.F [.lst xs] = some (.pair .unit (.pair (.lst xs.reverse) .unit)) := by
 have hlim : lim = 1048576 := rfl
 rw [z4Q]
 have w0 : IntKind.wrap .i64 ((xs.length : Int) - 1) = (xs.length : Int) - 1 := by rw [z0S] <;> omega
 refine z0N (z1o (fun i (zs : List D) => [.lst zs, .int i, .int ((xs.length : Int) - 1 - i)]) (xs.length / 2) (fun i => z2k xs.length i xs) (t := 0) (o := [.lst xs.reverse]) ?_ ?_ ?_) rfl
 ·simp only [zGF, D.l_lst, w0]
  congr 3
  ·simp
 ·intro i hi
  have w1 : IntKind.wrap .i64 ((i : Int) + 1) = ((i + 1 : Nat) : Int) := by rw [z0S] <;> omega
  have w2 : IntKind.wrap .i64 ((xs.length : Int) - 1 - i - 1) = (xs.length : Int) - 1 - ((i + 1 : Nat) : Int) := by rw [z0S] <;> omega
  have ej : ((xs.length : Int) - 1 - (i : Int)).toNat = xs.length - 1 - i := by omega
  have hj : inb ((xs.length : Int) - 1 - (i : Int)) xs.length = true := zGn (by omega) (by omega)
  have hst := zGE hi
  refine z04 (decide_eq_true (by simp; omega)) (z04 ?_ (z04 ?_ ?_))
  ·simp only [z69, z1G, D.i_int, D.l_lst, z86]; exact hj
  ·simp only [z3Z, z1G, D.i_int, D.l_lst, z86]; exact z0D (by omega)
  ·simp only [z69, z3Z, z1G, D.i_int, D.l_lst, ej, Int.toNat_natCast, hst, w1, w2]
 ·refine z00 (fun h => ?_) ?_
  ·have h' : ((xs.length / 2 : Nat) : Int) < (xs.length : Int) - 1 - ((xs.length / 2 : Nat) : Int) := of_decide_eq_true h
   omega
  ·simp only [z1G, zGD]
theorem zGg (a b : List UInt8) : z12.F [.str a, .str b] = some (.int (Lib.compareBytes a b)) := by
 have n1 : ∀ s : List UInt8, z1f.F [.str s] = some (.bool false) := fun s => by
  rw [z8g]; simp
 rw [z7P]
 refine z02 (n1 a) (z02 (n1 b) (z03 (by simp) (z03 (by simp) ?_)))
 obtain ⟨h1, h2⟩ := z2m a b
 simp only [D.s_str]
 rcases z3h a b with h | h | h
 ·rw [h]; exact z0K (h1.2 h) rfl
 ·have he := h2.2 h
  subst he
  have hl : Op.bytesLess a a = false := by
   cases hq : Op.bytesLess a a with
   | false => rfl
   | true => rw [h1.1 hq] at h; cases h
  rw [h]; exact z03 (by rw [hl]; decide) (z03 (by simp) rfl)
 ·have hl : Op.bytesLess a b = false := by
   cases hq : Op.bytesLess a b with
   | false => rfl
   | true => rw [h1.1 hq] at h; cases h
  have hne : a ≠ b := fun e => by rw [h2.1 e] at h; cases h
  rw [h]; exact z03 (by rw [hl]; decide) (z0K (by simp [hl, hne]) rfl)
theorem z8S {α : Type} {c : α → α → Int} {xs ys : List α} : ∀ (k : Nat), k ≤ xs.length → k ≤ ys.length → (∀ i (h1 : i < xs.length) (h2 : i < ys.length), i < k → c xs[i] ys[i] = 0) → lexC c xs ys = lexC c (xs.drop k) (ys.drop k)
 | 0, _, _, _ => by simp
 | k + 1, h1, h2, h => by
   rw [z8S k (by omega) (by omega) (fun i a b hi => h i a b (by omega))]
   rw [List.drop_eq_getElem_cons (show k < xs.length by omega), List.drop_eq_getElem_cons (show k < ys.length by omega)]
   rw [lexC, if_pos (h k (by omega) (by omega) (by omega))]
theorem zJV {α : Type} {c : α → α → Int} {xs ys : List α} {k : Nat} (h1 : k < xs.length) (h2 : k < ys.length) (h : ∀ i (h1 : i < xs.length) (h2 : i < ys.length), i < k → c xs[i] ys[i] = 0) (hk : c xs[k] ys[k] ≠ 0) : lexC c xs ys = c xs[k] ys[k] := by
 rw [z8S k (by omega) (by omega) h, List.drop_eq_getElem_cons h1, List.drop_eq_getElem_cons h2, lexC, if_neg hk]
theorem zFf {α : Type} {c : α → α → Int} {xs ys : List α} (h1 : ys.length < xs.length) (h : ∀ i (h1 : i < xs.length) (h2 : i < ys.length), c xs[i] ys[i] = 0) : lexC c xs ys = 1 := by
 rw [z8S ys.length (by omega) (by omega) (fun i a b _ => h i a b), List.drop_length, List.drop_eq_getElem_cons h1]; rfl
theorem z9K {α : Type} {c : α → α → Int} {xs ys : List α} (h1 : xs.length ≤ ys.length) (h : ∀ i (h1 : i < xs.length) (h2 : i < ys.length), c xs[i] ys[i] = 0) : lexC c xs ys = if xs.length < ys.length then -1 else 0 := by
 rw [z8S xs.length (by omega) (by omega) (fun i a b _ => h i a b), List.drop_length]
 by_cases h2 : xs.length < ys.length
 ·rw [List.drop_eq_getElem_cons h2, if_pos h2]; rfl
 ·rw [List.drop_eq_nil_of_le (by omega), if_neg h2]; rfl
def cmpL (xs ys : List (List UInt8)) : Int := lexC Lib.compareBytes xs ys
theorem zKW (a b : List (List UInt8)) : cmpL a b = -1 ∨ cmpL a b = 0 ∨ cmpL a b = 1 := zKi z3h a b
theorem zAo : Cmp cmpL := zKV.lex
theorem zGf {xs ys : List (List UInt8)} (hl : xs.length ≤ lim + 1) : z0o.F [.lst (xs.map .str), .lst (ys.map .str)] = some (.int (cmpL xs ys)) := by
 have hsm : xs.length ≤ smax := by rw [z19]; have hlim : lim = 1048576 := rfl; omega
 rw [z4P]
 have hlx : (D.lst (xs.map D.str)).l.length = xs.length := by simp
 have hly : (D.lst (ys.map D.str)).l.length = ys.length := by simp
 rw [hlx, hly]
 have hcmp : ∀ i (h1 : i < xs.length) (h2 : i < ys.length), z12.F [gd (xs.map D.str) i, gd (ys.map D.str) i] = some (.int (Lib.compareBytes xs[i] ys[i])) := fun i h1 h2 => by
  rw [z40 h1, z40 h2]; exact zGg _ _
 let p : Nat → Bool := fun i => decide (i < ys.length) && (Lib.compareBytes (xs.getD i []) (ys.getD i []) == 0)
 have hp0 : ∀ i (h1 : i < xs.length), p i = true → ∃ h2 : i < ys.length, Lib.compareBytes xs[i] ys[i] = 0 := by
  intro i h1 h
  simp only [p, Bool.and_eq_true, decide_eq_true_eq, beq_iff_eq] at h
  refine ⟨h.1, ?_⟩
  have := h.2
  rwa [z0J h1, z0J h.1] at this
 have key := z4M (l := [.int 0]) (fun i => [.int i]) xs.length p (t1 := 0) (t2 := 1) (o1 := fun i => [.int (if ys.length ≤ i then 1 else Lib.compareBytes (xs.getD i []) (ys.getD i []))]) (o2 := []) (f := fun l2 =>
  if (decide ((gd l2 0).i < (xs.length : Int))) then
   if (inb (gd l2 0).i xs.length) then
   if (decide ((gd l2 0).i ≥ (ys.length : Int))) then
    ou 1 [(.int 1)]
   else
    if (inb (gd l2 0).i ys.length) then
    (z12.F [(gd (D.lst (xs.map D.str)).l (gd l2 0).i.toNat), (gd (D.lst (ys.map D.str)).l (gd l2 0).i.toNat)]).bind fun r3 =>
    if (r3.i != 0) then
     ou 1 [r3]
    else
     ou 0 [(.int (IntKind.wrap .i64 ((gd l2 0).i + 1)))]
    else none
   else none
  else
   ou 2 []) rfl (by
  intro i hi hp
  obtain ⟨h2, hc⟩ := hp0 i hi hp
  have := hcmp i hi h2
  rw [hc] at this
  have hn : ¬ ys.length ≤ i := by omega
  simp [hi, z0D hi, z0D h2, hn, this, z0O hi hsm]) (by
  intro i hi hp
  by_cases h2 : ys.length ≤ i
  ·simp [hi, z0D hi, h2]
  ·have h3 : i < ys.length := by omega
   have := hcmp i hi h3
   have hne : ¬ Lib.compareBytes xs[i] ys[i] = 0 := by
    intro h
    simp only [p, h3, decide_true, Bool.true_and, z0J hi, z0J h3, h] at hp
    simp at hp
   simp [hi, h3, z0D hi, z0D h3, h2, this, hne]) (by simp)
 rcases key with ⟨hall, hloop⟩ | ⟨k, hk, hpk, hall, hloop⟩
 ·refine z0N hloop ?_
  have hle : xs.length ≤ ys.length := by
   rcases Nat.eq_zero_or_pos xs.length with h | h
   ·omega
   ·have := (hp0 (xs.length - 1) (by omega) (hall _ (by omega))).1; omega
  have hs : cmpL xs ys = if xs.length < ys.length then -1 else 0 := z9K hle (fun i h1 h2 => (hp0 i h1 (hall i h1)).2)
  rw [hs]
  by_cases h : xs.length < ys.length
  ·rw [if_pos h]; exact z0K (decide_eq_true (by omega)) rfl
  ·rw [if_neg h]; exact z03 (fun h' => h (by have h'' : (xs.length : Int) < ys.length := of_decide_eq_true h'; omega)) rfl
 ·refine z0N hloop ?_
  by_cases h2 : ys.length ≤ k
  ·have : cmpL xs ys = 1 := zFf (by omega) (fun i h1 h3 => (hp0 i h1 (hall i (by omega))).2)
   simp only [if_pos h2, this]; rfl
  ·have h3 : k < ys.length := by omega
   have hne : Lib.compareBytes xs[k] ys[k] ≠ 0 := by
    intro h
    simp only [p, h3, decide_true, Bool.true_and, z0J hk, z0J h3, h] at hpk
    simp at hpk
   have : cmpL xs ys = Lib.compareBytes xs[k] ys[k] := zJV hk h3 (fun i h1 h4 hi => (hp0 i h1 (hall i hi)).2) hne
   simp only [if_neg h2, this, z0J hk, z0J h3]; rfl
def cmpN (a b : List UInt8) : Int := cmpL (z1N a).reverse (z1N b).reverse
theorem cmpN_val (a b : List UInt8) : cmpN a b = -1 ∨ cmpN a b = 0 ∨ cmpN a b = 1 := zKW _ _
theorem z7S {a b : List UInt8} (ha : a.length ≤ lim) (hb : b.length ≤ lim) : z1E.F [.str a, .str b] = some (.int (cmpN a b)) := by
 have hlim : lim = 1048576 := rfl
 rw [z7x]
 have h1 := z5S a (by omega)
 have h2 := z5S b (by omega)
 rw [show (if a.isEmpty then [] else splB 46 a) = z1N a from rfl] at h1
 rw [show (if b.isEmpty then [] else splB 46 b) = z1N b from rfl] at h2
 have hla := (z4s a).1
 have hlb := (z4s b).1
 refine z02 h1 (z02 h2 (z02 (zFJ (by simp; omega)) (z02 (zFJ (by simp; omega)) ?_)))
 have f0 : ∀ l : List (List UInt8), (D.pair .unit (.pair (.lst (l.map D.str).reverse) .unit)).fld 1 = .lst (l.reverse.map D.str) := fun l => by
  rw [← List.map_reverse]; rfl
 rw [f0, f0]
 exact z02 (zGf (by simp; omega)) rfl
theorem zFG (ls ms : List (List UInt8)) (hl : ls.length ≤ lim + 1) (hm : ms.length ≤ lim + 1) (x y : D) (R : Option D) (hR : some (.int (cmpL ls.reverse ms.reverse)) = R) : rn ((z0f (fun l4 =>
 (if (decide ((gd l4 0).i ≤ (((D.pair (.lst (ls.map D.str)) x).fld 0).l.length : Int))) then
     ou 0 [(.bool (decide ((gd l4 0).i ≤ (((D.pair (.lst (ms.map D.str)) y).fld 0).l.length : Int))))]
   else
    ou 0 [(.bool false)]).bind fun o5 =>
 sel2 o5.1 (if (gd o5.2 0).b then
  if (inb (IntKind.wrap .i64 ((((D.pair (.lst (ls.map D.str)) x).fld 0).l.length : Int) - (gd l4 0).i)) ((D.pair (.lst (ls.map D.str)) x).fld 0).l.length) then
  if (inb (IntKind.wrap .i64 ((((D.pair (.lst (ms.map D.str)) y).fld 0).l.length : Int) - (gd l4 0).i)) ((D.pair (.lst (ms.map D.str)) y).fld 0).l.length) then
  if (Op.bytesLess (gd ((D.pair (.lst (ls.map D.str)) x).fld 0).l (IntKind.wrap .i64 ((((D.pair (.lst (ls.map D.str)) x).fld 0).l.length : Int) - (gd l4 0).i)).toNat).s (gd ((D.pair (.lst (ms.map D.str)) y).fld 0).l (IntKind.wrap .i64 ((((D.pair (.lst (ms.map D.str)) y).fld 0).l.length : Int) - (gd l4 0).i)).toNat).s) then
   ou 1 [(.int (-1))]
  else
   if (!(Op.bytesLess (gd ((D.pair (.lst (ls.map D.str)) x).fld 0).l (IntKind.wrap .i64 ((((D.pair (.lst (ls.map D.str)) x).fld 0).l.length : Int) - (gd l4 0).i)).toNat).s (gd ((D.pair (.lst (ms.map D.str)) y).fld 0).l (IntKind.wrap .i64 ((((D.pair (.lst (ms.map D.str)) y).fld 0).l.length : Int) - (gd l4 0).i)).toNat).s || (gd ((D.pair (.lst (ls.map D.str)) x).fld 0).l (IntKind.wrap .i64 ((((D.pair (.lst (ls.map D.str)) x).fld 0).l.length : Int) - (gd l4 0).i)).toNat).s == (gd ((D.pair (.lst (ms.map D.str)) y).fld 0).l (IntKind.wrap .i64 ((((D.pair (.lst (ms.map D.str)) y).fld 0).l.length : Int) - (gd l4 0).i)).toNat).s)) then
    ou 1 [(.int 1)]
   else
    ou 0 [(.int (IntKind.wrap .i64 ((gd l4 0).i + 1)))]
  else none
  else none
  else
   ou 2 []) fun _ => none) [(.int 1)]).bind fun o4 =>
 sel2 o4.1 (ou 0 [(gd o4.2 0)]) fun n2 =>
 sel2 n2 (if (decide ((((D.pair (.lst (ls.map D.str)) x).fld 0).l.length : Int) < (((D.pair (.lst (ms.map D.str)) y).fld 0).l.length : Int))) then
  ou 0 [(.int (-1))]
  else
   if (decide ((((D.pair (.lst (ls.map D.str)) x).fld 0).l.length : Int) > (((D.pair (.lst (ms.map D.str)) y).fld 0).l.length : Int))) then
    ou 0 [(.int 1)]
   else
    ou 0 [(.int 0)]) fun _ => none) = R := by
 have hlim : lim = 1048576 := rfl
 subst hR
 have fx : ((D.pair (.lst (ls.map D.str)) x).fld 0).l = ls.map D.str := rfl
 have fy : ((D.pair (.lst (ms.map D.str)) y).fld 0).l = ms.map D.str := rfl
 rw [fx, fy]
 simp only [List.length_map]
 let n := min ls.length ms.length
 have hn1 : n ≤ ls.length := Nat.min_le_left _ _
 have hn2 : n ≤ ms.length := Nat.min_le_right _ _
 let c : Nat → Int := fun i => Lib.compareBytes (ls.reverse.getD i []) (ms.reverse.getD i [])
 have hg : ∀ (l : List (List UInt8)) i (hi : i < l.length), (gd (l.map D.str) (l.length - 1 - i)).s = l.reverse.getD i [] := by
  intro l i hi
  rw [z40 (by omega), z0J (by simpa using hi) [], List.getElem_reverse]; rfl
 have key := z4M (l := [.int 1]) (fun i => [.int ((i + 1 : Nat) : Int)]) n (fun i => c i == 0) (t1 := 0) (t2 := 1) (o1 := fun i => [.int (c i)]) (o2 := []) (f := fun l4 =>
  (if (decide ((gd l4 0).i ≤ (ls.length : Int))) then
      ou 0 [(.bool (decide ((gd l4 0).i ≤ (ms.length : Int))))]
    else
     ou 0 [(.bool false)]).bind fun o5 =>
  sel2 o5.1 (if (gd o5.2 0).b then
   if (inb (IntKind.wrap .i64 ((ls.length : Int) - (gd l4 0).i)) ls.length) then
   if (inb (IntKind.wrap .i64 ((ms.length : Int) - (gd l4 0).i)) ms.length) then
   if (Op.bytesLess (gd (ls.map D.str) (IntKind.wrap .i64 ((ls.length : Int) - (gd l4 0).i)).toNat).s (gd (ms.map D.str) (IntKind.wrap .i64 ((ms.length : Int) - (gd l4 0).i)).toNat).s) then
    ou 1 [(.int (-1))]
   else
    if (!(Op.bytesLess (gd (ls.map D.str) (IntKind.wrap .i64 ((ls.length : Int) - (gd l4 0).i)).toNat).s (gd (ms.map D.str) (IntKind.wrap .i64 ((ms.length : Int) - (gd l4 0).i)).toNat).s || (gd (ls.map D.str) (IntKind.wrap .i64 ((ls.length : Int) - (gd l4 0).i)).toNat).s == (gd (ms.map D.str) (IntKind.wrap .i64 ((ms.length : Int) - (gd l4 0).i)).toNat).s)) then
     ou 1 [(.int 1)]
    else
     ou 0 [(.int (IntKind.wrap .i64 ((gd l4 0).i + 1)))]
   else none
   else none
   else
    ou 2 []) fun _ => none) rfl ?_ ?_ ?_
 ·rcases key with ⟨hall, hloop⟩ | ⟨k, hk, hpk, hall, hloop⟩
  ·refine z0N hloop ?_
   have hz : ∀ i (h1 : i < ls.reverse.length) (h2 : i < ms.reverse.length), Lib.compareBytes ls.reverse[i] ms.reverse[i] = 0 := by
    intro i h1 h2
    have h1' : i < ls.length := by simpa using h1
    have h2' : i < ms.length := by simpa using h2
    have := hall i (by simp only [n]; omega)
    simp only [c, beq_iff_eq, z0J h1, z0J h2] at this
    exact this
   by_cases h1 : ls.length < ms.length
   ·have : cmpL ls.reverse ms.reverse = -1 := by
     refine (z9K (by simp; omega) hz).trans (if_pos (by simpa using h1))
    rw [this]
    exact z0K (decide_eq_true (by omega)) rfl
   ·refine z03 (fun h => h1 (by have h' : (ls.length : Int) < ms.length := of_decide_eq_true h; omega)) ?_
    by_cases h2 : ms.length < ls.length
    ·have : cmpL ls.reverse ms.reverse = 1 := zFf (by simpa using h2) hz
     rw [this]
     exact z0K (decide_eq_true (by omega)) rfl
    ·have : cmpL ls.reverse ms.reverse = 0 := by
      refine (z9K (by simp; omega) hz).trans (if_neg (by simp; omega))
     rw [this]
     exact z03 (fun h => h2 (by have h' : (ls.length : Int) > ms.length := of_decide_eq_true h; omega)) rfl
  ·refine z0N hloop ?_
   have h1 : k < ls.reverse.length := by simp; omega
   have h2 : k < ms.reverse.length := by simp; omega
   have hne : Lib.compareBytes ls.reverse[k] ms.reverse[k] ≠ 0 := by
    intro h
    simp only [c, z0J h1, z0J h2, h] at hpk
    simp at hpk
   have : cmpL ls.reverse ms.reverse = Lib.compareBytes ls.reverse[k] ms.reverse[k] := zJV h1 h2 (fun i a b hi => by
    have := hall i hi
    simp only [c, beq_iff_eq, z0J a, z0J b] at this
    exact this) hne
   rw [this]
   simp only [c, z0J h1, z0J h2]; rfl
 ·intro i hi hp
  have hi1 : i < ls.length := by omega
  have hi2 : i < ms.length := by omega
  have hp' : c i = 0 := by simpa using hp
  obtain ⟨b1, b2⟩ := z2m (ls.reverse.getD i []) (ms.reverse.getD i [])
  have he := b2.2 hp'
  have hbl : Op.bytesLess (ls.reverse.getD i []) (ms.reverse.getD i []) = false := by
   cases hq : Op.bytesLess (ls.reverse.getD i []) (ms.reverse.getD i []) with
   | false => rfl
   | true => have := b1.1 hq; simp only [c] at hp'; omega
  have wl : IntKind.wrap .i64 ((ls.length : Int) - ((i + 1 : Nat) : Int)) = ((ls.length - 1 - i : Nat) : Int) := by rw [z0S] <;> omega
  have wm : IntKind.wrap .i64 ((ms.length : Int) - ((i + 1 : Nat) : Int)) = ((ms.length - 1 - i : Nat) : Int) := by rw [z0S] <;> omega
  have w1 : IntKind.wrap .i64 (((i + 1 : Nat) : Int) + 1) = ((i + 1 + 1 : Nat) : Int) := by rw [z0S] <;> omega
  refine z2Z (r := (0, [.bool true])) (z04 (decide_eq_true (by simp; omega)) ?_) (sel0 (z04 rfl ?_))
  ·have : decide ((gd [D.int ((i + 1 : Nat) : Int)] 0).i ≤ (ms.length : Int)) = true := decide_eq_true (by simp; omega)
   rw [this]
  ·simp only [z1G, D.i_int, wl, wm, w1, Int.toNat_natCast, hg ls i hi1, hg ms i hi2]
   refine z04 (z0D (by omega)) (z04 (z0D (by omega)) (z00 (by rw [hbl]; decide) (z00 ?_ rfl)))
   rw [hbl, he]; simp
 ·intro i hi hp
  have hi1 : i < ls.length := by omega
  have hi2 : i < ms.length := by omega
  have hp' : c i ≠ 0 := by simpa using hp
  obtain ⟨b1, b2⟩ := z2m (ls.reverse.getD i []) (ms.reverse.getD i [])
  have wl : IntKind.wrap .i64 ((ls.length : Int) - ((i + 1 : Nat) : Int)) = ((ls.length - 1 - i : Nat) : Int) := by rw [z0S] <;> omega
  have wm : IntKind.wrap .i64 ((ms.length : Int) - ((i + 1 : Nat) : Int)) = ((ms.length - 1 - i : Nat) : Int) := by rw [z0S] <;> omega
  refine z2Z (r := (0, [.bool true])) (z04 (decide_eq_true (by simp; omega)) ?_) (sel0 (z04 rfl ?_))
  ·have : decide ((gd [D.int ((i + 1 : Nat) : Int)] 0).i ≤ (ms.length : Int)) = true := decide_eq_true (by simp; omega)
   rw [this]
  ·simp only [z1G, D.i_int, wl, wm, Int.toNat_natCast, hg ls i hi1, hg ms i hi2]
   refine z04 (z0D (by omega)) (z04 (z0D (by omega)) ?_)
   rcases z3h (ls.reverse.getD i []) (ms.reverse.getD i []) with h | h | h
   ·refine z04 (b1.2 h) ?_
    simp only [c, h]
   ·exact absurd h hp'
   ·have hbl : Op.bytesLess (ls.reverse.getD i []) (ms.reverse.getD i []) = false := by
     cases hq : Op.bytesLess (ls.reverse.getD i []) (ms.reverse.getD i []) with
     | false => rfl
     | true => have := b1.1 hq; omega
    have hne : ls.reverse.getD i [] ≠ ms.reverse.getD i [] := fun e => hp' (b2.1 e)
    refine z00 (by rw [hbl]; decide) (z04 ?_ ?_)
    ·rw [hbl]; simpa using hne
    ·simp only [c, h]
 ·have hd : ¬ (((n + 1 : Nat) : Int) ≤ (ls.length : Int) ∧ ((n + 1 : Nat) : Int) ≤ (ms.length : Int)) := by simp only [n]; omega
  by_cases h1 : ((n + 1 : Nat) : Int) ≤ (ls.length : Int)
  ·refine z2Z (r := (0, [.bool false])) (z04 (decide_eq_true h1) ?_) (sel0 (z00 (by simp) rfl))
   have : decide ((gd [D.int ((n + 1 : Nat) : Int)] 0).i ≤ (ms.length : Int)) = false := decide_eq_false (fun h => hd ⟨h1, h⟩)
   rw [this]
  ·exact z2Z (r := (0, [.bool false])) (z00 (fun h => h1 (of_decide_eq_true h)) rfl) (sel0 (z00 (by simp) rfl))
theorem zB7 {a b : List UInt8} (ha : a.length ≤ lim) (hb : b.length ≤ lim) : ∃ n : Int, z1n.F [.str a, .str b] = some (.int n) ∧ (z0p a = true → z0p b = true → n = cmpN a b) := by
 rw [zAi]
 obtain ⟨ls, h1, hl1, hp1⟩ := z44 a ha
 obtain ⟨ms, h2, hl2, hp2⟩ := z44 b hb
 refine ⟨cmpL ls.reverse ms.reverse, z02 h1 (z02 h2 (zFG ls ms (by omega) (by omega) _ _ _ rfl)), fun n1 n2 => ?_⟩
 rw [hp1 n1, hp2 n2]; rfl
end Go.Proofs.YtkogmjbmbpcbeaaGreatDoor
namespace Go.Proofs.YtkogmjbmbpcbeaaGreatDoor
open Go Go.Own
def zIx (n k : Nat) : D := .int (IntKind.wrap .u8 ((n / 2 ^ (8 * k) : Nat) : Int))
def bigL (n : Nat) : Nat → List D
 | 0 => []
 | c + 1 => zIx n c :: bigL n c
theorem zAn (n : Nat) : ∀ c, (bigL n c).length = c
 | 0 => rfl
 | c + 1 => by simp [bigL, zAn n c]
def bigB (n c : Nat) : List UInt8 := z0c (bigL n c)
theorem zAm (n c : Nat) : (bigB n c).length = c := by unfold bigB; rw [z0t, zAn]
theorem zE8 (n k : Nat) : (n : Int).fdiv (2 ^ k) = ((n / 2 ^ k : Nat) : Int) := by
 rw [Int.fdiv_eq_ediv_of_nonneg _ (Int.le_of_lt (Int.pow_pos (by decide)))]
 norm_cast
theorem zHV {c : Nat} (hc : c ≤ 4) (n : Nat) : z2I.F [.int (n : Int), .int c] = some (.str (bigB n c)) := by
 rw [z9c]
 have w0 : IntKind.wrap .i64 ((c : Int) - 1) = (c : Int) - 1 := by rw [z0S] <;> omega
 simp only [D.i_int, w0]
 obtain ⟨l, hl, hloop⟩ := z8U (f := fun l2 =>
  if (decide ((gd l2 1).i ≥ 0)) then
   if (decide (0 ≤ (IntKind.wrap .i64 (8 * (gd l2 1).i)))) then
   if (appOk 1 (gd l2 0).l ((.int (IntKind.wrap .u8 ((n : Int).fdiv (2 ^ min (IntKind.wrap .i64 (8 * (gd l2 1).i)).toNat (IntKind.bits .i64))))) :: ([] : List D))) then
   ou 0 [(D.lst ((gd l2 0).l ++ ((.int (IntKind.wrap .u8 ((n : Int).fdiv (2 ^ min (IntKind.wrap .i64 (8 * (gd l2 1).i)).toNat (IntKind.bits .i64))))) :: ([] : List D)))), (.int (IntKind.wrap .i64 ((gd l2 1).i - 1)))]
   else none
   else none
  else
   ou 1 [(gd l2 0)]) (l := [.lst [], .int ((c : Int) - 1)]) (fun m (zs : List D) => [.lst zs, .int ((m : Int) - 1)]) (fun m zs => m ≤ 4 ∧ zs ++ bigL n m = bigL n c) (t := 0) (out := fun zs => [.lst zs]) c [] rfl ⟨hc, rfl⟩ (by
  intro m zs hz
  have hzl : zs.length + (m + 1) = c := by have := congrArg List.length hz.2; simpa [zAn] using this
  have w1 : IntKind.wrap .i64 (8 * (((m + 1 : Nat) : Int) - 1)) = ((8 * m : Nat) : Int) := by rw [z0S] <;> omega
  have w2 : IntKind.wrap .i64 ((((m + 1 : Nat) : Int) - 1) - 1) = (m : Int) - 1 := by rw [z0S] <;> omega
  have hb : (D.int (IntKind.wrap .u8 ((n : Int).fdiv (2 ^ min ((8 * m : Nat) : Int).toNat (IntKind.bits .i64))))) = zIx n m := by
   have : min ((8 * m : Nat) : Int).toNat (IntKind.bits .i64) = 8 * m := by
    have : IntKind.bits .i64 = 64 := rfl
    rw [this]; omega
   rw [this, zE8]; rfl
  refine ⟨zs ++ [zIx n m], z04 (decide_eq_true (by simp)) (z04 ?_ (z04 ?_ ?_)), by omega, by rw [← hz.2]; simp [bigL]⟩
  ·simp only [z3Z, D.i_int, w1]; exact decide_eq_true (by omega)
  ·simp only [z1G, D.l_lst, appOk, List.length_singleton]
   simp [z19]; omega
  ·simp only [z1G, z3Z, D.i_int, D.l_lst, w1, w2, hb]) (by
  intro zs _
  exact z00 (by simp) rfl)
 have : l = bigL n c := by simpa [bigL] using hl.2
 subst this
 exact z0N hloop rfl
theorem z7e {c : Nat} (hc : c ≤ 4) (n : Nat) : z0x.F [.int (n : Int), .int c] = some (.str (bigB n c)) := by
 rw [z4u]
 have w0 : IntKind.wrap .i64 ((c : Int) - 1) = (c : Int) - 1 := by rw [z0S] <;> omega
 simp only [D.i_int, w0]
 obtain ⟨l, hl, hloop⟩ := z8U (f := fun l2 =>
  if (decide ((gd l2 2).i ≥ 0)) then
   if (inb (gd l2 2).i (gd l2 1).l.length) then
   if (decide (0 ≤ 8)) then
   ou 0 [(.int ((gd l2 0).i.fdiv (2 ^ min 8 (IntKind.bits .i64)))), (D.lst ((gd l2 1).l.set (gd l2 2).i.toNat (.int (IntKind.wrap .u8 (gd l2 0).i)))), (.int (IntKind.wrap .i64 ((gd l2 2).i - 1)))]
   else none
   else none
  else
   ou 1 [(gd l2 1)]) (l := [.int n, .lst (List.replicate ((c : Int)).toNat (.int 0)), .int ((c : Int) - 1)]) (fun m (z : Int × List D) => [.int z.1, .lst z.2, .int ((m : Int) - 1)]) (fun m z => m ≤ c ∧ z.1 = ((n / 2 ^ (8 * (c - m)) : Nat) : Int) ∧ z.2 = List.replicate m (.int 0) ++ bigL n (c - m)) (t := 0) (out := fun z => [.lst z.2]) c (n, List.replicate c (.int 0)) (by simp) (by simp [bigL]) (by
  rintro m ⟨x, zs⟩ ⟨hm, hx, hz⟩
  simp only at hx hz
  have w2 : IntKind.wrap .i64 ((((m + 1 : Nat) : Int) - 1) - 1) = (m : Int) - 1 := by rw [z0S] <;> omega
  have hlen : zs.length = c := by rw [hz]; simp [zAn]; omega
  have hcm : c - m = (c - (m + 1)) + 1 := by omega
  refine ⟨(x.fdiv (2 ^ min 8 (IntKind.bits .i64)), zs.set m (.int (IntKind.wrap .u8 x))), z04 (decide_eq_true (by simp)) (z04 ?_ (z04 (by decide) ?_)), by omega, ?_, ?_⟩
  ·simp only [z69, z3Z, D.i_int, D.l_lst]; exact zGn (by omega) (by omega)
  ·have e : (((m + 1 : Nat) : Int) - 1).toNat = m := by omega
   simp only [z1G, z3Z, z69, D.i_int, D.l_lst, w2, e]
  ·simp only
   rw [hx, show min 8 (IntKind.bits .i64) = 8 from rfl, zE8, hcm, Nat.div_div_eq_div_mul, ← Nat.pow_add, show 8 * (c - (m + 1)) + 8 = 8 * (c - (m + 1) + 1) by omega]
  ·simp only
   rw [hz, hx, hcm, bigL, List.replicate_succ', List.append_assoc, List.set_append_right _ _ (by simp)]
   simp [zIx]) (by
  intro zs _
  exact z00 (by simp) rfl)
 have : l.2 = bigL n c := by simpa using hl.2.2
 refine z0K ?_ (z0N hloop ?_)
 ·exact z7C (by have : lim = 1048576 := rfl; omega) (by decide)
 ·rw [this]; rfl
theorem zBc {s : List UInt8} {m : Int} (hm : m < 10000000000) (h : z3M s m = true) : z4X s = dv s := by
 have h2 := z79 (s := s) hm
 rw [h] at h2
 simp only [Bool.and_eq_true, decide_eq_true_eq] at h2
 unfold z4X at h2 ⊢
 split
 ·rfl
 ·rename_i hn; rw [if_neg hn] at h2; omega
def zAw (ps : List (List UInt8)) : Nat → List UInt8
 | 0 => []
 | i + 1 => zAw ps i ++ bigB (dv (ps.getD i [])) 1
theorem zEu (ps : List (List UInt8)) : ∀ i, (zAw ps i).length = i
 | 0 => rfl
 | i + 1 => by simp [zAw, zEu ps i, zAm]
theorem zLY {s : List UInt8} (h : s.length ≤ lim) (hok : z9o s = true) : ∃ b : List UInt8, z0k.F [.int 1, .str s] = some (.pair (.str b) (.pair (.bool true) .unit)) ∧ z0z.F [.int 1, .str s] = some (.pair (.str b) (.pair (.bool true) .unit)) := by
 have hlim : lim = 1048576 := rfl
 rw [z3l, z4F]
 have hsp := zGj s (by omega)
 have hsp2 := z6R s 46 h
 have hpl := z65 46 s
 have hpm := z7I 46 s
 unfold z9o at hok
 generalize splB 46 s = ps at hsp hsp2 hpl hpm hok
 simp only [Bool.and_eq_true, decide_eq_true_eq, List.all_eq_true] at hok
 obtain ⟨hnum, h4⟩ := hok
 have hsm : ps.length ≤ smax := by rw [z19]; omega
 have hlen : (D.lst (ps.map D.str)).l.length = ps.length := by simp
 have hcat : ∀ i, i < ps.length → catOk (zAw ps i) (bigB (dv (ps.getD i [])) 1) = true := fun i hi => by
  unfold catOk; rw [z19, zEu, zAm]; exact decide_eq_true (by omega)
 refine ⟨zAw ps ps.length, z0K rfl (z02 hsp (z0N (r := (1, [.str (zAw ps ps.length)])) ?_ rfl)), z0K rfl (z02 hsp2 (z0N (r := (1, [.str (zAw ps ps.length)])) ?_ ?_))⟩
 ·refine z1o (f := zLc ps) (fun i (t : List UInt8) => [.str t, .int i]) ps.length (zAw ps) rfl ?_ (z00 (by simp) rfl)
  intro i hi
  have hpi := hpm _ (List.getElem_mem hi)
  obtain ⟨v, hn, hv⟩ := z4j (s := ps[i]) (m := 255) (by omega) (by decide)
  have hq := hnum _ (List.getElem_mem hi)
  rw [hq] at hn
  have hv' := hv hq
  subst hv'
  have hc := hcat i hi
  rw [z0J hi] at hc
  refine (z93 hi hsm _).trans (z01 hn (z2Z (r := (0, [.bool false])) (z00 (by simp) (by simp [h4])) (sel0 (z00 (by simp) (z01 (zHV (c := 1) (by omega) _) (z04 hc ?_))))))
  rw [zAw, z0J hi]; rfl
 ·refine z1o (f := zLh ps) (fun i (t : List UInt8) => [.str t, .int i]) ps.length (zAw ps) rfl ?_ (z00 (by simp) rfl)
  intro i hi
  have hpi := hpm _ (List.getElem_mem hi)
  have hint := z95 (s := ps[i]) (by omega)
  have hq := hnum _ (List.getElem_mem hi)
  have hin := z8D (z4X ps[i]) 0 255
  rw [z79 (by decide), hq] at hin
  have he := zBc (by decide) hq
  rw [he] at hint hin
  have hc := hcat i hi
  rw [z0J hi] at hc
  refine (z97 hi hsm _).trans (z01 hint (z01 hin (z00 (by simp) (z01 (z7e (c := 1) (by omega) _) (z04 hc ?_)))))
  rw [zAw, z0J hi]; rfl
 ·have : ((ps.length : Int) == 4) = true := by rw [h4]; rfl
  simp only [zHv, zCe, z1G, hlen, this]; rfl
theorem zMQ {s : List UInt8} (h : s.length ≤ lim) (hn : z0p s = true) : ∃ b : List UInt8, b.length ≤ 2 * lim ∧ z1Y.F [.str s] = some (.str b) ∧ z2S.F [.str s] = some (.str (b ++ [0])) := by
 have hlim : lim = 1048576 := rfl
 rw [z5j, z7Z]
 have hl := z5S s (by omega)
 have hp : (if s.isEmpty then [] else splB 46 s) = z1N s := rfl
 rw [hp] at hl
 obtain ⟨ls, hl2, hll, hpt⟩ := z44 s h
 rw [hpt hn] at hl2
 obtain ⟨b, hb, hloop⟩ := zEO (ls := z1N s) (Nat.le_trans (z9J s) (by omega)) (Nat.le_trans (z4s s).1 (by omega))
 refine ⟨b, hb, z02 hl (z0N hloop rfl), z02 hl2 (z0N hloop (z0K (z4c (by simp; omega)) ?_))⟩
 simp
theorem zLH {k : Int} {s : List UInt8} (h : s.length ≤ lim) (hok : z3z k s = true) : ∃ b : List UInt8, z0k.F [.int k, .str s] = some (.pair (.str b) (.pair (.bool true) .unit)) ∧ z0z.F [.int k, .str s] = some (.pair (.str b) (.pair (.bool true) .unit)) := by
 have hlim : lim = 1048576 := rfl
 unfold z3z at hok
 by_cases k1 : k = 1
 ·subst k1; rw [if_pos rfl] at hok; exact zLY h hok
 rw [if_neg k1] at hok
 rw [z3l, z4F]
 have e1 : ¬ ((D.int k).i == 1) = true := by simpa using k1
 by_cases k25 : k = 2 ∨ k = 5
 ·rw [if_pos k25] at hok
  have ht := z71 h
  have ht2 := z73 h
  rw [hok] at ht ht2
  have hj : (if (D.int k).i == 2 then ou 0 [.bool ((D.int k).i == 2)] else ou 0 [.bool ((D.int k).i == 5)] : Outc) = some (0, [.bool true]) := by
   rcases k25 with rfl | rfl <;> rfl
  have hn : z0p s = true := by unfold z4h at hok; simp only [Bool.and_eq_true] at hok; exact hok.2.1
  obtain ⟨b, hbl, hb1, hb2⟩ := zMQ h hn
  exact ⟨b ++ [0], z03 e1 (z06 hj (z0K rfl (z02 ht (z03 (by simp) (z02 hb1 (z0K (z4c (by simp; omega)) rfl)))))), z03 e1 (z06 hj (z0K rfl (z02 ht2 (z03 (by simp) (z02 hb2 rfl)))))⟩
 rw [if_neg k25] at hok
 have hj : (if (D.int k).i == 2 then ou 0 [.bool ((D.int k).i == 2)] else ou 0 [.bool ((D.int k).i == 5)] : Outc) = some (0, [.bool false]) := by
  have h2 : ¬ k = 2 := fun h => k25 (.inl h)
  have h5 : ¬ k = 5 := fun h => k25 (.inr h)
  simp [h2, h5]
 by_cases k6 : k = 6
 ·rw [if_pos k6] at hok; subst k6
  obtain ⟨v, hn, hv⟩ := z4j (s := s) (m := 4294967295) h (by decide)
  have hv' := hv hok
  subst hv'
  rw [hok] at hn
  have hi := z95 h
  have hin := z8D (z4X s) 0 4294967295
  rw [z79 (by decide), hok] at hin
  rw [zBc (by decide) hok] at hi hin
  exact ⟨bigB (dv s) 4, z03 e1 (z06 hj (z03 (by simp) (z0K rfl (z02 hn (z03 (by simp) (z02 (zHV (c := 4) (by omega) _) rfl)))))), z03 e1 (z06 hj (z03 (by simp) (z0K rfl (z02 hi (z02 (z7e (c := 4) (by omega) _) (z02 hin rfl))))))⟩
 rw [if_neg k6] at hok
 have e6 : ¬ ((D.int k).i == 6) = true := by simpa using k6
 by_cases k15 : k = 15
 ·rw [if_pos k15] at hok; subst k15
  have hmx := zLO s
  rw [hok] at hmx
  have hc := zMF h
  have hle := zJ0 s [32]
  have hsp := z6R s 32 h
  unfold mxOk at hok
  have h32 : 32 ∈ s := by
   by_cases h0 : 32 ∈ s
   ·exact h0
   ·rw [z4w h0] at hok; simp [mxP] at hok
  obtain ⟨a, q, rfl, hp⟩ := z9P h32
  rw [zHQ hp] at hc hmx
  have hq32 : 32 ∉ q := by
   intro hq
   have := hmx.symm
   simp only [Bool.and_eq_true] at this
   rw [zGH hq] at this
   exact absurd this.2 (by decide)
  rw [z7H hp, z4w hq32] at hsp
  have hmx' := hmx.symm
  simp only [Bool.and_eq_true] at hmx'
  obtain ⟨hna, htq⟩ := hmx'
  have hla : a.length ≤ lim := by simp at h; omega
  have hlq : q.length ≤ lim := by simp at h; omega
  obtain ⟨v, hn, hv⟩ := z4j (s := a) (m := 65535) hla (by decide)
  have hv' := hv hna
  subst hv'
  rw [hna] at hn
  have ht := z71 hlq
  have ht2 := z73 hlq
  rw [htq] at ht ht2
  have hi := z95 (s := a) hla
  have hin := z8D (z4X a) 0 65535
  rw [z79 (by decide), hna] at hin
  rw [zBc (by decide) hna] at hi hin
  have hnq : z0p q = true := by unfold z4h at htq; simp only [Bool.and_eq_true] at htq; exact htq.2.1
  obtain ⟨b, hbl, hb1, hb2⟩ := zMQ hlq hnq
  have f0 : (cutD (a, q, true)).fld 0 = .str a := rfl
  have f1 : (cutD (a, q, true)).fld 1 = .str q := rfl
  have hbb := zAm (dv a) 2
  refine ⟨(bigB (dv a) 2 ++ b) ++ [0], z03 e1 (z06 hj (z03 (by simp) (z03 e6 (z0K rfl (z02 hc ?_))))), z03 e1 (z06 hj (z03 (by simp) (z03 e6 (z0K rfl (z02 hsp (z06 (l := [.bool false]) (z00 (by simp) (z04 rfl (z01 hi (z01 hin (z00 (by simp) (z04 rfl (z01 ht2 rfl))))))) (z03 (by simp) (z0K rfl (z02 hi (z02 (z7e (c := 2) (by omega) _) (z0K rfl (z02 hb2 (z0K (z4c (by simp; omega)) ?_)))))))))))))⟩
  ·rw [f0, f1]
   exact z02 hn (z06 (l := [.bool false]) (z00 (by simp) (z01 ht rfl)) (z03 (by simp) (z02 (zHV (c := 2) (by omega) _) (z02 hb1 (z0K (z4c (by simp only [D.s_str]; omega)) (z0K (z4c (by simp; omega)) rfl))))))
  ·simp
 rw [if_neg k15] at hok
 have e15 : ¬ ((D.int k).i == 15) = true := by simpa using k15
 by_cases k16 : k = 16
 ·rw [if_pos k16] at hok; subst k16
  have hc := zB4 (s := s) .unit (Nat.le_trans h z0u)
  have hsm := Nat.le_trans h z0u
  let q : UInt8 → Bool := fun c => decide (32 ≤ c.toNat) && decide (c.toNat ≤ 126)
  have hb1 := z0t [.int (IntKind.wrap .u8 (s.length : Int))]
  have hloop := z3v (f := fun l3 =>
                if (decide ((gd l3 0).i < ((D.str s).s.length : Int))) then
                 (if (inb (gd l3 0).i (D.str s).s.length) then
                   if (decide ((byteAt (D.str s).s (gd l3 0).i.toNat : Int) < 32)) then
                    ou 0 [(.bool true)]
                   else
                    ou 0 [(.bool (decide ((byteAt (D.str s).s (gd l3 0).i.toNat : Int) > 126)))]
                   else none).bind fun o4 =>
                 sel2 o4.1 (if (gd o4.2 0).b then
                  ou 1 [(D.str []), (.bool false)]
                  else
                   ou 0 [(.int (IntKind.wrap .i64 ((gd l3 0).i + 1)))]) fun _ => none
                else
                 ou 2 []) (l := [.int 0]) (fun i => [.int i]) s.length (fun i => q (s.getD i 0)) (t1 := 0) (t2 := 1) (o1 := [.str [], .bool false]) (o2 := []) rfl (by
   intro i hi
   rw [z0J hi]
   have hb : byteAt s i = (s[i]).toNat := z4l hi
   refine z04 (by simpa using hi) (z2Z (r := (0, [.bool !(q s[i])])) (z04 (by simpa using z0D hi) ?_) (sel0 ?_))
   ·simp only [z1G, D.i_int, Int.toNat_natCast, D.s_str, hb, q]
    by_cases hlo : ((s[i]).toNat : Int) < 32
    ·have : decide (32 ≤ (s[i]).toNat) = false := by simp; omega
     exact z04 (decide_eq_true hlo) (by rw [this]; rfl)
    ·have h1 : decide (32 ≤ (s[i]).toNat) = true := by simp; omega
     refine z00 (fun h => hlo (of_decide_eq_true h)) ?_
     have : decide (((s[i]).toNat : Int) > 126) = !(decide ((s[i]).toNat ≤ 126)) := by
      rw [Bool.eq_iff_iff]; simp; omega
     rw [h1, this]; rfl
   ·cases q s[i] with
    | true => simp [z0O hi hsm]
    | false => rfl) (by simp)
  rw [z5m s q 0] at hloop
  unfold zKL at hok
  simp only [Bool.and_eq_true, decide_eq_true_eq] at hok
  obtain ⟨h30, hq⟩ := hok
  rw [hq] at hc
  rw [show s.all q = true from hq] at hloop
  have hbb := zAm s.length 1
  have he : z0c [.int (IntKind.wrap .u8 (s.length : Int))] = bigB s.length 1 := by
   simp [bigB, bigL, zIx]
  refine ⟨bigB s.length 1 ++ s, z03 e1 (z06 hj (z03 (by simp) (z03 e6 (z03 e15 (z0K rfl (z06 (l := [.bool false]) (z00 (fun h => by have h' : (s.length : Int) > 30 := of_decide_eq_true h; omega) (z01 hc rfl)) (z03 (by simp) (z02 (zHV (c := 1) (by omega) _) (z0K (z4c (by simp only [D.s_str]; omega)) rfl))))))))), z03 e1 (z06 hj (z03 (by simp) (z03 e6 (z03 e15 (z0K rfl (z0N hloop (z0K (z4c ?_) ?_)))))))⟩
  ·rw [D.s_str, hb1, List.length_singleton]; omega
  ·have : decide ((s.length : Int) ≤ 30) = true := by simp; omega
   rw [D.s_str, this, he]; rfl
 ·rw [if_neg k16] at hok; cases hok
noncomputable def datB (k : Int) (s : List UInt8) : List UInt8 := match z0k.F [.int k, .str s] with
 | some (.pair (.str b) _) => b
 | _ => []
theorem zLg {k : Int} {s : List UInt8} (h : s.length ≤ lim) (hok : z3z k s = true) : z0k.F [.int k, .str s] = some (.pair (.str (datB k s)) (.pair (.bool true) .unit)) := by
 obtain ⟨b, h1, _⟩ := zLH h hok
 unfold datB
 rw [h1]
theorem zMH {k : Int} {s : List UInt8} (h : s.length ≤ lim) (hok : z3z k s = true) : z0z.F [.int k, .str s] = some (.pair (.str (datB k s)) (.pair (.bool true) .unit)) := by
 obtain ⟨b, h1, h2⟩ := zLH h hok
 unfold datB
 rw [h1]; exact h2
end Go.Proofs.YtkogmjbmbpcbeaaGreatDoor
namespace Go.Proofs.YtkogmjbmbpcbeaaGreatDoor
open Go Go.Own
theorem zE4 (a b : Int) : z11.F [.int a, .int b] = some (.int (intC a b)) := by
 have n1 : ∀ s : Int, z2b.F [.int s] = some (.bool false) := fun s => by
  rw [zCF]; simp
 rw [z9Y]
 refine z02 (n1 a) (z02 (n1 b) (z03 (by simp) (z03 (by simp) ?_)))
 unfold intC
 by_cases h : a < b
 ·rw [if_pos h]; exact z0K (decide_eq_true h) rfl
 ·rw [if_neg h]
  refine z03 (fun h' => h (of_decide_eq_true h')) ?_
  by_cases h2 : b < a
  ·rw [if_pos h2]; exact z0K (decide_eq_true h2) rfl
  ·rw [if_neg h2]; exact z03 (fun h' => h2 (of_decide_eq_true h')) rfl
def orL : List Int → Int
 | [] => 0
 | x :: xs => if x = 0 then orL xs else x
theorem zHp : ∀ {xs : List Int}, (∀ i (h : i < xs.length), xs[i] = 0) → orL xs = 0
 | [], _ => rfl
 | x :: xs, h => by
   have h0 := h 0 (by simp)
   simp only [List.getElem_cons_zero] at h0
   rw [orL, if_pos h0]
   exact zHp fun i hi => by have := h (i + 1) (by simp; omega); simpa using this
theorem zLP : ∀ {xs : List Int} {k : Nat} (hk : k < xs.length), (∀ i (h : i < xs.length), i < k → xs[i] = 0) → xs[k] ≠ 0 → orL xs = xs[k]
 | x :: xs, 0, _, _, hne => by rw [orL, if_neg (by simpa using hne)]; rfl
 | x :: xs, k + 1, hk, h, hne => by
   have h0 := h 0 (by simp) (by omega)
   simp only [List.getElem_cons_zero] at h0
   rw [orL, if_pos h0]
   exact zLP (xs := xs) (k := k) (by simpa using hk) (fun i hi hik => by have := h (i + 1) (by simp; omega) (by omega); simpa using this) (by simpa using hne)
theorem zGe {xs : List Int} (hl : xs.length ≤ lim) : z2K.F [.lst (xs.map .int)] = some (.int (orL xs)) := by
 have hsm := Nat.le_trans hl z0u
 rw [zFs]
 have hlen : (D.lst (xs.map D.int)).l.length = xs.length := by simp
 rw [hlen]
 have key := z4M (l := [.int 0]) (fun i => [.int i]) xs.length (fun i => xs.getD i 0 == 0) (t1 := 0) (t2 := 1) (o1 := fun i => [.int (xs.getD i 0)]) (o2 := []) (f := fun l1 =>
  if (decide ((gd l1 0).i < (xs.length : Int))) then
   if (inb (gd l1 0).i xs.length) then
   if ((gd (D.lst (xs.map D.int)).l (gd l1 0).i.toNat).i != 0) then
    ou 1 [(gd (D.lst (xs.map D.int)).l (gd l1 0).i.toNat)]
   else
    ou 0 [(.int (IntKind.wrap .i64 ((gd l1 0).i + 1)))]
   else none
  else
   ou 2 []) rfl (by
  intro i hi hp
  rw [z0J hi] at hp
  have : xs[i] = 0 := by simpa using hp
  simp [hi, z0D hi, z40 hi, this, z0O hi hsm]) (by
  intro i hi hp
  rw [z0J hi] at hp
  have : ¬ xs[i] = 0 := by simpa using hp
  simp [hi, z0D hi, z40 hi, this]) (by simp)
 rcases key with ⟨hall, hloop⟩ | ⟨k, hk, hpk, hall, hloop⟩
 ·refine z0N hloop ?_
  rw [zHp (fun i hi => by have := hall i hi; rw [z0J hi] at this; simpa using this)]; rfl
 ·refine z0N hloop ?_
  rw [z0J hk] at hpk
  have : orL xs = xs[k] := zLP hk (fun i hi hik => by have := hall i hik; rw [z0J hi] at this; simpa using this) (by simpa using hpk)
  rw [this, z0J hk]; rfl
theorem orL2 (x y : Int) : orL [x, y] = if x = 0 then y else x := by
 simp only [orL]; split
 ·split <;> simp_all
 ·rfl
theorem orL3 (x y z : Int) : orL [x, y, z] = if x = 0 then (if y = 0 then z else y) else x := by
 simp only [orL]; split
 ·split
  ·split <;> simp_all
  ·rfl
 ·rfl
def cmpK (a b : Rec) : Int := orL [cmpN a.name b.name, intC a.type b.type]
theorem zE5 {a b : Rec} (ha : a.In lim) (hb : b.In lim) : z2L.F [a.d, b.d] = some (.int (cmpK a b)) := by
 rw [z8i]
 exact z02 (z7S ha.name hb.name) (z02 (zE4 a.type b.type) (z02 (zGe (xs := [cmpN a.name b.name, intC a.type b.type]) (Nat.le_of_ble_eq_true rfl)) rfl))
noncomputable def datX (k : Int) (s : List UInt8) : List UInt8 := if z3z k s = true then datB k s else []
theorem zB5 {k : Int} {s : List UInt8} (h : s.length ≤ lim) : z2J.F [.int k, .str s] = some (.str (datX k s)) := by
 rw [zAb]
 unfold datX
 by_cases hok : z3z k s = true
 ·rw [if_pos hok]
  exact z02 (zLg h hok) (z03 (by simp) rfl)
 ·rw [if_neg hok]
  obtain ⟨b, hb⟩ := zLI (k := k) h
  rw [show z3z k s = false by simpa using hok] at hb
  exact z02 hb (z0K rfl rfl)
noncomputable def cmpR (a b : Rec) : Int := orL [cmpK a b, Lib.compareBytes (datX a.type a.data) (datX b.type b.data), intC a.ttl b.ttl]
theorem zFK (a b : List UInt8) : z1z.F [.str a, .str b] = some (.int (Lib.compareBytes a b)) := by
 rw [show z1z.F = zHP from by unfold z1z zAp; rfl]
 rfl
theorem zA2 {a b : Rec} (ha : a.In lim) (hb : b.In lim) : z1a.F [a.d, b.d] = some (.int (cmpR a b)) := by
 rw [z6r]
 exact z02 (zE5 ha hb) (z02 (zB5 ha.data) (z02 (zB5 hb.data) (z02 (zFK _ _) (z02 (zE4 a.ttl b.ttl) (z02 (zGe (xs := [cmpK a b, Lib.compareBytes (datX a.type a.data) (datX b.type b.data), intC a.ttl b.ttl]) (Nat.le_of_ble_eq_true rfl)) rfl)))))
theorem z72 (b : Bool) : z2q.F [.bool b] = some (.int (if b then -1 else 1)) := by
 rw [zEg]; cases b <;> rfl
theorem zFe {x y : Int} (h : x ≠ y) : (if decide (x < y) then (-1 : Int) else 1) = intC x y := by
 unfold intC
 by_cases h1 : x < y
 ·simp [h1]
 ·have : y < x := by omega
  simp [h1, this]
theorem zGq {x y : List UInt8} (h : x ≠ y) : (if Op.bytesLess x y then (-1 : Int) else 1) = Lib.compareBytes x y := by
 obtain ⟨h1, h2⟩ := z2m x y
 rcases z3h x y with h3 | h3 | h3
 ·rw [if_pos (h1.2 h3), h3]
 ·exact absurd (h2.2 h3) h
 ·rw [if_neg (fun e => by have := h1.1 e; omega), h3]
theorem zGh {a b : Rec} (ha : a.In lim) (hb : b.In lim) : ∃ n : Int, z1P.F [a.d, b.d] = some (.int n) ∧ (a.ok = true → b.ok = true → n = cmpR a b) := by
 rw [zAj]
 have f0 : a.d.fld 0 = .str a.name := rfl
 have f1 : a.d.fld 1 = .int a.type := rfl
 have f2 : a.d.fld 2 = .int a.ttl := rfl
 have f3 : a.d.fld 3 = .str a.data := rfl
 have g0 : b.d.fld 0 = .str b.name := rfl
 have g1 : b.d.fld 1 = .int b.type := rfl
 have g2 : b.d.fld 2 = .int b.ttl := rfl
 have g3 : b.d.fld 3 = .str b.data := rfl
 rw [f0, f1, f2, f3, g0, g1, g2, g3]
 obtain ⟨m, hm, hmE⟩ := zB7 ha.name hb.name
 by_cases hok : a.ok = true ∧ b.ok = true
 ·obtain ⟨oka, okb⟩ := hok
  have ha' := oka
  have hb' := okb
  unfold Rec.ok at ha' hb'
  simp only [Bool.and_eq_true] at ha' hb'
  have hmE' := hmE ha'.2.1 hb'.2.1
  subst hmE'
  have ea : datX a.type a.data = datB a.type a.data := by unfold datX; rw [if_pos ha'.1]
  have eb : datX b.type b.data = datB b.type b.data := by unfold datX; rw [if_pos hb'.1]
  have hK : cmpK a b = if cmpN a.name b.name = 0 then intC a.type b.type else cmpN a.name b.name := orL2 _ _
  have hR : cmpR a b = if cmpK a b = 0 then (if Lib.compareBytes (datB a.type a.data) (datB b.type b.data) = 0 then intC a.ttl b.ttl else Lib.compareBytes (datB a.type a.data) (datB b.type b.data)) else cmpK a b := by
   have := orL3 (cmpK a b) (Lib.compareBytes (datX a.type a.data) (datX b.type b.data)) (intC a.ttl b.ttl)
   rw [ea, eb] at this
   rw [← this, cmpR, ea, eb]
  refine ⟨cmpR a b, z02 hm ?_, fun _ _ => rfl⟩
  by_cases h1 : cmpN a.name b.name = 0
  ·rw [if_pos h1] at hK
   refine z03 (by simp [h1]) (z02 (zMH ha.data ha'.1) (z02 (zMH hb.data hb'.1) ?_))
   by_cases h2 : a.type = b.type
   ·have : intC a.type b.type = 0 := by rw [h2]; exact z58.refl _
    rw [if_pos (hK.trans this)] at hR
    refine z03 (by simp [h2]) ?_
    by_cases h3 : datB a.type a.data = datB b.type b.data
    ·rw [if_pos ((z2m _ _).2.1 h3)] at hR
     refine z03 (by simp [h3]) ?_
     rw [hR]
     by_cases h4 : a.ttl = b.ttl
     ·have : intC a.ttl b.ttl = 0 := by rw [h4]; exact z58.refl _
      rw [this]
      exact z03 (by simp [h4]) rfl
     ·refine z0K (by simpa using h4) (z02 (z72 _) ?_)
      rw [← zFe h4]; rfl
    ·have : Lib.compareBytes (datB a.type a.data) (datB b.type b.data) ≠ 0 := fun h => h3 ((z2m _ _).2.2 h)
     rw [if_neg this] at hR
     refine z0K (by simpa using h3) (z02 (z72 _) ?_)
     have e1 : ((D.pair (.str (datB a.type a.data)) (.pair (.bool true) .unit)).fld 0).s = datB a.type a.data := rfl
     have e2 : ((D.pair (.str (datB b.type b.data)) (.pair (.bool true) .unit)).fld 0).s = datB b.type b.data := rfl
     rw [e1, e2, zGq h3, hR]; rfl
   ·have : intC a.type b.type ≠ 0 := fun h => h2 (z58.eq _ _ h)
    rw [if_neg (by rw [hK]; exact this), hK] at hR
    refine z0K (by simpa using h2) (z02 (z72 _) ?_)
    rw [hR, ← zFe h2]; rfl
  ·rw [if_neg h1] at hK
   rw [if_neg (by rw [hK]; exact h1), hK] at hR
   rw [hR]
   exact z0K (by simpa using h1) rfl
 ·have hc : ∀ n : Int, a.ok = true → b.ok = true → n = cmpR a b := fun n h1 h2 => absurd ⟨h1, h2⟩ hok
  obtain ⟨x, hx⟩ := f_l3 (k := a.type) ha.data
  obtain ⟨y, hy⟩ := f_l3 (k := b.type) hb.data
  by_cases h1 : m = 0
  ·by_cases h2 : a.type = b.type
   ·by_cases h3 : x = y
    ·by_cases h4 : a.ttl = b.ttl
     ·exact ⟨0, z02 hm (z03 (by simp [h1]) (z02 hx (z02 hy (z03 (by simp [h2]) (z03 (by rw [h3]; simp) (z03 (by simp [h4]) rfl)))))), hc _⟩
     ·exact ⟨_, z02 hm (z03 (by simp [h1]) (z02 hx (z02 hy (z03 (by simp [h2]) (z03 (by rw [h3]; simp) (z0K (by simpa using h4) (z02 (z72 _) rfl))))))), hc _⟩
    ·exact ⟨_, z02 hm (z03 (by simp [h1]) (z02 hx (z02 hy (z03 (by simp [h2]) (z0K (by simpa using h3) (z02 (z72 _) rfl)))))), hc _⟩
   ·exact ⟨_, z02 hm (z03 (by simp [h1]) (z02 hx (z02 hy (z0K (by simpa using h2) (z02 (z72 _) rfl))))), hc _⟩
  ·exact ⟨m, z02 hm (z0K (by simpa using h1) rfl), hc _⟩
def Rec.nul : Rec := ⟨[], 0, 0, []⟩
theorem z57 {xs : List Rec} {i : Nat} (hi : i < xs.length) : gd (xs.map Rec.d) i = xs[i].d := z40 hi
noncomputable def upAt (xs : List Rec) (i : Nat) : Bool := (xs.getD i Rec.nul).ok && (i == 0 || decide (cmpR (xs.getD (i - 1) Rec.nul) (xs.getD i Rec.nul) < 0))
noncomputable def z8m (xs : List Rec) : Bool := allN xs.length (upAt xs)
theorem zGd {xs : List Rec} (hl : xs.length ≤ lim) (hx : ∀ x ∈ xs, x.In lim) : z2w.F [.lst (xs.map Rec.d)] = some (.bool (z8m xs)) := by
 have hsm := Nat.le_trans hl z0u
 rw [zAa]
 have hlen : (D.lst (xs.map Rec.d)).l.length = xs.length := by simp
 rw [hlen]
 refine z0N (z3v (fun i => [.int i]) xs.length (upAt xs) (t1 := 0) (t2 := 1) (o1 := []) (o2 := []) rfl ?_ ?_) ?_
 ·intro i hi
  have hg : gd (D.lst (xs.map Rec.d)).l i = xs[i].d := z57 hi
  have h1 := zJ9 (hx _ (List.getElem_mem hi))
  refine z04 (by simpa using hi) (z04 (by simpa using z0D hi) ?_)
  have e0 : (gd [D.int (i : Int)] 0).i.toNat = i := by simp
  have e1 : (gd [D.int (i : Int)] 0).i = i := rfl
  rw [e0, e1, hg, z0O hi hsm]
  refine z2Z (r := (0, [.bool !(upAt xs i)])) ?_ ?_
  ·unfold upAt
   rw [z0J hi]
   cases hk : xs[i].ok with
   | false => rw [hk] at h1; exact z01 h1 (z04 rfl rfl)
   | true =>
     rw [hk] at h1
     refine z01 h1 (z00 (by simp) ?_)
     by_cases h0 : i = 0
     ·subst h0; exact z00 (by simp) rfl
     ·have w : IntKind.wrap .i64 ((i : Int) - 1) = ((i - 1 : Nat) : Int) := by rw [z19] at hsm; rw [z0S] <;> omega
      have hi1 : i - 1 < xs.length := by omega
      have hc := zA2 (hx _ (List.getElem_mem hi1)) (hx _ (List.getElem_mem hi))
      refine z04 (decide_eq_true (by omega)) (z04 (by rw [w]; exact z0D hi1) ?_)
      rw [w, Int.toNat_natCast, show (D.lst (xs.map Rec.d)).l = xs.map Rec.d from rfl, z57 hi1]
      refine z01 hc ?_
      rw [z0J hi1]
      have : decide ((D.int (cmpR xs[i - 1] xs[i])).i ≥ 0) = !(decide (cmpR xs[i - 1] xs[i] < 0)) := by
       rw [Bool.eq_iff_iff]; simp
      rw [this]
      have : (i == 0) = false := by simpa using h0
      rw [this]; simp
  ·cases upAt xs i <;> simp
 ·simp
 ·unfold z8m
  cases allN xs.length (upAt xs) <;> simp
end Go.Proofs.YtkogmjbmbpcbeaaGreatDoor
namespace Go.Own
variable [Glb]
open Go
theorem zH4 {α : Type} {g : α → D} {c : Prop} [Decidable c] {a b : Outc} (h : ¬ c) (hk : ∃ s, rn b = some (g s)) : ∃ s, rn (if c then a else b) = some (g s) := by rw [if_neg h]; exact hk
theorem zFB {f : List D → Outc} {c : Nat × List D → Outc} {k : Int} (h0 : 0 ≤ k) (h1 : k < 10 ^ 18)
 (hs : ∀ (n : Int) (s : List UInt8), 0 < n → n < 10 ^ 18 → s.length ≤ 30 → ∃ c : List UInt8, c.length = 1 ∧ f [.int n, .str s] = some (0, [.int (n.tdiv 10), .str (c ++ s)]))
 (he : ∀ (n : Int) (s : List UInt8), n ≤ 0 → f [.int n, .str s] = some (1, [.str s])) (hc : ∀ s : List UInt8, s.length ≤ 30 → ∃ s', rn (c (0, [.str s])) = some (.str s')) :
 ∃ s, rn ((z0f f [.int k, .str []]).bind c) = some (.str s) := by
 have key : ∀ (fuel : Nat), fuel ≤ 18 → ∀ (n : Int) (s : List UInt8), 0 ≤ n → n < 10 ^ fuel → s.length + fuel ≤ 30 → ∃ s', z0f f [.int n, .str s] = some (0, [.str s']) ∧ s'.length ≤ 30 := by
  intro fuel
  induction fuel with
  | zero =>
    intro _ n s h0 h1 h2
    exact ⟨s, z1F (he n s (by simp at h1; omega)), by omega⟩
  | succ m ih =>
    intro hm n s h0 h1 h2
    by_cases hn : n ≤ 0
    ·exact ⟨s, z1F (he n s hn), by omega⟩
    ·have hp : (10 : Int) ^ (m + 1) = 10 ^ m * 10 := Int.pow_succ 10 m
     have hp2 : (10 : Int) ^ (m + 1) ≤ 10 ^ 18 := by
      have := Nat.pow_le_pow_right (n := 10) (by omega) hm
      exact_mod_cast this
     obtain ⟨c, hc, hstep⟩ := hs n s (by omega) (by omega) (by omega)
     rw [z1j hstep]
     have h3 : n.tdiv 10 = n / 10 := Int.tdiv_eq_ediv_of_nonneg (by omega)
     refine ih (by omega) (n.tdiv 10) (c ++ s) (by omega) ?_ (by simp; omega)
     rw [h3]
     omega
 obtain ⟨s, h2, h3⟩ := key 18 (Nat.le_refl _) k [] h0 h1 (by simp)
 rw [h2]
 exact hc s h3
end Go.Own
namespace Go.Proofs.YtkogmjbmbpcbeaaGreatDoor
open Go Go.Own
abbrev tRec : T := .pair .str (.pair (.int .i64) (.pair (.int .i64) (.pair .str .unit)))
abbrev tZone : T := .pair .str (.pair (.int .i64) (.pair (.lst false tRec) .unit))
theorem zDn : (10 : Int) ^ 18 = 1000000000000000000 := by decide
theorem zMW {B : Nat} {d : D} (h : Sm B tRec d) : ∃ x : Rec, d = x.d ∧ x.In B := by
 obtain ⟨_, _, rfl, ⟨s, rfl, hs⟩, _, _, rfl, ⟨n, rfl, _⟩, _, _, rfl, ⟨m, rfl, _⟩, _, _, rfl, ⟨t, rfl, ht⟩, rfl⟩ := h
 exact ⟨⟨s, n, m, t⟩, rfl, hs, ht⟩
theorem zGr {α : Type} {g : α → D} {Q : α → Prop} : ∀ {xs : List D}, (∀ x ∈ xs, ∃ y : α, x = g y ∧ Q y) → ∃ ys : List α, xs = ys.map g ∧ ∀ y ∈ ys, Q y
 | [], _ => ⟨[], rfl, by simp⟩
 | x :: xs, h => by
   obtain ⟨y, rfl, hy⟩ := h x (by simp)
   obtain ⟨ys, rfl, hys⟩ := zGr (xs := xs) (fun z hz => h z (by simp [hz]))
   exact ⟨y :: ys, rfl, by simpa using ⟨hy, hys⟩⟩
theorem zIC (x : Rec) : z3H.F [x.d, x.d] = some (.bool true) := by
 rw [zCP]; simp [Rec.d]
theorem zB6 {xs : List Rec} (hl : xs.length ≤ smax) : z1O.F [.lst (xs.map Rec.d), .lst (xs.map Rec.d)] = some (.bool true) := by
 rw [zAc, if_neg (by simp)]
 refine z0N (z1o (fun i (_ : Unit) => [.int i]) xs.length (fun _ => ()) (t := 1) (o := []) rfl ?_ ?_) rfl
 ·intro i hi
  simp [hi, z57 hi, z0D hi, z0O hi hl, zIC]
 ·simp
theorem zIK (x : Rec) : z3L.F [x.d] = some x.d := by rw [zCU]; rfl
def recZ : D := .pair (.str []) (.pair (.int 0) (.pair (.int 0) (.pair (.str []) .unit)))
theorem zB9 {xs : List Rec} (hl : xs.length ≤ lim) : z0l.F [.lst (xs.map Rec.d)] = some (.lst (xs.map Rec.d)) := by
 have hlen : (D.lst (xs.map Rec.d)).l.length = xs.length := by simp
 rw [zAf, hlen]; refine z0K (z7C hl (by decide)) ?_
 refine z0N (z1o (fun i (zs : List D) => [.lst zs, .int i]) xs.length (z6U (xs.map Rec.d) recZ) (t := 0) (o := [.lst (xs.map Rec.d)]) (by simp [zBC, recZ]) ?_ ?_) rfl
 ·intro i hi
  have hm : i < (xs.map Rec.d).length := by simpa using hi
  have hf := zDX (z := recZ) hm
  have ht := zIK xs[i]
  rw [List.getElem_map] at hf
  simp [hi, z57 hi, z0D hi, z0O hi (Nat.le_trans hl z0u), z8F (Nat.le_of_lt hm), hf, ht]
 ·have := zDW (xs := xs.map Rec.d) (z := recZ)
  rw [List.length_map] at this
  simp [this]
theorem z6a {left : Int} {n : Nat} (h0 : 0 ≤ left) (h1 : left ≤ lim) (hn : n ≤ smax) : IntKind.wrap .i64 (left - (n : Int)) = left - n := by
 have hlim : (lim : Int) = 1048576 := rfl
 have hsm : (smax : Int) = 9223372036854775807 := rfl
 exact z0S (by omega) (by omega)
def z66 (s : Int) (x : D) : Int := if s - (x.fld 0).s.length < 0 then -1 else if s - (x.fld 0).s.length - (x.fld 3).s.length < 0 then -1 else s - (x.fld 0).s.length - (x.fld 3).s.length
theorem zII {x : Rec} {left : Int} (hx : x.In smax) (h0 : 0 ≤ left) (h1 : left ≤ lim) : z3J.F [x.d, .int left] = some (.int (z66 left x.d)) := by
 rw [zCS]
 have hw := z6a h0 h1 hx.name
 have hd : (x.d.fld 0).s = x.name := rfl
 have hd1 : (x.d.fld 3).s = x.data := rfl
 simp only [hd, hd1, D.i_int, hw, z66]
 by_cases h : left - (x.name.length : Int) < 0
 ·rw [if_pos h]; exact z0K (decide_eq_true h) rfl
 ·rw [if_neg h]
  have hw2 := z6a (left := left - x.name.length) (by omega) (by omega) hx.data
  rw [hw2]
  refine z03 (fun hc => h (of_decide_eq_true hc)) ?_
  by_cases h2 : left - (x.name.length : Int) - (x.data.length : Int) < 0
  ·rw [if_pos h2]; exact z0K (decide_eq_true h2) rfl
  ·rw [if_neg h2]; exact z03 (fun hc => h2 (of_decide_eq_true hc)) rfl
theorem z7J {x : Rec} (s : Int) (h0 : 0 ≤ s) (h1 : s ≤ lim) : z66 s x.d ≤ s ∧ (0 ≤ z66 s x.d → x.In lim) := by
 have hd : (x.d.fld 0).s = x.name := rfl
 have hd1 : (x.d.fld 3).s = x.data := rfl
 simp only [z66, hd, hd1]
 by_cases h : s - (x.name.length : Int) < 0
 ·rw [if_pos h]; omega
 ·rw [if_neg h]
  by_cases h2 : s - (x.name.length : Int) - (x.data.length : Int) < 0
  ·rw [if_pos h2]; omega
  ·rw [if_neg h2]; exact ⟨by omega, fun _ => ⟨by omega, by omega⟩⟩
theorem Rec.d_inj {x y : Rec} (h : x.d = y.d) : x = y := by
 obtain ⟨a, b, c, d⟩ := x
 obtain ⟨a', b', c', d'⟩ := y
 simp only [Rec.d, D.pair.injEq, D.str.injEq, D.int.injEq] at h
 obtain ⟨h2, h3, h4, h5, _⟩ := h
 subst h2; subst h3; subst h4; subst h5; rfl
theorem zB8 {xs : List Rec} {left : Int} (hl : xs.length ≤ smax) (hx : ∀ x ∈ xs, x.In smax) (h0 : 0 ≤ left) (h1 : left ≤ lim) : z1l.F [.lst (xs.map Rec.d), .int left] = some (.int (szL z66 (xs.map Rec.d) left)) := by
 have hw := z6a h0 h1 hl
 have hlen : (D.lst (xs.map Rec.d)).l.length = (xs.map Rec.d).length := rfl
 have hlen' : (xs.map Rec.d).length = xs.length := by simp
 rw [zAe, hlen]
 have hw' : IntKind.wrap .i64 (left - ((xs.map Rec.d).length : Int)) = left - (xs.map Rec.d).length := by rw [hlen']; exact hw
 by_cases hlt : left - ((xs.map Rec.d).length : Int) < 0
 ·refine z0K (by rw [D.i_int, hw']; exact decide_eq_true hlt) ?_
  unfold szL
  rw [if_pos hlt]; rfl
 ·refine z03 (by rw [D.i_int, hw']; exact fun hc => hlt (of_decide_eq_true hc)) ?_
  simp only [D.l_lst, D.i_int, hw']
  refine z0N (zI1 (c := z66) hlt h1 ?_ ?_ ?_) ?_
  ·intro x hx' s h1 h2
   obtain ⟨y, hy, rfl⟩ := List.mem_map.1 hx'
   exact (z7J s h1 h2).1
  ·intro i s hi h1 h2
   have hi' : i < xs.length := by simpa using hi
   have hg : (xs.map Rec.d)[i] = xs[i].d := by simp
   have hz := zII (hx _ (List.getElem_mem hi')) h1 h2
   rw [hg]
   constructor <;> intro hc <;> simp [hi', z57 hi', z0D hi', z0O hi' hl, hz, hc]
  ·intro s; simp
  ·rcases zGG z66 (xs.map Rec.d) left with h | h <;> simp [h]
theorem zHG {xs : List Rec} {left : Int} (h0 : 0 ≤ left) (h1 : left ≤ lim) : szL z66 (xs.map Rec.d) left ≤ left ∧ (0 ≤ szL z66 (xs.map Rec.d) left → xs.length ≤ lim ∧ ∀ x ∈ xs, x.In lim) := by
 have hs := zI2 (c := z66) (Q := fun d => ∃ y : Rec, d = y.d ∧ y.In lim) (xs := xs.map Rec.d) (left := left) h1 (by
  intro x hx' s h1 h2
  obtain ⟨y, hy, rfl⟩ := List.mem_map.1 hx'
  exact ⟨(z7J s h1 h2).1, fun h => ⟨y, rfl, (z7J s h1 h2).2 h⟩⟩) h0
 refine ⟨hs.1, fun hp => ?_⟩
 have := hs.2 hp
 refine ⟨by simpa using this.1, fun x hx => ?_⟩
 obtain ⟨y, hy, hyl⟩ := this.2 x.d (List.mem_map.2 ⟨x, hx, rfl⟩)
 rw [Rec.d_inj hy]; exact hyl
theorem zDT {k : Int} (h0 : 0 ≤ k) (h1 : k < 10 ^ 18) : ∃ s, z0d.F [.int k] = some (.str s) := by
 rw [zCQ]
 by_cases hk : k ≤ 0
 ·exact ⟨_, z0K (decide_eq_true hk) rfl⟩
 refine zH4 (g := D.str) (fun h => hk (of_decide_eq_true h)) (zFB h0 h1 ?_ ?_ ?_)
 ·intro n s hn hn2 hs
  refine ⟨_, z0t [.int (IntKind.wrap .u8 (IntKind.wrap .i64 (48 + (n.tmod 10))))], ?_⟩
  have hc : catOk (z0c [.int (IntKind.wrap .u8 (IntKind.wrap .i64 (48 + (n.tmod 10))))]) s = true := by
   unfold catOk
   rw [z0t]
   simp [smax]; omega
  have h3 : n.tdiv 10 = n / 10 := Int.tdiv_eq_ediv_of_nonneg (by omega)
  have hw : IntKind.wrap .i64 (n.tdiv 10) = n.tdiv 10 := by rw [h3]; exact z0S (by omega) (by omega)
  refine z04 (decide_eq_true hn) (z04 (by decide) (z04 hc ?_))
  simp only [z1G, D.i_int, hw]
  rfl
 ·intro n s hn
  exact z00 (fun h => absurd (of_decide_eq_true h) (Int.not_lt.2 hn)) rfl
 ·intro s hs
  refine ⟨_, z0K (by simp [catOk, smax]; omega) rfl⟩
noncomputable def mtA (k : Int) : List UInt8 := if h : 0 ≤ k ∧ k < 10 ^ 18 then (zDT h.1 h.2).choose else []
theorem zDc {k : Int} (h0 : 0 ≤ k) (h1 : k < 10 ^ 18) : z0d.F [.int k] = some (.str (mtA k)) := by
 unfold mtA
 rw [dif_pos ⟨h0, h1⟩]
 exact (zDT h0 h1).choose_spec
noncomputable def rmk (k : Int) : Rec := ⟨mtA k, k + 1, k + 2, mtA (k + 3)⟩
noncomputable def rmk4 (k : Int) (i : Nat) : D := (rmk (k + 4 * i)).d
noncomputable def z39 (k : Int) (n : Nat) : List Rec := (List.range n).map fun i : Nat => rmk (k + 4 * i)
theorem zJa (k : Int) (n : Nat) : (List.range n).map (rmk4 k) = (z39 k n).map Rec.d := by
 simp only [z39, List.map_map]
 rfl
theorem zBl (k : Int) (n : Nat) : (z39 k n).length = n := by simp [z39]
theorem z8E {xs : List Rec} {k : Int} (h0 : 0 ≤ k) (h1 : k + 4 * xs.length < 10 ^ 18) :
 z1J.F [.lst (xs.map Rec.d), .int k] = some (.pair (.int (k + 4 * xs.length)) (.pair (.lst ((z39 k xs.length).map Rec.d)) .unit)) := by
 have h10 := zDn
 have hl : xs.length ≤ smax := by simp [smax]; omega
 have hml : (xs.map Rec.d).length = xs.length := by simp
 rw [z8k]
 refine z0N (z1o (fun i (zs : List D) => [.lst zs, .int (k + 4 * i), .int i]) xs.length (over (rmk4 k) (xs.map Rec.d)) (t := 0) (o := [.lst ((z39 k xs.length).map Rec.d), .int (k + 4 * xs.length)]) (by simp [zJq]) ?_ ?_) rfl
 ·intro i hi
  have hi' : i < (xs.map Rec.d).length := by simpa using hi
  have w1 : IntKind.wrap .i64 (k + 4 * (i : Int) + 1) = k + 4 * i + 1 := by rw [z0S] <;> omega
  have w2 : IntKind.wrap .i64 (k + 4 * (i : Int) + 1 + 1) = k + 4 * i + 2 := by rw [z0S] <;> omega
  have w3 : IntKind.wrap .i64 (k + 4 * (i : Int) + 2 + 1) = k + 4 * i + 3 := by rw [z0S] <;> omega
  have w4 : IntKind.wrap .i64 (k + 4 * (i : Int) + 3 + 1) = k + 4 * ((i + 1 : Nat) : Int) := by rw [z0S] <;> omega
  have hm := zDc (k := k + 4 * i) (by omega) (by omega)
  have hm2 := zDc (k := k + 4 * i + 3) (by omega) (by omega)
  have hol : (over (rmk4 k) (xs.map Rec.d) i).length = xs.length := by rw [zGy (Nat.le_of_lt hi'), hml]
  have hol' : i < (over (rmk4 k) (xs.map Rec.d) i).length := by rw [hol]; exact hi
  have hg : gd (over (rmk4 k) (xs.map Rec.d) i) i = xs[i].d := (zLp hi').trans (z57 hi)
  refine z04 (by simp [hol]; omega) (z01 hm (z04 ?_ (z01 (r := .str (mtA (k + 4 * i + 3))) ?_ ?_)))
  ·simp only [z1G, z69, D.l_lst, D.i_int, hol]; exact z0D hi
  ·simp only [z3Z, D.i_int, w1, w2, w3]; exact hm2
  ·simp only [upd, z1G, z3Z, z69, D.l_lst, D.i_int, Int.toNat_natCast, List.set_set, zFQ hol', hg, w1, w2, w3, w4, z0O hi hl]
   rw [zJp hi']
   all_goals rfl
 ·have := zKx (ys := rmk4 k) (xs := xs.map Rec.d)
  have h2 : (z39 k xs.length).length = xs.length := zBl _ _
  rw [hml, zJa] at this
  simp [this, h2]
theorem zE7 {n : Nat} {k : Int} (h0 : 0 ≤ k) (h1 : k + 4 * n < 10 ^ 18) : z2M.F [.lst ((z39 k n).map Rec.d), .int k] = some (.int (k + 4 * n)) := by
 have h10 := zDn
 have hl : n ≤ smax := by simp [smax]; omega
 have hml : (z39 k n).length = n := zBl _ _
 have hlen : (D.lst ((z39 k n).map Rec.d)).l.length = n := by simp [hml]
 rw [z8j, hlen]
 refine z0N (z1o (fun i (_ : Unit) => [.int (k + 4 * i), .int i]) n (fun _ => ()) (t := 1) (o := [.int (k + 4 * n)]) (by simp) ?_ ?_) rfl
 ·intro i hi
  have w1 : IntKind.wrap .i64 (k + 4 * (i : Int) + 1) = k + 4 * i + 1 := by rw [z0S] <;> omega
  have w2 : IntKind.wrap .i64 (k + 4 * (i : Int) + 1 + 1) = k + 4 * i + 2 := by rw [z0S] <;> omega
  have w3 : IntKind.wrap .i64 (k + 4 * (i : Int) + 2 + 1) = k + 4 * i + 3 := by rw [z0S] <;> omega
  have w4 : IntKind.wrap .i64 (k + 4 * (i : Int) + 3 + 1) = k + 4 * ((i + 1 : Nat) : Int) := by rw [z0S] <;> omega
  have hm := zDc (k := k + 4 * i) (by omega) (by omega)
  have hm2 := zDc (k := k + 4 * i + 3) (by omega) (by omega)
  have hg : gd ((z39 k n).map Rec.d) i = (rmk (k + 4 * i)).d := by
   rw [z57 (by rw [hml]; exact hi)]; simp [z39]
  refine z04 (by simpa using hi) (z04 (by simpa using z0D hi) ?_)
  simp only [z1G, z3Z, D.l_lst, D.i_int, Int.toNat_natCast, hg, w1, w2, w3, w4, z0O hi hl]
  have f0 : (rmk (k + 4 * i)).d.fld 0 = .str (mtA (k + 4 * i)) := rfl
  have f1 : (rmk (k + 4 * i)).d.fld 1 = .int (k + 4 * i + 1) := rfl
  have f2 : (rmk (k + 4 * i)).d.fld 2 = .int (k + 4 * i + 2) := rfl
  have f3 : (rmk (k + 4 * i)).d.fld 3 = .str (mtA (k + 4 * i + 3)) := rfl
  rw [f0, f1, f2, f3]
  exact z01 hm (z00 (by simp) (z00 (by simp) (z00 (by simp) (z01 hm2 (z00 (by simp) rfl)))))
 ·simp
end Go.Proofs.YtkogmjbmbpcbeaaGreatDoor
