/- What the functions compute, in plain words. -/
import Derived.Test.YtilejnnnkfjmmaaGreatDoorP2
set_option linter.unusedSectionVars false
set_option linter.unusedVariables false
set_option linter.unusedSimpArgs false
namespace Go.Proofs.YtilejnnnkfjmmaaGreatDoor
open Go Go.Own
theorem zKo {s : List UInt8} (h : z1q s = true) {c : UInt8} (h1 : z6V c = false) (h2 : c ≠ 42) (h3 : c ≠ 46) : c ∉ s := by
 intro hm
 obtain ⟨p, hp, hc⟩ := (z8c (b := 46) (c := c) h3 s).1 hm
 unfold z1q at h
 simp only [Bool.and_eq_true, Bool.or_eq_true, List.all_eq_true, decide_eq_true_eq] at h
 rcases h.2 with he | he
 ·cases s with
  | nil => simp at hm
  | cons x y => simp at he
 ·have := he.2 p hp
  unfold z5F at this
  simp only [Bool.or_eq_true, Bool.and_eq_true, List.all_eq_true] at this
  rcases this with h4 | h4
  ·have : p = [42] := by simpa using h4
   subst this
   simp only [List.mem_singleton] at hc
   exact h2 hc
  ·rw [h4.2 c hc] at h1; cases h1
theorem zMO {c : UInt8} (h : z5f c = false) {u : Nat} : c ∉ Lib.decDigits u := by
 intro hm
 rw [z6k u c hm] at h; cases h
theorem z4c {c : UInt8} (h : z5f c = false) {v : Int} (hv : 0 ≤ v) : c ∉ Lib.itoa v := by
 obtain ⟨n, rfl⟩ := Int.eq_ofNat_of_zero_le hv
 rw [z65]; exact zMO h
theorem zIk {s : List UInt8} (h : z1q s = true) {c : UInt8} (h1 : z6V c = false) (h2 : c ≠ 42) (h3 : c ≠ 46) : c ∉ told s := by
 unfold told
 split
 ·simpa using h3
 ·exact zKo h h1 h2 h3
theorem zCb {s : List UInt8} (h : z1q s = true) : (if told s = [46] then [] else told s) = s := by
 unfold told
 cases s with
 | nil => rfl
 | cons c r =>
   have he : (c :: r).isEmpty = false := rfl
   rw [he]
   simp only [Bool.false_eq_true, if_false]
   split
   ·rename_i h46
    rw [h46] at h
    exact absurd h (by decide)
   ·rfl
theorem zLe {c : UInt8} (h : z5f c = false) {s : List UInt8} (hc : z6s s = true) : c ∉ s := by
 intro hm
 rw [(z7k s).1 hc] at hm
 exact zMO h hm
theorem zKt {c : UInt8} (h : z5f c = false) {s : List UInt8} {m : Int} (hc : z3x s m = true) : c ∉ s := by
 unfold z3x at hc
 simp only [Bool.and_eq_true] at hc
 exact zLe h hc.1
theorem zMX {s : List UInt8} (h : z64 s = true) {c : UInt8} (h1 : z6V c = false) (h2 : c ≠ 42) (h3 : c ≠ 46) : c ∉ s := by
 unfold z64 at h
 simp only [Bool.and_eq_true] at h
 exact zKo h.2.1 h1 h2 h3
theorem zMb {k : Int} {s : List UInt8} (h : z6Q k s = true) : (10 : UInt8) ∉ s := by
 unfold z6Q at h
 split at h
 ·intro hm
  obtain ⟨p, hp, hc⟩ := (z8c (b := 46) (c := 10) (by decide) s).1 hm
  unfold zCc at h
  simp only [Bool.and_eq_true, List.all_eq_true] at h
  exact zKt (by decide) (h.1 p hp) hc
 ·split at h
  ·exact zMX h (by decide) (by decide) (by decide)
  ·split at h
   ·exact zKt (by decide) h
   ·split at h
    ·intro hm
     obtain ⟨p, hp, hc⟩ := (z8c (b := 32) (c := 10) (by decide) s).1 hm
     unfold mxOk at h
     generalize splB 32 s = l at h hp
     unfold mxP at h
     split at h
     ·simp only [Bool.and_eq_true] at h
      simp only [List.mem_cons, List.not_mem_nil, or_false] at hp
      rcases hp with rfl | rfl
      ·exact zKt (by decide) h.1 hc
      ·exact zMX h.2 (by decide) (by decide) (by decide) hc
     ·cases h
    ·split at h
     ·intro hm
      unfold zLX at h
      simp only [Bool.and_eq_true, List.all_eq_true] at h
      exact absurd (h.2 10 hm) (by decide)
     ·cases h
theorem Rec.parts_ok {r : Rec} (h : r.ok = true) : z1q r.name = true ∧ z6Q r.type r.data = true ∧ 0 ≤ r.ttl ∧ r.ttl ≤ 100000 := by
 unfold Rec.ok at h
 simp only [Bool.and_eq_true, inP, decide_eq_true_eq] at h
 exact ⟨h.2.1, h.1, h.2.2⟩
theorem Rec.text_eq (r : Rec) : r.text = told r.name ++ 32 :: (Lib.itoa r.ttl ++ 32 :: (Lib.itoa r.type ++ 32 :: r.data)) := by
 simp [Rec.text]
theorem Rec.text_no {r : Rec} (h : r.ok = true) : (10 : UInt8) ∉ r.text := by
 obtain ⟨h1, h2, h3, _⟩ := r.parts_ok h
 have ht := zBf h
 rw [r.text_eq]
 simp only [List.mem_append, List.mem_cons, not_or]
 exact ⟨zIk h1 (by decide) (by decide) (by decide), by decide, z4c (by decide) h3, by decide, z4c (by decide) ht.1, by decide, zMb h2⟩
theorem Rec.text_split {r : Rec} (h : r.ok = true) : splB 32 r.text = told r.name :: Lib.itoa r.ttl :: Lib.itoa r.type :: splB 32 r.data := by
 obtain ⟨h1, h2, h3, _⟩ := r.parts_ok h
 have ht := zBf h
 rw [r.text_eq, z5Y (zIk h1 (by decide) (by decide) (by decide)), z5Y (z4c (by decide) h3), z5Y (z4c (by decide) ht.1)]
theorem zBP {b : UInt8} {k : Nat} {p q : List UInt8} (h : b ∉ p) : Lib.splitK [b] 0 (k + 1) (p ++ b :: q) = p :: Lib.splitK [b] 0 k q := by
 have h0 : ((p.length : Int) == -1) = false := by rw [beq_eq_false_iff_ne]; omega
 have hd : (p ++ b :: q).drop (p.length + 1) = q := by
  rw [List.drop_append, List.drop_eq_nil_of_le (by omega), show p.length + 1 - p.length = 1 by omega]; rfl
 rw [Lib.splitK, z4y h, h0]
 simp only [Bool.false_eq_true, if_false, Int.toNat_natCast, Nat.add_zero, List.take_left', List.length_cons, List.length_nil, Nat.zero_add]
 rw [hd]
theorem zK0 (s : List UInt8) (b : UInt8) (n : Nat) : z4M s [b] n = Lib.splitK [b] 0 (min n (s.length + 1) - 1) s := by
 unfold z4M
 rw [Lib.splitB_data]
 simp only [z2t]
theorem Rec.text_splitN {r : Rec} (h : r.ok = true) : z4M r.text [32] 4 = [told r.name, Lib.itoa r.ttl, Lib.itoa r.type, r.data] := by
 obtain ⟨h1, h2, h3, _⟩ := r.parts_ok h
 have ht := zBf h
 have hl : 3 ≤ r.text.length := by rw [r.text_eq]; simp; omega
 rw [zK0, show min 4 (r.text.length + 1) - 1 = 3 by omega, r.text_eq, zBP (zIk h1 (by decide) (by decide) (by decide)), zBP (z4c (by decide) h3), zBP (z4c (by decide) ht.1)]
 rfl
theorem zLP {s sep : List UInt8} {n : Nat} : ∀ p ∈ z4M s sep n, p.length ≤ s.length := by
 intro p hp
 unfold z4M at hp
 obtain ⟨q, hq, rfl⟩ := List.mem_map.1 hp
 have := zAL (mkS sep) 0 (Nat.zero_le _) _ (mkS s) q hq
 rw [z4I] at this
 rw [Array.length_toList]; exact this
theorem zLo {s : List UInt8} (h : s.length ≤ lim) : z2o.F [.str s, .str [32], .int 4] = some (.lst ((z4M s [32] 4).map .str)) := by
 rw [show z2o.F = zEA from by unfold z2o zE9; rfl]
 unfold zEA
 have hlim : lim = 1048576 := rfl
 exact if_pos ⟨by simp; omega, by decide, by decide⟩
def Rec.nul : Rec := ⟨[], 0, 0, []⟩
def zL5 : D := .pair Rec.nul.d (.pair (.bool false) .unit)
def zBe (r : Rec) : D := .pair r.d (.pair (.bool true) .unit)
open Classical in
noncomputable def z7V (s : List UInt8) : D := if h : ∃ r : Rec, r.ok = true ∧ r.text = s then zBe h.choose else zL5
theorem z8L {s : List UInt8} (h : ∀ r : Rec, r.ok = true → r.text ≠ s) : z7V s = zL5 := by
 unfold z7V
 exact dif_neg fun ⟨r, h1, h2⟩ => h r h1 h2
theorem zHW {s : List UInt8} {r0 : Rec} (h : ∀ r : Rec, r.ok = true → r.text = s → r = r0) : (if r0.ok = true ∧ r0.text = s then zBe r0 else zL5) = z7V s := by
 unfold z7V
 by_cases h0 : ∃ r : Rec, r.ok = true ∧ r.text = s
 ·obtain ⟨h1, h2⟩ := h0.choose_spec
  have h3 := h _ h1 h2
  rw [dif_pos h0, if_pos (by rw [← h3]; exact ⟨h1, h2⟩), h3]
 ·rw [dif_neg h0, if_neg fun h1 => h0 ⟨r0, h1⟩]
theorem z6y {v : Int} (h0 : 0 ≤ v) (h1 : v < 10000000000) : z2E (Lib.itoa v) = v := by
 obtain ⟨n, rfl⟩ := Int.eq_ofNat_of_zero_le h0
 rw [z65]
 unfold z2E
 rw [if_pos ⟨zCh n, zAS (k := 10) (by omega) (by omega)⟩, z5b]
theorem z7j {v : Int} (h0 : 0 ≤ v) (h1 : v < 9223372036854775808) : z6j (Lib.itoa v) = .pair (.int v) (.pair (.bool false) .unit) := by
 obtain ⟨n, rfl⟩ := Int.eq_ofNat_of_zero_le h0
 rw [z65]
 unfold z6j
 rw [zIo (by omega)]
theorem z6q (s : List UInt8) : ∃ (v : Int) (e : Bool), z6j s = .pair (.int v) (.pair (.bool e) .unit) := by
 unfold z6j
 cases Lib.atoiAll s with
 | ok v => exact ⟨v, false, rfl⟩
 | range => exact ⟨_, true, rfl⟩
 | _ => exact ⟨0, true, rfl⟩
theorem zL6 {s : List UInt8} {r0 : Rec} (h : ∀ r : Rec, r.ok = true → r.text = s → r = r0) : (if (!(r0.ok && (r0.text == s))) = true then zL5 else zBe r0) = z7V s := by
 rw [← zHW h]
 by_cases h1 : r0.ok = true ∧ r0.text = s
 ·rw [if_neg (by simp [h1.1, h1.2]), if_pos h1]
 ·rw [if_neg h1, if_pos]
  rw [Bool.not_eq_true', Bool.and_eq_false_iff]
  by_cases h2 : r0.ok = true
  ·exact .inr (by rw [beq_eq_false_iff_ne]; exact fun h3 => h1 ⟨h2, h3⟩)
  ·exact .inl (by simpa using h2)
theorem zBj {s : List UInt8} (hl : s.length ≤ lim) : z3I.F [.str s] = some (z7V s) := by
 have hlim : lim = 1048576 := rfl
 rw [zBI]
 have hsp := z6v s 32 hl
 have hlens := z7x 32 s
 have hmem := z69 32 s
 have hsl := z68 32 s
 refine z0E hsp ?_
 have hlen : (D.lst ((splB 32 s).map D.str)).l = (splB 32 s).map D.str := rfl
 rw [hlen, List.length_map]
 by_cases h4 : (splB 32 s).length < 4
 ·refine z0p (decide_eq_true (by omega)) ?_
  rw [z8L]
  ·rfl
  ·rintro r h1 rfl
   rw [Rec.text_split h1] at h4
   simp at h4
   have := z8R 32 r.data
   cases hq : splB 32 r.data with
   | nil => exact this hq
   | cons a b => rw [hq] at h4; simp at h4; omega
 ·refine z0C (fun h => h4 (by have := of_decide_eq_true h; omega)) ?_
  obtain ⟨a, b, c, l, hs⟩ : ∃ a b c l, splB 32 s = a :: b :: c :: l := by
   match h : splB 32 s with
   | [] => rw [h] at h4; simp at h4
   | [a] => rw [h] at h4; simp at h4
   | [a, b] => rw [h] at h4; simp at h4
   | a :: b :: c :: l => exact ⟨a, b, c, l, rfl⟩
  rw [hs] at hlens hmem ⊢
  have hll : 1 ≤ l.length := by rw [hs] at h4; simp at h4; omega
  obtain ⟨d, l, rfl⟩ : ∃ d l', l = d :: l' := by cases l with | nil => simp at hll | cons d l => exact ⟨d, l, rfl⟩
  have ha := hmem a (by simp)
  have hb := hmem b (by simp)
  have hc := hmem c (by simp)
  have hsum : a.length + b.length + c.length + 3 ≤ s.length := by
   unfold lens at hlens
   simp only [List.map_cons, List.sum_cons] at hlens
   omega
  have g0 : gd ((a :: b :: c :: d :: l).map D.str) 0 = .str a := rfl
  have g1 : gd ((a :: b :: c :: d :: l).map D.str) 1 = .str b := rfl
  have g2 : gd ((a :: b :: c :: d :: l).map D.str) 2 = .str c := rfl
  have w : IntKind.wrap .i64 (IntKind.wrap .i64 (IntKind.wrap .i64 ((a.length : Int) + b.length) + c.length) + 3) = ((a.length + b.length + c.length + 3 : Nat) : Int) := by
   rw [z2G (x := (a.length : Int) + b.length) (by omega) (by omega), z2G (x := (a.length : Int) + b.length + c.length) (by omega) (by omega), z2G] <;> omega
  have hf1 := z7r (s := b) (by omega)
  have hf2 := z7r (s := c) (by omega)
  rw [g0, g1, g2]
  simp only [D.s_str, w, Int.toNat_natCast, List.take_length]
  refine z0p (z5p (by decide) (by simp; omega)) (z0p (z5p (by decide) (by simp; omega)) (z0E hf1 (z0p (z5p (by decide) (by simp; omega)) (z0E hf2 (z0p (by simp [slOk]; omega) ?_)))))
  have key : ∀ r0 : Rec, r0 = ⟨if a = [46] then [] else a, z2E c, z2E b, s.drop (a.length + b.length + c.length + 3)⟩ → ∀ r : Rec, r.ok = true → r.text = s → r = r0 := by
   rintro r0 rfl r h1 h2
   have h3 := Rec.text_split h1
   rw [h2, hs] at h3
   simp only [List.cons.injEq] at h3
   obtain ⟨rfl, rfl, rfl, _⟩ := h3
   obtain ⟨k1, k2, k3, k4⟩ := r.parts_ok h1
   have kt := zBf h1
   have hd : s.drop ((told r.name).length + (Lib.itoa r.ttl).length + (Lib.itoa r.type).length + 3) = r.data := by
    rw [← h2, Rec.text]
    exact List.drop_left' (by simp; omega)
   rw [hd, zCb k1, z6y kt.1 (by omega), z6y k3 (by omega)]
  refine z0V (l := [(⟨if a = [46] then [] else a, z2E c, z2E b, s.drop (a.length + b.length + c.length + 3)⟩ : Rec).d]) ?_ ?_
  ·by_cases h46 : a = [46]
   ·refine z08 (by simp [h46]) ?_
    rw [if_pos h46]; rfl
   ·refine z07 (by simpa using h46) ?_
    rw [if_neg h46]; rfl
  ·have hk := key _ rfl
   have hin : (⟨if a = [46] then [] else a, z2E c, z2E b, s.drop (a.length + b.length + c.length + 3)⟩ : Rec).In lim := by
    refine ⟨?_, by simp; omega⟩
    split
    ·simp
    ·show a.length ≤ lim; omega
   generalize (⟨if a = [46] then [] else a, z2E c, z2E b, s.drop (a.length + b.length + c.length + 3)⟩ : Rec) = r0 at hk hin ⊢
   have hg := zEz hin
   rw [← zL6 hk]
   refine z0V (l := [.bool (!(r0.ok && (r0.text == s)))]) ?_ ?_
   ·cases h1 : r0.ok with
    | false => rw [h1] at hg; exact z04 hg (z08 rfl rfl)
    | true => rw [h1] at hg; exact z04 hg (z07 (by simp) (z04 (zIw (Rec.sizes h1)) (by simp)))
   ·simp only [z2x, D.b_bool]
    cases (!(r0.ok && (r0.text == s))) <;> rfl
theorem zBi {s : List UInt8} (hl : s.length ≤ lim) : z3D.F [.str s] = some (z7V s) := by
 have hlim : lim = 1048576 := rfl
 rw [zBD]
 have hsp := zLo hl
 have hmem := zLP (s := s) (sep := [32]) (n := 4)
 refine z0E hsp ?_
 have hlen : (D.lst ((z4M s [32] 4).map D.str)).l = (z4M s [32] 4).map D.str := rfl
 rw [hlen, List.length_map]
 by_cases h3 : s.length > 300
 ·refine z0V (l := [.bool true]) (z08 (decide_eq_true (by simp; omega)) rfl) (z0p rfl ?_)
  rw [z8L]
  ·rfl
  ·rintro r h1 rfl
   have := Rec.text_len (Rec.sizes h1)
   omega
 by_cases h4 : (z4M s [32] 4).length = 4
 ·refine z0V (l := [.bool false]) (z07 (fun h => h3 (by have := of_decide_eq_true h; simp at this; omega)) (by simp [h4])) (z0C (by simp) ?_)
  obtain ⟨a, b, c, d, hs⟩ : ∃ a b c d, z4M s [32] 4 = [a, b, c, d] := by
   match h : z4M s [32] 4 with
   | [] => rw [h] at h4; simp at h4
   | [a] => rw [h] at h4; simp at h4
   | [a, b] => rw [h] at h4; simp at h4
   | [a, b, c] => rw [h] at h4; simp at h4
   | [a, b, c, d] => exact ⟨a, b, c, d, rfl⟩
   | a :: b :: c :: d :: e :: l => rw [h] at h4; simp at h4
  rw [hs] at hmem ⊢
  have ha := hmem a (by simp)
  have hb := hmem b (by simp)
  have hc := hmem c (by simp)
  have hd := hmem d (by simp)
  have g0 : gd ([a, b, c, d].map D.str) 0 = .str a := rfl
  have g1 : gd ([a, b, c, d].map D.str) 1 = .str b := rfl
  have g2 : gd ([a, b, c, d].map D.str) 2 = .str c := rfl
  have g3 : gd ([a, b, c, d].map D.str) 3 = .str d := rfl
  rw [g0, g1, g2, g3]
  obtain ⟨v, e, hv⟩ := z6q b
  obtain ⟨u, e2, hu⟩ := z6q c
  have hf1 := zEy (s := b) (by omega)
  have hf2 := zEy (s := c) (by omega)
  refine z0p (z5p (by decide) (by simp)) (z0p (z5p (by decide) (by simp)) (z0V (l := [(⟨if a = [46] then [] else a, 0, 0, d⟩ : Rec).d]) ?_ ?_))
  ·by_cases h46 : a = [46]
   ·refine z08 (by simp [h46]) ?_
    rw [if_pos h46]; rfl
   ·refine z07 (by simpa using h46) ?_
    rw [if_neg h46]; rfl
  refine z0p (z5p (by decide) (by simp)) (z0E hf1 (z0p (z5p (by decide) (by simp)) (z0E hf2 ?_)))
  have e0 : (((gd [(⟨if a = [46] then [] else a, 0, 0, d⟩ : Rec).d] 0).setFld 2 ((z6j b).fld 0)).setFld 1 ((z6j c).fld 0)) = (⟨if a = [46] then [] else a, u, v, d⟩ : Rec).d := by
   rw [hv, hu]; rfl
  have key : ∀ r0 : Rec, r0 = ⟨if a = [46] then [] else a, u, v, d⟩ → ∀ r : Rec, r.ok = true → r.text = s → r = r0 := by
   rintro r0 rfl r h1 h2
   have h3 := Rec.text_splitN h1
   rw [h2, hs] at h3
   simp only [List.cons.injEq, and_true] at h3
   obtain ⟨rfl, rfl, rfl, rfl⟩ := h3
   obtain ⟨k1, k2, k3, k4⟩ := r.parts_ok h1
   have kt := zBf h1
   rw [z7j k3 (by omega)] at hv
   rw [z7j kt.1 (by omega)] at hu
   simp only [D.pair.injEq, D.int.injEq] at hv hu
   rw [zCb k1, ← hv.1, ← hu.1]
  rw [e0]
  have hk := key _ rfl
  have hin : (⟨if a = [46] then [] else a, u, v, d⟩ : Rec).In lim := by
   refine ⟨?_, by show d.length ≤ lim; omega⟩
   split
   ·simp
   ·show a.length ≤ lim; omega
  generalize (⟨if a = [46] then [] else a, u, v, d⟩ : Rec) = r0 at hk hin ⊢
  have hg := zGp hin
  rw [← zL6 hk]
  refine z0V (l := [.bool (!(r0.ok && (r0.text == s)))]) ?_ ?_
  ·cases h1 : r0.ok with
   | false => rw [h1] at hg; exact z04 hg (z08 rfl rfl)
   | true => rw [h1] at hg; exact z04 hg (z07 (by simp) (z04 (zBV (Rec.sizes h1)) (by simp)))
  ·simp only [z2x, D.b_bool]
   cases (!(r0.ok && (r0.text == s))) <;> rfl
 ·refine z0V (l := [.bool true]) (z07 (fun h => h3 (by have := of_decide_eq_true h; simp at this; omega)) ?_) (z0p rfl ?_)
  ·simp; omega
  ·rw [z8L]
   ·rfl
   ·rintro r h1 rfl
    rw [Rec.text_splitN h1] at h4
    exact h4 rfl
end Go.Proofs.YtilejnnnkfjmmaaGreatDoor
namespace Go.Proofs.YtilejnnnkfjmmaaGreatDoor
open Go Go.Own
theorem zJK (b : UInt8) : ∀ p q : List UInt8, splB b (p ++ b :: q) = splB b p ++ splB b q
 | [], q => by simp [splB]
 | c :: p, q => by
   have ih := zJK b p q
   rw [List.cons_append, splB, splB]
   by_cases hc : c = b
   ·rw [if_pos hc, if_pos hc, ih]; rfl
   ·rw [if_neg hc, if_neg hc, ih]
    cases h : splB b p with
    | nil => exact absurd h (z8R b p)
    | cons x xs => rfl
theorem zJ4 {u v : Int} (hu : 0 ≤ u) (hv : 0 ≤ v) (h : Lib.itoa u = Lib.itoa v) : u = v := by
 obtain ⟨n, rfl⟩ := Int.eq_ofNat_of_zero_le hu
 obtain ⟨m, rfl⟩ := Int.eq_ofNat_of_zero_le hv
 rw [z65, z65] at h
 have := congrArg dv h
 rw [z5b, z5b] at this
 omega
theorem Rec.text_inj {r r' : Rec} (h : r.ok = true) (h' : r'.ok = true) (he : r.text = r'.text) : r = r' := by
 have h1 := Rec.text_splitN h
 rw [he, Rec.text_splitN h'] at h1
 simp only [List.cons.injEq, and_true] at h1
 obtain ⟨e1, e2, e3, e4⟩ := h1
 obtain ⟨k1, k2, k3, k4⟩ := r.parts_ok h
 obtain ⟨j1, j2, j3, j4⟩ := r'.parts_ok h'
 have kt := zBf h
 have jt := zBf h'
 have n1 := zCb k1
 have n2 := zCb j1
 rw [e1] at n2
 rw [n1] at n2
 obtain ⟨a, b, c, d⟩ := r
 obtain ⟨a', b', c', d'⟩ := r'
 simp only at n2 e4
 have e5 := zJ4 j3 k3 e2
 have e6 := zJ4 jt.1 kt.1 e3
 simp only at e5 e6
 rw [n2, e4, e5, e6]
open Classical in
noncomputable def z3Y (s : List UInt8) : Option Rec := if h : ∃ r : Rec, r.ok = true ∧ r.text = s then some h.choose else none
theorem zFL (s : List UInt8) : z7V s = match z3Y s with | some r => zBe r | none => zL5 := by
 unfold z7V z3Y
 by_cases h : ∃ r : Rec, r.ok = true ∧ r.text = s
 ·rw [dif_pos h, dif_pos h]
 ·rw [dif_neg h, dif_neg h]
theorem zDy {s : List UInt8} {r : Rec} (h : z3Y s = some r) : r.ok = true := by
 unfold z3Y at h
 split at h
 ·rename_i h1
  cases h
  exact h1.choose_spec.1
 ·cases h
theorem zAG {r : Rec} (h : r.ok = true) : z3Y r.text = some r := by
 unfold z3Y
 have h1 : ∃ r' : Rec, r'.ok = true ∧ r'.text = r.text := ⟨r, h, rfl⟩
 rw [dif_pos h1]
 exact congrArg some (Rec.text_inj h1.choose_spec.1 h h1.choose_spec.2)
def Chg.line (c : Chg) : List UInt8 := Lib.itoa c.kind ++ 32 :: c.rc.text
def Ask.head (a : Ask) : List UInt8 := Lib.itoa a.client ++ 32 :: Lib.itoa a.no
def Ask.full (a : Ask) : List UInt8 := a.textAt a.cs.length
theorem Chg.kind_in {c : Chg} (h : c.ok = true) : 1 ≤ c.kind ∧ c.kind ≤ 4 ∧ c.rc.ok = true := by
 unfold Chg.ok at h
 simp only [Bool.and_eq_true, inP, decide_eq_true_eq] at h
 exact ⟨h.1.1, h.1.2, h.2.1⟩
theorem Chg.line_no {c : Chg} (h : c.ok = true) : (10 : UInt8) ∉ c.line := by
 obtain ⟨h1, h2, h3⟩ := Chg.kind_in h
 unfold Chg.line
 simp only [List.mem_append, List.mem_cons, not_or]
 exact ⟨z4c (by decide) (by omega), by decide, Rec.text_no h3⟩
structure Ask.Ins (a : Ask) : Prop where
 c0 : 0 ≤ a.client
 c1 : a.client ≤ 100
 n0 : 1 ≤ a.no
 n1 : a.no ≤ 1000
 all : ∀ c ∈ a.cs, c.ok = true
 len : a.cs.length ≤ 12
theorem Ask.ins {a : Ask} (h : a.ok = true) : a.Ins := by
 unfold Ask.ok Ask.who at h
 simp only [Bool.and_eq_true, inP, decide_eq_true_eq, List.all_eq_true] at h
 obtain ⟨⟨h1, h2⟩, h3, h4⟩ := h
 exact ⟨h1.1, h1.2, h2.1, h2.2, h3, h4⟩
theorem Ask.head_no {a : Ask} (h : a.Ins) : (10 : UInt8) ∉ a.head := by
 unfold Ask.head
 simp only [List.mem_append, List.mem_cons, not_or]
 exact ⟨z4c (by decide) h.c0, by decide, z4c (by decide) (by have := h.n0; omega)⟩
theorem Ask.split_at {a : Ask} (h : a.Ins) : ∀ n, n ≤ a.cs.length → splB 10 (a.textAt n) = a.head :: (a.cs.take n).map Chg.line
 | 0, _ => by
   have : a.textAt 0 = a.head := by simp [Ask.textAt, Ask.head]
   rw [this, z5D (Ask.head_no h)]; rfl
 | n + 1, hn => by
   have hc : a.cs[n].ok = true := h.all _ (List.getElem_mem (by omega))
   have e : a.textAt (n + 1) = a.textAt n ++ 10 :: a.cs[n].line := by
    rw [Ask.textAt, z5n (by omega)]; simp [Chg.text, Chg.line]
   rw [e, zJK, Ask.split_at h n (by omega), z5D (Chg.line_no hc), List.take_succ_eq_append_getElem (by omega), List.map_append]; rfl
theorem Ask.split_full {a : Ask} (h : a.Ins) : splB 10 a.full = a.head :: a.cs.map Chg.line := by
 unfold Ask.full
 rw [Ask.split_at h _ (Nat.le_refl _), List.take_length]
def Ask.nul : Ask := ⟨0, 0, []⟩
def zMZ : D := .pair Ask.nul.d (.pair (.bool false) .unit)
def zMN (a : Ask) : D := .pair a.d (.pair (.bool true) .unit)
open Classical in
noncomputable def z8K (s : List UInt8) : D := if h : ∃ a : Ask, a.ok = true ∧ a.full = s then zMN h.choose else zMZ
theorem z6e {s : List UInt8} (h : ∀ a : Ask, a.ok = true → a.full ≠ s) : z8K s = zMZ := by
 unfold z8K
 exact dif_neg fun ⟨r, h1, h2⟩ => h r h1 h2
theorem zKA {s : List UInt8} {a0 : Ask} (h : ∀ a : Ask, a.ok = true → a.full = s → a = a0) : (if (!(a0.ok && (a0.full == s))) = true then zMZ else zMN a0) = z8K s := by
 unfold z8K
 by_cases h0 : ∃ a : Ask, a.ok = true ∧ a.full = s
 ·obtain ⟨h1, h2⟩ := h0.choose_spec
  have h3 := h _ h1 h2
  rw [dif_pos h0, h3, if_neg]
  rw [← h3]; simp [h1, h2]
 ·rw [dif_neg h0, if_pos]
  rw [Bool.not_eq_true', Bool.and_eq_false_iff]
  by_cases h2 : a0.ok = true
  ·exact .inr (by rw [beq_eq_false_iff_ne]; exact fun h3 => h0 ⟨a0, h2, h3⟩)
  ·exact .inl (by simpa using h2)
def zEJ (pl : List UInt8 → Option Chg) (_ : Nat) (cs : List Chg) (t : List UInt8) : Sum (List Chg) (Nat × List D) := match pl t with
 | some c => .inl (cs ++ [c])
 | none => .inr (0, [Ask.nul.d])
theorem z6w {pl : List UInt8 → Option Chg} : ∀ (ts : List (List UInt8)) (i : Nat) (cs : List Chg), z8f (zEJ pl) i cs ts = (match ts.mapM pl with | some l => .inl (cs ++ l) | none => .inr (0, [Ask.nul.d]))
 | [], i, cs => by simp [z8f]
 | t :: ts, i, cs => by
   rw [z8f, List.mapM_cons]
   cases h : pl t with
   | none =>
     have hg : zEJ pl i cs t = .inr (0, [Ask.nul.d]) := by unfold zEJ; rw [h]
     rw [hg]; rfl
   | some c =>
     have hg : zEJ pl i cs t = .inl (cs ++ [c]) := by unfold zEJ; rw [h]
     have ih := z6w (pl := pl) ts (i + 1) (cs ++ [c])
     rw [hg]
     show z8f (zEJ pl) (i + 1) (cs ++ [c]) ts = _
     rw [ih]
     cases ts.mapM pl with
     | none => rfl
     | some l => simp
theorem zAs {pl : List UInt8 → Option Chg} : ∀ {cs : List Chg}, (∀ c ∈ cs, pl c.line = some c) → (cs.map Chg.line).mapM pl = some cs
 | [], _ => rfl
 | c :: cs, h => by
   rw [List.map_cons, List.mapM_cons, h c (by simp), zAs (fun x hx => h x (by simp [hx]))]; rfl
theorem zG6 {pl : List UInt8 → Option Chg} : ∀ {ts : List (List UInt8)} {l : List Chg}, ts.mapM pl = some l → l.length = ts.length ∧ ∀ c ∈ l, ∃ t ∈ ts, pl t = some c
 | [], l, h => by
   simp at h; subst h; simp
 | t :: ts, l, h => by
   rw [List.mapM_cons] at h
   cases h1 : pl t with
   | none => rw [h1] at h; cases h
   | some c =>
     cases h2 : ts.mapM pl with
     | none => rw [h1, h2] at h; cases h
     | some l' =>
       rw [h1, h2] at h
       have : l = c :: l' := (Option.some.inj h).symm
       subst this
       obtain ⟨h3, h4⟩ := zG6 h2
       refine ⟨by simp [h3], fun x hx => ?_⟩
       simp only [List.mem_cons] at hx
       rcases hx with rfl | hx
       ·exact ⟨t, by simp, h1⟩
       ·obtain ⟨t', h5, h6⟩ := h4 x hx
        exact ⟨t', by simp [h5], h6⟩
noncomputable def plS (t : List UInt8) : Option Chg := if t.length < 2 then none else (z3Y (t.drop 2)).map fun r => ⟨z2E (t.take 1), r⟩
noncomputable def plI (t : List UInt8) : Option Chg := (z3Y (Lib.cut t [32]).2.1).map fun r => ⟨((z6j (Lib.cut t [32]).1).fld 0).i, r⟩
theorem zMc {u : Int} (h0 : 1 ≤ u) (h1 : u ≤ 4) : ∃ c, Lib.itoa u = [c] := by
 obtain ⟨n, rfl⟩ := Int.eq_ofNat_of_zero_le (show 0 ≤ u by omega)
 rw [z65, Lib.decDigits_one (by omega)]
 exact ⟨_, rfl⟩
theorem zM7 {c : Chg} (h : c.ok = true) : plS c.line = some c := by
 obtain ⟨h1, h2, h3⟩ := Chg.kind_in h
 obtain ⟨d, hd⟩ := zMc h1 h2
 have hi := z6y (v := c.kind) (by omega) (by omega)
 unfold plS Chg.line
 rw [hd] at hi ⊢
 rw [if_neg (by simp)]
 show (z3Y c.rc.text).map _ = _
 rw [zAG h3]
 show some (Chg.mk (z2E [d]) c.rc) = some c
 rw [hi]
theorem zM6 {c : Chg} (h : c.ok = true) : plI c.line = some c := by
 obtain ⟨h1, h2, h3⟩ := Chg.kind_in h
 unfold plI Chg.line
 rw [zFa (z4c (by decide) (by omega))]
 simp only
 rw [zAG h3, z7j (by omega) (by omega)]
 rfl
theorem zNJ {t : List UInt8} {c : Chg} (h : plS t = some c) : c.rc.ok = true := by
 unfold plS at h
 split at h
 ·cases h
 ·cases hr : z3Y (t.drop 2) with
  | none => rw [hr] at h; cases h
  | some r => rw [hr] at h; cases h; exact zDy hr
theorem zNI {t : List UInt8} {c : Chg} (h : plI t = some c) : c.rc.ok = true := by
 unfold plI at h
 cases hr : z3Y (Lib.cut t [32]).2.1 with
 | none => rw [hr] at h; cases h
 | some r => rw [hr] at h; cases h; exact zDy hr
theorem zMT {r : Rec} (h : r.ok = true) : r.In lim := by
 have hlim : lim = 1048576 := rfl
 have h1 := Rec.sizes h
 refine ⟨?_, by have := h1.data; omega⟩
 have := h1.name
 unfold told at this
 split at this
 ·rename_i he
  rw [List.isEmpty_iff.1 he]; simp
 ·omega
theorem zKU {ts : List (List UInt8)} {i : Nat} (h : i < ts.length) : gd (D.lst (ts.map D.str)).l i = .str ts[i] := z7G h
theorem zLn {s : List UInt8} (h : s.length ≤ lim) (b : UInt8) : z0r.F [.str s, .str [b]] = some (.lst ((splB b s).map .str)) := by
 rw [show z0r.F = zE7 from by unfold z0r zFS; rfl]
 unfold zE7
 have hlim : lim = 1048576 := rfl
 refine (if_pos ⟨by simp; omega, by simp⟩).trans ?_
 simp [zFU]
theorem zCl {s : List UInt8} (hl : s.length ≤ lim) : z3g.F [.str s] = some (z8K s) := by
 have hlim : lim = 1048576 := rfl
 rw [zCS]
 have hsp := z6v s 10 hl
 have hmem := z69 10 s
 have hsl := z68 10 s
 refine z0E hsp ?_
 obtain ⟨h0, ts, hs⟩ : ∃ h0 ts, splB 10 s = h0 :: ts := by
  cases h : splB 10 s with
  | nil => exact absurd h (z8R 10 s)
  | cons a b => exact ⟨a, b, rfl⟩
 rw [hs] at hmem hsl ⊢
 simp only [List.length_cons] at hsl
 have hll : (D.lst ((h0 :: ts).map D.str)).l = D.str h0 :: ts.map D.str := rfl
 rw [hll]
 have hlen : (D.str h0 :: ts.map D.str).length = ts.length + 1 := by simp
 rw [hlen]
 have hh0 := hmem h0 (by simp)
 have hsp2 := z6v h0 32 (by omega)
 have hmem2 := z69 32 h0
 refine z0p (z5p (by decide) (by omega)) (z0E hsp2 ?_)
 have hl2 : (D.lst ((splB 32 h0).map D.str)).l = (splB 32 h0).map D.str := rfl
 rw [hl2, List.length_map]
 by_cases h2 : (splB 32 h0).length = 2
 case neg =>
  refine z0p (by simp; omega) ?_
  rw [z6e]
  ·rfl
  ·rintro a h1 rfl
   have hi := Ask.ins h1
   have := Ask.split_full hi
   rw [hs] at this
   have e := (List.cons.inj this).1
   rw [e, Ask.head, z5Y (z4c (by decide) hi.c0), z5D (z4c (by decide) (by have := hi.n0; omega))] at h2
   exact h2 rfl
 obtain ⟨p, q, hpq⟩ : ∃ p q, splB 32 h0 = [p, q] := by
  match h : splB 32 h0 with
  | [] => rw [h] at h2; simp at h2
  | [a] => rw [h] at h2; simp at h2
  | [a, b] => exact ⟨a, b, rfl⟩
  | a :: b :: c :: l => rw [h] at h2; simp at h2
 rw [hpq] at hmem2 ⊢
 have hp := hmem2 p (by simp)
 have hq := hmem2 q (by simp)
 refine z0C (by simp) (z0p (z5p (by decide) (by simp)) (z0E (z7r (s := p) (by omega)) (z0p (z5p (by decide) (by simp)) (z0E (z7r (s := q) (by omega)) (z0p (by simp [slOk]; omega) ?_)))))
 have htl : ((D.str h0 :: ts.map D.str).take (((ts.length + 1 : Nat) : Int)).toNat).drop 1 = ts.map D.str := by
  rw [Int.toNat_natCast, ← hlen, List.take_length]; rfl
 rw [htl, List.length_map]
 have hsm : ts.length ≤ smax := by rw [z1d]; omega
 have hall : ∀ a : Ask, a.ok = true → a.full = s → ts.mapM plS = some a.cs ∧ z2E p = a.client ∧ z2E q = a.no := by
  rintro a h1 rfl
  have hi := Ask.ins h1
  have := Ask.split_full hi
  rw [hs] at this
  obtain ⟨e, e2⟩ := List.cons.inj this
  subst e2
  rw [e, Ask.head, z5Y (z4c (by decide) hi.c0), z5D (z4c (by decide) (by have := hi.n0; omega))] at hpq
  simp only [List.cons.injEq, and_true] at hpq
  rw [← hpq.1, ← hpq.2, z6y hi.c0 (by have := hi.c1; omega), z6y (by have := hi.n0; omega) (by have := hi.n1; omega)]
  exact ⟨zAs fun c hc => zM7 (hi.all c hc), rfl, rfl⟩
 refine zIY (z7N (T := 1) (out := fun cs : List Chg => [(⟨z2E p, z2E q, cs⟩ : Ask).d]) (fun i (cs : List Chg) => [(⟨z2E p, z2E q, cs⟩ : Ask).d, .int i]) ts (zEJ plS) (fun i cs => cs.length = i) [] rfl rfl ?_ ?_) ?_ ?_
 ·rintro i cs hi hci
  have hw := z1B hi hsm
  have hti := hmem ts[i] (by simp)
  have e0 : (gd [(⟨z2E p, z2E q, cs⟩ : Ask).d, D.int (i : Int)] 1).i.toNat = i := by simp
  have e1 : (gd [(⟨z2E p, z2E q, cs⟩ : Ask).d, D.int (i : Int)] 1).i = i := rfl
  have e2 : gd [(⟨z2E p, z2E q, cs⟩ : Ask).d, D.int (i : Int)] 0 = (⟨z2E p, z2E q, cs⟩ : Ask).d := rfl
  rw [e0, e1, e2, zKU hi, hw]
  simp only [D.s_str, Int.toNat_natCast, List.take_length]
  unfold zEJ
  have hrr := zBj (s := ts[i].drop 2) (by simp; omega)
  rw [zFL] at hrr
  by_cases h2l : ts[i].length < 2
  ·have : plS ts[i] = none := if_pos h2l
   rw [this]
   exact z08 (by simpa using hi) (z08 (z1L hi) (z08 (decide_eq_true (by omega)) rfl))
  ·have hpl : plS ts[i] = (z3Y (ts[i].drop 2)).map fun r => ⟨z2E (ts[i].take 1), r⟩ := if_neg h2l
   rw [hpl]
   cases hro : z3Y (ts[i].drop 2) with
   | none =>
     rw [hro] at hrr
     exact z08 (by simpa using hi) (z08 (z1L hi) (z07 (fun h => h2l (by have := of_decide_eq_true h; omega)) (z08 (by simp [slOk]; omega) (z04 hrr (z08 rfl rfl)))))
   | some r =>
     rw [hro] at hrr
     refine ⟨z08 (by simpa using hi) (z08 (z1L hi) (z07 (fun h => h2l (by have := of_decide_eq_true h; omega)) (z08 (by simp [slOk]; omega) (z04 hrr (z07 (by simp [zBe]) (z08 (by simp [slOk]; omega) (z04 (z7r (s := (ts[i].take 1).drop 0) (by simp; omega)) (z08 ?_ ?_)))))))), by simp [hci]⟩
     ·simp [appOk, Ask.d, z1d]; omega
     ·simp [Ask.d, Chg.d, zBe]
 ·intro cs _
  exact z07 (by simp) rfl
 ·intro cs hf
  rw [z6w] at hf
  cases hm : ts.mapM plS with
  | none => rw [hm] at hf; cases hf
  | some l =>
    rw [hm] at hf
    simp only [List.nil_append, Sum.inl.injEq] at hf
    subst hf
    obtain ⟨k1, k2⟩ := zG6 hm
    have hin : (⟨z2E p, z2E q, l⟩ : Ask).In lim := ⟨by show l.length ≤ lim; omega, fun c hc => let ⟨t, _, h⟩ := k2 c hc; zMT (zNJ h)⟩
    have key : ∀ a : Ask, a.ok = true → a.full = s → a = ⟨z2E p, z2E q, l⟩ := by
     intro a h1 h2
     obtain ⟨e1, e2, e3⟩ := hall a h1 h2
     rw [hm] at e1
     rw [e2, e3, Option.some.inj e1]
    generalize (⟨z2E p, z2E q, l⟩ : Ask) = a0 at hin key ⊢
    have hk := zID hin
    rw [← zKA key]
    simp only [zGS, zAK, zHf, z2x]
    refine z0E hk (z0V (l := [.bool (!(a0.ok && (a0.full == s)))]) ?_ ?_)
    ·unfold zHu Ask.full
     cases h1 : a0.ok with
     | false => exact z08 rfl rfl
     | true => exact z07 (by simp) (by simp)
    ·simp only [z2x, D.b_bool]
     cases (!(a0.ok && (a0.full == s))) <;> rfl
 ·intro e hf
  rw [z6w] at hf
  cases hm : ts.mapM plS with
  | some l => rw [hm] at hf; cases hf
  | none =>
    rw [hm] at hf
    cases hf
    rw [z6e]
    ·rfl
    ·intro a h1 h2
     obtain ⟨e1, _⟩ := hall a h1 h2
     rw [hm] at e1; cases e1
theorem zKG (t : List UInt8) : (Lib.cut t [32]).1.length ≤ t.length ∧ (Lib.cut t [32]).2.1.length ≤ t.length := zKF t [32]
theorem zCj {s : List UInt8} (hl : s.length ≤ lim) : z1g.F [.str s] = some (z8K s) := by
 have hlim : lim = 1048576 := rfl
 rw [zCM]
 have hsp := zLn hl 10
 have hmem := z69 10 s
 have hsl := z68 10 s
 refine z0E hsp ?_
 obtain ⟨h0, ts, hs⟩ : ∃ h0 ts, splB 10 s = h0 :: ts := by
  cases h : splB 10 s with
  | nil => exact absurd h (z8R 10 s)
  | cons a b => exact ⟨a, b, rfl⟩
 rw [hs] at hmem hsl ⊢
 simp only [List.length_cons] at hsl
 have hll : (D.lst ((h0 :: ts).map D.str)).l = D.str h0 :: ts.map D.str := rfl
 rw [hll]
 have hlen : (D.str h0 :: ts.map D.str).length = ts.length + 1 := by simp
 rw [hlen]
 have hh0 := hmem h0 (by simp)
 by_cases h13 : ts.length + 1 > 13
 ·refine z0p (decide_eq_true (by omega)) ?_
  rw [z6e]
  ·rfl
  ·rintro a h1 rfl
   have hi := Ask.ins h1
   have := Ask.split_full hi
   rw [hs] at this
   have e := (List.cons.inj this).2
   have := hi.len
   rw [e, List.length_map] at h13
   omega
 have hcl := zKG h0
 have hsm : ts.length ≤ smax := by rw [z1d]; omega
 refine z0C (fun h => h13 (by have := of_decide_eq_true h; omega)) (z0p (z5p (by decide) (by omega)) (z0E (zLl (s := h0) (by omega)) (z0E (zEy (s := (Lib.cut h0 [32]).1) (by omega)) (z0E (zEy (s := (Lib.cut h0 [32]).2.1) (by omega)) (z0p (by simp [slOk]; omega) ?_)))))
 have htl : ((D.str h0 :: ts.map D.str).take (((ts.length + 1 : Nat) : Int)).toNat).drop 1 = ts.map D.str := by
  rw [Int.toNat_natCast, ← hlen, List.take_length]; rfl
 rw [htl, List.length_map]
 obtain ⟨u, eu, hu⟩ := z6q (Lib.cut h0 [32]).1
 obtain ⟨v, ev, hv⟩ := z6q (Lib.cut h0 [32]).2.1
 have hall : ∀ a : Ask, a.ok = true → a.full = s → ts.mapM plI = some a.cs ∧ u = a.client ∧ v = a.no := by
  rintro a h1 rfl
  have hi := Ask.ins h1
  have := Ask.split_full hi
  rw [hs] at this
  obtain ⟨e, e2⟩ := List.cons.inj this
  subst e2
  rw [e, Ask.head, zFa (z4c (by decide) hi.c0)] at hu hv
  simp only at hu hv
  rw [z7j hi.c0 (by have := hi.c1; omega)] at hu
  rw [z7j (by have := hi.n0; omega) (by have := hi.n1; omega)] at hv
  simp only [D.pair.injEq, D.int.injEq] at hu hv
  exact ⟨zAs fun c hc => zM6 (hi.all c hc), hu.1.symm, hv.1.symm⟩
 rw [hu, hv]
 refine zIY (z7N (T := 1) (out := fun cs : List Chg => [(⟨u, v, cs⟩ : Ask).d]) (fun i (cs : List Chg) => [(⟨u, v, cs⟩ : Ask).d, .int i]) ts (zEJ plI) (fun i cs => cs.length = i) [] rfl rfl ?_ ?_) ?_ ?_
 ·rintro i cs hi hci
  have hw := z1B hi hsm
  have hti := hmem ts[i] (by simp)
  have hct := zKG ts[i]
  have e0 : (gd [(⟨u, v, cs⟩ : Ask).d, D.int (i : Int)] 1).i.toNat = i := by simp
  have e1 : (gd [(⟨u, v, cs⟩ : Ask).d, D.int (i : Int)] 1).i = i := rfl
  have e2 : gd [(⟨u, v, cs⟩ : Ask).d, D.int (i : Int)] 0 = (⟨u, v, cs⟩ : Ask).d := rfl
  rw [e0, e1, e2, zKU hi, hw]
  unfold zEJ
  have hrr := zBi (s := (Lib.cut ts[i] [32]).2.1) (by omega)
  rw [zFL] at hrr
  have hpl : plI ts[i] = (z3Y (Lib.cut ts[i] [32]).2.1).map fun r => ⟨((z6j (Lib.cut ts[i] [32]).1).fld 0).i, r⟩ := rfl
  obtain ⟨n, en, hn⟩ := z6q (Lib.cut ts[i] [32]).1
  have ha := zEy (s := (Lib.cut ts[i] [32]).1) (by omega)
  rw [hpl]
  rw [hn] at ha ⊢
  cases hro : z3Y (Lib.cut ts[i] [32]).2.1 with
  | none =>
    rw [hro] at hrr
    exact z08 (by simpa using hi) (z08 (z1L hi) (z04 (zLl (by omega)) (z04 hrr (z08 rfl rfl))))
  | some r =>
    rw [hro] at hrr
    refine ⟨z08 (by simpa using hi) (z08 (z1L hi) (z04 (zLl (by omega)) (z04 hrr (z07 (by simp [zBe]) (z04 ha (z08 ?_ ?_)))))), by simp [hci]⟩
    ·simp [appOk, Ask.d, z1d]; omega
    ·simp [Ask.d, Chg.d, zBe]
 ·intro cs _
  exact z07 (by simp) rfl
 ·intro cs hf
  rw [z6w] at hf
  cases hm : ts.mapM plI with
  | none => rw [hm] at hf; cases hf
  | some l =>
    rw [hm] at hf
    simp only [List.nil_append, Sum.inl.injEq] at hf
    subst hf
    obtain ⟨k1, k2⟩ := zG6 hm
    have hin : (⟨u, v, l⟩ : Ask).In lim := ⟨by show l.length ≤ lim; omega, fun c hc => let ⟨t, _, h⟩ := k2 c hc; zMT (zNI h)⟩
    have key : ∀ a : Ask, a.ok = true → a.full = s → a = ⟨u, v, l⟩ := by
     intro a h1 h2
     obtain ⟨e1, e2, e3⟩ := hall a h1 h2
     rw [hm] at e1
     rw [e2, e3, Option.some.inj e1]
    generalize (⟨u, v, l⟩ : Ask) = a0 at hin key ⊢
    have hk := zIB hin
    rw [← zKA key]
    simp only [zGS, zAK, zHf, z2x]
    refine z0E hk (z0V (l := [.bool (!(a0.ok && (a0.full == s)))]) ?_ ?_)
    ·unfold zHu Ask.full
     cases h1 : a0.ok with
     | false => exact z08 rfl rfl
     | true => exact z07 (by simp) (by simp)
    ·simp only [z2x, D.b_bool]
     cases (!(a0.ok && (a0.full == s))) <;> rfl
 ·intro e hf
  rw [z6w] at hf
  cases hm : ts.mapM plI with
  | some l => rw [hm] at hf; cases hf
  | none =>
    rw [hm] at hf
    cases hf
    rw [z6e]
    ·rfl
    ·intro a h1 h2
     obtain ⟨e1, _⟩ := hall a h1 h2
     rw [hm] at e1; cases e1
end Go.Proofs.YtilejnnnkfjmmaaGreatDoor
namespace Go.Own
variable [Glb]
open Go
theorem zIX {α : Type} {g : α → D} {c : Prop} [Decidable c] {a b : Outc} (h : ¬ c) (hk : ∃ s, rn b = some (g s)) : ∃ s, rn (if c then a else b) = some (g s) := by rw [if_neg h]; exact hk
theorem zGl {f : List D → Outc} {c : Nat × List D → Outc} {k : Int} (h0 : 0 ≤ k) (h1 : k < 10 ^ 18)
 (hs : ∀ (n : Int) (s : List UInt8), 0 < n → n < 10 ^ 18 → s.length ≤ 30 → ∃ c : List UInt8, c.length = 1 ∧ f [.int n, .str s] = some (0, [.int (n.tdiv 10), .str (c ++ s)]))
 (he : ∀ (n : Int) (s : List UInt8), n ≤ 0 → f [.int n, .str s] = some (1, [.str s])) (hc : ∀ s : List UInt8, s.length ≤ 30 → ∃ s', rn (c (0, [.str s])) = some (.str s')) :
 ∃ s, rn ((z0c f [.int k, .str []]).bind c) = some (.str s) := by
 have key : ∀ (fuel : Nat), fuel ≤ 18 → ∀ (n : Int) (s : List UInt8), 0 ≤ n → n < 10 ^ fuel → s.length + fuel ≤ 30 → ∃ s', z0c f [.int n, .str s] = some (0, [.str s']) ∧ s'.length ≤ 30 := by
  intro fuel
  induction fuel with
  | zero =>
    intro _ n s h0 h1 h2
    exact ⟨s, z2K (he n s (by simp at h1; omega)), by omega⟩
  | succ m ih =>
    intro hm n s h0 h1 h2
    by_cases hn : n ≤ 0
    ·exact ⟨s, z2K (he n s hn), by omega⟩
    ·have hp : (10 : Int) ^ (m + 1) = 10 ^ m * 10 := Int.pow_succ 10 m
     have hp2 : (10 : Int) ^ (m + 1) ≤ 10 ^ 18 := by
      have := Nat.pow_le_pow_right (n := 10) (by omega) hm
      exact_mod_cast this
     obtain ⟨c, hc, hstep⟩ := hs n s (by omega) (by omega) (by omega)
     rw [z3L hstep]
     have h3 : n.tdiv 10 = n / 10 := Int.tdiv_eq_ediv_of_nonneg (by omega)
     refine ih (by omega) (n.tdiv 10) (c ++ s) (by omega) ?_ (by simp; omega)
     rw [h3]
     omega
 obtain ⟨s, h2, h3⟩ := key 18 (Nat.le_refl _) k [] h0 h1 (by simp)
 rw [h2]
 exact hc s h3
end Go.Own
namespace Go.Proofs.YtilejnnnkfjmmaaGreatDoor
open Go Go.Own
theorem zL2 : (10 : Int) ^ 18 = 1000000000000000000 := by decide
theorem zF5 {k : Int} (h0 : 0 ≤ k) (h1 : k < 10 ^ 18) : ∃ s, z1J.F [.int k] = some (.str s) := by
 rw [zDu]
 by_cases hk : k ≤ 0
 ·exact ⟨_, z0p (decide_eq_true hk) rfl⟩
 refine zIX (g := D.str) (fun h => hk (of_decide_eq_true h)) (zGl h0 h1 ?_ ?_ ?_)
 ·intro n s hn hn2 hs
  refine ⟨_, z1N [.int (IntKind.wrap .u8 (IntKind.wrap .i64 (48 + (n.tmod 10))))], ?_⟩
  have hc : catOk (z0i [.int (IntKind.wrap .u8 (IntKind.wrap .i64 (48 + (n.tmod 10))))]) s = true := by
   unfold catOk
   rw [z1N]
   simp [smax]; omega
  have h3 : n.tdiv 10 = n / 10 := Int.tdiv_eq_ediv_of_nonneg (by omega)
  have hw : IntKind.wrap .i64 (n.tdiv 10) = n.tdiv 10 := by rw [h3]; exact z2G (by omega) (by omega)
  refine z08 (decide_eq_true hn) (z08 (by decide) (z08 hc ?_))
  simp only [z2x, D.i_int, hw]
  rfl
 ·intro n s hn
  exact z07 (fun h => absurd (of_decide_eq_true h) (Int.not_lt.2 hn)) rfl
 ·intro s hs
  refine ⟨_, z0p (by simp [catOk, smax]; omega) rfl⟩
noncomputable def mtA (k : Int) : List UInt8 := if h : 0 ≤ k ∧ k < 10 ^ 18 then (zF5 h.1 h.2).choose else []
theorem zJA {k : Int} (h0 : 0 ≤ k) (h1 : k < 10 ^ 18) : z1J.F [.int k] = some (.str (mtA k)) := by
 unfold mtA
 rw [dif_pos ⟨h0, h1⟩]
 exact (zF5 h0 h1).choose_spec
theorem zJZ (x : Rec) : z43.F [x.d, x.d] = some (.bool true) := by
 rw [zDt]; simp [Rec.d]
theorem zJY (x : Chg) : z42.F [x.d, x.d] = some (.bool true) := by
 rw [zDs, if_neg (by simp)]
 exact z0E (zJZ x.rc) rfl
theorem zIA {xs : List Chg} (hl : xs.length ≤ smax) : z3e.F [.lst (xs.map Chg.d), .lst (xs.map Chg.d)] = some (.bool true) := by
 rw [zCO, if_neg (by simp)]
 refine z1M (z70 (fun i (_ : Unit) => [.int i]) xs.length (fun _ => ()) (t := 1) (o := []) rfl ?_ ?_) rfl
 ·intro i hi
  simp [hi, zGv hi, z1L hi, z1B hi hl, zJY]
 ·simp
theorem zKN {a : Ask} (hl : a.cs.length ≤ smax) : z3m.F [a.d, a.d] = some (.bool true) := by
 rw [zEm, if_neg (by simp), if_neg (by simp)]
 exact z0E (zIA hl) rfl
noncomputable def cmk (k : Int) : Chg := ⟨k, ⟨mtA (k + 1), k + 2, k + 3, mtA (k + 4)⟩⟩
noncomputable def cmk5 (k : Int) (i : Nat) : D := (cmk (k + 5 * i)).d
noncomputable def z4d (k : Int) (n : Nat) : List Chg := (List.range n).map fun i : Nat => cmk (k + 5 * i)
theorem zKm (k : Int) (n : Nat) : (List.range n).map (cmk5 k) = (z4d k n).map Chg.d := by
 simp only [z4d, List.map_map]
 rfl
theorem zDK (k : Int) (n : Nat) : (z4d k n).length = n := by simp [z4d]
theorem zFi {xs : List Chg} {k : Int} (h0 : 0 ≤ k) (h1 : k + 5 * xs.length < 10 ^ 18) :
 z2r.F [.lst (xs.map Chg.d), .int k] = some (.pair (.int (k + 5 * xs.length)) (.pair (.lst ((z4d k xs.length).map Chg.d)) .unit)) := by
 have h10 := zL2
 have hl : xs.length ≤ smax := by simp [smax]; omega
 have hml : (xs.map Chg.d).length = xs.length := by simp
 rw [zAF]
 refine z1M (z70 (fun i (zs : List D) => [.lst zs, .int (k + 5 * i), .int i]) xs.length (over (cmk5 k) (xs.map Chg.d)) (t := 0) (o := [.lst ((z4d k xs.length).map Chg.d), .int (k + 5 * xs.length)]) (by simp [zL1]) ?_ ?_) rfl
 ·intro i hi
  have hi' : i < (xs.map Chg.d).length := by simpa using hi
  have w1 : IntKind.wrap .i64 (k + 5 * (i : Int) + 1) = k + 5 * i + 1 := by rw [z2G] <;> omega
  have w2 : IntKind.wrap .i64 (k + 5 * (i : Int) + 1 + 1) = k + 5 * i + 2 := by rw [z2G] <;> omega
  have w3 : IntKind.wrap .i64 (k + 5 * (i : Int) + 2 + 1) = k + 5 * i + 3 := by rw [z2G] <;> omega
  have w4 : IntKind.wrap .i64 (k + 5 * (i : Int) + 3 + 1) = k + 5 * i + 4 := by rw [z2G] <;> omega
  have w5 : IntKind.wrap .i64 (k + 5 * (i : Int) + 4 + 1) = k + 5 * ((i + 1 : Nat) : Int) := by rw [z2G] <;> omega
  have hm := zJA (k := k + 5 * i + 1) (by omega) (by omega)
  have hm2 := zJA (k := k + 5 * i + 4) (by omega) (by omega)
  have hol : (over (cmk5 k) (xs.map Chg.d) i).length = xs.length := by rw [zIR (Nat.le_of_lt hi'), hml]
  have hol' : i < (over (cmk5 k) (xs.map Chg.d) i).length := by rw [hol]; exact hi
  have hg : gd (over (cmk5 k) (xs.map Chg.d) i) i = xs[i].d := (zMm hi').trans (zGv hi)
  refine z08 (by simp [hol]; omega) (z08 ?_ (z04 (r := .str (mtA (k + 5 * i + 1))) ?_ (z04 (r := .str (mtA (k + 5 * i + 4))) ?_ ?_)))
  ·simp only [z2x, zGx, D.l_lst, D.i_int, hol]; exact z1L hi
  ·simp only [z6U, D.i_int, w1]; exact hm
  ·simp only [z6U, D.i_int, w1, w2, w3, w4]; exact hm2
  ·simp only [upd, upd2, z2x, z6U, zGx, D.l_lst, D.i_int, Int.toNat_natCast, List.set_set, zN8 hol', hg, w1, w2, w3, w4, w5, z1B hi hl]
   rw [zL0 hi']
   all_goals rfl
 ·have := zM4 (ys := cmk5 k) (xs := xs.map Chg.d)
  have h2 : (z4d k xs.length).length = xs.length := zDK _ _
  rw [hml, zKm] at this
  simp [this, h2]
theorem zFg {n : Nat} {k : Int} (h0 : 0 ≤ k) (h1 : k + 5 * n < 10 ^ 18) : z2q.F [.lst ((z4d k n).map Chg.d), .int k] = some (.int (k + 5 * n)) := by
 have h10 := zL2
 have hl : n ≤ smax := by simp [smax]; omega
 have hml : (z4d k n).length = n := zDK _ _
 have hlen : (D.lst ((z4d k n).map Chg.d)).l.length = n := by simp [hml]
 rw [zAE, hlen]
 refine z1M (z70 (fun i (_ : Unit) => [.int (k + 5 * i), .int i]) n (fun _ => ()) (t := 1) (o := [.int (k + 5 * n)]) (by simp) ?_ ?_) rfl
 ·intro i hi
  have w1 : IntKind.wrap .i64 (k + 5 * (i : Int) + 1) = k + 5 * i + 1 := by rw [z2G] <;> omega
  have w2 : IntKind.wrap .i64 (k + 5 * (i : Int) + 1 + 1) = k + 5 * i + 2 := by rw [z2G] <;> omega
  have w3 : IntKind.wrap .i64 (k + 5 * (i : Int) + 2 + 1) = k + 5 * i + 3 := by rw [z2G] <;> omega
  have w4 : IntKind.wrap .i64 (k + 5 * (i : Int) + 3 + 1) = k + 5 * i + 4 := by rw [z2G] <;> omega
  have w5 : IntKind.wrap .i64 (k + 5 * (i : Int) + 4 + 1) = k + 5 * ((i + 1 : Nat) : Int) := by rw [z2G] <;> omega
  have hm := zJA (k := k + 5 * i + 1) (by omega) (by omega)
  have hm2 := zJA (k := k + 5 * i + 4) (by omega) (by omega)
  have hg : gd ((z4d k n).map Chg.d) i = (cmk (k + 5 * i)).d := by
   rw [zGv (by rw [hml]; exact hi)]; simp [z4d]
  refine z08 (by simpa using hi) (z08 (by simpa using z1L hi) ?_)
  simp only [z2x, z6U, D.l_lst, D.i_int, Int.toNat_natCast, hg, w1, w2, w3, w4, w5, z1B hi hl]
  have f0 : (cmk (k + 5 * i)).d.fld 0 = .int (k + 5 * i) := rfl
  have f1 : (cmk (k + 5 * i)).d.fld 1 = (cmk (k + 5 * i)).rc.d := rfl
  have g0 : (cmk (k + 5 * i)).rc.d.fld 0 = .str (mtA (k + 5 * i + 1)) := rfl
  have g1 : (cmk (k + 5 * i)).rc.d.fld 1 = .int (k + 5 * i + 2) := rfl
  have g2 : (cmk (k + 5 * i)).rc.d.fld 2 = .int (k + 5 * i + 3) := rfl
  have g3 : (cmk (k + 5 * i)).rc.d.fld 3 = .str (mtA (k + 5 * i + 4)) := rfl
  rw [f0, f1, g0, g1, g2, g3]
  exact z07 (by simp) (z04 hm (z07 (by simp) (z07 (by simp) (z07 (by simp) (z04 hm2 (z07 (by simp) rfl))))))
 ·simp
theorem zHV (s : List UInt8) : ∃ (a : Ask) (b : Bool), z8K s = .pair a.d (.pair (.bool b) .unit) ∧ a.cs.length ≤ 12 := by
 unfold z8K
 by_cases h : ∃ a : Ask, a.ok = true ∧ a.full = s
 ·rw [dif_pos h]
  exact ⟨_, true, rfl, (Ask.ins h.choose_spec.1).len⟩
 ·rw [dif_neg h]
  exact ⟨Ask.nul, false, rfl, by decide⟩
theorem z8l {s : List UInt8} : z3P.F [.str s] = some (.bool true) := by
 have hlim : lim = 1048576 := rfl
 have h10 := zL2
 rw [z7U]
 by_cases hl : (s.length : Int) > 1048576
 ·exact z0p (decide_eq_true hl) rfl
 refine z0C (fun h => hl (of_decide_eq_true h)) ?_
 have h1 := zCl (s := s) (by omega)
 have h2 := zCj (s := s) (by omega)
 obtain ⟨a, b, hr, h12⟩ := zHV s
 rw [hr] at h1 h2
 have he := zKN (a := a) (by rw [z1d]; omega)
 have hm := zFi (xs := a.cs) (k := 1) (by omega) (by omega)
 have hh := zFg (n := a.cs.length) (k := 1) (by omega) (by omega)
 have hmark : ∃ y : D, z3f.F [a.d, .int 1] = some (.pair (.int (1 + 5 * a.cs.length)) (.pair y .unit)) ∧ y.fld 2 = .lst ((z4d 1 a.cs.length).map Chg.d) := by
  rw [zCQ]
  have f2 : a.d.fld 2 = .lst (a.cs.map Chg.d) := rfl
  rw [f2]
  refine ⟨_, z0E hm rfl, ?_⟩
  unfold D.mix
  split <;> rfl
 obtain ⟨y, hmk, hy⟩ := hmark
 have hheld : z2l.F [.pair (a.d.fld 0) (.pair (a.d.fld 1) (.pair (.lst ((z4d 1 a.cs.length).map Chg.d)) .unit)), .int 1] = some (.int (1 + 5 * a.cs.length)) := by
  rw [zCP]
  refine z0E hh (z0C (fun h => ?_) rfl)
  have h' : 1 + 5 * (a.cs.length : Int) < 0 := of_decide_eq_true h
  omega
 refine z0E h1 (z0E h2 (z0V (l := [.bool false]) (z04 he (z07 (by simp) (by simp))) (z0C (by simp) (z0E hmk ?_))))
 have e1 : ((D.pair (.int (1 + 5 * (a.cs.length : Int))) (.pair y .unit)).fld 1).fld 2 = .lst ((z4d 1 a.cs.length).map Chg.d) := hy
 have e0 : (D.pair a.d (.pair (.bool b) .unit)).fld 0 = a.d := rfl
 rw [e1, e0]
 refine z0E hheld (z0C (fun h => ?_) (z0C (by simp) (z0E h2 (z0V (l := [.bool false]) (z04 he (z07 (by simp) (by simp))) (z0C (by simp) (z0E hheld (z0C (fun h => ?_) (z0C (by simp) rfl))))))))
 all_goals
  have h' : 1 + 5 * (a.cs.length : Int) < 0 := of_decide_eq_true h
  omega
end Go.Proofs.YtilejnnnkfjmmaaGreatDoor
