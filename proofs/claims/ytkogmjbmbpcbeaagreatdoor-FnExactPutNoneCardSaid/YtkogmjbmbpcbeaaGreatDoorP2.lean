/- What the functions compute, in plain words. -/
import Derived.Test.YtkogmjbmbpcbeaaGreatDoorP1
set_option linter.unusedSectionVars false
set_option linter.unusedVariables false
set_option linter.unusedSimpArgs false
namespace Go.Proofs.YtkogmjbmbpcbeaaGreatDoor
open Go Go.Own
theorem zLd {c : Nat} (hc : c ≤ 4) (n : Int) : ∃ b : List UInt8, b.length = c ∧ z2I.F [.int n, .int c] = some (.str b) := by
 rw [z9c]
 have w0 : IntKind.wrap .i64 ((c : Int) - 1) = (c : Int) - 1 := by rw [z0S] <;> omega
 simp only [D.i_int, w0]
 obtain ⟨l, hl, hloop⟩ := z8U (f := fun l2 =>
  if (decide ((gd l2 1).i ≥ 0)) then
   if (decide (0 ≤ (IntKind.wrap .i64 (8 * (gd l2 1).i)))) then
   if (appOk 1 (gd l2 0).l ((.int (IntKind.wrap .u8 (n.fdiv (2 ^ min (IntKind.wrap .i64 (8 * (gd l2 1).i)).toNat (IntKind.bits .i64))))) :: ([] : List D))) then
   ou 0 [(D.lst ((gd l2 0).l ++ ((.int (IntKind.wrap .u8 (n.fdiv (2 ^ min (IntKind.wrap .i64 (8 * (gd l2 1).i)).toNat (IntKind.bits .i64))))) :: ([] : List D)))), (.int (IntKind.wrap .i64 ((gd l2 1).i - 1)))]
   else none
   else none
  else
   ou 1 [(gd l2 0)]) (l := [.lst [], .int ((c : Int) - 1)]) (fun m (zs : List D) => [.lst zs, .int ((m : Int) - 1)]) (fun m zs => zs.length + m = c) (t := 0) (out := fun zs => [.lst zs]) c [] rfl (by simp) (by
  intro m zs hz
  have w1 : IntKind.wrap .i64 (8 * (((m + 1 : Nat) : Int) - 1)) = 8 * (m : Int) := by rw [z0S] <;> omega
  have w2 : IntKind.wrap .i64 ((((m + 1 : Nat) : Int) - 1) - 1) = (m : Int) - 1 := by rw [z0S] <;> omega
  refine ⟨zs ++ [.int (IntKind.wrap .u8 (n.fdiv (2 ^ min (8 * (m : Int)).toNat (IntKind.bits .i64))))], z04 (decide_eq_true (by simp)) (z04 ?_ (z04 ?_ ?_)), by simp; omega⟩
  ·simp only [z3Z, D.i_int, w1]; exact decide_eq_true (by omega)
  ·simp only [z1G, D.l_lst, appOk, List.length_singleton]
   simp [z19]; omega
  ·simp only [z1G, z3Z, D.i_int, D.l_lst, w1, w2]) (by
  intro zs _
  exact z00 (by simp) rfl)
 refine ⟨z0c l, by rw [z0t]; omega, z0N hloop rfl⟩
theorem zDS {c : Nat} (hc : c ≤ 4) (n : Int) : ∃ b : List UInt8, b.length = c ∧ z0x.F [.int n, .int c] = some (.str b) := by
 rw [z4u]
 have w0 : IntKind.wrap .i64 ((c : Int) - 1) = (c : Int) - 1 := by rw [z0S] <;> omega
 simp only [D.i_int, w0]
 obtain ⟨l, hl, hloop⟩ := z8U (f := fun l2 =>
  if (decide ((gd l2 2).i ≥ 0)) then
   if (inb (gd l2 2).i (gd l2 1).l.length) then
   if (decide (0 ≤ 8)) then
   ou 0 [(.int ((gd l2 0).i.fdiv (2 ^ min 8 (IntKind.bits .i64)))), (D.lst ((gd l2 1).l.set (gd l2 2).i.toNat (.int (IntKind.wrap .u8 (gd l2 0).i)))), (.int (IntKind.wrap .i64 ((gd l2 2).i - 1)))]
   else none
   else none
  else
   ou 1 [(gd l2 1)]) (l := [.int n, .lst (List.replicate ((c : Int)).toNat (.int 0)), .int ((c : Int) - 1)]) (fun m (z : Int × List D) => [.int z.1, .lst z.2, .int ((m : Int) - 1)]) (fun m z => z.2.length = c ∧ m ≤ c) (t := 0) (out := fun z => [.lst z.2]) c (n, List.replicate c (.int 0)) (by simp) (by simp) (by
  intro m z hz
  have w2 : IntKind.wrap .i64 ((((m + 1 : Nat) : Int) - 1) - 1) = (m : Int) - 1 := by rw [z0S] <;> omega
  refine ⟨(z.1.fdiv (2 ^ min 8 (IntKind.bits .i64)), z.2.set m (.int (IntKind.wrap .u8 z.1))), z04 (decide_eq_true (by simp)) (z04 ?_ (z04 (by decide) ?_)), by simp; omega⟩
  ·simp only [z69, z3Z, D.i_int, D.l_lst]; exact zGn (by omega) (by omega)
  ·have e : (((m + 1 : Nat) : Int) - 1).toNat = m := by omega
   simp only [z1G, z3Z, z69, D.i_int, D.l_lst, w2, e]) (by
  intro zs _
  exact z00 (by simp) rfl)
 refine ⟨z0c l.2, by rw [z0t]; omega, z0K ?_ (z0N hloop rfl)⟩
 exact z7C (by have : lim = 1048576 := rfl; omega) (by decide)
theorem z79 {s : List UInt8} {m : Int} (hm : m < 10000000000) : (decide ((0 : Int) ≤ z4X s) && decide (z4X s ≤ m)) = z3M s m := by
 unfold z4X z3M
 by_cases hc : z5n s = true
 ·by_cases hd : (dv s : Int) ≤ m
  ·have hl10 : s.length ≤ 10 := by
    have := zE1 (k := 10) (u := dv s) (by omega) (by omega)
    rwa [← (z88 _).1 hc] at this
   rw [if_pos ⟨hc, hl10⟩]
   simp [hc, hd]
  ·have e : decide ((dv s : Int) ≤ m) = false := by simpa using hd
   rw [e, Bool.and_false]
   by_cases hl10 : s.length ≤ 10
   ·rw [if_pos ⟨hc, hl10⟩, e]; simp
   ·rw [if_neg (fun h => hl10 h.2)]; simp
 ·have hc' : z5n s = false := by simpa using hc
  rw [if_neg (fun h => hc h.1), hc']; simp
def mxP : List (List UInt8) → Bool
 | [a, b] => z3M a 65535 && z4h b
 | _ => false
def mxOk (s : List UInt8) : Bool := mxP (splB 32 s)
def zKL (s : List UInt8) : Bool := decide (s.length ≤ 30) && s.all (fun c => decide (32 ≤ c.toNat) && decide (c.toNat ≤ 126))
def z3z (k : Int) (s : List UInt8) : Bool :=
 if k = 1 then z9o s else if k = 2 ∨ k = 5 then z4h s else if k = 6 then z3M s 4294967295 else if k = 15 then mxOk s else if k = 16 then zKL s else false
theorem zGH {q : List UInt8} (h : 32 ∈ q) : z4h q = false := by
 cases hq : z4h q with
 | false => rfl
 | true =>
   exfalso
   unfold z4h z0p at hq
   simp only [Bool.and_eq_true, Bool.or_eq_true, List.all_eq_true, decide_eq_true_eq, Bool.not_eq_true'] at hq
   obtain ⟨p, hp, hc⟩ := (zEq (b := 46) (c := 32) (by decide) q).1 h
   rcases hq.2.1.2 with he | he
   ·rw [he] at hq; simp at hq
   ·have := he.2 p hp
    unfold z45 at this
    simp only [Bool.or_eq_true, Bool.and_eq_true, List.all_eq_true] at this
    rcases this with h1 | h1
    ·have : p = [42] := by simpa using h1
     subst this
     exact absurd hc (by decide)
    ·exact absurd (h1.2 32 hc) (by decide)
theorem zKa {s : List UInt8} (h : 32 ∉ s) : Lib.cut s [32] = (s, [], false) := by
 unfold Lib.cut
 rw [z5M h]; rfl
theorem zHQ {p q : List UInt8} (h : 32 ∉ p) : Lib.cut (p ++ 32 :: q) [32] = (p, q, true) := by
 unfold Lib.cut
 rw [z4g h]
 simp
theorem zMF {s : List UInt8} (h : s.length ≤ lim) : z3Q.F [.str s, .str [32]] = some (cutD (Lib.cut s [32])) := by
 rw [show z3Q.F = cutF from by unfold z3Q cutE; rfl]
 unfold cutF
 have hlim : lim = 1048576 := rfl
 exact if_pos (by simp; omega)
theorem zLO (s : List UInt8) : mxOk s = (z3M (Lib.cut s [32]).1 65535 && z4h (Lib.cut s [32]).2.1) := by
 unfold mxOk
 by_cases h : 32 ∈ s
 ·obtain ⟨p, q, rfl, hp⟩ := z9P h
  rw [zHQ hp, z7H hp]
  by_cases hq : 32 ∈ q
  ·rw [zGH hq, Bool.and_false]
   obtain ⟨p2, q2, rfl, hp2⟩ := z9P hq
   rw [z7H hp2]
   cases hh : splB 32 q2 with
   | nil => exact absurd hh (z6y 32 q2)
   | cons a l => rfl
  ·rw [z4w hq]; rfl
 ·rw [zKa h, z4w h]
  simp [z4h, mxP]
end Go.Proofs.YtkogmjbmbpcbeaaGreatDoor
namespace Go.Proofs.YtkogmjbmbpcbeaaGreatDoor
open Go Go.Own
theorem z06 {o : Outc} {l : List D} {A : Nat × List D → Outc} {B : Nat × List D → Nat → Outc} {R : Option D} (h : o = some (0, l)) (hk : rn (A (0, l)) = R) : rn (o.bind fun o => sel2 o.1 (A o) (B o)) = R := by
 rw [h]; exact hk
theorem zLe (n : Int) : z1g.F [.int n] = some (.bool !(decide (32 ≤ n) && decide (n ≤ 126))) := by
 rw [z8h]
 by_cases h : n < 32
 ·have : decide (32 ≤ n) = false := by simp; omega
  simp [h, this]
 ·have h1 : decide (32 ≤ n) = true := by simp; omega
  by_cases h2 : n > 126
  ·have : decide (n ≤ 126) = false := by simp; omega
   simp [h, h1, h2, this]
  ·have : decide (n ≤ 126) = true := by simp; omega
   simp [h, h1, h2, this]
theorem zHb {s : List UInt8} {i : Nat} (hi : i < s.length) : gd (s.map fun c => D.int c.toNat) i = .int (s[i]).toNat := by
 rw [zA4 (by simpa using hi)]; simp
theorem zB4 {s : List UInt8} (u : D) (hl : s.length ≤ smax) : z0H.F [.lst (s.map fun c => D.int c.toNat), u] = some (.bool !(s.all (fun c => decide (32 ≤ c.toNat) && decide (c.toNat ≤ 126)))) := by
 rw [z2E]
 let q : UInt8 → Bool := fun c => decide (32 ≤ c.toNat) && decide (c.toNat ≤ 126)
 have key : ∃ r, z0M.F [.lst (s.map fun c => D.int c.toNat), u] = some r ∧ ∃ n : Int, r = .int n ∧ decide (n ≥ 0) = !(s.all q) := by
  rw [z2X]
  have hp : ∀ i (hi : i < s.length), z1g.F [.int (s[i]).toNat] = some (.bool !(q s[i])) := fun i hi => by
   rw [zLe]
   have : (decide ((32 : Int) ≤ (s[i]).toNat) && decide (((s[i]).toNat : Int) ≤ 126)) = q s[i] := by
    simp only [q]
    rw [Bool.eq_iff_iff]; simp; omega
   rw [this]
  refine zJG (fun i => [.int i]) s.length (fun i => q (s.getD i 0)) (t1 := 0) (t2 := 1) (o1 := fun i => [.int i]) (o2 := []) rfl ?_ ?_ ?_ ?_ ?_
  ·intro i hi h
   rw [z0J hi] at h
   have := hp i hi
   rw [h] at this
   simp [hi, z0D hi, z0O hi hl, zHb hi, this]
  ·intro i hi h
   rw [z0J hi] at h
   have := hp i hi
   rw [h] at this
   simp [hi, z0D hi, zHb hi, this]
  ·simp
  ·intro hall
   refine ⟨_, rfl, -1, rfl, ?_⟩
   have : s.all q = true := by
    rw [← z5m s q 0, z1S]; exact hall
   rw [this]; rfl
  ·intro j hj hp' _
   refine ⟨_, rfl, j, rfl, ?_⟩
   have : s.all q = false := by
    rw [← z5m s q 0]; exact z43 hj hp'
   rw [this]; simp
 obtain ⟨r, h1, n, rfl, h2⟩ := key
 refine z02 h1 ?_
 show some (D.bool (decide (n ≥ 0))) = some (D.bool !(s.all q))
 rw [h2]
theorem zLI {k : Int} {s : List UInt8} (h : s.length ≤ lim) : ∃ b : List UInt8, z0k.F [.int k, .str s] = some (.pair (.str b) (.pair (.bool (z3z k s)) .unit)) := by
 have hlim : lim = 1048576 := rfl
 unfold z3z
 by_cases k1 : k = 1
 ·subst k1; rw [if_pos rfl]; exact zLf h
 rw [if_neg k1, z3l]
 have e1 : ¬ ((D.int k).i == 1) = true := by simpa using k1
 by_cases k25 : k = 2 ∨ k = 5
 ·rw [if_pos k25]
  have ht := z71 h
  have hj : (if (D.int k).i == 2 then ou 0 [.bool ((D.int k).i == 2)] else ou 0 [.bool ((D.int k).i == 5)] : Outc) = some (0, [.bool true]) := by
   rcases k25 with rfl | rfl <;> rfl
  cases hq : z4h s with
  | false =>
    rw [hq] at ht
    exact ⟨[], z03 e1 (z06 hj (z0K rfl (z02 ht (z0K rfl rfl))))⟩
  | true =>
    rw [hq] at ht
    obtain ⟨b, hb, hlb⟩ := z9t h
    exact ⟨b ++ [0], z03 e1 (z06 hj (z0K rfl (z02 ht (z03 (by simp) (z02 hlb (z0K (z4c (by simp; omega)) rfl))))))⟩
 rw [if_neg k25]
 have hj : (if (D.int k).i == 2 then ou 0 [.bool ((D.int k).i == 2)] else ou 0 [.bool ((D.int k).i == 5)] : Outc) = some (0, [.bool false]) := by
  have h2 : ¬ k = 2 := fun h => k25 (.inl h)
  have h5 : ¬ k = 5 := fun h => k25 (.inr h)
  simp [h2, h5]
 by_cases k6 : k = 6
 ·rw [if_pos k6]; subst k6
  obtain ⟨v, hn, _⟩ := z4j (s := s) (m := 4294967295) h (by decide)
  cases hq : z3M s 4294967295 with
  | false =>
    rw [hq] at hn
    exact ⟨[], z03 e1 (z06 hj (z03 (by simp) (z0K rfl (z02 hn (z0K rfl rfl)))))⟩
  | true =>
    rw [hq] at hn
    obtain ⟨b, _, hb⟩ := zLd (c := 4) (by omega) v
    exact ⟨b, z03 e1 (z06 hj (z03 (by simp) (z0K rfl (z02 hn (z03 (by simp) (z02 hb rfl))))))⟩
 rw [if_neg k6]
 have e6 : ¬ ((D.int k).i == 6) = true := by simpa using k6
 by_cases k15 : k = 15
 ·rw [if_pos k15]; subst k15
  rw [zLO]
  have hc := zMF h
  have hle := zJ0 s [32]
  generalize hcut : Lib.cut s [32] = c at hc hle
  obtain ⟨a, q, f⟩ := c
  simp only at hle ⊢
  have f0 : (cutD (a, q, f)).fld 0 = .str a := rfl
  have f1 : (cutD (a, q, f)).fld 1 = .str q := rfl
  obtain ⟨v, hn, _⟩ := z4j (s := a) (m := 65535) (by omega) (by decide)
  have ht := z71 (s := q) (by omega)
  cases hq : z3M a 65535 && z4h q with
  | false =>
    refine ⟨[], z03 e1 (z06 hj (z03 (by simp) (z03 e6 (z0K rfl (z02 hc ?_)))))⟩
    rw [f0, f1]
    refine z02 hn (z06 (l := [.bool true]) ?_ (z0K rfl rfl))
    cases hna : z3M a 65535 with
    | false => exact z04 rfl rfl
    | true =>
      rw [hna, Bool.true_and] at hq
      rw [hq] at ht
      exact z00 (by simp) (z01 ht rfl)
  | true =>
    simp only [Bool.and_eq_true] at hq
    rw [hq.1] at hn
    rw [hq.2] at ht
    obtain ⟨b, hbl, hb⟩ := zLd (c := 2) (by omega) v
    obtain ⟨b2, hb2, hlb⟩ := z9t (s := q) (by omega)
    refine ⟨b ++ b2 ++ [0], z03 e1 (z06 hj (z03 (by simp) (z03 e6 (z0K rfl (z02 hc ?_)))))⟩
    rw [f0, f1]
    exact z02 hn (z06 (l := [.bool false]) (z00 (by simp) (z01 ht rfl)) (z03 (by simp) (z02 hb (z02 hlb (z0K (z4c (by simp only [D.s_str]; omega)) (z0K (z4c (by simp; omega)) rfl))))))
 rw [if_neg k15]
 have e15 : ¬ ((D.int k).i == 15) = true := by simpa using k15
 by_cases k16 : k = 16
 ·rw [if_pos k16]; subst k16
  have hc := zB4 (s := s) .unit (Nat.le_trans h z0u)
  unfold zKL
  by_cases h30 : s.length ≤ 30
  ·have e30 : decide (s.length ≤ 30) = true := by simpa using h30
   rw [e30, Bool.true_and]
   cases hq : s.all (fun c => decide (32 ≤ c.toNat) && decide (c.toNat ≤ 126)) with
   | false =>
     rw [hq] at hc
     exact ⟨[], z03 e1 (z06 hj (z03 (by simp) (z03 e6 (z03 e15 (z0K rfl (z06 (l := [.bool true]) (z00 (fun h => by have h' : (s.length : Int) > 30 := of_decide_eq_true h; omega) (z01 hc rfl)) (z0K rfl rfl)))))))⟩
   | true =>
     rw [hq] at hc
     obtain ⟨b, hbl, hb⟩ := zLd (c := 1) (by omega) s.length
     exact ⟨b ++ s, z03 e1 (z06 hj (z03 (by simp) (z03 e6 (z03 e15 (z0K rfl (z06 (l := [.bool false]) (z00 (fun h => by have h' : (s.length : Int) > 30 := of_decide_eq_true h; omega) (z01 hc rfl)) (z03 (by simp) (z02 hb (z0K (z4c (by simp only [D.s_str]; omega)) rfl)))))))))⟩
  ·have e30 : decide (s.length ≤ 30) = false := by simpa using h30
   rw [e30, Bool.false_and]
   exact ⟨[], z03 e1 (z06 hj (z03 (by simp) (z03 e6 (z03 e15 (z0K rfl (z06 (l := [.bool true]) (z04 (decide_eq_true (show (s.length : Int) > 30 by omega)) rfl) (z0K rfl rfl)))))))⟩
 rw [if_neg k16]
 have e16 : ¬ ((D.int k).i == 16) = true := by simpa using k16
 exact ⟨[], z03 e1 (z06 hj (z03 (by simp) (z03 e6 (z03 e15 (z03 e16 rfl)))))⟩
theorem f_l3 {k : Int} {s : List UInt8} (h : s.length ≤ lim) : ∃ b : List UInt8, z0z.F [.int k, .str s] = some (.pair (.str b) (.pair (.bool (z3z k s)) .unit)) := by
 have hlim : lim = 1048576 := rfl
 unfold z3z
 by_cases k1 : k = 1
 ·subst k1; rw [if_pos rfl]; exact zMd h
 rw [if_neg k1, z4F]
 have e1 : ¬ ((D.int k).i == 1) = true := by simpa using k1
 by_cases k25 : k = 2 ∨ k = 5
 ·rw [if_pos k25]
  have ht := z73 h
  have hj : (if (D.int k).i == 2 then ou 0 [.bool ((D.int k).i == 2)] else ou 0 [.bool ((D.int k).i == 5)] : Outc) = some (0, [.bool true]) := by
   rcases k25 with rfl | rfl <;> rfl
  cases hq : z4h s with
  | false =>
    rw [hq] at ht
    exact ⟨[], z03 e1 (z06 hj (z0K rfl (z02 ht (z0K rfl rfl))))⟩
  | true =>
    rw [hq] at ht
    have hn : z0p s = true := by unfold z4h at hq; simp only [Bool.and_eq_true] at hq; exact hq.2.1
    obtain ⟨b, hb, hlb⟩ := zFH h hn
    exact ⟨b, z03 e1 (z06 hj (z0K rfl (z02 ht (z03 (by simp) (z02 hlb rfl)))))⟩
 rw [if_neg k25]
 have hj : (if (D.int k).i == 2 then ou 0 [.bool ((D.int k).i == 2)] else ou 0 [.bool ((D.int k).i == 5)] : Outc) = some (0, [.bool false]) := by
  have h2 : ¬ k = 2 := fun h => k25 (.inl h)
  have h5 : ¬ k = 5 := fun h => k25 (.inr h)
  simp [h2, h5]
 by_cases k6 : k = 6
 ·rw [if_pos k6]; subst k6
  have hn := z95 h
  have hin := z8D (z4X s) 0 4294967295
  rw [z79 (by decide)] at hin
  obtain ⟨b, _, hb⟩ := zDS (c := 4) (by omega) (z4X s)
  exact ⟨b, z03 e1 (z06 hj (z03 (by simp) (z0K rfl (z02 hn (z02 hb (z02 hin rfl))))))⟩
 rw [if_neg k6]
 have e6 : ¬ ((D.int k).i == 6) = true := by simpa using k6
 by_cases k15 : k = 15
 ·rw [if_pos k15]; subst k15
  have hsp := z6R s 32 h
  have hpm := z7I 32 s
  unfold mxOk
  generalize splB 32 s = ps at hsp hpm
  have hlen : (D.lst (ps.map D.str)).l.length = ps.length := by simp
  by_cases h2 : ps.length = 2
  ·match ps, h2 with
   | [a, q], _ =>
     have hla := hpm a (by simp)
     have hlq := hpm q (by simp)
     have hn := z95 (s := a) (by omega)
     have hin := z8D (z4X a) 0 65535
     rw [z79 (by decide)] at hin
     have ht := z73 (s := q) (by omega)
     show ∃ b : List UInt8, _ = some (D.pair (.str b) (.pair (.bool (z3M a 65535 && z4h q)) .unit))
     cases hq : z3M a 65535 && z4h q with
     | false =>
       refine ⟨[], z03 e1 (z06 hj (z03 (by simp) (z03 e6 (z0K rfl (z02 hsp (z06 (l := [.bool true]) (z00 (by simp) (z04 rfl (z01 hn (z01 hin ?_)))) (z0K rfl rfl)))))))⟩
       cases hna : z3M a 65535 with
       | false => exact z04 rfl rfl
       | true =>
         rw [hna, Bool.true_and] at hq
         rw [hq] at ht
         exact z00 (by simp) (z04 rfl (z01 ht rfl))
     | true =>
       simp only [Bool.and_eq_true] at hq
       rw [hq.1] at hin
       rw [hq.2] at ht
       have hnq : z0p q = true := by have := hq.2; unfold z4h at this; simp only [Bool.and_eq_true] at this; exact this.2.1
       obtain ⟨b, hbl, hb⟩ := zDS (c := 2) (by omega) (z4X a)
       obtain ⟨b2, hb2, hlb⟩ := zFH (s := q) (by omega) hnq
       exact ⟨b ++ b2, z03 e1 (z06 hj (z03 (by simp) (z03 e6 (z0K rfl (z02 hsp (z06 (l := [.bool false]) (z00 (by simp) (z04 rfl (z01 hn (z01 hin (z00 (by simp) (z04 rfl (z01 ht rfl))))))) (z03 (by simp) (z0K rfl (z02 hn (z02 hb (z0K rfl (z02 hlb (z0K (z4c (by simp only [D.s_str]; omega)) rfl)))))))))))))⟩
  ·have hm : mxP ps = false := by
    match ps, h2 with
    | [], _ => rfl
    | [_], _ => rfl
    | [_, _], h2 => exact absurd rfl h2
    | _ :: _ :: _ :: _, _ => rfl
   rw [hm]
   refine ⟨[], z03 e1 (z06 hj (z03 (by simp) (z03 e6 (z0K rfl (z02 hsp (z06 (l := [.bool true]) (z04 ?_ rfl) (z0K rfl rfl)))))))⟩
   rw [hlen]; simp; omega
 rw [if_neg k15]
 have e15 : ¬ ((D.int k).i == 15) = true := by simpa using k15
 by_cases k16 : k = 16
 ·rw [if_pos k16]; subst k16
  have hsm := Nat.le_trans h z0u
  let q : UInt8 → Bool := fun c => decide (32 ≤ c.toNat) && decide (c.toNat ≤ 126)
  have hb1 := z0t [.int (IntKind.wrap .u8 (s.length : Int))]
  have hloop := z3v (f := fun l3 =>
                if (decide ((gd l3 0).i < ((D.str s).s.length : Int))) then
                 (if (inb (gd l3 0).i (D.str s).s.length) then
                   if (decide ((byteAt (D.str s).s (gd l3 0).i.toNat : Int) < 32)) then
                    ou 0 [(.bool true)]
                   else
                    ou 0 [(.bool (decide ((byteAt (D.str s).s (gd l3 0).i.toNat : Int) > 126)))]
                   else none).bind fun o4 =>
                 sel2 o4.1 (if (gd o4.2 0).b then
                  ou 1 [(D.str []), (.bool false)]
                  else
                   ou 0 [(.int (IntKind.wrap .i64 ((gd l3 0).i + 1)))]) fun _ => none
                else
                 ou 2 []) (l := [.int 0]) (fun i => [.int i]) s.length (fun i => q (s.getD i 0)) (t1 := 0) (t2 := 1) (o1 := [.str [], .bool false]) (o2 := []) rfl (by
   intro i hi
   rw [z0J hi]
   have hb : byteAt s i = (s[i]).toNat := z4l hi
   refine z04 (by simpa using hi) (z2Z (r := (0, [.bool !(q s[i])])) (z04 (by simpa using z0D hi) ?_) (sel0 ?_))
   ·simp only [z1G, D.i_int, Int.toNat_natCast, D.s_str, hb, q]
    by_cases hlo : ((s[i]).toNat : Int) < 32
    ·have : decide (32 ≤ (s[i]).toNat) = false := by simp; omega
     exact z04 (decide_eq_true hlo) (by rw [this]; rfl)
    ·have h1 : decide (32 ≤ (s[i]).toNat) = true := by simp; omega
     refine z00 (fun h => hlo (of_decide_eq_true h)) ?_
     have : decide (((s[i]).toNat : Int) > 126) = !(decide ((s[i]).toNat ≤ 126)) := by
      rw [Bool.eq_iff_iff]; simp; omega
     rw [h1, this]; rfl
   ·cases q s[i] with
    | true => simp [z0O hi hsm]
    | false => rfl) (by simp)
  rw [z5m s q 0] at hloop
  unfold zKL
  cases hq : s.all (fun c => decide (32 ≤ c.toNat) && decide (c.toNat ≤ 126)) with
  | false =>
    rw [show s.all q = false from hq] at hloop
    exact ⟨[], z03 e1 (z06 hj (z03 (by simp) (z03 e6 (z03 e15 (z0K rfl (z0N hloop (by simp)))))))⟩
  | true =>
    rw [show s.all q = true from hq] at hloop
    refine ⟨z0c [.int (IntKind.wrap .u8 (s.length : Int))] ++ s, z03 e1 (z06 hj (z03 (by simp) (z03 e6 (z03 e15 (z0K rfl (z0N hloop (z0K (z4c ?_) ?_)))))))⟩
    ·rw [D.s_str, hb1, List.length_singleton]; omega
    ·have : decide ((s.length : Int) ≤ 30) = decide (s.length ≤ 30) := by rw [Bool.eq_iff_iff]; simp; omega
     rw [D.s_str, this, Bool.and_true]; rfl
 rw [if_neg k16]
 have e16 : ¬ ((D.int k).i == 16) = true := by simpa using k16
 exact ⟨[], z03 e1 (z06 hj (z03 (by simp) (z03 e6 (z03 e15 (z03 e16 rfl)))))⟩
theorem zHR {k : Int} {s : List UInt8} (h : z3z k s = true) : s.length ≤ 100 := by
 have num_len : ∀ {s : List UInt8} {m : Int}, m < 10000000000 → z3M s m = true → s.length ≤ 10 := by
  intro s m hm h
  unfold z3M at h
  simp only [Bool.and_eq_true, decide_eq_true_eq] at h
  rw [(z88 s).1 h.1]
  exact zE1 (k := 10) (by omega) (by omega)
 have tgt_len : ∀ {s : List UInt8}, z4h s = true → s.length ≤ 60 := by
  intro s h
  unfold z4h z0p at h
  simp only [Bool.and_eq_true, decide_eq_true_eq] at h
  exact h.2.1.1
 unfold z3z at h
 split at h
 ·unfold z9o at h
  simp only [Bool.and_eq_true, List.all_eq_true, decide_eq_true_eq] at h
  have hs := z8R 46 s
  obtain ⟨hp, h4⟩ := h
  have hle : ∀ p ∈ splB 46 s, p.length ≤ 10 := fun p hpm => num_len (by decide) (hp p hpm)
  unfold lens at hs
  generalize splB 46 s = ps at hs hle h4
  match ps, h4 with
  | [a, b, c, d], _ =>
    have h1 := hle a (by simp)
    have h2 := hle b (by simp)
    have h3 := hle c (by simp)
    have h5 := hle d (by simp)
    simp at hs
    omega
 ·split at h
  ·have := tgt_len h; omega
  ·split at h
   ·have := num_len (by decide) h; omega
   ·split at h
    ·unfold mxOk at h
     have hs := z8R 32 s
     unfold lens at hs
     unfold mxP at h
     split at h
     ·rename_i a b hab
      rw [hab] at hs
      simp only [Bool.and_eq_true] at h
      have h1 := num_len (by decide) h.1
      have h2 := tgt_len h.2
      simp at hs
      omega
     ·cases h
    ·split at h
     ·unfold zKL at h
      simp only [Bool.and_eq_true, decide_eq_true_eq] at h
      omega
     ·cases h
end Go.Proofs.YtkogmjbmbpcbeaaGreatDoor
namespace Go.Proofs.YtkogmjbmbpcbeaaGreatDoor
open Go Go.Own
theorem bytesStr_one (n : Nat) : z0c [.int (n : Int)] = [UInt8.ofNat n] := by
 simp only [z0c, List.map_cons, List.map_nil, D.i_int, Int.toNat_natCast]
structure Rec where
 name : List UInt8
 type : Int
 ttl : Int
 data : List UInt8
def Rec.d (r : Rec) : D := .pair (.str r.name) (.pair (.int r.type) (.pair (.int r.ttl) (.pair (.str r.data) .unit)))
structure Rec.In (B : Nat) (r : Rec) : Prop where
 name : r.name.length ≤ B
 data : r.data.length ≤ B
def inP (n lo hi : Int) : Bool := decide (lo ≤ n) && decide (n ≤ hi)
def Rec.ok (r : Rec) : Bool := z3z r.type r.data && (z0p r.name && inP r.ttl 0 100000)
theorem z5T (a b c : Int) : z0W.F [.int a, .int b, .int c] = some (.bool (inP a b c)) := zAq a b c
theorem z94 (a b c : Int) : z0X.F [.int a, .int b, .int c] = some (.bool (inP a b c)) := z8D a b c
theorem zJ9 {r : Rec} (hr : r.In lim) : z2c.F [r.d] = some (.bool r.ok) := by
 rw [z9b]
 have f0 : r.d.fld 0 = .str r.name := rfl
 have f1 : r.d.fld 1 = .int r.type := rfl
 have f2 : r.d.fld 2 = .int r.ttl := rfl
 have f3 : r.d.fld 3 = .str r.data := rfl
 rw [f0, f1, f2, f3]
 have hn := z70 r.name
 have hw := z5T r.ttl 0 100000
 obtain ⟨b, hd⟩ := zLI (k := r.type) hr.data
 unfold Rec.ok
 cases h1 : z0p r.name with
 | false =>
   rw [h1] at hn
   refine z06 (l := [.bool true]) (z01 hn (z04 rfl rfl)) (z0K rfl ?_)
   simp
 | true =>
   rw [h1] at hn
   cases h2 : inP r.ttl 0 100000 with
   | false =>
     rw [h2] at hw
     refine z06 (l := [.bool true]) (z01 hn (z00 (by simp) (z01 hw (z04 rfl rfl)))) (z0K rfl ?_)
     simp
   | true =>
     rw [h2] at hw
     by_cases h100 : (r.data.length : Int) > 100
     ·refine z06 (l := [.bool true]) (z01 hn (z00 (by simp) (z01 hw (z00 (by simp) ?_)))) (z0K rfl ?_)
      ·rw [D.s_str, decide_eq_true h100]
      ·cases h3 : z3z r.type r.data with
       | false => rfl
       | true => have := zHR h3; omega
     ·refine z06 (l := [.bool false]) (z01 hn (z00 (by simp) (z01 hw (z00 (by simp) ?_)))) (z03 (by simp) (z02 hd ?_))
      ·rw [D.s_str, decide_eq_false h100]
      ·simp
theorem zID {r : Rec} (hr : r.In lim) : z2h.F [r.d] = some (.bool r.ok) := by
 rw [z9f]
 have f0 : r.d.fld 0 = .str r.name := rfl
 have f1 : r.d.fld 1 = .int r.type := rfl
 have f2 : r.d.fld 2 = .int r.ttl := rfl
 have f3 : r.d.fld 3 = .str r.data := rfl
 rw [f0, f1, f2, f3]
 have hn := z5K r.name hr.name
 have hw := z94 r.ttl 0 100000
 obtain ⟨b, hd⟩ := f_l3 (k := r.type) hr.data
 unfold Rec.ok
 refine z02 hd (z06 (l := [.bool (z3z r.type r.data && (z0p r.name && inP r.ttl 0 100000))]) ?_ rfl)
 cases h1 : z3z r.type r.data with
 | false => exact z00 (by simp) rfl
 | true =>
   refine z04 rfl ?_
   cases h2 : z0p r.name with
   | false => rw [h2] at hn; exact z01 hn (z00 (by simp) rfl)
   | true => rw [h2] at hn; exact z01 hn (z04 rfl (z01 hw (by simp)))
def told (s : List UInt8) : List UInt8 := if s.isEmpty then [46] else s
def Rec.text (r : Rec) : List UInt8 := (((((told r.name ++ [32]) ++ Lib.itoa r.ttl) ++ [32]) ++ Lib.itoa r.type) ++ [32]) ++ r.data
theorem zMa {r : Rec} (h : r.ok = true) : 0 ≤ r.type ∧ r.type ≤ 16 := by
 unfold Rec.ok z3z at h
 simp only [Bool.and_eq_true] at h
 have h1 := h.1
 split at h1
 ·omega
 ·split at h1
  ·omega
  ·split at h1
   ·omega
   ·split at h1
    ·omega
    ·split at h1
     ·omega
     ·cases h1
structure Rec.Sizes (r : Rec) : Prop where
 name : (told r.name).length ≤ 60
 data : r.data.length ≤ 100
 t0 : 0 ≤ r.ttl
 t1 : r.ttl < 10 ^ 18
 k0 : 0 ≤ r.type
 k1 : r.type < 10 ^ 18
theorem Rec.sizes {r : Rec} (h : r.ok = true) : r.Sizes := by
 have hp18 : (10 : Int) ^ 18 = 1000000000000000000 := by decide
 have ht := zMa h
 unfold Rec.ok at h
 simp only [Bool.and_eq_true, inP, decide_eq_true_eq] at h
 have hn := h.2.1
 unfold z0p at hn
 simp only [Bool.and_eq_true, decide_eq_true_eq] at hn
 refine ⟨?_, zHR h.1, by omega, by omega, by omega, by omega⟩
 unfold told
 split
 ·simp
 ·exact hn.1
theorem Rec.text_len {r : Rec} (h : r.Sizes) : r.text.length ≤ 200 := by
 have h1 := zEN h.t0 h.t1
 have h2 := zEN h.k0 h.k1
 have h3 := h.name
 have h4 := h.data
 simp only [Rec.text, List.length_append, List.length_singleton]
 omega
theorem cat_s {a b : List UInt8} (h : a.length + b.length ≤ 100000) : catOk a b = true := by
 unfold catOk
 rw [z19]
 exact decide_eq_true (by omega)
end Go.Proofs.YtkogmjbmbpcbeaaGreatDoor
