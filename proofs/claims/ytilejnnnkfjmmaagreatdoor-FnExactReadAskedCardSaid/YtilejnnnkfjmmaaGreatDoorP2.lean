/- What the functions compute, in plain words. -/
import Derived.Test.YtilejnnnkfjmmaaGreatDoorP1
set_option linter.unusedSectionVars false
set_option linter.unusedVariables false
set_option linter.unusedSimpArgs false
namespace Go.Proofs.YtilejnnnkfjmmaaGreatDoor
open Go Go.Own
theorem z0V {o : Outc} {l : List D} {A : Nat × List D → Outc} {B : Nat × List D → Nat → Outc} {R : Option D} (h : o = some (0, l)) (hk : rn (A (0, l)) = R) : rn (o.bind fun o => sel2 o.1 (A o) (B o)) = R := by
 rw [h]; exact hk
theorem zMe (n : Int) : z2I.F [.int n] = some (.bool !(decide (32 ≤ n) && decide (n ≤ 126))) := by
 rw [zAD]
 by_cases h : n < 32
 ·have : decide (32 ≤ n) = false := by simp; omega
  simp [h, this]
 ·have h1 : decide (32 ≤ n) = true := by simp; omega
  by_cases h2 : n > 126
  ·have : decide (n ≤ 126) = false := by simp; omega
   simp [h, h1, h2, this]
  ·have : decide (n ≤ 126) = true := by simp; omega
   simp [h, h1, h2, this]
theorem zIz {s : List UInt8} {i : Nat} (hi : i < s.length) : gd (s.map fun c => D.int c.toNat) i = .int (s[i]).toNat := by
 rw [zGw (by simpa using hi)]; simp
theorem zI8 {s : List UInt8} (u : D) (hl : s.length ≤ smax) : z0M.F [.lst (s.map fun c => D.int c.toNat), u] = some (.bool !(s.all (fun c => decide (32 ≤ c.toNat) && decide (c.toNat ≤ 126)))) := by
 rw [z2i]
 let q : UInt8 → Bool := fun c => decide (32 ≤ c.toNat) && decide (c.toNat ≤ 126)
 have key : ∃ r, z0U.F [.lst (s.map fun c => D.int c.toNat), u] = some r ∧ ∃ n : Int, r = .int n ∧ decide (n ≥ 0) = !(s.all q) := by
  rw [z33]
  have hp : ∀ i (hi : i < s.length), z2I.F [.int (s[i]).toNat] = some (.bool !(q s[i])) := fun i hi => by
   rw [zMe]
   have : (decide ((32 : Int) ≤ (s[i]).toNat) && decide (((s[i]).toNat : Int) ≤ 126)) = q s[i] := by
    simp only [q]
    rw [Bool.eq_iff_iff]; simp; omega
   rw [this]
  refine zIF (fun i => [.int i]) s.length (fun i => q (s.getD i 0)) (t1 := 0) (t2 := 1) (o1 := fun i => [.int i]) (o2 := []) rfl ?_ ?_ ?_ ?_ ?_
  ·intro i hi h
   rw [z5n hi] at h
   have := hp i hi
   rw [h] at this
   simp [hi, z1L hi, z1B hi hl, zIz hi, this]
  ·intro i hi h
   rw [z5n hi] at h
   have := hp i hi
   rw [h] at this
   simp [hi, z1L hi, zIz hi, this]
  ·simp
  ·intro hall
   refine ⟨_, rfl, -1, rfl, ?_⟩
   have : s.all q = true := by
    rw [← z6O s q 0, z4N]; exact hall
   rw [this]; rfl
  ·intro j hj hp' _
   refine ⟨_, rfl, j, rfl, ?_⟩
   have : s.all q = false := by
    rw [← z6O s q 0]; exact z6p hj hp'
   rw [this]; simp
 obtain ⟨r, h1, n, rfl, h2⟩ := key
 refine z0E h1 ?_
 show some (D.bool (decide (n ≥ 0))) = some (D.bool !(s.all q))
 rw [h2]
theorem zN2 {k : Int} {s : List UInt8} (h : s.length ≤ lim) : ∃ b : List UInt8, z1f.F [.int k, .str s] = some (.pair (.str b) (.pair (.bool (z6Q k s)) .unit)) := by
 have hlim : lim = 1048576 := rfl
 unfold z6Q
 by_cases k1 : k = 1
 ·subst k1; rw [if_pos rfl]; exact zMf h
 rw [if_neg k1, z7d]
 have e1 : ¬ ((D.int k).i == 1) = true := by simpa using k1
 by_cases k25 : k = 2 ∨ k = 5
 ·rw [if_pos k25]
  have ht := zF0 h
  have hj : (if (D.int k).i == 2 then ou 0 [.bool ((D.int k).i == 2)] else ou 0 [.bool ((D.int k).i == 5)] : Outc) = some (0, [.bool true]) := by
   rcases k25 with rfl | rfl <;> rfl
  cases hq : z64 s with
  | false =>
    rw [hq] at ht
    exact ⟨[], z0C e1 (z0V hj (z0p rfl (z0E ht (z0p rfl rfl))))⟩
  | true =>
    rw [hq] at ht
    obtain ⟨b, hb, hlb⟩ := zBU h
    exact ⟨b ++ [0], z0C e1 (z0V hj (z0p rfl (z0E ht (z0C (by simp) (z0E hlb (z0p (z9b (by simp; omega)) rfl))))))⟩
 rw [if_neg k25]
 have hj : (if (D.int k).i == 2 then ou 0 [.bool ((D.int k).i == 2)] else ou 0 [.bool ((D.int k).i == 5)] : Outc) = some (0, [.bool false]) := by
  have h2 : ¬ k = 2 := fun h => k25 (.inl h)
  have h5 : ¬ k = 5 := fun h => k25 (.inr h)
  simp [h2, h5]
 by_cases k6 : k = 6
 ·rw [if_pos k6]; subst k6
  obtain ⟨v, hn, _⟩ := zAT (s := s) (m := 4294967295) h (by decide)
  cases hq : z3x s 4294967295 with
  | false =>
    rw [hq] at hn
    exact ⟨[], z0C e1 (z0V hj (z0C (by simp) (z0p rfl (z0E hn (z0p rfl rfl)))))⟩
  | true =>
    rw [hq] at hn
    obtain ⟨b, _, hb⟩ := zMd (c := 4) (by omega) v
    exact ⟨b, z0C e1 (z0V hj (z0C (by simp) (z0p rfl (z0E hn (z0C (by simp) (z0E hb rfl))))))⟩
 rw [if_neg k6]
 have e6 : ¬ ((D.int k).i == 6) = true := by simpa using k6
 by_cases k15 : k = 15
 ·rw [if_pos k15]; subst k15
  rw [zNF]
  have hc := zLl h
  have hle := zKF s [32]
  generalize hcut : Lib.cut s [32] = c at hc hle
  obtain ⟨a, q, f⟩ := c
  simp only at hle ⊢
  have f0 : (cutD (a, q, f)).fld 0 = .str a := rfl
  have f1 : (cutD (a, q, f)).fld 1 = .str q := rfl
  obtain ⟨v, hn, _⟩ := zAT (s := a) (m := 65535) (by omega) (by decide)
  have ht := zF0 (s := q) (by omega)
  cases hq : z3x a 65535 && z64 q with
  | false =>
    refine ⟨[], z0C e1 (z0V hj (z0C (by simp) (z0C e6 (z0p rfl (z0E hc ?_)))))⟩
    rw [f0, f1]
    refine z0E hn (z0V (l := [.bool true]) ?_ (z0p rfl rfl))
    cases hna : z3x a 65535 with
    | false => exact z08 rfl rfl
    | true =>
      rw [hna, Bool.true_and] at hq
      rw [hq] at ht
      exact z07 (by simp) (z04 ht rfl)
  | true =>
    simp only [Bool.and_eq_true] at hq
    rw [hq.1] at hn
    rw [hq.2] at ht
    obtain ⟨b, hbl, hb⟩ := zMd (c := 2) (by omega) v
    obtain ⟨b2, hb2, hlb⟩ := zBU (s := q) (by omega)
    refine ⟨b ++ b2 ++ [0], z0C e1 (z0V hj (z0C (by simp) (z0C e6 (z0p rfl (z0E hc ?_)))))⟩
    rw [f0, f1]
    exact z0E hn (z0V (l := [.bool false]) (z07 (by simp) (z04 ht rfl)) (z0C (by simp) (z0E hb (z0E hlb (z0p (z9b (by simp only [D.s_str]; omega)) (z0p (z9b (by simp; omega)) rfl))))))
 rw [if_neg k15]
 have e15 : ¬ ((D.int k).i == 15) = true := by simpa using k15
 by_cases k16 : k = 16
 ·rw [if_pos k16]; subst k16
  have hc := zI8 (s := s) .unit (Nat.le_trans h z7L)
  unfold zLX
  by_cases h30 : s.length ≤ 30
  ·have e30 : decide (s.length ≤ 30) = true := by simpa using h30
   rw [e30, Bool.true_and]
   cases hq : s.all (fun c => decide (32 ≤ c.toNat) && decide (c.toNat ≤ 126)) with
   | false =>
     rw [hq] at hc
     exact ⟨[], z0C e1 (z0V hj (z0C (by simp) (z0C e6 (z0C e15 (z0p rfl (z0V (l := [.bool true]) (z07 (fun h => by have h' : (s.length : Int) > 30 := of_decide_eq_true h; omega) (z04 hc rfl)) (z0p rfl rfl)))))))⟩
   | true =>
     rw [hq] at hc
     obtain ⟨b, hbl, hb⟩ := zMd (c := 1) (by omega) s.length
     exact ⟨b ++ s, z0C e1 (z0V hj (z0C (by simp) (z0C e6 (z0C e15 (z0p rfl (z0V (l := [.bool false]) (z07 (fun h => by have h' : (s.length : Int) > 30 := of_decide_eq_true h; omega) (z04 hc rfl)) (z0C (by simp) (z0E hb (z0p (z9b (by simp only [D.s_str]; omega)) rfl)))))))))⟩
  ·have e30 : decide (s.length ≤ 30) = false := by simpa using h30
   rw [e30, Bool.false_and]
   exact ⟨[], z0C e1 (z0V hj (z0C (by simp) (z0C e6 (z0C e15 (z0p rfl (z0V (l := [.bool true]) (z08 (decide_eq_true (show (s.length : Int) > 30 by omega)) rfl) (z0p rfl rfl)))))))⟩
 rw [if_neg k16]
 have e16 : ¬ ((D.int k).i == 16) = true := by simpa using k16
 exact ⟨[], z0C e1 (z0V hj (z0C (by simp) (z0C e6 (z0C e15 (z0C e16 rfl)))))⟩
theorem f_l3 {k : Int} {s : List UInt8} (h : s.length ≤ lim) : ∃ b : List UInt8, z25.F [.int k, .str s] = some (.pair (.str b) (.pair (.bool (z6Q k s)) .unit)) := by
 have hlim : lim = 1048576 := rfl
 unfold z6Q
 by_cases k1 : k = 1
 ·subst k1; rw [if_pos rfl]; exact zNQ h
 rw [if_neg k1, z92]
 have e1 : ¬ ((D.int k).i == 1) = true := by simpa using k1
 by_cases k25 : k = 2 ∨ k = 5
 ·rw [if_pos k25]
  have ht := zF3 h
  have hj : (if (D.int k).i == 2 then ou 0 [.bool ((D.int k).i == 2)] else ou 0 [.bool ((D.int k).i == 5)] : Outc) = some (0, [.bool true]) := by
   rcases k25 with rfl | rfl <;> rfl
  cases hq : z64 s with
  | false =>
    rw [hq] at ht
    exact ⟨[], z0C e1 (z0V hj (z0p rfl (z0E ht (z0p rfl rfl))))⟩
  | true =>
    rw [hq] at ht
    have hn : z1q s = true := by unfold z64 at hq; simp only [Bool.and_eq_true] at hq; exact hq.2.1
    obtain ⟨b, hb, hlb⟩ := zGq h hn
    exact ⟨b, z0C e1 (z0V hj (z0p rfl (z0E ht (z0C (by simp) (z0E hlb rfl)))))⟩
 rw [if_neg k25]
 have hj : (if (D.int k).i == 2 then ou 0 [.bool ((D.int k).i == 2)] else ou 0 [.bool ((D.int k).i == 5)] : Outc) = some (0, [.bool false]) := by
  have h2 : ¬ k = 2 := fun h => k25 (.inl h)
  have h5 : ¬ k = 5 := fun h => k25 (.inr h)
  simp [h2, h5]
 by_cases k6 : k = 6
 ·rw [if_pos k6]; subst k6
  have hn := z7r h
  have hin := zF1 (z2E s) 0 4294967295
  rw [zJ2 (by decide)] at hin
  obtain ⟨b, _, hb⟩ := zF2 (c := 4) (by omega) (z2E s)
  exact ⟨b, z0C e1 (z0V hj (z0C (by simp) (z0p rfl (z0E hn (z0E hb (z0E hin rfl))))))⟩
 rw [if_neg k6]
 have e6 : ¬ ((D.int k).i == 6) = true := by simpa using k6
 by_cases k15 : k = 15
 ·rw [if_pos k15]; subst k15
  have hsp := z6v s 32 h
  have hpm := z69 32 s
  unfold mxOk
  generalize splB 32 s = ps at hsp hpm
  have hlen : (D.lst (ps.map D.str)).l.length = ps.length := by simp
  by_cases h2 : ps.length = 2
  ·match ps, h2 with
   | [a, q], _ =>
     have hla := hpm a (by simp)
     have hlq := hpm q (by simp)
     have hn := z7r (s := a) (by omega)
     have hin := zF1 (z2E a) 0 65535
     rw [zJ2 (by decide)] at hin
     have ht := zF3 (s := q) (by omega)
     show ∃ b : List UInt8, _ = some (D.pair (.str b) (.pair (.bool (z3x a 65535 && z64 q)) .unit))
     cases hq : z3x a 65535 && z64 q with
     | false =>
       refine ⟨[], z0C e1 (z0V hj (z0C (by simp) (z0C e6 (z0p rfl (z0E hsp (z0V (l := [.bool true]) (z07 (by simp) (z08 rfl (z04 hn (z04 hin ?_)))) (z0p rfl rfl)))))))⟩
       cases hna : z3x a 65535 with
       | false => exact z08 rfl rfl
       | true =>
         rw [hna, Bool.true_and] at hq
         rw [hq] at ht
         exact z07 (by simp) (z08 rfl (z04 ht rfl))
     | true =>
       simp only [Bool.and_eq_true] at hq
       rw [hq.1] at hin
       rw [hq.2] at ht
       have hnq : z1q q = true := by have := hq.2; unfold z64 at this; simp only [Bool.and_eq_true] at this; exact this.2.1
       obtain ⟨b, hbl, hb⟩ := zF2 (c := 2) (by omega) (z2E a)
       obtain ⟨b2, hb2, hlb⟩ := zGq (s := q) (by omega) hnq
       exact ⟨b ++ b2, z0C e1 (z0V hj (z0C (by simp) (z0C e6 (z0p rfl (z0E hsp (z0V (l := [.bool false]) (z07 (by simp) (z08 rfl (z04 hn (z04 hin (z07 (by simp) (z08 rfl (z04 ht rfl))))))) (z0C (by simp) (z0p rfl (z0E hn (z0E hb (z0p rfl (z0E hlb (z0p (z9b (by simp only [D.s_str]; omega)) rfl)))))))))))))⟩
  ·have hm : mxP ps = false := by
    match ps, h2 with
    | [], _ => rfl
    | [_], _ => rfl
    | [_, _], h2 => exact absurd rfl h2
    | _ :: _ :: _ :: _, _ => rfl
   rw [hm]
   refine ⟨[], z0C e1 (z0V hj (z0C (by simp) (z0C e6 (z0p rfl (z0E hsp (z0V (l := [.bool true]) (z08 ?_ rfl) (z0p rfl rfl)))))))⟩
   rw [hlen]; simp; omega
 rw [if_neg k15]
 have e15 : ¬ ((D.int k).i == 15) = true := by simpa using k15
 by_cases k16 : k = 16
 ·rw [if_pos k16]; subst k16
  have hsm := Nat.le_trans h z7L
  let q : UInt8 → Bool := fun c => decide (32 ≤ c.toNat) && decide (c.toNat ≤ 126)
  have hb1 := z1N [.int (IntKind.wrap .u8 (s.length : Int))]
  have hloop := z9v (f := fun l3 =>
                if (decide ((gd l3 0).i < ((D.str s).s.length : Int))) then
                 (if (inb (gd l3 0).i (D.str s).s.length) then
                   if (decide ((byteAt (D.str s).s (gd l3 0).i.toNat : Int) < 32)) then
                    ou 0 [(.bool true)]
                   else
                    ou 0 [(.bool (decide ((byteAt (D.str s).s (gd l3 0).i.toNat : Int) > 126)))]
                   else none).bind fun o4 =>
                 sel2 o4.1 (if (gd o4.2 0).b then
                  ou 1 [(D.str []), (.bool false)]
                  else
                   ou 0 [(.int (IntKind.wrap .i64 ((gd l3 0).i + 1)))]) fun _ => none
                else
                 ou 2 []) (l := [.int 0]) (fun i => [.int i]) s.length (fun i => q (s.getD i 0)) (t1 := 0) (t2 := 1) (o1 := [.str [], .bool false]) (o2 := []) rfl (by
   intro i hi
   rw [z5n hi]
   have hb : byteAt s i = (s[i]).toNat := z6r hi
   refine z08 (by simpa using hi) (z67 (r := (0, [.bool !(q s[i])])) (z08 (by simpa using z1L hi) ?_) (sel0 ?_))
   ·simp only [z2x, D.i_int, Int.toNat_natCast, D.s_str, hb, q]
    by_cases hlo : ((s[i]).toNat : Int) < 32
    ·have : decide (32 ≤ (s[i]).toNat) = false := by simp; omega
     exact z08 (decide_eq_true hlo) (by rw [this]; rfl)
    ·have h1 : decide (32 ≤ (s[i]).toNat) = true := by simp; omega
     refine z07 (fun h => hlo (of_decide_eq_true h)) ?_
     have : decide (((s[i]).toNat : Int) > 126) = !(decide ((s[i]).toNat ≤ 126)) := by
      rw [Bool.eq_iff_iff]; simp; omega
     rw [h1, this]; rfl
   ·cases q s[i] with
    | true => simp [z1B hi hsm]
    | false => rfl) (by simp)
  rw [z6O s q 0] at hloop
  unfold zLX
  cases hq : s.all (fun c => decide (32 ≤ c.toNat) && decide (c.toNat ≤ 126)) with
  | false =>
    rw [show s.all q = false from hq] at hloop
    exact ⟨[], z0C e1 (z0V hj (z0C (by simp) (z0C e6 (z0C e15 (z0p rfl (z1M hloop (by simp)))))))⟩
  | true =>
    rw [show s.all q = true from hq] at hloop
    refine ⟨z0i [.int (IntKind.wrap .u8 (s.length : Int))] ++ s, z0C e1 (z0V hj (z0C (by simp) (z0C e6 (z0C e15 (z0p rfl (z1M hloop (z0p (z9b ?_) ?_)))))))⟩
    ·rw [D.s_str, hb1, List.length_singleton]; omega
    ·have : decide ((s.length : Int) ≤ 30) = decide (s.length ≤ 30) := by rw [Bool.eq_iff_iff]; simp; omega
     rw [D.s_str, this, Bool.and_true]; rfl
 rw [if_neg k16]
 have e16 : ¬ ((D.int k).i == 16) = true := by simpa using k16
 exact ⟨[], z0C e1 (z0V hj (z0C (by simp) (z0C e6 (z0C e15 (z0C e16 rfl)))))⟩
theorem zIt {k : Int} {s : List UInt8} (h : z6Q k s = true) : s.length ≤ 100 := by
 have num_len : ∀ {s : List UInt8} {m : Int}, m < 10000000000 → z3x s m = true → s.length ≤ 10 := by
  intro s m hm h
  unfold z3x at h
  simp only [Bool.and_eq_true, decide_eq_true_eq] at h
  rw [(z7k s).1 h.1]
  exact zAS (k := 10) (by omega) (by omega)
 have tgt_len : ∀ {s : List UInt8}, z64 s = true → s.length ≤ 60 := by
  intro s h
  unfold z64 z1q at h
  simp only [Bool.and_eq_true, decide_eq_true_eq] at h
  exact h.2.1.1
 unfold z6Q at h
 split at h
 ·unfold zCc at h
  simp only [Bool.and_eq_true, List.all_eq_true, decide_eq_true_eq] at h
  have hs := z7x 46 s
  obtain ⟨hp, h4⟩ := h
  have hle : ∀ p ∈ splB 46 s, p.length ≤ 10 := fun p hpm => num_len (by decide) (hp p hpm)
  unfold lens at hs
  generalize splB 46 s = ps at hs hle h4
  match ps, h4 with
  | [a, b, c, d], _ =>
    have h1 := hle a (by simp)
    have h2 := hle b (by simp)
    have h3 := hle c (by simp)
    have h5 := hle d (by simp)
    simp at hs
    omega
 ·split at h
  ·have := tgt_len h; omega
  ·split at h
   ·have := num_len (by decide) h; omega
   ·split at h
    ·unfold mxOk at h
     have hs := z7x 32 s
     unfold lens at hs
     unfold mxP at h
     split at h
     ·rename_i a b hab
      rw [hab] at hs
      simp only [Bool.and_eq_true] at h
      have h1 := num_len (by decide) h.1
      have h2 := tgt_len h.2
      simp at hs
      omega
     ·cases h
    ·split at h
     ·unfold zLX at h
      simp only [Bool.and_eq_true, decide_eq_true_eq] at h
      omega
     ·cases h
end Go.Proofs.YtilejnnnkfjmmaaGreatDoor
namespace Go.Proofs.YtilejnnnkfjmmaaGreatDoor
open Go Go.Own
theorem zBR (n : Nat) : z0i [.int (n : Int)] = [UInt8.ofNat n] := by
 simp only [z0i, List.map_cons, List.map_nil, D.i_int, Int.toNat_natCast]
theorem zIx : ∀ (k u : Nat), u < 10 ^ (k + 1) → u < 10 ^ 18 → z3h (k + 1) [.int u] = some (.str (Lib.decDigits u))
 | k, u, h, h18 => by
   have hp18 : (10 : Nat) ^ 18 = 1000000000000000000 := by decide
   rw [zHU]
   by_cases hu : u < 10
   ·refine z0p (decide_eq_true (show (u : Int) < 10 by omega)) ?_
    rw [Lib.decDigits_one hu]
    have w1 : IntKind.wrap .i64 (48 + (u : Int)) = ((48 + u : Nat) : Int) := by rw [z2G] <;> omega
    have w2 : IntKind.wrap .u8 ((48 + u : Nat) : Int) = ((48 + u : Nat) : Int) := by
     have : IntKind.wrap .u8 ((48 + u : Nat) : Int) = ((48 + u : Nat) : Int) % 256 := by simp [IntKind.wrap, IntKind.bits, IntKind.signed]
     rw [this]; omega
    simp only [D.i_int, w1, w2, zBR]
    rfl
   ·match k, h with
    | 0, h => exact absurd (show u < 10 by simpa using h) hu
    | k + 1, h =>
      have hd : (u : Int).tdiv 10 = ((u / 10 : Nat) : Int) := by rw [Int.tdiv_eq_ediv_of_nonneg (by omega)]; simp
      have hm : (u : Int).tmod 10 = ((u % 10 : Nat) : Int) := by rw [Int.tmod_eq_emod_of_nonneg (by omega)]; simp
      have w0 : IntKind.wrap .i64 ((u / 10 : Nat) : Int) = ((u / 10 : Nat) : Int) := by rw [z2G] <;> omega
      have hpk : (10 : Nat) ^ (k + 1 + 1) = 10 ^ (k + 1) * 10 := Nat.pow_succ 10 (k + 1)
      have ih := zIx k (u / 10) (by omega) (by omega)
      have w1 : IntKind.wrap .i64 (48 + ((u % 10 : Nat) : Int)) = ((48 + u % 10 : Nat) : Int) := by rw [z2G] <;> omega
      have w2 : IntKind.wrap .u8 ((48 + u % 10 : Nat) : Int) = ((48 + u % 10 : Nat) : Int) := by
       have : IntKind.wrap .u8 ((48 + u % 10 : Nat) : Int) = ((48 + u % 10 : Nat) : Int) % 256 := by simp [IntKind.wrap, IntKind.bits, IntKind.signed]
       rw [this]; omega
      have hlen := zAS (k := 18) (u := u / 10) (by omega) (by omega)
      refine z0C (fun h => by have h' : (u : Int) < 10 := of_decide_eq_true h; omega) (z0p (by decide) ?_)
      simp only [D.i_int, hd, hm, w0, w1, w2, zBR]
      refine z0E ih (z0p ?_ ?_)
      ·simp [catOk, z1d]; omega
      ·rw [z3k hu]; rfl
theorem zKS {v : Int} (h0 : 0 ≤ v) (h1 : v < 10 ^ 18) : z1E.F [.int v] = some (.str (Lib.itoa v)) := by
 obtain ⟨u, rfl⟩ := Int.eq_ofNat_of_zero_le h0
 rw [z65]
 have h18 : u < 10 ^ 18 := by exact_mod_cast h1
 exact zIx 39 u (Nat.lt_of_lt_of_le h18 (Nat.pow_le_pow_right (by omega) (by omega))) h18
structure Rec where
 name : List UInt8
 type : Int
 ttl : Int
 data : List UInt8
def Rec.d (r : Rec) : D := .pair (.str r.name) (.pair (.int r.type) (.pair (.int r.ttl) (.pair (.str r.data) .unit)))
structure Rec.In (B : Nat) (r : Rec) : Prop where
 name : r.name.length ≤ B
 data : r.data.length ≤ B
def inP (n lo hi : Int) : Bool := decide (lo ≤ n) && decide (n ≤ hi)
def Rec.ok (r : Rec) : Bool := z6Q r.type r.data && (z1q r.name && inP r.ttl 0 100000)
theorem z9e (a b c : Int) : z0Y.F [.int a, .int b, .int c] = some (.bool (inP a b c)) := zCV a b c
theorem zFh (a b c : Int) : z0X.F [.int a, .int b, .int c] = some (.bool (inP a b c)) := zF1 a b c
theorem zGp {r : Rec} (hr : r.In lim) : z19.F [r.d] = some (.bool r.ok) := by
 rw [zBC]
 have f0 : r.d.fld 0 = .str r.name := rfl
 have f1 : r.d.fld 1 = .int r.type := rfl
 have f2 : r.d.fld 2 = .int r.ttl := rfl
 have f3 : r.d.fld 3 = .str r.data := rfl
 rw [f0, f1, f2, f3]
 have hn := zEx r.name
 have hw := z9e r.ttl 0 100000
 obtain ⟨b, hd⟩ := zN2 (k := r.type) hr.data
 unfold Rec.ok
 cases h1 : z1q r.name with
 | false =>
   rw [h1] at hn
   refine z0V (l := [.bool true]) (z04 hn (z08 rfl rfl)) (z0p rfl ?_)
   simp
 | true =>
   rw [h1] at hn
   cases h2 : inP r.ttl 0 100000 with
   | false =>
     rw [h2] at hw
     refine z0V (l := [.bool true]) (z04 hn (z07 (by simp) (z04 hw (z08 rfl rfl)))) (z0p rfl ?_)
     simp
   | true =>
     rw [h2] at hw
     by_cases h100 : (r.data.length : Int) > 100
     ·refine z0V (l := [.bool true]) (z04 hn (z07 (by simp) (z04 hw (z07 (by simp) ?_)))) (z0p rfl ?_)
      ·rw [D.s_str, decide_eq_true h100]
      ·cases h3 : z6Q r.type r.data with
       | false => rfl
       | true => have := zIt h3; omega
     ·refine z0V (l := [.bool false]) (z04 hn (z07 (by simp) (z04 hw (z07 (by simp) ?_)))) (z0C (by simp) (z0E hd ?_))
      ·rw [D.s_str, decide_eq_false h100]
      ·simp
theorem zEz {r : Rec} (hr : r.In lim) : z1A.F [r.d] = some (.bool r.ok) := by
 rw [zBH]
 have f0 : r.d.fld 0 = .str r.name := rfl
 have f1 : r.d.fld 1 = .int r.type := rfl
 have f2 : r.d.fld 2 = .int r.ttl := rfl
 have f3 : r.d.fld 3 = .str r.data := rfl
 rw [f0, f1, f2, f3]
 have hn := zEI r.name hr.name
 have hw := zFh r.ttl 0 100000
 obtain ⟨b, hd⟩ := f_l3 (k := r.type) hr.data
 unfold Rec.ok
 refine z0E hd (z0V (l := [.bool (z6Q r.type r.data && (z1q r.name && inP r.ttl 0 100000))]) ?_ rfl)
 cases h1 : z6Q r.type r.data with
 | false => exact z07 (by simp) rfl
 | true =>
   refine z08 rfl ?_
   cases h2 : z1q r.name with
   | false => rw [h2] at hn; exact z04 hn (z07 (by simp) rfl)
   | true => rw [h2] at hn; exact z04 hn (z08 rfl (z04 hw (by simp)))
def told (s : List UInt8) : List UInt8 := if s.isEmpty then [46] else s
def Rec.text (r : Rec) : List UInt8 := (((((told r.name ++ [32]) ++ Lib.itoa r.ttl) ++ [32]) ++ Lib.itoa r.type) ++ [32]) ++ r.data
theorem zBf {r : Rec} (h : r.ok = true) : 0 ≤ r.type ∧ r.type ≤ 16 := by
 unfold Rec.ok z6Q at h
 simp only [Bool.and_eq_true] at h
 have h1 := h.1
 split at h1
 ·omega
 ·split at h1
  ·omega
  ·split at h1
   ·omega
   ·split at h1
    ·omega
    ·split at h1
     ·omega
     ·cases h1
structure Rec.Sizes (r : Rec) : Prop where
 name : (told r.name).length ≤ 60
 data : r.data.length ≤ 100
 t0 : 0 ≤ r.ttl
 t1 : r.ttl < 10 ^ 18
 k0 : 0 ≤ r.type
 k1 : r.type < 10 ^ 18
theorem Rec.sizes {r : Rec} (h : r.ok = true) : r.Sizes := by
 have hp18 : (10 : Int) ^ 18 = 1000000000000000000 := by decide
 have ht := zBf h
 unfold Rec.ok at h
 simp only [Bool.and_eq_true, inP, decide_eq_true_eq] at h
 have hn := h.2.1
 unfold z1q at hn
 simp only [Bool.and_eq_true, decide_eq_true_eq] at hn
 refine ⟨?_, zIt h.1, by omega, by omega, by omega, by omega⟩
 unfold told
 split
 ·simp
 ·exact hn.1
theorem Rec.text_len {r : Rec} (h : r.Sizes) : r.text.length ≤ 200 := by
 have h1 := z3A h.t0 h.t1
 have h2 := z3A h.k0 h.k1
 have h3 := h.name
 have h4 := h.data
 simp only [Rec.text, List.length_append, List.length_singleton]
 omega
theorem z5y {a b : List UInt8} (h : a.length + b.length ≤ 100000) : catOk a b = true := by
 unfold catOk
 rw [z1d]
 exact decide_eq_true (by omega)
theorem zN3 (s : List UInt8) : z6E.F [.str s] = some (.str (told s)) := by
 rw [zIT]
 unfold told
 cases s with
 | nil => rfl
 | cons c s => exact z0C (by simp) rfl
theorem zBV {r : Rec} (h : r.Sizes) : z1y.F [r.d] = some (.str r.text) := by
 rw [zBG]
 have f0 : r.d.fld 0 = .str r.name := rfl
 have f1 : r.d.fld 1 = .int r.type := rfl
 have f2 : r.d.fld 2 = .int r.ttl := rfl
 have f3 : r.d.fld 3 = .str r.data := rfl
 rw [f0, f1, f2, f3]
 have h1 := z3A h.t0 h.t1
 have h2 := z3A h.k0 h.k1
 have h3 := h.name
 have h4 := h.data
 refine z0E (zN3 _) (z0p (z5y ?_) (z0E (zCk h.t0 h.t1) (z0p (z5y ?_) (z0p (z5y ?_) (z0E (zCk h.k0 h.k1) (z0p (z5y ?_) (z0p (z5y ?_) (z0p (z5y ?_) rfl))))))))
 all_goals simp only [D.s_str, List.length_append, List.length_singleton]; omega
theorem zIw {r : Rec} (h : r.Sizes) : z3T.F [r.d] = some (.str r.text) := by
 rw [zGK]
 have f0 : r.d.fld 0 = .str r.name := rfl
 have f1 : r.d.fld 1 = .int r.type := rfl
 have f2 : r.d.fld 2 = .int r.ttl := rfl
 have f3 : r.d.fld 3 = .str r.data := rfl
 rw [f0, f1, f2, f3]
 have h1 := z3A h.t0 h.t1
 have h2 := z3A h.k0 h.k1
 have h3 := h.name
 have h4 := h.data
 refine z0V (l := [.str (told r.name)]) ?_ ?_
 ·unfold told
  cases r.name with
  | nil => rfl
  | cons c s => exact z07 (by simp) rfl
 ·refine z0p (z5y ?_) (z0E (zKS h.t0 h.t1) (z0p (z5y ?_) (z0p (z5y ?_) (z0E (zKS h.k0 h.k1) (z0p (z5y ?_) (z0p (z5y ?_) (z0p (z5y ?_) rfl)))))))
  all_goals simp only [z2x, D.s_str, List.length_append, List.length_singleton]; omega
end Go.Proofs.YtilejnnnkfjmmaaGreatDoor
namespace Go.Proofs.YtilejnnnkfjmmaaGreatDoor
open Go Go.Own
structure Chg where
 kind : Int
 rc : Rec
structure Ask where
 client : Int
 no : Int
 cs : List Chg
def Chg.d (c : Chg) : D := .pair (.int c.kind) (.pair c.rc.d .unit)
def Ask.d (a : Ask) : D := .pair (.int a.client) (.pair (.int a.no) (.pair (.lst (a.cs.map Chg.d)) .unit))
structure Ask.In (B : Nat) (a : Ask) : Prop where
 len : a.cs.length ≤ B
 all : ∀ c ∈ a.cs, c.rc.In B
def Chg.ok (c : Chg) : Bool := inP c.kind 1 4 && (c.rc.ok && !(c.rc.type == 6))
def Chg.nul : Chg := ⟨0, ⟨[], 0, 0, []⟩⟩
def Ask.who (a : Ask) : Bool := inP a.client 0 100 && inP a.no 1 1000
def Ask.ok (a : Ask) : Bool := a.who && (a.cs.all Chg.ok && decide (a.cs.length ≤ 12))
theorem zGv {xs : List Chg} {i : Nat} (hi : i < xs.length) : gd (xs.map Chg.d) i = xs[i].d := by
 rw [zGw (by simpa using hi)]; simp
theorem zJa (a b : Int) : z1Y.F [.int a, .int b] = some (.bool (inP a 0 100 && inP b 1 1000)) := by
 rw [zDo]
 have h1 := z9e a 0 100
 have h2 := z9e b 1 1000
 refine z0V (l := [.bool (inP a 0 100 && inP b 1 1000)]) ?_ rfl
 cases h : inP a 0 100 with
 | false => rw [h] at h1; exact z04 h1 (z07 (by simp) rfl)
 | true => rw [h] at h1; exact z04 h1 (z08 rfl (z04 h2 rfl))
theorem zLm (a b : Int) : z2P.F [.int a, .int b] = some (.bool (inP a 0 100 && inP b 1 1000)) := by
 rw [zGJ]
 have h1 := zFh a 0 100
 have h2 := zFh b 1 1000
 refine z0V (l := [.bool (inP a 0 100 && inP b 1 1000)]) ?_ rfl
 cases h : inP a 0 100 with
 | false => rw [h] at h1; exact z04 h1 (z07 (by simp) rfl)
 | true => rw [h] at h1; exact z04 h1 (z08 rfl (z04 h2 rfl))
theorem zFe {c : Chg} (hc : c.rc.In lim) : z1x.F [c.d] = some (.bool !c.ok) := by
 rw [z9T]
 have f0 : c.d.fld 0 = .int c.kind := rfl
 have f1 : c.d.fld 1 = c.rc.d := rfl
 have f2 : (c.rc.d.fld 1).i = c.rc.type := rfl
 rw [f0, f1, f2]
 have h1 := z9e c.kind 1 4
 have h2 := zGp hc
 refine z0V (l := [.bool !c.ok]) ?_ rfl
 unfold Chg.ok
 cases k1 : inP c.kind 1 4 with
 | false => rw [k1] at h1; exact z04 h1 (z08 rfl rfl)
 | true =>
   rw [k1] at h1
   cases k2 : c.rc.ok with
   | false => rw [k2] at h2; exact z04 h1 (z07 (by simp) (z04 h2 (z08 rfl rfl)))
   | true => rw [k2] at h2; exact z04 h1 (z07 (by simp) (z04 h2 (z07 (by simp) (by simp))))
theorem zI9 {xs : List Chg} (u : D) (hl : xs.length ≤ smax) (hx : ∀ c ∈ xs, c.rc.In lim) : z09.F [.lst (xs.map Chg.d), u] = some (.bool !(xs.all Chg.ok)) := by
 rw [z1V]
 have key : ∃ r, z0B.F [.lst (xs.map Chg.d), u] = some r ∧ ∃ n : Int, r = .int n ∧ decide (n ≥ 0) = !(xs.all Chg.ok) := by
  rw [z1m]
  have hp : ∀ i (hi : i < xs.length), z1x.F [xs[i].d] = some (.bool !xs[i].ok) := fun i hi => zFe (hx _ (List.getElem_mem hi))
  refine zIF (fun i => [.int i]) xs.length (fun i => (xs.getD i Chg.nul).ok) (t1 := 0) (t2 := 1) (o1 := fun i => [.int i]) (o2 := []) rfl ?_ ?_ ?_ ?_ ?_
  ·intro i hi h
   rw [z5n hi] at h
   have := hp i hi
   rw [h] at this
   simp [hi, z1L hi, z1B hi hl, zGv hi, this]
  ·intro i hi h
   rw [z5n hi] at h
   have := hp i hi
   rw [h] at this
   simp [hi, z1L hi, zGv hi, this]
  ·simp
  ·intro hall
   refine ⟨_, rfl, -1, rfl, ?_⟩
   have : xs.all Chg.ok = true := by
    rw [← z6O xs Chg.ok Chg.nul, z4N]; exact hall
   rw [this]; rfl
  ·intro j hj hp' _
   refine ⟨_, rfl, j, rfl, ?_⟩
   have : xs.all Chg.ok = false := by
    rw [← z6O xs Chg.ok Chg.nul]; exact z6p hj hp'
   rw [this]; simp
 obtain ⟨r, h1, n, rfl, h2⟩ := key
 refine z0E h1 ?_
 rw [← h2]; rfl
theorem zGo {xs : List Chg} (hl : xs.length ≤ lim) (hx : ∀ c ∈ xs, c.rc.In lim) : z1w.F [.lst (xs.map Chg.d)] = some (.bool (xs.all Chg.ok && decide (xs.length ≤ 12))) := by
 rw [zBE]
 have hlen : (D.lst (xs.map Chg.d)).l.length = xs.length := by simp
 have hc := zI9 .unit (Nat.le_trans hl z7L) hx
 rw [hlen]
 refine z0V (l := [.bool (xs.all Chg.ok && decide (xs.length ≤ 12))]) ?_ rfl
 by_cases h12 : xs.length ≤ 12
 ·exact z08 (decide_eq_true (show (xs.length : Int) ≤ 12 by omega)) (z04 hc (by simp [h12]))
 ·exact z07 (fun h => by have h' : (xs.length : Int) ≤ 12 := of_decide_eq_true h; omega) (by simp [h12])
theorem zKR {xs : List Chg} (hl : xs.length ≤ lim) (hx : ∀ c ∈ xs, c.rc.In lim) : z2w.F [.lst (xs.map Chg.d)] = some (.bool (xs.all Chg.ok && decide (xs.length ≤ 12))) := by
 rw [zEr]
 have hsm := Nat.le_trans hl z7L
 have hlen : (D.lst (xs.map Chg.d)).l.length = xs.length := by simp
 rw [hlen]
 refine z1M (z9v (fun i => [.int i]) xs.length (fun i => (xs.getD i Chg.nul).ok) (t1 := 0) (t2 := 1) (o1 := []) (o2 := []) rfl ?_ ?_) ?_
 ·intro i hi
  rw [z5n hi]
  have hg : gd (D.lst (xs.map Chg.d)).l i = xs[i].d := zGv hi
  have h1 := zFh xs[i].kind 1 4
  have h2 := zEz (hx _ (List.getElem_mem hi))
  refine z08 (by simpa using hi) (z08 (by simpa using z1L hi) ?_)
  have e0 : (gd [D.int (i : Int)] 0).i.toNat = i := by simp
  have e1 : (gd [D.int (i : Int)] 0).i = i := rfl
  have g0 : xs[i].d.fld 0 = .int xs[i].kind := rfl
  have g1 : xs[i].d.fld 1 = xs[i].rc.d := rfl
  have g2 : (xs[i].rc.d.fld 1).i = xs[i].rc.type := rfl
  rw [e0, e1, hg, g0, g1, g2, z1B hi hsm]
  refine z67 (r := (0, [.bool !xs[i].ok])) ?_ ?_
  ·unfold Chg.ok
   cases k1 : inP xs[i].kind 1 4 with
   | false => rw [k1] at h1; exact z04 h1 (z08 rfl rfl)
   | true =>
     rw [k1] at h1
     cases k2 : xs[i].rc.ok with
     | false => rw [k2] at h2; exact z04 h1 (z07 (by simp) (z04 h2 (z08 rfl rfl)))
     | true => rw [k2] at h2; exact z04 h1 (z07 (by simp) (z04 h2 (z07 (by simp) (by simp))))
  ·cases xs[i].ok <;> simp
 ·simp
 ·rw [z6O xs Chg.ok Chg.nul]
  cases xs.all Chg.ok with
  | false => simp
  | true =>
    have : decide ((xs.length : Int) ≤ 12) = decide (xs.length ≤ 12) := by rw [Bool.eq_iff_iff]; simp; omega
    simp [this]
def Chg.text (c : Chg) : List UInt8 := (([10] ++ Lib.itoa c.kind) ++ [32]) ++ c.rc.text
def Ask.textAt (a : Ask) : Nat → List UInt8
 | 0 => (Lib.itoa a.client ++ [32]) ++ Lib.itoa a.no
 | i + 1 => a.textAt i ++ (a.cs.getD i Chg.nul).text
structure Chg.Sizes (c : Chg) : Prop where
 k0 : 0 ≤ c.kind
 k1 : c.kind < 10 ^ 18
 r : c.rc.Sizes
theorem Chg.sizes {c : Chg} (h : c.ok = true) : c.Sizes := by
 have hp18 : (10 : Int) ^ 18 = 1000000000000000000 := by decide
 unfold Chg.ok at h
 simp only [Bool.and_eq_true, inP, decide_eq_true_eq] at h
 exact ⟨by omega, by omega, Rec.sizes h.2.1⟩
theorem Chg.text_len {c : Chg} (h : c.Sizes) : c.text.length ≤ 300 := by
 have h1 := z3A h.k0 h.k1
 have h2 := Rec.text_len h.r
 simp only [Chg.text, List.length_append, List.length_singleton]
 omega
theorem Ask.text_len {a : Ask} (hc0 : 0 ≤ a.client ∧ a.client < 10 ^ 18) (hn0 : 0 ≤ a.no ∧ a.no < 10 ^ 18) (hx : ∀ c ∈ a.cs, c.Sizes) : ∀ i, i ≤ a.cs.length → (a.textAt i).length ≤ 40 + 300 * i
 | 0, _ => by
   have h1 := z3A hc0.1 hc0.2
   have h2 := z3A hn0.1 hn0.2
   simp only [Ask.textAt, List.length_append, List.length_singleton]; omega
 | i + 1, hi => by
   have ih := Ask.text_len hc0 hn0 hx i (by omega)
   have h1 := Chg.text_len (hx _ (List.getElem_mem (show i < a.cs.length by omega)))
   rw [Ask.textAt, z5n (by omega), List.length_append]; omega
theorem zI7 {a : Ask} (hok : a.ok = true) : z3c.F [a.d] = some (.str (a.textAt a.cs.length)) := by
 have hp18 : (10 : Int) ^ 18 = 1000000000000000000 := by decide
 unfold Ask.ok Ask.who at hok
 simp only [Bool.and_eq_true, inP, decide_eq_true_eq, List.all_eq_true] at hok
 obtain ⟨⟨hc0, hn0⟩, hall, h12⟩ := hok
 have hx : ∀ c ∈ a.cs, c.Sizes := fun c hc => Chg.sizes (hall c hc)
 have hc0' : 0 ≤ a.client ∧ a.client < 10 ^ 18 := ⟨hc0.1, by omega⟩
 have hn0' : 0 ≤ a.no ∧ a.no < 10 ^ 18 := ⟨by omega, by omega⟩
 have hsm : a.cs.length ≤ smax := by rw [z1d]; omega
 rw [zCN]
 have f0 : a.d.fld 0 = .int a.client := rfl
 have f1 : a.d.fld 1 = .int a.no := rfl
 have hlen : (a.d.fld 2).l.length = a.cs.length := by simp [Ask.d]
 have hd2 : (a.d.fld 2).l = a.cs.map Chg.d := rfl
 rw [f0, f1, hlen]
 have h1 := z3A hc0'.1 hc0'.2
 have h2 := z3A hn0'.1 hn0'.2
 refine z0E (zCk hc0'.1 hc0'.2) (z0p (z5y ?_) (z0E (zCk hn0'.1 hn0'.2) (z0p (z5y ?_) (z1M (z70 (fun i (s : List UInt8) => [.str s, .int i]) a.cs.length a.textAt (t := 0) (o := [.str (a.textAt a.cs.length)]) rfl ?_ ?_) rfl))))
 ·simp only [D.s_str, List.length_singleton]; omega
 ·simp only [D.s_str, List.length_append, List.length_singleton]; omega
 ·intro i hi
  have hg : gd (a.cs.map Chg.d) i = a.cs[i].d := zGv hi
  have hsz := hx _ (List.getElem_mem hi)
  have hl1 := Ask.text_len hc0' hn0' hx i (Nat.le_of_lt hi)
  have hl2 := Chg.text_len hsz
  have hl3 := Rec.text_len hsz.r
  have hl4 := z3A hsz.k0 hsz.k1
  refine z08 (by simpa using hi) (z08 (by simpa using z1L hi) ?_)
  have e0 : (gd [D.str (a.textAt i), D.int (i : Int)] 1).i.toNat = i := by simp
  have e1 : (gd [D.str (a.textAt i), D.int (i : Int)] 1).i = i := rfl
  have e2 : (gd [D.str (a.textAt i), D.int (i : Int)] 0).s = a.textAt i := rfl
  have g0 : a.cs[i].d.fld 0 = .int a.cs[i].kind := rfl
  have g1 : a.cs[i].d.fld 1 = a.cs[i].rc.d := rfl
  rw [e0, e1, e2, hd2, hg, g0, g1, z1B hi hsm]
  refine z04 (zCk hsz.k0 hsz.k1) (z08 (z5y ?_) (z08 (z5y ?_) (z04 (zBV hsz.r) (z08 (z5y ?_) (z08 (z5y ?_) ?_)))))
  ·simp only [D.s_str, List.length_singleton]; omega
  ·simp only [D.s_str, List.length_append, List.length_singleton]; omega
  ·simp only [D.s_str, List.length_append, List.length_singleton]; omega
  ·simp only [D.s_str, List.length_append, List.length_singleton]; omega
  ·rw [Ask.textAt, z5n hi]; rfl
 ·exact z07 (by simp) rfl
theorem zKP {a : Ask} (hok : a.ok = true) : z4P.F [a.d] = some (.str (a.textAt a.cs.length)) := by
 have hp18 : (10 : Int) ^ 18 = 1000000000000000000 := by decide
 unfold Ask.ok Ask.who at hok
 simp only [Bool.and_eq_true, inP, decide_eq_true_eq, List.all_eq_true] at hok
 obtain ⟨⟨hc0, hn0⟩, hall, h12⟩ := hok
 have hx : ∀ c ∈ a.cs, c.Sizes := fun c hc => Chg.sizes (hall c hc)
 have hc0' : 0 ≤ a.client ∧ a.client < 10 ^ 18 := ⟨hc0.1, by omega⟩
 have hn0' : 0 ≤ a.no ∧ a.no < 10 ^ 18 := ⟨by omega, by omega⟩
 have hsm : a.cs.length ≤ smax := by rw [z1d]; omega
 rw [zEn]
 have f0 : a.d.fld 0 = .int a.client := rfl
 have f1 : a.d.fld 1 = .int a.no := rfl
 have hlen : (a.d.fld 2).l.length = a.cs.length := by simp [Ask.d]
 have hd2 : (a.d.fld 2).l = a.cs.map Chg.d := rfl
 rw [f0, f1, hlen]
 have h1 := z3A hc0'.1 hc0'.2
 have h2 := z3A hn0'.1 hn0'.2
 refine z0E (zKS hc0'.1 hc0'.2) (z0p (z5y ?_) (z0E (zKS hn0'.1 hn0'.2) (z0p (z5y ?_) (z1M (z70 (fun i (s : List UInt8) => [.str s, .int i]) a.cs.length a.textAt (t := 0) (o := [.str (a.textAt a.cs.length)]) rfl ?_ ?_) rfl))))
 ·simp only [D.s_str, List.length_singleton]; omega
 ·simp only [D.s_str, List.length_append, List.length_singleton]; omega
 ·intro i hi
  have hg : gd (a.cs.map Chg.d) i = a.cs[i].d := zGv hi
  have hsz := hx _ (List.getElem_mem hi)
  have hl1 := Ask.text_len hc0' hn0' hx i (Nat.le_of_lt hi)
  have hl2 := Chg.text_len hsz
  have hl3 := Rec.text_len hsz.r
  have hl4 := z3A hsz.k0 hsz.k1
  refine z08 (by simpa using hi) (z08 (by simpa using z1L hi) ?_)
  have e0 : (gd [D.str (a.textAt i), D.int (i : Int)] 1).i.toNat = i := by simp
  have e1 : (gd [D.str (a.textAt i), D.int (i : Int)] 1).i = i := rfl
  have e2 : (gd [D.str (a.textAt i), D.int (i : Int)] 0).s = a.textAt i := rfl
  have g0 : a.cs[i].d.fld 0 = .int a.cs[i].kind := rfl
  have g1 : a.cs[i].d.fld 1 = a.cs[i].rc.d := rfl
  rw [e0, e1, e2, hd2, hg, g0, g1, z1B hi hsm]
  refine z04 (zKS hsz.k0 hsz.k1) (z08 (z5y ?_) (z08 (z5y ?_) (z04 (zIw hsz.r) (z08 (z5y ?_) (z08 (z5y ?_) ?_)))))
  ·simp only [D.s_str, List.length_singleton]; omega
  ·simp only [D.s_str, List.length_append, List.length_singleton]; omega
  ·simp only [D.s_str, List.length_append, List.length_singleton]; omega
  ·simp only [D.s_str, List.length_append, List.length_singleton]; omega
  ·rw [Ask.textAt, z5n hi]; rfl
 ·exact z07 (by simp) rfl
def zHu (a : Ask) : D := if a.ok = true then .pair (.str (a.textAt a.cs.length)) (.pair (.bool true) .unit) else .pair (.str []) (.pair (.bool false) .unit)
theorem zIB {a : Ask} (ha : a.In lim) : z2L.F [a.d] = some (zHu a) := by
 rw [zCL]
 have f0 : a.d.fld 0 = .int a.client := rfl
 have f1 : a.d.fld 1 = .int a.no := rfl
 have f2 : a.d.fld 2 = .lst (a.cs.map Chg.d) := rfl
 rw [f0, f1, f2]
 have h1 := zJa a.client a.no
 have h2 := zGo ha.len ha.all
 refine z0V (l := [.bool !a.ok]) ?_ ?_
 ·unfold Ask.ok Ask.who
  cases k1 : (inP a.client 0 100 && inP a.no 1 1000) with
  | false => rw [k1] at h1; exact z04 h1 (z08 rfl rfl)
  | true => rw [k1] at h1; exact z04 h1 (z07 (by simp) (z04 h2 (by simp)))
 ·unfold zHu
  cases hok : a.ok with
  | false => exact z0p rfl rfl
  | true => exact z0C (by simp) (z0E (zI7 hok) rfl)
theorem zID {a : Ask} (ha : a.In lim) : z2M.F [a.d] = some (zHu a) := by
 rw [zCR]
 have f0 : a.d.fld 0 = .int a.client := rfl
 have f1 : a.d.fld 1 = .int a.no := rfl
 have f2 : a.d.fld 2 = .lst (a.cs.map Chg.d) := rfl
 rw [f0, f1, f2]
 have h1 := zLm a.client a.no
 have h2 := zKR ha.len ha.all
 refine z0V (l := [.bool !a.ok]) ?_ ?_
 ·unfold Ask.ok Ask.who
  cases k1 : (inP a.client 0 100 && inP a.no 1 1000) with
  | false => rw [k1] at h1; exact z04 h1 (z08 rfl rfl)
  | true => rw [k1] at h1; exact z04 h1 (z07 (by simp) (z04 h2 (by simp)))
 ·unfold zHu
  cases hok : a.ok with
  | false => exact z0p rfl rfl
  | true => exact z0C (by simp) (z0E (zKP hok) rfl)
end Go.Proofs.YtilejnnnkfjmmaaGreatDoor
