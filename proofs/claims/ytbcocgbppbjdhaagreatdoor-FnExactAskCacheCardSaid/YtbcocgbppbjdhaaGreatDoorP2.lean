/- What the functions compute, in plain words. -/
import Derived.Test.YtbcocgbppbjdhaaGreatDoorP1
set_option linter.unusedSectionVars false
set_option linter.unusedVariables false
set_option linter.unusedSimpArgs false
namespace Go.Proofs.YtbcocgbppbjdhaaGreatDoor
open Go Go.Own
theorem f_big {c : Nat} (hc : c ≤ 4) (n : Int) : ∃ b : List UInt8, b.length = c ∧ e_impl_big.F [.int n, .int c] = some (.str b) := by
  rw [q_impl_big]
  have w0 : IntKind.wrap .i64 ((c : Int) - 1) = (c : Int) - 1 := by rw [wrap_id] <;> omega
  simp only [D.i_int, w0]
  obtain ⟨l, hl, hloop⟩ := loop_down (f := fun l2 =>
      if (decide ((gd l2 1).i ≥ 0)) then
        if (decide (0 ≤ (IntKind.wrap .i64 (8 * (gd l2 1).i)))) then
        if (appOk 1 (gd l2 0).l ((.int (IntKind.wrap .u8 (n.fdiv (2 ^ min (IntKind.wrap .i64 (8 * (gd l2 1).i)).toNat (IntKind.bits .i64))))) :: ([] : List D))) then
        ou 0 [(D.lst ((gd l2 0).l ++ ((.int (IntKind.wrap .u8 (n.fdiv (2 ^ min (IntKind.wrap .i64 (8 * (gd l2 1).i)).toNat (IntKind.bits .i64))))) :: ([] : List D)))), (.int (IntKind.wrap .i64 ((gd l2 1).i - 1)))]
        else none
        else none
      else
        ou 1 [(gd l2 0)]) (l := [.lst [], .int ((c : Int) - 1)]) (fun m (zs : List D) => [.lst zs, .int ((m : Int) - 1)]) (fun m zs => zs.length + m = c) (t := 0) (out := fun zs => [.lst zs]) c [] rfl (by simp) (by
    intro m zs hz
    have w1 : IntKind.wrap .i64 (8 * (((m + 1 : Nat) : Int) - 1)) = 8 * (m : Int) := by rw [wrap_id] <;> omega
    have w2 : IntKind.wrap .i64 ((((m + 1 : Nat) : Int) - 1) - 1) = (m : Int) - 1 := by rw [wrap_id] <;> omega
    refine ⟨zs ++ [.int (IntKind.wrap .u8 (n.fdiv (2 ^ min (8 * (m : Int)).toNat (IntKind.bits .i64))))], out_if (decide_eq_true (by simp)) (out_if ?_ (out_if ?_ ?_)), by simp; omega⟩
    · simp only [gd_one, D.i_int, w1]; exact decide_eq_true (by omega)
    · simp only [gd_zero, D.l_lst, appOk, List.length_singleton]
      simp [smax_eq]; omega
    · simp only [gd_zero, gd_one, D.i_int, D.l_lst, w1, w2]) (by
    intro zs _
    exact out_else (by simp) rfl)
  refine ⟨bytesStr l, by rw [bytesStr_size]; omega, rn_bind hloop rfl⟩
theorem f_l3Number {c : Nat} (hc : c ≤ 4) (n : Int) : ∃ b : List UInt8, b.length = c ∧ e_spec_l3Number.F [.int n, .int c] = some (.str b) := by
  rw [q_spec_l3Number]
  have w0 : IntKind.wrap .i64 ((c : Int) - 1) = (c : Int) - 1 := by rw [wrap_id] <;> omega
  simp only [D.i_int, w0]
  obtain ⟨l, hl, hloop⟩ := loop_down (f := fun l2 =>
      if (decide ((gd l2 2).i ≥ 0)) then
        if (inb (gd l2 2).i (gd l2 1).l.length) then
        if (decide (0 ≤ 8)) then
        ou 0 [(.int ((gd l2 0).i.fdiv (2 ^ min 8 (IntKind.bits .i64)))), (D.lst ((gd l2 1).l.set (gd l2 2).i.toNat (.int (IntKind.wrap .u8 (gd l2 0).i)))), (.int (IntKind.wrap .i64 ((gd l2 2).i - 1)))]
        else none
        else none
      else
        ou 1 [(gd l2 1)]) (l := [.int n, .lst (List.replicate ((c : Int)).toNat (.int 0)), .int ((c : Int) - 1)]) (fun m (z : Int × List D) => [.int z.1, .lst z.2, .int ((m : Int) - 1)]) (fun m z => z.2.length = c ∧ m ≤ c) (t := 0) (out := fun z => [.lst z.2]) c (n, List.replicate c (.int 0)) (by simp) (by simp) (by
    intro m z hz
    have w2 : IntKind.wrap .i64 ((((m + 1 : Nat) : Int) - 1) - 1) = (m : Int) - 1 := by rw [wrap_id] <;> omega
    refine ⟨(z.1.fdiv (2 ^ min 8 (IntKind.bits .i64)), z.2.set m (.int (IntKind.wrap .u8 z.1))), out_if (decide_eq_true (by simp)) (out_if ?_ (out_if (by decide) ?_)), by simp; omega⟩
    · simp only [gd_two, gd_one, D.i_int, D.l_lst]; exact inb_int (by omega) (by omega)
    · have e : (((m + 1 : Nat) : Int) - 1).toNat = m := by omega
      simp only [gd_zero, gd_one, gd_two, D.i_int, D.l_lst, w2, e]) (by
    intro zs _
    exact out_else (by simp) rfl)
  refine ⟨bytesStr l.2, by rw [bytesStr_size]; omega, rn_if ?_ (rn_bind hloop rfl)⟩
  exact makeOk_nat (by have : lim = 1048576 := rfl; omega) (by decide)
theorem int10_in {s : List UInt8} {m : Int} (hm : m < 10000000000) : (decide ((0 : Int) ≤ int10 s) && decide (int10 s ≤ m)) = numOk s m := by
  unfold int10 numOk
  by_cases hc : canon s = true
  · by_cases hd : (dv s : Int) ≤ m
    · have hl10 : s.length ≤ 10 := by
        have := dec_len (k := 10) (u := dv s) (by omega) (by omega)
        rwa [← (canon_iff _).1 hc] at this
      rw [if_pos ⟨hc, hl10⟩]
      simp [hc, hd]
    · have e : decide ((dv s : Int) ≤ m) = false := by simpa using hd
      rw [e, Bool.and_false]
      by_cases hl10 : s.length ≤ 10
      · rw [if_pos ⟨hc, hl10⟩, e]; simp
      · rw [if_neg (fun h => hl10 h.2)]; simp
  · have hc' : canon s = false := by simpa using hc
    rw [if_neg (fun h => hc h.1), hc']; simp
def mxP : List (List UInt8) → Bool
  | [a, b] => numOk a 65535 && isTgt b
  | _ => false
def mxOk (s : List UInt8) : Bool := mxP (splB 32 s)
def txtOk (s : List UInt8) : Bool := decide (s.length ≤ 30) && s.all (fun c => decide (32 ≤ c.toNat) && decide (c.toNat ≤ 126))
def dataOk (k : Int) (s : List UInt8) : Bool :=
  if k = 1 then addrOk s else if k = 2 ∨ k = 5 then isTgt s else if k = 6 then numOk s 4294967295 else if k = 15 then mxOk s else if k = 16 then txtOk s else false
theorem tgt_space {q : List UInt8} (h : 32 ∈ q) : isTgt q = false := by
  cases hq : isTgt q with
  | false => rfl
  | true =>
    exfalso
    unfold isTgt isName at hq
    simp only [Bool.and_eq_true, Bool.or_eq_true, List.all_eq_true, decide_eq_true_eq, Bool.not_eq_true'] at hq
    obtain ⟨p, hp, hc⟩ := (splB_has (b := 46) (c := 32) (by decide) q).1 h
    rcases hq.2.1.2 with he | he
    · rw [he] at hq; simp at hq
    · have := he.2 p hp
      unfold isLab at this
      simp only [Bool.or_eq_true, Bool.and_eq_true, List.all_eq_true] at this
      rcases this with h1 | h1
      · have : p = [42] := by simpa using h1
        subst this
        exact absurd hc (by decide)
      · exact absurd (h1.2 32 hc) (by decide)
theorem cut_none {s : List UInt8} (h : 32 ∉ s) : Lib.cut s [32] = (s, [], false) := by
  unfold Lib.cut
  rw [index_one_none h]; rfl
theorem cut_some {p q : List UInt8} (h : 32 ∉ p) : Lib.cut (p ++ 32 :: q) [32] = (p, q, true) := by
  unfold Lib.cut
  rw [index_one_cut h]
  simp
theorem f_cut {s : List UInt8} (h : s.length ≤ lim) : e_strings_Cut.F [.str s, .str [32]] = some (cutD (Lib.cut s [32])) := by
  rw [show e_strings_Cut.F = cutF from by unfold e_strings_Cut cutE; rfl]
  unfold cutF
  have hlim : lim = 1048576 := rfl
  exact if_pos (by simp; omega)
theorem mx_cut (s : List UInt8) : mxOk s = (numOk (Lib.cut s [32]).1 65535 && isTgt (Lib.cut s [32]).2.1) := by
  unfold mxOk
  by_cases h : 32 ∈ s
  · obtain ⟨p, q, rfl, hp⟩ := mem_cut h
    rw [cut_some hp, splB_cut hp]
    by_cases hq : 32 ∈ q
    · rw [tgt_space hq, Bool.and_false]
      obtain ⟨p2, q2, rfl, hp2⟩ := mem_cut hq
      rw [splB_cut hp2]
      cases hh : splB 32 q2 with
      | nil => exact absurd hh (splB_ne 32 q2)
      | cons a l => rfl
    · rw [splB_none hq]; rfl
  · rw [cut_none h, splB_none h]
    simp [isTgt, mxP]
end Go.Proofs.YtbcocgbppbjdhaaGreatDoor
namespace Go.Proofs.YtbcocgbppbjdhaaGreatDoor
open Go Go.Own
theorem rn_bind0 {o : Outc} {l : List D} {A : Nat × List D → Outc} {B : Nat × List D → Nat → Outc} {R : Option D} (h : o = some (0, l)) (hk : rn (A (0, l)) = R) : rn (o.bind fun o => sel2 o.1 (A o) (B o)) = R := by
  rw [h]; exact hk
theorem f_data1 (n : Int) : e_impl_DataBytes_1.F [.int n] = some (.bool !(decide (32 ≤ n) && decide (n ≤ 126))) := by
  rw [q_impl_DataBytes_1]
  by_cases h : n < 32
  · have : decide (32 ≤ n) = false := by simp; omega
    simp [h, this]
  · have h1 : decide (32 ≤ n) = true := by simp; omega
    by_cases h2 : n > 126
    · have : decide (n ≤ 126) = false := by simp; omega
      simp [h, h1, h2, this]
    · have : decide (n ≤ 126) = true := by simp; omega
      simp [h, h1, h2, this]
theorem gd_bytes {s : List UInt8} {i : Nat} (hi : i < s.length) : gd (s.map fun c => D.int c.toNat) i = .int (s[i]).toNat := by
  rw [gd_lt (by simpa using hi)]; simp
theorem f_containsB {s : List UInt8} (u : D) (hl : s.length ≤ smax) : e_slices_ContainsFunc_byte_byte__impl_DataBytes_1.F [.lst (s.map fun c => D.int c.toNat), u] = some (.bool !(s.all (fun c => decide (32 ≤ c.toNat) && decide (c.toNat ≤ 126)))) := by
  rw [q_slices_ContainsFunc_byte_byte__impl_DataBytes_1]
  let q : UInt8 → Bool := fun c => decide (32 ≤ c.toNat) && decide (c.toNat ≤ 126)
  have key : ∃ r, e_slices_IndexFunc_byte_byte__impl_DataBytes_1.F [.lst (s.map fun c => D.int c.toNat), u] = some r ∧ ∃ n : Int, r = .int n ∧ decide (n ≥ 0) = !(s.all q) := by
    rw [q_slices_IndexFunc_byte_byte__impl_DataBytes_1]
    have hp : ∀ i (hi : i < s.length), e_impl_DataBytes_1.F [.int (s[i]).toNat] = some (.bool !(q s[i])) := fun i hi => by
      rw [f_data1]
      have : (decide ((32 : Int) ≤ (s[i]).toNat) && decide (((s[i]).toNat : Int) ≤ 126)) = q s[i] := by
        simp only [q]
        rw [Bool.eq_iff_iff]; simp; omega
      rw [this]
    refine find_ex (fun i => [.int i]) s.length (fun i => q (s.getD i 0)) (t1 := 0) (t2 := 1) (o1 := fun i => [.int i]) (o2 := []) rfl ?_ ?_ ?_ ?_ ?_
    · intro i hi h
      rw [getD_lt hi] at h
      have := hp i hi
      rw [h] at this
      simp [hi, inb_nat hi, wrap_succ hi hl, gd_bytes hi, this]
    · intro i hi h
      rw [getD_lt hi] at h
      have := hp i hi
      rw [h] at this
      simp [hi, inb_nat hi, gd_bytes hi, this]
    · simp
    · intro hall
      refine ⟨_, rfl, -1, rfl, ?_⟩
      have : s.all q = true := by
        rw [← all_allN s q 0, allN_true]; exact hall
      rw [this]; rfl
    · intro j hj hp' _
      refine ⟨_, rfl, j, rfl, ?_⟩
      have : s.all q = false := by
        rw [← all_allN s q 0]; exact allN_false hj hp'
      rw [this]; simp
  obtain ⟨r, h1, n, rfl, h2⟩ := key
  refine rn_call h1 ?_
  show some (D.bool (decide (n ≥ 0))) = some (D.bool !(s.all q))
  rw [h2]
theorem f_data {k : Int} {s : List UInt8} (h : s.length ≤ lim) : ∃ b : List UInt8, e_impl_DataBytes.F [.int k, .str s] = some (.pair (.str b) (.pair (.bool (dataOk k s)) .unit)) := by
  have hlim : lim = 1048576 := rfl
  unfold dataOk
  by_cases k1 : k = 1
  · subst k1; rw [if_pos rfl]; exact f_dataA h
  rw [if_neg k1, q_impl_DataBytes]
  have e1 : ¬ ((D.int k).i == 1) = true := by simpa using k1
  by_cases k25 : k = 2 ∨ k = 5
  · rw [if_pos k25]
    have ht := f_isTarget h
    have hj : (if (D.int k).i == 2 then ou 0 [.bool ((D.int k).i == 2)] else ou 0 [.bool ((D.int k).i == 5)] : Outc) = some (0, [.bool true]) := by
      rcases k25 with rfl | rfl <;> rfl
    cases hq : isTgt s with
    | false =>
      rw [hq] at ht
      exact ⟨[], rn_else e1 (rn_bind0 hj (rn_if rfl (rn_call ht (rn_if rfl rfl))))⟩
    | true =>
      rw [hq] at ht
      obtain ⟨b, hb, hlb⟩ := f_labelBytes h
      exact ⟨b ++ [0], rn_else e1 (rn_bind0 hj (rn_if rfl (rn_call ht (rn_else (by simp) (rn_call hlb (rn_if (cat_ok (by simp; omega)) rfl))))))⟩
  rw [if_neg k25]
  have hj : (if (D.int k).i == 2 then ou 0 [.bool ((D.int k).i == 2)] else ou 0 [.bool ((D.int k).i == 5)] : Outc) = some (0, [.bool false]) := by
    have h2 : ¬ k = 2 := fun h => k25 (.inl h)
    have h5 : ¬ k = 5 := fun h => k25 (.inr h)
    simp [h2, h5]
  by_cases k6 : k = 6
  · rw [if_pos k6]; subst k6
    obtain ⟨v, hn, _⟩ := f_numberIn (s := s) (m := 4294967295) h (by decide)
    cases hq : numOk s 4294967295 with
    | false =>
      rw [hq] at hn
      exact ⟨[], rn_else e1 (rn_bind0 hj (rn_else (by simp) (rn_if rfl (rn_call hn (rn_if rfl rfl)))))⟩
    | true =>
      rw [hq] at hn
      obtain ⟨b, _, hb⟩ := f_big (c := 4) (by omega) v
      exact ⟨b, rn_else e1 (rn_bind0 hj (rn_else (by simp) (rn_if rfl (rn_call hn (rn_else (by simp) (rn_call hb rfl))))))⟩
  rw [if_neg k6]
  have e6 : ¬ ((D.int k).i == 6) = true := by simpa using k6
  by_cases k15 : k = 15
  · rw [if_pos k15]; subst k15
    rw [mx_cut]
    have hc := f_cut h
    have hle := cut_le s [32]
    generalize hcut : Lib.cut s [32] = c at hc hle
    obtain ⟨a, q, f⟩ := c
    simp only at hle ⊢
    have f0 : (cutD (a, q, f)).fld 0 = .str a := rfl
    have f1 : (cutD (a, q, f)).fld 1 = .str q := rfl
    obtain ⟨v, hn, _⟩ := f_numberIn (s := a) (m := 65535) (by omega) (by decide)
    have ht := f_isTarget (s := q) (by omega)
    cases hq : numOk a 65535 && isTgt q with
    | false =>
      refine ⟨[], rn_else e1 (rn_bind0 hj (rn_else (by simp) (rn_else e6 (rn_if rfl (rn_call hc ?_)))))⟩
      rw [f0, f1]
      refine rn_call hn (rn_bind0 (l := [.bool true]) ?_ (rn_if rfl rfl))
      cases hna : numOk a 65535 with
      | false => exact out_if rfl rfl
      | true =>
        rw [hna, Bool.true_and] at hq
        rw [hq] at ht
        exact out_else (by simp) (out_call ht rfl)
    | true =>
      simp only [Bool.and_eq_true] at hq
      rw [hq.1] at hn
      rw [hq.2] at ht
      obtain ⟨b, hbl, hb⟩ := f_big (c := 2) (by omega) v
      obtain ⟨b2, hb2, hlb⟩ := f_labelBytes (s := q) (by omega)
      refine ⟨b ++ b2 ++ [0], rn_else e1 (rn_bind0 hj (rn_else (by simp) (rn_else e6 (rn_if rfl (rn_call hc ?_)))))⟩
      rw [f0, f1]
      exact rn_call hn (rn_bind0 (l := [.bool false]) (out_else (by simp) (out_call ht rfl)) (rn_else (by simp) (rn_call hb (rn_call hlb (rn_if (cat_ok (by simp only [D.s_str]; omega)) (rn_if (cat_ok (by simp; omega)) rfl))))))
  rw [if_neg k15]
  have e15 : ¬ ((D.int k).i == 15) = true := by simpa using k15
  by_cases k16 : k = 16
  · rw [if_pos k16]; subst k16
    have hc := f_containsB (s := s) .unit (Nat.le_trans h lim_smax)
    unfold txtOk
    by_cases h30 : s.length ≤ 30
    · have e30 : decide (s.length ≤ 30) = true := by simpa using h30
      rw [e30, Bool.true_and]
      cases hq : s.all (fun c => decide (32 ≤ c.toNat) && decide (c.toNat ≤ 126)) with
      | false =>
        rw [hq] at hc
        exact ⟨[], rn_else e1 (rn_bind0 hj (rn_else (by simp) (rn_else e6 (rn_else e15 (rn_if rfl (rn_bind0 (l := [.bool true]) (out_else (fun h => by have h' : (s.length : Int) > 30 := of_decide_eq_true h; omega) (out_call hc rfl)) (rn_if rfl rfl)))))))⟩
      | true =>
        rw [hq] at hc
        obtain ⟨b, hbl, hb⟩ := f_big (c := 1) (by omega) s.length
        exact ⟨b ++ s, rn_else e1 (rn_bind0 hj (rn_else (by simp) (rn_else e6 (rn_else e15 (rn_if rfl (rn_bind0 (l := [.bool false]) (out_else (fun h => by have h' : (s.length : Int) > 30 := of_decide_eq_true h; omega) (out_call hc rfl)) (rn_else (by simp) (rn_call hb (rn_if (cat_ok (by simp only [D.s_str]; omega)) rfl)))))))))⟩
    · have e30 : decide (s.length ≤ 30) = false := by simpa using h30
      rw [e30, Bool.false_and]
      exact ⟨[], rn_else e1 (rn_bind0 hj (rn_else (by simp) (rn_else e6 (rn_else e15 (rn_if rfl (rn_bind0 (l := [.bool true]) (out_if (decide_eq_true (show (s.length : Int) > 30 by omega)) rfl) (rn_if rfl rfl)))))))⟩
  rw [if_neg k16]
  have e16 : ¬ ((D.int k).i == 16) = true := by simpa using k16
  exact ⟨[], rn_else e1 (rn_bind0 hj (rn_else (by simp) (rn_else e6 (rn_else e15 (rn_else e16 rfl)))))⟩
theorem f_l3 {k : Int} {s : List UInt8} (h : s.length ≤ lim) : ∃ b : List UInt8, e_spec_l3Bytes.F [.int k, .str s] = some (.pair (.str b) (.pair (.bool (dataOk k s)) .unit)) := by
  have hlim : lim = 1048576 := rfl
  unfold dataOk
  by_cases k1 : k = 1
  · subst k1; rw [if_pos rfl]; exact f_l3A h
  rw [if_neg k1, q_spec_l3Bytes]
  have e1 : ¬ ((D.int k).i == 1) = true := by simpa using k1
  by_cases k25 : k = 2 ∨ k = 5
  · rw [if_pos k25]
    have ht := f_l3Target h
    have hj : (if (D.int k).i == 2 then ou 0 [.bool ((D.int k).i == 2)] else ou 0 [.bool ((D.int k).i == 5)] : Outc) = some (0, [.bool true]) := by
      rcases k25 with rfl | rfl <;> rfl
    cases hq : isTgt s with
    | false =>
      rw [hq] at ht
      exact ⟨[], rn_else e1 (rn_bind0 hj (rn_if rfl (rn_call ht (rn_if rfl rfl))))⟩
    | true =>
      rw [hq] at ht
      have hn : isName s = true := by unfold isTgt at hq; simp only [Bool.and_eq_true] at hq; exact hq.2.1
      obtain ⟨b, hb, hlb⟩ := f_l2Bytes h hn
      exact ⟨b, rn_else e1 (rn_bind0 hj (rn_if rfl (rn_call ht (rn_else (by simp) (rn_call hlb rfl)))))⟩
  rw [if_neg k25]
  have hj : (if (D.int k).i == 2 then ou 0 [.bool ((D.int k).i == 2)] else ou 0 [.bool ((D.int k).i == 5)] : Outc) = some (0, [.bool false]) := by
    have h2 : ¬ k = 2 := fun h => k25 (.inl h)
    have h5 : ¬ k = 5 := fun h => k25 (.inr h)
    simp [h2, h5]
  by_cases k6 : k = 6
  · rw [if_pos k6]; subst k6
    have hn := f_l1Int h
    have hin := f_l1In (int10 s) 0 4294967295
    rw [int10_in (by decide)] at hin
    obtain ⟨b, _, hb⟩ := f_l3Number (c := 4) (by omega) (int10 s)
    exact ⟨b, rn_else e1 (rn_bind0 hj (rn_else (by simp) (rn_if rfl (rn_call hn (rn_call hb (rn_call hin rfl))))))⟩
  rw [if_neg k6]
  have e6 : ¬ ((D.int k).i == 6) = true := by simpa using k6
  by_cases k15 : k = 15
  · rw [if_pos k15]; subst k15
    have hsp := f_l1Split s 32 h
    have hpm := splB_mem 32 s
    unfold mxOk
    generalize splB 32 s = ps at hsp hpm
    have hlen : (D.lst (ps.map D.str)).l.length = ps.length := by simp
    by_cases h2 : ps.length = 2
    · match ps, h2 with
      | [a, q], _ =>
        have hla := hpm a (by simp)
        have hlq := hpm q (by simp)
        have hn := f_l1Int (s := a) (by omega)
        have hin := f_l1In (int10 a) 0 65535
        rw [int10_in (by decide)] at hin
        have ht := f_l3Target (s := q) (by omega)
        show ∃ b : List UInt8, _ = some (D.pair (.str b) (.pair (.bool (numOk a 65535 && isTgt q)) .unit))
        cases hq : numOk a 65535 && isTgt q with
        | false =>
          refine ⟨[], rn_else e1 (rn_bind0 hj (rn_else (by simp) (rn_else e6 (rn_if rfl (rn_call hsp (rn_bind0 (l := [.bool true]) (out_else (by simp) (out_if rfl (out_call hn (out_call hin ?_)))) (rn_if rfl rfl)))))))⟩
          cases hna : numOk a 65535 with
          | false => exact out_if rfl rfl
          | true =>
            rw [hna, Bool.true_and] at hq
            rw [hq] at ht
            exact out_else (by simp) (out_if rfl (out_call ht rfl))
        | true =>
          simp only [Bool.and_eq_true] at hq
          rw [hq.1] at hin
          rw [hq.2] at ht
          have hnq : isName q = true := by have := hq.2; unfold isTgt at this; simp only [Bool.and_eq_true] at this; exact this.2.1
          obtain ⟨b, hbl, hb⟩ := f_l3Number (c := 2) (by omega) (int10 a)
          obtain ⟨b2, hb2, hlb⟩ := f_l2Bytes (s := q) (by omega) hnq
          exact ⟨b ++ b2, rn_else e1 (rn_bind0 hj (rn_else (by simp) (rn_else e6 (rn_if rfl (rn_call hsp (rn_bind0 (l := [.bool false]) (out_else (by simp) (out_if rfl (out_call hn (out_call hin (out_else (by simp) (out_if rfl (out_call ht rfl))))))) (rn_else (by simp) (rn_if rfl (rn_call hn (rn_call hb (rn_if rfl (rn_call hlb (rn_if (cat_ok (by simp only [D.s_str]; omega)) rfl)))))))))))))⟩
    · have hm : mxP ps = false := by
        match ps, h2 with
        | [], _ => rfl
        | [_], _ => rfl
        | [_, _], h2 => exact absurd rfl h2
        | _ :: _ :: _ :: _, _ => rfl
      rw [hm]
      refine ⟨[], rn_else e1 (rn_bind0 hj (rn_else (by simp) (rn_else e6 (rn_if rfl (rn_call hsp (rn_bind0 (l := [.bool true]) (out_if ?_ rfl) (rn_if rfl rfl)))))))⟩
      rw [hlen]; simp; omega
  rw [if_neg k15]
  have e15 : ¬ ((D.int k).i == 15) = true := by simpa using k15
  by_cases k16 : k = 16
  · rw [if_pos k16]; subst k16
    have hsm := Nat.le_trans h lim_smax
    let q : UInt8 → Bool := fun c => decide (32 ≤ c.toNat) && decide (c.toNat ≤ 126)
    have hb1 := bytesStr_size [.int (IntKind.wrap .u8 (s.length : Int))]
    have hloop := loop_all' (f := fun l3 =>
                  if (decide ((gd l3 0).i < ((D.str s).s.length : Int))) then
                    (if (inb (gd l3 0).i (D.str s).s.length) then
                      if (decide ((byteAt (D.str s).s (gd l3 0).i.toNat : Int) < 32)) then
                        ou 0 [(.bool true)]
                      else
                        ou 0 [(.bool (decide ((byteAt (D.str s).s (gd l3 0).i.toNat : Int) > 126)))]
                      else none).bind fun o4 =>
                    sel2 o4.1 (if (gd o4.2 0).b then
                        ou 1 [(D.str []), (.bool false)]
                      else
                        ou 0 [(.int (IntKind.wrap .i64 ((gd l3 0).i + 1)))]) fun _ => none
                  else
                    ou 2 []) (l := [.int 0]) (fun i => [.int i]) s.length (fun i => q (s.getD i 0)) (t1 := 0) (t2 := 1) (o1 := [.str [], .bool false]) (o2 := []) rfl (by
      intro i hi
      rw [getD_lt hi]
      have hb : byteAt s i = (s[i]).toNat := byteAt_lt hi
      refine out_if (by simpa using hi) (out_bind (r := (0, [.bool !(q s[i])])) (out_if (by simpa using inb_nat hi) ?_) (sel0 ?_))
      · simp only [gd_zero, D.i_int, Int.toNat_natCast, D.s_str, hb, q]
        by_cases hlo : ((s[i]).toNat : Int) < 32
        · have : decide (32 ≤ (s[i]).toNat) = false := by simp; omega
          exact out_if (decide_eq_true hlo) (by rw [this]; rfl)
        · have h1 : decide (32 ≤ (s[i]).toNat) = true := by simp; omega
          refine out_else (fun h => hlo (of_decide_eq_true h)) ?_
          have : decide (((s[i]).toNat : Int) > 126) = !(decide ((s[i]).toNat ≤ 126)) := by
            rw [Bool.eq_iff_iff]; simp; omega
          rw [h1, this]; rfl
      · cases q s[i] with
        | true => simp [wrap_succ hi hsm]
        | false => rfl) (by simp)
    rw [all_allN s q 0] at hloop
    unfold txtOk
    cases hq : s.all (fun c => decide (32 ≤ c.toNat) && decide (c.toNat ≤ 126)) with
    | false =>
      rw [show s.all q = false from hq] at hloop
      exact ⟨[], rn_else e1 (rn_bind0 hj (rn_else (by simp) (rn_else e6 (rn_else e15 (rn_if rfl (rn_bind hloop (by simp)))))))⟩
    | true =>
      rw [show s.all q = true from hq] at hloop
      refine ⟨bytesStr [.int (IntKind.wrap .u8 (s.length : Int))] ++ s, rn_else e1 (rn_bind0 hj (rn_else (by simp) (rn_else e6 (rn_else e15 (rn_if rfl (rn_bind hloop (rn_if (cat_ok ?_) ?_)))))))⟩
      · rw [D.s_str, hb1, List.length_singleton]; omega
      · have : decide ((s.length : Int) ≤ 30) = decide (s.length ≤ 30) := by rw [Bool.eq_iff_iff]; simp; omega
        rw [D.s_str, this, Bool.and_true]; rfl
  rw [if_neg k16]
  have e16 : ¬ ((D.int k).i == 16) = true := by simpa using k16
  exact ⟨[], rn_else e1 (rn_bind0 hj (rn_else (by simp) (rn_else e6 (rn_else e15 (rn_else e16 rfl)))))⟩
theorem data_len {k : Int} {s : List UInt8} (h : dataOk k s = true) : s.length ≤ 100 := by
  have num_len : ∀ {s : List UInt8} {m : Int}, m < 10000000000 → numOk s m = true → s.length ≤ 10 := by
    intro s m hm h
    unfold numOk at h
    simp only [Bool.and_eq_true, decide_eq_true_eq] at h
    rw [(canon_iff s).1 h.1]
    exact dec_len (k := 10) (by omega) (by omega)
  have tgt_len : ∀ {s : List UInt8}, isTgt s = true → s.length ≤ 60 := by
    intro s h
    unfold isTgt isName at h
    simp only [Bool.and_eq_true, decide_eq_true_eq] at h
    exact h.2.1.1
  unfold dataOk at h
  split at h
  · unfold addrOk at h
    simp only [Bool.and_eq_true, List.all_eq_true, decide_eq_true_eq] at h
    have hs := lens_splB 46 s
    obtain ⟨hp, h4⟩ := h
    have hle : ∀ p ∈ splB 46 s, p.length ≤ 10 := fun p hpm => num_len (by decide) (hp p hpm)
    unfold lens at hs
    generalize splB 46 s = ps at hs hle h4
    match ps, h4 with
    | [a, b, c, d], _ =>
      have h1 := hle a (by simp)
      have h2 := hle b (by simp)
      have h3 := hle c (by simp)
      have h5 := hle d (by simp)
      simp at hs
      omega
  · split at h
    · have := tgt_len h; omega
    · split at h
      · have := num_len (by decide) h; omega
      · split at h
        · unfold mxOk at h
          have hs := lens_splB 32 s
          unfold lens at hs
          unfold mxP at h
          split at h
          · rename_i a b hab
            rw [hab] at hs
            simp only [Bool.and_eq_true] at h
            have h1 := num_len (by decide) h.1
            have h2 := tgt_len h.2
            simp at hs
            omega
          · cases h
        · split at h
          · unfold txtOk at h
            simp only [Bool.and_eq_true, decide_eq_true_eq] at h
            omega
          · cases h
end Go.Proofs.YtbcocgbppbjdhaaGreatDoor
namespace Go.Proofs.YtbcocgbppbjdhaaGreatDoor
open Go Go.Own
theorem bytesStr_one (n : Nat) : bytesStr [.int (n : Int)] = [UInt8.ofNat n] := by
  simp only [bytesStr, List.map_cons, List.map_nil, D.i_int, Int.toNat_natCast]
structure Rec where
  name : List UInt8
  type : Int
  ttl : Int
  data : List UInt8
def Rec.d (r : Rec) : D := .pair (.str r.name) (.pair (.int r.type) (.pair (.int r.ttl) (.pair (.str r.data) .unit)))
structure Rec.In (B : Nat) (r : Rec) : Prop where
  name : r.name.length ≤ B
  data : r.data.length ≤ B
def inP (n lo hi : Int) : Bool := decide (lo ≤ n) && decide (n ≤ hi)
def Rec.ok (r : Rec) : Bool := dataOk r.type r.data && (isName r.name && inP r.ttl 0 100000)
theorem f_withinP (a b c : Int) : e_impl_within.F [.int a, .int b, .int c] = some (.bool (inP a b c)) := f_within a b c
theorem f_l1InP (a b c : Int) : e_spec_l1In.F [.int a, .int b, .int c] = some (.bool (inP a b c)) := f_l1In a b c
theorem f_goodRec {r : Rec} (hr : r.In lim) : e_impl_GoodRecord.F [r.d] = some (.bool r.ok) := by
  rw [q_impl_GoodRecord]
  have f0 : r.d.fld 0 = .str r.name := rfl
  have f1 : r.d.fld 1 = .int r.type := rfl
  have f2 : r.d.fld 2 = .int r.ttl := rfl
  have f3 : r.d.fld 3 = .str r.data := rfl
  rw [f0, f1, f2, f3]
  have hn := f_GoodName r.name
  have hw := f_withinP r.ttl 0 100000
  obtain ⟨b, hd⟩ := f_data (k := r.type) hr.data
  unfold Rec.ok
  cases h1 : isName r.name with
  | false =>
    rw [h1] at hn
    refine rn_bind0 (l := [.bool true]) (out_call hn (out_if rfl rfl)) (rn_if rfl ?_)
    simp
  | true =>
    rw [h1] at hn
    cases h2 : inP r.ttl 0 100000 with
    | false =>
      rw [h2] at hw
      refine rn_bind0 (l := [.bool true]) (out_call hn (out_else (by simp) (out_call hw (out_if rfl rfl)))) (rn_if rfl ?_)
      simp
    | true =>
      rw [h2] at hw
      by_cases h100 : (r.data.length : Int) > 100
      · refine rn_bind0 (l := [.bool true]) (out_call hn (out_else (by simp) (out_call hw (out_else (by simp) ?_)))) (rn_if rfl ?_)
        · rw [D.s_str, decide_eq_true h100]
        · cases h3 : dataOk r.type r.data with
          | false => rfl
          | true => have := data_len h3; omega
      · refine rn_bind0 (l := [.bool false]) (out_call hn (out_else (by simp) (out_call hw (out_else (by simp) ?_)))) (rn_else (by simp) (rn_call hd ?_))
        · rw [D.s_str, decide_eq_false h100]
        · simp
theorem f_goodRecS {r : Rec} (hr : r.In lim) : e_spec_GoodRecord.F [r.d] = some (.bool r.ok) := by
  rw [q_spec_GoodRecord]
  have f0 : r.d.fld 0 = .str r.name := rfl
  have f1 : r.d.fld 1 = .int r.type := rfl
  have f2 : r.d.fld 2 = .int r.ttl := rfl
  have f3 : r.d.fld 3 = .str r.data := rfl
  rw [f0, f1, f2, f3]
  have hn := f_specGoodName r.name hr.name
  have hw := f_l1InP r.ttl 0 100000
  obtain ⟨b, hd⟩ := f_l3 (k := r.type) hr.data
  unfold Rec.ok
  refine rn_call hd (rn_bind0 (l := [.bool (dataOk r.type r.data && (isName r.name && inP r.ttl 0 100000))]) ?_ rfl)
  cases h1 : dataOk r.type r.data with
  | false => exact out_else (by simp) rfl
  | true =>
    refine out_if rfl ?_
    cases h2 : isName r.name with
    | false => rw [h2] at hn; exact out_call hn (out_else (by simp) rfl)
    | true => rw [h2] at hn; exact out_call hn (out_if rfl (out_call hw (by simp)))
def told (s : List UInt8) : List UInt8 := if s.isEmpty then [46] else s
def Rec.text (r : Rec) : List UInt8 := (((((told r.name ++ [32]) ++ Lib.itoa r.ttl) ++ [32]) ++ Lib.itoa r.type) ++ [32]) ++ r.data
theorem type_R {r : Rec} (h : r.ok = true) : 0 ≤ r.type ∧ r.type ≤ 16 := by
  unfold Rec.ok dataOk at h
  simp only [Bool.and_eq_true] at h
  have h1 := h.1
  split at h1
  · omega
  · split at h1
    · omega
    · split at h1
      · omega
      · split at h1
        · omega
        · split at h1
          · omega
          · cases h1
structure Rec.Sizes (r : Rec) : Prop where
  name : (told r.name).length ≤ 60
  data : r.data.length ≤ 100
  t0 : 0 ≤ r.ttl
  t1 : r.ttl < 10 ^ 18
  k0 : 0 ≤ r.type
  k1 : r.type < 10 ^ 18
theorem Rec.sizes {r : Rec} (h : r.ok = true) : r.Sizes := by
  have hp18 : (10 : Int) ^ 18 = 1000000000000000000 := by decide
  have ht := type_R h
  unfold Rec.ok at h
  simp only [Bool.and_eq_true, inP, decide_eq_true_eq] at h
  have hn := h.2.1
  unfold isName at hn
  simp only [Bool.and_eq_true, decide_eq_true_eq] at hn
  refine ⟨?_, data_len h.1, by omega, by omega, by omega, by omega⟩
  unfold told
  split
  · simp
  · exact hn.1
theorem Rec.text_len {r : Rec} (h : r.Sizes) : r.text.length ≤ 200 := by
  have h1 := itoa_len h.t0 h.t1
  have h2 := itoa_len h.k0 h.k1
  have h3 := h.name
  have h4 := h.data
  simp only [Rec.text, List.length_append, List.length_singleton]
  omega
theorem cat_s {a b : List UInt8} (h : a.length + b.length ≤ 100000) : catOk a b = true := by
  unfold catOk
  rw [smax_eq]
  exact decide_eq_true (by omega)
end Go.Proofs.YtbcocgbppbjdhaaGreatDoor
