/- What the functions compute, in plain words. -/
import Derived.Test.YtobighfemobgjaaGreatDoorP4
set_option linter.unusedSectionVars false
set_option linter.unusedVariables false
set_option linter.unusedSimpArgs false
namespace Go.Proofs.YtobighfemobgjaaGreatDoor
open Go Go.Own
noncomputable def specRound (T : D) : List D → Outc := fun l5 =>
          (loopF (specScan T (gd l5 0) (gd l5 1)) [(.int (-1)), (.int (-1)), (.int 0)]).bind fun o8 =>
          sel2 o8.1 ((if (decide ((gd o8.2 0).i < 0)) then
                ou 0 [(.bool true)]
              else
                ou 0 [(.bool (decide ((gd o8.2 1).i < 0)))]).bind fun o10 =>
            sel2 o10.1 (if (gd o10.2 0).b then
                ou 1 [(gd l5 2), (.bool true)]
              else
                if (inb (gd o8.2 0).i (gd l5 0).l.length) then
                if (inb (gd o8.2 0).i (gd l5 2).l.length) then
                if (inb (gd o8.2 1).i (gd l5 0).l.length) then
                if (inb (gd o8.2 0).i (gd l5 1).l.length) then
                ou 0 [(D.lst ((gd l5 0).l.set (gd o8.2 1).i.toNat (.int (IntKind.wrap .i64 ((gd (gd l5 0).l (gd o8.2 1).i.toNat).i - (IntKind.wrap .i64 (T.i - (gd (gd l5 0).l (gd o8.2 0).i.toNat).i))))))), (D.lst ((gd l5 1).l.set (gd o8.2 0).i.toNat (.bool true))), (D.lst ((gd l5 2).l.set (gd o8.2 0).i.toNat (.pair (gd (gd l5 0).l (gd o8.2 0).i.toNat) (.pair (gd o8.2 1) .unit))))]
                else none
                else none
                else none
                else none) fun _ => none) fun _ => none
def implScan (T : D) (left done : D) : List D → Outc := fun l7 =>
            if (decide ((gd l7 0).i < (left.l.length : Int))) then
              if (inb (gd l7 0).i left.l.length) then
              (if (inb (gd l7 0).i done.l.length) then
                if (!(gd done.l (gd l7 0).i.toNat).b) then
                  ou 0 [(.bool (decide ((gd left.l (gd l7 0).i.toNat).i < T.i)))]
                else
                  ou 0 [(.bool false)]
                else none).bind fun o8 =>
              sel2 o8.1 (if (gd o8.2 0).b then
                  ou 1 [(gd l7 0)]
                else
                  ou 0 [(.int (IntKind.wrap .i64 ((gd l7 0).i + 1)))]) fun _ => none
              else none
            else
              ou 1 [(.int (-1))]
noncomputable def implRound (T : D) : List D → Outc := fun l4 =>
        (loopF (implScan T (gd l4 0) (gd l4 2)) [(.int 0)]).bind fun o7 =>
        sel2 o7.1 (if (decide ((gd o7.2 0).i < 0)) then
            ou 1 [(gd l4 1)]
          else
            (e_slices_IndexFunc_int_int__impl_aliasOf_1.F [(gd l4 0), (.pair T .unit)]).bind fun r8 =>
            if (inb (gd o7.2 0).i (gd l4 0).l.length) then
            if (inb (gd o7.2 0).i (gd l4 1).l.length) then
            if (inb r8.i (gd l4 0).l.length) then
            if (inb (gd o7.2 0).i (gd l4 2).l.length) then
            ou 0 [(D.lst ((gd l4 0).l.set r8.i.toNat (.int (IntKind.wrap .i64 ((gd (gd l4 0).l r8.i.toNat).i - (IntKind.wrap .i64 (T.i - (gd (gd l4 0).l (gd o7.2 0).i.toNat).i))))))), (D.lst ((gd l4 1).l.set (gd o7.2 0).i.toNat (.pair (gd (gd l4 0).l (gd o7.2 0).i.toNat) (.pair r8 .unit)))), (D.lst ((gd l4 2).l.set (gd o7.2 0).i.toNat (.bool true)))]
            else none
            else none
            else none
            else none) fun _ => none
theorem out_bind0 {o : Outc} {l : List D} {A : Nat × List D → Outc} {B : Nat × List D → Nat → Outc} {R : Option (Nat × List D)} (h : o = some (0, l)) (hk : A (0, l) = R) : (o.bind fun o => sel2 o.1 (A o) (B o)) = R := by
  rw [h]; exact hk
theorem implScan_is {T : Int} {left : List Int} {done : List Bool} (hd : done.length = left.length) (hl : left.length ≤ 12) :
    loopF (implScan (.int T) (nd left) (bd done)) [.int 0] = some (0, [.int (fst (lowQ T left done) left.length)]) := by
  have hsm : left.length ≤ smax := by have : smax = 9223372036854775807 := rfl; omega
  have step : ∀ i, i < left.length → (if (inb (i : Int) (done.map D.bool).length) then
                if (!(gd (done.map D.bool) i).b) then
                  ou 0 [(.bool (decide ((gd (left.map D.int) i).i < T)))]
                else
                  ou 0 [(.bool false)]
                else none) = some (0, [.bool (lowQ T left done i)]) := by
    intro i hi
    have hid : i < done.length := by omega
    rw [if_pos (inb_nat (by simpa using hid)), gd_bd hid, gd_nd hi]
    cases hdn : done[i] with
    | true => simp [lowQ, hi, hid, hdn, ou]
    | false =>
      simp [lowQ, hi, hid, hdn, ou]
      rfl
  rcases loop_find (f := implScan (.int T) (nd left) (bd done)) (l := [.int 0]) (fun i => [.int i]) left.length (fun i => !(lowQ T left done i)) (t1 := 0) (t2 := 0) (o1 := fun i => [.int i]) (o2 := [.int (-1)]) rfl
    (by intro i hi hp
        have h2 : lowQ T left done i = false := by simpa using hp
        have st := step i hi
        rw [h2] at st
        unfold implScan
        simp only [gd_zero, nd, bd, D.l_lst, D.i_int, Int.toNat_natCast, wrap_succ hi hsm]
        exact out_if (decide_eq_true (by simp [hi])) (out_if (inb_nat (by simpa using hi)) (out_bind st rfl)))
    (by intro i hi hp
        have h2 : lowQ T left done i = true := by simpa using hp
        have st := step i hi
        rw [h2] at st
        unfold implScan
        simp only [gd_zero, nd, bd, D.l_lst, D.i_int, Int.toNat_natCast]
        exact out_if (decide_eq_true (by simp [hi])) (out_if (inb_nat (by simpa using hi)) (out_bind st rfl)))
    (by unfold implScan; exact out_else (by simp [nd]) rfl) with ⟨ha, hloop⟩ | ⟨k, hk, hp, hn, hloop⟩
  · rw [hloop, fst_none fun i hi => by simpa using ha i hi]
  · rw [hloop, fst_some hk (by simpa using hp) fun i hi => by simpa using hn i hi]
theorem f_indexMore {T : Int} {left : List Int} (hl : left.length ≤ 12) : e_slices_IndexFunc_int_int__impl_aliasOf_1.F [nd left, .pair (.int T) .unit] = some (.int (fst (fun i => decide (left.getD i 0 > T)) left.length)) := by
  have hsm : left.length ≤ smax := by have : smax = 9223372036854775807 := rfl; omega
  have f0 : (D.pair (.int T) .unit).fld 0 = .int T := rfl
  rw [q_slices_IndexFunc_int_int__impl_aliasOf_1, f0]
  have k1 : ∀ n : Int, e_impl_aliasOf_1.F [.int n, .int T] = some (.bool (decide (n > T))) := by
    intro n; rw [q_impl_aliasOf_1]; rfl
  rcases loop_find (f := fun l2 =>
      if (decide ((gd l2 0).i < (((nd left).l.length : Nat) : Int))) then
        if (inb (gd l2 0).i (nd left).l.length) then
        (e_impl_aliasOf_1.F [(gd (nd left).l (gd l2 0).i.toNat), (.int T)]).bind fun r3 =>
        if r3.b then
          ou 1 [(gd l2 0)]
        else
          ou 0 [(.int (IntKind.wrap .i64 ((gd l2 0).i + 1)))]
        else none
      else
        ou 2 []) (l := [.int 0]) (fun i => [.int i]) left.length (fun i => !(decide (left.getD i 0 > T))) (t1 := 0) (t2 := 1) (o1 := fun i => [.int i]) (o2 := []) rfl
    (by intro i hi hp
        have h2 : decide (left[i] > T) = false := by simpa [hi] using hp
        have st := k1 left[i]
        rw [h2] at st
        simp [hi, nd, gd_nd hi, inb_nat hi, wrap_succ hi hsm, st])
    (by intro i hi hp
        have h2 : decide (left[i] > T) = true := by simpa [hi] using hp
        have st := k1 left[i]
        rw [h2] at st
        simp [hi, nd, gd_nd hi, inb_nat hi, st])
    (by simp [nd]) with ⟨ha, hloop⟩ | ⟨k, hk, hp, hn, hloop⟩
  · refine rn_bind hloop ?_
    rw [fst_none fun i hi => by simpa using ha i hi]; rfl
  · refine rn_bind hloop ?_
    rw [fst_some hk (by simpa using hp) fun i hi => by simpa using hn i hi]; rfl
theorem Al.more {T n left done cols W} (h : Al T n left done cols W) {j : Nat} (hj : j < n) (hq : highQ T left done j = true) (hn : ∀ i, i < j → highQ T left done i = false) : fst (fun i => decide (left.getD i 0 > T)) n = j := by
  refine fst_some hj ?_ fun i hi => ?_
  · simp only [highQ, Bool.and_eq_true] at hq; exact hq.2
  · have h1 := hn i hi
    cases hd : done.getD i false with
    | true => have := h.dn i (by omega) hd; simp only [decide_eq_false_iff_not]; omega
    | false => simpa only [highQ, hd, Bool.not_false, Bool.true_and] using h1
theorem getD_get {l : List Int} {i : Nat} (h : i < l.length) : l.getD i 0 = l[i] := by simp [h]
theorem rounds : ∀ (m : Nat) {T : Int} {n : Nat} {left : List Int} {done : List Bool} {cols : List (Int × Int)} {W : Nat → Int}, Al T n left done cols W → done.count false ≤ m →
    ∃ cols' : List (Int × Int), cols'.length = n ∧ (∀ c ∈ cols', (0 ≤ c.1 ∧ c.1 ≤ T) ∧ 0 ≤ c.2 ∧ c.2 < n) ∧ (∀ k, k < n → colS T cols' n k = W k) ∧ loopF (specRound (.int T)) [nd left, bd done, cd cols] = some (0, [cd cols', .bool true]) ∧ loopF (implRound (.int T)) [nd left, cd cols, bd done] = some (0, [cd cols']) := by
  intro m
  induction m with
  | zero =>
    intro T n left done cols W h hc
    have hno : ∀ i, i < n → lowQ T left done i = false := by
      intro i hi
      have hid : i < done.length := by rw [h.dl]; exact hi
      have h0 : done.count false = 0 := by omega
      have hm : ¬ (false ∈ done) := List.count_eq_zero.1 h0
      have : done[i] = true := by
        cases hd : done[i] with
        | true => rfl
        | false => exact absurd (hd ▸ List.getElem_mem hid) hm
      simp [lowQ, hid, this]
    have e := fst_none (n := n) hno
    have s1 := specScan_is (T := T) (left := left) (done := done) (by rw [h.dl, h.ll]) (by rw [h.ll]; exact h.n12)
    have s2 := implScan_is (T := T) (left := left) (done := done) (by rw [h.dl, h.ll]) (by rw [h.ll]; exact h.n12)
    rw [h.ll, e] at s1 s2
    refine ⟨cols, h.cl, h.co, h.fin hno, loopF_exit (out_bind0 s1 (out_bind0 (l := [.bool true]) (out_if rfl rfl) rfl)), loopF_exit (out_bind0 s2 (out_if rfl rfl))⟩
  | succ m ih =>
    intro T n left done cols W h hc
    have s1 := specScan_is (T := T) (left := left) (done := done) (by rw [h.dl, h.ll]) (by rw [h.ll]; exact h.n12)
    have s2 := implScan_is (T := T) (left := left) (done := done) (by rw [h.dl, h.ll]) (by rw [h.ll]; exact h.n12)
    rw [h.ll] at s1 s2
    rcases fst_facts (lowQ T left done) n with ⟨e, hno⟩ | ⟨k, e, hk, hqk, _⟩
    · rw [e] at s1 s2
      exact ⟨cols, h.cl, h.co, h.fin hno, loopF_exit (out_bind0 s1 (out_bind0 (l := [.bool true]) (out_if rfl rfl) rfl)), loopF_exit (out_bind0 s2 (out_if rfl rfl))⟩
    · obtain ⟨j, ej, hj, hqj, hnj⟩ := h.high hk hqk
      rw [e, ej] at s1
      rw [e] at s2
      have hx := h.next hk hqk hj hqj
      have hkl : k < left.length := by rw [h.ll]; exact hk
      have hjl : j < left.length := by rw [h.ll]; exact hj
      have hkd : k < done.length := by rw [h.dl]; exact hk
      have hkc : k < cols.length := by rw [h.cl]; exact hk
      have hdk : done.getD k false = false := by
        simp only [lowQ, Bool.and_eq_true, Bool.not_eq_true'] at hqk; exact hqk.1
      have hcnt := count_set_true hkd hdk
      obtain ⟨cols', c1, c2, cw, c3, c4⟩ := ih hx (by omega)
      have b1 := h.lo k hk
      have b2 := h.lo j hj
      have t0 := h.t0
      rw [getD_get hkl] at b1
      rw [getD_get hjl] at b2
      have w1 : IntKind.wrap .i64 (T - left[k]) = T - left[k] := by rw [wrap_id] <;> omega
      have w2 : IntKind.wrap .i64 (left[j] - (T - left[k])) = left[j] - (T - left[k]) := by rw [wrap_id] <;> omega
      rw [getD_get hkl, getD_get hjl] at c3 c4
      have hnk : ¬ (decide ((k : Int) < 0)) = true := fun hh => absurd (of_decide_eq_true hh) (by omega)
      have hnj' : decide ((j : Int) < 0) = false := decide_eq_false (by omega)
      have hmore := f_indexMore (T := T) (left := left) (by rw [h.ll]; exact h.n12)
      rw [h.ll, h.more hj hqj hnj] at hmore
      have n1 : (nd left).l.set j (.int (left[j] - (T - left[k]))) = (left.set j (left[j] - (T - left[k]))).map D.int := by simp [nd, List.map_set]
      have n2 : (bd done).l.set k (.bool true) = (done.set k true).map D.bool := by simp [bd, List.map_set]
      have n3 : (cd cols).l.set k (cold (left[k], (j : Int))) = (cols.set k (left[k], (j : Int))).map cold := by simp [cd, List.map_set]
      refine ⟨cols', c1, c2, cw, ?_, ?_⟩
      · rw [← c3]
        refine loopF_step (out_bind0 s1 (out_bind0 (l := [.bool false]) (out_else hnk (by simp only [gd_one, D.i_int, hnj']; rfl)) ?_))
        refine out_else (by simp) ?_
        refine out_if (inb_nat (by simpa [nd] using hkl)) (out_if (inb_nat (by simpa [cd] using hkc)) (out_if (inb_nat (by simpa [nd] using hjl)) (out_if (inb_nat (by simpa [bd] using hkd)) ?_)))
        have g1 : gd (nd left).l j = .int left[j] := gd_nd hjl
        have g2 : gd (nd left).l k = .int left[k] := gd_nd hkl
        simp only [gd_zero, gd_one, gd_two, D.i_int, Int.toNat_natCast, g1, g2, w1, w2, n1, n2]
        rw [show (D.pair (.int left[k]) (.pair (.int (j : Int)) .unit)) = cold (left[k], (j : Int)) from rfl, n3]
        rfl
      · rw [← c4]
        refine loopF_step (out_bind0 s2 (out_else hnk (out_call hmore ?_)))
        refine out_if (inb_nat (by simpa [nd] using hkl)) (out_if (inb_nat (by simpa [cd] using hkc)) (out_if (inb_nat (by simpa [nd] using hjl)) (out_if (inb_nat (by simpa [bd] using hkd)) ?_)))
        have g1 : gd (nd left).l j = .int left[j] := gd_nd hjl
        have g2 : gd (nd left).l k = .int left[k] := gd_nd hkl
        simp only [gd_zero, gd_one, gd_two, D.i_int, Int.toNat_natCast, g1, g2, w1, w2, n1, n2]
        rw [show (D.pair (.int left[k]) (.pair (.int (j : Int)) .unit)) = cold (left[k], (j : Int)) from rfl, n3]
        rfl
end Go.Proofs.YtobighfemobgjaaGreatDoor
namespace Go.Proofs.YtobighfemobgjaaGreatDoor
open Go Go.Own
structure Wts (ws : List Int) : Prop where
  n1 : 1 ≤ ws.length
  n12 : ws.length ≤ 12
  b : ∀ w ∈ ws, 1 ≤ w ∧ w ≤ 50
theorem Wts.big {ws : List Int} (h : Wts ws) : ∀ x ∈ ws, 0 ≤ x ∧ x ≤ 10000 := fun x hx => by have := h.b x hx; omega
theorem sum_pos : ∀ {ws : List Int}, 1 ≤ ws.length → (∀ w ∈ ws, 1 ≤ w ∧ w ≤ 50) → 1 ≤ ws.sum
  | [], h, _ => by simp at h
  | a :: l, _, h => by
    have ha := h a (by simp)
    have hl := sum_bound (l := l) (B := 50) fun x hx => by have := h x (by simp [hx]); omega
    rw [List.sum_cons]; omega
theorem Wts.sum {ws : List Int} (h : Wts ws) : 1 ≤ ws.sum ∧ ws.sum ≤ 600 := by
  have h1 := sum_bound (l := ws) (B := 50) fun x hx => by have := h.b x hx; omega
  have h2 := h.n12
  have h3 := sum_pos h.n1 h.b
  omega
def left0 (ws : List Int) : List Int := ws.map (· * (ws.length : Int))
def cols0 (ws : List Int) : List (Int × Int) := (List.range ws.length).map fun i : Nat => (ws.sum, (i : Int))
theorem getD_map_mul {ws : List Int} {i : Nat} (hi : i < ws.length) : (left0 ws).getD i 0 = ws.getD i 0 * ws.length := by
  simp [left0, hi]
theorem sum_left {ws : List Int} (T : Int) : ∀ m, m ≤ ws.length → sumN (fun i => ws.getD i 0 * (ws.length : Int) - T) m = (ws.take m).sum * ws.length - m * T
  | 0, _ => by simp [sumN]
  | m + 1, h => by
    rw [sumN, sum_left T m (by omega), sum_take_succ (by omega)]
    have hm : m < ws.length := by omega
    have e : ws.getD m 0 = ws[m] := by simp [hm]
    rw [e, Int.add_mul, Int.natCast_add, Int.add_mul]
    simp only [Int.natCast_one, Int.one_mul]
    omega
theorem Al.start {ws : List Int} (h : Wts ws) : Al ws.sum ws.length (left0 ws) (List.replicate ws.length false) (cols0 ws) (fun k => ws.getD k 0 * ws.length) := by
  have hs := h.sum
  refine ⟨by simp [left0], by simp, by simp [cols0], h.n12, by omega, ?_, ?_, ?_, ?_, ?_, ?_⟩
  · intro i hi
    rw [getD_map_mul hi]
    have hw := h.b _ (List.getElem_mem hi)
    have e : ws.getD i 0 = ws[i] := by simp [hi]
    rw [e]
    have h1 : 0 ≤ ws[i] * (ws.length : Int) := Int.mul_nonneg (by omega) (by omega)
    have h2 : ws[i] * (ws.length : Int) ≤ 50 * (ws.length : Int) := Int.mul_le_mul_of_nonneg_right hw.2 (by omega)
    have h3 := h.n12
    omega
  · intro i hi hd
    simp [hi] at hd
  · intro c hc
    obtain ⟨i, hi, rfl⟩ := List.mem_map.1 hc
    have hi' := List.mem_range.1 hi
    refine ⟨⟨by show 0 ≤ ws.sum; omega, Int.le_refl _⟩, by show 0 ≤ (i : Int); omega, by show (i : Int) < (ws.length : Int); omega⟩
  · have e : sumN (exc ws.sum (left0 ws) (List.replicate ws.length false)) ws.length = sumN (fun i => ws.getD i 0 * (ws.length : Int) - ws.sum) ws.length := by
      refine sumN_congr _ fun i hi => ?_
      unfold exc
      rw [getD_map_mul hi]
      simp [hi]
    rw [e, sum_left ws.sum ws.length (Nat.le_refl _), List.take_length, Int.mul_comm]
    omega
  · intro i hi _
    simp [cols0, hi]
  · intro k hk
    have hd : (List.replicate ws.length false).getD k false = false := by simp [hk]
    rw [hd, getD_map_mul hk]
    simp only [Bool.false_eq_true, if_false]
    have e1 : colS ws.sum (cols0 ws) ws.length k = sumN (fun i => if i = k then ws.sum else 0) ws.length := by
      refine sumN_congr _ fun i hi => ?_
      unfold colF
      have : (cols0 ws).getD i (0, 0) = (ws.sum, (i : Int)) := by simp [cols0, hi]
      rw [this]
      simp
    have e2 := sumN_one (f := fun _ => (0 : Int)) (g := fun i => if i = k then ws.sum else 0) (a := k) (fun i hi => by simp [hi]) ws.length
    have e3 : ∀ m, sumN (fun _ => (0 : Int)) m = 0 := by intro m; induction m with | zero => rfl | succ m ih => simp [sumN, ih]
    rw [e1, e2, e3, if_pos hk]
    simp only [if_true]
    omega
theorem makeOkN {n e : Nat} (h : n ≤ 12) (he : e ≤ 16) : makeOk e (n : Int) = true := by
  have hs : smax = 9223372036854775807 := rfl
  have : n * e ≤ 12 * 16 := Nat.mul_le_mul h he
  simp only [makeOk, Int.toNat_natCast, hs, Bool.and_eq_true, decide_eq_true_eq]
  omega
theorem mul_wrap {ws : List Int} (h : Wts ws) {i : Nat} (hi : i < ws.length) : IntKind.wrap .i64 (ws[i] * (ws.length : Int)) = ws[i] * ws.length := by
  have hw := h.b _ (List.getElem_mem hi)
  have h1 : 0 ≤ ws[i] * (ws.length : Int) := Int.mul_nonneg (by omega) (by omega)
  have h2 : ws[i] * (ws.length : Int) ≤ 50 * (ws.length : Int) := Int.mul_le_mul_of_nonneg_right hw.2 (by omega)
  have h3 := h.n12
  rw [wrap_id] <;> omega
theorem f_GoodWeights {ws : List Int} (h : Wts ws) : e_spec_GoodWeights.F [nd ws] = some (.bool true) := by
  have hs := h.sum
  have hsm : ws.length ≤ smax := by have : smax = 9223372036854775807 := rfl; have := h.n12; omega
  rw [q_spec_GoodWeights]
  refine rn_bind (loop_for' (fun i (_ : Unit) => [.int (ws.take i).sum, .int i]) ws.length (fun _ => ()) (t := 1) (o := [.int ws.sum]) (by simp) ?_ ?_) ?_
  · intro i hi
    have hb := sum_bound (l := ws.take i) (B := 50) fun x hx => by have := h.b x (List.mem_of_mem_take hx); omega
    have hlt : (ws.take i).length ≤ 12 := by have := h.n12; simp; omega
    have hx := h.b _ (List.getElem_mem hi)
    have hw : IntKind.wrap .i64 ((ws.take i).sum + ws[i]) = (ws.take i).sum + ws[i] := by rw [wrap_id] <;> omega
    have hin := f_l1InP ws[i] 0 50
    have hq : inP ws[i] 0 50 = true := by simp [inP]; omega
    rw [hq] at hin
    simp only [gd_zero, gd_one, nd, D.l_lst, D.i_int, Int.toNat_natCast, gd_nd hi, wrap_succ hi hsm, hw, List.length_map]
    rw [← sum_take_succ hi]
    exact out_if (decide_eq_true (by omega)) (out_if (inb_nat hi) (out_call hin (out_else (by simp) rfl)))
  · rw [List.take_length]
    exact out_else (by simp [nd]) rfl
  · have hin := f_l1InP ws.length 1 12
    have hq : inP ws.length 1 12 = true := by have := h.n1; have := h.n12; simp [inP]; omega
    rw [hq] at hin
    have hl : (((nd ws).l.length : Nat) : Int) = ws.length := by simp [nd]
    rw [hl]
    refine rn_bind (r := (0, [.bool true])) (out_call hin (out_if rfl ?_)) rfl
    show (ou 0 [.bool (decide (ws.sum > 0))] : Outc) = _
    rw [decide_eq_true (show ws.sum > 0 by omega)]
theorem f_AliasOf {ws : List Int} (h : Wts ws) : ∃ cols : List (Int × Int), cols.length = ws.length ∧ (∀ c ∈ cols, (0 ≤ c.1 ∧ c.1 ≤ ws.sum) ∧ 0 ≤ c.2 ∧ c.2 < (ws.length : Int)) ∧ (∀ k, k < ws.length → colS ws.sum cols ws.length k = ws.getD k 0 * ws.length) ∧
    e_spec_AliasOf.F [nd ws] = some (.pair (cd cols) (.pair (.bool true) .unit)) ∧ e_impl_aliasOf.F [nd ws] = some (cd cols) := by
  have hsm : ws.length ≤ smax := by have : smax = 9223372036854775807 := rfl; have := h.n12; omega
  have hn := h.n12
  obtain ⟨cols, c1, c2, cw, c3, c4⟩ := rounds ws.length (Al.start h) (by simp)
  have hl : (((nd ws).l.length : Nat) : Int) = ws.length := by simp [nd]
  have hrep : bd (List.replicate ws.length false) = D.lst (List.replicate ws.length (.bool false)) := by simp [bd]
  refine ⟨cols, c1, c2, cw, ?_, ?_⟩
  · rw [q_spec_AliasOf, hl]
    refine rn_call (f_GoodWeights h) (rn_else (by simp) (rn_call (f_l12Total h.n12 h.big) (rn_if (makeOkN hn (by decide)) (rn_if (makeOkN hn (by decide)) (rn_if (makeOkN hn (by decide)) ?_)))))
    obtain ⟨⟨L, C⟩, ⟨hL, hC, hg⟩, hloop⟩ := loop_inv (f := fun l3 =>
        if (decide ((gd l3 2).i < (ws.length : Int))) then
          if (inb (gd l3 2).i (nd ws).l.length) then
          if (inb (gd l3 2).i (gd l3 0).l.length) then
          if (inb (gd l3 2).i (gd l3 1).l.length) then
          ou 0 [(D.lst ((gd l3 0).l.set (gd l3 2).i.toNat (.int (IntKind.wrap .i64 ((gd (nd ws).l (gd l3 2).i.toNat).i * (ws.length : Int)))))), (D.lst ((gd l3 1).l.set (gd l3 2).i.toNat (.pair (.int ws.sum) (.pair (gd l3 2) .unit)))), (.int (IntKind.wrap .i64 ((gd l3 2).i + 1)))]
          else none
          else none
          else none
        else
          ou 1 [(gd l3 0), (gd l3 1)]) (l := [(D.lst (List.replicate (ws.length : Int).toNat (.int 0))), (D.lst (List.replicate (ws.length : Int).toNat (.pair (.int 0) (.pair (.int 0) .unit)))), (.int 0)])
      (fun i (s : List Int × List (Int × Int)) => [nd s.1, cd s.2, .int i]) (fun i s => s.1.length = ws.length ∧ s.2.length = ws.length ∧ ∀ j, j < i → s.1.getD j 0 = ws.getD j 0 * ws.length ∧ s.2.getD j (0, 0) = (ws.sum, (j : Int))) ws.length (t := 0) (out := fun s => [nd s.1, cd s.2])
      (List.replicate ws.length 0, List.replicate ws.length (0, 0)) (by simp [nd, cd, cold]) ⟨by simp, by simp, fun j hj => by omega⟩ (by
      rintro i ⟨L, C⟩ hi ⟨hL, hC, hg⟩
      simp only at hL hC hg
      refine ⟨(L.set i (ws[i] * ws.length), C.set i (ws.sum, (i : Int))), ?_, by simpa using hL, by simpa using hC, ?_⟩
      · have n1 : (L.map D.int).set i (.int (ws[i] * ws.length)) = (L.set i (ws[i] * ws.length)).map D.int := by simp [List.map_set]
        have n3 : (C.map cold).set i (cold (ws.sum, (i : Int))) = (C.set i (ws.sum, (i : Int))).map cold := by simp [List.map_set]
        simp only [gd_zero, gd_one, gd_two, nd, cd, D.l_lst, D.i_int, Int.toNat_natCast, gd_nd hi, mul_wrap h hi, wrap_succ hi hsm, List.length_map, n1]
        rw [show (D.pair (.int ws.sum) (.pair (.int (i : Int)) .unit)) = cold (ws.sum, (i : Int)) from rfl, n3]
        exact out_if (decide_eq_true (by omega)) (out_if (inb_nat hi) (out_if (inb_nat (by omega)) (out_if (inb_nat (by omega)) rfl)))
      · intro j hj
        show (L.set i (ws[i] * ws.length)).getD j 0 = _ ∧ (C.set i (ws.sum, (i : Int))).getD j (0, 0) = _
        rw [getD_set (by omega), getD_set (by omega)]
        by_cases hji : j = i
        · subst hji; rw [if_pos rfl, if_pos rfl]; exact ⟨by simp [hi], rfl⟩
        · rw [if_neg hji, if_neg hji]; exact hg j (by omega)) (by
      rintro ⟨L, C⟩ _
      exact out_else (by simp) rfl)
    simp only at hL hC hg
    have eL : L = left0 ws := by
      apply List.ext_getElem
      · simp [left0, hL]
      · intro j h1 h2
        have h3 := (hg j (by omega)).1
        have h4 : j < ws.length := by omega
        simp only [left0, List.getElem_map]
        simpa [h1, h4] using h3
    have eC : C = cols0 ws := by
      apply List.ext_getElem
      · simp [cols0, hC]
      · intro j h1 h2
        have h3 := (hg j (by omega)).2
        simp only [cols0, List.getElem_map, List.getElem_range]
        simpa [h1] using h3
    subst eL eC
    rw [hrep] at c3
    exact rn_bind0 hloop (rn_bind0 c3 rfl)
  · rw [q_impl_aliasOf, hl]
    refine rn_call (f_totalOf h.n12 h.big) ?_
    refine rn_bind0 (loop_for' (fun i (s : List Int × List (Int × Int)) => [nd s.1, cd s.2, .int i]) ws.length (fun i => ((left0 ws).take i, (cols0 ws).take i)) (t := 0) (o := [nd (left0 ws), cd (cols0 ws)]) (by simp [nd, cd]) ?_ ?_) ?_
    · intro i hi
      have hil : i < (left0 ws).length := by simpa [left0] using hi
      have hic : i < (cols0 ws).length := by simpa [cols0] using hi
      have k1 : ((left0 ws).take i).length = i := by simp; omega
      have k2 : ((cols0 ws).take i).length = i := by simp; omega
      have g1 : (left0 ws)[i] = ws[i] * ws.length := by simp [left0]
      have g2 : (cols0 ws)[i] = (ws.sum, (i : Int)) := by simp [cols0]
      rw [← List.take_append_getElem hil, ← List.take_append_getElem hic, g1, g2]
      generalize (left0 ws).take i = L at k1
      generalize (cols0 ws).take i = C at k2
      simp only [gd_zero, gd_one, gd_two, nd, cd, D.l_lst, D.i_int, Int.toNat_natCast, gd_nd hi, mul_wrap h hi, wrap_succ hi hsm, List.length_map]
      refine out_if (decide_eq_true (by omega)) (out_if (inb_nat hi) (out_if (appOk1 (by simp; omega)) (out_if ?_ ?_)))
      · have : smax = 9223372036854775807 := rfl
        simp only [appOk, List.length_map, List.length_cons, List.length_nil, this, Bool.and_eq_true, decide_eq_true_eq]
        omega
      · simp [cold]
    · rw [List.take_of_length_le (by simp [left0]), List.take_of_length_le (by simp [cols0])]
      exact out_else (by simp) rfl
    · rw [hrep] at c4
      exact rn_if (makeOkN hn (by decide)) (rn_bind0 c4 rfl)
end Go.Proofs.YtobighfemobgjaaGreatDoor
namespace Go.Proofs.YtobighfemobgjaaGreatDoor
open Go Go.Own
structure Cols (T : Int) (cols : List (Int × Int)) : Prop where
  n1 : 1 ≤ cols.length
  n12 : cols.length ≤ 12
  t : 1 ≤ T ∧ T ≤ 600
  co : ∀ c ∈ cols, (0 ≤ c.1 ∧ c.1 ≤ T) ∧ 0 ≤ c.2 ∧ c.2 < (cols.length : Int)
theorem cold0 (c : Int × Int) : ((cold c).fld 0).i = c.1 := rfl
theorem cold1 (c : Int × Int) : (cold c).fld 1 = .int c.2 := rfl
theorem f_GoodAlias {T : Int} {cols : List (Int × Int)} (h : Cols T cols) : e_spec_GoodAlias.F [cd cols] = some (.bool true) := by
  have hsm : cols.length ≤ smax := by have : smax = 9223372036854775807 := rfl; have := h.n12; omega
  have hl : (((cd cols).l.length : Nat) : Int) = cols.length := by simp [cd]
  have h12 := h.n12
  have h1 := h.n1
  have hw : IntKind.wrap .i64 ((cols.length : Int) - 1) = (cols.length : Int) - 1 := by rw [wrap_id] <;> omega
  rw [q_spec_GoodAlias, hl, hw]
  refine rn_bind (loop_for' (fun i (_ : Unit) => [.int i]) cols.length (fun _ => ()) (t := 1) (o := []) rfl ?_ ?_) ?_
  · intro i hi
    have hc := h.co _ (List.getElem_mem hi)
    have hin := f_l1InP cols[i].2 0 ((cols.length : Int) - 1)
    have hq : inP cols[i].2 0 ((cols.length : Int) - 1) = true := by simp [inP]; omega
    rw [hq] at hin
    simp only [gd_zero, cd, D.l_lst, D.i_int, Int.toNat_natCast, gd_cd hi, cold0, cold1, wrap_succ hi hsm, List.length_map]
    exact out_if (decide_eq_true (by omega)) (out_if (inb_nat hi) (out_bind0 (l := [.bool false]) (out_else (fun hh => absurd (of_decide_eq_true hh) (by omega)) (out_call hin rfl)) rfl))
  · exact out_else (by simp) rfl
  · have hin := f_l1InP cols.length 1 12
    have hq : inP cols.length 1 12 = true := by simp [inP]; omega
    rw [hq] at hin
    exact rn_call hin rfl
theorem f_l12Fits {T : Int} {cols : List (Int × Int)} (h : Cols T cols) : e_spec_l12Fits.F [cd cols, .int T] = some (.bool true) := by
  have hsm : cols.length ≤ smax := by have : smax = 9223372036854775807 := rfl; have := h.n12; omega
  have hl : (((cd cols).l.length : Nat) : Int) = cols.length := by simp [cd]
  have ht := h.t
  rw [q_spec_l12Fits, hl]
  refine rn_bind (loop_for' (fun i (_ : Unit) => [.int i]) cols.length (fun _ => ()) (t := 1) (o := []) rfl ?_ ?_) ?_
  · intro i hi
    have hc := h.co _ (List.getElem_mem hi)
    simp only [gd_zero, cd, D.l_lst, D.i_int, Int.toNat_natCast, gd_cd hi, cold0, wrap_succ hi hsm, List.length_map]
    exact out_if (decide_eq_true (by omega)) (out_if (inb_nat hi) (out_else (fun hh => absurd (of_decide_eq_true hh) (by omega)) rfl))
  · exact out_else (by simp) rfl
  · have hin := f_l1InP T 1 600
    have hq : inP T 1 600 = true := by simp [inP]; omega
    rw [hq] at hin
    exact rn_bind0 (l := [.bool true]) (out_call (f_GoodAlias h) (out_if rfl (out_call hin rfl))) rfl
theorem pick_facts {T : Int} {cols : List (Int × Int)} (h : Cols T cols) {d : Int} (h0 : 0 ≤ d) (h1 : d < (cols.length : Int) * T) : ∃ i : Nat, i = pk T cols d ∧ i < cols.length ∧ e_impl_pickBy.F [cd cols, .int T, .int d] = some (.int i) ∧ e_spec_PickBy.F [cd cols, .int T, .int d] = some (.pair (.int i) (.pair (.bool true) .unit)) := by
  have ht := h.t
  have h12 := h.n12
  have hn1 := h.n1
  have hl : (((cd cols).l.length : Nat) : Int) = cols.length := by simp [cd]
  have hmul : 0 ≤ (cols.length : Int) * T := Int.mul_nonneg (by omega) (by omega)
  have hmul2 : (cols.length : Int) * T ≤ 12 * 600 := by
    calc (cols.length : Int) * T ≤ 12 * T := Int.mul_le_mul_of_nonneg_right (by omega) (by omega)
      _ ≤ 12 * 600 := by omega
  have hq0 : 0 ≤ d.tdiv T := Int.tdiv_nonneg h0 (by omega)
  have hqe : d.tdiv T = d / T := Int.tdiv_eq_ediv_of_nonneg h0
  have hq1 : d.tdiv T < (cols.length : Int) := by rw [hqe]; exact Int.ediv_lt_of_lt_mul (by omega) h1
  obtain ⟨k, hk⟩ := Int.eq_ofNat_of_zero_le hq0
  have hkl : k < cols.length := by omega
  have hw : IntKind.wrap .i64 (d.tdiv T) = (k : Int) := by rw [hk, wrap_id] <;> omega
  have hw1 : IntKind.wrap .i64 ((cols.length : Int) * T) = (cols.length : Int) * T := by rw [wrap_id] <;> omega
  have hw2 : IntKind.wrap .i64 ((cols.length : Int) * T - 1) = (cols.length : Int) * T - 1 := by rw [wrap_id] <;> omega
  have hc := h.co _ (List.getElem_mem hkl)
  have hT : (T != 0) = true := by simp; omega
  have hin := f_l1InP d 0 ((cols.length : Int) * T - 1)
  have hqi : inP d 0 ((cols.length : Int) * T - 1) = true := by simp [inP]; omega
  rw [hqi] at hin
  have hg : gd (cd cols).l ((k : Int)).toNat = cold cols[k] := by
    rw [Int.toNat_natCast]; exact gd_cd hkl
  have hib : inb (k : Int) (cd cols).l.length = true := inb_nat (by simpa [cd] using hkl)
  rw [q_impl_pickBy, q_spec_PickBy, hl]
  simp only [D.i_int, hw, hw1, hw2, hg, cold0, cold1]
  have hgk : cols.getD k (0, 0) = cols[k] := by simp [hkl]
  have hpk : pk T cols d = if d.tmod T < cols[k].1 then k else cols[k].2.toNat := by
    unfold pk
    rw [hk, Int.toNat_natCast, hgk]
  by_cases hb : d.tmod T < cols[k].1
  · exact ⟨k, by rw [hpk, if_pos hb], hkl, rn_if hT (rn_if hib (rn_if (decide_eq_true hb) rfl)), rn_bind0 (l := [.bool false]) (out_call (f_l12Fits h) (out_else (by simp) (out_call hin rfl))) (rn_else (by simp) (rn_if hT (rn_if hib (rn_if (decide_eq_true hb) rfl))))⟩
  · obtain ⟨j, hj⟩ := Int.eq_ofNat_of_zero_le hc.2.1
    refine ⟨j, by rw [hpk, if_neg hb, hj]; simp, by omega, ?_, ?_⟩
    · rw [hj]
      exact rn_if hT (rn_if hib (rn_else (fun hh => hb (of_decide_eq_true hh)) rfl))
    · rw [hj]
      exact rn_bind0 (l := [.bool false]) (out_call (f_l12Fits h) (out_else (by simp) (out_call hin rfl))) (rn_else (by simp) (rn_if hT (rn_if hib (rn_else (fun hh => hb (of_decide_eq_true hh)) rfl))))
theorem weights_loop {p : Policy} {l : List Int} (hg : p.good = true) (hl : l.length ≤ p.ts.length) (hn : 1 ≤ l.length) (hm : ∀ x ∈ l, ∃ i : Nat, x = i ∧ i < p.ts.length) : ∃ ws : List Int, ws = l.map (wt0 p) ∧ Wts ws ∧ loopF (fun l5 =>
          if (decide ((gd l5 1).i < (((nd l).l.length : Nat) : Int))) then
            if (inb (gd l5 1).i (nd l).l.length) then
            if (inb (gd (nd l).l (gd l5 1).i.toNat).i (D.lst (p.ts.map Target.d)).l.length) then
            if (appOk 8 (gd l5 0).l (((gd (D.lst (p.ts.map Target.d)).l (gd (nd l).l (gd l5 1).i.toNat).i.toNat).fld 3) :: ([] : List D))) then
            ou 0 [(D.lst ((gd l5 0).l ++ (((gd (D.lst (p.ts.map Target.d)).l (gd (nd l).l (gd l5 1).i.toNat).i.toNat).fld 3) :: ([] : List D)))), (.int (IntKind.wrap .i64 ((gd l5 1).i + 1)))]
            else none
            else none
            else none
          else
            ou 1 [(gd l5 0)]) [(D.lst []), (.int 0)] = some (0, [nd ws]) := by
  obtain ⟨g1, g2, g3⟩ := Policy.good_facts hg
  have hsm : l.length ≤ smax := by have : smax = 9223372036854775807 := rfl; omega
  obtain ⟨ws, ⟨hz, hb⟩, hloop⟩ := loop_inv (f := fun l5 =>
          if (decide ((gd l5 1).i < (((nd l).l.length : Nat) : Int))) then
            if (inb (gd l5 1).i (nd l).l.length) then
            if (inb (gd (nd l).l (gd l5 1).i.toNat).i (D.lst (p.ts.map Target.d)).l.length) then
            if (appOk 8 (gd l5 0).l (((gd (D.lst (p.ts.map Target.d)).l (gd (nd l).l (gd l5 1).i.toNat).i.toNat).fld 3) :: ([] : List D))) then
            ou 0 [(D.lst ((gd l5 0).l ++ (((gd (D.lst (p.ts.map Target.d)).l (gd (nd l).l (gd l5 1).i.toNat).i.toNat).fld 3) :: ([] : List D)))), (.int (IntKind.wrap .i64 ((gd l5 1).i + 1)))]
            else none
            else none
            else none
          else
            ou 1 [(gd l5 0)]) (l := [(D.lst []), (.int 0)]) (fun i (zs : List Int) => [nd zs, .int i]) (fun i zs => zs = (l.take i).map (wt0 p) ∧ ∀ z ∈ zs, 1 ≤ z ∧ z ≤ 50) l.length (t := 0) (out := fun zs => [nd zs]) [] (by simp [nd]) ⟨by simp, by simp⟩ (by
    rintro i zs hi ⟨hz, hb⟩
    obtain ⟨k, hk, hkl⟩ := hm _ (List.getElem_mem hi)
    have hw := g3 _ (List.getElem_mem hkl)
    have hzl : zs.length = i := by rw [hz]; simp; omega
    refine ⟨zs ++ [p.ts[k].weight], ?_, ?_, ?_⟩
    · have ef : p.ts[k].d.fld 3 = .int p.ts[k].weight := rfl
      simp only [gd_zero, gd_one, nd, D.l_lst, D.i_int, Int.toNat_natCast, gd_nd hi, hk, gd_t hkl, ef, wrap_succ hi hsm, List.length_map]
      exact out_if (decide_eq_true (by omega)) (out_if (inb_nat hi) (out_if (inb_nat hkl) (out_if (appOk1 (by simp; omega)) (by simp))))
    · rw [List.take_add_one, List.map_append, ← hz]
      simp [hi, hk, wt0, hkl]
    · intro z hzm
      rcases List.mem_append.1 hzm with h | h
      · exact hb z h
      · simp only [List.mem_singleton] at h; subst h; exact hw) (by
    rintro zs _
    exact out_else (by simp [nd]) rfl)
  rw [List.take_length] at hz
  have hzl : ws.length = l.length := by rw [hz]; simp
  exact ⟨ws, hz, ⟨by omega, by omega, hb⟩, hloop⟩
end Go.Proofs.YtobighfemobgjaaGreatDoor
namespace Go.Proofs.YtobighfemobgjaaGreatDoor
open Go Go.Own
theorem Policy.cand_pos {p : Policy} {h : Health} (hg : p.good = true) : 1 ≤ (p.cand h).length := by
  have hmem : ∀ g ∈ p.grp, ∃ i, i < p.ts.length ∧ p.inG g i = true := by
    intro g hg'
    have := (mem_upTo.1 hg').2
    simp only [Policy.has, List.any_eq_true] at this
    obtain ⟨t, ht, he⟩ := this
    obtain ⟨i, hi, rfl⟩ := List.getElem_of_mem ht
    exact ⟨i, hi, by simpa [Policy.inG, hi] using he⟩
  have hgr : p.group h ∈ p.grp := by
    have hne := Policy.grp_ne hg
    have hpos : 0 < p.grp.length := List.length_pos_iff.2 hne
    unfold Policy.group
    cases hf : p.grp.find? (p.anyWell h) with
    | some g => exact List.mem_of_find?_eq_some hf
    | none =>
      show p.grp.getD 0 0 ∈ p.grp
      have : p.grp.getD 0 0 = p.grp[0] := by simp [hpos]
      rw [this]; exact List.getElem_mem hpos
  obtain ⟨i, hi, hq⟩ := hmem _ hgr
  unfold Policy.cand
  split
  · have : (i : Int) ∈ idxs p.ts.length (p.inG (p.group h)) := by
      simp only [idxs, List.mem_map, List.mem_filter, List.mem_range]
      exact ⟨i, ⟨hi, hq⟩, rfl⟩
    exact List.length_pos_iff.2 (List.ne_nil_of_mem this)
  · omega
theorem choose_good {p : Policy} {h : Health} (hp : p.In lim) (hh : h.In lim) (hg : p.good = true) (hgh : h.good = true) : ∃ cols : List (Int × Int), Cols ((p.cand h).map (wt0 p)).sum cols ∧ cols.length = (p.cand h).length ∧
    (∀ k, k < (p.cand h).length → colS ((p.cand h).map (wt0 p)).sum cols (p.cand h).length k = ((p.cand h).map (wt0 p)).getD k 0 * (p.cand h).length) ∧
    ∀ d : Int, inP d 0 1152921504606846976 = true → ∃ i : Nat, i < (p.cand h).length ∧ i = pk ((p.cand h).map (wt0 p)).sum cols (d.tmod ((cols.length : Int) * ((p.cand h).map (wt0 p)).sum)) ∧
      e_impl_ChooseTarget.F [p.d, h.d, .int d] = some (.pair (.int ((p.cand h).getD i 0)) (.pair (.bool true) .unit)) ∧ e_spec_ChooseTarget.F [p.d, h.d, .int d] = some (.pair (.int ((p.cand h).getD i 0)) (.pair (.bool true) .unit)) := by
  have f1 : p.d.fld 1 = .lst (p.ts.map Target.d) := rfl
  have h1 := f_implPolicy hp
  have h2 := f_specPolicy hp
  have h3 := f_implGoodHealth h (Nat.le_trans hh.len lim_smax)
  have h4 := f_specGoodHealth h hh.fit
  rw [hg] at h1 h2
  rw [hgh] at h3 h4
  obtain ⟨g1, g2, g3⟩ := Policy.good_facts hg
  have hcl := Policy.cand_len p h
  have hcp := Policy.cand_pos (h := h) hg
  obtain ⟨ws, hwl, hw, hloop⟩ := weights_loop (l := p.cand h) hg hcl hcp (fun x hx => Policy.cand_mem hx)
  obtain ⟨cols, c1, c2, cw, c3, c4⟩ := f_AliasOf hw
  have hs := hw.sum
  have hwn : ws.length = (p.cand h).length := by rw [hwl]; simp
  have hco : Cols ws.sum cols := ⟨by omega, by omega, hs, by rw [c1]; exact c2⟩
  rw [← hwl]
  refine ⟨cols, hco, by omega, by rw [← hwn]; exact cw, fun d hd => ?_⟩
  have h5 : e_impl_isCounter.F [.int d] = some (.bool (inP d 0 1152921504606846976)) := by
    rw [q_impl_isCounter]; exact rn_call (f_withinP d 0 1152921504606846976) rfl
  have h6 : e_spec_l9Counter.F [.int d] = some (.bool (inP d 0 1152921504606846976)) := by
    rw [q_spec_l9Counter]; exact rn_call (f_l1InP d 0 1152921504606846976) rfl
  rw [hd] at h5 h6
  have hd0 : 0 ≤ d := by simp [inP] at hd; omega
  have hlen : (((nd (p.cand h)).l.length : Nat) : Int) = (cols.length : Int) := by simp [nd]; omega
  have hmul : 1 ≤ (cols.length : Int) * ws.sum := by
    have := Int.mul_le_mul (a := 1) (b := 1) (c := (cols.length : Int)) (d := ws.sum) (by omega) (by omega) (by decide) (by omega)
    omega
  have hmul2 : (cols.length : Int) * ws.sum ≤ 12 * 600 := Int.mul_le_mul (by omega) (by omega) (by omega) (by decide)
  have hww : IntKind.wrap .i64 ((cols.length : Int) * ws.sum) = (cols.length : Int) * ws.sum := by rw [wrap_id] <;> omega
  have hne : ((cols.length : Int) * ws.sum != 0) = true := by simp only [bne_iff_ne, ne_eq]; omega
  have hm0 : 0 ≤ d.tmod ((cols.length : Int) * ws.sum) := Int.tmod_nonneg _ hd0
  have hm1 : d.tmod ((cols.length : Int) * ws.sum) < (cols.length : Int) * ws.sum := Int.tmod_lt_of_pos _ (by omega)
  obtain ⟨i, hpk, hi, p1, p2⟩ := pick_facts hco hm0 hm1
  have hic : i < (p.cand h).length := by omega
  obtain ⟨k, hk, hkl⟩ := Policy.cand_mem (List.getElem_mem hic)
  have hgi : gd (nd (p.cand h)).l i = .int k := by
    rw [show (nd (p.cand h)).l = (p.cand h).map D.int from rfl, gd_nd hic, hk]
  have hib : inb (i : Int) (nd (p.cand h)).l.length = true := inb_nat (by simpa [nd] using hic)
  have hgt : (p.cand h).getD i 0 = k := by rw [← hk]; simp [hic]
  rw [q_impl_ChooseTarget, q_spec_ChooseTarget, f1]
  refine ⟨i, hic, hpk, rn_bind0 (l := [.bool false]) (out_call h1 (out_else (by simp) (out_call h3 (out_else (by simp) (out_call h5 rfl))))) (rn_else (by simp) (rn_call (f_candidatesOf hp hh.len hg) (rn_bind0 hloop ?_))), rn_bind0 (l := [.bool false]) (out_call h2 (out_else (by simp) (out_call h4 (out_else (by simp) (out_call h6 rfl))))) (rn_else (by simp) (rn_call (f_l14Candidates hp hh.fit hh.len hgh hg) (rn_bind0 hloop ?_)))⟩
  · refine rn_call (f_totalOf hw.n12 hw.big) (rn_call c4 ?_)
    simp only [D.i_int, hlen, hww]
    refine rn_if hne (rn_call p1 (rn_if hib ?_))
    simp only [D.i_int, Int.toNat_natCast, hgi, hgt]
    rfl
  · refine rn_call c3 (rn_call (f_l12Total hw.n12 hw.big) ?_)
    simp only [D.i_int, hlen, hww]
    refine rn_if hne (rn_call p2 (rn_else (by simp [D.fld]) (rn_if hib ?_)))
    have f0 : (D.pair (.int (i : Int)) (.pair (.bool true) .unit)).fld 0 = .int i := rfl
    simp only [f0, D.i_int, Int.toNat_natCast, hgi, hgt]
    rfl
theorem f_ChooseTarget {p : Policy} {h : Health} (hp : p.In lim) (hh : h.In lim) (d : Int) : ∃ (n : Int) (b : Bool), (b = true → p.good = true ∧ h.good = true ∧ n ∈ p.cand h) ∧ e_impl_ChooseTarget.F [p.d, h.d, .int d] = some (.pair (.int n) (.pair (.bool b) .unit)) ∧ e_spec_ChooseTarget.F [p.d, h.d, .int d] = some (.pair (.int n) (.pair (.bool b) .unit)) := by
  have f1 : p.d.fld 1 = .lst (p.ts.map Target.d) := rfl
  have h1 := f_implPolicy hp
  have h2 := f_specPolicy hp
  have h3 := f_implGoodHealth h (Nat.le_trans hh.len lim_smax)
  have h4 := f_specGoodHealth h hh.fit
  have h5 : e_impl_isCounter.F [.int d] = some (.bool (inP d 0 1152921504606846976)) := by
    rw [q_impl_isCounter]; exact rn_call (f_withinP d 0 1152921504606846976) rfl
  have h6 : e_spec_l9Counter.F [.int d] = some (.bool (inP d 0 1152921504606846976)) := by
    rw [q_spec_l9Counter]; exact rn_call (f_l1InP d 0 1152921504606846976) rfl
  cases hg : p.good with
  | false =>
    rw [hg] at h1 h2
    rw [q_impl_ChooseTarget, q_spec_ChooseTarget, f1]
    exact ⟨0, false, (fun h => nomatch h), rn_bind0 (l := [.bool true]) (out_call h1 (out_if rfl rfl)) (rn_if rfl rfl), rn_bind0 (l := [.bool true]) (out_call h2 (out_if rfl rfl)) (rn_if rfl rfl)⟩
  | true =>
    rw [hg] at h1 h2
    cases hgh : h.good with
    | false =>
      rw [hgh] at h3 h4
      rw [q_impl_ChooseTarget, q_spec_ChooseTarget, f1]
      exact ⟨0, false, (fun h => nomatch h), rn_bind0 (l := [.bool true]) (out_call h1 (out_else (by simp) (out_call h3 (out_if rfl rfl)))) (rn_if rfl rfl), rn_bind0 (l := [.bool true]) (out_call h2 (out_else (by simp) (out_call h4 (out_if rfl rfl)))) (rn_if rfl rfl)⟩
    | true =>
      cases hd : inP d 0 1152921504606846976 with
      | false =>
        rw [hgh] at h3 h4
        rw [hd] at h5 h6
        rw [q_impl_ChooseTarget, q_spec_ChooseTarget, f1]
        exact ⟨0, false, (fun h => nomatch h), rn_bind0 (l := [.bool true]) (out_call h1 (out_else (by simp) (out_call h3 (out_else (by simp) (out_call h5 rfl))))) (rn_if rfl rfl), rn_bind0 (l := [.bool true]) (out_call h2 (out_else (by simp) (out_call h4 (out_else (by simp) (out_call h6 rfl))))) (rn_if rfl rfl)⟩
      | true =>
        obtain ⟨cols, _, _, _, hall⟩ := choose_good hp hh hg hgh
        obtain ⟨i, hi, _, e1, e2⟩ := hall d hd
        refine ⟨_, true, fun _ => ⟨rfl, rfl, ?_⟩, e1, e2⟩
        rw [show (p.cand h).getD i 0 = (p.cand h)[i] by simp [hi]]
        exact List.getElem_mem hi
end Go.Proofs.YtobighfemobgjaaGreatDoor
namespace Go.Proofs.YtobighfemobgjaaGreatDoor
open Go Go.Own
theorem f_among {bs : List D} (hb : Bytes bs) {k : Nat} {c : D} (hc : Cu bs k c) (hk : k ≤ 900000) {xs : List D} (hx : 0 < xs.length) :
    ∃ (x : D) (c' : D), e_spec_l1Cur_among.F [c, .lst xs] = some (.pair x (.pair c' .unit)) ∧ x ∈ xs ∧ Cu bs (k + 2) c' := by
  obtain ⟨v, c', h, hv, hc'⟩ := f_pick hb hc hk xs.length
  have hlt : v < xs.length := by omega
  rw [q_spec_l1Cur_among]
  refine ⟨gd xs v, c', rn_call h (rn_if (inb_nat hlt) ?_), ?_, hc'⟩
  · simp
  · rw [gd_lt hlt]; exact List.getElem_mem hlt
def polD (ts : List Target) : D := .pair (D.str [119, 119, 119, 46, 101, 120, 46, 99, 111, 109]) (.pair (D.lst (ts.map Target.d)) .unit)
theorem ts_upd {ts : List Target} (h0 : 0 < ts.length) {t : Target} {j : Nat} {v : D} (h : (ts[0]).d.setFld j v = t.d) : upd (ts.map Target.d) 0 j v = (ts.set 0 t).map Target.d := by
  unfold upd
  rw [gd_ts h0, h, List.map_set]
theorem f_policy {bs : List D} (hb : Bytes bs) {k : Nat} {c : D} (hc : Cu bs k c) (hk : k ≤ 500000) :
    ∃ (p : Policy) (c' : D), e_spec_l1Cur_policy.F [c] = some (.pair p.d (.pair c' .unit)) ∧ p.In lim ∧ Cu bs (k + 1000) c' := by
  obtain ⟨v, c1, h1, hv, hc1⟩ := f_pick hb hc (by omega) 5
  obtain ⟨b, c2, h2, hc2⟩ := f_one hb hc1 (by omega) 30
  rw [q_spec_l1Cur_policy]
  have hn : ∃ (n : Nat) (c3 : D), 1 ≤ n ∧ n ≤ 13 ∧ Cu bs (k + 6) c3 ∧ (if b = true then
      (e_spec_l1Cur_pick.F [c2, (.int 2)]).bind fun r3 =>
      ou 0 [(r3.fld 1), (.int (IntKind.wrap .i64 (12 + (r3.fld 0).i)))]
    else
      ou 0 [c2, (.int (IntKind.wrap .i64 (1 + (v : Int))))]) = some (0, [c3, .int n]) := by
    cases b with
    | false =>
      have hww : IntKind.wrap .i64 (1 + (v : Int)) = ((1 + v : Nat) : Int) := by rw [wrap_id] <;> omega
      rw [hww]
      exact ⟨1 + v, c2, by omega, by omega, hc2.mono (by omega), rfl⟩
    | true =>
      obtain ⟨w, c3, h3, hw, hc3⟩ := f_pick hb hc2 (by omega) 2
      have hww : IntKind.wrap .i64 (12 + (w : Int)) = ((12 + w : Nat) : Int) := by rw [wrap_id] <;> omega
      refine ⟨12 + w, c3, by omega, by omega, hc3.mono (by omega), out_if rfl (out_call h3 ?_)⟩
      simp only [D.fld, D.fst_pair, D.snd_pair, D.i_int, hww]
  obtain ⟨n, c3, hn1, hn2, hc3, hn⟩ := hn
  have hsm : smax = 9223372036854775807 := smax_eq
  have hlim : lim = 1048576 := rfl
  refine (?_ : ∃ (p : Policy) (c' : D), rn _ = _ ∧ _)
  have hloop := loop_down (f := fun l4 =>
        if (decide ((gd l4 2).i > 0)) then
          (e_spec_l1Cur_of.F [(gd l4 0), (D.lst ((D.str [97, 46, 101, 120, 46, 99, 111, 109]) :: ((D.str [98, 46, 101, 120, 46, 99, 111, 109]) :: ((D.str [99, 46, 101, 120, 46, 99, 111, 109]) :: ((D.str [111, 116, 104, 101, 114]) :: ([] : List D))))))]).bind fun r7 =>
          (e_spec_l1Cur_of.F [(r7.fld 1), (D.lst ((D.str [49, 46, 49, 46, 49, 46, 49]) :: ((D.str [50, 46, 50, 46, 50, 46, 50]) :: ((D.str [51, 46, 51, 46, 51, 46, 51]) :: ([] : List D)))))]).bind fun r8 =>
          (e_spec_l1Cur_pick.F [(r8.fld 1), (.int 3)]).bind fun r9 =>
          (e_spec_l1Cur_pick.F [(r9.fld 1), (.int 9)]).bind fun r10 =>
          if (appOk 48 ((gd l4 1).fld 1).l ((.pair (r7.fld 0) (.pair (r8.fld 0) (.pair (r9.fld 0) (.pair (.int (IntKind.wrap .i64 (1 + (r10.fld 0).i))) .unit)))) :: ([] : List D))) then
          ou 0 [(r10.fld 1), ((gd l4 1).setFld 1 (D.lst (((gd l4 1).fld 1).l ++ ((.pair (r7.fld 0) (.pair (r8.fld 0) (.pair (r9.fld 0) (.pair (.int (IntKind.wrap .i64 (1 + (r10.fld 0).i))) .unit)))) :: ([] : List D))))), (.int (IntKind.wrap .i64 ((gd l4 2).i - 1)))]
          else none
        else
          ou 1 [(gd l4 0), (gd l4 1)]) (l := [c3, polD [], .int n]) (t := 0) (out := fun (s : D × List Target) => [s.1, polD s.2])
    (fun m (s : D × List Target) => [s.1, polD s.2, .int m]) (fun m s => (Cu bs (k + 6 + 8 * (n - m)) s.1 ∧ s.2.length = n - m ∧ m ≤ n) ∧ ∀ t ∈ s.2, t.In 8) n (c3, []) rfl ⟨⟨by simpa using hc3, by simp, Nat.le_refl _⟩, by simp⟩ ?_ ?_
  · obtain ⟨⟨c5, ts⟩, ⟨⟨hc5, hlp, _⟩, hts⟩, hl⟩ := hloop
    simp only at hc5 hlp hts
    have h0 : 0 < ts.length := by omega
    have htl : ((polD ts).fld 1).l = ts.map Target.d := rfl
    have hlen : inb 0 ((polD ts).fld 1).l.length = true := inb_nat (i := 0) (n := ((polD ts).fld 1).l.length) (by rw [htl]; simpa using h0)
    have hset : ∀ t : Target, t.In 8 → ∀ x ∈ ts.set 0 t, x.In 8 := by
      intro t ht x hx
      rcases List.mem_or_eq_of_mem_set hx with hx | rfl
      · exact hts x hx
      · exact ht
    have h8 := hts _ (List.getElem_mem h0)
    obtain ⟨v6, c6, h6, hv6, hc6⟩ := f_pick hb hc5 (by omega) 40
    have hlast : ∃ (ts' : List Target) (c7 : D), ts'.length = ts.length ∧ (∀ t ∈ ts', t.In 8) ∧ Cu bs (k + 10 + 8 * n) c7 ∧ ((e_spec_l1Cur_pick.F [c5, (.int 40)]).bind fun r6 =>
        if ((r6.fld 0).i == 0) then
          (e_spec_l1Cur_among.F [(r6.fld 1), (D.lst ((.int 0) :: ((.int 50) :: ((.int 51) :: ([] : List D)))))]).bind fun r7 =>
          if (inb 0 ((polD ts).fld 1).l.length) then
          ou 0 [(r7.fld 1), ((polD ts).setFld 1 (D.lst (upd ((polD ts).fld 1).l 0 3 (r7.fld 0))))]
          else none
        else
          if ((r6.fld 0).i == 1) then
            if (inb 0 ((polD ts).fld 1).l.length) then
            ou 0 [(r6.fld 1), ((polD ts).setFld 1 (D.lst (upd ((polD ts).fld 1).l 0 1 (D.str [49, 46, 49, 46, 49]))))]
            else none
          else
            if ((r6.fld 0).i == 2) then
              (e_spec_l1Cur_among.F [(r6.fld 1), (D.lst ((.int (-1)) :: ((.int 9) :: ((.int 10) :: ([] : List D)))))]).bind fun r7 =>
              if (inb 0 ((polD ts).fld 1).l.length) then
              ou 0 [(r7.fld 1), ((polD ts).setFld 1 (D.lst (upd ((polD ts).fld 1).l 0 2 (r7.fld 0))))]
              else none
            else
              ou 0 [(r6.fld 1), polD ts]) = some (0, [c7, polD ts']) := by
      have g0 : (D.pair (.int (v6 : Int)) (.pair c6 .unit)).fld 0 = .int v6 := rfl
      have hwr : ∀ (j : Nat) (w : D) (t : Target), (ts[0]).d.setFld j w = t.d → ((polD ts).setFld 1 (D.lst (upd ((polD ts).fld 1).l 0 j w))) = polD (ts.set 0 t) := by
        intro j w t ht
        rw [htl, ts_upd h0 ht]; rfl
      by_cases e0 : v6 = 0
      · subst e0
        obtain ⟨x, c7, h7, hx, hc7⟩ := f_among hb hc6 (by omega) (xs := ((.int 0) :: ((.int 50) :: ((.int 51) :: ([] : List D))))) (by simp)
        have hxs : ∃ w : Int, x = .int w := by
          simp only [List.mem_cons, List.not_mem_nil, or_false] at hx
          rcases hx with rfl | rfl | rfl <;> exact ⟨_, rfl⟩
        obtain ⟨w, rfl⟩ := hxs
        refine ⟨ts.set 0 ⟨(ts[0]).host, (ts[0]).data, (ts[0]).group, w⟩, c7, by simp, hset _ ⟨h8.host, h8.data⟩, hc7.mono (by omega), out_call h6 (out_if rfl (out_call h7 (out_if hlen ?_)))⟩
        rw [show (D.pair (.int w) (.pair c7 .unit)).fld 0 = .int w from rfl, hwr 3 (.int w) ⟨(ts[0]).host, (ts[0]).data, (ts[0]).group, w⟩ rfl]
        rfl
      by_cases e1 : v6 = 1
      · subst e1
        refine ⟨ts.set 0 ⟨(ts[0]).host, [49, 46, 49, 46, 49], (ts[0]).group, (ts[0]).weight⟩, c6, by simp, hset _ ⟨h8.host, show ([49, 46, 49, 46, 49] : List UInt8).length ≤ 8 by decide⟩, hc6.mono (by omega), out_call h6 (out_else (by simp [D.fld]) (out_if rfl (out_if hlen ?_)))⟩
        rw [hwr 1 (D.str [49, 46, 49, 46, 49]) ⟨(ts[0]).host, [49, 46, 49, 46, 49], (ts[0]).group, (ts[0]).weight⟩ rfl]
        rfl
      by_cases e2 : v6 = 2
      · subst e2
        obtain ⟨x, c7, h7, hx, hc7⟩ := f_among hb hc6 (by omega) (xs := ((.int (-1)) :: ((.int 9) :: ((.int 10) :: ([] : List D))))) (by simp)
        have hxs : ∃ w : Int, x = .int w := by
          simp only [List.mem_cons, List.not_mem_nil, or_false] at hx
          rcases hx with rfl | rfl | rfl <;> exact ⟨_, rfl⟩
        obtain ⟨w, rfl⟩ := hxs
        refine ⟨ts.set 0 ⟨(ts[0]).host, (ts[0]).data, w, (ts[0]).weight⟩, c7, by simp, hset _ ⟨h8.host, h8.data⟩, hc7.mono (by omega), out_call h6 (out_else (by simp [D.fld]) (out_else (by simp [D.fld]) (out_if rfl (out_call h7 (out_if hlen ?_)))))⟩
        rw [show (D.pair (.int w) (.pair c7 .unit)).fld 0 = .int w from rfl, hwr 2 (.int w) ⟨(ts[0]).host, (ts[0]).data, w, (ts[0]).weight⟩ rfl]
        rfl
      · refine ⟨ts, c6, rfl, hts, hc6.mono (by omega), out_call h6 ?_⟩
        rw [g0]
        exact out_else (by simp; omega) (out_else (by simp; omega) (out_else (by simp; omega) rfl))
    obtain ⟨ts', c7, hl7, ht7, hc7, hlast⟩ := hlast
    refine ⟨⟨[119, 119, 119, 46, 101, 120, 46, 99, 111, 109], ts'⟩, c7, rn_call h1 (rn_bind (out_call h2 hn) (rn_bind hl (rn_bind hlast rfl))), ⟨show (10 : Nat) ≤ lim by omega, by show ts'.length ≤ lim; omega, fun t ht => ?_⟩, hc7.mono (by omega)⟩
    have := ht7 t ht
    exact ⟨by have := this.host; omega, by have := this.data; omega⟩
  · rintro m ⟨s1, s2⟩ ⟨⟨hi1, hi2, hi3⟩, hi4⟩
    simp only at hi1 hi2 hi4
    obtain ⟨x7, c7, h7, hx7, hc7⟩ := f_of hb hi1 (by omega) (xs := ((D.str [97, 46, 101, 120, 46, 99, 111, 109]) :: ((D.str [98, 46, 101, 120, 46, 99, 111, 109]) :: ((D.str [99, 46, 101, 120, 46, 99, 111, 109]) :: ((D.str [111, 116, 104, 101, 114]) :: ([] : List D)))))) (by simp)
    obtain ⟨x8, c8, h8, hx8, hc8⟩ := f_of hb hc7 (by omega) (xs := ((D.str [49, 46, 49, 46, 49, 46, 49]) :: ((D.str [50, 46, 50, 46, 50, 46, 50]) :: ((D.str [51, 46, 51, 46, 51, 46, 51]) :: ([] : List D))))) (by simp)
    obtain ⟨w9, c9, h9, _, hc9⟩ := f_pick hb hc8 (by omega) 3
    obtain ⟨w10, c10, h10, hw10, hc10⟩ := f_pick hb hc9 (by omega) 9
    have hs7 : ∃ s : List UInt8, x7 = .str s ∧ s.length ≤ 8 := by
      simp only [List.mem_cons, List.not_mem_nil, or_false] at hx7
      rcases hx7 with rfl | rfl | rfl | rfl <;> exact ⟨_, rfl, by decide⟩
    have hs8 : ∃ s : List UInt8, x8 = .str s ∧ s.length ≤ 8 := by
      simp only [List.mem_cons, List.not_mem_nil, or_false] at hx8
      rcases hx8 with rfl | rfl | rfl <;> exact ⟨_, rfl, by decide⟩
    obtain ⟨t7, rfl, ht7⟩ := hs7
    obtain ⟨t8, rfl, ht8⟩ := hs8
    refine ⟨(c10, s2 ++ [⟨t7, t8, w9, IntKind.wrap .i64 (1 + (w10 : Int))⟩]), out_if (decide_eq_true (by simp)) (out_call h7 (out_call h8 (out_call h9 (out_call h10 (out_if ?_ ?_))))), ⟨hc10.mono (by omega), by simp; omega, by omega⟩, ?_⟩
    · show appOk 48 (s2.map Target.d) [_] = true
      simp [appOk, smax_eq]; omega
    · have : IntKind.wrap .i64 (((m + 1 : Nat) : Int) - 1) = m := by rw [wrap_id] <;> omega
      simp only [gd_two, gd_one, D.i_int, this]
      simp [polD, Target.d, D.fld, D.setFld]
    · intro t ht
      simp only [List.mem_append, List.mem_singleton] at ht
      rcases ht with ht | rfl
      · exact hi4 t ht
      · exact ⟨ht7, ht8⟩
  · rintro ⟨s1, s2⟩ _
    rfl
theorem Cu.start (bs : List D) : Cu bs 0 (.pair (.lst bs) (.pair (.int 0) (.pair (.int 0) .unit))) := ⟨0, 0, rfl, Nat.le_refl _⟩
theorem Health.Fit.inn {h : Health} (hf : h.Fit) : h.In lim := ⟨hf.len, fun x hx => ⟨hf.nm x hx, hf.row x hx⟩, hf.rise, hf.fall⟩
theorem f_drawGroupOf {bs : List D} (hb : Bytes bs) : ∃ (p : Policy) (h : Health), e_spec_DrawGroupOf.F [.lst bs] = some (.pair p.d (.pair h.d .unit)) ∧ p.In lim ∧ h.In lim := by
  obtain ⟨p, c1, h1, hp, hc1⟩ := f_policy hb (Cu.start bs) (by omega)
  obtain ⟨h, c2, h2, hf, hl, hc2⟩ := f_health hb hc1 (by omega)
  rw [q_spec_DrawGroupOf]
  exact ⟨p, h, rn_call h1 (rn_call h2 rfl), hp, hf.inn⟩
theorem f_drawShares {bs : List D} (hb : Bytes bs) : ∃ (p : Policy) (h : Health), e_spec_DrawSharesOf.F [.lst bs] = some (.pair p.d (.pair h.d .unit)) ∧ p.In lim ∧ h.In lim := by
  obtain ⟨p, h, h1, hp, hh⟩ := f_drawGroupOf hb
  rw [q_spec_DrawSharesOf]
  exact ⟨p, h, rn_call h1 rfl, hp, hh⟩
end Go.Proofs.YtobighfemobgjaaGreatDoor
namespace Go.Proofs.YtobighfemobgjaaGreatDoor
open Go Go.Own
theorem f_sameInts {l : List Int} (hl : l.length ≤ smax) : e_laws_sameInts.F [nd l, nd l] = some (.bool true) := by
  rw [q_laws_sameInts]
  refine rn_else (by simp) ?_
  refine rn_bind (loop_for' (fun i (_ : Unit) => [.int i]) l.length (fun _ => ()) (t := 1) (o := []) rfl ?_ ?_) rfl
  · intro i hi
    simp only [gd_zero, nd, D.l_lst, D.i_int, Int.toNat_natCast, gd_nd hi, wrap_succ hi hl, List.length_map]
    exact out_if (decide_eq_true (by omega)) (out_if (inb_nat hi) (out_if (inb_nat hi) (out_else (by simp) rfl)))
  · exact out_else (by simp [nd]) rfl
theorem rn_bind1 {o : Outc} {l : List D} {A : Nat × List D → Outc} {B : Nat × List D → Nat → Outc} {R : Option D} (h : o = some (1, l)) (hk : rn (B (1, l) 0) = R) : rn (o.bind fun o => sel2 o.1 (A o) (B o)) = R := by
  rw [h]; exact hk
theorem rn_sel0 {A : Outc} {B : Nat → Outc} {R : Option D} (hk : rn A = R) : rn (sel2 0 A B) = R := hk
def cnt (T : Int) (cols : List (Int × Int)) (ca : List Int) (t d : Nat) : Int := sumN (fun x => if decide (ca.getD (pk T cols (x : Int)) 0 = (t : Int)) = true then 1 else 0) d
def cnts (T : Int) (cols : List (Int × Int)) (ca : List Int) (m d : Nat) : List Int := (List.range m).map fun t => cnt T cols ca t d
theorem cnt_bound (T : Int) (cols : List (Int × Int)) (ca : List Int) (t : Nat) : ∀ d : Nat, 0 ≤ cnt T cols ca t d ∧ cnt T cols ca t d ≤ d
  | 0 => by simp [cnt, sumN]
  | d + 1 => by
    have := cnt_bound T cols ca t d
    unfold cnt at this ⊢
    rw [sumN]
    split <;> omega
theorem cnts_succ {T : Int} {cols : List (Int × Int)} {ca : List Int} {m d k : Nat} (hk : k < m) (h : ca.getD (pk T cols (d : Int)) 0 = (k : Int)) : (cnts T cols ca m d).set k (cnt T cols ca k d + 1) = cnts T cols ca m (d + 1) := by
  apply List.ext_getElem
  · simp [cnts]
  · intro t h1 h2
    rw [List.getElem_set]
    simp only [cnts, List.getElem_map, List.getElem_range]
    by_cases he : k = t
    · subst he
      rw [if_pos rfl]
      unfold cnt
      rw [sumN, h]
      simp
    · rw [if_neg he]
      unfold cnt
      rw [sumN, h]
      have : ¬ ((k : Int) = (t : Int)) := fun hh => he (Int.ofNat.inj hh)
      simp [this]
theorem law_FnShares {a : D} (ha : Sm smax (.lst false (.int .u8)) a) : e_laws_FnShares.F [a] = some (.bool true) := by
  obtain ⟨bs, rfl, hb⟩ := bytes_ofD ha
  have hlim : lim = 1048576 := rfl
  have hsm : smax = 9223372036854775807 := smax_eq
  rw [q_laws_FnShares]
  by_cases hl : (((D.lst bs).l.length : Nat) : Int) > 1048576
  · exact rn_if (decide_eq_true hl) rfl
  refine rn_else (fun h => hl (of_decide_eq_true h)) ?_
  obtain ⟨p, h, h1, hp, hh⟩ := f_drawShares hb
  obtain ⟨zs, n, b, hzl, hcase, hI, hS⟩ := f_SharesOf hp hh
  obtain ⟨ca, b2, ⟨_, hb2, hca⟩, hC, _⟩ := f_CandidatesOf hp hh
  have g0 : (D.pair p.d (.pair h.d .unit)).fld 0 = p.d := rfl
  have g1 : (D.pair p.d (.pair h.d .unit)).fld 1 = h.d := rfl
  have gp : p.d.fld 1 = .lst (p.ts.map Target.d) := rfl
  refine rn_call h1 ?_
  rw [g0, g1, gp]
  refine rn_call hI (rn_call hS (rn_call hC ?_))
  have hbb : b = b2 := by
    rcases hcase with ⟨rfl, _, hf⟩ | ⟨rfl, hg, hgh, _⟩
    · rw [hb2, hf]
    · rw [hb2, hg, hgh]; rfl
  refine rn_bind0 (l := [.bool false]) (out_else (by simp [D.fld]) (out_else (by simp [D.fld]) (out_call (f_sameInts (by omega)) (out_else (by simp) ?_)))) ?_
  · rw [hbb]; simp [D.fld]
  refine rn_else (by simp) ?_
  rcases hcase with ⟨rfl, rfl, _⟩ | ⟨rfl, hg, hgh, hzt, hzv, rfl⟩
  · exact rn_if (by simp [D.fld]) (by simp [D.fld])
  refine rn_else (by simp [D.fld]) ?_
  have hca' := hca hbb.symm
  subst hca'
  obtain ⟨cols, hco, hcl, hcs, hch⟩ := choose_good hp hh hg hgh
  generalize hT : ((p.cand h).map (wt0 p)).sum = T at *
  by_cases h40 : T > 40
  · exact rn_if (decide_eq_true h40) rfl
  refine rn_else (fun hh => h40 (of_decide_eq_true hh)) ?_
  obtain ⟨gp1, gp2, gp3⟩ := Policy.good_facts hg
  have hcn := Policy.cand_len p h
  have hcp := Policy.cand_pos (h := h) hg
  have ht := hco.t
  obtain ⟨τ, rfl⟩ := Int.eq_ofNat_of_zero_le (show 0 ≤ T by omega)
  have hmul : (p.cand h).length * τ ≤ 12 * 40 := Nat.mul_le_mul (by omega) (by omega)
  have hN : IntKind.wrap .i64 ((((D.pair (nd (p.cand h)) (.pair (.bool b2) .unit)).fld 0).l.length : Int) * (D.int (τ : Int)).i) = (((p.cand h).length * τ : Nat) : Int) := by
    have : (((D.pair (nd (p.cand h)) (.pair (.bool b2) .unit)).fld 0).l.length : Int) = (p.cand h).length := by simp [D.fld, nd]
    rw [this, D.i_int, wrap_id] <;> omega
  have hcoc : ∀ c ∈ cols, (0 ≤ c.1 ∧ c.1 ≤ (τ : Int)) ∧ 0 ≤ c.2 ∧ c.2 < (((p.cand h).length : Nat) : Int) := by rw [← hcl]; exact hco.co
  have hmk : makeOk 8 (((D.lst (p.ts.map Target.d)).l.length : Nat) : Int) = true := makeOk8 (by simpa using gp2)
  refine rn_if hmk ?_
  rw [show ((D.pair (nd zs) (.pair (.int (τ : Int)) (.pair (.bool true) .unit))).fld 1) = .int (τ : Int) from rfl, hN]
  have hchoose : ∀ d : Nat, d < (p.cand h).length * τ → ∃ k : Nat, k < p.ts.length ∧ (p.cand h).getD (pk τ cols (d : Int)) 0 = (k : Int) ∧ e_impl_ChooseTarget.F [p.d, h.d, .int (d : Int)] = some (.pair (.int (k : Int)) (.pair (.bool true) .unit)) := by
    intro d hd
    obtain ⟨i, hi, hpk, e1, _⟩ := hch d (by simp [inP]; omega)
    rw [hcl, show ((p.cand h).length : Int) * (τ : Int) = (((p.cand h).length * τ : Nat) : Int) by simp, Int.tmod_eq_of_lt (by omega) (by omega)] at hpk
    obtain ⟨k, hk, hkl⟩ := Policy.cand_mem (List.getElem_mem hi)
    have hgt : (p.cand h).getD i 0 = k := by rw [← hk]; simp [hi]
    exact ⟨k, hkl, by rw [← hpk]; exact hgt, by rw [e1, hgt]⟩
  have hcnl : ∀ d, (cnts τ cols (p.cand h) p.ts.length d).length = p.ts.length := by intro d; simp [cnts]
  refine rn_bind1 (loop_for' (fun i (s : List Int) => [nd s, .int i]) ((p.cand h).length * τ) (fun i => cnts τ cols (p.cand h) p.ts.length i) (t := 1) (o := [nd (cnts τ cols (p.cand h) p.ts.length ((p.cand h).length * τ))]) ?_ ?_ ?_) ?_
  · simp only [nd, D.l_lst, List.length_map, Int.toNat_natCast]
    congr 2
    apply List.ext_getElem
    · simp [cnts]
    · intro t h1 h2
      simp [cnts, cnt, sumN]
  · intro d hd
    obtain ⟨k, hk, hpk, hc⟩ := hchoose d hd
    have hcb := cnt_bound τ cols (p.cand h) k d
    have hgk : (cnts τ cols (p.cand h) p.ts.length d)[k]'(by rw [hcnl]; exact hk) = cnt τ cols (p.cand h) k d := by simp [cnts]
    have hw : IntKind.wrap .i64 (cnt τ cols (p.cand h) k d + 1) = cnt τ cols (p.cand h) k d + 1 := by rw [wrap_id] <;> omega
    have hw2 : IntKind.wrap .i64 ((d : Int) + 1) = ((d + 1 : Nat) : Int) := by rw [wrap_id] <;> omega
    have hgd := gd_nd (l := cnts τ cols (p.cand h) p.ts.length d) (i := k) (by rw [hcnl]; exact hk)
    rw [hgk] at hgd
    refine out_if (decide_eq_true (by simp; omega)) (out_call hc (out_else (by simp [D.fld]) (out_if ?_ ?_)))
    · show inb (k : Int) (nd (cnts τ cols (p.cand h) p.ts.length d)).l.length = true
      exact inb_nat (by simpa [nd, hcnl] using hk)
    · have f0 : (D.pair (.int (k : Int)) (.pair (.bool true) .unit)).fld 0 = .int k := rfl
      simp only [f0, gd_zero, gd_one, nd, D.l_lst, D.i_int, Int.toNat_natCast, hgd, hw, hw2, set_nd, cnts_succ hk hpk]
  · exact out_else (by simp) rfl
  · refine rn_sel0 ?_
    refine rn_bind1 (loop_for' (fun i (_ : Unit) => [.int i]) p.ts.length (fun _ => ()) (t := 1) (o := []) rfl ?_ ?_) (rn_sel0 rfl)
    · intro t hti
      have hfin : cnt τ cols (p.cand h) t ((p.cand h).length * τ) = zs.getD t 0 * (p.cand h).length := by
        rw [hzv t]
        unfold cnt
        by_cases hm : (t : Int) ∈ p.cand h
        · rw [if_pos hm]
          obtain ⟨k, hk, hkt⟩ := List.getElem_of_mem hm
          rw [picks (by omega) hcl hcoc (fun i => decide ((p.cand h).getD i 0 = (t : Int))) k (by
            intro i hi
            rw [decide_eq_true_eq, show (p.cand h).getD i 0 = (p.cand h)[i] by simp [hi], ← hkt]
            exact List.getElem_inj (Policy.cand_nodup p h)), hcs k hk]
          rw [show ((p.cand h).map (wt0 p)).getD k 0 = wt0 p (p.cand h)[k] by simp [hk], hkt]
        · rw [if_neg hm, picks_none (by omega) hcl hcoc (fun i => decide ((p.cand h).getD i 0 = (t : Int))) (by
            intro i hi
            rw [decide_eq_false_iff_not, show (p.cand h).getD i 0 = (p.cand h)[i] by simp [hi]]
            intro he
            exact hm (he ▸ List.getElem_mem hi))]
          simp
      have hcb := cnt_bound τ cols (p.cand h) t ((p.cand h).length * τ)
      have hgk : (cnts τ cols (p.cand h) p.ts.length ((p.cand h).length * τ))[t]'(by rw [hcnl]; exact hti) = cnt τ cols (p.cand h) t ((p.cand h).length * τ) := by simp [cnts]
      have hgd := gd_nd (l := cnts τ cols (p.cand h) p.ts.length ((p.cand h).length * τ)) (i := t) (by rw [hcnl]; exact hti)
      rw [hgk] at hgd
      have hgz := gd_nd (l := zs) (i := t) (by omega)
      have hzg : zs.getD t 0 = zs[t]'(by omega) := by simp [show t < zs.length by omega]
      rw [hzg] at hfin
      have hw : IntKind.wrap .i64 (zs[t]'(by omega) * ((p.cand h).length : Int)) = zs[t]'(by omega) * ((p.cand h).length : Int) := by rw [← hfin, wrap_id] <;> omega
      have hcl2 : (((D.pair (nd (p.cand h)) (.pair (.bool b2) .unit)).fld 0).l.length : Int) = (p.cand h).length := by simp [D.fld, nd]
      have hw2 : IntKind.wrap .i64 ((t : Int) + 1) = ((t + 1 : Nat) : Int) := by rw [wrap_id] <;> omega
      have f0 : (D.pair (nd zs) (.pair (.int (τ : Int)) (.pair (.bool true) .unit))).fld 0 = nd zs := rfl
      rw [hcl2, f0]
      refine out_if (decide_eq_true (by simp [nd, hcnl]; omega)) (out_if ?_ (out_if ?_ (out_else ?_ ?_)))
      · show inb (t : Int) (nd (cnts τ cols (p.cand h) p.ts.length _)).l.length = true
        exact inb_nat (by simpa [nd, hcnl] using hti)
      · show inb (t : Int) (nd zs).l.length = true
        exact inb_nat (by simpa [nd, hzt] using hti)
      · simp only [gd_zero, nd, D.l_lst, D.i_int, Int.toNat_natCast, hgd, hgz, hw, hfin]
        simp
      · simp only [gd_zero, D.i_int, hw2]
    · exact out_else (by simp [nd, hcnl]) rfl
end Go.Proofs.YtobighfemobgjaaGreatDoor
