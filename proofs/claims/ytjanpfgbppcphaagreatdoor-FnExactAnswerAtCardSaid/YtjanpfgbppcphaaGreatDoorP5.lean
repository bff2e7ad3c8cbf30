/- What the functions compute, in plain words. -/
import Derived.Test.YtjanpfgbppcphaaGreatDoorP4
set_option linter.unusedSectionVars false
set_option linter.unusedVariables false
set_option linter.unusedSimpArgs false
namespace Go.Proofs.YtjanpfgbppcphaaGreatDoor
open Go Go.Own
def cntB (n : Int) : Bool := inP n 0 1152921504606846976
theorem f_l9Counter (n : Int) : e_spec_l9Counter.F [.int n] = some (.bool (cntB n)) := by
 rw [q_spec_l9Counter]; exact rn_call (f_l1InP n 0 1152921504606846976) rfl
def hasR (l : List Rec) (r : Rec) : Bool := l.any fun x => D.beq x.d r.d
theorem beq_symm (x r : Rec) : D.beq x.d r.d = D.beq r.d x.d := by
 rw [Bool.eq_iff_iff, rec_beq, rec_beq]; exact ⟨Eq.symm, Eq.symm⟩
theorem f_containsR {l : List Rec} {r : Rec} (hl : l.length ≤ smax) : e_slices_Contains_impl_Record_impl_Record.F [.lst (l.map Rec.d), r.d] = some (.bool (hasR l r)) := by
 rw [q_slices_Contains_impl_Record_impl_Record]
 have hidx : ∃ n : Int, e_slices_Index_impl_Record_impl_Record.F [.lst (l.map Rec.d), r.d] = some (.int n) ∧ decide (n ≥ 0) = hasR l r := by
  rw [q_slices_Index_impl_Record_impl_Record]
  have hlen : (D.lst (l.map Rec.d)).l.length = l.length := by simp
  rw [hlen]
  rcases loop_find (l := [.int 0]) (fun i => [.int i]) l.length (fun i => !(D.beq r.d (l.getD i Rec.nul).d)) (t1 := 0) (t2 := 1) (o1 := fun i => [.int i]) (o2 := []) (f := fun l2 =>
   if (decide ((gd l2 0).i < (l.length : Int))) then
    if (inb (gd l2 0).i l.length) then
    if (D.beq r.d (gd (D.lst (l.map Rec.d)).l (gd l2 0).i.toNat)) then
     ou 1 [(gd l2 0)]
    else
     ou 0 [(.int (IntKind.wrap .i64 ((gd l2 0).i + 1)))]
    else none
   else
    ou 2 []) rfl (by
    intro i hi hp
    rw [getD_lt hi] at hp
    have e0 : (gd [D.int (i : Int)] 0).i.toNat = i := by simp
    have e1 : (gd [D.int (i : Int)] 0).i = i := rfl
    rw [e0, e1, D.l_lst, gd_rec hi, wrap_succ hi hl]
    exact out_if (by simpa using hi) (out_if (by simpa using inb_nat hi) (out_else (by simpa using hp) rfl))) (by
    intro i hi hp
    rw [getD_lt hi] at hp
    have e0 : (gd [D.int (i : Int)] 0).i.toNat = i := by simp
    rw [e0, D.l_lst, gd_rec hi]
    exact out_if (by simpa using hi) (out_if (by simpa using inb_nat hi) (out_if (by simpa using hp) rfl))) (by exact out_else (by simp) rfl) with ⟨hall, hloop⟩ | ⟨j, hj, hpj, _, hloop⟩
  ·refine ⟨-1, rn_bind hloop rfl, ?_⟩
   have : hasR l r = false := by
    unfold hasR
    rw [List.any_eq_false]
    intro x hx
    obtain ⟨i, hi, rfl⟩ := List.getElem_of_mem hx
    have := hall i hi
    rw [getD_lt hi, beq_symm] at this
    simpa using this
   rw [this]; rfl
  ·refine ⟨j, rn_bind hloop rfl, ?_⟩
   rw [getD_lt hj, beq_symm] at hpj
   have : hasR l r = true := by
    unfold hasR
    rw [List.any_eq_true]
    exact ⟨_, List.getElem_mem hj, by simpa using hpj⟩
   rw [this]; simp
 obtain ⟨n, h1, h2⟩ := hidx
 refine rn_call h1 ?_
 rw [← h2]; rfl
theorem f_l9Has {l : List Rec} {r : Rec} (hl : l.length ≤ smax) : e_spec_l9Has.F [.lst (l.map Rec.d), r.d] = some (.bool (hasR l r)) := by
 rw [q_spec_l9Has]
 have hlen : (D.lst (l.map Rec.d)).l.length = l.length := by simp
 rw [hlen]
 refine rn_bind (loop_all' (fun i => [.int i]) l.length (fun i => !(D.beq (l.getD i Rec.nul).d r.d)) (t1 := 0) (t2 := 1) (o1 := [.bool true]) (o2 := []) rfl ?_ (by exact out_else (by simp) rfl)) ?_
 ·intro i hi
  rw [getD_lt hi]
  have e0 : (gd [D.int (i : Int)] 0).i.toNat = i := by simp
  have e1 : (gd [D.int (i : Int)] 0).i = i := rfl
  rw [e0, e1, D.l_lst, gd_rec hi, wrap_succ hi hl]
  refine out_if (by simpa using hi) (out_if (by simpa using inb_nat hi) ?_)
  cases hq : D.beq l[i].d r.d with
  | true => exact out_if rfl rfl
  | false => exact out_else (by simp) rfl
 ·have : allN l.length (fun i => !(D.beq (l.getD i Rec.nul).d r.d)) = !(hasR l r) := by
   rw [all_allN l (fun x => !(D.beq x.d r.d)) Rec.nul]
   unfold hasR
   rw [List.not_any_eq_all_not]
  rw [this]
  cases hasR l r <;> rfl
noncomputable def Dif.good (x : Dif) : Bool := cntB x.fr && (cntB x.to' && (!decide (x.fr = x.to') && ((rising x.dels && decide (x.dels.length ≤ 40)) && ((rising x.adds && decide (x.adds.length ≤ 40)) && !(x.dels.any (hasR x.adds))))))
theorem f_isDiff {x : Dif} (hx : x.In lim) : e_impl_isDiff.F [x.d] = some (.bool (cntB x.fr && (cntB x.to' && (!decide (x.fr = x.to') && ((rising x.dels && decide (x.dels.length ≤ 40)) && (rising x.adds && decide (x.adds.length ≤ 40))))))) := by
 rw [q_impl_isDiff]
 have f0 : x.d.fld 0 = .int x.fr := rfl
 have f1 : x.d.fld 1 = .int x.to' := rfl
 have f2 : x.d.fld 2 = .lst (x.dels.map Rec.d) := rfl
 have f3 : x.d.fld 3 = .lst (x.adds.map Rec.d) := rfl
 have hll : ∀ us : List Rec, (D.lst (us.map Rec.d)).l.length = us.length := fun us => by simp
 rw [f0, f1, f2, f3, hll, hll]
 have h1 := f_isCounter x.fr
 have h2 := f_isCounter x.to'
 have h3 := f_areRising hx.dels.len hx.dels.all
 have h4 := f_areRising hx.adds.len hx.adds.all
 rw [show inP x.fr 0 1152921504606846976 = cntB x.fr from rfl] at h1
 rw [show inP x.to' 0 1152921504606846976 = cntB x.to' from rfl] at h2
 refine rn_bind0 (l := [.bool (cntB x.fr && (cntB x.to' && (!decide (x.fr = x.to') && ((rising x.dels && decide (x.dels.length ≤ 40)) && (rising x.adds && decide (x.adds.length ≤ 40))))))]) ?_ rfl
 cases k1 : cntB x.fr with
 | false => rw [k1] at h1; exact out_call h1 (out_else (by simp) rfl)
 | true =>
   rw [k1] at h1
   refine out_call h1 (out_if rfl ?_)
   cases k2 : cntB x.to' with
   | false => rw [k2] at h2; exact out_call h2 (out_else (by simp) rfl)
   | true =>
     rw [k2] at h2
     refine out_call h2 (out_if rfl ?_)
     by_cases k3 : x.fr = x.to'
     ·exact out_else (by simp [k3]) (by simp [k3])
     ·refine out_if (by simpa using k3) ?_
      have e3 : decide (x.fr = x.to') = false := decide_eq_false k3
      rw [e3]
      by_cases k4 : x.dels.length ≤ 40
      ·refine out_if (decide_eq_true (by omega)) ?_
       by_cases k5 : x.adds.length ≤ 40
       ·refine out_if (decide_eq_true (by omega)) ?_
        cases k6 : rising x.dels with
        | false => rw [k6] at h3; exact out_call h3 (out_else (by simp) (by simp))
        | true => rw [k6] at h3; exact out_call h3 (out_if rfl (out_call h4 (by simp [k4, k5])))
       ·exact out_else (fun h => k5 (by have h' : (x.adds.length : Int) ≤ 40 := of_decide_eq_true h; omega)) (by simp [k5])
      ·exact out_else (fun h => k4 (by have h' : (x.dels.length : Int) ≤ 40 := of_decide_eq_true h; omega)) (by simp [k4])
theorem f_GoodDiff {x : Dif} (hx : x.In lim) : e_impl_GoodDiff.F [x.d] = some (.bool x.good) := by
 rw [q_impl_GoodDiff]
 have f2 : x.d.fld 2 = .lst (x.dels.map Rec.d) := rfl
 rw [f2]
 have h1 := f_isDiff hx
 obtain ⟨n, i1, i2⟩ := idx_gen (f := Rec.d) (c := fun d => e_impl_GoodDiff_1.F [d, x.d]) (xs := x.dels) (p := hasR x.adds) (Nat.le_trans hx.dels.len lim_smax) (fun r _ => by
  show e_impl_GoodDiff_1.F [r.d, x.d] = _
  rw [q_impl_GoodDiff_1]
  have f3 : x.d.fld 3 = .lst (x.adds.map Rec.d) := rfl
  rw [f3]
  exact rn_call (f_containsR (Nat.le_trans hx.adds.len lim_smax)) rfl)
 have h3 : e_slices_IndexFunc_impl_Record_impl_Record__impl_GoodDiff_1.F [.lst (x.dels.map Rec.d), .pair x.d .unit] = some (.int n) := by
  rw [q_slices_IndexFunc_impl_Record_impl_Record__impl_GoodDiff_1]; exact i1
 have h4 : e_slices_ContainsFunc_impl_Record_impl_Record__impl_GoodDiff_1.F [.lst (x.dels.map Rec.d), .pair x.d .unit] = some (.bool (x.dels.any (hasR x.adds))) := by
  rw [q_slices_ContainsFunc_impl_Record_impl_Record__impl_GoodDiff_1]
  refine rn_call h3 ?_
  rw [← i2]; rfl
 refine rn_bind0 (l := [.bool x.good]) ?_ rfl
 have hg : x.good = ((cntB x.fr && (cntB x.to' && (!decide (x.fr = x.to') && ((rising x.dels && decide (x.dels.length ≤ 40)) && (rising x.adds && decide (x.adds.length ≤ 40)))))) && !(x.dels.any (hasR x.adds))) := by
  unfold Dif.good
  simp only [Bool.and_assoc]
 rw [hg]
 cases k : (cntB x.fr && (cntB x.to' && (!decide (x.fr = x.to') && ((rising x.dels && decide (x.dels.length ≤ 40)) && (rising x.adds && decide (x.adds.length ≤ 40)))))) with
 | false => rw [k] at h1; exact out_call h1 (out_else (by simp) rfl)
 | true => rw [k] at h1; exact out_call h1 (out_if rfl (out_call h4 rfl))
theorem f_specGoodDiff {x : Dif} (hx : x.In lim) : e_spec_GoodDiff.F [x.d] = some (.bool x.good) := by
 have hsm := Nat.le_trans hx.dels.len lim_smax
 rw [q_spec_GoodDiff]
 have f0 : x.d.fld 0 = .int x.fr := rfl
 have f1 : x.d.fld 1 = .int x.to' := rfl
 have f2 : x.d.fld 2 = .lst (x.dels.map Rec.d) := rfl
 have f3 : x.d.fld 3 = .lst (x.adds.map Rec.d) := rfl
 have hll : (D.lst (x.dels.map Rec.d)).l = x.dels.map Rec.d := rfl
 rw [f0, f1, f2, f3]
 simp only [hll, List.length_map, D.i_int]
 have h1 := f_l9Counter x.fr
 have h2 := f_l9Counter x.to'
 have h3 := f_l6List hx.dels.len hx.dels.all
 have h4 := f_l6List hx.adds.len hx.adds.all
 unfold Dif.good
 cases k1 : cntB x.fr with
 | false => rw [k1] at h1; exact rn_bind0 (l := [.bool true]) (out_call h1 (out_if rfl rfl)) (rn_if rfl rfl)
 | true =>
   rw [k1] at h1
   cases k2 : cntB x.to' with
   | false => rw [k2] at h2; exact rn_bind0 (l := [.bool true]) (out_call h1 (out_else (by simp) (out_call h2 (out_if rfl rfl)))) (rn_if rfl rfl)
   | true =>
     rw [k2] at h2
     by_cases k3 : x.fr = x.to'
     ·have e3 : decide (x.fr = x.to') = true := decide_eq_true k3
      rw [e3]
      exact rn_bind0 (l := [.bool true]) (out_call h1 (out_else (by simp) (out_call h2 (out_else (by simp) (out_if (by simpa using k3) rfl))))) (rn_if rfl rfl)
     ·have e3 : decide (x.fr = x.to') = false := decide_eq_false k3
      rw [e3]
      cases k4 : (rising x.dels && decide (x.dels.length ≤ 40)) with
      | false => rw [k4] at h3; exact rn_bind0 (l := [.bool true]) (out_call h1 (out_else (by simp) (out_call h2 (out_else (by simp) (out_else (by simpa using k3) (out_call h3 (out_if rfl rfl))))))) (rn_if rfl rfl)
      | true =>
        rw [k4] at h3
        cases k5 : (rising x.adds && decide (x.adds.length ≤ 40)) with
        | false => rw [k5] at h4; exact rn_bind0 (l := [.bool true]) (out_call h1 (out_else (by simp) (out_call h2 (out_else (by simp) (out_else (by simpa using k3) (out_call h3 (out_else (by simp) (out_call h4 rfl)))))))) (rn_if rfl rfl)
        | true =>
          rw [k5] at h4
          refine rn_bind0 (l := [.bool false]) (out_call h1 (out_else (by simp) (out_call h2 (out_else (by simp) (out_else (by simpa using k3) (out_call h3 (out_else (by simp) (out_call h4 rfl)))))))) (rn_else (by simp) ?_)
          refine rn_bind (loop_all' (fun i => [.int i]) x.dels.length (fun i => !(hasR x.adds (x.dels.getD i Rec.nul))) (t1 := 0) (t2 := 1) (o1 := [.bool false]) (o2 := []) rfl ?_ (by exact out_else (by simp) rfl)) ?_
          ·intro i hi
           rw [getD_lt hi]
           have e0 : (gd [D.int (i : Int)] 0).i.toNat = i := by simp
           have e1 : (gd [D.int (i : Int)] 0).i = i := rfl
           rw [e0, e1, gd_rec hi, wrap_succ hi hsm]
           refine out_if (by simpa using hi) (out_if (by simpa using inb_nat hi) (out_call (f_l9Has (Nat.le_trans hx.adds.len lim_smax)) ?_))
           cases hasR x.adds x.dels[i] with
           | true => exact out_if rfl rfl
           | false => exact out_else (by simp) rfl
          ·have : allN x.dels.length (fun i => !(hasR x.adds (x.dels.getD i Rec.nul))) = !(x.dels.any (hasR x.adds)) := by
            rw [all_allN x.dels (fun r => !(hasR x.adds r)) Rec.nul, List.not_any_eq_all_not]
           rw [this]
           cases x.dels.any (hasR x.adds) <;> rfl
noncomputable def chainB : Int → List Dif → Bool
 | _, [] => true
 | s, d :: ds => d.good && (decide (d.fr = s) && (decide (s < d.to') && chainB d.to' ds))
noncomputable def jG (_ : Nat) (s : Int) (d : Dif) : Sum Int (Nat × List D) := if d.good = true ∧ d.fr = s ∧ s < d.to' then .inl d.to' else .inr (0, [.bool false])
theorem jG_fold : ∀ (ds : List Dif) (i : Nat) (s : Int), (∃ t, foldE jG i s ds = .inl t ∧ chainB s ds = true) ∨ (foldE jG i s ds = .inr (0, [.bool false]) ∧ chainB s ds = false)
 | [], i, s => .inl ⟨s, rfl, rfl⟩
 | d :: ds, i, s => by
   rw [foldE]
   by_cases h : d.good = true ∧ d.fr = s ∧ s < d.to'
   ·have e : jG i s d = .inl d.to' := by unfold jG; rw [if_pos h]
    have e2 : chainB s (d :: ds) = chainB d.to' ds := by rw [chainB]; simp [h]
    rw [e, e2]
    exact jG_fold ds (i + 1) d.to'
   ·have e : jG i s d = .inr (0, [.bool false]) := by unfold jG; rw [if_neg h]
    rw [e]
    refine .inr ⟨rfl, ?_⟩
    unfold chainB
    by_cases h1 : d.good = true
    ·by_cases h2 : d.fr = s
     ·have h3 : ¬ s < d.to' := fun h3 => h ⟨h1, h2, h3⟩
      simp [h3]
     ·simp [h2]
    ·simp [h1]
noncomputable def Jrn.body (j : Jrn) : Bool := cntB j.first && (decide (j.diffs.length ≤ 12) && chainB j.first j.diffs)
theorem f_GoodJournal {j : Jrn} (hj : j.In lim) : e_impl_GoodJournal.F [j.d] = some (.bool (isName j.apex && j.body)) := by
 have hsm := Nat.le_trans hj.len lim_smax
 rw [q_impl_GoodJournal]
 have f0 : j.d.fld 0 = .str j.apex := rfl
 have f1 : j.d.fld 1 = .int j.first := rfl
 have f2 : (j.d.fld 2).l = j.diffs.map Dif.d := rfl
 rw [f0, f1]
 simp only [f2, List.length_map]
 have h1 := f_GoodName j.apex
 have h2 := f_isCounter j.first
 rw [show inP j.first 0 1152921504606846976 = cntB j.first from rfl] at h2
 unfold Jrn.body
 cases k1 : isName j.apex with
 | false => rw [k1] at h1; exact rn_bind0 (l := [.bool true]) (out_call h1 (out_if rfl rfl)) (rn_if rfl rfl)
 | true =>
   rw [k1] at h1
   cases k2 : cntB j.first with
   | false => rw [k2] at h2; exact rn_bind0 (l := [.bool true]) (out_call h1 (out_else (by simp) (out_call h2 (out_if rfl rfl)))) (rn_if rfl rfl)
   | true =>
     rw [k2] at h2
     by_cases k3 : j.diffs.length ≤ 12
     ·have e3 : decide ((j.diffs.length : Int) > 12) = false := decide_eq_false (by omega)
      have e3' : decide (j.diffs.length ≤ 12) = true := decide_eq_true k3
      rw [e3', Bool.true_and, Bool.true_and, Bool.true_and]
      refine rn_bind0 (l := [.bool false]) (out_call h1 (out_else (by simp) (out_call h2 (out_else (by simp) (by rw [e3]))))) (rn_else (by simp) ?_)
      have hloop := loop_foldE' (f := fun l2 =>
       if (decide ((gd l2 1).i < (j.diffs.length : Int))) then
        if (inb (gd l2 1).i j.diffs.length) then
        ((e_impl_GoodDiff.F [(gd (j.diffs.map Dif.d) (gd l2 1).i.toNat)]).bind fun r4 =>
          if (!r4.b) then
           ou 0 [(.bool true)]
          else
           if (((gd (j.diffs.map Dif.d) (gd l2 1).i.toNat).fld 0).i != (gd l2 0).i) then
            ou 0 [(.bool true)]
           else
            ou 0 [(.bool (decide (((gd (j.diffs.map Dif.d) (gd l2 1).i.toNat).fld 1).i ≤ (gd l2 0).i)))]).bind fun o4 =>
        sel2 o4.1 (if (gd o4.2 0).b then
         ou 1 [(.bool false)]
         else
          ou 0 [((gd (j.diffs.map Dif.d) (gd l2 1).i.toNat).fld 1), (.int (IntKind.wrap .i64 ((gd l2 1).i + 1)))]) fun _ => none
        else none
       else
        ou 2 []) (l := [.int j.first, .int 0]) (fun i (s : Int) => [.int s, .int i]) j.diffs jG (fun _ _ => True) j.first 1 (fun _ => []) rfl trivial (by
       intro i s hi _
       have e0 : (gd [D.int s, D.int (i : Int)] 1).i.toNat = i := by simp
       have e1 : (gd [D.int s, D.int (i : Int)] 1).i = i := rfl
       have e2 : (gd [D.int s, D.int (i : Int)] 0).i = s := rfl
       have g0 : (j.diffs[i].d.fld 0).i = j.diffs[i].fr := rfl
       have g1 : j.diffs[i].d.fld 1 = .int j.diffs[i].to' := rfl
       have hd := f_GoodDiff (hj.all _ (List.getElem_mem hi))
       unfold jG
       by_cases h : j.diffs[i].good = true ∧ j.diffs[i].fr = s ∧ s < j.diffs[i].to'
       ·rw [if_pos h]
        rw [h.1] at hd
        refine ⟨?_, trivial⟩
        rw [e0, e1, e2, gd_map hi, g0, g1, wrap_succ hi hsm]
        refine out_if (by simpa using hi) (out_if (by simpa using inb_nat hi) (out_bind (r := (0, [.bool false])) (out_call hd (out_else (by simp) (out_else (by simp [h.2.1]) ?_))) (sel0 (out_else (by simp) rfl))))
        have : decide ((D.int j.diffs[i].to').i ≤ s) = false := decide_eq_false (by simp only [D.i_int]; omega)
        rw [this]
       ·rw [if_neg h]
        show _ = some (1, _)
        rw [e0, e1, e2, gd_map hi, g0, g1]
        refine out_if (by simpa using hi) (out_if (by simpa using inb_nat hi) (out_bind (r := (0, [.bool true])) ?_ (sel0 (out_if rfl rfl))))
        cases hg : j.diffs[i].good with
        | false => rw [hg] at hd; exact out_call hd (out_if rfl rfl)
        | true =>
          rw [hg] at hd
          refine out_call hd (out_else (by simp) ?_)
          by_cases h2 : j.diffs[i].fr = s
          ·refine out_else (by simp [h2]) ?_
           have h3 : ¬ s < j.diffs[i].to' := fun h3 => h ⟨hg, h2, h3⟩
           have : decide ((D.int j.diffs[i].to').i ≤ s) = true := decide_eq_true (by simp only [D.i_int]; omega)
           rw [this]
          ·exact out_if (by simpa using h2) rfl) (by
       intro s _
       exact out_else (by simp) rfl)
      rcases jG_fold j.diffs 0 j.first with ⟨t, hf, hc⟩ | ⟨hf, hc⟩
      ·rw [hf] at hloop; rw [hc]; exact rn_bind hloop rfl
      ·rw [hf] at hloop; rw [hc]; exact rn_bind hloop rfl
     ·have e3 : decide ((j.diffs.length : Int) > 12) = true := decide_eq_true (by omega)
      have e3' : decide (j.diffs.length ≤ 12) = false := decide_eq_false k3
      rw [e3']
      exact rn_bind0 (l := [.bool true]) (out_call h1 (out_else (by simp) (out_call h2 (out_else (by simp) (by rw [e3]))))) (rn_if rfl rfl)
theorem f_specGoodJournal {j : Jrn} (hj : j.In lim) : e_spec_GoodJournal.F [j.d] = some (.bool (isApx j.apex && j.body)) := by
 have hsm := Nat.le_trans hj.len lim_smax
 rw [q_spec_GoodJournal]
 have f0 : j.d.fld 0 = .str j.apex := rfl
 have f1 : j.d.fld 1 = .int j.first := rfl
 have f2 : (j.d.fld 2).l = j.diffs.map Dif.d := rfl
 rw [f0, f1]
 simp only [f2, List.length_map]
 have h1 := f_l6Apex hj.apex
 have h2 := f_l9Counter j.first
 unfold Jrn.body
 cases k1 : isApx j.apex with
 | false => rw [k1] at h1; exact rn_bind0 (l := [.bool true]) (out_call h1 (out_if rfl rfl)) (rn_if rfl rfl)
 | true =>
   rw [k1] at h1
   cases k2 : cntB j.first with
   | false => rw [k2] at h2; exact rn_bind0 (l := [.bool true]) (out_call h1 (out_else (by simp) (out_call h2 (out_if rfl rfl)))) (rn_if rfl rfl)
   | true =>
     rw [k2] at h2
     by_cases k3 : j.diffs.length ≤ 12
     ·have e3 : decide ((j.diffs.length : Int) > 12) = false := decide_eq_false (by omega)
      have e3' : decide (j.diffs.length ≤ 12) = true := decide_eq_true k3
      rw [e3', Bool.true_and, Bool.true_and, Bool.true_and]
      refine rn_bind0 (l := [.bool false]) (out_call h1 (out_else (by simp) (out_call h2 (out_else (by simp) (by rw [e3]))))) (rn_else (by simp) ?_)
      have hloop := loop_foldE' (f := fun l2 =>
       if (decide ((gd l2 1).i < (j.diffs.length : Int))) then
        if (inb (gd l2 1).i j.diffs.length) then
        ((e_spec_GoodDiff.F [(gd (j.diffs.map Dif.d) (gd l2 1).i.toNat)]).bind fun r4 =>
          if (!r4.b) then
           ou 0 [(.bool true)]
          else
           if (((gd (j.diffs.map Dif.d) (gd l2 1).i.toNat).fld 0).i != (gd l2 0).i) then
            ou 0 [(.bool true)]
           else
            ou 0 [(.bool (decide (((gd (j.diffs.map Dif.d) (gd l2 1).i.toNat).fld 1).i ≤ ((gd (j.diffs.map Dif.d) (gd l2 1).i.toNat).fld 0).i)))]).bind fun o4 =>
        sel2 o4.1 (if (gd o4.2 0).b then
         ou 1 [(.bool false)]
         else
          ou 0 [((gd (j.diffs.map Dif.d) (gd l2 1).i.toNat).fld 1), (.int (IntKind.wrap .i64 ((gd l2 1).i + 1)))]) fun _ => none
        else none
       else
        ou 2 []) (l := [.int j.first, .int 0]) (fun i (s : Int) => [.int s, .int i]) j.diffs jG (fun _ _ => True) j.first 1 (fun _ => []) rfl trivial (by
       intro i s hi _
       have e0 : (gd [D.int s, D.int (i : Int)] 1).i.toNat = i := by simp
       have e1 : (gd [D.int s, D.int (i : Int)] 1).i = i := rfl
       have e2 : (gd [D.int s, D.int (i : Int)] 0).i = s := rfl
       have g0 : (j.diffs[i].d.fld 0).i = j.diffs[i].fr := rfl
       have g1 : j.diffs[i].d.fld 1 = .int j.diffs[i].to' := rfl
       have hd := f_specGoodDiff (hj.all _ (List.getElem_mem hi))
       unfold jG
       by_cases h : j.diffs[i].good = true ∧ j.diffs[i].fr = s ∧ s < j.diffs[i].to'
       ·rw [if_pos h]
        rw [h.1] at hd
        refine ⟨?_, trivial⟩
        rw [e0, e1, e2, gd_map hi, g0, g1, wrap_succ hi hsm]
        refine out_if (by simpa using hi) (out_if (by simpa using inb_nat hi) (out_bind (r := (0, [.bool false])) (out_call hd (out_else (by simp) (out_else (by simp [h.2.1]) ?_))) (sel0 (out_else (by simp) rfl))))
        have : decide ((D.int j.diffs[i].to').i ≤ j.diffs[i].fr) = false := decide_eq_false (by simp only [D.i_int]; omega)
        rw [this]
       ·rw [if_neg h]
        show _ = some (1, _)
        rw [e0, e1, e2, gd_map hi, g0, g1]
        refine out_if (by simpa using hi) (out_if (by simpa using inb_nat hi) (out_bind (r := (0, [.bool true])) ?_ (sel0 (out_if rfl rfl))))
        cases hg : j.diffs[i].good with
        | false => rw [hg] at hd; exact out_call hd (out_if rfl rfl)
        | true =>
          rw [hg] at hd
          refine out_call hd (out_else (by simp) ?_)
          by_cases h2 : j.diffs[i].fr = s
          ·refine out_else (by simp [h2]) ?_
           have h3 : ¬ s < j.diffs[i].to' := fun h3 => h ⟨hg, h2, h3⟩
           have : decide ((D.int j.diffs[i].to').i ≤ j.diffs[i].fr) = true := decide_eq_true (by simp only [D.i_int]; omega)
           rw [this]
          ·exact out_if (by simpa using h2) rfl) (by
       intro s _
       exact out_else (by simp) rfl)
      rcases jG_fold j.diffs 0 j.first with ⟨t, hf, hc⟩ | ⟨hf, hc⟩
      ·rw [hf] at hloop; rw [hc]; exact rn_bind hloop rfl
      ·rw [hf] at hloop; rw [hc]; exact rn_bind hloop rfl
     ·have e3 : decide ((j.diffs.length : Int) > 12) = true := decide_eq_true (by omega)
      have e3' : decide (j.diffs.length ≤ 12) = false := decide_eq_false k3
      rw [e3']
      exact rn_bind0 (l := [.bool true]) (out_call h1 (out_else (by simp) (out_call h2 (out_else (by simp) (by rw [e3]))))) (rn_if rfl rfl)
def Jrn.last (j : Jrn) : Int := if j.diffs.length = 0 then j.first else (j.diffs.getD (j.diffs.length - 1) Dif.nul).to'
theorem f_last {j : Jrn} (hl : j.diffs.length ≤ lim) : e_impl_Journal_last.F [j.d] = some (.int j.last) ∧ e_spec_l9Last.F [j.d] = some (.int j.last) := by
 have hlim : lim = 1048576 := rfl
 rw [q_impl_Journal_last, q_spec_l9Last]
 have f1 : j.d.fld 1 = .int j.first := rfl
 have f2 : (j.d.fld 2).l = j.diffs.map Dif.d := rfl
 rw [f1]
 simp only [f2, List.length_map]
 unfold Jrn.last
 by_cases h : j.diffs.length = 0
 ·rw [if_pos h]
  exact ⟨rn_if (by simp [h]) rfl, rn_else (fun h' => by have h'' : (j.diffs.length : Int) > 0 := of_decide_eq_true h'; omega) rfl⟩
 ·rw [if_neg h]
  have w : IntKind.wrap .i64 ((j.diffs.length : Int) - 1) = ((j.diffs.length - 1 : Nat) : Int) := by rw [wrap_id] <;> omega
  have hlt : j.diffs.length - 1 < j.diffs.length := by omega
  rw [w, Int.toNat_natCast, gd_map hlt, getD_lt hlt]
  exact ⟨rn_else (by rw [beq_iff_eq]; omega) (rn_if (inb_nat hlt) rfl), rn_if (decide_eq_true (by omega)) (rn_if (inb_nat hlt) rfl)⟩
def exc : List UInt8 := [101, 120, 46, 99, 111, 109]
noncomputable def verB (f : Flt) (z : Zn) : Bool := z.good && (z.apex == exc && decide (z.counter ≤ f.ctl.zone.counter))
theorem f_isVersion {f : Flt} {z : Zn} (hz : z.In lim) : e_impl_isVersion.F [f.d, z.d] = some (.bool (verB f z)) := by
 rw [q_impl_isVersion]
 have h1 := f_GoodZone hz
 have f0 : (z.d.fld 0).s = z.apex := rfl
 have f1 : (z.d.fld 1).i = z.counter := rfl
 have f2 : (((f.d.fld 0).fld 0).fld 1).i = f.ctl.zone.counter := rfl
 rw [f0, f1, f2]
 refine rn_bind0 (l := [.bool (verB f z)]) ?_ rfl
 unfold verB
 cases k1 : z.good with
 | false => rw [k1] at h1; exact out_call h1 (out_else (by simp) rfl)
 | true =>
   rw [k1] at h1
   refine out_call h1 (out_if rfl ?_)
   cases k2 : z.apex == exc with
   | false => exact out_else (by rw [show (z.apex == [101, 120, 46, 99, 111, 109]) = (z.apex == exc) from rfl, k2]; simp) rfl
   | true => exact out_if k2 rfl
theorem f_l17Zone {f : Flt} {z : Zn} (hz : z.In lim) : e_spec_l17Zone.F [f.d, z.d] = some (.bool (verB f z)) := by
 rw [q_spec_l17Zone]
 have h1 := f_specGoodZone hz
 have f0 : (z.d.fld 0).s = z.apex := rfl
 have f1 : (z.d.fld 1).i = z.counter := rfl
 have f2 : (((f.d.fld 0).fld 0).fld 1).i = f.ctl.zone.counter := rfl
 rw [f0, f1, f2]
 refine rn_bind0 (l := [.bool (verB f z)]) ?_ rfl
 unfold verB
 cases k1 : z.good with
 | false => rw [k1] at h1; exact out_call h1 (out_else (by simp) rfl)
 | true =>
   rw [k1] at h1
   refine out_call h1 (out_if rfl ?_)
   cases k2 : z.apex == exc with
   | false => exact out_else (by rw [show (z.apex == [101, 120, 46, 99, 111, 109]) = (z.apex == exc) from rfl, k2]; simp) rfl
   | true => exact out_if k2 rfl
noncomputable def edgB (f : Flt) (e : Edg) : Bool := verB f e.zone && verB f e.saved
def noDiff (x : Dif) : Bool := decide (x.fr = 0) && (decide (x.to' = 0) && (decide (x.dels.length = 0) && decide (x.adds.length = 0)))
def noZone (z : Zn) : Bool := decide (z.apex = []) && (decide (z.counter = 0) && decide (z.recs.length = 0))
noncomputable def prcB (f : Flt) (p : Prc) : Bool := inP p.to' 0 ((f.edges.length : Int) - 1) &&
 (if p.whole = true then verB f p.zone && noDiff p.diff else p.diff.good && (decide (p.diff.fr ≤ p.diff.to') && (decide (p.diff.to' ≤ f.ctl.zone.counter) && noZone p.zone)))
theorem int_len0 (n : Nat) : ((n : Int) == 0) = decide (n = 0) := by rw [Bool.eq_iff_iff]; simp
theorem f_isParcel {f : Flt} {p : Prc} (hp : p.In lim) (hl : f.edges.length ≤ lim) : e_impl_isParcel.F [f.d, p.d] = some (.bool (prcB f p)) := by
 have hlim : lim = 1048576 := rfl
 rw [q_impl_isParcel]
 have w : IntKind.wrap .i64 ((f.edges.length : Int) - 1) = (f.edges.length : Int) - 1 := by rw [wrap_id] <;> omega
 have f2 : (f.d.fld 2).l.length = f.edges.length := by show (f.edges.map Edg.d).length = _; simp
 have fc : (((f.d.fld 0).fld 0).fld 1).i = f.ctl.zone.counter := rfl
 have g0 : p.d.fld 0 = .int p.to' := rfl
 have g1 : (p.d.fld 1).b = p.whole := rfl
 have g2 : p.d.fld 2 = p.zone.d := rfl
 have g3 : p.d.fld 3 = p.diff.d := rfl
 have d0 : (p.diff.d.fld 0).i = p.diff.fr := rfl
 have d1 : (p.diff.d.fld 1).i = p.diff.to' := rfl
 have d2 : (p.diff.d.fld 2).l.length = p.diff.dels.length := by show (p.diff.dels.map Rec.d).length = _; simp
 have d3 : (p.diff.d.fld 3).l.length = p.diff.adds.length := by show (p.diff.adds.map Rec.d).length = _; simp
 have z0 : (p.zone.d.fld 0).s = p.zone.apex := rfl
 have z1 : (p.zone.d.fld 1).i = p.zone.counter := rfl
 have z2 : (p.zone.d.fld 2).l.length = p.zone.recs.length := by show (p.zone.recs.map Rec.d).length = _; simp
 rw [f2, w, fc, g0, g1, g2, g3, d0, d1, d2, d3, z0, z1, z2]
 have h1 := f_withinP p.to' 0 ((f.edges.length : Int) - 1)
 unfold prcB
 cases k1 : inP p.to' 0 ((f.edges.length : Int) - 1) with
 | false => rw [k1] at h1; exact rn_call h1 (rn_if rfl rfl)
 | true =>
   rw [k1] at h1
   refine rn_call h1 (rn_else (by simp) ?_)
   rw [Bool.true_and]
   cases hw : p.whole with
   | true =>
     refine rn_if rfl ?_
     rw [if_pos rfl]
     have h2 := f_isVersion (f := f) hp.zone
     refine rn_bind0 (l := [.bool (verB f p.zone && noDiff p.diff)]) ?_ rfl
     unfold noDiff
     cases k2 : verB f p.zone with
     | false => rw [k2] at h2; exact out_call h2 (out_else (by simp) rfl)
     | true =>
       rw [k2] at h2
       refine out_call h2 (out_if rfl ?_)
       by_cases k3 : p.diff.fr = 0
       ·refine out_if (by simpa using k3) ?_
        by_cases k4 : p.diff.to' = 0
        ·refine out_if (by simpa using k4) ?_
         by_cases k5 : p.diff.dels.length = 0
         ·exact out_if (by rw [int_len0]; exact decide_eq_true k5) (by simp [k3, k4, k5, int_len0])
         ·exact out_else (by rw [int_len0]; simpa using k5) (by simp [k5])
        ·exact out_else (by simpa using k4) (by simp [k4])
       ·exact out_else (by simpa using k3) (by simp [k3])
   | false =>
     refine rn_else (by simp) ?_
     simp only [Bool.false_eq_true, if_false]
     have h2 := f_GoodDiff hp.diff
     refine rn_bind0 (l := [.bool (p.diff.good && (decide (p.diff.fr ≤ p.diff.to') && (decide (p.diff.to' ≤ f.ctl.zone.counter) && noZone p.zone)))]) ?_ rfl
     unfold noZone
     cases k2 : p.diff.good with
     | false => rw [k2] at h2; exact out_call h2 (out_else (by simp) rfl)
     | true =>
       rw [k2] at h2
       refine out_call h2 (out_if rfl ?_)
       by_cases k3 : p.diff.fr ≤ p.diff.to'
       ·refine out_if (decide_eq_true k3) ?_
        by_cases k4 : p.diff.to' ≤ f.ctl.zone.counter
        ·refine out_if (decide_eq_true k4) ?_
         by_cases k5 : p.zone.apex = []
         ·refine out_if (by simpa using k5) ?_
          by_cases k6 : p.zone.counter = 0
          ·exact out_if (by simpa using k6) (by simp [k3, k4, k5, k6, int_len0])
          ·exact out_else (by simpa using k6) (by simp [k6])
         ·exact out_else (by simpa using k5) (by simp [k5])
        ·exact out_else (fun h => k4 (of_decide_eq_true h)) (by simp [k4])
       ·exact out_else (fun h => k3 (of_decide_eq_true h)) (by simp [k3])
noncomputable def Flt.good (f : Flt) : Bool := f.ctl.good && (f.ctl.zone.apex == exc && (f.jrn.body && (f.jrn.apex == exc && (decide (f.jrn.last = f.ctl.zone.counter) && (inP f.edges.length 1 3 && (decide (f.parcels.length ≤ 12) && (f.edges.all (edgB f) && f.parcels.all (prcB f))))))))
theorem f_containsE {f : Flt} (hl : f.edges.length ≤ lim) (hx : ∀ x ∈ f.edges, x.In lim) : e_slices_ContainsFunc_impl_Edge_impl_Edge__impl_GoodFleet_1.F [.lst (f.edges.map Edg.d), .pair f.d .unit] = some (.bool !(f.edges.all (edgB f))) := by
 obtain ⟨n, i1, i2⟩ := idx_gen (f := Edg.d) (c := fun d => e_impl_GoodFleet_1.F [d, f.d]) (xs := f.edges) (p := fun e => !(edgB f e)) (Nat.le_trans hl lim_smax) (fun e he => by
  show e_impl_GoodFleet_1.F [e.d, f.d] = _
  rw [q_impl_GoodFleet_1]
  have f0 : e.d.fld 0 = e.zone.d := rfl
  have f1 : e.d.fld 1 = e.saved.d := rfl
  rw [f0, f1]
  have h1 := f_isVersion (f := f) (hx e he).zone
  have h2 := f_isVersion (f := f) (hx e he).saved
  refine rn_bind0 (l := [.bool !(edgB f e)]) ?_ rfl
  unfold edgB
  cases k : verB f e.zone with
  | false => rw [k] at h1; exact out_call h1 (out_if rfl rfl)
  | true => rw [k] at h1; exact out_call h1 (out_else (by simp) (out_call h2 rfl)))
 have h3 : e_slices_IndexFunc_impl_Edge_impl_Edge__impl_GoodFleet_1.F [.lst (f.edges.map Edg.d), .pair f.d .unit] = some (.int n) := by
  rw [q_slices_IndexFunc_impl_Edge_impl_Edge__impl_GoodFleet_1]; exact i1
 rw [q_slices_ContainsFunc_impl_Edge_impl_Edge__impl_GoodFleet_1]
 refine rn_call h3 ?_
 rw [List.not_all_eq_any_not, ← i2]; rfl
theorem f_containsP {f : Flt} (he : f.edges.length ≤ lim) (hl : f.parcels.length ≤ lim) (hx : ∀ x ∈ f.parcels, x.In lim) : e_slices_ContainsFunc_impl_Parcel_impl_Parcel__impl_GoodFleet_2.F [.lst (f.parcels.map Prc.d), .pair f.d .unit] = some (.bool !(f.parcels.all (prcB f))) := by
 obtain ⟨n, i1, i2⟩ := idx_gen (f := Prc.d) (c := fun d => e_impl_GoodFleet_2.F [d, f.d]) (xs := f.parcels) (p := fun e => !(prcB f e)) (Nat.le_trans hl lim_smax) (fun p hp => by
  show e_impl_GoodFleet_2.F [p.d, f.d] = _
  rw [q_impl_GoodFleet_2]
  exact rn_call (f_isParcel (hx p hp) he) rfl)
 have h3 : e_slices_IndexFunc_impl_Parcel_impl_Parcel__impl_GoodFleet_2.F [.lst (f.parcels.map Prc.d), .pair f.d .unit] = some (.int n) := by
  rw [q_slices_IndexFunc_impl_Parcel_impl_Parcel__impl_GoodFleet_2]; exact i1
 rw [q_slices_ContainsFunc_impl_Parcel_impl_Parcel__impl_GoodFleet_2]
 refine rn_call h3 ?_
 rw [List.not_all_eq_any_not, ← i2]; rfl
theorem f_GoodFleet {f : Flt} (hf : f.In lim) : e_impl_GoodFleet.F [f.d] = some (.bool f.good) := by
 rw [q_impl_GoodFleet]
 have f0 : f.d.fld 0 = f.ctl.d := rfl
 have f00 : ((f.ctl.d.fld 0).fld 0).s = f.ctl.zone.apex := rfl
 have f01 : ((f.ctl.d.fld 0).fld 1).i = f.ctl.zone.counter := rfl
 have f1 : f.d.fld 1 = f.jrn.d := rfl
 have f10 : (f.jrn.d.fld 0).s = f.jrn.apex := rfl
 have f2 : f.d.fld 2 = .lst (f.edges.map Edg.d) := rfl
 have f3 : f.d.fld 3 = .lst (f.parcels.map Prc.d) := rfl
 have l2 : (D.lst (f.edges.map Edg.d)).l.length = f.edges.length := by simp
 have l3 : (D.lst (f.parcels.map Prc.d)).l.length = f.parcels.length := by simp
 rw [f0, f00, f01, f1, f10, f2, f3, l2, l3]
 have h1 := f_GoodControl hf.ctl
 have h2 := f_GoodJournal hf.jrn
 have h3 := (f_last hf.jrn.len).1
 have h4 := f_withinP f.edges.length 1 3
 have h5 := f_containsE hf.elen hf.eall
 have h6 := f_containsP hf.elen hf.plen hf.pall
 have eexc : ∀ s : List UInt8, (s == [101, 120, 46, 99, 111, 109]) = (s == exc) := fun _ => rfl
 unfold Flt.good
 cases k1 : f.ctl.good with
 | false => rw [k1] at h1; exact rn_bind0 (l := [.bool true]) (out_call h1 (out_if rfl rfl)) (rn_if rfl rfl)
 | true =>
 rw [k1] at h1
 cases k2 : f.ctl.zone.apex == exc with
 | false => exact rn_bind0 (l := [.bool true]) (out_call h1 (out_else (by simp) (out_if (by rw [eexc, k2]; rfl) rfl))) (rn_if rfl rfl)
 | true =>
 have c2 : ¬ (!(f.ctl.zone.apex == [101, 120, 46, 99, 111, 109])) = true := by rw [eexc, k2]; simp
 cases k4 : f.jrn.apex == exc with
 | false =>
   have c4 : (!(f.jrn.apex == [101, 120, 46, 99, 111, 109])) = true := by rw [eexc, k4]; rfl
   have hfin : rn (ou 0 [.bool false]) = some (.bool (true && (true && (f.jrn.body && (false && (decide (f.jrn.last = f.ctl.zone.counter) && (inP f.edges.length 1 3 && (decide (f.parcels.length ≤ 12) && (f.edges.all (edgB f) && f.parcels.all (prcB f)))))))))) := by
    simp
   cases k3 : (isName f.jrn.apex && f.jrn.body) with
   | false => rw [k3] at h2; exact rn_bind0 (l := [.bool true]) (out_call h1 (out_else (by simp) (out_else c2 (out_call h2 (out_if rfl rfl))))) (rn_if rfl hfin)
   | true => rw [k3] at h2; exact rn_bind0 (l := [.bool true]) (out_call h1 (out_else (by simp) (out_else c2 (out_call h2 (out_else (by simp) (out_if c4 rfl)))))) (rn_if rfl hfin)
 | true =>
 have c4 : ¬ (!(f.jrn.apex == [101, 120, 46, 99, 111, 109])) = true := by rw [eexc, k4]; simp
 have hnm : isName f.jrn.apex = true := by
  have : f.jrn.apex = exc := by simpa using k4
  rw [this]; decide
 rw [hnm, Bool.true_and] at h2
 cases k3 : f.jrn.body with
 | false => rw [k3] at h2; exact rn_bind0 (l := [.bool true]) (out_call h1 (out_else (by simp) (out_else c2 (out_call h2 (out_if rfl rfl))))) (rn_if rfl rfl)
 | true =>
 rw [k3] at h2
 by_cases k5 : f.jrn.last = f.ctl.zone.counter
 case neg =>
  have e5 : decide (f.jrn.last = f.ctl.zone.counter) = false := decide_eq_false k5
  rw [e5]
  exact rn_bind0 (l := [.bool true]) (out_call h1 (out_else (by simp) (out_else c2 (out_call h2 (out_else (by simp) (out_else c4 (out_call h3 (by simp [k5])))))))) (rn_if rfl rfl)
 have e5 : decide (f.jrn.last = f.ctl.zone.counter) = true := decide_eq_true k5
 rw [e5]
 refine rn_bind0 (l := [.bool false]) (out_call h1 (out_else (by simp) (out_else c2 (out_call h2 (out_else (by simp) (out_else c4 (out_call h3 (by simp [k5])))))))) (rn_else (by simp) ?_)
 cases k6 : inP f.edges.length 1 3 with
 | false => rw [k6] at h4; exact rn_bind0 (l := [.bool true]) (out_call h4 (out_if rfl rfl)) (rn_if rfl rfl)
 | true =>
 rw [k6] at h4
 by_cases k7 : f.parcels.length ≤ 12
 case neg =>
  have e7 : decide (f.parcels.length ≤ 12) = false := decide_eq_false k7
  have e7' : decide ((f.parcels.length : Int) > 12) = true := decide_eq_true (by omega)
  rw [e7]
  exact rn_bind0 (l := [.bool true]) (out_call h4 (out_else (by simp) (by rw [e7']))) (rn_if rfl rfl)
 have e7 : decide (f.parcels.length ≤ 12) = true := decide_eq_true k7
 have e7' : decide ((f.parcels.length : Int) > 12) = false := decide_eq_false (by omega)
 rw [e7]
 refine rn_bind0 (l := [.bool false]) (out_call h4 (out_else (by simp) (by rw [e7']))) (rn_else (by simp) (rn_bind0 (l := [.bool (f.edges.all (edgB f) && f.parcels.all (prcB f))]) ?_ rfl))
 cases k8 : f.edges.all (edgB f) with
 | false => rw [k8] at h5; exact out_call h5 (out_else (by simp) rfl)
 | true => rw [k8] at h5; exact out_call h5 (out_if rfl (out_call h6 (by simp)))
end Go.Proofs.YtjanpfgbppcphaaGreatDoor
namespace Go.Proofs.YtjanpfgbppcphaaGreatDoor
open Go Go.Own
theorem f_l17NoDiff (x : Dif) : e_spec_l17NoDiff.F [x.d] = some (.bool (noDiff x)) := by
 rw [q_spec_l17NoDiff]
 have d0 : (x.d.fld 0).i = x.fr := rfl
 have d1 : (x.d.fld 1).i = x.to' := rfl
 have d2 : (x.d.fld 2).l.length = x.dels.length := by show (x.dels.map Rec.d).length = _; simp
 have d3 : (x.d.fld 3).l.length = x.adds.length := by show (x.adds.map Rec.d).length = _; simp
 rw [d0, d1, d2, d3, int_len0, int_len0]
 refine rn_bind0 (l := [.bool (noDiff x)]) ?_ rfl
 unfold noDiff
 by_cases k3 : x.fr = 0
 ·refine out_if (by simpa using k3) ?_
  by_cases k4 : x.to' = 0
  ·refine out_if (by simpa using k4) ?_
   by_cases k5 : x.dels.length = 0
   ·exact out_if (decide_eq_true k5) (by simp [k3, k4, k5])
   ·exact out_else (by simpa using k5) (by simp [k5])
  ·exact out_else (by simpa using k4) (by simp [k4])
 ·exact out_else (by simpa using k3) (by simp [k3])
theorem f_l17NoZone (z : Zn) : e_spec_l17NoZone.F [z.d] = some (.bool (noZone z)) := by
 rw [q_spec_l17NoZone]
 have z0 : (z.d.fld 0).s = z.apex := rfl
 have z1 : (z.d.fld 1).i = z.counter := rfl
 have z2 : (z.d.fld 2).l.length = z.recs.length := by show (z.recs.map Rec.d).length = _; simp
 rw [z0, z1, z2, int_len0]
 refine rn_bind0 (l := [.bool (noZone z)]) ?_ rfl
 unfold noZone
 by_cases k5 : z.apex = []
 ·refine out_if (by simpa using k5) ?_
  by_cases k6 : z.counter = 0
  ·exact out_if (by simpa using k6) (by simp [k5, k6])
  ·exact out_else (by simpa using k6) (by simp [k6])
 ·exact out_else (by simpa using k5) (by simp [k5])
theorem f_specGoodFleet {f : Flt} (hf : f.In lim) : e_spec_GoodFleet.F [f.d] = some (.bool f.good) := by
 have hlim : lim = 1048576 := rfl
 have hse := Nat.le_trans hf.elen lim_smax
 have hsp := Nat.le_trans hf.plen lim_smax
 rw [q_spec_GoodFleet]
 have f0 : f.d.fld 0 = f.ctl.d := rfl
 have f00 : ((f.ctl.d.fld 0).fld 0).s = f.ctl.zone.apex := rfl
 have f01 : ((f.ctl.d.fld 0).fld 1).i = f.ctl.zone.counter := rfl
 have f1 : f.d.fld 1 = f.jrn.d := rfl
 have f10 : (f.jrn.d.fld 0).s = f.jrn.apex := rfl
 have f2 : (f.d.fld 2).l = f.edges.map Edg.d := rfl
 have f3 : (f.d.fld 3).l = f.parcels.map Prc.d := rfl
 have hw : IntKind.wrap .i64 ((f.edges.length : Int) - 1) = (f.edges.length : Int) - 1 := by have := hf.elen; rw [wrap_id] <;> omega
 simp only [f0, f00, f01, f1, f10, f2, f3, List.length_map, hw]
 have h1 := f_specGoodControl hf.ctl
 have h2 := f_specGoodJournal hf.jrn
 have h3 := (f_last hf.jrn.len).2
 have h4 := f_l1InP f.edges.length 1 3
 have eexc : ∀ s : List UInt8, (s == [101, 120, 46, 99, 111, 109]) = (s == exc) := fun _ => rfl
 unfold Flt.good
 cases k1 : f.ctl.good with
 | false => rw [k1] at h1; exact rn_bind0 (l := [.bool true]) (out_call h1 (out_if rfl rfl)) (rn_if rfl rfl)
 | true =>
 rw [k1] at h1
 cases k2 : f.ctl.zone.apex == exc with
 | false => exact rn_bind0 (l := [.bool true]) (out_call h1 (out_else (by simp) (out_if (by rw [eexc, k2]; rfl) rfl))) (rn_if rfl rfl)
 | true =>
 have c2 : ¬ (!(f.ctl.zone.apex == [101, 120, 46, 99, 111, 109])) = true := by rw [eexc, k2]; simp
 cases k4 : f.jrn.apex == exc with
 | false =>
   have c4 : (!(f.jrn.apex == [101, 120, 46, 99, 111, 109])) = true := by rw [eexc, k4]; rfl
   have hfin : rn (ou 0 [.bool false]) = some (.bool (true && (true && (f.jrn.body && (false && (decide (f.jrn.last = f.ctl.zone.counter) && (inP f.edges.length 1 3 && (decide (f.parcels.length ≤ 12) && (f.edges.all (edgB f) && f.parcels.all (prcB f)))))))))) := by
    simp
   cases k3 : (isApx f.jrn.apex && f.jrn.body) with
   | false => rw [k3] at h2; exact rn_bind0 (l := [.bool true]) (out_call h1 (out_else (by simp) (out_else c2 (out_call h2 (out_if rfl rfl))))) (rn_if rfl hfin)
   | true => rw [k3] at h2; exact rn_bind0 (l := [.bool true]) (out_call h1 (out_else (by simp) (out_else c2 (out_call h2 (out_else (by simp) (out_if c4 rfl)))))) (rn_if rfl hfin)
 | true =>
 have c4 : ¬ (!(f.jrn.apex == [101, 120, 46, 99, 111, 109])) = true := by rw [eexc, k4]; simp
 have hnm : isApx f.jrn.apex = true := by
  have : f.jrn.apex = exc := by simpa using k4
  rw [this]; decide
 rw [hnm, Bool.true_and] at h2
 cases k3 : f.jrn.body with
 | false => rw [k3] at h2; exact rn_bind0 (l := [.bool true]) (out_call h1 (out_else (by simp) (out_else c2 (out_call h2 (out_if rfl rfl))))) (rn_if rfl rfl)
 | true =>
 rw [k3] at h2
 by_cases k5 : f.jrn.last = f.ctl.zone.counter
 case neg =>
  have e5 : decide (f.jrn.last = f.ctl.zone.counter) = false := decide_eq_false k5
  rw [e5]
  exact rn_bind0 (l := [.bool true]) (out_call h1 (out_else (by simp) (out_else c2 (out_call h2 (out_else (by simp) (out_else c4 (out_call h3 (out_if (by simpa using k5) rfl)))))))) (rn_if rfl rfl)
 have e5 : decide (f.jrn.last = f.ctl.zone.counter) = true := decide_eq_true k5
 have c5 : ¬ ((D.int f.jrn.last).i != f.ctl.zone.counter) = true := by simp [k5]
 rw [e5]
 cases k6 : inP f.edges.length 1 3 with
 | false => rw [k6] at h4; exact rn_bind0 (l := [.bool true]) (out_call h1 (out_else (by simp) (out_else c2 (out_call h2 (out_else (by simp) (out_else c4 (out_call h3 (out_else c5 (out_call h4 (out_if rfl rfl)))))))))) (rn_if rfl rfl)
 | true =>
 rw [k6] at h4
 by_cases k7 : f.parcels.length ≤ 12
 case neg =>
  have e7 : decide (f.parcels.length ≤ 12) = false := decide_eq_false k7
  have e7' : decide ((f.parcels.length : Int) > 12) = true := decide_eq_true (by omega)
  rw [e7]
  exact rn_bind0 (l := [.bool true]) (out_call h1 (out_else (by simp) (out_else c2 (out_call h2 (out_else (by simp) (out_else c4 (out_call h3 (out_else c5 (out_call h4 (out_else (by simp) (by rw [e7'])))))))))))  (rn_if rfl rfl)
 have e7 : decide (f.parcels.length ≤ 12) = true := decide_eq_true k7
 have e7' : decide ((f.parcels.length : Int) > 12) = false := decide_eq_false (by omega)
 rw [e7]
 refine rn_bind0 (l := [.bool false]) (out_call h1 (out_else (by simp) (out_else c2 (out_call h2 (out_else (by simp) (out_else c4 (out_call h3 (out_else c5 (out_call h4 (out_else (by simp) (by rw [e7']))))))))))) (rn_else (by simp) ?_)
 refine rn_bind (loop_all' (fun i => [.int i]) f.edges.length (fun i => edgB f (f.edges.getD i Edg.nul)) (t1 := 0) (t2 := 1) (o1 := [.bool false]) (o2 := []) rfl ?_ (by exact out_else (by simp) rfl)) ?_
 ·intro i hi
  rw [getD_lt hi]
  have e0 : (gd [D.int (i : Int)] 0).i.toNat = i := by simp
  have e1 : (gd [D.int (i : Int)] 0).i = i := rfl
  have g0 : f.edges[i].d.fld 0 = f.edges[i].zone.d := rfl
  have g1 : f.edges[i].d.fld 1 = f.edges[i].saved.d := rfl
  have hz := hf.eall _ (List.getElem_mem hi)
  have v1 := f_l17Zone (f := f) hz.zone
  have v2 := f_l17Zone (f := f) hz.saved
  rw [e0, e1, gd_map hi, g0, g1, wrap_succ hi hse]
  refine out_if (by simpa using hi) (out_if (by simpa using inb_nat hi) (out_bind (r := (0, [.bool !(edgB f f.edges[i])])) ?_ (sel0 (by cases edgB f f.edges[i] <;> simp))))
  unfold edgB
  cases k : verB f f.edges[i].zone with
  | false => rw [k] at v1; exact out_call v1 (out_if rfl rfl)
  | true => rw [k] at v1; exact out_call v1 (out_else (by simp) (out_call v2 rfl))
 ·rw [all_allN f.edges (edgB f) Edg.nul]
  cases k8 : f.edges.all (edgB f) with
  | false => rfl
  | true =>
    refine rn_bind (loop_all' (fun i => [.int i]) f.parcels.length (fun i => prcB f (f.parcels.getD i Prc.nul)) (t1 := 0) (t2 := 1) (o1 := [.bool false]) (o2 := []) rfl ?_ (by exact out_else (by simp) rfl)) ?_
    ·intro i hi
     rw [getD_lt hi]
     have hp := hf.pall _ (List.getElem_mem hi)
     have e0 : (gd [D.int (i : Int)] 0).i.toNat = i := by simp
     have e1 : (gd [D.int (i : Int)] 0).i = i := rfl
     rw [e0, e1, gd_map hi, wrap_succ hi hsp]
     generalize f.parcels[i] = p at hp ⊢
     have g0 : p.d.fld 0 = .int p.to' := rfl
     have g1 : (p.d.fld 1).b = p.whole := rfl
     have g2 : p.d.fld 2 = p.zone.d := rfl
     have g3 : p.d.fld 3 = p.diff.d := rfl
     have d0 : (p.diff.d.fld 0).i = p.diff.fr := rfl
     have d1 : (p.diff.d.fld 1).i = p.diff.to' := rfl
     rw [g0, g1, g2, g3, d0, d1]
     have h1 := f_l1InP p.to' 0 ((f.edges.length : Int) - 1)
     refine out_if (by simpa using hi) (out_if (by simpa using inb_nat hi) ?_)
     unfold prcB
     cases k1 : inP p.to' 0 ((f.edges.length : Int) - 1) with
     | false => rw [k1] at h1; exact out_call h1 (out_if rfl rfl)
     | true =>
       rw [k1] at h1
       refine out_call h1 (out_else (by simp) ?_)
       rw [Bool.true_and]
       cases hw : p.whole with
       | true =>
         simp only [if_true]
         have v1 := f_l17Zone (f := f) hp.zone
         have v2 := f_l17NoDiff p.diff
         refine out_bind (r := (0, [.bool !(verB f p.zone && noDiff p.diff)])) ?_ (sel0 ?_)
         ·cases k : verB f p.zone with
          | false => rw [k] at v1; exact out_call v1 (out_if rfl rfl)
          | true => rw [k] at v1; exact out_call v1 (out_else (by simp) (out_call v2 rfl))
         ·cases (verB f p.zone && noDiff p.diff) with
          | false => exact out_if rfl rfl
          | true => exact out_else (by simp) (out_bind (r := (0, [.bool false])) (by simp) (sel0 (out_else (by simp) rfl)))
       | false =>
         simp only [Bool.false_eq_true, if_false]
         have v1 := f_l17NoZone p.zone
         have v2 := f_specGoodDiff hp.diff
         refine out_bind (r := (0, [.bool false])) (by simp) (sel0 (out_else (by simp) (out_bind (r := (0, [.bool !(p.diff.good && (decide (p.diff.fr ≤ p.diff.to') && (decide (p.diff.to' ≤ f.ctl.zone.counter) && noZone p.zone)))])) (out_if rfl ?_) (sel0 ?_))))
         ·cases k : noZone p.zone with
          | false =>
            rw [k] at v1
            exact out_call v1 (out_if rfl (by simp))
          | true =>
            rw [k] at v1
            refine out_call v1 (out_else (by simp) ?_)
            cases k2 : p.diff.good with
            | false => rw [k2] at v2; exact out_call v2 (out_if rfl rfl)
            | true =>
              rw [k2] at v2
              refine out_call v2 (out_else (by simp) ?_)
              by_cases k3 : p.diff.to' ≤ f.ctl.zone.counter
              ·refine out_else (fun h => by have h' : p.diff.to' > f.ctl.zone.counter := of_decide_eq_true h; omega) ?_
               have : decide (p.diff.fr > p.diff.to') = !(decide (p.diff.fr ≤ p.diff.to')) := by
                rw [Bool.eq_iff_iff]; simp
               rw [this]; simp [k3]
              ·exact out_if (decide_eq_true (by omega)) (by simp [k3])
         ·cases (p.diff.good && (decide (p.diff.fr ≤ p.diff.to') && (decide (p.diff.to' ≤ f.ctl.zone.counter) && noZone p.zone))) with
          | false => exact out_if rfl rfl
          | true => exact out_else (by simp) rfl
    ·rw [all_allN f.parcels (prcB f) Prc.nul]
     cases f.parcels.all (prcB f) <;> rfl
theorem Flt.In.smax {f : Flt} (h : f.In lim) : f.In smax :=
 ⟨h.ctl.smax, ⟨Nat.le_trans h.jrn.apex lim_smax, Nat.le_trans h.jrn.len lim_smax, fun x hx => (h.jrn.all x hx).smax⟩, Nat.le_trans h.elen lim_smax, fun x hx => ⟨(h.eall x hx).zone.smax, (h.eall x hx).saved.smax⟩, Nat.le_trans h.plen lim_smax, fun x hx => ⟨(h.pall x hx).zone.smax, (h.pall x hx).diff.smax⟩⟩
end Go.Proofs.YtjanpfgbppcphaaGreatDoor
