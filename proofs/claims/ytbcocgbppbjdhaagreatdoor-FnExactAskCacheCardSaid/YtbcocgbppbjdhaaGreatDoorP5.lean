/- What the functions compute, in plain words. -/
import Derived.Test.YtbcocgbppbjdhaaGreatDoorP4
set_option linter.unusedSectionVars false
set_option linter.unusedVariables false
set_option linter.unusedSimpArgs false
namespace Go.Proofs.YtbcocgbppbjdhaaGreatDoor
open Go Go.Own
noncomputable def Ety.ok (now : Int) (e : Ety) : Bool :=
  isName e.name && (typeB e.type && (inP e.till (IntKind.wrap .i64 (now + 1)) (IntKind.wrap .i64 (now + 100000)) && (inP e.used 1 now && (if e.none then e.recs.isEmpty else oneOk e.recs e.name e.type))))
theorem f_isEntry {c : Cch} {e : Ety} (he : e.In lim) : e_impl_isEntry.F [c.d, e.d] = some (.bool (e.ok c.now)) := by
  have g0 : c.d.fld 0 = .int c.now := rfl
  have f0 : e.d.fld 0 = .str e.name := rfl
  have f1 : e.d.fld 1 = .int e.type := rfl
  have f2 : e.d.fld 2 = .bool e.none := rfl
  have f3 : e.d.fld 3 = .lst (e.recs.map Rec.d) := rfl
  have f4 : e.d.fld 4 = .int e.till := rfl
  have f5 : e.d.fld 5 = .int e.used := rfl
  rw [q_impl_isEntry, g0, f0, f1, f2, f3, f4, f5]
  have h1 := f_GoodName e.name
  have h2 := f_isType e.type
  have h3 := f_withinP e.till (IntKind.wrap .i64 (c.now + 1)) (IntKind.wrap .i64 (c.now + 100000))
  have h4 := f_withinP e.used 1 c.now
  have h5 := f_areOne he.recs e.name e.type
  unfold Ety.ok
  simp only [D.i_int]
  cases k1 : isName e.name with
  | false => rw [k1] at h1; exact rn_bind0 (l := [.bool true]) (out_call h1 (out_if rfl rfl)) (rn_if rfl (by simp))
  | true =>
    rw [k1] at h1
    cases k2 : typeB e.type with
    | false => rw [k2] at h2; exact rn_bind0 (l := [.bool true]) (out_call h1 (out_else (by simp) (out_call h2 (out_if rfl rfl)))) (rn_if rfl (by simp))
    | true =>
      rw [k2] at h2
      cases k3 : inP e.till (IntKind.wrap .i64 (c.now + 1)) (IntKind.wrap .i64 (c.now + 100000)) with
      | false => rw [k3] at h3; exact rn_bind0 (l := [.bool true]) (out_call h1 (out_else (by simp) (out_call h2 (out_else (by simp) (out_call h3 (out_if rfl rfl)))))) (rn_if rfl (by simp))
      | true =>
        rw [k3] at h3
        cases k4 : inP e.used 1 c.now with
        | false => rw [k4] at h4; exact rn_bind0 (l := [.bool true]) (out_call h1 (out_else (by simp) (out_call h2 (out_else (by simp) (out_call h3 (out_else (by simp) (out_call h4 rfl))))))) (rn_if rfl (by simp))
        | true =>
          rw [k4] at h4
          refine rn_bind0 (l := [.bool false]) (out_call h1 (out_else (by simp) (out_call h2 (out_else (by simp) (out_call h3 (out_else (by simp) (out_call h4 rfl))))))) (rn_else (by simp) ?_)
          cases k5 : e.none with
          | true =>
            refine rn_if rfl ?_
            have : (((D.lst (e.recs.map Rec.d)).l.length : Int) == 0) = e.recs.isEmpty := by
              cases e.recs <;> simp
              omega
            simp only [this]
            simp
          | false =>
            refine rn_else (by simp) (rn_call h5 ?_)
            simp
noncomputable def cmpE (e : Ety) (n : List UInt8) (t : Int) : Int := cmpP (e.name, e.type) (n, t)
theorem f_compareEntry {e : Ety} (he : e.name.length ≤ lim) {n : List UInt8} (hn : n.length ≤ lim) (t : Int) : e_impl_compareEntry.F [e.d, .str n, .int t] = some (.int (cmpE e n t)) := by
  have f0 : e.d.fld 0 = .str e.name := rfl
  have f1 : e.d.fld 1 = .int e.type := rfl
  rw [q_impl_compareEntry, f0, f1]
  have h := f_cmpOr (xs := [cmpN e.name n, intC e.type t]) (show 2 ≤ lim by decide)
  rw [orL2] at h
  exact rn_call (f_compareNames he hn) (rn_call (f_cmpInt e.type t) (rn_call h rfl))
def Ety.nul : Ety := ⟨[], 0, false, [], 0, 0⟩
theorem gd_ety {es : List Ety} {i : Nat} (hi : i < es.length) : gd (es.map Ety.d) i = (es[i]).d := gd_map hi
noncomputable def etyAt (c : Cch) (i : Nat) : Bool := (c.es.getD i Ety.nul).ok c.now && (i == 0 || decide (cmpE (c.es.getD (i - 1) Ety.nul) (c.es.getD i Ety.nul).name (c.es.getD i Ety.nul).type < 0))
noncomputable def Cch.good (c : Cch) : Bool := inP c.now 1 1000000000 && (decide (c.es.length ≤ 20) && allN c.es.length (etyAt c))
theorem f_implGoodCache {c : Cch} (hc : c.In lim) : e_impl_GoodCache.F [c.d] = some (.bool c.good) := by
  have hsm := Nat.le_trans hc.len lim_smax
  have g0 : c.d.fld 0 = .int c.now := rfl
  have g1 : c.d.fld 1 = .lst (c.es.map Ety.d) := rfl
  have hlen : (D.lst (c.es.map Ety.d)).l.length = c.es.length := by simp
  rw [q_impl_GoodCache, g0, g1, hlen]
  have h1 := f_withinP c.now 1 1000000000
  unfold Cch.good
  cases k1 : inP c.now 1 1000000000 with
  | false => rw [k1] at h1; exact rn_bind0 (l := [.bool true]) (out_call h1 (out_if rfl rfl)) (rn_if rfl (by simp))
  | true =>
    rw [k1] at h1
    by_cases k2 : c.es.length ≤ 20
    · refine rn_bind0 (l := [.bool false]) (out_call h1 (out_else (by simp) ?_)) (rn_else (by simp) ?_)
      · have : ¬ ((c.es.length : Int) > 20) := by omega
        simp [this]
      · rw [decide_eq_true k2, Bool.true_and, Bool.true_and]
        refine rn_bind (loop_all' (fun i => [.int i]) c.es.length (etyAt c) (t1 := 0) (t2 := 1) (o1 := [.bool false]) (o2 := []) rfl ?_ (by exact out_else (by simp) rfl)) ?_
        · intro i hi
          have hin := hc.all _ (List.getElem_mem hi)
          have hE := f_isEntry (c := c) hin
          have e0 : (gd [D.int (i : Int)] 0).i.toNat = i := by simp
          have e1 : (gd [D.int (i : Int)] 0).i = i := rfl
          rw [e0, e1, D.l_lst, gd_ety hi, wrap_succ hi hsm]
          refine out_if (by simpa using hi) (out_if (inb_nat hi) (out_bind0 (l := [.bool !(etyAt c i)]) ?_ ?_))
          · unfold etyAt
            rw [getD_lt hi]
            cases k : (c.es[i]).ok c.now with
            | false => rw [k] at hE; exact out_call hE (out_if rfl (by simp))
            | true =>
              rw [k] at hE
              refine out_call hE (out_else (by simp) ?_)
              by_cases h0 : i = 0
              · subst h0; exact out_else (by simp) (by simp)
              · have w : IntKind.wrap .i64 ((i : Int) - 1) = ((i - 1 : Nat) : Int) := by rw [smax_eq] at hsm; rw [wrap_id] <;> omega
                have hi1 : i - 1 < c.es.length := by omega
                have f0 : (c.es[i]).d.fld 0 = .str (c.es[i]).name := rfl
                have f1 : (c.es[i]).d.fld 1 = .int (c.es[i]).type := rfl
                refine out_if (decide_eq_true (by omega)) (out_if (by rw [w]; exact inb_nat hi1) ?_)
                rw [w, Int.toNat_natCast, gd_ety hi1, f0, f1, getD_lt hi1]
                refine out_call (f_compareEntry (hc.all _ (List.getElem_mem hi1)).name hin.name _) ?_
                have : decide ((D.int (cmpE c.es[i - 1] (c.es[i]).name (c.es[i]).type)).i ≥ 0) = !(decide (cmpE c.es[i - 1] (c.es[i]).name (c.es[i]).type < 0)) := by
                  rw [Bool.eq_iff_iff]; simp
                rw [this]
                have : (i == 0) = false := by simpa using h0
                rw [this]; simp
          · cases etyAt c i <;> simp
        · cases allN c.es.length (etyAt c) <;> rfl
    · refine rn_bind0 (l := [.bool true]) (out_call h1 (out_else (by simp) ?_)) (rn_if rfl ?_)
      · have : ((c.es.length : Int) > 20) := by omega
        simp [this]
      · rw [decide_eq_false k2]; simp
end Go.Proofs.YtbcocgbppbjdhaaGreatDoor
namespace Go.Proofs.YtbcocgbppbjdhaaGreatDoor
open Go Go.Own
theorem one_same (l : List Rec) (n : List UInt8) (t : Int) : (sameOk l && ((l.getD 0 Rec.nul).name == n && (l.getD 0 Rec.nul).type == t)) = oneOk l n t := by
  unfold sameOk oneOk
  cases k1 : inP l.length 1 12 with
  | false => simp
  | true =>
    have hpos : 0 < l.length := by simp [inP] at k1; omega
    cases k2 : rising l with
    | false => simp
    | true =>
      simp only [Bool.true_and]
      cases a1 : (l.getD 0 Rec.nul).name == n with
      | false =>
        rw [Bool.false_and, Bool.and_false, allN_false (k := 0) hpos]
        unfold oneAt; rw [a1]; rfl
      | true =>
        cases a2 : (l.getD 0 Rec.nul).type == t with
        | false =>
          rw [Bool.and_false, Bool.and_false, allN_false (k := 0) hpos]
          unfold oneAt; rw [a2]; simp
        | true =>
          rw [Bool.and_true, Bool.and_true, eq_of_beq a1, eq_of_beq a2]
theorem intC_lt (a b : Int) : intC a b < 0 ↔ a < b := by unfold intC; repeat' split
                                                         all_goals omega
theorem f_l10Less {a b : Ety} (ha : a.name.length ≤ lim) (hb : b.name.length ≤ lim) : ∃ r : Bool, e_spec_l10Less.F [a.d, b.d] = some (.bool r) ∧ (isName a.name = true → isName b.name = true → r = decide (cmpE a b.name b.type < 0)) := by
  obtain ⟨n, h1, h2⟩ := f_l1Compare ha hb
  have f0 : ∀ e : Ety, e.d.fld 0 = .str e.name := fun _ => rfl
  have f1 : ∀ e : Ety, (e.d.fld 1).i = e.type := fun _ => rfl
  rw [q_spec_l10Less, f0, f0, f1, f1]
  refine ⟨decide (n < 0) || (n == 0 && decide (a.type < b.type)), rn_call h1 (rn_bind0 (l := [.bool (decide (n < 0) || (n == 0 && decide (a.type < b.type)))]) ?_ rfl), fun g1 g2 => ?_⟩
  · simp only [D.i_int]
    by_cases k1 : n < 0
    · exact out_if (decide_eq_true k1) (by simp [k1])
    · refine out_else (fun h => k1 (of_decide_eq_true h)) ?_
      by_cases k2 : n = 0
      · exact out_if (by simp [k2]) (by simp [k2])
      · exact out_else (by simp [k2]) (by simp [k1, k2])
  · have := h2 g1 g2
    subst this
    unfold cmpE cmpP
    simp only
    by_cases k : cmpN a.name b.name = 0
    · rw [if_pos k, k]
      simp [intC_lt]
    · rw [if_neg k]
      simp [k]
theorem f_specGoodCache {c : Cch} (hc : c.In lim) : e_spec_GoodCache.F [c.d] = some (.bool c.good) := by
  have hsm := Nat.le_trans hc.len lim_smax
  have g0 : c.d.fld 0 = .int c.now := rfl
  have g1 : c.d.fld 1 = .lst (c.es.map Ety.d) := rfl
  have hlen : (D.lst (c.es.map Ety.d)).l.length = c.es.length := by simp
  rw [q_spec_GoodCache, g0, g1, hlen]
  have h1 := f_l1InP c.now 1 1000000000
  have hcs : ∀ i, i < c.es.length → ∃ r : Bool, e_spec_l10Less.F [(c.es.getD (i - 1) Ety.nul).d, (c.es.getD i Ety.nul).d] = some (.bool r) ∧ (isName (c.es.getD (i - 1) Ety.nul).name = true → isName (c.es.getD i Ety.nul).name = true → r = decide (cmpE (c.es.getD (i - 1) Ety.nul) (c.es.getD i Ety.nul).name (c.es.getD i Ety.nul).type < 0)) := by
    intro i hi
    have hi1 : i - 1 < c.es.length := by omega
    rw [getD_lt hi, getD_lt hi1]
    exact f_l10Less (hc.all _ (List.getElem_mem hi1)).name (hc.all _ (List.getElem_mem hi)).name
  let cS : Nat → Bool := fun i => match e_spec_l10Less.F [(c.es.getD (i - 1) Ety.nul).d, (c.es.getD i Ety.nul).d] with
    | some (.bool r) => r
    | _ => false
  have hcS : ∀ i, i < c.es.length → e_spec_l10Less.F [(c.es.getD (i - 1) Ety.nul).d, (c.es.getD i Ety.nul).d] = some (.bool (cS i)) ∧ (isName (c.es.getD (i - 1) Ety.nul).name = true → isName (c.es.getD i Ety.nul).name = true → cS i = decide (cmpE (c.es.getD (i - 1) Ety.nul) (c.es.getD i Ety.nul).name (c.es.getD i Ety.nul).type < 0)) := by
    intro i hi
    obtain ⟨n, k1, k2⟩ := hcs i hi
    have : cS i = n := by simp only [cS, k1]
    rw [this]; exact ⟨k1, k2⟩
  let up : Nat → Bool := fun i => (c.es.getD i Ety.nul).ok c.now && (i == 0 || cS i)
  have hup : allN c.es.length up = allN c.es.length (etyAt c) := by
    have hname : ∀ e : Ety, e.ok c.now = true → isName e.name = true := by
      intro e h
      unfold Ety.ok at h
      simp only [Bool.and_eq_true] at h
      exact h.1
    rw [Bool.eq_iff_iff, allN_true, allN_true]
    constructor
    · intro h i hi
      have k1 := h i hi
      simp only [up, etyAt, Bool.and_eq_true, Bool.or_eq_true, beq_iff_eq] at k1 ⊢
      refine ⟨k1.1, k1.2.imp id fun k2 => ?_⟩
      by_cases h0 : i = 0
      · subst h0
        rw [← (hcS 0 hi).2 (hname _ k1.1) (hname _ k1.1)]; exact k2
      · have h3 := h (i - 1) (by omega)
        simp only [up, Bool.and_eq_true] at h3
        rw [← (hcS i hi).2 (hname _ h3.1) (hname _ k1.1)]; exact k2
    · intro h i hi
      have k1 := h i hi
      simp only [up, etyAt, Bool.and_eq_true, Bool.or_eq_true, beq_iff_eq] at k1 ⊢
      refine ⟨k1.1, k1.2.imp id fun k2 => ?_⟩
      by_cases h0 : i = 0
      · subst h0
        rw [(hcS 0 hi).2 (hname _ k1.1) (hname _ k1.1)]; exact k2
      · have h3 := h (i - 1) (by omega)
        simp only [etyAt, Bool.and_eq_true] at h3
        rw [(hcS i hi).2 (hname _ h3.1) (hname _ k1.1)]; exact k2
  unfold Cch.good
  cases k1 : inP c.now 1 1000000000 with
  | false => rw [k1] at h1; exact rn_bind0 (l := [.bool true]) (out_call h1 (out_if rfl rfl)) (rn_if rfl (by simp))
  | true =>
    rw [k1] at h1
    by_cases k2 : c.es.length ≤ 20
    · refine rn_bind0 (l := [.bool false]) (out_call h1 (out_else (by simp) ?_)) (rn_else (by simp) ?_)
      · have : ¬ ((c.es.length : Int) > 20) := by omega
        simp [this]
      · rw [decide_eq_true k2, Bool.true_and, Bool.true_and, ← hup]
        refine rn_bind (loop_all' (fun i => [.int i]) c.es.length up (t1 := 0) (t2 := 1) (o1 := [.bool false]) (o2 := []) rfl ?_ (by exact out_else (by simp) rfl)) ?_
        · intro i hi
          have hin := hc.all _ (List.getElem_mem hi)
          have hL := (hcS i hi).1
          have e0 : (gd [D.int (i : Int)] 0).i.toNat = i := by simp
          have e1 : (gd [D.int (i : Int)] 0).i = i := rfl
          rw [e0, e1, D.l_lst, gd_ety hi, wrap_succ hi hsm]
          refine out_if (by simpa using hi) ?_
          refine out_bind (r := cond (up i) (0, []) (1, [.bool false])) (out_if (inb_nat hi) ?_) (by cases up i <;> rfl)
          simp only [up]
          rw [getD_lt hi] at hL ⊢
          generalize c.es[i] = e at hin hL
          have f0 : e.d.fld 0 = .str e.name := rfl
          have f1 : e.d.fld 1 = .int e.type := rfl
          have f2 : e.d.fld 2 = .bool e.none := rfl
          have f3 : e.d.fld 3 = .lst (e.recs.map Rec.d) := rfl
          have f4 : e.d.fld 4 = .int e.till := rfl
          have f5 : e.d.fld 5 = .int e.used := rfl
          rw [f0, f1, f2, f3, f4, f5]
          have q1 := f_specGoodName e.name hin.name
          have q2 := f_l3Type e.type
          have q3 := f_l1InP e.till (IntKind.wrap .i64 (c.now + 1)) (IntKind.wrap .i64 (c.now + 100000))
          have q4 := f_l1InP e.used 1 c.now
          have q5 := f_l10Same hin.recs
          unfold Ety.ok
          simp only [D.i_int]
          cases r1 : isName e.name with
          | false => rw [r1] at q1; exact out_bind0 (l := [.bool true]) (out_call q1 (out_if rfl rfl)) (out_if rfl (by simp))
          | true =>
            rw [r1] at q1
            cases r2 : typeB e.type with
            | false => rw [r2] at q2; exact out_bind0 (l := [.bool true]) (out_call q1 (out_else (by simp) (out_call q2 (out_if rfl rfl)))) (out_if rfl (by simp))
            | true =>
              rw [r2] at q2
              cases r3 : inP e.till (IntKind.wrap .i64 (c.now + 1)) (IntKind.wrap .i64 (c.now + 100000)) with
              | false => rw [r3] at q3; exact out_bind0 (l := [.bool true]) (out_call q1 (out_else (by simp) (out_call q2 (out_else (by simp) (out_call q3 (out_if rfl rfl)))))) (out_if rfl (by simp))
              | true =>
                rw [r3] at q3
                cases r4 : inP e.used 1 c.now with
                | false => rw [r4] at q4; exact out_bind0 (l := [.bool true]) (out_call q1 (out_else (by simp) (out_call q2 (out_else (by simp) (out_call q3 (out_else (by simp) (out_call q4 (out_if rfl rfl)))))))) (out_if rfl (by simp))
                | true =>
                  rw [r4] at q4
                  refine out_bind0 (l := [.bool !(i == 0 || cS i)]) (out_call q1 (out_else (by simp) (out_call q2 (out_else (by simp) (out_call q3 (out_else (by simp) (out_call q4 (out_else (by simp) ?_)))))))) ?_
                  · by_cases h0 : i = 0
                    · subst h0; exact out_else (by simp) (by simp)
                    · have w : IntKind.wrap .i64 ((i : Int) - 1) = ((i - 1 : Nat) : Int) := by rw [smax_eq] at hsm; rw [wrap_id] <;> omega
                      have hi1 : i - 1 < c.es.length := by omega
                      rw [getD_lt hi1] at hL
                      refine out_if (decide_eq_true (by omega)) (out_if (by rw [w]; exact inb_nat hi1) ?_)
                      rw [w, Int.toNat_natCast, gd_ety hi1]
                      refine out_call hL ?_
                      have : (i == 0) = false := by simpa using h0
                      rw [this]; simp
                  · cases r5 : (i == 0 || cS i) with
                    | false => exact out_if rfl (by simp)
                    | true =>
                      refine out_else (by simp) ?_
                      cases r6 : e.none with
                      | true =>
                        refine out_if rfl ?_
                        cases hr : e.recs with
                        | nil => exact out_else (by simp) rfl
                        | cons x xs => exact out_if (decide_eq_true (by simp)) rfl
                      | false =>
                        refine out_else (by simp) ?_
                        simp only [Bool.false_eq_true, if_false, Bool.true_and, Bool.and_true]
                        rw [← one_same]
                        cases r7 : sameOk e.recs with
                        | false => rw [r7] at q5; exact out_bind0 (l := [.bool true]) (out_call q5 (out_if rfl rfl)) (out_if rfl (by simp))
                        | true =>
                          rw [r7] at q5
                          have hpos : 0 < e.recs.length := by
                            unfold sameOk at r7
                            simp only [Bool.and_eq_true, inP, decide_eq_true_eq] at r7
                            omega
                          have hg0 : gd (D.lst (e.recs.map Rec.d)).l 0 = (e.recs[0]).d := gd_rec hpos
                          have j0 : ((e.recs[0]).d.fld 0).s = (e.recs[0]).name := rfl
                          have j1 : ((e.recs[0]).d.fld 1).i = (e.recs[0]).type := rfl
                          rw [hg0, j0, j1, getD_lt hpos]
                          refine out_bind0 (l := [.bool !((e.recs[0]).name == e.name && (e.recs[0]).type == e.type)]) (out_call q5 (out_else (by simp) (out_if (inb_nat (i := 0) (by simpa using hpos)) ?_))) ?_
                          · cases a1 : (e.recs[0]).name == e.name with
                            | false => exact out_if (by simpa using a1) (by simp)
                            | true => exact out_else (by simpa using a1) (by simp [bne])
                          · cases a1 : ((e.recs[0]).name == e.name && (e.recs[0]).type == e.type) with
                            | false => exact out_if rfl rfl
                            | true => exact out_else (by simp) rfl
        · cases allN c.es.length up <;> rfl
    · refine rn_bind0 (l := [.bool true]) (out_call h1 (out_else (by simp) ?_)) (rn_if rfl ?_)
      · have : ((c.es.length : Int) > 20) := by omega
        simp [this]
      · rw [decide_eq_false k2]; simp
end Go.Proofs.YtbcocgbppbjdhaaGreatDoor
namespace Go.Proofs.YtbcocgbppbjdhaaGreatDoor
open Go Go.Own
theorem appOk_small {e n : Nat} {l m : List D} (hl : l.length ≤ lim) (hm : m.length ≤ lim) (he : e ≤ 100) : appOk e l m = true := by
  have h2 : (lim : Nat) = 1048576 := rfl
  have : (l.length + m.length) * e ≤ (lim + lim) * 100 := Nat.mul_le_mul (by omega) he
  unfold appOk
  rw [Bool.and_eq_true, decide_eq_true_eq, decide_eq_true_eq, smax_eq]
  refine ⟨by omega, Nat.le_trans this ?_⟩
  rw [h2]; decide
theorem f_cloneRecs {xs : List D} (h : xs.length ≤ lim) : e_slices_Clone_impl_Record_impl_Record.F [.lst xs] = some (.lst xs) := by
  rw [q_slices_Clone_impl_Record_impl_Record]
  have ha : appOk 48 ([] : List D) (D.lst xs).l = true := appOk_small (n := 0) (by simp) h (by decide)
  rw [two_eq]
  · refine rn_if ha rfl
  · intro h
    rw [if_pos ha]
    have : xs = [] := by simpa using h
    subst this
    rfl
theorem f_ownEntry {e : Ety} (he : e.In lim) : e_impl_ownEntry.F [e.d] = some e.d := by
  have f3 : e.d.fld 3 = .lst (e.recs.map Rec.d) := rfl
  rw [q_impl_ownEntry, f3]
  exact rn_call (f_cloneRecs (by simpa using he.recs.len)) rfl
theorem f_l10OwnEntry {e : Ety} (he : e.In lim) : e_spec_l10OwnEntry.F [e.d] = some e.d := by
  have f3 : e.d.fld 3 = .lst (e.recs.map Rec.d) := rfl
  rw [q_spec_l10OwnEntry, f3]
  exact rn_if (appOk_small (n := 0) (by simp) (by simpa using he.recs.len) (by decide)) rfl
theorem take_map_succ {es : List Ety} {i : Nat} (hi : i < es.length) : (es.map Ety.d).take (i + 1) = (es.map Ety.d).take i ++ [(es[i]).d] := by
  rw [List.take_add_one]; simp [hi]
theorem f_ownCache {c : Cch} (hc : c.In lim) : e_impl_ownCache.F [c.d] = some c.d := by
  have hsm := Nat.le_trans hc.len lim_smax
  have g0 : c.d.fld 0 = .int c.now := rfl
  have g1 : c.d.fld 1 = .lst (c.es.map Ety.d) := rfl
  have hlen : (D.lst (c.es.map Ety.d)).l.length = c.es.length := by simp
  rw [q_impl_ownCache, g0, g1, hlen]
  refine rn_bind0 (loop_for' (fun i (s : List D) => [.pair (.int c.now) (.pair (.lst s) .unit), .int i]) c.es.length (fun i => (c.es.map Ety.d).take i) (t := 0) (o := [c.d]) (by simp) ?_ ?_) rfl
  · intro i hi
    rw [take_map_succ hi]
    have hl : ((c.es.map Ety.d).take i).length ≤ lim := by have := hc.len; simp; omega
    generalize (c.es.map Ety.d).take i = L at hl
    have e1 : (gd [D.pair (.int c.now) (.pair (.lst L) .unit), D.int (i : Int)] 1).i = i := rfl
    have e0 : gd [D.pair (.int c.now) (.pair (.lst L) .unit), D.int (i : Int)] 0 = .pair (.int c.now) (.pair (.lst L) .unit) := rfl
    rw [e1, e0, Int.toNat_natCast, D.l_lst, gd_ety hi, wrap_succ hi hsm]
    exact out_if (by simpa using hi) (out_if (inb_nat hi) (out_call (f_ownEntry (hc.all _ (List.getElem_mem hi))) (out_if (appOk_small (n := 0) hl (show 1 ≤ lim by decide) (by decide)) rfl)))
  · rw [List.take_of_length_le (by simp)]
    exact out_else (by simp) rfl
theorem f_l10Own {c : Cch} (hc : c.In lim) : e_spec_l10Own.F [c.d] = some c.d := by
  have hsm := Nat.le_trans hc.len lim_smax
  have g1 : c.d.fld 1 = .lst (c.es.map Ety.d) := rfl
  have hlen : (D.lst (c.es.map Ety.d)).l.length = c.es.length := by simp
  rw [q_spec_l10Own, g1, hlen]
  refine rn_bind0 (loop_for' (fun i (s : List D) => [.lst s, .int i]) c.es.length (fun i => (c.es.map Ety.d).take i) (t := 0) (o := [.lst (c.es.map Ety.d)]) (by simp) ?_ ?_) rfl
  · intro i hi
    rw [take_map_succ hi]
    have hl : ((c.es.map Ety.d).take i).length ≤ lim := by have := hc.len; simp; omega
    generalize (c.es.map Ety.d).take i = L at hl
    have e1 : (gd [D.lst L, D.int (i : Int)] 1).i = i := rfl
    have e0 : gd [D.lst L, D.int (i : Int)] 0 = .lst L := rfl
    rw [e1, e0, Int.toNat_natCast, D.l_lst, D.l_lst, gd_ety hi, wrap_succ hi hsm]
    exact out_if (by simpa using hi) (out_if (inb_nat hi) (out_call (f_l10OwnEntry (hc.all _ (List.getElem_mem hi))) (out_if (appOk_small (n := 0) hl (show 1 ≤ lim by decide) (by decide)) rfl)))
  · rw [List.take_of_length_le (by simp)]
    exact out_else (by simp) rfl
theorem Cch.lt {c : Cch} (hg : c.good = true) {i : Nat} (hi : i < c.es.length) : ∀ (m : Nat) (hm : i + (m + 1) < c.es.length), cmpP ((c.es[i]).name, (c.es[i]).type) ((c.es[i + (m + 1)]).name, (c.es[i + (m + 1)]).type) < 0 := by
  have hall : ∀ i, i < c.es.length → etyAt c i = true := by
    unfold Cch.good at hg
    simp only [Bool.and_eq_true] at hg
    exact allN_true.1 hg.2.2
  have one : ∀ j (hj : j + 1 < c.es.length), cmpP ((c.es[j]).name, (c.es[j]).type) ((c.es[j + 1]).name, (c.es[j + 1]).type) < 0 := by
    intro j hj
    have := hall (j + 1) hj
    unfold etyAt at this
    simp only [Bool.and_eq_true, getD_lt hj, Nat.add_sub_cancel, getD_lt (show j < c.es.length by omega), Bool.or_eq_true, beq_iff_eq, decide_eq_true_eq] at this
    rcases this.2 with h | h
    · omega
    · exact h
  intro m
  induction m with
  | zero => intro hm; exact one i hm
  | succ m ih =>
    intro hm
    have h1 := ih (by omega)
    have h2 := one (i + (m + 1)) hm
    exact cmpP_cmp.lt (by omega) (Int.le_of_lt h2) (.inl (by omega))
theorem f_find {c : Cch} (hc : c.In lim) (hg : c.good = true) {n : List UInt8} (hn : n.length ≤ lim) (t : Int) : ∃ (k : Nat) (b : Bool), e_impl_Cache_find.F [c.d, .str n, .int t] = some (.pair (.int k) (.pair (.bool b) .unit)) ∧
    (b = true → ∃ h : k < c.es.length, (c.es[k]).name = n ∧ (c.es[k]).type = t) ∧ (b = false → ∀ i (h : i < c.es.length), ¬ ((c.es[i]).name = n ∧ (c.es[i]).type = t)) := by
  have g1 : c.d.fld 1 = .lst (c.es.map Ety.d) := rfl
  have mono : ∀ i j (hi : i < c.es.length) (hj : j < c.es.length), i ≤ j → cmpE c.es[j] n t < 0 → cmpE c.es[i] n t < 0 := by
    intro i j hi hj hij h
    by_cases he : i = j
    · subst he; exact h
    · obtain ⟨m, rfl⟩ : ∃ m, j = i + (m + 1) := ⟨j - i - 1, by omega⟩
      have := Cch.lt hg hi m hj
      exact cmpP_cmp.lt (Int.le_of_lt this) (Int.le_of_lt h) (.inl (by omega))
  have hcmp : ∀ x ∈ c.es, (fun d => e_impl_Cache_find_1.F [d, .int t, .str n]) x.d = some (.int (cmpE x n t)) := by
    intro x hx
    show e_impl_Cache_find_1.F [x.d, .int t, .str n] = _
    rw [q_impl_Cache_find_1]
    exact rn_call (f_compareEntry (hc.all x hx).name hn t) rfl
  obtain ⟨k, hk, hlo, hhi, b, hb, hbs⟩ := bs_gen (f := Ety.d) (c := fun d => e_impl_Cache_find_1.F [d, .int t, .str n]) (cv := fun e => cmpE e n t) hc.len hcmp mono
  have heq : ∀ e : Ety, cmpE e n t = 0 ↔ e.name = n ∧ e.type = t := by
    intro e
    unfold cmpE
    constructor
    · intro h
      have := cmpP_cmp.eq _ _ h
      simpa using this
    · rintro ⟨rfl, rfl⟩; exact cmpP_cmp.refl _
  refine ⟨k, b, ?_, fun h => ?_, fun h i hi hh => ?_⟩
  · rw [q_impl_Cache_find, g1]
    have : e_slices_BinarySearchFunc_impl_Entry_impl_Entry_int__impl_Cache_find_1.F [.lst (c.es.map Ety.d), .int t, .pair (.str n) .unit] = some (.pair (.int k) (.pair (.bool b) .unit)) := by
      rw [q_slices_BinarySearchFunc_impl_Entry_impl_Entry_int__impl_Cache_find_1]
      exact hbs
    exact rn_call this rfl
  · obtain ⟨h1, h2⟩ := hb.1 h
    exact ⟨h1, (heq _).1 h2⟩
  · have h0 := (heq _).2 hh
    by_cases hik : i < k
    · have := hlo i hi hik
      omega
    · have h3 := hhi i hi (by omega)
      have hkl : k < c.es.length := by omega
      have h4 := hhi k hkl (Nat.le_refl _)
      have h5 : cmpE c.es[k] n t = 0 := by
        by_cases he : k = i
        · subst he; exact h0
        · obtain ⟨m, rfl⟩ : ∃ m, i = k + (m + 1) := ⟨i - k - 1, by omega⟩
          have h6 := Cch.lt hg hkl m hi
          have h7 : cmpP ((c.es[k]).name, (c.es[k]).type) (n, t) < 0 := cmpP_cmp.lt (Int.le_of_lt h6) (by have : cmpP ((c.es[k + (m + 1)]).name, (c.es[k + (m + 1)]).type) (n, t) = 0 := h0; omega) (.inl (by omega))
          have : cmpE c.es[k] n t < 0 := h7
          omega
      have := hb.2 ⟨hkl, h5⟩
      rw [h] at this; cases this
def Rec.at (r : Rec) (x : Int) : Rec := ⟨r.name, r.type, x, r.data⟩
def Ety.use (e : Ety) (now : Int) : Ety := ⟨e.name, e.type, e.none, e.recs, e.till, now⟩
def Ety.left (e : Ety) (x : Int) (i : Nat) : Ety := ⟨e.name, e.type, e.none, (e.recs.take i).map (Rec.at · x) ++ e.recs.drop i, e.till, e.used⟩
theorem ttl_loop {e : Ety} (hl : e.recs.length ≤ lim) (now : Int) : loopF (fun l7 =>
            if (decide ((gd l7 1).i < (e.recs.length : Int))) then
              if (inb (gd l7 1).i ((gd l7 0).fld 3).l.length) then
              ou 0 [((gd l7 0).setFld 3 (D.lst (upd ((gd l7 0).fld 3).l (gd l7 1).i.toNat 2 (.int (IntKind.wrap .i64 (((gd l7 0).fld 4).i - now)))))), (.int (IntKind.wrap .i64 ((gd l7 1).i + 1)))]
              else none
            else
              ou 1 [(gd l7 0)]) [e.d, .int 0] = some (0, [(e.left (IntKind.wrap .i64 (e.till - now)) e.recs.length).d]) := by
  have hsm := Nat.le_trans hl lim_smax
  refine loop_for' (fun i (s : Ety) => [s.d, .int i]) e.recs.length (fun i => e.left (IntKind.wrap .i64 (e.till - now)) i) (t := 0) (by simp [Ety.left]) ?_ ?_
  · intro i hi
    generalize hx : IntKind.wrap .i64 (e.till - now) = x
    have hdrop : e.recs.drop i = e.recs[i] :: e.recs.drop (i + 1) := List.drop_eq_getElem_cons hi
    have htk : e.recs.take (i + 1) = e.recs.take i ++ [e.recs[i]] := by rw [List.take_add_one]; simp [hi]
    have hti : (e.recs.take i).length = i := by simp; omega
    have f3 : (e.left x i).d.fld 3 = .lst (((e.recs.take i).map (Rec.at · x)).map Rec.d ++ (e.recs[i]).d :: (e.recs.drop (i + 1)).map Rec.d) := by
      show D.lst (((e.recs.take i).map (Rec.at · x) ++ e.recs.drop i).map Rec.d) = _
      rw [hdrop, List.map_append, List.map_cons]
    have f4 : ((e.left x i).d.fld 4).i = e.till := rfl
    have hu : upd (((e.recs.take i).map (Rec.at · x)).map Rec.d ++ (e.recs[i]).d :: (e.recs.drop (i + 1)).map Rec.d) i 2 (.int x) = ((e.recs.take (i + 1)).map (Rec.at · x) ++ e.recs.drop (i + 1)).map Rec.d := by
      unfold upd
      rw [gd_mid (by rw [List.length_map, List.length_map, hti]), set_mid (by rw [List.length_map, List.length_map, hti]), htk, List.map_append, List.map_append, List.map_append]
      simp only [List.map_cons, List.map_nil, List.append_assoc, List.singleton_append]
      rfl
    have e0 : gd [(e.left x i).d, D.int (i : Int)] 0 = (e.left x i).d := rfl
    have e1 : (gd [(e.left x i).d, D.int (i : Int)] 1).i = i := rfl
    rw [e0, e1, Int.toNat_natCast, f3, f4, D.l_lst, hx, hu, wrap_succ hi hsm]
    refine out_if (by simpa using hi) (out_if (inb_nat (by simp; omega)) ?_)
    rfl
  · exact out_else (by simp) rfl
theorem mix_e (e : Ety) (v : D) : D.mix (.pair .str (.pair (.int .i64) (.pair .bool (.pair (.lst true (.pair .str (.pair (.int .i64) (.pair (.int .i64) (.pair .str .unit))))) (.pair (.int .i64) (.pair (.int .i64) .unit)))))) e.d (e.d.setFld 5 v) = e.d := by
  unfold D.mix
  split
  · rename_i h; exact h.symm
  · rfl
def Ety.ans (e : Ety) (now : Int) : Ety := (e.use now).left (IntKind.wrap .i64 (e.till - now)) e.recs.length
def Cch.asked (c : Cch) (k : Nat) : Cch := ⟨c.now, c.es.set k ((c.es.getD k Ety.nul).use c.now)⟩
def nulAsk : D := .pair (.pair (.int 0) (.pair (D.lst []) .unit)) (.pair (.pair (.str []) (.pair (.int 0) (.pair (.bool false) (.pair (D.lst []) (.pair (.int 0) (.pair (.int 0) .unit)))))) (.pair (.bool false) .unit))
def askD (c : Cch) (e : Ety) (b : Bool) : D := .pair c.d (.pair e.d (.pair (.bool b) .unit))
theorem f_AskCache {c : Cch} (hc : c.In lim) {n : List UInt8} (hn : n.length ≤ lim) (t : Int) : ∃ (c' : Cch) (e' : Ety) (b : Bool), c'.In lim ∧ e'.In lim ∧ e_impl_AskCache.F [c.d, .str n, .int t] = some (askD c' e' b) ∧ e_spec_AskCache.F [c.d, .str n, .int t] = some (askD c' e' b) := by
  have hsm := Nat.le_trans hc.len lim_smax
  have h1 := f_implGoodCache hc
  have h2 := f_specGoodCache hc
  have h3 := f_GoodName n
  have h4 := f_specGoodName n hn
  have h5 := f_isType t
  have h6 := f_l3Type t
  have nIn : (⟨0, []⟩ : Cch).In lim ∧ Ety.nul.In lim := ⟨⟨by simp, by simp⟩, ⟨by simp [Ety.nul], ⟨by simp [Ety.nul], by simp [Ety.nul]⟩⟩⟩
  have hnul : askD ⟨0, []⟩ Ety.nul false = nulAsk := rfl
  rw [q_impl_AskCache, q_spec_AskCache]
  cases k1 : c.good with
  | false =>
    rw [k1] at h1 h2
    exact ⟨⟨0, []⟩, Ety.nul, false, nIn.1, nIn.2, rn_bind0 (l := [.bool true]) (out_call h1 (out_if rfl rfl)) (rn_if rfl rfl), rn_bind0 (l := [.bool true]) (out_call h2 (out_if rfl rfl)) (rn_if rfl rfl)⟩
  | true =>
    rw [k1] at h1 h2
    cases k2 : isName n with
    | false =>
      rw [k2] at h3 h4
      exact ⟨⟨0, []⟩, Ety.nul, false, nIn.1, nIn.2, rn_bind0 (l := [.bool true]) (out_call h1 (out_else (by simp) (out_call h3 (out_if rfl rfl)))) (rn_if rfl rfl), rn_bind0 (l := [.bool true]) (out_call h2 (out_else (by simp) (out_call h4 (out_if rfl rfl)))) (rn_if rfl rfl)⟩
    | true =>
      rw [k2] at h3 h4
      cases k3 : typeB t with
      | false =>
        rw [k3] at h5 h6
        exact ⟨⟨0, []⟩, Ety.nul, false, nIn.1, nIn.2, rn_bind0 (l := [.bool true]) (out_call h1 (out_else (by simp) (out_call h3 (out_else (by simp) (out_call h5 rfl))))) (rn_if rfl rfl), rn_bind0 (l := [.bool true]) (out_call h2 (out_else (by simp) (out_call h4 (out_else (by simp) (out_call h6 rfl))))) (rn_if rfl rfl)⟩
      | true =>
        rw [k3] at h5 h6
        obtain ⟨k, b, hf, hb1, hb2⟩ := f_find hc k1 hn t
        have own := f_ownCache hc
        have ownS := f_l10Own hc
        have g0 : c.d.fld 0 = .int c.now := rfl
        have g1 : c.d.fld 1 = .lst (c.es.map Ety.d) := rfl
        have hlen : (D.lst (c.es.map Ety.d)).l.length = c.es.length := by simp
        have f0 : ∀ e : Ety, (e.d.fld 0).s = e.name := fun _ => rfl
        have f1 : ∀ e : Ety, (e.d.fld 1).i = e.type := fun _ => rfl
        cases b with
        | false =>
          refine ⟨⟨0, []⟩, Ety.nul, false, nIn.1, nIn.2, rn_bind0 (l := [.bool false]) (out_call h1 (out_else (by simp) (out_call h3 (out_else (by simp) (out_call h5 rfl))))) (rn_else (by simp) (rn_call own (rn_call hf (rn_if rfl rfl)))), rn_bind0 (l := [.bool false]) (out_call h2 (out_else (by simp) (out_call h4 (out_else (by simp) (out_call h6 rfl))))) (rn_else (by simp) (rn_call ownS ?_))⟩
          rw [g0, g1, hlen]
          refine rn_bind1 (loop_for' (fun i (_ : Unit) => [.int i]) c.es.length (fun _ => ()) (t := 1) (o := []) rfl ?_ (by exact out_else (by simp) rfl)) (rn_sel0 rfl)
          intro i hi
          have hno := hb2 rfl i hi
          have e1 : (gd [D.int (i : Int)] 0).i = i := rfl
          rw [e1, Int.toNat_natCast, D.l_lst, gd_ety hi, f0, f1, wrap_succ hi hsm]
          refine out_if (by simpa using hi) (out_if (inb_nat hi) (out_bind0 (l := [.bool true]) ?_ (out_if rfl rfl)))
          cases a1 : (c.es[i]).name == n with
          | false => exact out_if (by simpa using a1) rfl
          | true =>
            refine out_else (by simpa using a1) ?_
            have : ¬ (c.es[i]).type = t := fun h => hno ⟨eq_of_beq a1, h⟩
            simp [this]
        | true =>
          obtain ⟨hk, hkn, hkt⟩ := hb1 rfl
          have hek := hc.all _ (List.getElem_mem hk)
          have hgd : c.es.getD k Ety.nul = c.es[k] := by simp [hk]
          have hupd : upd (c.es.map Ety.d) k 5 (.int c.now) = (c.asked k).es.map Ety.d := by
            unfold upd Cch.asked
            rw [gd_ety hk, hgd]
            simp only [List.map_set]
            rfl
          have hgu : gd ((c.asked k).es.map Ety.d) k = ((c.es[k]).use c.now).d := by
            have hl : k < (c.asked k).es.length := by simpa [Cch.asked] using hk
            rw [gd_ety hl]
            simp [Cch.asked, hk]
          have huse : ((c.es[k]).use c.now).d = (c.es[k]).d.setFld 5 (.int c.now) := rfl
          have hcd : c.d.setFld 1 (.lst ((c.asked k).es.map Ety.d)) = (c.asked k).d := rfl
          have hin1 : (c.asked k).In lim := by
            refine ⟨by simpa [Cch.asked] using hc.len, fun e he => ?_⟩
            rcases List.mem_or_eq_of_mem_set he with he | rfl
            · exact hc.all e he
            · rw [hgd]; exact ⟨hek.name, hek.recs⟩
          have hin2 : ((c.es[k]).ans c.now).In lim := by
            refine ⟨hek.name, ⟨by simpa [Ety.ans, Ety.left, Ety.use] using hek.recs.len, fun r hr => ?_⟩⟩
            have hr' : r ∈ (c.es[k]).recs.map (Rec.at · (IntKind.wrap .i64 ((c.es[k]).till - c.now))) := by simpa [Ety.ans, Ety.left, Ety.use] using hr
            obtain ⟨r0, h0, rfl⟩ := List.mem_map.1 hr'
            have := hek.recs.all r0 h0
            exact ⟨this.name, this.data⟩
          have hloop := ttl_loop (e := (c.es[k]).use c.now) hek.recs.len c.now
          have hrl : ((c.es[k]).use c.now).recs.length = (c.es[k]).recs.length := rfl
          refine ⟨c.asked k, (c.es[k]).ans c.now, true, hin1, hin2, rn_bind0 (l := [.bool false]) (out_call h1 (out_else (by simp) (out_call h3 (out_else (by simp) (out_call h5 rfl))))) (rn_else (by simp) (rn_call own (rn_call hf (rn_else (by simp [D.fld]) ?_)))), rn_bind0 (l := [.bool false]) (out_call h2 (out_else (by simp) (out_call h4 (out_else (by simp) (out_call h6 rfl))))) (rn_else (by simp) (rn_call ownS ?_))⟩
          · have r0 : ((D.pair (.int (k : Int)) (.pair (.bool true) .unit)).fld 0).i = k := rfl
            rw [r0, g0, g1, hlen, Int.toNat_natCast, show (D.lst (c.es.map Ety.d)).l = c.es.map Ety.d from rfl, hupd, D.l_lst, hgu, hcd]
            refine rn_if (inb_nat hk) (rn_call (f_ownEntry (e := (c.es[k]).use c.now) ⟨hek.name, hek.recs⟩) ?_)
            have hrec : ((((c.es[k]).use c.now).d.fld 3).l.length : Int) = (((c.es[k]).use c.now).recs.length : Int) := by simp [Ety.d, Ety.use, D.fld]
            rw [hrec]
            exact rn_bind0 hloop rfl
          · rw [g0, g1, hlen]
            have huniq : ∀ i (hi : i < c.es.length), i < k → ¬ ((c.es[i]).name = n ∧ (c.es[i]).type = t) := by
              intro i hi hik hh
              obtain ⟨m, rfl⟩ : ∃ m, k = i + (m + 1) := ⟨k - i - 1, by omega⟩
              have := Cch.lt k1 hi m hk
              rw [hh.1, hh.2, hkn, hkt, cmpP_cmp.refl] at this
              omega
            rcases loop_find (l := [.int 0]) (fun i => [.int i]) c.es.length (fun i => !((c.es.getD i Ety.nul).name == n && (c.es.getD i Ety.nul).type == t)) (t1 := 0) (t2 := 1) (o1 := fun i => [(c.asked i).d, ((c.es.getD i Ety.nul).ans c.now).d, .bool true]) (o2 := []) (f := fun l5 =>
          if (decide ((gd l5 0).i < (c.es.length : Int))) then
            if (inb (gd l5 0).i c.es.length) then
            (if (!(((gd (D.lst (c.es.map Ety.d)).l (gd l5 0).i.toNat).fld 0).s == (D.str n).s)) then
                ou 0 [(.bool true)]
              else
                ou 0 [(.bool (((gd (D.lst (c.es.map Ety.d)).l (gd l5 0).i.toNat).fld 1).i != (D.int t).i))]).bind fun o6 =>
            sel2 o6.1 (if (gd o6.2 0).b then
                ou 0 [(.int (IntKind.wrap .i64 ((gd l5 0).i + 1)))]
              else
                (e_spec_l10OwnEntry.F [(D.mix (.pair .str (.pair (.int .i64) (.pair .bool (.pair (.lst true (.pair .str (.pair (.int .i64) (.pair (.int .i64) (.pair .str .unit))))) (.pair (.int .i64) (.pair (.int .i64) .unit)))))) (gd (D.lst (c.es.map Ety.d)).l (gd l5 0).i.toNat) (gd (D.lst (upd (D.lst (c.es.map Ety.d)).l (gd l5 0).i.toNat 5 (.int c.now))).l (gd l5 0).i.toNat))]).bind fun r7 =>
                (loopF (fun l8 =>
                    if (decide ((gd l8 1).i < ((r7.fld 3).l.length : Int))) then
                      if (inb (gd l8 1).i ((gd l8 0).fld 3).l.length) then
                      ou 0 [((gd l8 0).setFld 3 (D.lst (upd ((gd l8 0).fld 3).l (gd l8 1).i.toNat 2 (.int (IntKind.wrap .i64 (((gd l8 0).fld 4).i - (D.int c.now).i)))))), (.int (IntKind.wrap .i64 ((gd l8 1).i + 1)))]
                      else none
                    else
                      ou 1 [(gd l8 0)]) [(r7.setFld 5 (.int c.now)), (.int 0)]).bind fun o8 =>
                sel2 o8.1 (ou 1 [(c.d.setFld 1 (D.lst (upd (D.lst (c.es.map Ety.d)).l (gd l5 0).i.toNat 5 (.int c.now)))), (gd o8.2 0), (.bool true)]) fun _ => none) fun _ => none
            else none
          else
            ou 2 []) rfl (by
              intro i hi hp
              rw [getD_lt hi] at hp
              have e1 : (gd [D.int (i : Int)] 0).i = i := rfl
              rw [e1, Int.toNat_natCast, D.l_lst, gd_ety hi, f0, f1, wrap_succ hi hsm]
              refine out_if (by simpa using hi) (out_if (inb_nat hi) (out_bind0 (l := [.bool true]) ?_ (out_if rfl rfl)))
              cases a1 : (c.es[i]).name == n with
              | false => exact out_if (by simpa using a1) rfl
              | true =>
                rw [a1] at hp
                refine out_else (by simpa using a1) ?_
                have : ¬ (c.es[i]).type = t := by simpa using hp
                simp [this]) (by
              intro i hi hp
              rw [getD_lt hi] at hp ⊢
              have hp' : (c.es[i]).name = n ∧ (c.es[i]).type = t := by simpa using hp
              have hik : i = k := by
                rcases Nat.lt_trichotomy i k with h | h | h
                · exact absurd hp' (huniq i hi h)
                · exact h
                · exfalso
                  obtain ⟨m, rfl⟩ : ∃ m, i = k + (m + 1) := ⟨i - k - 1, by omega⟩
                  have := Cch.lt k1 hk m hi
                  rw [hp'.1, hp'.2, hkn, hkt, cmpP_cmp.refl] at this
                  omega
              subst hik
              have e1 : (gd [D.int (i : Int)] 0).i = i := rfl
              rw [e1, Int.toNat_natCast, show (D.lst (c.es.map Ety.d)).l = c.es.map Ety.d from rfl, hupd, D.l_lst, hgu, gd_ety hi, f0, f1, huse, mix_e, hcd]
              refine out_if (by simpa using hi) (out_if (inb_nat hi) (out_bind0 (l := [.bool false]) (out_else (by simp [hp'.1]) (by simp [hp'.2])) (out_else (by simp) (out_call (f_l10OwnEntry hek) ?_))))
              have hrec : (((c.es[i]).d.fld 3).l.length : Int) = (((c.es[i]).use c.now).recs.length : Int) := by simp [Ety.d, Ety.use, D.fld]
              rw [hrec]
              exact out_bind0 hloop rfl) (by exact out_else (by simp) rfl) with ⟨hall, _⟩ | ⟨j, hj, hpj, _, hl⟩
            · exfalso
              have := hall k hk
              rw [hgd] at this
              simp [hkn, hkt] at this
            · have hjk : j = k := by
                rw [getD_lt hj] at hpj
                have hp' : (c.es[j]).name = n ∧ (c.es[j]).type = t := by simpa using hpj
                rcases Nat.lt_trichotomy j k with h | h | h
                · exact absurd hp' (huniq j hj h)
                · exact h
                · exfalso
                  obtain ⟨m, rfl⟩ : ∃ m, j = k + (m + 1) := ⟨j - k - 1, by omega⟩
                  have := Cch.lt k1 hk m hj
                  rw [hp'.1, hp'.2, hkn, hkt, cmpP_cmp.refl] at this
                  omega
              subst hjk
              rw [hgd] at hl
              exact rn_bind0 hl rfl
end Go.Proofs.YtbcocgbppbjdhaaGreatDoor
namespace Go.Proofs.YtbcocgbppbjdhaaGreatDoor
open Go Go.Own
theorem mix_c (c : Cch) (x : D) : D.mix (.pair (.int .i64) (.pair (.lst true (.pair .str (.pair (.int .i64) (.pair .bool (.pair (.lst true (.pair .str (.pair (.int .i64) (.pair (.int .i64) (.pair .str .unit))))) (.pair (.int .i64) (.pair (.int .i64) .unit))))))) .unit)) c.d (c.d.setFld 1 x) = c.d.setFld 1 x := by
  unfold D.mix
  split
  · rfl
  · rfl
theorem mix_e3 (e : Ety) (x : D) : D.mix (.pair .str (.pair (.int .i64) (.pair .bool (.pair (.lst true (.pair .str (.pair (.int .i64) (.pair (.int .i64) (.pair .str .unit))))) (.pair (.int .i64) (.pair (.int .i64) .unit)))))) e.d (e.d.setFld 3 x) = e.d.setFld 3 x := by
  unfold D.mix
  split
  · rfl
  · rfl
theorem f_markCache {c : Cch} {k : Int} {B : Nat} (hB : ∀ e ∈ c.es, e.recs.length ≤ B) (hl : c.es.length ≤ lim) (h0 : 0 ≤ k) (h1 : k + c.es.length * (5 + 4 * B : Nat) < 10 ^ 17) :
    e_laws_markCache.F [c.d, .int k] = some (.pair (.int (mkEs k c.es).2) (.pair (c.d.setFld 1 (.lst ((mkEs k c.es).1.map Ety.d))) .unit)) := by
  have g1 : c.d.fld 1 = .lst (c.es.map Ety.d) := rfl
  rw [q_laws_markCache, g1]
  refine rn_call (f_markEntryS hB hl h0 h1) ?_
  have e1 : (D.pair (.int (mkEs k c.es).2) (.pair (.lst ((mkEs k c.es).1.map Ety.d)) .unit)).fld 1 = .lst ((mkEs k c.es).1.map Ety.d) := rfl
  rw [e1, mix_c]; rfl
theorem f_markEntry {e : Ety} {k : Int} (h0 : 0 ≤ k) (h1 : k + 4 * e.recs.length < 10 ^ 18) :
    e_laws_markEntry.F [e.d, .int k] = some (.pair (.int (k + 4 * e.recs.length)) (.pair (e.d.setFld 3 (.lst ((markedR k e.recs.length).map Rec.d))) .unit)) := by
  have f3 : e.d.fld 3 = .lst (e.recs.map Rec.d) := rfl
  rw [q_laws_markEntry, f3]
  refine rn_call (f_markRecordS h0 h1) ?_
  have e1 : (D.pair (.int (k + 4 * (e.recs.length : Int))) (.pair (.lst ((markedR k e.recs.length).map Rec.d)) .unit)).fld 1 = .lst ((markedR k e.recs.length).map Rec.d) := rfl
  rw [e1, mix_e3]; rfl
theorem law_FnExactAskCache {a b d : D} (ha : Sm smax tCch a) (hb : Sm smax .str b) (hd : Sm smax (.int .i64) d) : e_laws_FnExactAskCache.F [a, b, d] = some (.bool true) := by
  obtain ⟨c, rfl, hi⟩ := cch_of ha
  obtain ⟨n, rfl, _⟩ := hb
  obtain ⟨t, rfl, _⟩ := hd
  have hlim : lim = 1048576 := rfl
  rw [q_laws_FnExactAskCache]
  by_cases hn : ((D.str n).s.length : Int) > 1048576
  · exact rn_if (decide_eq_true hn) rfl
  refine rn_else (fun h => hn (of_decide_eq_true h)) ?_
  have hnl : n.length ≤ lim := by rw [D.s_str] at hn; omega
  obtain ⟨r, h1, h2⟩ := f_szCache hi (left := 1048576) (by decide) (by decide)
  refine rn_call h1 ?_
  by_cases hr : r < 0
  · exact rn_if (decide_eq_true hr) rfl
  refine rn_else (fun h => hr (of_decide_eq_true h)) ?_
  have hc := h2 (by omega)
  have hto := f_toCache hc
  obtain ⟨c', e', ok, hc', he', hI, hS⟩ := f_AskCache hc hnl t
  have hcs : ∀ {x : Cch}, x.In lim → x.In smax := fun h => ⟨Nat.le_trans h.len lim_smax, fun e he => (h.all e he).smax⟩
  have heqc := f_eqCache (hcs hc)
  have heqc' := f_eqCache (hcs hc')
  have heqe' := f_eqEntry he'.smax
  have A0 : (askD c' e' ok).fld 0 = c'.d := rfl
  have A1 : (askD c' e' ok).fld 1 = e'.d := rfl
  have A2 : ((askD c' e' ok).fld 2).b = ok := rfl
  have hbnd : ∀ {x : Cch}, x.In lim → (1 : Int) + x.es.length * (5 + 4 * lim : Nat) < 10 ^ 16 := by
    intro x hx
    have : (x.es.length : Int) * (5 + 4 * lim : Nat) ≤ (1048576 : Int) * (5 + 4 * lim : Nat) := Int.mul_le_mul_of_nonneg_right (by have := hx.len; omega) (by omega)
    have h16 : (10 : Int) ^ 16 = 10000000000000000 := by decide
    rw [hlim] at this ⊢
    omega
  have h16 : (10 : Int) ^ 16 = 10000000000000000 := by decide
  have h17 : (10 : Int) ^ 17 = 100000000000000000 := by decide
  have h18 := pow18A
  have b0 := hbnd hc
  have b1 := hbnd hc'
  have hBl : ∀ {x : Cch}, x.In lim → ∀ e ∈ x.es, e.recs.length ≤ lim := fun h e he => (h.all e he).recs.len
  have hm0 := f_markCache (hBl hc) hc.len (k := 1) (by decide) (by omega)
  have hk0 := mkEs_bound (k := 1) (hBl hc)
  have hm1 := f_markCache (hBl hc') hc'.len (k := 1) (by decide) (by omega)
  have hk1 := mkEs_bound (k := 1) (hBl hc')
  have hh1 := f_heldEntryS (hBl hc') hc'.len (k := 1) (by decide) (by omega)
  generalize hK : (mkEs 1 c'.es).2 = K at hm1 hk1 hh1
  have hel := he'.recs.len
  have hm2 := f_markEntry (e := e') (k := K) (by omega) (by omega)
  have hh2 := f_heldRecordS (n := e'.recs.length) (k := K) (by omega) (by omega)
  have hheld1 : e_laws_heldCache.F [.pair (c'.d.fld 0) (.pair (.lst ((mkEs 1 c'.es).1.map Ety.d)) .unit), .int 1] = some (.int K) := by
    rw [q_laws_heldCache]
    exact rn_call hh1 (rn_else (fun h => absurd (of_decide_eq_true h) (by rw [D.i_int]; omega)) rfl)
  have hheld2 : ∀ x0 x1 x2 x4 x5 : D, e_laws_heldEntry.F [.pair x0 (.pair x1 (.pair x2 (.pair (.lst ((markedR K e'.recs.length).map Rec.d)) (.pair x4 (.pair x5 .unit))))), .int K] = some (.int (K + 4 * e'.recs.length)) := by
    intro x0 x1 x2 x4 x5
    rw [q_laws_heldEntry]
    exact rn_call hh2 (rn_else (fun h => absurd (of_decide_eq_true h) (by rw [D.i_int]; omega)) rfl)
  have M1 : ((D.pair (.int K) (.pair (c'.d.setFld 1 (.lst ((mkEs 1 c'.es).1.map Ety.d))) .unit)).fld 1).fld 1 = .lst ((mkEs 1 c'.es).1.map Ety.d) := rfl
  have M2 : ((D.pair (.int (K + 4 * (e'.recs.length : Int))) (.pair (e'.d.setFld 3 (.lst ((markedR K e'.recs.length).map Rec.d))) .unit)).fld 1).fld 3 = .lst ((markedR K e'.recs.length).map Rec.d) := rfl
  refine rn_call hto (rn_call hS (rn_call hto (rn_call hI ?_)))
  rw [A0, A1, A2]
  refine rn_bind0 (l := [.bool false]) (out_call heqc' (out_else (by simp) (out_call heqe' (out_else (by simp) (by simp))))) (rn_else (by simp) (rn_call hto (rn_call heqc (rn_else (by simp) (rn_call hm0 ?_)))))
  refine rn_bind0 (l := [.bool false]) (out_else (fun h => absurd (of_decide_eq_true h) (by show ¬ (mkEs 1 c.es).2 < 0; omega)) (out_call heqc' (out_else (by simp) (out_call heqe' (out_else (by simp) (by simp)))))) (rn_else (by simp) (rn_call hm1 (rn_call hm2 ?_)))
  rw [M1, M2]
  refine rn_call hheld1 (rn_else (fun h => absurd (of_decide_eq_true h) (by rw [D.i_int]; omega)) (rn_call (hheld2 _ _ _ _ _) (rn_else (fun h => absurd (of_decide_eq_true h) (by rw [D.i_int]; omega)) (rn_else (by simp [D.fld]) (rn_call hto (rn_call hI ?_))))))
  rw [A0, A1, A2]
  refine rn_bind0 (l := [.bool false]) (out_call heqc' (out_else (by simp) (out_call heqe' (out_else (by simp) (by simp))))) (rn_else (by simp) ?_)
  exact rn_call hheld1 (rn_else (fun h => absurd (of_decide_eq_true h) (by rw [D.i_int]; omega)) (rn_call (hheld2 _ _ _ _ _) (rn_else (fun h => absurd (of_decide_eq_true h) (by rw [D.i_int]; omega)) (rn_else (by simp [D.fld]) rfl))))
end Go.Proofs.YtbcocgbppbjdhaaGreatDoor
