/- What the functions compute, in plain words. -/
import Derived.Test.YtobighfemobgjaaGreatDoorP5
set_option linter.unusedSectionVars false
set_option linter.unusedVariables false
set_option linter.unusedSimpArgs false
namespace Go.Proofs.YtobighfemobgjaaGreatDoor
open Go Go.Own
theorem f_findHost {h : Health} (hl : h.hosts.length ≤ lim) (s : List UInt8) : ∃ n : Int, e_impl_Health_findHost.F [h.d, .str s] = some (.int n) ∧ ((n < 0 ∧ h.well s = true) ∨ ∃ k, ∃ hk : k < h.hosts.length, n = k ∧ h.well s = h.hosts[k].up) := by
  have hsm : h.hosts.length ≤ smax := Nat.le_trans hl lim_smax
  have f2 : h.d.fld 2 = .lst (h.hosts.map Host.d) := rfl
  have k1 : ∀ i (hi : i < h.hosts.length), e_impl_Health_findHost_1.F [h.hosts[i].d, .str s] = some (.bool (h.hosts[i].name == s)) := by
    intro i hi
    rw [q_impl_Health_findHost_1]; rfl
  rw [q_impl_Health_findHost, f2]
  have kf : (D.pair (.str s) .unit).fld 0 = .str s := rfl
  have ki : ∃ n : Int, e_slices_IndexFunc_impl_Host_impl_Host__impl_Health_findHost_1.F [.lst (h.hosts.map Host.d), .pair (.str s) .unit] = some (.int n) ∧ ((n < 0 ∧ h.well s = true) ∨ ∃ k, ∃ hk : k < h.hosts.length, n = k ∧ h.well s = h.hosts[k].up) := by
    rw [q_slices_IndexFunc_impl_Host_impl_Host__impl_Health_findHost_1]
    rcases loop_find (f := fun l2 =>
        if (decide ((gd l2 0).i < (((D.lst (h.hosts.map Host.d)).l.length : Nat) : Int))) then
          if (inb (gd l2 0).i (D.lst (h.hosts.map Host.d)).l.length) then
          (e_impl_Health_findHost_1.F [(gd (D.lst (h.hosts.map Host.d)).l (gd l2 0).i.toNat), ((D.pair (.str s) .unit).fld 0)]).bind fun r3 =>
          if r3.b then
            ou 1 [(gd l2 0)]
          else
            ou 0 [(.int (IntKind.wrap .i64 ((gd l2 0).i + 1)))]
          else none
        else
          ou 2 []) (l := [.int 0]) (fun i => [.int i]) h.hosts.length (fun i => !((h.hosts.getD i ⟨[], false, 0⟩).name == s)) (t1 := 0) (t2 := 1) (o1 := fun i => [.int i]) (o2 := []) rfl
      (by intro i hi hp
          have h2 : (h.hosts[i].name == s) = false := by simpa [hi] using hp
          have k1' := k1 i hi
          rw [h2] at k1'
          simp [hi, gd_hosts hi, inb_nat hi, wrap_succ hi hsm, kf, k1'])
      (by intro i hi hp
          have h2 : (h.hosts[i].name == s) = true := by simpa [hi] using hp
          have k1' := k1 i hi
          rw [h2] at k1'
          simp [hi, gd_hosts hi, inb_nat hi, kf, k1'])
      (by simp) with ⟨ha, hloop⟩ | ⟨k, hk, hp, hn, hloop⟩
    · refine ⟨-1, rn_bind hloop rfl, .inl ⟨by decide, ?_⟩⟩
      have : h.hosts.find? (·.name == s) = none := by
        rw [List.find?_eq_none]
        intro x hx
        obtain ⟨i, hi, rfl⟩ := List.getElem_of_mem hx
        have := ha i hi
        simpa [hi] using this
      simp [Health.well, this]
    · refine ⟨k, rn_bind hloop rfl, .inr ⟨k, hk, rfl, ?_⟩⟩
      have : h.hosts.find? (·.name == s) = some h.hosts[k] := find_first hk (by simpa [hk] using hp) (fun i hi hik => by have := hn i hik; simpa [hi] using this)
      simp [Health.well, this]
  obtain ⟨n, h1, h2⟩ := ki
  exact ⟨n, rn_call h1 rfl, h2⟩
theorem f_implIsUp {h : Health} (hl : h.hosts.length ≤ lim) (hg : h.good = true) (s : List UInt8) : ∃ a b : Bool, e_impl_IsUp.F [h.d, .str s] = some (.pair (.bool a) (.pair (.bool b) .unit)) ∧ (a || !b) = h.well s := by
  have h3 := f_implGoodHealth h (Nat.le_trans hl lim_smax)
  rw [hg] at h3
  have f2 : h.d.fld 2 = .lst (h.hosts.map Host.d) := rfl
  obtain ⟨n, h1, h2⟩ := f_findHost hl s
  rw [q_impl_IsUp, f2]
  rcases h2 with ⟨hn, hw⟩ | ⟨k, hk, rfl, hw⟩
  · exact ⟨false, false, rn_call h3 (rn_else (by simp) (rn_call h1 (rn_if (decide_eq_true hn) rfl))), by rw [hw]; rfl⟩
  · refine ⟨h.hosts[k].up, true, rn_call h3 (rn_else (by simp) (rn_call h1 (rn_else (fun hh => absurd (of_decide_eq_true hh) (by rw [D.i_int]; omega)) (rn_if (inb_nat (by simpa using hk)) ?_)))), by rw [hw]; simp⟩
    simp only [D.i_int, Int.toNat_natCast, D.l_lst, gd_hosts hk]
    rfl
theorem f_goodAnswer {n s : List UInt8} (hn : isName n = true) (hs : addrOk s = true) : e_impl_GoodRecord.F [.pair (.str n) (.pair (.int 1) (.pair (.int 5) (.pair (.str s) .unit)))] = some (.bool true) := by
  have h1 := f_GoodName n
  rw [hn] at h1
  have h2 := f_withinP 5 0 100000
  have hl := addr_len hs
  obtain ⟨b, h3⟩ := f_dataA (s := s) (by have : lim = 1048576 := rfl; omega)
  rw [hs] at h3
  rw [q_impl_GoodRecord]
  refine rn_bind0 (l := [.bool false]) (out_call h1 (out_else (by simp) (out_call h2 (out_else (by simp [inP]) ?_)))) (rn_else (by simp) (rn_call h3 rfl))
  have : ((D.pair (.str n) (.pair (.int 1) (.pair (.int 5) (.pair (.str s) .unit)))).fld 3).s = s := rfl
  rw [this]
  have : ¬ ((s.length : Int) > 100) := by omega
  simp [this]
theorem cand_facts {p : Policy} {h : Health} (hg : p.good = true) {k : Nat} (hk : k < p.ts.length) (hc : (k : Int) ∈ p.cand h) :
    (p.ts[k]).group = p.group h ∧ (p.ts.any fun t => h.well t.host) = h.well (p.ts[k]).host := by
  have hgd : p.ts.getD k noT = p.ts[k] := by simp [hk]
  have hmem : ∀ t ∈ p.ts, h.well t.host = true → p.anyWell h t.group = true := by
    intro t ht hw
    unfold Policy.anyWell
    rw [List.any_eq_true]
    exact ⟨t, ht, by simp [Target.fit, hw]⟩
  unfold Policy.cand at hc
  split at hc
  · rename_i h0
    obtain ⟨i, hi, hil, hq⟩ := mem_idxs hc
    have : i = k := by omega
    subst this
    simp only [Policy.inG, hgd, beq_iff_eq] at hq
    refine ⟨hq, ?_⟩
    have hno : ∀ i, i < p.ts.length → p.wellG h (p.group h) i = false := by
      intro i hi
      cases hw : p.wellG h (p.group h) i with
      | false => rfl
      | true =>
        have : (i : Int) ∈ idxs p.ts.length (p.wellG h (p.group h)) := by
          simp only [idxs, List.mem_map, List.mem_filter, List.mem_range]
          exact ⟨i, ⟨hi, hw⟩, rfl⟩
        rw [List.length_eq_zero_iff.1 h0] at this
        simp at this
    have hk2 : h.well (p.ts[i]).host = false := by
      have := hno i hil
      simp only [Policy.wellG, Target.fit, hgd, hq, beq_self_eq_true, Bool.true_and] at this
      exact this
    rw [hk2]
    cases ha : p.ts.any (fun t => h.well t.host) with
    | false => rfl
    | true =>
      exfalso
      obtain ⟨t, ht, hw⟩ := List.any_eq_true.1 ha
      have haw := hmem t ht hw
      have htg : t.group ∈ p.grp := by
        have hgf := hg
        simp only [Policy.good, Bool.and_eq_true, List.all_eq_true, Target.ok] at hgf
        have := (hgf.2.2 t ht).2.2.1
        simp only [inP, Bool.and_eq_true, decide_eq_true_eq] at this
        exact mem_upTo.2 ⟨by omega, by simp only [Policy.has, List.any_eq_true]; exact ⟨t, ht, by simp⟩⟩
      have : ∃ g, p.grp.find? (p.anyWell h) = some g := by
        cases hf : p.grp.find? (p.anyWell h) with
        | some g => exact ⟨g, rfl⟩
        | none => exact absurd haw (by simpa using List.find?_eq_none.1 hf _ htg)
      obtain ⟨g, hf⟩ := this
      have hgg : p.group h = g := by unfold Policy.group; rw [hf]; rfl
      have haw2 := List.find?_some hf
      rw [← hgg] at haw2
      unfold Policy.anyWell at haw2
      obtain ⟨u, hu, hfit⟩ := List.any_eq_true.1 haw2
      obtain ⟨j, hj, rfl⟩ := List.getElem_of_mem hu
      have := hno j hj
      simp only [Policy.wellG, show p.ts.getD j noT = p.ts[j] by simp [hj]] at this
      rw [hfit] at this
      cases this
  · obtain ⟨i, hi, hil, hq⟩ := mem_idxs hc
    have : i = k := by omega
    subst this
    simp only [Policy.wellG, Target.fit, hgd, Bool.and_eq_true, beq_iff_eq] at hq
    refine ⟨hq.1, ?_⟩
    rw [hq.2]
    exact List.any_eq_true.2 ⟨_, List.getElem_mem hk, hq.2⟩
theorem group_least {p : Policy} {h : Health} (hg : p.good = true) {t : Target} (ht : t ∈ p.ts) (hw : h.well t.host = true) : p.group h ≤ t.group := by
  have haw : p.anyWell h t.group = true := by
    unfold Policy.anyWell
    rw [List.any_eq_true]
    exact ⟨t, ht, by simp [Target.fit, hw]⟩
  have htg : t.group ∈ p.grp := by
    have hgf := hg
    simp only [Policy.good, Bool.and_eq_true, List.all_eq_true, Target.ok] at hgf
    have := (hgf.2.2 t ht).2.2.1
    simp only [inP, Bool.and_eq_true, decide_eq_true_eq] at this
    exact mem_upTo.2 ⟨by omega, by simp only [Policy.has, List.any_eq_true]; exact ⟨t, ht, by simp⟩⟩
  have hr : p.grp.Pairwise (· < ·) := upTo_rise _ _
  unfold Policy.group
  cases hf : p.grp.find? (p.anyWell h) with
  | none => exact absurd haw (by simpa using List.find?_eq_none.1 hf _ htg)
  | some g =>
    show g ≤ t.group
    obtain ⟨_, i, hi, hgi, hn⟩ := List.find?_eq_some_iff_getElem.1 hf
    obtain ⟨j, hj, hjt⟩ := List.getElem_of_mem htg
    rw [← hgi, ← hjt]
    by_cases hij : i < j
    · exact Int.le_of_lt (List.pairwise_iff_getElem.1 hr i j hi hj hij)
    · by_cases he : j = i
      · subst he; exact Int.le_refl _
      · have := hn j (by omega)
        rw [hjt, haw] at this
        cases this
theorem f_drawChoose {bs : List D} (hb : Bytes bs) : ∃ (p : Policy) (h : Health) (d : Int), e_spec_DrawChooseTarget.F [.lst bs] = some (.pair p.d (.pair h.d (.pair (.int d) .unit))) ∧ p.In lim ∧ h.In lim := by
  obtain ⟨p, c1, h1, hp, hc1⟩ := f_policy hb (Cu.start bs) (by omega)
  obtain ⟨h, c2, h2, hf, hl, hc2⟩ := f_health hb hc1 (by omega)
  obtain ⟨v3, c3, h3, _, hc3⟩ := f_pick hb hc2 (by omega) 500
  obtain ⟨v4, c4, h4, _, hc4⟩ := f_pick hb hc3 (by omega) 2
  obtain ⟨v5, c5, h5, _, hc5⟩ := f_pick hb hc4 (by omega) 2
  rw [q_spec_DrawChooseTarget]
  exact ⟨p, h, _, rn_call h1 (rn_call h2 (rn_call h3 (rn_call h4 (rn_call h5 rfl)))), hp, hf.inn⟩
theorem f_drawGroupsIn {bs : List D} (hb : Bytes bs) : ∃ (p : Policy), e_spec_DrawGroupsIn.F [.lst bs] = some p.d ∧ p.In lim := by
  obtain ⟨p, c1, h1, hp, hc1⟩ := f_policy hb (Cu.start bs) (by omega)
  rw [q_spec_DrawGroupsIn]
  have h2 : e_spec_DrawGoodPolicy.F [.lst bs] = some p.d := by rw [q_spec_DrawGoodPolicy]; exact rn_call h1 rfl
  exact ⟨p, rn_call h2 rfl, hp⟩
end Go.Proofs.YtobighfemobgjaaGreatDoor
namespace Go.Proofs.YtobighfemobgjaaGreatDoor
open Go Go.Own
theorem any_take {α : Type} {l : List α} {q : α → Bool} {i : Nat} (hi : i < l.length) : (l.take (i + 1)).any q = ((l.take i).any q || q l[i]) := by
  rw [List.take_add_one, List.any_append]; simp [hi]
theorem out_bind1 {o : Outc} {l : List D} {A : Nat × List D → Outc} {B : Nat × List D → Nat → Outc} {R : Outc} (h : o = some (1, l)) (hk : B (1, l) 0 = R) : (o.bind fun o => sel2 o.1 (A o) (B o)) = R := by
  rw [h]; exact hk
theorem law_FnChosen {a b : D} (ha : Sm smax (.lst false (.int .u8)) a) (hb : Sm smax (.lst false (.int .u8)) b) : e_laws_FnChosen.F [a, b] = some (.bool true) := by
  obtain ⟨bs, rfl, hbs⟩ := bytes_ofD ha
  obtain ⟨cs, rfl, hcs⟩ := bytes_ofD hb
  have hlim : lim = 1048576 := rfl
  have hsm : smax = 9223372036854775807 := smax_eq
  rw [q_laws_FnChosen]
  generalize hcond : decide (IntKind.wrap .i64 ((((D.lst bs).l.length : Nat) : Int) + (((D.lst cs).l.length : Nat) : Int)) > 1048576) = cond
  cases cond with
  | true => exact rn_if rfl rfl
  | false =>
  refine rn_else (by simp) ?_
  obtain ⟨p, h, d, h1, hp, hh⟩ := f_drawChoose hbs
  obtain ⟨n, ok, hok, hI, hS⟩ := f_ChooseTarget hp hh d
  obtain ⟨g, ok2, hg2, hGI, hGS⟩ := f_GroupOf hp hh
  obtain ⟨ca, ok3, ⟨hcl, hok3, hca⟩, hCI, hCS⟩ := f_CandidatesOf hp hh
  obtain ⟨q, h2, hq⟩ := f_drawGroupsIn hcs
  obtain ⟨gl, gb, hgl, hqI, hqS⟩ := f_GroupsIn hq
  have hpI := f_implPolicy hp
  have hpS := f_specPolicy hp
  have hsame := f_sameInts (l := ca) (by omega)
  have hsame2 := f_sameInts (l := gl) (by omega)
  have g0 : (D.pair p.d (.pair h.d (.pair (.int d) .unit))).fld 0 = p.d := rfl
  have g1 : (D.pair p.d (.pair h.d (.pair (.int d) .unit))).fld 1 = h.d := rfl
  have g2 : (D.pair p.d (.pair h.d (.pair (.int d) .unit))).fld 2 = .int d := rfl
  have gp : p.d.fld 1 = .lst (p.ts.map Target.d) := rfl
  have gn : p.d.fld 0 = .str p.name := rfl
  refine rn_call h1 ?_
  rw [g0, g1, g2, gp, gn]
  refine rn_call hI (rn_call hS (rn_call hGI (rn_call hGS (rn_call hCI (rn_call hCS ?_)))))
  refine rn_bind0 (l := [.bool false]) (out_else (by simp [D.fld]) (out_else (by simp [D.fld]) (out_else (by simp [D.fld]) (out_else (by simp [D.fld]) (out_else (by simp [D.fld]) (out_call hsame (out_else (by simp) (out_call hpI (out_call hpS (by simp)))))))))) ?_
  refine rn_else (by simp) ?_
  refine rn_bind0 (l := []) ?_ (rn_call h2 (rn_call hqI (rn_call hqS (rn_bind0 (l := [.bool true]) (out_if (by simp [D.fld]) (out_call hsame2 rfl)) rfl))))
  cases ok with
  | false => exact out_else (by simp [D.fld]) rfl
  | true =>
    obtain ⟨hg, hgh, hmem⟩ := hok rfl
    have hb3 : ok3 = true := by rw [hok3, hg, hgh]; rfl
    have hca' := hca hb3
    subst hca' hb3
    have hgg := hg2 hg hgh
    subst hgg
    obtain ⟨k, rfl, hk⟩ := Policy.cand_mem hmem
    obtain ⟨hcf1, hcf2⟩ := cand_facts hg hk hmem
    have hcn := Policy.cand_len p h
    obtain ⟨gp1, gp2, gp3⟩ := Policy.good_facts hg
    have hgf := hg
    simp only [Policy.good, Bool.and_eq_true, List.all_eq_true] at hgf
    have htk := hgf.2.2 _ (List.getElem_mem hk)
    simp only [Target.ok, Bool.and_eq_true] at htk
    have hib : inb (k : Int) (D.lst (p.ts.map Target.d)).l.length = true := inb_nat (by simpa using hk)
    have hgk : gd (D.lst (p.ts.map Target.d)).l (k : Int).toNat = (p.ts[k]).d := by rw [Int.toNat_natCast]; exact gd_t hk
    have f30 : (D.pair (.int (k : Int)) (.pair (.bool true) .unit)).fld 0 = .int k := rfl
    have f70 : (D.pair (nd (p.cand h)) (.pair (.bool true) .unit)).fld 0 = nd (p.cand h) := rfl
    have hans : e_impl_AnswerOf.F [p.d, h.d, .int d] = some (.pair (.pair (.str p.name) (.pair (.int 1) (.pair (.int 5) (.pair (.str (p.ts[k]).data) .unit)))) (.pair (.bool true) .unit)) := by
      rw [q_impl_AnswerOf, gp, gn]
      refine rn_call hI (rn_else (by simp [D.fld]) (rn_if hib ?_))
      rw [f30]
      simp only [D.i_int, hgk]
      rfl
    have hgood := f_goodAnswer (n := p.name) (s := (p.ts[k]).data) hgf.1 htk.1
    refine out_if (by simp [D.fld]) ?_
    rw [f30, f70]
    refine out_bind0 (l := [.bool true]) (loop_for' (fun i (s : Bool) => [.bool s, .int i]) (p.cand h).length (fun i => ((p.cand h).take i).any (· == (k : Int))) (t := 0) (o := [.bool true]) (by simp) ?_ ?_) ?_
    · intro i hi
      have hw2 : IntKind.wrap .i64 ((i : Int) + 1) = ((i + 1 : Nat) : Int) := by rw [wrap_id] <;> omega
      rw [any_take hi]
      refine out_if (decide_eq_true (by simp [nd]; omega)) (out_bind0 (l := [.bool (((p.cand h).take i).any (· == (k : Int)) || (p.cand h)[i] == (k : Int))]) (out_if (inb_nat (by simpa [nd] using hi)) ?_) ?_)
      · cases hc : ((p.cand h).take i).any (· == (k : Int)) with
        | true => exact out_if rfl rfl
        | false =>
          refine out_else (by simp) ?_
          simp only [gd_one, nd, D.l_lst, D.i_int, Int.toNat_natCast, gd_nd hi, Bool.false_or]
      · simp only [gd_zero, gd_one, D.i_int, hw2]
    · rw [List.take_length]
      refine out_else (by simp [nd]) ?_
      have : (p.cand h).any (· == (k : Int)) = true := List.any_eq_true.2 ⟨_, hmem, by simp⟩
      rw [this]; rfl
    · refine out_call hans ?_
      refine out_bind0 (l := [.bool false]) (out_else (by simp) (out_if hib (out_else ?_ (out_else (by simp [D.fld]) (out_else ?_ (out_else (by simp [D.fld]) (out_call hgood rfl))))))) ?_
      · rw [D.i_int, hgk]
        have : ((p.ts[k]).d.fld 2).i = p.group h := hcf1
        rw [this]; simp [D.fld]
      · rw [D.i_int, hgk]
        have : ((p.ts[k]).d.fld 1).s = (p.ts[k]).data := rfl
        rw [this]; simp [D.fld]
      · refine out_else (by simp) ?_
        refine out_bind1 (loop_for' (fun i (s : Bool) => [.bool s, .int i]) p.ts.length (fun i => (p.ts.take i).any fun t => h.well t.host) (t := 1) (o := [.bool (h.well (p.ts[k]).host)]) (by simp) ?_ ?_) (sel0 ?_)
        · intro i hi
          have hw2 : IntKind.wrap .i64 ((i : Int) + 1) = ((i + 1 : Nat) : Int) := by rw [wrap_id] <;> omega
          have hgi : gd (D.lst (p.ts.map Target.d)).l (i : Int).toNat = (p.ts[i]).d := by rw [Int.toNat_natCast]; exact gd_t hi
          have hibi : inb (i : Int) (D.lst (p.ts.map Target.d)).l.length = true := inb_nat (by simpa using hi)
          obtain ⟨a, b, hup, hab⟩ := f_implIsUp hh.len hgh (p.ts[i]).host
          have f0 : (p.ts[i]).d.fld 0 = .str (p.ts[i]).host := rfl
          have f2 : ((p.ts[i]).d.fld 2).i = (p.ts[i]).group := rfl
          have u0 : (D.pair (.bool a) (.pair (.bool b) .unit)).fld 0 = .bool a := rfl
          have u1 : (D.pair (.bool a) (.pair (.bool b) .unit)).fld 1 = .bool b := rfl
          rw [any_take hi]
          refine out_if (decide_eq_true (by simp; omega)) (out_bind0 (l := [.bool (((p.ts.take i).any fun t => h.well t.host) || h.well (p.ts[i]).host)]) (out_if hibi ?_) ?_)
          · simp only [gd_one, D.i_int, hgi, f0, f2]
            refine out_call hup (out_bind0 (l := [.bool (h.well (p.ts[i]).host)]) ?_ ?_)
            · rw [u0, u1, ← hab]
              cases a with
              | true => exact out_if rfl rfl
              | false => exact out_else (by simp) rfl
            · cases hw : h.well (p.ts[i]).host with
              | true =>
                have hle := group_least hg (List.getElem_mem hi) hw
                refine out_if rfl (out_else (fun hc => absurd (of_decide_eq_true hc) ?_) ?_)
                · show ¬ ((p.ts[i]).group < p.group h); omega
                · simp
              | false =>
                refine out_else (by simp) ?_
                simp
          · simp only [gd_zero, gd_one, D.i_int, hw2]
        · rw [List.take_length, hcf2]
          exact out_else (by simp) rfl
        · obtain ⟨a, b, hup, hab⟩ := f_implIsUp hh.len hgh (p.ts[k]).host
          have f0 : (p.ts[k]).d.fld 0 = .str (p.ts[k]).host := rfl
          have u0 : (D.pair (.bool a) (.pair (.bool b) .unit)).fld 0 = .bool a := rfl
          have u1 : (D.pair (.bool a) (.pair (.bool b) .unit)).fld 1 = .bool b := rfl
          refine out_if hib ?_
          simp only [D.i_int, hgk, f0]
          refine out_call hup (out_bind0 (l := [.bool false]) ?_ (out_else (by simp) rfl))
          rw [u0, u1]
          simp only [gd_zero, D.b_bool]
          rw [← hab]
          cases a with
          | true => exact out_if rfl (by simp)
          | false => exact out_else (by simp) (by simp)
end Go.Proofs.YtobighfemobgjaaGreatDoor
