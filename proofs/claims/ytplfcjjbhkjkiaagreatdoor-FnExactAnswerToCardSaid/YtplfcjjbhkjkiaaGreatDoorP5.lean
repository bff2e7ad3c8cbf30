/- What the functions compute, in plain words. -/
import Derived.Test.YtplfcjjbhkjkiaaGreatDoorP4
set_option linter.unusedSectionVars false
set_option linter.unusedVariables false
set_option linter.unusedSimpArgs false
namespace Go.Proofs.YtplfcjjbhkjkiaaGreatDoor
open Go Go.Own
structure Dn where
  client : Int
  no : Int
  code : Int
  serial : Int
def Dn.d (x : Dn) : D := .pair (.int x.client) (.pair (.int x.no) (.pair (.int x.code) (.pair (.int x.serial) .unit)))
def Dn.nul : Dn := ⟨0, 0, 0, 0⟩
structure Ctl where
  zone : Zn
  last : List Dn
  many : Int
def Ctl.d (c : Ctl) : D := .pair c.zone.d (.pair (.lst (c.last.map Dn.d)) (.pair (.int c.many) .unit))
structure Ctl.In (B : Nat) (c : Ctl) : Prop where
  zone : c.zone.In B
  len : c.last.length ≤ B
theorem gd_dn {xs : List Dn} {i : Nat} (hi : i < xs.length) : gd (xs.map Dn.d) i = xs[i].d := gd_map hi
def who (a b : Int) : Bool := inP a 0 100 && inP b 1 1000
theorem f_isClient (a b : Int) : e_impl_isClient.F [.int a, .int b] = some (.bool (who a b)) := by
  rw [q_impl_isClient]
  have h1 := f_withinP a 0 100
  have h2 := f_withinP b 1 1000
  unfold who
  refine rn_bind0 (l := [.bool (inP a 0 100 && inP b 1 1000)]) ?_ rfl
  cases h : inP a 0 100 with
  | false => rw [h] at h1; exact out_call h1 (out_else (by simp) rfl)
  | true => rw [h] at h1; exact out_call h1 (out_if rfl (out_call h2 rfl))
theorem f_l16Who (a b : Int) : e_spec_l16Who.F [.int a, .int b] = some (.bool (who a b)) := by
  rw [q_spec_l16Who]
  have h1 := f_l1InP a 0 100
  have h2 := f_l1InP b 1 1000
  unfold who
  refine rn_bind0 (l := [.bool (inP a 0 100 && inP b 1 1000)]) ?_ rfl
  cases h : inP a 0 100 with
  | false => rw [h] at h1; exact out_call h1 (out_else (by simp) rfl)
  | true => rw [h] at h1; exact out_call h1 (out_if rfl (out_call h2 rfl))
theorem f_isSerial (a : Int) : e_impl_isSerial.F [.int a] = some (.bool (inP a 0 4294967295)) := by
  rw [q_impl_isSerial]; exact rn_call (f_withinP a 0 4294967295) rfl
theorem f_l5Serial (a : Int) : e_spec_l5Serial.F [.int a] = some (.bool (inP a 0 4294967295)) := by
  rw [q_spec_l5Serial]; exact rn_call (f_l1InP a 0 4294967295) rfl
def dnOk (xs : List Dn) (i : Nat) : Bool := who (xs.getD i Dn.nul).client (xs.getD i Dn.nul).no && (inP (xs.getD i Dn.nul).code 0 4 && (inP (xs.getD i Dn.nul).serial 0 4294967295 && (i == 0 || decide ((xs.getD (i - 1) Dn.nul).client < (xs.getD i Dn.nul).client))))
noncomputable def Ctl.good (c : Ctl) : Bool := c.zone.good && (inP c.many 0 1000000 && (decide (c.last.length ≤ 8) && allN c.last.length (dnOk c.last)))
theorem f_GoodControl {c : Ctl} (hc : c.In lim) : e_impl_GoodControl.F [c.d] = some (.bool c.good) := by
  have hsm := Nat.le_trans hc.len lim_smax
  rw [q_impl_GoodControl]
  have f0 : c.d.fld 0 = c.zone.d := rfl
  have f1 : (c.d.fld 1).l = c.last.map Dn.d := rfl
  have f2 : c.d.fld 2 = .int c.many := rfl
  rw [f0, f2]
  simp only [f1, List.length_map]
  have h1 := f_GoodZone hc.zone
  have h2 := f_withinP c.many 0 1000000
  unfold Ctl.good
  cases k1 : c.zone.good with
  | false => rw [k1] at h1; exact rn_bind0 (l := [.bool true]) (out_call h1 (out_if rfl rfl)) (rn_if rfl rfl)
  | true =>
    rw [k1] at h1
    cases k2 : inP c.many 0 1000000 with
    | false => rw [k2] at h2; exact rn_bind0 (l := [.bool true]) (out_call h1 (out_else (by simp) (out_call h2 (out_if rfl rfl)))) (rn_if rfl rfl)
    | true =>
      rw [k2] at h2
      by_cases k3 : c.last.length ≤ 8
      · have e3 : decide ((c.last.length : Int) > 8) = false := decide_eq_false (by omega)
        have e3' : decide (c.last.length ≤ 8) = true := decide_eq_true k3
        rw [e3', Bool.true_and, Bool.true_and, Bool.true_and]
        refine rn_bind0 (l := [.bool false]) (out_call h1 (out_else (by simp) (out_call h2 (out_else (by simp) (by rw [e3]))))) (rn_else (by simp) ?_)
        refine rn_bind (loop_all' (fun i => [.int i]) c.last.length (dnOk c.last) (t1 := 0) (t2 := 1) (o1 := [.bool false]) (o2 := []) rfl ?_ (by exact out_else (by simp) rfl)) ?_
        · intro i hi
          have e0 : (gd [D.int (i : Int)] 0).i.toNat = i := by simp
          have e1 : (gd [D.int (i : Int)] 0).i = i := rfl
          have g0 : c.last[i].d.fld 0 = .int c.last[i].client := rfl
          have g1 : c.last[i].d.fld 1 = .int c.last[i].no := rfl
          have g2 : c.last[i].d.fld 2 = .int c.last[i].code := rfl
          have g3 : c.last[i].d.fld 3 = .int c.last[i].serial := rfl
          rw [e0, e1, wrap_succ hi hsm, gd_dn hi, g0, g1, g2, g3]
          refine out_if (by simpa using hi) (out_if (by simpa using inb_nat hi) (out_bind (r := (0, [.bool !(dnOk c.last i)])) ?_ (sel0 (by cases dnOk c.last i <;> simp))))
          unfold dnOk
          rw [getD_lt hi]
          have q1 := f_isClient c.last[i].client c.last[i].no
          have q2 := f_withinP c.last[i].code 0 4
          have q3 := f_isSerial c.last[i].serial
          cases r1 : who c.last[i].client c.last[i].no with
          | false => rw [r1] at q1; exact out_call q1 (out_if rfl rfl)
          | true =>
            rw [r1] at q1
            cases r2 : inP c.last[i].code 0 4 with
            | false => rw [r2] at q2; exact out_call q1 (out_else (by simp) (out_call q2 (out_if rfl rfl)))
            | true =>
              rw [r2] at q2
              cases r3 : inP c.last[i].serial 0 4294967295 with
              | false => rw [r3] at q3; exact out_call q1 (out_else (by simp) (out_call q2 (out_else (by simp) (out_call q3 (out_if rfl rfl)))))
              | true =>
                rw [r3] at q3
                refine out_call q1 (out_else (by simp) (out_call q2 (out_else (by simp) (out_call q3 (out_else (by simp) ?_)))))
                by_cases h0 : i = 0
                · subst h0; exact out_else (by simp) rfl
                · have w : IntKind.wrap .i64 ((i : Int) - 1) = ((i - 1 : Nat) : Int) := by rw [smax_eq] at hsm; rw [wrap_id] <;> omega
                  have hi1 : i - 1 < c.last.length := by omega
                  refine out_if (decide_eq_true (by omega)) (out_if (by rw [w]; exact inb_nat hi1) ?_)
                  rw [w, Int.toNat_natCast, gd_dn hi1, getD_lt hi1]
                  have g0' : c.last[i - 1].d.fld 0 = .int c.last[i - 1].client := rfl
                  rw [g0', D.i_int, D.i_int]
                  have : decide (c.last[i].client ≤ c.last[i - 1].client) = !(decide (c.last[i - 1].client < c.last[i].client)) := by
                    rw [Bool.eq_iff_iff]; simp
                  have h0' : (i == 0) = false := by simpa using h0
                  rw [this, h0']; rfl
        · cases allN c.last.length (dnOk c.last) <;> rfl
      · have e3 : decide ((c.last.length : Int) > 8) = true := decide_eq_true (by omega)
        have e3' : decide (c.last.length ≤ 8) = false := decide_eq_false k3
        rw [e3']
        exact rn_bind0 (l := [.bool true]) (out_call h1 (out_else (by simp) (out_call h2 (out_else (by simp) (by rw [e3]))))) (rn_if rfl rfl)
theorem f_specGoodControl {c : Ctl} (hc : c.In lim) : e_spec_GoodControl.F [c.d] = some (.bool c.good) := by
  have hsm := Nat.le_trans hc.len lim_smax
  rw [q_spec_GoodControl]
  have f0 : c.d.fld 0 = c.zone.d := rfl
  have f1 : (c.d.fld 1).l = c.last.map Dn.d := rfl
  have f2 : c.d.fld 2 = .int c.many := rfl
  rw [f0, f2]
  simp only [f1, List.length_map]
  have h1 := f_specGoodZone hc.zone
  have h2 := f_l1InP c.many 0 1000000
  unfold Ctl.good
  refine rn_bind (loop_all' (fun i => [.int i]) c.last.length (dnOk c.last) (t1 := 0) (t2 := 1) (o1 := []) (o2 := []) rfl ?_ (by exact out_else (by simp) rfl)) ?_
  · intro i hi
    have e0 : (gd [D.int (i : Int)] 0).i.toNat = i := by simp
    have e1 : (gd [D.int (i : Int)] 0).i = i := rfl
    have g0 : c.last[i].d.fld 0 = .int c.last[i].client := rfl
    have g1 : c.last[i].d.fld 1 = .int c.last[i].no := rfl
    have g2 : c.last[i].d.fld 2 = .int c.last[i].code := rfl
    have g3 : c.last[i].d.fld 3 = .int c.last[i].serial := rfl
    rw [e0, e1, wrap_succ hi hsm, gd_dn hi, g0, g1, g2, g3]
    refine out_if (by simpa using hi) (out_if (by simpa using inb_nat hi) (out_bind (r := (0, [.bool !(dnOk c.last i)])) ?_ (sel0 (by cases dnOk c.last i <;> simp))))
    unfold dnOk
    rw [getD_lt hi]
    have q1 := f_l16Who c.last[i].client c.last[i].no
    have q2 := f_l1InP c.last[i].code 0 4
    have q3 := f_l5Serial c.last[i].serial
    cases r1 : who c.last[i].client c.last[i].no with
    | false => rw [r1] at q1; exact out_call q1 (out_if rfl rfl)
    | true =>
      rw [r1] at q1
      cases r2 : inP c.last[i].code 0 4 with
      | false => rw [r2] at q2; exact out_call q1 (out_else (by simp) (out_call q2 (out_if rfl rfl)))
      | true =>
        rw [r2] at q2
        cases r3 : inP c.last[i].serial 0 4294967295 with
        | false => rw [r3] at q3; exact out_call q1 (out_else (by simp) (out_call q2 (out_else (by simp) (out_call q3 (out_if rfl rfl)))))
        | true =>
          rw [r3] at q3
          refine out_call q1 (out_else (by simp) (out_call q2 (out_else (by simp) (out_call q3 (out_else (by simp) ?_)))))
          by_cases h0 : i = 0
          · subst h0; exact out_else (by simp) rfl
          · have w : IntKind.wrap .i64 ((i : Int) - 1) = ((i - 1 : Nat) : Int) := by rw [smax_eq] at hsm; rw [wrap_id] <;> omega
            have hi1 : i - 1 < c.last.length := by omega
            refine out_if (decide_eq_true (by omega)) (out_if (by rw [w]; exact inb_nat hi1) ?_)
            rw [w, Int.toNat_natCast, gd_dn hi1, getD_lt hi1]
            have g0' : c.last[i - 1].d.fld 0 = .int c.last[i - 1].client := rfl
            rw [g0', D.i_int, D.i_int]
            have : decide (c.last[i - 1].client ≥ c.last[i].client) = !(decide (c.last[i - 1].client < c.last[i].client)) := by
              rw [Bool.eq_iff_iff]; simp
            have h0' : (i == 0) = false := by simpa using h0
            rw [this, h0']; simp
  · cases k4 : allN c.last.length (dnOk c.last) with
    | false => rw [Bool.and_false, Bool.and_false, Bool.and_false]; rfl
    | true =>
      rw [Bool.and_true]
      refine rn_bind0 (l := [.bool (c.zone.good && (inP c.many 0 1000000 && decide (c.last.length ≤ 8)))]) ?_ rfl
      cases k1 : c.zone.good with
      | false => rw [k1] at h1; exact out_call h1 (out_else (by simp) rfl)
      | true =>
        rw [k1] at h1
        cases k2 : inP c.many 0 1000000 with
        | false => rw [k2] at h2; exact out_call h1 (out_if rfl (out_call h2 (out_else (by simp) rfl)))
        | true =>
          rw [k2] at h2
          have : decide ((c.last.length : Int) ≤ 8) = decide (c.last.length ≤ 8) := by rw [Bool.eq_iff_iff]; simp; omega
          exact out_call h1 (out_if rfl (out_call h2 (out_if rfl (by rw [this]; rfl))))
abbrev tDone : T := .pair (.int .i64) (.pair (.int .i64) (.pair (.int .i64) (.pair (.int .i64) .unit)))
abbrev tCtl : T := .pair tZone (.pair (.lst false tDone) (.pair (.int .i64) .unit))
theorem done_of {B : Nat} {d : D} (h : Sm B tDone d) : ∃ x : Dn, d = x.d ∧ True := by
  obtain ⟨_, _, rfl, ⟨a, rfl, _⟩, _, _, rfl, ⟨b, rfl, _⟩, _, _, rfl, ⟨c, rfl, _⟩, _, _, rfl, ⟨e, rfl, _⟩, rfl⟩ := h
  exact ⟨⟨a, b, c, e⟩, rfl, trivial⟩
theorem ctl_of {B : Nat} {d : D} (h : Sm B tCtl d) : ∃ c : Ctl, d = c.d ∧ c.In B := by
  obtain ⟨_, _, rfl, hz, _, _, rfl, ⟨xs, rfl, hl, hc⟩, _, _, rfl, ⟨n, rfl, _⟩, rfl⟩ := h
  obtain ⟨z, rfl, hz2⟩ := zone_of hz
  obtain ⟨ys, rfl, _⟩ := list_of (g := Dn.d) (Q := fun _ => True) (fun x hx => done_of (hc x hx))
  exact ⟨⟨z, ys, n⟩, rfl, hz2, by simpa using hl⟩
theorem f_eqDone (x : Dn) : e_laws_eqDone.F [x.d, x.d] = some (.bool true) := by
  rw [q_laws_eqDone]; simp [Dn.d]
theorem f_eqDoneS {xs : List Dn} (hl : xs.length ≤ smax) : e_laws_eqDoneS.F [.lst (xs.map Dn.d), .lst (xs.map Dn.d)] = some (.bool true) := by
  rw [q_laws_eqDoneS, if_neg (by simp)]
  refine rn_bind (loop_for' (fun i (_ : Unit) => [.int i]) xs.length (fun _ => ()) (t := 1) (o := []) rfl ?_ ?_) rfl
  · intro i hi
    simp [hi, gd_dn hi, inb_nat hi, wrap_succ hi hl, f_eqDone]
  · simp
theorem f_eqControl {c : Ctl} (hc : c.In smax) : e_laws_eqControl.F [c.d, c.d] = some (.bool true) := by
  rw [q_laws_eqControl]
  exact rn_call (f_eqZone hc.zone.len) (rn_else (by simp) (rn_call (f_eqDoneS hc.len) (rn_else (by simp) (rn_else (by simp) rfl))))
theorem f_toDone (x : Dn) : e_laws_toDone.F [x.d] = some x.d := by rw [q_laws_toDone]; rfl
def dnZ : D := .pair (.int 0) (.pair (.int 0) (.pair (.int 0) (.pair (.int 0) .unit)))
theorem f_toDoneS {xs : List Dn} (hl : xs.length ≤ lim) : e_laws_toDoneS.F [.lst (xs.map Dn.d)] = some (.lst (xs.map Dn.d)) := by
  have hlen : (D.lst (xs.map Dn.d)).l.length = xs.length := by simp
  rw [q_laws_toDoneS, hlen]; refine rn_if (makeOk_nat hl (by decide)) ?_
  refine rn_bind (loop_for' (fun i (zs : List D) => [.lst zs, .int i]) xs.length (filled (xs.map Dn.d) dnZ) (t := 0) (o := [.lst (xs.map Dn.d)]) (by simp [filled_zero, dnZ]) ?_ ?_) rfl
  · intro i hi
    have hm : i < (xs.map Dn.d).length := by simpa using hi
    have hf := filled_set (z := dnZ) hm
    have ht := f_toDone xs[i]
    rw [List.getElem_map] at hf
    simp [hi, gd_dn hi, inb_nat hi, wrap_succ hi (Nat.le_trans hl lim_smax), filled_length (Nat.le_of_lt hm), hf, ht]
  · have := filled_all (xs := xs.map Dn.d) (z := dnZ)
    rw [List.length_map] at this
    simp [this]
theorem f_toControl {c : Ctl} (hc : c.In lim) : e_laws_toControl.F [c.d] = some c.d := by
  rw [q_laws_toControl]
  exact rn_call (f_toZone hc.zone.len) (rn_call (f_toDoneS hc.len) rfl)
theorem f_szDoneS {xs : List Dn} {left : Int} (hl : xs.length ≤ smax) (h0 : 0 ≤ left) (h1 : left ≤ lim) : ∃ r, e_laws_szDoneS.F [.lst (xs.map Dn.d), .int left] = some (.int r) ∧ r ≤ left ∧ (0 ≤ r → xs.length ≤ lim) := by
  rw [q_laws_szDoneS]
  have hlen : (D.lst (xs.map Dn.d)).l.length = xs.length := by simp
  have hw := len_wrapA h0 h1 hl
  rw [hlen]
  simp only [D.i_int, hw]
  by_cases hlt : left - (xs.length : Int) < 0
  · exact ⟨-1, rn_if (decide_eq_true hlt) rfl, by omega, by omega⟩
  · exact ⟨left - xs.length, rn_else (fun hc => hlt (of_decide_eq_true hc)) rfl, by omega, by omega⟩
theorem f_szControl {c : Ctl} {left : Int} (hc : c.In smax) (h0 : 0 ≤ left) (h1 : left ≤ lim) : ∃ r, e_laws_szControl.F [c.d, .int left] = some (.int r) ∧ (0 ≤ r → c.In lim) := by
  rw [q_laws_szControl]
  have f0 : c.d.fld 0 = c.zone.d := rfl
  have f1 : c.d.fld 1 = .lst (c.last.map Dn.d) := rfl
  rw [f0, f1]
  have hz := f_szZone (left := left) hc.zone h0 h1
  have hzs := szZn_spec (z := c.zone) left h0 h1
  by_cases hlt : szZn left c.zone.d < 0
  · exact ⟨-1, rn_call hz (rn_if (decide_eq_true hlt) rfl), by omega⟩
  · obtain ⟨r, hr, hle, hrl⟩ := f_szDoneS (left := szZn left c.zone.d) hc.len (by omega) (by omega)
    by_cases hlt2 : r < 0
    · exact ⟨-1, rn_call hz (rn_else (fun h => hlt (of_decide_eq_true h)) (rn_call hr (rn_if (decide_eq_true hlt2) rfl))), by omega⟩
    · exact ⟨r, rn_call hz (rn_else (fun h => hlt (of_decide_eq_true h)) (rn_call hr (rn_else (fun h => hlt2 (of_decide_eq_true h)) rfl))), fun hp => ⟨hzs.2 (by omega), hrl hp⟩⟩
theorem Ctl.In.smax {c : Ctl} (h : c.In lim) : c.In smax := ⟨h.zone.smax, Nat.le_trans h.len lim_smax⟩
end Go.Proofs.YtplfcjjbhkjkiaaGreatDoor
namespace Go.Proofs.YtplfcjjbhkjkiaaGreatDoor
open Go Go.Own
theorem dn_mono {c : Ctl} (h : c.good = true) : ∀ i j (hi : i < c.last.length) (hj : j < c.last.length), i < j → c.last[i].client < c.last[j].client := by
  unfold Ctl.good at h
  simp only [Bool.and_eq_true, allN_true] at h
  have hd := h.2.2.2
  have step : ∀ i (hi : i + 1 < c.last.length), c.last[i].client < c.last[i + 1].client := by
    intro i hi
    have := hd (i + 1) hi
    unfold dnOk at this
    simp only [Bool.and_eq_true, getD_lt hi, Nat.add_sub_cancel, getD_lt (show i < c.last.length by omega), Bool.or_eq_true, beq_iff_eq, decide_eq_true_eq] at this
    rcases this.2.2.2 with h1 | h1
    · omega
    · exact h1
  intro i j
  induction j with
  | zero => intro _ _ h; omega
  | succ j ih =>
    intro hi hj hij
    have h1 := step j hj
    by_cases he : i = j
    · subst he; exact h1
    · have := ih hi (by omega) (by omega); omega
theorem f_find {c : Ctl} (hg : c.good = true) (hl : c.last.length ≤ lim) (n : Int) : ∃ (k : Nat) (b : Bool), e_impl_Control_find.F [c.d, .int n] = some (.pair (.int k) (.pair (.bool b) .unit)) ∧ (b = true → ∃ h : k < c.last.length, c.last[k].client = n) ∧ (b = false → ∀ x ∈ c.last, x.client ≠ n) := by
  have hm := dn_mono hg
  obtain ⟨k, k1, k2, k3, b, hb, hr⟩ := bs_gen (f := Dn.d) (c := fun d => e_impl_Control_find_1.F [d, .int n]) (xs := c.last) (cv := fun x => intC x.client n) hl (fun x _ => by
      show e_impl_Control_find_1.F [x.d, .int n] = _
      rw [q_impl_Control_find_1]
      have g0 : x.d.fld 0 = .int x.client := rfl
      rw [g0]
      exact rn_call (f_cmpInt x.client n) rfl) (fun i j hi hj hij h => by
      by_cases he : i = j
      · subst he; exact h
      · have := hm i j hi hj (by omega)
        unfold intC at h ⊢
        split at h
        · rw [if_pos (by omega)]; omega
        · split at h <;> omega)
  have h2 : e_slices_BinarySearchFunc_impl_Done_impl_Done_int__impl_Control_find_1.F [.lst (c.last.map Dn.d), .int n, .unit] = some (.pair (.int k) (.pair (.bool b) .unit)) := by
    rw [q_slices_BinarySearchFunc_impl_Done_impl_Done_int__impl_Control_find_1]; exact hr
  refine ⟨k, b, ?_, ?_, ?_⟩
  · rw [q_impl_Control_find]
    have g1 : c.d.fld 1 = .lst (c.last.map Dn.d) := rfl
    rw [g1]
    exact rn_call h2 rfl
  · intro h
    obtain ⟨hk, he⟩ := hb.1 h
    exact ⟨hk, intC_cmp.eq _ _ he⟩
  · intro h x hx he
    obtain ⟨i, hi, rfl⟩ := List.getElem_of_mem hx
    have h0 : intC c.last[i].client n = 0 := by rw [he]; exact intC_cmp.refl _
    have hik : k ≤ i := by
      rcases Nat.lt_or_ge i k with h1 | h1
      · have := k2 i hi h1; omega
      · exact h1
    have hkl : k < c.last.length := by omega
    have hnn := k3 k hkl (Nat.le_refl _)
    by_cases hki : k = i
    · subst hki
      have : b = true := hb.2 ⟨hi, h0⟩
      rw [h] at this; cases this
    · have := hm k i hkl hi (by omega)
      unfold intC at hnn
      rw [if_pos (by omega)] at hnn
      omega
def nulA : D := .pair (.pair (.int 0) (.pair (.int 0) (.pair (.int 0) (.pair (.int 0) .unit)))) (.pair (.bool false) .unit)
theorem f_AnswerTo {c : Ctl} (hc : c.In lim) (n m : Int) : ∃ (x : Dn) (b : Bool), e_impl_AnswerTo.F [c.d, .int n, .int m] = some (.pair x.d (.pair (.bool b) .unit)) ∧ e_spec_AnswerTo.F [c.d, .int n, .int m] = some (.pair x.d (.pair (.bool b) .unit)) := by
  have hsm := Nat.le_trans hc.len lim_smax
  rw [q_impl_AnswerTo, q_spec_AnswerTo]
  have f1 : (c.d.fld 1).l = c.last.map Dn.d := rfl
  simp only [f1, List.length_map]
  have h1 := f_GoodControl hc
  have h2 := f_specGoodControl hc
  cases hg : c.good with
  | false =>
    rw [hg] at h1 h2
    exact ⟨Dn.nul, false, rn_call h1 (rn_if rfl rfl), rn_call h2 (rn_if rfl rfl)⟩
  | true =>
    rw [hg] at h1 h2
    obtain ⟨k, b, hf, ht, hff⟩ := f_find hg hc.len n
    have hm := dn_mono hg
    -- the reference's loop
    have loop := loop_find (l := [.int 0]) (fun i => [.int i]) c.last.length (fun i => !((c.last.getD i Dn.nul).client == n && (c.last.getD i Dn.nul).no == m)) (t1 := 0) (t2 := 1) (o1 := fun i => [(c.last.getD i Dn.nul).d, .bool true]) (o2 := []) (f := fun l4 =>
        if (decide ((gd l4 0).i < (c.last.length : Int))) then
          if (inb (gd l4 0).i c.last.length) then
          (if (((gd (c.last.map Dn.d) (gd l4 0).i.toNat).fld 0).i == n) then
              ou 0 [(.bool (((gd (c.last.map Dn.d) (gd l4 0).i.toNat).fld 1).i == m))]
            else
              ou 0 [(.bool false)]).bind fun o5 =>
          sel2 o5.1 (if (gd o5.2 0).b then
              ou 1 [(gd (c.last.map Dn.d) (gd l4 0).i.toNat), (.bool true)]
            else
              ou 0 [(.int (IntKind.wrap .i64 ((gd l4 0).i + 1)))]) fun _ => none
          else none
        else
          ou 2 []) rfl (by
      intro i hi hp
      rw [getD_lt hi] at hp
      have hp' : (c.last[i].client == n && c.last[i].no == m) = false := by rw [Bool.not_eq_true'] at hp; exact hp
      have e0 : (gd [D.int (i : Int)] 0).i.toNat = i := by simp
      have e1 : (gd [D.int (i : Int)] 0).i = i := rfl
      have g0 : (c.last[i].d.fld 0).i = c.last[i].client := rfl
      have g1 : (c.last[i].d.fld 1).i = c.last[i].no := rfl
      rw [e0, e1, wrap_succ hi hsm, gd_dn hi, g0, g1]
      refine out_if (by simpa using hi) (out_if (by simpa using inb_nat hi) (out_bind (r := (0, [.bool false])) ?_ (sel0 (out_else (by simp) rfl))))
      rw [← hp']
      by_cases h1 : c.last[i].client = n
      · exact out_if (by simpa using h1) (by simp [h1])
      · exact out_else (by simpa using h1) (by simp [h1])) (by
      intro i hi hp
      rw [getD_lt hi] at hp
      have hp' : (c.last[i].client == n && c.last[i].no == m) = true := by simpa using hp
      have e0 : (gd [D.int (i : Int)] 0).i.toNat = i := by simp
      have e1 : (gd [D.int (i : Int)] 0).i = i := rfl
      have g0 : (c.last[i].d.fld 0).i = c.last[i].client := rfl
      have g1 : (c.last[i].d.fld 1).i = c.last[i].no := rfl
      rw [e0, e1, wrap_succ hi hsm, gd_dn hi, g0, g1, getD_lt hi]
      refine out_if (by simpa using hi) (out_if (by simpa using inb_nat hi) (out_bind (r := (0, [.bool true])) ?_ (sel0 (out_if rfl rfl))))
      simp only [Bool.and_eq_true, beq_iff_eq] at hp'
      exact out_if (by simpa using hp'.1) (by simp [hp'.2])) (by exact out_else (by simp) rfl)
    have hmiss : (∀ x ∈ c.last, ¬ (x.client = n ∧ x.no = m)) → e_spec_AnswerTo.F [c.d, .int n, .int m] = some (.pair Dn.nul.d (.pair (.bool false) .unit)) := by
      intro hno
      rw [q_spec_AnswerTo]
      simp only [f1, List.length_map]
      rcases loop with ⟨hall, hloop⟩ | ⟨j, hj, hpj, _, hloop⟩
      · exact rn_call h2 (rn_else (by simp) (rn_bind hloop rfl))
      · rw [getD_lt hj] at hpj
        have hp' : (c.last[j].client == n && c.last[j].no == m) = true := by simpa using hpj
        simp only [Bool.and_eq_true, beq_iff_eq] at hp'
        exact absurd hp' (hno _ (List.getElem_mem hj))
    rw [q_spec_AnswerTo] at hmiss
    simp only [f1, List.length_map] at hmiss
    cases b with
    | false =>
      have hno := hff rfl
      refine ⟨Dn.nul, false, rn_call h1 (rn_else (by simp) (rn_call hf (rn_bind0 (l := [.bool true]) (out_if rfl rfl) (rn_if rfl rfl)))), hmiss fun x hx h => hno x hx h.1⟩
    | true =>
      obtain ⟨hk, hcl⟩ := ht rfl
      have gk : ((gd (c.last.map Dn.d) k).fld 1).i = c.last[k].no := by rw [gd_dn hk]; rfl
      have fk : ((D.pair (.int (k : Int)) (.pair (.bool true) .unit)).fld 0).i = (k : Int) := rfl
      by_cases hno : c.last[k].no = m
      · refine ⟨c.last[k], true, rn_call h1 (rn_else (by simp) (rn_call hf ?_)), ?_⟩
        · rw [fk, Int.toNat_natCast]
          refine rn_bind0 (l := [.bool false]) (out_else (by simp [D.fld]) (out_if (inb_nat hk) ?_)) (rn_else (by simp) (rn_if (inb_nat hk) ?_))
          · rw [gk]; simp [hno]
          · rw [gd_dn hk]; rfl
        · rcases loop with ⟨hall, hloop⟩ | ⟨j, hj, hpj, _, hloop⟩
          · have := hall k hk
            rw [getD_lt hk] at this
            simp [hcl, hno] at this
          · rw [getD_lt hj] at hpj
            have hp' : (c.last[j].client == n && c.last[j].no == m) = true := by simpa using hpj
            simp only [Bool.and_eq_true, beq_iff_eq] at hp'
            have hjk : j = k := by
              rcases Nat.lt_trichotomy j k with h3 | h3 | h3
              · have := hm j k hj hk h3; omega
              · exact h3
              · have := hm k j hk hj h3; omega
            subst hjk
            refine rn_call h2 (rn_else (by simp) (rn_bind hloop ?_))
            rw [getD_lt hj]; rfl
      · refine ⟨Dn.nul, false, rn_call h1 (rn_else (by simp) (rn_call hf ?_)), hmiss ?_⟩
        · rw [fk, Int.toNat_natCast]
          refine rn_bind0 (l := [.bool true]) (out_else (by simp [D.fld]) (out_if (inb_nat hk) ?_)) (rn_if rfl rfl)
          rw [gk]; simp [hno]
        · rintro x hx ⟨h3, h4⟩
          obtain ⟨j, hj, rfl⟩ := List.getElem_of_mem hx
          have hjk : j = k := by
            rcases Nat.lt_trichotomy j k with h5 | h5 | h5
            · have := hm j k hj hk h5; omega
            · exact h5
            · have := hm k j hk hj h5; omega
          subst hjk
          exact hno h4
theorem law_FnExactAnswerTo {a b c : D} (ha : Sm smax tCtl a) (hb : Sm smax (.int .i64) b) (hc : Sm smax (.int .i64) c) : e_laws_FnExactAnswerTo.F [a, b, c] = some (.bool true) := by
  obtain ⟨x, rfl, hi⟩ := ctl_of ha
  obtain ⟨n, rfl, _⟩ := hb
  obtain ⟨m, rfl, _⟩ := hc
  obtain ⟨r, h1, h2⟩ := f_szControl hi (left := 1048576) (by decide) (by decide)
  rw [q_laws_FnExactAnswerTo]
  refine rn_call h1 ?_
  by_cases hr : r < 0
  · exact rn_if (decide_eq_true hr) rfl
  refine rn_else (fun h => hr (of_decide_eq_true h)) ?_
  have hs := h2 (by omega)
  have ht := f_toControl hs
  obtain ⟨y, f, hI, hS⟩ := f_AnswerTo hs n m
  have f0 : (D.pair y.d (.pair (.bool f) .unit)).fld 0 = y.d := rfl
  refine rn_call ht (rn_call hS (rn_call ht (rn_call hI (rn_bind0 (l := [.bool false]) ?_ (rn_else (by simp) (rn_call ht (rn_call (f_eqControl hs.smax) (rn_else (by simp) rfl))))))))
  rw [f0]
  exact out_call (f_eqDone y) (out_else (by simp) (by simp))
end Go.Proofs.YtplfcjjbhkjkiaaGreatDoor
