/- What the functions compute, in plain words. -/
import Derived.Test.YtjanpfgbppcphaaGreatDoorP3
set_option linter.unusedSectionVars false
set_option linter.unusedVariables false
set_option linter.unusedSimpArgs false
namespace Go.Proofs.YtjanpfgbppcphaaGreatDoor
open Go Go.Own
structure Dn where
 client : Int
 no : Int
 code : Int
 serial : Int
def Dn.d (x : Dn) : D := .pair (.int x.client) (.pair (.int x.no) (.pair (.int x.code) (.pair (.int x.serial) .unit)))
def Dn.nul : Dn := ⟨0, 0, 0, 0⟩
structure Ctl where
 zone : Zn
 last : List Dn
 many : Int
def Ctl.d (c : Ctl) : D := .pair c.zone.d (.pair (.lst (c.last.map Dn.d)) (.pair (.int c.many) .unit))
structure Ctl.In (B : Nat) (c : Ctl) : Prop where
 zone : c.zone.In B
 len : c.last.length ≤ B
theorem gd_dn {xs : List Dn} {i : Nat} (hi : i < xs.length) : gd (xs.map Dn.d) i = xs[i].d := gd_map hi
def who (a b : Int) : Bool := inP a 0 100 && inP b 1 1000
theorem f_isClient (a b : Int) : e_impl_isClient.F [.int a, .int b] = some (.bool (who a b)) := by
 rw [q_impl_isClient]
 have h1 := f_withinP a 0 100
 have h2 := f_withinP b 1 1000
 unfold who
 refine rn_bind0 (l := [.bool (inP a 0 100 && inP b 1 1000)]) ?_ rfl
 cases h : inP a 0 100 with
 | false => rw [h] at h1; exact out_call h1 (out_else (by simp) rfl)
 | true => rw [h] at h1; exact out_call h1 (out_if rfl (out_call h2 rfl))
theorem f_l16Who (a b : Int) : e_spec_l16Who.F [.int a, .int b] = some (.bool (who a b)) := by
 rw [q_spec_l16Who]
 have h1 := f_l1InP a 0 100
 have h2 := f_l1InP b 1 1000
 unfold who
 refine rn_bind0 (l := [.bool (inP a 0 100 && inP b 1 1000)]) ?_ rfl
 cases h : inP a 0 100 with
 | false => rw [h] at h1; exact out_call h1 (out_else (by simp) rfl)
 | true => rw [h] at h1; exact out_call h1 (out_if rfl (out_call h2 rfl))
theorem f_isSerial (a : Int) : e_impl_isSerial.F [.int a] = some (.bool (inP a 0 4294967295)) := by
 rw [q_impl_isSerial]; exact rn_call (f_withinP a 0 4294967295) rfl
theorem f_l5Serial (a : Int) : e_spec_l5Serial.F [.int a] = some (.bool (inP a 0 4294967295)) := by
 rw [q_spec_l5Serial]; exact rn_call (f_l1InP a 0 4294967295) rfl
def dnOk (xs : List Dn) (i : Nat) : Bool := who (xs.getD i Dn.nul).client (xs.getD i Dn.nul).no && (inP (xs.getD i Dn.nul).code 0 4 && (inP (xs.getD i Dn.nul).serial 0 4294967295 && (i == 0 || decide ((xs.getD (i - 1) Dn.nul).client < (xs.getD i Dn.nul).client))))
noncomputable def Ctl.good (c : Ctl) : Bool := c.zone.good && (inP c.many 0 1000000 && (decide (c.last.length ≤ 8) && allN c.last.length (dnOk c.last)))
theorem f_GoodControl {c : Ctl} (hc : c.In lim) : e_impl_GoodControl.F [c.d] = some (.bool c.good) := by
 have hsm := Nat.le_trans hc.len lim_smax
 rw [q_impl_GoodControl]
 have f0 : c.d.fld 0 = c.zone.d := rfl
 have f1 : (c.d.fld 1).l = c.last.map Dn.d := rfl
 have f2 : c.d.fld 2 = .int c.many := rfl
 rw [f0, f2]
 simp only [f1, List.length_map]
 have h1 := f_GoodZone hc.zone
 have h2 := f_withinP c.many 0 1000000
 unfold Ctl.good
 cases k1 : c.zone.good with
 | false => rw [k1] at h1; exact rn_bind0 (l := [.bool true]) (out_call h1 (out_if rfl rfl)) (rn_if rfl rfl)
 | true =>
   rw [k1] at h1
   cases k2 : inP c.many 0 1000000 with
   | false => rw [k2] at h2; exact rn_bind0 (l := [.bool true]) (out_call h1 (out_else (by simp) (out_call h2 (out_if rfl rfl)))) (rn_if rfl rfl)
   | true =>
     rw [k2] at h2
     by_cases k3 : c.last.length ≤ 8
     ·have e3 : decide ((c.last.length : Int) > 8) = false := decide_eq_false (by omega)
      have e3' : decide (c.last.length ≤ 8) = true := decide_eq_true k3
      rw [e3', Bool.true_and, Bool.true_and, Bool.true_and]
      refine rn_bind0 (l := [.bool false]) (out_call h1 (out_else (by simp) (out_call h2 (out_else (by simp) (by rw [e3]))))) (rn_else (by simp) ?_)
      refine rn_bind (loop_all' (fun i => [.int i]) c.last.length (dnOk c.last) (t1 := 0) (t2 := 1) (o1 := [.bool false]) (o2 := []) rfl ?_ (by exact out_else (by simp) rfl)) ?_
      ·intro i hi
       have e0 : (gd [D.int (i : Int)] 0).i.toNat = i := by simp
       have e1 : (gd [D.int (i : Int)] 0).i = i := rfl
       have g0 : c.last[i].d.fld 0 = .int c.last[i].client := rfl
       have g1 : c.last[i].d.fld 1 = .int c.last[i].no := rfl
       have g2 : c.last[i].d.fld 2 = .int c.last[i].code := rfl
       have g3 : c.last[i].d.fld 3 = .int c.last[i].serial := rfl
       rw [e0, e1, wrap_succ hi hsm, gd_dn hi, g0, g1, g2, g3]
       refine out_if (by simpa using hi) (out_if (by simpa using inb_nat hi) (out_bind (r := (0, [.bool !(dnOk c.last i)])) ?_ (sel0 (by cases dnOk c.last i <;> simp))))
       unfold dnOk
       rw [getD_lt hi]
       have q1 := f_isClient c.last[i].client c.last[i].no
       have q2 := f_withinP c.last[i].code 0 4
       have q3 := f_isSerial c.last[i].serial
       cases r1 : who c.last[i].client c.last[i].no with
       | false => rw [r1] at q1; exact out_call q1 (out_if rfl rfl)
       | true =>
         rw [r1] at q1
         cases r2 : inP c.last[i].code 0 4 with
         | false => rw [r2] at q2; exact out_call q1 (out_else (by simp) (out_call q2 (out_if rfl rfl)))
         | true =>
           rw [r2] at q2
           cases r3 : inP c.last[i].serial 0 4294967295 with
           | false => rw [r3] at q3; exact out_call q1 (out_else (by simp) (out_call q2 (out_else (by simp) (out_call q3 (out_if rfl rfl)))))
           | true =>
             rw [r3] at q3
             refine out_call q1 (out_else (by simp) (out_call q2 (out_else (by simp) (out_call q3 (out_else (by simp) ?_)))))
             by_cases h0 : i = 0
             ·subst h0; exact out_else (by simp) rfl
             ·have w : IntKind.wrap .i64 ((i : Int) - 1) = ((i - 1 : Nat) : Int) := by rw [smax_eq] at hsm; rw [wrap_id] <;> omega
              have hi1 : i - 1 < c.last.length := by omega
              refine out_if (decide_eq_true (by omega)) (out_if (by rw [w]; exact inb_nat hi1) ?_)
              rw [w, Int.toNat_natCast, gd_dn hi1, getD_lt hi1]
              have g0' : c.last[i - 1].d.fld 0 = .int c.last[i - 1].client := rfl
              rw [g0', D.i_int, D.i_int]
              have : decide (c.last[i].client ≤ c.last[i - 1].client) = !(decide (c.last[i - 1].client < c.last[i].client)) := by
               rw [Bool.eq_iff_iff]; simp
              have h0' : (i == 0) = false := by simpa using h0
              rw [this, h0']; rfl
      ·cases allN c.last.length (dnOk c.last) <;> rfl
     ·have e3 : decide ((c.last.length : Int) > 8) = true := decide_eq_true (by omega)
      have e3' : decide (c.last.length ≤ 8) = false := decide_eq_false k3
      rw [e3']
      exact rn_bind0 (l := [.bool true]) (out_call h1 (out_else (by simp) (out_call h2 (out_else (by simp) (by rw [e3]))))) (rn_if rfl rfl)
theorem f_specGoodControl {c : Ctl} (hc : c.In lim) : e_spec_GoodControl.F [c.d] = some (.bool c.good) := by
 have hsm := Nat.le_trans hc.len lim_smax
 rw [q_spec_GoodControl]
 have f0 : c.d.fld 0 = c.zone.d := rfl
 have f1 : (c.d.fld 1).l = c.last.map Dn.d := rfl
 have f2 : c.d.fld 2 = .int c.many := rfl
 rw [f0, f2]
 simp only [f1, List.length_map]
 have h1 := f_specGoodZone hc.zone
 have h2 := f_l1InP c.many 0 1000000
 unfold Ctl.good
 refine rn_bind (loop_all' (fun i => [.int i]) c.last.length (dnOk c.last) (t1 := 0) (t2 := 1) (o1 := []) (o2 := []) rfl ?_ (by exact out_else (by simp) rfl)) ?_
 ·intro i hi
  have e0 : (gd [D.int (i : Int)] 0).i.toNat = i := by simp
  have e1 : (gd [D.int (i : Int)] 0).i = i := rfl
  have g0 : c.last[i].d.fld 0 = .int c.last[i].client := rfl
  have g1 : c.last[i].d.fld 1 = .int c.last[i].no := rfl
  have g2 : c.last[i].d.fld 2 = .int c.last[i].code := rfl
  have g3 : c.last[i].d.fld 3 = .int c.last[i].serial := rfl
  rw [e0, e1, wrap_succ hi hsm, gd_dn hi, g0, g1, g2, g3]
  refine out_if (by simpa using hi) (out_if (by simpa using inb_nat hi) (out_bind (r := (0, [.bool !(dnOk c.last i)])) ?_ (sel0 (by cases dnOk c.last i <;> simp))))
  unfold dnOk
  rw [getD_lt hi]
  have q1 := f_l16Who c.last[i].client c.last[i].no
  have q2 := f_l1InP c.last[i].code 0 4
  have q3 := f_l5Serial c.last[i].serial
  cases r1 : who c.last[i].client c.last[i].no with
  | false => rw [r1] at q1; exact out_call q1 (out_if rfl rfl)
  | true =>
    rw [r1] at q1
    cases r2 : inP c.last[i].code 0 4 with
    | false => rw [r2] at q2; exact out_call q1 (out_else (by simp) (out_call q2 (out_if rfl rfl)))
    | true =>
      rw [r2] at q2
      cases r3 : inP c.last[i].serial 0 4294967295 with
      | false => rw [r3] at q3; exact out_call q1 (out_else (by simp) (out_call q2 (out_else (by simp) (out_call q3 (out_if rfl rfl)))))
      | true =>
        rw [r3] at q3
        refine out_call q1 (out_else (by simp) (out_call q2 (out_else (by simp) (out_call q3 (out_else (by simp) ?_)))))
        by_cases h0 : i = 0
        ·subst h0; exact out_else (by simp) rfl
        ·have w : IntKind.wrap .i64 ((i : Int) - 1) = ((i - 1 : Nat) : Int) := by rw [smax_eq] at hsm; rw [wrap_id] <;> omega
         have hi1 : i - 1 < c.last.length := by omega
         refine out_if (decide_eq_true (by omega)) (out_if (by rw [w]; exact inb_nat hi1) ?_)
         rw [w, Int.toNat_natCast, gd_dn hi1, getD_lt hi1]
         have g0' : c.last[i - 1].d.fld 0 = .int c.last[i - 1].client := rfl
         rw [g0', D.i_int, D.i_int]
         have : decide (c.last[i - 1].client ≥ c.last[i].client) = !(decide (c.last[i - 1].client < c.last[i].client)) := by
          rw [Bool.eq_iff_iff]; simp
         have h0' : (i == 0) = false := by simpa using h0
         rw [this, h0']; simp
 ·cases k4 : allN c.last.length (dnOk c.last) with
  | false => rw [Bool.and_false, Bool.and_false, Bool.and_false]; rfl
  | true =>
    rw [Bool.and_true]
    refine rn_bind0 (l := [.bool (c.zone.good && (inP c.many 0 1000000 && decide (c.last.length ≤ 8)))]) ?_ rfl
    cases k1 : c.zone.good with
    | false => rw [k1] at h1; exact out_call h1 (out_else (by simp) rfl)
    | true =>
      rw [k1] at h1
      cases k2 : inP c.many 0 1000000 with
      | false => rw [k2] at h2; exact out_call h1 (out_if rfl (out_call h2 (out_else (by simp) rfl)))
      | true =>
        rw [k2] at h2
        have : decide ((c.last.length : Int) ≤ 8) = decide (c.last.length ≤ 8) := by rw [Bool.eq_iff_iff]; simp; omega
        exact out_call h1 (out_if rfl (out_call h2 (out_if rfl (by rw [this]; rfl))))
abbrev tDone : T := .pair (.int .i64) (.pair (.int .i64) (.pair (.int .i64) (.pair (.int .i64) .unit)))
abbrev tCtl : T := .pair tZone (.pair (.lst false tDone) (.pair (.int .i64) .unit))
theorem done_of {B : Nat} {d : D} (h : Sm B tDone d) : ∃ x : Dn, d = x.d ∧ True := by
 obtain ⟨_, _, rfl, ⟨a, rfl, _⟩, _, _, rfl, ⟨b, rfl, _⟩, _, _, rfl, ⟨c, rfl, _⟩, _, _, rfl, ⟨e, rfl, _⟩, rfl⟩ := h
 exact ⟨⟨a, b, c, e⟩, rfl, trivial⟩
theorem ctl_of {B : Nat} {d : D} (h : Sm B tCtl d) : ∃ c : Ctl, d = c.d ∧ c.In B := by
 obtain ⟨_, _, rfl, hz, _, _, rfl, ⟨xs, rfl, hl, hc⟩, _, _, rfl, ⟨n, rfl, _⟩, rfl⟩ := h
 obtain ⟨z, rfl, hz2⟩ := zone_of hz
 obtain ⟨ys, rfl, _⟩ := list_of (g := Dn.d) (Q := fun _ => True) (fun x hx => done_of (hc x hx))
 exact ⟨⟨z, ys, n⟩, rfl, hz2, by simpa using hl⟩
theorem f_eqDone (x : Dn) : e_laws_eqDone.F [x.d, x.d] = some (.bool true) := by
 rw [q_laws_eqDone]; simp [Dn.d]
theorem f_eqDoneS {xs : List Dn} (hl : xs.length ≤ smax) : e_laws_eqDoneS.F [.lst (xs.map Dn.d), .lst (xs.map Dn.d)] = some (.bool true) := by
 rw [q_laws_eqDoneS, if_neg (by simp)]
 refine rn_bind (loop_for' (fun i (_ : Unit) => [.int i]) xs.length (fun _ => ()) (t := 1) (o := []) rfl ?_ ?_) rfl
 ·intro i hi
  simp [hi, gd_dn hi, inb_nat hi, wrap_succ hi hl, f_eqDone]
 ·simp
theorem f_eqControl {c : Ctl} (hc : c.In smax) : e_laws_eqControl.F [c.d, c.d] = some (.bool true) := by
 rw [q_laws_eqControl]
 exact rn_call (f_eqZone hc.zone.len) (rn_else (by simp) (rn_call (f_eqDoneS hc.len) (rn_else (by simp) (rn_else (by simp) rfl))))
theorem f_toDone (x : Dn) : e_laws_toDone.F [x.d] = some x.d := by rw [q_laws_toDone]; rfl
def dnZ : D := .pair (.int 0) (.pair (.int 0) (.pair (.int 0) (.pair (.int 0) .unit)))
theorem f_toDoneS {xs : List Dn} (hl : xs.length ≤ lim) : e_laws_toDoneS.F [.lst (xs.map Dn.d)] = some (.lst (xs.map Dn.d)) := by
 have hlen : (D.lst (xs.map Dn.d)).l.length = xs.length := by simp
 rw [q_laws_toDoneS, hlen]; refine rn_if (makeOk_nat hl (by decide)) ?_
 refine rn_bind (loop_for' (fun i (zs : List D) => [.lst zs, .int i]) xs.length (filled (xs.map Dn.d) dnZ) (t := 0) (o := [.lst (xs.map Dn.d)]) (by simp [filled_zero, dnZ]) ?_ ?_) rfl
 ·intro i hi
  have hm : i < (xs.map Dn.d).length := by simpa using hi
  have hf := filled_set (z := dnZ) hm
  have ht := f_toDone xs[i]
  rw [List.getElem_map] at hf
  simp [hi, gd_dn hi, inb_nat hi, wrap_succ hi (Nat.le_trans hl lim_smax), filled_length (Nat.le_of_lt hm), hf, ht]
 ·have := filled_all (xs := xs.map Dn.d) (z := dnZ)
  rw [List.length_map] at this
  simp [this]
theorem f_toControl {c : Ctl} (hc : c.In lim) : e_laws_toControl.F [c.d] = some c.d := by
 rw [q_laws_toControl]
 exact rn_call (f_toZone hc.zone.len) (rn_call (f_toDoneS hc.len) rfl)
theorem f_szDoneS {xs : List Dn} {left : Int} (hl : xs.length ≤ smax) (h0 : 0 ≤ left) (h1 : left ≤ lim) : ∃ r, e_laws_szDoneS.F [.lst (xs.map Dn.d), .int left] = some (.int r) ∧ r ≤ left ∧ (0 ≤ r → xs.length ≤ lim) := by
 rw [q_laws_szDoneS]
 have hlen : (D.lst (xs.map Dn.d)).l.length = xs.length := by simp
 have hw := len_wrapA h0 h1 hl
 rw [hlen]
 simp only [D.i_int, hw]
 by_cases hlt : left - (xs.length : Int) < 0
 ·exact ⟨-1, rn_if (decide_eq_true hlt) rfl, by omega, by omega⟩
 ·exact ⟨left - xs.length, rn_else (fun hc => hlt (of_decide_eq_true hc)) rfl, by omega, by omega⟩
theorem Ctl.In.smax {c : Ctl} (h : c.In lim) : c.In smax := ⟨h.zone.smax, Nat.le_trans h.len lim_smax⟩
end Go.Proofs.YtjanpfgbppcphaaGreatDoor
namespace Go.Proofs.YtjanpfgbppcphaaGreatDoor
open Go Go.Own
theorem eqS_gen {α : Type} {f : α → D} {c : List D → Option D} {xs : List α} (hl : xs.length ≤ smax) (hc : ∀ x ∈ xs, c [f x, f x] = some (.bool true)) : rn (
 if (((D.lst (xs.map f)).l.length : Int) != ((D.lst (xs.map f)).l.length : Int)) then
  ou 0 [(.bool false)]
 else
  (loopF (fun l2 =>
    if (decide ((gd l2 0).i < ((D.lst (xs.map f)).l.length : Int))) then
     if (inb (gd l2 0).i (D.lst (xs.map f)).l.length) then
     if (inb (gd l2 0).i (D.lst (xs.map f)).l.length) then
     (c [(gd (D.lst (xs.map f)).l (gd l2 0).i.toNat), (gd (D.lst (xs.map f)).l (gd l2 0).i.toNat)]).bind fun r3 =>
     if (!r3.b) then
      ou 1 []
     else
      ou 0 [(.int (IntKind.wrap .i64 ((gd l2 0).i + 1)))]
     else none
     else none
    else
     ou 2 []) [(.int 0)]).bind fun o2 =>
  sel2 o2.1 (ou 0 [(.bool false)]) fun n4 =>
  sel2 n4 (ou 0 [(.bool true)]) fun _ => none) = some (.bool true) := by
 rw [if_neg (by simp)]
 refine rn_bind (loop_for' (fun i (_ : Unit) => [.int i]) xs.length (fun _ => ()) (t := 1) (o := []) rfl ?_ ?_) rfl
 ·intro i hi
  have := hc _ (List.getElem_mem hi)
  simp [hi, gd_map hi, inb_nat hi, wrap_succ hi hl, this]
 ·simp
theorem toS_gen {α : Type} {f : α → D} {c : List D → Option D} {xs : List α} {z : D} {eb : Nat} (he : eb ≤ 16777216) (hl : xs.length ≤ lim) (hc : ∀ x ∈ xs, c [f x] = some (f x)) : rn (
 if (makeOk eb ((D.lst (xs.map f)).l.length : Int)) then
 (loopF (fun l1 =>
   if (decide ((gd l1 1).i < ((D.lst (xs.map f)).l.length : Int))) then
    if (inb (gd l1 1).i (D.lst (xs.map f)).l.length) then
    (c [(gd (D.lst (xs.map f)).l (gd l1 1).i.toNat)]).bind fun r3 =>
    if (inb (gd l1 1).i (gd l1 0).l.length) then
    ou 0 [(D.lst ((gd l1 0).l.set (gd l1 1).i.toNat r3)), (.int (IntKind.wrap .i64 ((gd l1 1).i + 1)))]
    else none
    else none
   else
    ou 1 [(gd l1 0)]) [(D.lst (List.replicate ((D.lst (xs.map f)).l.length : Int).toNat z)), (.int 0)]).bind fun o1 =>
 sel2 o1.1 (ou 0 [(gd o1.2 0)]) fun _ => none
 else none) = some (.lst (xs.map f)) := by
 have hlen : (D.lst (xs.map f)).l.length = xs.length := by simp
 rw [hlen]; refine rn_if (makeOk_nat hl he) ?_
 refine rn_bind (loop_for' (fun i (zs : List D) => [.lst zs, .int i]) xs.length (filled (xs.map f) z) (t := 0) (o := [.lst (xs.map f)]) (by simp [filled_zero]) ?_ ?_) rfl
 ·intro i hi
  have hm : i < (xs.map f).length := by simpa using hi
  have hf := filled_set (z := z) hm
  have ht := hc _ (List.getElem_mem hi)
  rw [List.getElem_map] at hf
  simp [hi, gd_map hi, inb_nat hi, wrap_succ hi (Nat.le_trans hl lim_smax), filled_length (Nat.le_of_lt hm), hf, ht]
 ·have := filled_all (xs := xs.map f) (z := z)
  rw [List.length_map] at this
  simp [this]
def SzOk {α : Type} (f : α → D) (c : Int → D → Int) (Q : α → Prop) : Prop := ∀ (x : α) (s : Int), 0 ≤ s → s ≤ lim → c s (f x) ≤ s ∧ (0 ≤ c s (f x) → Q x)
theorem szS_gen {α : Type} {f : α → D} {c : Int → D → Int} {e : List D → Option D} {Q : α → Prop} {xs : List α} {left : Int} (hQ : SzOk f c Q) (hl : xs.length ≤ smax) (h0 : 0 ≤ left) (h1 : left ≤ lim)
 (hc : ∀ x ∈ xs, ∀ s : Int, 0 ≤ s → s ≤ lim → e [f x, .int s] = some (.int (c s (f x)))) : rn (
 if (decide ((IntKind.wrap .i64 ((D.int left).i - ((D.lst (xs.map f)).l.length : Int))) < 0)) then
  ou 0 [(.int (-1))]
 else
  (loopF (fun l2 =>
    if (decide ((gd l2 1).i < ((D.lst (xs.map f)).l.length : Int))) then
     if (inb (gd l2 1).i (D.lst (xs.map f)).l.length) then
     (e [(gd (D.lst (xs.map f)).l (gd l2 1).i.toNat), (gd l2 0)]).bind fun r4 =>
     if (decide (r4.i < 0)) then
      ou 1 [(.int (-1))]
     else
      ou 0 [r4, (.int (IntKind.wrap .i64 ((gd l2 1).i + 1)))]
     else none
    else
     ou 2 [(gd l2 0)]) [(.int (IntKind.wrap .i64 ((D.int left).i - ((D.lst (xs.map f)).l.length : Int)))), (.int 0)]).bind fun o2 =>
  sel2 o2.1 (ou 0 [(gd o2.2 0)]) fun n4 =>
  sel2 n4 (ou 0 [(gd o2.2 0)]) fun _ => none) = some (.int (szL c (xs.map f) left)) := by
 have hw := len_wrapA h0 h1 hl
 have hlen : (D.lst (xs.map f)).l.length = (xs.map f).length := rfl
 have hlen' : (xs.map f).length = xs.length := by simp
 rw [hlen]
 have hw' : IntKind.wrap .i64 (left - ((xs.map f).length : Int)) = left - (xs.map f).length := by rw [hlen']; exact hw
 by_cases hlt : left - ((xs.map f).length : Int) < 0
 ·refine rn_if (by rw [D.i_int, hw']; exact decide_eq_true hlt) ?_
  unfold szL
  rw [if_pos hlt]; rfl
 ·refine rn_else (by rw [D.i_int, hw']; exact fun hc => hlt (of_decide_eq_true hc)) ?_
  simp only [D.l_lst, D.i_int, hw']
  refine rn_bind (szL_loop (c := c) hlt h1 ?_ ?_ ?_) ?_
  ·intro x hx' s h1 h2
   obtain ⟨y, hy, rfl⟩ := List.mem_map.1 hx'
   exact (hQ y s h1 h2).1
  ·intro i s hi h1 h2
   have hi' : i < xs.length := by simpa using hi
   have hg : (xs.map f)[i] = f xs[i] := by simp
   have hz := hc _ (List.getElem_mem hi') s h1 h2
   rw [hg]
   constructor <;> intro hc <;> simp [hi', gd_map hi', inb_nat hi', wrap_succ hi' hl, hz, hc]
  ·intro s; simp
  ·rcases szN_cases c (xs.map f) left with h | h <;> simp [h]
theorem szS_ok {α : Type} {f : α → D} {c : Int → D → Int} {Q : α → Prop} (hinj : ∀ x y : α, f x = f y → x = y) (hQ : SzOk f c Q) (xs : List α) {left : Int} (h0 : 0 ≤ left) (h1 : left ≤ lim) :
 szL c (xs.map f) left ≤ left ∧ (0 ≤ szL c (xs.map f) left → xs.length ≤ lim ∧ ∀ x ∈ xs, Q x) := by
 have hs := szL_spec (c := c) (Q := fun d => ∃ y : α, d = f y ∧ Q y) (xs := xs.map f) (left := left) h1 (by
  intro x hx' s h1 h2
  obtain ⟨y, hy, rfl⟩ := List.mem_map.1 hx'
  exact ⟨(hQ y s h1 h2).1, fun h => ⟨y, rfl, (hQ y s h1 h2).2 h⟩⟩) h0
 refine ⟨hs.1, fun hp => ?_⟩
 have := hs.2 hp
 refine ⟨by simpa using this.1, fun x hx => ?_⟩
 obtain ⟨y, hy, hyl⟩ := this.2 (f x) (List.mem_map.2 ⟨x, hx, rfl⟩)
 rw [hinj _ _ hy]; exact hyl
theorem rn_two {a b : Int} {e : Int → Option D} {k : D → Outc} (he : 0 ≤ a → e a = some (.int b)) (hk : k = fun r3 => if decide (r3.i < 0) then ou 0 [.int (-1)] else ou 0 [r3]) :
 rn (if decide ((D.int a).i < 0) then ou 0 [.int (-1)] else (e a).bind k) = some (.int (if a < 0 then -1 else if b < 0 then -1 else b)) := by
 subst hk
 by_cases h : a < 0
 ·rw [if_pos h]; exact rn_if (decide_eq_true h) rfl
 ·rw [if_neg h]
  refine rn_else (fun h' => h (of_decide_eq_true h')) (rn_call (he (by omega)) ?_)
  by_cases h2 : b < 0
  ·rw [if_pos h2]; exact rn_if (decide_eq_true h2) rfl
  ·rw [if_neg h2]; exact rn_else (fun h' => h2 (of_decide_eq_true h')) rfl
structure Dif where
 fr : Int
 to' : Int
 dels : List Rec
 adds : List Rec
def Dif.d (x : Dif) : D := .pair (.int x.fr) (.pair (.int x.to') (.pair (.lst (x.dels.map Rec.d)) (.pair (.lst (x.adds.map Rec.d)) .unit)))
def Dif.nul : Dif := ⟨0, 0, [], []⟩
structure RIn (B : Nat) (l : List Rec) : Prop where
 len : l.length ≤ B
 all : ∀ r ∈ l, r.In B
structure Dif.In (B : Nat) (x : Dif) : Prop where
 dels : RIn B x.dels
 adds : RIn B x.adds
structure Jrn where
 apex : List UInt8
 first : Int
 diffs : List Dif
def Jrn.d (j : Jrn) : D := .pair (.str j.apex) (.pair (.int j.first) (.pair (.lst (j.diffs.map Dif.d)) .unit))
structure Jrn.In (B : Nat) (j : Jrn) : Prop where
 apex : j.apex.length ≤ B
 len : j.diffs.length ≤ B
 all : ∀ x ∈ j.diffs, x.In B
structure Edg where
 zone : Zn
 saved : Zn
def Edg.d (x : Edg) : D := .pair x.zone.d (.pair x.saved.d .unit)
def Edg.nul : Edg := ⟨⟨[], 0, []⟩, ⟨[], 0, []⟩⟩
structure Edg.In (B : Nat) (x : Edg) : Prop where
 zone : x.zone.In B
 saved : x.saved.In B
structure Prc where
 to' : Int
 whole : Bool
 zone : Zn
 diff : Dif
def Prc.d (x : Prc) : D := .pair (.int x.to') (.pair (.bool x.whole) (.pair x.zone.d (.pair x.diff.d .unit)))
def Prc.nul : Prc := ⟨0, false, ⟨[], 0, []⟩, Dif.nul⟩
structure Prc.In (B : Nat) (x : Prc) : Prop where
 zone : x.zone.In B
 diff : x.diff.In B
structure Flt where
 ctl : Ctl
 jrn : Jrn
 edges : List Edg
 parcels : List Prc
def Flt.d (f : Flt) : D := .pair f.ctl.d (.pair f.jrn.d (.pair (.lst (f.edges.map Edg.d)) (.pair (.lst (f.parcels.map Prc.d)) .unit)))
structure Flt.In (B : Nat) (f : Flt) : Prop where
 ctl : f.ctl.In B
 jrn : f.jrn.In B
 elen : f.edges.length ≤ B
 eall : ∀ x ∈ f.edges, x.In B
 plen : f.parcels.length ≤ B
 pall : ∀ x ∈ f.parcels, x.In B
theorem RIn.smax {l : List Rec} (h : RIn lim l) : RIn smax l := ⟨Nat.le_trans h.len lim_smax, fun r hr => ⟨Nat.le_trans (h.all r hr).name lim_smax, Nat.le_trans (h.all r hr).data lim_smax⟩⟩
theorem Dif.In.smax {x : Dif} (h : x.In lim) : x.In smax := ⟨h.dels.smax, h.adds.smax⟩
abbrev tDif : T := .pair (.int .i64) (.pair (.int .i64) (.pair (.lst false tRec) (.pair (.lst false tRec) .unit)))
abbrev tJrn : T := .pair .str (.pair (.int .i64) (.pair (.lst false tDif) .unit))
abbrev tEdg : T := .pair tZone (.pair tZone .unit)
abbrev tPrc : T := .pair (.int .i64) (.pair .bool (.pair tZone (.pair tDif .unit)))
abbrev tFlt : T := .pair tCtl (.pair tJrn (.pair (.lst false tEdg) (.pair (.lst false tPrc) .unit)))
theorem recs_of {B : Nat} {o : Bool} {d : D} (h : Sm B (.lst o tRec) d) : ∃ l : List Rec, d = .lst (l.map Rec.d) ∧ RIn B l := by
 obtain ⟨xs, rfl, hl, hc⟩ := h
 obtain ⟨ys, rfl, hys⟩ := list_of (g := Rec.d) (Q := fun r => r.In B) (fun x hx => rec_of (hc x hx))
 exact ⟨ys, rfl, by simpa using hl, hys⟩
theorem dif_of {B : Nat} {d : D} (h : Sm B tDif d) : ∃ x : Dif, d = x.d ∧ x.In B := by
 obtain ⟨_, _, rfl, ⟨a, rfl, _⟩, _, _, rfl, ⟨b, rfl, _⟩, _, _, rfl, h1, _, _, rfl, h2, rfl⟩ := h
 obtain ⟨l, rfl, hl⟩ := recs_of h1
 obtain ⟨m, rfl, hm⟩ := recs_of h2
 exact ⟨⟨a, b, l, m⟩, rfl, hl, hm⟩
theorem jrn_of {B : Nat} {d : D} (h : Sm B tJrn d) : ∃ x : Jrn, d = x.d ∧ x.In B := by
 obtain ⟨_, _, rfl, ⟨s, rfl, hs⟩, _, _, rfl, ⟨n, rfl, _⟩, _, _, rfl, ⟨xs, rfl, hl, hc⟩, rfl⟩ := h
 obtain ⟨ys, rfl, hys⟩ := list_of (g := Dif.d) (Q := fun r => r.In B) (fun x hx => dif_of (hc x hx))
 exact ⟨⟨s, n, ys⟩, rfl, hs, by simpa using hl, hys⟩
theorem edg_of {B : Nat} {d : D} (h : Sm B tEdg d) : ∃ x : Edg, d = x.d ∧ x.In B := by
 obtain ⟨_, _, rfl, h1, _, _, rfl, h2, rfl⟩ := h
 obtain ⟨a, rfl, ha⟩ := zone_of h1
 obtain ⟨b, rfl, hb⟩ := zone_of h2
 exact ⟨⟨a, b⟩, rfl, ha, hb⟩
theorem prc_of {B : Nat} {d : D} (h : Sm B tPrc d) : ∃ x : Prc, d = x.d ∧ x.In B := by
 obtain ⟨_, _, rfl, ⟨n, rfl, _⟩, _, _, rfl, ⟨b, rfl⟩, _, _, rfl, h1, _, _, rfl, h2, rfl⟩ := h
 obtain ⟨z, rfl, hz⟩ := zone_of h1
 obtain ⟨x, rfl, hx⟩ := dif_of h2
 exact ⟨⟨n, b, z, x⟩, rfl, hz, hx⟩
theorem flt_of {B : Nat} {d : D} (h : Sm B tFlt d) : ∃ f : Flt, d = f.d ∧ f.In B := by
 obtain ⟨_, _, rfl, h1, _, _, rfl, h2, _, _, rfl, ⟨es, rfl, hel, hec⟩, _, _, rfl, ⟨ps, rfl, hpl, hpc⟩, rfl⟩ := h
 obtain ⟨c, rfl, hc⟩ := ctl_of h1
 obtain ⟨j, rfl, hj⟩ := jrn_of h2
 obtain ⟨es', rfl, he⟩ := list_of (g := Edg.d) (Q := fun r => r.In B) (fun x hx => edg_of (hec x hx))
 obtain ⟨ps', rfl, hp⟩ := list_of (g := Prc.d) (Q := fun r => r.In B) (fun x hx => prc_of (hpc x hx))
 exact ⟨⟨c, j, es', ps'⟩, rfl, hc, hj, by simpa using hel, he, by simpa using hpl, hp⟩
theorem recs_inj {a b : List Rec} (h : a.map Rec.d = b.map Rec.d) : a = b := (List.map_inj_right (fun _ _ => Rec.d_inj)).1 h
theorem Zn.d_inj {x y : Zn} (h : x.d = y.d) : x = y := by
 obtain ⟨a, b, c⟩ := x
 obtain ⟨a', b', c'⟩ := y
 simp only [Zn.d, D.pair.injEq, D.str.injEq, D.int.injEq, D.lst.injEq] at h
 obtain ⟨h1, h2, h3, _⟩ := h
 have := recs_inj h3
 subst h1; subst h2; subst this; rfl
theorem Dif.d_inj {x y : Dif} (h : x.d = y.d) : x = y := by
 obtain ⟨a, b, c, e⟩ := x
 obtain ⟨a', b', c', e'⟩ := y
 simp only [Dif.d, D.pair.injEq, D.int.injEq, D.lst.injEq] at h
 obtain ⟨h1, h2, h3, h4, _⟩ := h
 have h3 := recs_inj h3
 have h4 := recs_inj h4
 subst h1; subst h2; subst h3; subst h4; rfl
theorem Edg.d_inj {x y : Edg} (h : x.d = y.d) : x = y := by
 obtain ⟨a, b⟩ := x
 obtain ⟨a', b'⟩ := y
 simp only [Edg.d, D.pair.injEq] at h
 obtain ⟨h1, h2, _⟩ := h
 have h1 := Zn.d_inj h1
 have h2 := Zn.d_inj h2
 subst h1; subst h2; rfl
theorem Prc.d_inj {x y : Prc} (h : x.d = y.d) : x = y := by
 obtain ⟨a, b, c, e⟩ := x
 obtain ⟨a', b', c', e'⟩ := y
 simp only [Prc.d, D.pair.injEq, D.int.injEq, D.bool.injEq] at h
 obtain ⟨h1, h2, h3, h4, _⟩ := h
 have h3 := Zn.d_inj h3
 have h4 := Dif.d_inj h4
 subst h1; subst h2; subst h3; subst h4; rfl
theorem f_eqDiff {x : Dif} (hx : x.In smax) : e_laws_eqDiff.F [x.d, x.d] = some (.bool true) := by
 rw [q_laws_eqDiff, if_neg (by simp), if_neg (by simp)]
 exact rn_call (f_eqRecordS hx.dels.len) (rn_else (by simp) (rn_call (f_eqRecordS hx.adds.len) (rn_else (by simp) rfl)))
theorem f_eqDiffS {xs : List Dif} (hl : xs.length ≤ smax) (hx : ∀ x ∈ xs, x.In smax) : e_laws_eqDiffS.F [.lst (xs.map Dif.d), .lst (xs.map Dif.d)] = some (.bool true) := by
 rw [q_laws_eqDiffS]; exact eqS_gen (c := e_laws_eqDiff.F) hl fun x h => f_eqDiff (hx x h)
theorem f_eqJournal {j : Jrn} (hj : j.In smax) : e_laws_eqJournal.F [j.d, j.d] = some (.bool true) := by
 rw [q_laws_eqJournal, if_neg (by simp), if_neg (by simp)]
 exact rn_call (f_eqDiffS hj.len hj.all) (rn_else (by simp) rfl)
theorem f_eqEdge {x : Edg} (hx : x.In smax) : e_laws_eqEdge.F [x.d, x.d] = some (.bool true) := by
 rw [q_laws_eqEdge]
 exact rn_call (f_eqZone hx.zone.len) (rn_else (by simp) (rn_call (f_eqZone hx.saved.len) (rn_else (by simp) rfl)))
theorem f_eqEdgeS {xs : List Edg} (hl : xs.length ≤ smax) (hx : ∀ x ∈ xs, x.In smax) : e_laws_eqEdgeS.F [.lst (xs.map Edg.d), .lst (xs.map Edg.d)] = some (.bool true) := by
 rw [q_laws_eqEdgeS]; exact eqS_gen (c := e_laws_eqEdge.F) hl fun x h => f_eqEdge (hx x h)
theorem f_eqParcel {x : Prc} (hx : x.In smax) : e_laws_eqParcel.F [x.d, x.d] = some (.bool true) := by
 rw [q_laws_eqParcel, if_neg (by simp), if_neg (by simp)]
 exact rn_call (f_eqZone hx.zone.len) (rn_else (by simp) (rn_call (f_eqDiff hx.diff) (rn_else (by simp) rfl)))
theorem f_eqParcelS {xs : List Prc} (hl : xs.length ≤ smax) (hx : ∀ x ∈ xs, x.In smax) : e_laws_eqParcelS.F [.lst (xs.map Prc.d), .lst (xs.map Prc.d)] = some (.bool true) := by
 rw [q_laws_eqParcelS]; exact eqS_gen (c := e_laws_eqParcel.F) hl fun x h => f_eqParcel (hx x h)
theorem f_eqFleet {f : Flt} (hf : f.In smax) : e_laws_eqFleet.F [f.d, f.d] = some (.bool true) := by
 rw [q_laws_eqFleet]
 exact rn_call (f_eqControl hf.ctl) (rn_else (by simp) (rn_call (f_eqJournal hf.jrn) (rn_else (by simp) (rn_call (f_eqEdgeS hf.elen hf.eall) (rn_else (by simp) (rn_call (f_eqParcelS hf.plen hf.pall) (rn_else (by simp) rfl)))))))
theorem f_toDiff {x : Dif} (hx : x.In lim) : e_laws_toDiff.F [x.d] = some x.d := by
 rw [q_laws_toDiff]
 exact rn_call (f_toRecordS hx.dels.len) (rn_call (f_toRecordS hx.adds.len) rfl)
theorem f_toDiffS {xs : List Dif} (hl : xs.length ≤ lim) (hx : ∀ x ∈ xs, x.In lim) : e_laws_toDiffS.F [.lst (xs.map Dif.d)] = some (.lst (xs.map Dif.d)) := by
 rw [q_laws_toDiffS]; exact toS_gen (c := e_laws_toDiff.F) (by decide) hl fun x h => f_toDiff (hx x h)
theorem f_toJournal {j : Jrn} (hj : j.In lim) : e_laws_toJournal.F [j.d] = some j.d := by
 rw [q_laws_toJournal]
 exact rn_call (f_toDiffS hj.len hj.all) rfl
theorem f_toEdge {x : Edg} (hx : x.In lim) : e_laws_toEdge.F [x.d] = some x.d := by
 rw [q_laws_toEdge]
 exact rn_call (f_toZone hx.zone.len) (rn_call (f_toZone hx.saved.len) rfl)
theorem f_toEdgeS {xs : List Edg} (hl : xs.length ≤ lim) (hx : ∀ x ∈ xs, x.In lim) : e_laws_toEdgeS.F [.lst (xs.map Edg.d)] = some (.lst (xs.map Edg.d)) := by
 rw [q_laws_toEdgeS]; exact toS_gen (c := e_laws_toEdge.F) (by decide) hl fun x h => f_toEdge (hx x h)
theorem f_toParcel {x : Prc} (hx : x.In lim) : e_laws_toParcel.F [x.d] = some x.d := by
 rw [q_laws_toParcel]
 exact rn_call (f_toZone hx.zone.len) (rn_call (f_toDiff hx.diff) rfl)
theorem f_toParcelS {xs : List Prc} (hl : xs.length ≤ lim) (hx : ∀ x ∈ xs, x.In lim) : e_laws_toParcelS.F [.lst (xs.map Prc.d)] = some (.lst (xs.map Prc.d)) := by
 rw [q_laws_toParcelS]; exact toS_gen (c := e_laws_toParcel.F) (by decide) hl fun x h => f_toParcel (hx x h)
theorem f_toFleet {f : Flt} (hf : f.In lim) : e_laws_toFleet.F [f.d] = some f.d := by
 rw [q_laws_toFleet]
 exact rn_call (f_toControl hf.ctl) (rn_call (f_toJournal hf.jrn) (rn_call (f_toEdgeS hf.elen hf.eall) (rn_call (f_toParcelS hf.plen hf.pall) rfl)))
def two (a b : Int) : Int := if a < 0 then -1 else if b < 0 then -1 else b
theorem two_ok {a b s : Int} (ha : a ≤ s) (hb : 0 ≤ a → b ≤ a) (hs : 0 ≤ s) : two a b ≤ s ∧ (0 ≤ two a b → 0 ≤ a ∧ 0 ≤ b) := by
 unfold two
 by_cases h : a < 0
 ·rw [if_pos h]; omega
 ·rw [if_neg h]
  have := hb (by omega)
  by_cases h2 : b < 0
  ·rw [if_pos h2]; omega
  ·rw [if_neg h2]; omega
def szDif (s : Int) (x : D) : Int := two (szL szRec (x.fld 2).l s) (szL szRec (x.fld 3).l (szL szRec (x.fld 2).l s))
theorem f_szDiff {x : Dif} {left : Int} (hx : x.In smax) (h0 : 0 ≤ left) (h1 : left ≤ lim) : e_laws_szDiff.F [x.d, .int left] = some (.int (szDif left x.d)) := by
 rw [q_laws_szDiff]
 have f2 : x.d.fld 2 = .lst (x.dels.map Rec.d) := rfl
 have f3 : x.d.fld 3 = .lst (x.adds.map Rec.d) := rfl
 unfold szDif two
 rw [f2, f3]
 have hs := szRecS_spec (xs := x.dels) h0 h1
 exact rn_call (f_szRecordS hx.dels.len hx.dels.all h0 h1) (rn_two (e := fun a => e_laws_szRecordS.F [.lst (x.adds.map Rec.d), .int a]) (fun h => f_szRecordS hx.adds.len hx.adds.all h (by have := hs.1; show szL szRec (x.dels.map Rec.d) left ≤ lim; omega)) rfl)
theorem szDif_ok : SzOk Dif.d szDif (fun x => x.In lim) := by
 intro x s h0 h1
 have f2 : x.d.fld 2 = .lst (x.dels.map Rec.d) := rfl
 have f3 : x.d.fld 3 = .lst (x.adds.map Rec.d) := rfl
 unfold szDif
 rw [f2, f3]
 simp only [D.l_lst]
 have hs := szRecS_spec (xs := x.dels) h0 h1
 have hb : 0 ≤ szL szRec (x.dels.map Rec.d) s → _ := fun h => szRecS_spec (xs := x.adds) (left := szL szRec (x.dels.map Rec.d) s) h (by have := hs.1; omega)
 have ht := two_ok hs.1 (fun h => (hb h).1) h0
 refine ⟨ht.1, fun h => ?_⟩
 obtain ⟨h2, h3⟩ := ht.2 h
 exact ⟨⟨(hs.2 h2).1, (hs.2 h2).2⟩, ⟨((hb h2).2 h3).1, ((hb h2).2 h3).2⟩⟩
theorem f_szDiffS {xs : List Dif} {left : Int} (hl : xs.length ≤ smax) (hx : ∀ x ∈ xs, x.In smax) (h0 : 0 ≤ left) (h1 : left ≤ lim) : e_laws_szDiffS.F [.lst (xs.map Dif.d), .int left] = some (.int (szL szDif (xs.map Dif.d) left)) := by
 rw [q_laws_szDiffS]; exact szS_gen (e := e_laws_szDiff.F) szDif_ok hl h0 h1 fun x h s a b => f_szDiff (hx x h) a b
theorem f_szJournal {j : Jrn} {left : Int} (hj : j.In smax) (h0 : 0 ≤ left) (h1 : left ≤ lim) : ∃ r, e_laws_szJournal.F [j.d, .int left] = some (.int r) ∧ r ≤ left ∧ (0 ≤ r → j.In lim) := by
 rw [q_laws_szJournal]
 have hw := len_wrapA h0 h1 hj.apex
 have f0 : (j.d.fld 0).s = j.apex := rfl
 have f2 : j.d.fld 2 = .lst (j.diffs.map Dif.d) := rfl
 simp only [f0, f2, D.i_int, hw]
 by_cases h : left - (j.apex.length : Int) < 0
 ·exact ⟨-1, rn_if (decide_eq_true h) rfl, by omega, by omega⟩
 ·have hz := f_szDiffS hj.len hj.all (left := left - (j.apex.length : Int)) (by omega) (by omega)
  have hs := szS_ok (f := Dif.d) (fun _ _ => Dif.d_inj) szDif_ok j.diffs (left := left - (j.apex.length : Int)) (by omega) (by omega)
  by_cases h2 : szL szDif (j.diffs.map Dif.d) (left - (j.apex.length : Int)) < 0
  ·exact ⟨-1, rn_else (fun hc => h (of_decide_eq_true hc)) (rn_call hz (rn_if (decide_eq_true h2) rfl)), by omega, by omega⟩
  ·exact ⟨_, rn_else (fun hc => h (of_decide_eq_true hc)) (rn_call hz (rn_else (fun hc => h2 (of_decide_eq_true hc)) rfl)), by omega, fun hp => ⟨by omega, (hs.2 hp).1, (hs.2 hp).2⟩⟩
def szEdg (s : Int) (x : D) : Int := two (szZn s (x.fld 0)) (szZn (szZn s (x.fld 0)) (x.fld 1))
theorem f_szEdge {x : Edg} {left : Int} (hx : x.In smax) (h0 : 0 ≤ left) (h1 : left ≤ lim) : e_laws_szEdge.F [x.d, .int left] = some (.int (szEdg left x.d)) := by
 rw [q_laws_szEdge]
 have f0 : x.d.fld 0 = x.zone.d := rfl
 have f1 : x.d.fld 1 = x.saved.d := rfl
 unfold szEdg two
 rw [f0, f1]
 have hs := szZn_spec (z := x.zone) left h0 h1
 exact rn_call (f_szZone hx.zone h0 h1) (rn_two (e := fun a => e_laws_szZone.F [x.saved.d, .int a]) (fun h => f_szZone hx.saved h (by have := hs.1; omega)) rfl)
theorem szEdg_ok : SzOk Edg.d szEdg (fun x => x.In lim) := by
 intro x s h0 h1
 have f0 : x.d.fld 0 = x.zone.d := rfl
 have f1 : x.d.fld 1 = x.saved.d := rfl
 unfold szEdg
 rw [f0, f1]
 have hs := szZn_spec (z := x.zone) s h0 h1
 have hb : 0 ≤ szZn s x.zone.d → _ := fun h => szZn_spec (z := x.saved) (szZn s x.zone.d) h (by have := hs.1; omega)
 have ht := two_ok hs.1 (fun h => (hb h).1) h0
 refine ⟨ht.1, fun h => ?_⟩
 obtain ⟨h2, h3⟩ := ht.2 h
 exact ⟨hs.2 h2, (hb h2).2 h3⟩
theorem f_szEdgeS {xs : List Edg} {left : Int} (hl : xs.length ≤ smax) (hx : ∀ x ∈ xs, x.In smax) (h0 : 0 ≤ left) (h1 : left ≤ lim) : e_laws_szEdgeS.F [.lst (xs.map Edg.d), .int left] = some (.int (szL szEdg (xs.map Edg.d) left)) := by
 rw [q_laws_szEdgeS]; exact szS_gen (e := e_laws_szEdge.F) szEdg_ok hl h0 h1 fun x h s a b => f_szEdge (hx x h) a b
def szPrc (s : Int) (x : D) : Int := two (szZn s (x.fld 2)) (szDif (szZn s (x.fld 2)) (x.fld 3))
theorem f_szParcel {x : Prc} {left : Int} (hx : x.In smax) (h0 : 0 ≤ left) (h1 : left ≤ lim) : e_laws_szParcel.F [x.d, .int left] = some (.int (szPrc left x.d)) := by
 rw [q_laws_szParcel]
 have f0 : x.d.fld 2 = x.zone.d := rfl
 have f1 : x.d.fld 3 = x.diff.d := rfl
 unfold szPrc two
 rw [f0, f1]
 have hs := szZn_spec (z := x.zone) left h0 h1
 exact rn_call (f_szZone hx.zone h0 h1) (rn_two (e := fun a => e_laws_szDiff.F [x.diff.d, .int a]) (fun h => f_szDiff hx.diff h (by have := hs.1; omega)) rfl)
theorem szPrc_ok : SzOk Prc.d szPrc (fun x => x.In lim) := by
 intro x s h0 h1
 have f0 : x.d.fld 2 = x.zone.d := rfl
 have f1 : x.d.fld 3 = x.diff.d := rfl
 unfold szPrc
 rw [f0, f1]
 have hs := szZn_spec (z := x.zone) s h0 h1
 have hb : 0 ≤ szZn s x.zone.d → _ := fun h => szDif_ok x.diff (szZn s x.zone.d) h (by have := hs.1; omega)
 have ht := two_ok hs.1 (fun h => (hb h).1) h0
 refine ⟨ht.1, fun h => ?_⟩
 obtain ⟨h2, h3⟩ := ht.2 h
 exact ⟨hs.2 h2, (hb h2).2 h3⟩
theorem f_szParcelS {xs : List Prc} {left : Int} (hl : xs.length ≤ smax) (hx : ∀ x ∈ xs, x.In smax) (h0 : 0 ≤ left) (h1 : left ≤ lim) : e_laws_szParcelS.F [.lst (xs.map Prc.d), .int left] = some (.int (szL szPrc (xs.map Prc.d) left)) := by
 rw [q_laws_szParcelS]; exact szS_gen (e := e_laws_szParcel.F) szPrc_ok hl h0 h1 fun x h s a b => f_szParcel (hx x h) a b
theorem f_szControl2 {c : Ctl} {left : Int} (hc : c.In smax) (h0 : 0 ≤ left) (h1 : left ≤ lim) : ∃ r, e_laws_szControl.F [c.d, .int left] = some (.int r) ∧ r ≤ left ∧ (0 ≤ r → c.In lim) := by
 rw [q_laws_szControl]
 have f0 : c.d.fld 0 = c.zone.d := rfl
 have f1 : c.d.fld 1 = .lst (c.last.map Dn.d) := rfl
 rw [f0, f1]
 have hz := f_szZone (left := left) hc.zone h0 h1
 have hzs := szZn_spec (z := c.zone) left h0 h1
 by_cases hlt : szZn left c.zone.d < 0
 ·exact ⟨-1, rn_call hz (rn_if (decide_eq_true hlt) rfl), by omega, by omega⟩
 ·obtain ⟨r, hr, hle, hrl⟩ := f_szDoneS (left := szZn left c.zone.d) hc.len (by omega) (by omega)
  by_cases hlt2 : r < 0
  ·exact ⟨-1, rn_call hz (rn_else (fun h => hlt (of_decide_eq_true h)) (rn_call hr (rn_if (decide_eq_true hlt2) rfl))), by omega, by omega⟩
  ·exact ⟨r, rn_call hz (rn_else (fun h => hlt (of_decide_eq_true h)) (rn_call hr (rn_else (fun h => hlt2 (of_decide_eq_true h)) rfl))), by omega, fun hp => ⟨hzs.2 (by omega), hrl hp⟩⟩
theorem f_szFleet {f : Flt} {left : Int} (hf : f.In smax) (h0 : 0 ≤ left) (h1 : left ≤ lim) : ∃ r, e_laws_szFleet.F [f.d, .int left] = some (.int r) ∧ (0 ≤ r → f.In lim) := by
 rw [q_laws_szFleet]
 have f0 : f.d.fld 0 = f.ctl.d := rfl
 have f1 : f.d.fld 1 = f.jrn.d := rfl
 have f2 : f.d.fld 2 = .lst (f.edges.map Edg.d) := rfl
 have f3 : f.d.fld 3 = .lst (f.parcels.map Prc.d) := rfl
 rw [f0, f1, f2, f3]
 obtain ⟨a, ha, hal, haQ⟩ := f_szControl2 hf.ctl h0 h1
 by_cases h2 : a < 0
 ·exact ⟨-1, rn_call ha (rn_if (decide_eq_true h2) rfl), by omega⟩
 obtain ⟨b, hb, hbl, hbQ⟩ := f_szJournal (left := a) hf.jrn (by omega) (by omega)
 by_cases h3 : b < 0
 ·exact ⟨-1, rn_call ha (rn_else (fun h => h2 (of_decide_eq_true h)) (rn_call hb (rn_if (decide_eq_true h3) rfl))), by omega⟩
 have hc := f_szEdgeS (left := b) hf.elen hf.eall (by omega) (by omega)
 have hcs := szS_ok (f := Edg.d) (fun _ _ => Edg.d_inj) szEdg_ok f.edges (left := b) (by omega) (by omega)
 by_cases h4 : szL szEdg (f.edges.map Edg.d) b < 0
 ·exact ⟨-1, rn_call ha (rn_else (fun h => h2 (of_decide_eq_true h)) (rn_call hb (rn_else (fun h => h3 (of_decide_eq_true h)) (rn_call hc (rn_if (decide_eq_true h4) rfl))))), by omega⟩
 have hd := f_szParcelS (left := szL szEdg (f.edges.map Edg.d) b) hf.plen hf.pall (by omega) (by omega)
 have hds := szS_ok (f := Prc.d) (fun _ _ => Prc.d_inj) szPrc_ok f.parcels (left := szL szEdg (f.edges.map Edg.d) b) (by omega) (by omega)
 by_cases h5 : szL szPrc (f.parcels.map Prc.d) (szL szEdg (f.edges.map Edg.d) b) < 0
 ·exact ⟨-1, rn_call ha (rn_else (fun h => h2 (of_decide_eq_true h)) (rn_call hb (rn_else (fun h => h3 (of_decide_eq_true h)) (rn_call hc (rn_else (fun h => h4 (of_decide_eq_true h)) (rn_call hd (rn_if (decide_eq_true h5) rfl))))))), by omega⟩
 ·exact ⟨_, rn_call ha (rn_else (fun h => h2 (of_decide_eq_true h)) (rn_call hb (rn_else (fun h => h3 (of_decide_eq_true h)) (rn_call hc (rn_else (fun h => h4 (of_decide_eq_true h)) (rn_call hd (rn_else (fun h => h5 (of_decide_eq_true h)) rfl))))))), fun hp =>
   ⟨haQ (by omega), hbQ (by omega), (hcs.2 (by omega)).1, (hcs.2 (by omega)).2, (hds.2 hp).1, (hds.2 hp).2⟩⟩
end Go.Proofs.YtjanpfgbppcphaaGreatDoor
