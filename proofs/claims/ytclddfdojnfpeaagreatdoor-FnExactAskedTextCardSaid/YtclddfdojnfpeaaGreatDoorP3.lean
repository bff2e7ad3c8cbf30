/- What the functions compute, in plain words. -/
import Derived.Test.YtclddfdojnfpeaaGreatDoorP2
import Derived.Lib.LaidTab
set_option linter.unusedSectionVars false
set_option linter.unusedVariables false
set_option linter.unusedSimpArgs false
/-! What is asked: its text; the law. -/
namespace Go.Proofs.YtclddfdojnfpeaaGreatDoor
open Go Go.Own

structure Chg where
  kind : Int
  rc : Rec
structure Ask where
  client : Int
  no : Int
  cs : List Chg
def Chg.d (c : Chg) : D := .pair (.int c.kind) (.pair c.rc.d .unit)
def Ask.d (a : Ask) : D := .pair (.int a.client) (.pair (.int a.no) (.pair (.lst (a.cs.map Chg.d)) .unit))
structure Ask.In (B : Nat) (a : Ask) : Prop where
  len : a.cs.length ≤ B
  all : ∀ c ∈ a.cs, c.rc.In B
def Chg.ok (c : Chg) : Bool := inP c.kind 1 4 && (c.rc.ok && !(c.rc.type == 6))
def Chg.nul : Chg := ⟨0, ⟨[], 0, 0, []⟩⟩
def Ask.who (a : Ask) : Bool := inP a.client 0 100 && inP a.no 1 1000
def Ask.ok (a : Ask) : Bool := a.who && (a.cs.all Chg.ok && decide (a.cs.length ≤ 12))

theorem gd_cs {xs : List Chg} {i : Nat} (hi : i < xs.length) : gd (xs.map Chg.d) i = xs[i].d := by
  rw [gd_lt (by simpa using hi)]; simp

theorem f_isClient (a b : Int) : e_impl_isClient.F [.int a, .int b] = some (.bool (inP a 0 100 && inP b 1 1000)) := by
  rw [q_impl_isClient]
  have h1 := f_withinP a 0 100
  have h2 := f_withinP b 1 1000
  refine rn_bind0 (l := [.bool (inP a 0 100 && inP b 1 1000)]) ?_ rfl
  cases h : inP a 0 100 with
  | false => rw [h] at h1; exact out_call h1 (out_else (by simp) rfl)
  | true => rw [h] at h1; exact out_call h1 (out_if rfl (out_call h2 rfl))
theorem f_l16Who (a b : Int) : e_spec_l16Who.F [.int a, .int b] = some (.bool (inP a 0 100 && inP b 1 1000)) := by
  rw [q_spec_l16Who]
  have h1 := f_l1InP a 0 100
  have h2 := f_l1InP b 1 1000
  refine rn_bind0 (l := [.bool (inP a 0 100 && inP b 1 1000)]) ?_ rfl
  cases h : inP a 0 100 with
  | false => rw [h] at h1; exact out_call h1 (out_else (by simp) rfl)
  | true => rw [h] at h1; exact out_call h1 (out_if rfl (out_call h2 rfl))

theorem f_areChanges1 {c : Chg} (hc : c.rc.In lim) : e_impl_areChanges_1.F [c.d] = some (.bool !c.ok) := by
  rw [q_impl_areChanges_1]
  have f0 : c.d.fld 0 = .int c.kind := rfl
  have f1 : c.d.fld 1 = c.rc.d := rfl
  have f2 : (c.rc.d.fld 1).i = c.rc.type := rfl
  rw [f0, f1, f2]
  have h1 := f_withinP c.kind 1 4
  have h2 := f_goodRec hc
  refine rn_bind0 (l := [.bool !c.ok]) ?_ rfl
  unfold Chg.ok
  cases k1 : inP c.kind 1 4 with
  | false => rw [k1] at h1; exact out_call h1 (out_if rfl rfl)
  | true =>
    rw [k1] at h1
    cases k2 : c.rc.ok with
    | false => rw [k2] at h2; exact out_call h1 (out_else (by simp) (out_call h2 (out_if rfl rfl)))
    | true => rw [k2] at h2; exact out_call h1 (out_else (by simp) (out_call h2 (out_else (by simp) (by simp))))
theorem f_containsC {xs : List Chg} (u : D) (hl : xs.length ≤ smax) (hx : ∀ c ∈ xs, c.rc.In lim) : e_slices_ContainsFunc_impl_Change_impl_Change__impl_areChanges_1.F [.lst (xs.map Chg.d), u] = some (.bool !(xs.all Chg.ok)) := by
  rw [q_slices_ContainsFunc_impl_Change_impl_Change__impl_areChanges_1]
  have key : ∃ r, e_slices_IndexFunc_impl_Change_impl_Change__impl_areChanges_1.F [.lst (xs.map Chg.d), u] = some r ∧ ∃ n : Int, r = .int n ∧ decide (n ≥ 0) = !(xs.all Chg.ok) := by
    rw [q_slices_IndexFunc_impl_Change_impl_Change__impl_areChanges_1]
    have hp : ∀ i (hi : i < xs.length), e_impl_areChanges_1.F [xs[i].d] = some (.bool !xs[i].ok) := fun i hi => f_areChanges1 (hx _ (List.getElem_mem hi))
    refine find_ex (fun i => [.int i]) xs.length (fun i => (xs.getD i Chg.nul).ok) (t1 := 0) (t2 := 1) (o1 := fun i => [.int i]) (o2 := []) rfl ?_ ?_ ?_ ?_ ?_
    · intro i hi h
      rw [getD_lt hi] at h
      have := hp i hi
      rw [h] at this
      simp [hi, inb_nat hi, wrap_succ hi hl, gd_cs hi, this]
    · intro i hi h
      rw [getD_lt hi] at h
      have := hp i hi
      rw [h] at this
      simp [hi, inb_nat hi, gd_cs hi, this]
    · simp
    · intro hall
      refine ⟨_, rfl, -1, rfl, ?_⟩
      have : xs.all Chg.ok = true := by
        rw [← all_allN xs Chg.ok Chg.nul, allN_true]; exact hall
      rw [this]; rfl
    · intro j hj hp' _
      refine ⟨_, rfl, j, rfl, ?_⟩
      have : xs.all Chg.ok = false := by
        rw [← all_allN xs Chg.ok Chg.nul]; exact allN_false hj hp'
      rw [this]; simp
  obtain ⟨r, h1, n, rfl, h2⟩ := key
  refine rn_call h1 ?_
  rw [← h2]; rfl
theorem f_areChanges {xs : List Chg} (hl : xs.length ≤ lim) (hx : ∀ c ∈ xs, c.rc.In lim) : e_impl_areChanges.F [.lst (xs.map Chg.d)] = some (.bool (xs.all Chg.ok && decide (xs.length ≤ 12))) := by
  rw [q_impl_areChanges]
  have hlen : (D.lst (xs.map Chg.d)).l.length = xs.length := by simp
  have hc := f_containsC .unit (Nat.le_trans hl lim_smax) hx
  rw [hlen]
  refine rn_bind0 (l := [.bool (xs.all Chg.ok && decide (xs.length ≤ 12))]) ?_ rfl
  by_cases h12 : xs.length ≤ 12
  · exact out_if (decide_eq_true (show (xs.length : Int) ≤ 12 by omega)) (out_call hc (by simp [h12]))
  · exact out_else (fun h => by have h' : (xs.length : Int) ≤ 12 := of_decide_eq_true h; omega) (by simp [h12])
theorem f_l6Batch {xs : List Chg} (hl : xs.length ≤ lim) (hx : ∀ c ∈ xs, c.rc.In lim) : e_spec_l6Batch.F [.lst (xs.map Chg.d)] = some (.bool (xs.all Chg.ok && decide (xs.length ≤ 12))) := by
  rw [q_spec_l6Batch]
  have hsm := Nat.le_trans hl lim_smax
  have hlen : (D.lst (xs.map Chg.d)).l.length = xs.length := by simp
  rw [hlen]
  refine rn_bind (loop_all' (fun i => [.int i]) xs.length (fun i => (xs.getD i Chg.nul).ok) (t1 := 0) (t2 := 1) (o1 := []) (o2 := []) rfl ?_ ?_) ?_
  · intro i hi
    rw [getD_lt hi]
    have hg : gd (D.lst (xs.map Chg.d)).l i = xs[i].d := gd_cs hi
    have h1 := f_l1InP xs[i].kind 1 4
    have h2 := f_goodRecS (hx _ (List.getElem_mem hi))
    refine out_if (by simpa using hi) (out_if (by simpa using inb_nat hi) ?_)
    have e0 : (gd [D.int (i : Int)] 0).i.toNat = i := by simp
    have e1 : (gd [D.int (i : Int)] 0).i = i := rfl
    have g0 : xs[i].d.fld 0 = .int xs[i].kind := rfl
    have g1 : xs[i].d.fld 1 = xs[i].rc.d := rfl
    have g2 : (xs[i].rc.d.fld 1).i = xs[i].rc.type := rfl
    rw [e0, e1, hg, g0, g1, g2, wrap_succ hi hsm]
    refine out_bind (r := (0, [.bool !xs[i].ok])) ?_ ?_
    · unfold Chg.ok
      cases k1 : inP xs[i].kind 1 4 with
      | false => rw [k1] at h1; exact out_call h1 (out_if rfl rfl)
      | true =>
        rw [k1] at h1
        cases k2 : xs[i].rc.ok with
        | false => rw [k2] at h2; exact out_call h1 (out_else (by simp) (out_call h2 (out_if rfl rfl)))
        | true => rw [k2] at h2; exact out_call h1 (out_else (by simp) (out_call h2 (out_else (by simp) (by simp))))
    · cases xs[i].ok <;> simp
  · simp
  · rw [all_allN xs Chg.ok Chg.nul]
    cases xs.all Chg.ok with
    | false => simp
    | true =>
      have : decide ((xs.length : Int) ≤ 12) = decide (xs.length ≤ 12) := by rw [Bool.eq_iff_iff]; simp; omega
      simp [this]

def Chg.text (c : Chg) : List UInt8 := (([10] ++ Lib.itoa c.kind) ++ [32]) ++ c.rc.text
def Ask.textAt (a : Ask) : Nat → List UInt8
  | 0 => (Lib.itoa a.client ++ [32]) ++ Lib.itoa a.no
  | i + 1 => a.textAt i ++ (a.cs.getD i Chg.nul).text
structure Chg.Sizes (c : Chg) : Prop where
  k0 : 0 ≤ c.kind
  k1 : c.kind < 10 ^ 18
  r : c.rc.Sizes
theorem Chg.sizes {c : Chg} (h : c.ok = true) : c.Sizes := by
  have hp18 : (10 : Int) ^ 18 = 1000000000000000000 := by decide
  unfold Chg.ok at h
  simp only [Bool.and_eq_true, inP, decide_eq_true_eq] at h
  exact ⟨by omega, by omega, Rec.sizes h.2.1⟩
theorem Chg.text_len {c : Chg} (h : c.Sizes) : c.text.length ≤ 300 := by
  have h1 := itoa_len h.k0 h.k1
  have h2 := Rec.text_len h.r
  simp only [Chg.text, List.length_append, List.length_singleton]
  omega
theorem Ask.text_len {a : Ask} (hc0 : 0 ≤ a.client ∧ a.client < 10 ^ 18) (hn0 : 0 ≤ a.no ∧ a.no < 10 ^ 18) (hx : ∀ c ∈ a.cs, c.Sizes) : ∀ i, i ≤ a.cs.length → (a.textAt i).length ≤ 40 + 300 * i
  | 0, _ => by
    have h1 := itoa_len hc0.1 hc0.2
    have h2 := itoa_len hn0.1 hn0.2
    simp only [Ask.textAt, List.length_append, List.length_singleton]; omega
  | i + 1, hi => by
    have ih := Ask.text_len hc0 hn0 hx i (by omega)
    have h1 := Chg.text_len (hx _ (List.getElem_mem (show i < a.cs.length by omega)))
    rw [Ask.textAt, getD_lt (by omega), List.length_append]; omega

theorem f_askedText {a : Ask} (hok : a.ok = true) : e_impl_askedText.F [a.d] = some (.str (a.textAt a.cs.length)) := by
  have hp18 : (10 : Int) ^ 18 = 1000000000000000000 := by decide
  unfold Ask.ok Ask.who at hok
  simp only [Bool.and_eq_true, inP, decide_eq_true_eq, List.all_eq_true] at hok
  obtain ⟨⟨hc0, hn0⟩, hall, h12⟩ := hok
  have hx : ∀ c ∈ a.cs, c.Sizes := fun c hc => Chg.sizes (hall c hc)
  have hc0' : 0 ≤ a.client ∧ a.client < 10 ^ 18 := ⟨hc0.1, by omega⟩
  have hn0' : 0 ≤ a.no ∧ a.no < 10 ^ 18 := ⟨by omega, by omega⟩
  have hsm : a.cs.length ≤ smax := by rw [smax_eq]; omega
  rw [q_impl_askedText]
  have f0 : a.d.fld 0 = .int a.client := rfl
  have f1 : a.d.fld 1 = .int a.no := rfl
  have hlen : (a.d.fld 2).l.length = a.cs.length := by simp [Ask.d]
  have hd2 : (a.d.fld 2).l = a.cs.map Chg.d := rfl
  rw [f0, f1, hlen]
  have h1 := itoa_len hc0'.1 hc0'.2
  have h2 := itoa_len hn0'.1 hn0'.2
  refine rn_call (f_itoa hc0'.1 hc0'.2) (rn_if (cat_s ?_) (rn_call (f_itoa hn0'.1 hn0'.2) (rn_if (cat_s ?_) (rn_bind (loop_for' (fun i (s : List UInt8) => [.str s, .int i]) a.cs.length a.textAt (t := 0) (o := [.str (a.textAt a.cs.length)]) rfl ?_ ?_) rfl))))
  · simp only [D.s_str, List.length_singleton]; omega
  · simp only [D.s_str, List.length_append, List.length_singleton]; omega
  · intro i hi
    have hg : gd (a.cs.map Chg.d) i = a.cs[i].d := gd_cs hi
    have hsz := hx _ (List.getElem_mem hi)
    have hl1 := Ask.text_len hc0' hn0' hx i (Nat.le_of_lt hi)
    have hl2 := Chg.text_len hsz
    have hl3 := Rec.text_len hsz.r
    have hl4 := itoa_len hsz.k0 hsz.k1
    refine out_if (by simpa using hi) (out_if (by simpa using inb_nat hi) ?_)
    have e0 : (gd [D.str (a.textAt i), D.int (i : Int)] 1).i.toNat = i := by simp
    have e1 : (gd [D.str (a.textAt i), D.int (i : Int)] 1).i = i := rfl
    have e2 : (gd [D.str (a.textAt i), D.int (i : Int)] 0).s = a.textAt i := rfl
    have g0 : a.cs[i].d.fld 0 = .int a.cs[i].kind := rfl
    have g1 : a.cs[i].d.fld 1 = a.cs[i].rc.d := rfl
    rw [e0, e1, e2, hd2, hg, g0, g1, wrap_succ hi hsm]
    refine out_call (f_itoa hsz.k0 hsz.k1) (out_if (cat_s ?_) (out_if (cat_s ?_) (out_call (f_recordText hsz.r) (out_if (cat_s ?_) (out_if (cat_s ?_) ?_)))))
    · simp only [D.s_str, List.length_singleton]; omega
    · simp only [D.s_str, List.length_append, List.length_singleton]; omega
    · simp only [D.s_str, List.length_append, List.length_singleton]; omega
    · simp only [D.s_str, List.length_append, List.length_singleton]; omega
    · rw [Ask.textAt, getD_lt hi]; rfl
  · exact out_else (by simp) rfl
theorem f_l16Text {a : Ask} (hok : a.ok = true) : e_spec_l16Text.F [a.d] = some (.str (a.textAt a.cs.length)) := by
  have hp18 : (10 : Int) ^ 18 = 1000000000000000000 := by decide
  unfold Ask.ok Ask.who at hok
  simp only [Bool.and_eq_true, inP, decide_eq_true_eq, List.all_eq_true] at hok
  obtain ⟨⟨hc0, hn0⟩, hall, h12⟩ := hok
  have hx : ∀ c ∈ a.cs, c.Sizes := fun c hc => Chg.sizes (hall c hc)
  have hc0' : 0 ≤ a.client ∧ a.client < 10 ^ 18 := ⟨hc0.1, by omega⟩
  have hn0' : 0 ≤ a.no ∧ a.no < 10 ^ 18 := ⟨by omega, by omega⟩
  have hsm : a.cs.length ≤ smax := by rw [smax_eq]; omega
  rw [q_spec_l16Text]
  have f0 : a.d.fld 0 = .int a.client := rfl
  have f1 : a.d.fld 1 = .int a.no := rfl
  have hlen : (a.d.fld 2).l.length = a.cs.length := by simp [Ask.d]
  have hd2 : (a.d.fld 2).l = a.cs.map Chg.d := rfl
  rw [f0, f1, hlen]
  have h1 := itoa_len hc0'.1 hc0'.2
  have h2 := itoa_len hn0'.1 hn0'.2
  refine rn_call (f_num hc0'.1 hc0'.2) (rn_if (cat_s ?_) (rn_call (f_num hn0'.1 hn0'.2) (rn_if (cat_s ?_) (rn_bind (loop_for' (fun i (s : List UInt8) => [.str s, .int i]) a.cs.length a.textAt (t := 0) (o := [.str (a.textAt a.cs.length)]) rfl ?_ ?_) rfl))))
  · simp only [D.s_str, List.length_singleton]; omega
  · simp only [D.s_str, List.length_append, List.length_singleton]; omega
  · intro i hi
    have hg : gd (a.cs.map Chg.d) i = a.cs[i].d := gd_cs hi
    have hsz := hx _ (List.getElem_mem hi)
    have hl1 := Ask.text_len hc0' hn0' hx i (Nat.le_of_lt hi)
    have hl2 := Chg.text_len hsz
    have hl3 := Rec.text_len hsz.r
    have hl4 := itoa_len hsz.k0 hsz.k1
    refine out_if (by simpa using hi) (out_if (by simpa using inb_nat hi) ?_)
    have e0 : (gd [D.str (a.textAt i), D.int (i : Int)] 1).i.toNat = i := by simp
    have e1 : (gd [D.str (a.textAt i), D.int (i : Int)] 1).i = i := rfl
    have e2 : (gd [D.str (a.textAt i), D.int (i : Int)] 0).s = a.textAt i := rfl
    have g0 : a.cs[i].d.fld 0 = .int a.cs[i].kind := rfl
    have g1 : a.cs[i].d.fld 1 = a.cs[i].rc.d := rfl
    rw [e0, e1, e2, hd2, hg, g0, g1, wrap_succ hi hsm]
    refine out_call (f_num hsz.k0 hsz.k1) (out_if (cat_s ?_) (out_if (cat_s ?_) (out_call (f_l3Text hsz.r) (out_if (cat_s ?_) (out_if (cat_s ?_) ?_)))))
    · simp only [D.s_str, List.length_singleton]; omega
    · simp only [D.s_str, List.length_append, List.length_singleton]; omega
    · simp only [D.s_str, List.length_append, List.length_singleton]; omega
    · simp only [D.s_str, List.length_append, List.length_singleton]; omega
    · rw [Ask.textAt, getD_lt hi]; rfl
  · exact out_else (by simp) rfl

def asked (a : Ask) : D := if a.ok = true then .pair (.str (a.textAt a.cs.length)) (.pair (.bool true) .unit) else .pair (.str []) (.pair (.bool false) .unit)
theorem f_implAsked {a : Ask} (ha : a.In lim) : e_impl_AskedText.F [a.d] = some (asked a) := by
  rw [q_impl_AskedText]
  have f0 : a.d.fld 0 = .int a.client := rfl
  have f1 : a.d.fld 1 = .int a.no := rfl
  have f2 : a.d.fld 2 = .lst (a.cs.map Chg.d) := rfl
  rw [f0, f1, f2]
  have h1 := f_isClient a.client a.no
  have h2 := f_areChanges ha.len ha.all
  refine rn_bind0 (l := [.bool !a.ok]) ?_ ?_
  · unfold Ask.ok Ask.who
    cases k1 : (inP a.client 0 100 && inP a.no 1 1000) with
    | false => rw [k1] at h1; exact out_call h1 (out_if rfl rfl)
    | true => rw [k1] at h1; exact out_call h1 (out_else (by simp) (out_call h2 (by simp)))
  · unfold asked
    cases hok : a.ok with
    | false => exact rn_if rfl rfl
    | true => exact rn_else (by simp) (rn_call (f_askedText hok) rfl)
theorem f_specAsked {a : Ask} (ha : a.In lim) : e_spec_AskedText.F [a.d] = some (asked a) := by
  rw [q_spec_AskedText]
  have f0 : a.d.fld 0 = .int a.client := rfl
  have f1 : a.d.fld 1 = .int a.no := rfl
  have f2 : a.d.fld 2 = .lst (a.cs.map Chg.d) := rfl
  rw [f0, f1, f2]
  have h1 := f_l16Who a.client a.no
  have h2 := f_l6Batch ha.len ha.all
  refine rn_bind0 (l := [.bool !a.ok]) ?_ ?_
  · unfold Ask.ok Ask.who
    cases k1 : (inP a.client 0 100 && inP a.no 1 1000) with
    | false => rw [k1] at h1; exact out_call h1 (out_if rfl rfl)
    | true => rw [k1] at h1; exact out_call h1 (out_else (by simp) (out_call h2 (by simp)))
  · unfold asked
    cases hok : a.ok with
    | false => exact rn_if rfl rfl
    | true => exact rn_else (by simp) (rn_call (f_l16Text hok) rfl)
end Go.Proofs.YtclddfdojnfpeaaGreatDoor

/-! The law of asked texts. -/
namespace Go.Proofs.YtclddfdojnfpeaaGreatDoor
open Go Go.Own

abbrev tRec : T := .pair .str (.pair (.int .i64) (.pair (.int .i64) (.pair .str .unit)))
abbrev tChg : T := .pair (.int .i64) (.pair tRec .unit)
abbrev tAsk : T := .pair (.int .i64) (.pair (.int .i64) (.pair (.lst false tChg) .unit))
theorem rec_of {B : Nat} {d : D} (h : Sm B tRec d) : ∃ x : Rec, d = x.d ∧ x.In B := by
  obtain ⟨_, _, rfl, ⟨s, rfl, hs⟩, _, _, rfl, ⟨n, rfl, _⟩, _, _, rfl, ⟨m, rfl, _⟩, _, _, rfl, ⟨t, rfl, ht⟩, rfl⟩ := h
  exact ⟨⟨s, n, m, t⟩, rfl, hs, ht⟩
theorem chg_of {B : Nat} {d : D} (h : Sm B tChg d) : ∃ x : Chg, d = x.d ∧ x.rc.In B := by
  obtain ⟨_, _, rfl, ⟨n, rfl, _⟩, _, _, rfl, hr, rfl⟩ := h
  obtain ⟨r, rfl, hr2⟩ := rec_of hr
  exact ⟨⟨n, r⟩, rfl, hr2⟩
theorem chgs_of {B : Nat} : ∀ {xs : List D}, (∀ x ∈ xs, ∃ y : Chg, x = y.d ∧ y.rc.In B) → ∃ ys : List Chg, xs = ys.map Chg.d ∧ ∀ y ∈ ys, y.rc.In B
  | [], _ => ⟨[], rfl, by simp⟩
  | x :: xs, h => by
    obtain ⟨y, rfl, hy⟩ := h x (by simp)
    obtain ⟨ys, rfl, hys⟩ := chgs_of (xs := xs) (fun z hz => h z (by simp [hz]))
    exact ⟨y :: ys, rfl, by simpa using ⟨hy, hys⟩⟩
theorem ask_of {B : Nat} {d : D} (h : Sm B tAsk d) : ∃ x : Ask, d = x.d ∧ x.In B := by
  obtain ⟨_, _, rfl, ⟨n, rfl, _⟩, _, _, rfl, ⟨m, rfl, _⟩, _, _, rfl, ⟨xs, rfl, hl, hc⟩, rfl⟩ := h
  obtain ⟨ys, rfl, hys⟩ := chgs_of (fun x hx => chg_of (hc x hx))
  exact ⟨⟨n, m, ys⟩, rfl, by simpa using hl, hys⟩

theorem f_eqRecord (x : Rec) : e_laws_eqRecord.F [x.d, x.d] = some (.bool true) := by
  rw [q_laws_eqRecord]; simp [Rec.d]
theorem f_eqChange (x : Chg) : e_laws_eqChange.F [x.d, x.d] = some (.bool true) := by
  rw [q_laws_eqChange, if_neg (by simp)]
  exact rn_call (f_eqRecord x.rc) rfl
theorem f_eqChangeS {xs : List Chg} (hl : xs.length ≤ smax) : e_laws_eqChangeS.F [.lst (xs.map Chg.d), .lst (xs.map Chg.d)] = some (.bool true) := by
  rw [q_laws_eqChangeS, if_neg (by simp)]
  refine rn_bind (loop_for' (fun i (_ : Unit) => [.int i]) xs.length (fun _ => ()) (t := 1) (o := []) rfl ?_ ?_) rfl
  · intro i hi
    simp [hi, gd_cs hi, inb_nat hi, wrap_succ hi hl, f_eqChange]
  · simp
theorem f_eqAsked {a : Ask} (hl : a.cs.length ≤ smax) : e_laws_eqAsked.F [a.d, a.d] = some (.bool true) := by
  rw [q_laws_eqAsked, if_neg (by simp), if_neg (by simp)]
  exact rn_call (f_eqChangeS hl) rfl
theorem f_toChange (x : Chg) : e_laws_toChange.F [x.d] = some x.d := by
  have h : e_laws_toRecord.F [x.rc.d] = some x.rc.d := by rw [q_laws_toRecord]; rfl
  rw [q_laws_toChange]
  exact rn_call h rfl
def chgZ : D := .pair (.int 0) (.pair (.pair (.str []) (.pair (.int 0) (.pair (.int 0) (.pair (.str []) .unit)))) .unit)
theorem f_toChangeS {xs : List Chg} (hl : xs.length ≤ lim) : e_laws_toChangeS.F [.lst (xs.map Chg.d)] = some (.lst (xs.map Chg.d)) := by
  have hlen : (D.lst (xs.map Chg.d)).l.length = xs.length := by simp
  rw [q_laws_toChangeS, hlen]; refine rn_if (makeOk_nat hl (by decide)) ?_
  refine rn_bind (loop_for' (fun i (zs : List D) => [.lst zs, .int i]) xs.length (filled (xs.map Chg.d) chgZ) (t := 0) (o := [.lst (xs.map Chg.d)]) (by simp [filled_zero, chgZ]) ?_ ?_) rfl
  · intro i hi
    have hm : i < (xs.map Chg.d).length := by simpa using hi
    have hf := filled_set (z := chgZ) hm
    have ht := f_toChange xs[i]
    rw [List.getElem_map] at hf
    simp [hi, gd_cs hi, inb_nat hi, wrap_succ hi (Nat.le_trans hl lim_smax), filled_length (Nat.le_of_lt hm), hf, ht]
  · have := filled_all (xs := xs.map Chg.d) (z := chgZ)
    rw [List.length_map] at this
    simp [this]
theorem f_toAsked {a : Ask} (hl : a.cs.length ≤ lim) : e_laws_toAsked.F [a.d] = some a.d := by
  rw [q_laws_toAsked]
  exact rn_call (f_toChangeS hl) rfl

theorem len_wrapA {left : Int} {n : Nat} (h0 : 0 ≤ left) (h1 : left ≤ lim) (hn : n ≤ smax) : IntKind.wrap .i64 (left - (n : Int)) = left - n := by
  have hlim : (lim : Int) = 1048576 := rfl
  have hsm : (smax : Int) = 9223372036854775807 := rfl
  exact wrap_id (by omega) (by omega)
def szRec (s : Int) (x : D) : Int := if s - (x.fld 0).s.length < 0 then -1 else if s - (x.fld 0).s.length - (x.fld 3).s.length < 0 then -1 else s - (x.fld 0).s.length - (x.fld 3).s.length
theorem f_szRecord {x : Rec} {left : Int} (hx : x.In smax) (h0 : 0 ≤ left) (h1 : left ≤ lim) : e_laws_szRecord.F [x.d, .int left] = some (.int (szRec left x.d)) := by
  rw [q_laws_szRecord]
  have hw := len_wrapA h0 h1 hx.name
  have hd : (x.d.fld 0).s = x.name := rfl
  have hd1 : (x.d.fld 3).s = x.data := rfl
  simp only [hd, hd1, D.i_int, hw, szRec]
  by_cases h : left - (x.name.length : Int) < 0
  · rw [if_pos h]; exact rn_if (decide_eq_true h) rfl
  · rw [if_neg h]
    have hw2 := len_wrapA (left := left - x.name.length) (by omega) (by omega) hx.data
    rw [hw2]
    refine rn_else (fun hc => h (of_decide_eq_true hc)) ?_
    by_cases h2 : left - (x.name.length : Int) - (x.data.length : Int) < 0
    · rw [if_pos h2]; exact rn_if (decide_eq_true h2) rfl
    · rw [if_neg h2]; exact rn_else (fun hc => h2 (of_decide_eq_true hc)) rfl
theorem szRec_spec {x : Rec} (s : Int) (h0 : 0 ≤ s) (h1 : s ≤ lim) : szRec s x.d ≤ s ∧ (0 ≤ szRec s x.d → x.In lim) := by
  have hd : (x.d.fld 0).s = x.name := rfl
  have hd1 : (x.d.fld 3).s = x.data := rfl
  simp only [szRec, hd, hd1]
  by_cases h : s - (x.name.length : Int) < 0
  · rw [if_pos h]; omega
  · rw [if_neg h]
    by_cases h2 : s - (x.name.length : Int) - (x.data.length : Int) < 0
    · rw [if_pos h2]; omega
    · rw [if_neg h2]; exact ⟨by omega, fun _ => ⟨by omega, by omega⟩⟩
def szChg (s : Int) (x : D) : Int := if szRec s (x.fld 1) < 0 then -1 else szRec s (x.fld 1)
theorem f_szChange {x : Chg} {left : Int} (hx : x.rc.In smax) (h0 : 0 ≤ left) (h1 : left ≤ lim) : e_laws_szChange.F [x.d, .int left] = some (.int (szChg left x.d)) := by
  rw [q_laws_szChange]
  have hd : x.d.fld 1 = x.rc.d := rfl
  unfold szChg
  rw [hd]
  refine rn_call (f_szRecord hx h0 h1) ?_
  by_cases h : szRec left x.rc.d < 0
  · rw [if_pos h]; exact rn_if (decide_eq_true h) rfl
  · rw [if_neg h]; exact rn_else (fun hc => h (of_decide_eq_true hc)) rfl
theorem szChg_spec {x : Chg} (s : Int) (h0 : 0 ≤ s) (h1 : s ≤ lim) : szChg s x.d ≤ s ∧ (0 ≤ szChg s x.d → x.rc.In lim) := by
  have hd : x.d.fld 1 = x.rc.d := rfl
  unfold szChg
  rw [hd]
  have := szRec_spec (x := x.rc) s h0 h1
  by_cases h : szRec s x.rc.d < 0
  · rw [if_pos h]; omega
  · rw [if_neg h]; exact this
theorem Chg.d_inj {x y : Chg} (h : x.d = y.d) : x = y := by
  obtain ⟨k, ⟨a, b, c, d⟩⟩ := x
  obtain ⟨k', ⟨a', b', c', d'⟩⟩ := y
  simp only [Chg.d, Rec.d, D.pair.injEq, D.str.injEq, D.int.injEq] at h
  obtain ⟨h1, ⟨h2, h3, h4, h5, _⟩, _⟩ := h
  subst h1; subst h2; subst h3; subst h4; subst h5; rfl
theorem f_szChangeS {xs : List Chg} {left : Int} (hl : xs.length ≤ smax) (hx : ∀ x ∈ xs, x.rc.In smax) (h0 : 0 ≤ left) (h1 : left ≤ lim) : e_laws_szChangeS.F [.lst (xs.map Chg.d), .int left] = some (.int (szL szChg (xs.map Chg.d) left)) := by
  have hw := len_wrapA h0 h1 hl
  have hlen : (D.lst (xs.map Chg.d)).l.length = (xs.map Chg.d).length := rfl
  have hlen' : (xs.map Chg.d).length = xs.length := by simp
  rw [q_laws_szChangeS, hlen]
  have hw' : IntKind.wrap .i64 (left - ((xs.map Chg.d).length : Int)) = left - (xs.map Chg.d).length := by rw [hlen']; exact hw
  by_cases hlt : left - ((xs.map Chg.d).length : Int) < 0
  · refine rn_if (by rw [D.i_int, hw']; exact decide_eq_true hlt) ?_
    unfold szL
    rw [if_pos hlt]; rfl
  · refine rn_else (by rw [D.i_int, hw']; exact fun hc => hlt (of_decide_eq_true hc)) ?_
    simp only [D.l_lst, D.i_int, hw']
    refine rn_bind (szL_loop (c := szChg) hlt h1 ?_ ?_ ?_) ?_
    · intro x hx' s h1 h2
      obtain ⟨y, hy, rfl⟩ := List.mem_map.1 hx'
      exact (szChg_spec s h1 h2).1
    · intro i s hi h1 h2
      have hi' : i < xs.length := by simpa using hi
      have hg : (xs.map Chg.d)[i] = xs[i].d := by simp
      have hz := f_szChange (hx _ (List.getElem_mem hi')) h1 h2
      rw [hg]
      constructor <;> intro hc <;> simp [hi', gd_cs hi', inb_nat hi', wrap_succ hi' hl, hz, hc]
    · intro s; simp
    · rcases szN_cases szChg (xs.map Chg.d) left with h | h <;> simp [h]
theorem f_szAsked {a : Ask} {left : Int} (ha : a.In smax) (h0 : 0 ≤ left) (h1 : left ≤ lim) : ∃ r, e_laws_szAsked.F [a.d, .int left] = some (.int r) ∧ (0 ≤ r → a.In lim) := by
  rw [q_laws_szAsked]
  have hs := szL_spec (c := szChg) (Q := fun d => ∃ y : Chg, d = y.d ∧ y.rc.In lim) (xs := a.cs.map Chg.d) (left := left) h1 (by
    intro x hx' s h1 h2
    obtain ⟨y, hy, rfl⟩ := List.mem_map.1 hx'
    exact ⟨(szChg_spec s h1 h2).1, fun h => ⟨y, rfl, (szChg_spec s h1 h2).2 h⟩⟩) h0
  have hz := f_szChangeS (left := left) ha.len ha.all h0 h1
  by_cases hlt2 : szL szChg (a.cs.map Chg.d) left < 0
  · exact ⟨-1, rn_call hz (rn_if (decide_eq_true hlt2) rfl), by omega⟩
  · refine ⟨szL szChg (a.cs.map Chg.d) left, rn_call hz (rn_else (fun h => hlt2 (of_decide_eq_true h)) rfl), fun hpos => ?_⟩
    have := hs.2 hpos
    refine ⟨by simpa using this.1, ?_⟩
    intro x hx
    obtain ⟨y, hy, hyl⟩ := this.2 x.d (List.mem_map.2 ⟨x, hx, rfl⟩)
    rw [Chg.d_inj hy]; exact hyl

theorem law_FnExactAskedText {d : D} (h : Sm smax tAsk d) : e_laws_FnExactAskedText.F [d] = some (.bool true) := by
  obtain ⟨a, rfl, hi⟩ := ask_of h
  obtain ⟨r, h1, h2⟩ := f_szAsked hi (left := 1048576) (by decide) (by decide)
  rw [q_laws_FnExactAskedText]
  refine rn_call h1 ?_
  by_cases hr : r < 0
  · exact rn_if (decide_eq_true hr) rfl
  refine rn_else (fun h => hr (of_decide_eq_true h)) ?_
  have hs := h2 (by omega)
  have ht := f_toAsked hs.len
  have he := f_eqAsked (a := a) (Nat.le_trans hs.len lim_smax)
  exact rn_call ht (rn_call (f_specAsked hs) (rn_call ht (rn_call (f_implAsked hs) (rn_bind0 (l := [.bool false]) (out_else (by simp) (by simp)) (rn_else (by simp) (rn_call ht (rn_call he (rn_else (by simp) rfl))))))))
end Go.Proofs.YtclddfdojnfpeaaGreatDoor

/-! What a row's list of package variables gives. -/
namespace Go.Own
open Go
theorem trod_err {H : Type} {enc : TypeId × Value → H} {P : Program} {w : World} {base : Nat} {sp : Nat → Bool} {held : Bool} {fuel : Nat} {t : TypeId} {ms : Array (String × TypeId)} {cs : List Value} {x : DataW H × List MemPlace}
    (ht : P.underlying t = some (.interface ms)) (h : DataW.trod enc P w base sp held fuel t cs = some x) : ∃ v, cs = [v] ∧ (v = .nilIface ∨ ∃ u y, v = .iface u y) := by
  cases fuel with
  | zero => simp [DataW.trod] at h
  | succ n =>
    unfold DataW.trod at h
    rw [ht] at h
    match cs, h with
    | [], h => simp at h
    | [v], h => cases v <;> first | exact ⟨_, rfl, .inl rfl⟩ | exact ⟨_, rfl, .inr ⟨_, _, rfl⟩⟩ | (simp at h)
    | a :: b :: r, h => simp at h

theorem laid_tail {P : Program} {W : World} {x : String × DataW Unit} {rest : List (String × DataW Unit)} {ps : List MemPlace} (h : DataW.LaidVars P W (x :: rest) ps) : ∃ qs, DataW.LaidVars P W rest qs := by
  obtain ⟨_, _, _, _, _, q, _, _, _, _, hr, _⟩ := h
  exact ⟨q, hr⟩
/-- a listed table -/
theorem laid_tab {P : Program} {W : World} {name : String} {k : IntKind} {zs : List Int} {rest : List (String × DataW Unit)} {ps : List MemPlace} {g : Nat} {t e : TypeId} {n : Nat}
    (hg : P.globalNamed name = some g) (hty : (P.globals[g]?).map (·.type) = some t) (ht : P.underlying t = some (.array n e)) (he : P.underlying e = some (.int k)) (hce : P.cellsOf e = 1) (hct : P.cellsOf t = n)
    (h : DataW.LaidVars P W ((name, Lib.tabData k zs) :: rest) ps) : ∃ o, W.heap[g]? = some o ∧ isArr (zs.map fun z => Value.int k z).toArray o := by
  obtain ⟨g', t', cs, fuel, p, q, hg', ht', hvar, hd, _, _⟩ := h
  obtain rfl := Option.some.inj (hg.symm.trans hg')
  obtain rfl := Option.some.inj (hty.symm.trans ht')
  have hc := Lib.cells_of_tab ht he hce hct hd
  unfold World.var? at hvar
  rw [hg] at hvar
  simp only [Option.bind_some] at hvar
  split at hvar
  · rename_i c ty fz hh
    cases hvar
    exact ⟨_, hh, ty, fz, by rw [← hc]⟩
  · cases hvar
/-- a listed error -/
theorem laid_err {P : Program} {W : World} {name : String} {d : DataW Unit} {rest : List (String × DataW Unit)} {ps : List MemPlace} {g : Nat} {t : TypeId} {ms : Array (String × TypeId)}
    (hg : P.globalNamed name = some g) (hty : (P.globals[g]?).map (·.type) = some t) (ht : P.underlying t = some (.interface ms))
    (h : DataW.LaidVars P W ((name, d) :: rest) ps) : ∃ o, W.heap[g]? = some o ∧ isErr o := by
  obtain ⟨g', t', cs, fuel, p, q, hg', ht', hvar, hd, _, _⟩ := h
  obtain rfl := Option.some.inj (hg.symm.trans hg')
  obtain rfl := Option.some.inj (hty.symm.trans ht')
  obtain ⟨v, hc, hv⟩ := trod_err ht hd
  unfold World.var? at hvar
  rw [hg] at hvar
  simp only [Option.bind_some] at hvar
  split at hvar
  · rename_i c ty fz hh
    cases hvar
    refine ⟨_, hh, v, _, ty, fz, rfl, ?_, hv⟩
    rw [← Array.getElem?_toList, hc]; rfl
  · cases hvar
end Go.Own
