/- What the functions compute, in plain words. -/
import Derived.Test.YtbanjbafckgghaaGreatDoorP1
import Derived.Lib.LaidTab
set_option linter.unusedSectionVars false
set_option linter.unusedVariables false
set_option linter.unusedSimpArgs false
/-! Policies. -/
namespace Go.Proofs.YtbanjbafckgghaaGreatDoor
open Go Go.Own

structure Target where
  host : List UInt8
  data : List UInt8
  group : Int
  weight : Int
structure Policy where
  name : List UInt8
  ts : List Target
def Target.d (t : Target) : D := .pair (.str t.host) (.pair (.str t.data) (.pair (.int t.group) (.pair (.int t.weight) .unit)))
def Policy.d (p : Policy) : D := .pair (.str p.name) (.pair (.lst (p.ts.map Target.d)) .unit)
def inP (n lo hi : Int) : Bool := decide (lo ≤ n) && decide (n ≤ hi)
def Target.ok (t : Target) : Bool := addrOk t.data && (isName t.host && (inP t.group 0 9 && inP t.weight 1 50))
def Policy.good (p : Policy) : Bool := isName p.name && (inP p.ts.length 1 12 && p.ts.all Target.ok)
structure Target.In (B : Nat) (t : Target) : Prop where
  host : t.host.length ≤ B
  data : t.data.length ≤ B
structure Policy.In (B : Nat) (p : Policy) : Prop where
  name : p.name.length ≤ B
  len : p.ts.length ≤ B
  all : ∀ t ∈ p.ts, t.In B

theorem gd_ts {xs : List Target} {i : Nat} (hi : i < xs.length) : gd (xs.map Target.d) i = xs[i].d := by
  rw [gd_lt (by simpa using hi)]; simp
theorem f_withinP (a b c : Int) : e_impl_within.F [.int a, .int b, .int c] = some (.bool (inP a b c)) := f_within a b c
theorem f_l1InP (a b c : Int) : e_spec_l1In.F [.int a, .int b, .int c] = some (.bool (inP a b c)) := f_l1In a b c

theorem splB_sum (b : UInt8) : ∀ s : List UInt8, ((splB b s).map fun p => p.length + 1).sum = s.length + 1
  | [] => rfl
  | c :: s => by
    have ih := splB_sum b s
    unfold splB
    split
    · simp only [List.map_cons, List.sum_cons, ih, List.length_cons, List.length_nil]; omega
    · split
      · rename_i p ps hq
        rw [hq] at ih
        simp only [List.map_cons, List.sum_cons, List.length_cons] at ih ⊢; omega
      · rename_i hq
        exact absurd hq (splB_ne b s)
theorem addr_len {s : List UInt8} (h : addrOk s = true) : s.length ≤ 100 := by
  unfold addrOk at h
  simp only [Bool.and_eq_true, List.all_eq_true, decide_eq_true_eq] at h
  have hs := splB_sum 46 s
  obtain ⟨hp, h4⟩ := h
  have hle : ∀ p ∈ splB 46 s, p.length ≤ 3 := by
    intro p hpm
    have := hp p hpm
    unfold numOk at this
    simp only [Bool.and_eq_true, decide_eq_true_eq] at this
    rw [(canon_iff p).1 this.1]
    exact dec_len (k := 3) (by omega) (by omega)
  generalize splB 46 s = ps at hs hle h4
  match ps, h4 with
  | [a, b, c, d], _ =>
    have h1 := hle a (by simp)
    have h2 := hle b (by simp)
    have h3 := hle c (by simp)
    have h5 := hle d (by simp)
    simp at hs
    omega

theorem f_policy1 {t : Target} (ht : t.In lim) : e_impl_GoodPolicy_1.F [t.d] = some (.bool !t.ok) := by
  rw [q_impl_GoodPolicy_1]
  have f0 : t.d.fld 0 = .str t.host := rfl
  have f1 : t.d.fld 1 = .str t.data := rfl
  have f2 : t.d.fld 2 = .int t.group := rfl
  have f3 : t.d.fld 3 = .int t.weight := rfl
  rw [f0, f1, f2, f3]
  obtain ⟨b, hda⟩ := f_dataA ht.data
  have hn := f_GoodName t.host
  have hg := f_withinP t.group 0 9
  have hw := f_withinP t.weight 1 50
  refine rn_call hda (rn_bind (r := (0, [.bool !t.ok])) ?_ rfl)
  unfold Target.ok
  cases h1 : addrOk t.data with
  | false => exact out_if rfl rfl
  | true =>
    have hl := addr_len h1
    refine out_else (by simp) (out_else (fun h => ?_) ?_)
    · have hc : ((t.data.length : Nat) : Int) > 100 := of_decide_eq_true h
      omega
    cases h2 : isName t.host with
    | false => rw [h2] at hn; exact out_call hn (out_if rfl rfl)
    | true =>
      rw [h2] at hn
      cases h3 : inP t.group 0 9 with
      | false => rw [h3] at hg; exact out_call hn (out_else (by simp) (out_call hg (out_if rfl rfl)))
      | true => rw [h3] at hg; exact out_call hn (out_else (by simp) (out_call hg (out_else (by simp) (out_call hw (by simp)))))

theorem f_containsT {xs : List Target} (u : D) (hl : xs.length ≤ smax) (hx : ∀ t ∈ xs, t.In lim) : e_slices_ContainsFunc_impl_Target_impl_Target__impl_GoodPolicy_1.F [.lst (xs.map Target.d), u] = some (.bool !(xs.all Target.ok)) := by
  rw [q_slices_ContainsFunc_impl_Target_impl_Target__impl_GoodPolicy_1]
  have key : ∃ r, e_slices_IndexFunc_impl_Target_impl_Target__impl_GoodPolicy_1.F [.lst (xs.map Target.d), u] = some r ∧ ∃ n : Int, r = .int n ∧ decide (n ≥ 0) = !(xs.all Target.ok) := by
    rw [q_slices_IndexFunc_impl_Target_impl_Target__impl_GoodPolicy_1]
    have hp : ∀ i (hi : i < xs.length), e_impl_GoodPolicy_1.F [xs[i].d] = some (.bool !xs[i].ok) := fun i hi => f_policy1 (hx _ (List.getElem_mem hi))
    refine find_ex (fun i => [.int i]) xs.length (fun i => (xs.getD i ⟨[], [], 0, 0⟩).ok) (t1 := 0) (t2 := 1) (o1 := fun i => [.int i]) (o2 := []) rfl ?_ ?_ ?_ ?_ ?_
    · intro i hi h
      rw [getD_lt hi] at h
      have := hp i hi
      rw [h] at this
      simp [hi, inb_nat hi, wrap_succ hi hl, gd_ts hi, this]
    · intro i hi h
      rw [getD_lt hi] at h
      have := hp i hi
      rw [h] at this
      simp [hi, inb_nat hi, gd_ts hi, this]
    · simp
    · intro hall
      refine ⟨_, rfl, -1, rfl, ?_⟩
      have : xs.all Target.ok = true := by
        rw [← all_allN xs Target.ok ⟨[], [], 0, 0⟩, allN_true]; exact hall
      rw [this]; rfl
    · intro j hj hp' _
      refine ⟨_, rfl, j, rfl, ?_⟩
      have : xs.all Target.ok = false := by
        rw [← all_allN xs Target.ok ⟨[], [], 0, 0⟩]; exact allN_false hj hp'
      rw [this]; simp
  obtain ⟨r, h1, n, rfl, h2⟩ := key
  refine rn_call h1 ?_
  rw [← h2]; rfl

theorem f_implPolicy {p : Policy} (hp : p.In lim) : e_impl_GoodPolicy.F [p.d] = some (.bool p.good) := by
  rw [q_impl_GoodPolicy]
  have hlen : (p.d.fld 1).l.length = p.ts.length := by simp [Policy.d]
  have f0 : p.d.fld 0 = .str p.name := rfl
  have f1 : p.d.fld 1 = .lst (p.ts.map Target.d) := rfl
  have hn := f_GoodName p.name
  have hw := f_withinP p.ts.length 1 12
  have hc := f_containsT .unit (Nat.le_trans hp.len lim_smax) hp.all
  rw [hlen, f0, f1]
  refine rn_bind (r := (0, [.bool p.good])) ?_ rfl
  unfold Policy.good
  cases h1 : isName p.name with
  | false => rw [h1] at hn; exact out_call hn (out_else (by simp) rfl)
  | true =>
    rw [h1] at hn
    cases h2 : inP p.ts.length 1 12 with
    | false => rw [h2] at hw; exact out_call hn (out_if rfl (out_call hw (out_else (by simp) rfl)))
    | true => rw [h2] at hw; exact out_call hn (out_if rfl (out_call hw (out_if rfl (out_call hc (by simp)))))

theorem f_specPolicy {p : Policy} (hp : p.In lim) : e_spec_GoodPolicy.F [p.d] = some (.bool p.good) := by
  rw [q_spec_GoodPolicy]
  have hsm := Nat.le_trans hp.len lim_smax
  have hlen : (p.d.fld 1).l.length = p.ts.length := by simp [Policy.d]
  have f0 : p.d.fld 0 = .str p.name := rfl
  have hd1 : (p.d.fld 1).l = p.ts.map Target.d := rfl
  rw [hlen, f0]
  refine rn_bind (loop_all' (fun i => [.int i]) p.ts.length (fun i => (p.ts.getD i ⟨[], [], 0, 0⟩).ok) (t1 := 0) (t2 := 1) (o1 := []) (o2 := []) rfl ?_ ?_) ?_
  · intro i hi
    rw [getD_lt hi]
    have hg : gd (p.ts.map Target.d) i = p.ts[i].d := gd_ts hi
    have hin := hp.all _ (List.getElem_mem hi)
    obtain ⟨b, hda⟩ := f_l3A hin.data
    have hn := f_specGoodName p.ts[i].host hin.host
    have h2 := f_l1InP p.ts[i].group 0 9
    have h3 := f_l1InP p.ts[i].weight 1 50
    refine out_if (by simpa using hi) (out_if (by simpa using inb_nat hi) ?_)
    have e0 : (gd [D.int (i : Int)] 0).i.toNat = i := by simp
    have e1 : (gd [D.int (i : Int)] 0).i = i := rfl
    have g0 : p.ts[i].d.fld 0 = .str p.ts[i].host := rfl
    have g1 : p.ts[i].d.fld 1 = .str p.ts[i].data := rfl
    have g2 : p.ts[i].d.fld 2 = .int p.ts[i].group := rfl
    have g3 : p.ts[i].d.fld 3 = .int p.ts[i].weight := rfl
    rw [e0, e1, hd1, hg, g0, g1, g2, g3, wrap_succ hi hsm]
    refine out_call hda (out_bind (r := (0, [.bool !p.ts[i].ok])) ?_ ?_)
    · unfold Target.ok
      cases k1 : addrOk p.ts[i].data with
      | false => exact out_if rfl rfl
      | true =>
        refine out_else (by simp) ?_
        cases k2 : isName p.ts[i].host with
        | false => rw [k2] at hn; exact out_call hn (out_if rfl rfl)
        | true =>
          rw [k2] at hn
          cases k3 : inP p.ts[i].group 0 9 with
          | false => rw [k3] at h2; exact out_call hn (out_else (by simp) (out_call h2 (out_if rfl rfl)))
          | true => rw [k3] at h2; exact out_call hn (out_else (by simp) (out_call h2 (out_else (by simp) (out_call h3 (by simp)))))
    · cases p.ts[i].ok <;> simp
  · simp
  · rw [all_allN p.ts Target.ok ⟨[], [], 0, 0⟩]
    have hn := f_specGoodName p.name hp.name
    have hw := f_l1InP p.ts.length 1 12
    unfold Policy.good
    cases h0 : p.ts.all Target.ok with
    | false => simp
    | true =>
      refine rn_bind (r := (0, [.bool (isName p.name && (inP p.ts.length 1 12 && true))])) ?_ rfl
      cases h1 : isName p.name with
      | false => rw [h1] at hn; exact out_call hn (out_else (by simp) rfl)
      | true => rw [h1] at hn; exact out_call hn (out_if rfl (out_call hw (by simp)))
end Go.Proofs.YtbanjbafckgghaaGreatDoor

/-! The law of good policies. -/
namespace Go.Proofs.YtbanjbafckgghaaGreatDoor
open Go Go.Own

abbrev tTarget : T := .pair .str (.pair .str (.pair (.int .i64) (.pair (.int .i64) .unit)))
abbrev tPolicy : T := .pair .str (.pair (.lst false tTarget) .unit)
theorem target_of {B : Nat} {d : D} (h : Sm B tTarget d) : ∃ x : Target, d = x.d ∧ x.In B := by
  obtain ⟨_, _, rfl, ⟨s, rfl, hs⟩, _, _, rfl, ⟨t, rfl, ht⟩, _, _, rfl, ⟨n, rfl, _⟩, _, _, rfl, ⟨m, rfl, _⟩, rfl⟩ := h
  exact ⟨⟨s, t, n, m⟩, rfl, hs, ht⟩
theorem targets_of {B : Nat} : ∀ {xs : List D}, (∀ x ∈ xs, ∃ y : Target, x = y.d ∧ y.In B) → ∃ ys : List Target, xs = ys.map Target.d ∧ ∀ y ∈ ys, y.In B
  | [], _ => ⟨[], rfl, by simp⟩
  | x :: xs, h => by
    obtain ⟨y, rfl, hy⟩ := h x (by simp)
    obtain ⟨ys, rfl, hys⟩ := targets_of (xs := xs) (fun z hz => h z (by simp [hz]))
    exact ⟨y :: ys, rfl, by simpa using ⟨hy, hys⟩⟩
theorem policy_of {B : Nat} {d : D} (h : Sm B tPolicy d) : ∃ x : Policy, d = x.d ∧ x.In B := by
  obtain ⟨_, _, rfl, ⟨s, rfl, hs⟩, _, _, rfl, ⟨xs, rfl, hl, hc⟩, rfl⟩ := h
  obtain ⟨ys, rfl, hys⟩ := targets_of (fun x hx => target_of (hc x hx))
  exact ⟨⟨s, ys⟩, rfl, hs, by simpa using hl, hys⟩

theorem f_eqTarget (x : Target) : e_laws_eqTarget.F [x.d, x.d] = some (.bool true) := by
  rw [q_laws_eqTarget]; simp [Target.d]
theorem f_eqTargetS {xs : List Target} (hl : xs.length ≤ smax) : e_laws_eqTargetS.F [.lst (xs.map Target.d), .lst (xs.map Target.d)] = some (.bool true) := by
  rw [q_laws_eqTargetS, if_neg (by simp)]
  refine rn_bind (loop_for' (fun i (_ : Unit) => [.int i]) xs.length (fun _ => ()) (t := 1) (o := []) rfl ?_ ?_) rfl
  · intro i hi
    simp [hi, gd_ts hi, inb_nat hi, wrap_succ hi hl, f_eqTarget]
  · simp
theorem f_eqPolicy {p : Policy} (hl : p.ts.length ≤ smax) : e_laws_eqPolicy.F [p.d, p.d] = some (.bool true) := by
  rw [q_laws_eqPolicy, if_neg (by simp)]
  exact rn_call (f_eqTargetS hl) rfl
theorem f_toTargetS {xs : List Target} (hl : xs.length ≤ lim) : e_laws_toTargetS.F [.lst (xs.map Target.d)] = some (.lst (xs.map Target.d)) := by
  have hlen : (D.lst (xs.map Target.d)).l.length = xs.length := by simp
  rw [q_laws_toTargetS, hlen]; refine rn_if (makeOk_nat hl (by decide)) ?_
  refine rn_bind (loop_for' (fun i (zs : List D) => [.lst zs, .int i]) xs.length (filled (xs.map Target.d) (.pair (.str []) (.pair (.str []) (.pair (.int 0) (.pair (.int 0) .unit))))) (t := 0) (o := [.lst (xs.map Target.d)]) (by simp [filled_zero]) ?_ ?_) rfl
  · intro i hi
    have hm : i < (xs.map Target.d).length := by simpa using hi
    have hf := filled_set (z := (.pair (.str []) (.pair (.str []) (.pair (.int 0) (.pair (.int 0) .unit))))) hm
    have ht : e_laws_toTarget.F [xs[i].d] = some xs[i].d := by rw [q_laws_toTarget]; rfl
    rw [List.getElem_map] at hf
    simp [hi, gd_ts hi, inb_nat hi, wrap_succ hi (Nat.le_trans hl lim_smax), filled_length (Nat.le_of_lt hm), hf, ht]
  · have := filled_all (xs := xs.map Target.d) (z := (.pair (.str []) (.pair (.str []) (.pair (.int 0) (.pair (.int 0) .unit)))))
    rw [List.length_map] at this
    simp [this]
theorem f_toPolicy {p : Policy} (hl : p.ts.length ≤ lim) : e_laws_toPolicy.F [p.d] = some p.d := by
  rw [q_laws_toPolicy]
  exact rn_call (f_toTargetS hl) rfl

theorem len_wrapP {left : Int} {n : Nat} (h0 : 0 ≤ left) (h1 : left ≤ lim) (hn : n ≤ smax) : IntKind.wrap .i64 (left - (n : Int)) = left - n := by
  have hlim : (lim : Int) = 1048576 := rfl
  have hsm : (smax : Int) = 9223372036854775807 := rfl
  exact wrap_id (by omega) (by omega)
def szTarget (s : Int) (x : D) : Int := if s - (x.fld 0).s.length < 0 then -1 else if s - (x.fld 0).s.length - (x.fld 1).s.length < 0 then -1 else s - (x.fld 0).s.length - (x.fld 1).s.length
theorem f_szTarget {x : Target} {left : Int} (hx : x.In smax) (h0 : 0 ≤ left) (h1 : left ≤ lim) : e_laws_szTarget.F [x.d, .int left] = some (.int (szTarget left x.d)) := by
  rw [q_laws_szTarget]
  have hw := len_wrapP h0 h1 hx.host
  have hd : (x.d.fld 0).s = x.host := rfl
  have hd1 : (x.d.fld 1).s = x.data := rfl
  simp only [hd, hd1, D.i_int, hw, szTarget]
  by_cases h : left - (x.host.length : Int) < 0
  · rw [if_pos h]; exact rn_if (decide_eq_true h) rfl
  · rw [if_neg h]
    have hw2 := len_wrapP (left := left - x.host.length) (by omega) (by omega) hx.data
    rw [hw2]
    refine rn_else (fun hc => h (of_decide_eq_true hc)) ?_
    by_cases h2 : left - (x.host.length : Int) - (x.data.length : Int) < 0
    · rw [if_pos h2]; exact rn_if (decide_eq_true h2) rfl
    · rw [if_neg h2]; exact rn_else (fun hc => h2 (of_decide_eq_true hc)) rfl
theorem szTarget_spec {x : Target} (hx : x.In smax) (s : Int) (h0 : 0 ≤ s) (h1 : s ≤ lim) : szTarget s x.d ≤ s ∧ (0 ≤ szTarget s x.d → ∃ y : Target, x.d = y.d ∧ y.In lim) := by
  have hd : (x.d.fld 0).s = x.host := rfl
  have hd1 : (x.d.fld 1).s = x.data := rfl
  simp only [szTarget, hd, hd1]
  by_cases h : s - (x.host.length : Int) < 0
  · rw [if_pos h]; omega
  · rw [if_neg h]
    by_cases h2 : s - (x.host.length : Int) - (x.data.length : Int) < 0
    · rw [if_pos h2]; omega
    · rw [if_neg h2]; exact ⟨by omega, fun _ => ⟨x, rfl, by omega, by omega⟩⟩
theorem f_szTargetS {xs : List Target} {left : Int} (hl : xs.length ≤ smax) (hx : ∀ x ∈ xs, x.In smax) (h0 : 0 ≤ left) (h1 : left ≤ lim) : e_laws_szTargetS.F [.lst (xs.map Target.d), .int left] = some (.int (szL szTarget (xs.map Target.d) left)) := by
  have hw := len_wrapP h0 h1 hl
  have hlen : (D.lst (xs.map Target.d)).l.length = (xs.map Target.d).length := rfl
  have hlen' : (xs.map Target.d).length = xs.length := by simp
  rw [q_laws_szTargetS, hlen]
  have hw' : IntKind.wrap .i64 (left - ((xs.map Target.d).length : Int)) = left - (xs.map Target.d).length := by rw [hlen']; exact hw
  by_cases hlt : left - ((xs.map Target.d).length : Int) < 0
  · refine rn_if (by rw [D.i_int, hw']; exact decide_eq_true hlt) ?_
    unfold szL
    rw [if_pos hlt]; rfl
  · refine rn_else (by rw [D.i_int, hw']; exact fun hc => hlt (of_decide_eq_true hc)) ?_
    simp only [D.l_lst, D.i_int, hw']
    refine rn_bind (szL_loop (c := szTarget) hlt h1 ?_ ?_ ?_) ?_
    · intro x hx' s h1 h2
      obtain ⟨y, hy, rfl⟩ := List.mem_map.1 hx'
      exact (szTarget_spec (hx y hy) s h1 h2).1
    · intro i s hi h1 h2
      have hi' : i < xs.length := by simpa using hi
      have hg : (xs.map Target.d)[i] = xs[i].d := by simp
      have hz := f_szTarget (hx _ (List.getElem_mem hi')) h1 h2
      rw [hg]
      constructor <;> intro hc <;> simp [hi', gd_ts hi', inb_nat hi', wrap_succ hi' hl, hz, hc]
    · intro s; simp
    · rcases szN_cases szTarget (xs.map Target.d) left with h | h <;> simp [h]
theorem f_szPolicy {p : Policy} {left : Int} (hp : p.In smax) (h0 : 0 ≤ left) (h1 : left ≤ lim) : ∃ r, e_laws_szPolicy.F [p.d, .int left] = some (.int r) ∧ (0 ≤ r → p.In lim) := by
  rw [q_laws_szPolicy]
  have hw := len_wrapP h0 h1 hp.name
  have hd : (p.d.fld 0).s = p.name := rfl
  simp only [hd, D.i_int, hw]
  by_cases hlt : left - (p.name.length : Int) < 0
  · exact ⟨-1, rn_if (decide_eq_true hlt) rfl, by omega⟩
  have hs := szL_spec (c := szTarget) (Q := fun d => ∃ y : Target, d = y.d ∧ y.In lim) (xs := p.ts.map Target.d) (left := left - p.name.length) (by omega) (by
    intro x hx' s h1 h2
    obtain ⟨y, hy, rfl⟩ := List.mem_map.1 hx'
    exact szTarget_spec (hp.all y hy) s h1 h2) (by omega)
  have hz := f_szTargetS (left := left - p.name.length) hp.len hp.all (by omega) (by omega)
  by_cases hlt2 : szL szTarget (p.ts.map Target.d) (left - p.name.length) < 0
  · refine ⟨-1, rn_else (fun h => hlt (of_decide_eq_true h)) (rn_call hz (rn_if (decide_eq_true hlt2) rfl)), by omega⟩
  · refine ⟨szL szTarget (p.ts.map Target.d) (left - p.name.length), rn_else (fun h => hlt (of_decide_eq_true h)) (rn_call hz (rn_else (fun h => hlt2 (of_decide_eq_true h)) rfl)), fun hpos => ?_⟩
    have := hs.2 hpos
    refine ⟨by omega, by simpa using this.1, ?_⟩
    intro x hx
    obtain ⟨y, hy, hyl⟩ := this.2 x.d (List.mem_map.2 ⟨x, hx, rfl⟩)
    have h1 : x = y := by
      cases x; cases y
      simp only [Target.d, D.pair.injEq, D.str.injEq, D.int.injEq] at hy
      obtain ⟨a, b, c, d, _⟩ := hy
      subst a; subst b; subst c; subst d; rfl
    rw [h1]; exact hyl

theorem law_FnExactGoodPolicy {a : D} (ha : Sm smax tPolicy a) : e_laws_FnExactGoodPolicy.F [a] = some (.bool true) := by
  obtain ⟨p, rfl, hi⟩ := policy_of ha
  obtain ⟨r, h1, h2⟩ := f_szPolicy hi (left := 1048576) (by decide) (by decide)
  rw [q_laws_FnExactGoodPolicy]
  refine rn_call h1 ?_
  by_cases hr : r < 0
  · exact rn_if (decide_eq_true hr) rfl
  refine rn_else (fun h => hr (of_decide_eq_true h)) ?_
  have hs := h2 (by omega)
  have ht := f_toPolicy hs.len
  have he := f_eqPolicy (p := p) (Nat.le_trans hs.len lim_smax)
  exact rn_call ht (rn_call (f_specPolicy hs) (rn_call ht (rn_call (f_implPolicy hs) (rn_else (by simp) (rn_call ht (rn_call he (rn_else (by simp) rfl)))))))
end Go.Proofs.YtbanjbafckgghaaGreatDoor

/-! What a row's list of package variables gives. -/
namespace Go.Own
open Go
theorem trod_err {H : Type} {enc : TypeId × Value → H} {P : Program} {w : World} {base : Nat} {sp : Nat → Bool} {held : Bool} {fuel : Nat} {t : TypeId} {ms : Array (String × TypeId)} {cs : List Value} {x : DataW H × List MemPlace}
    (ht : P.underlying t = some (.interface ms)) (h : DataW.trod enc P w base sp held fuel t cs = some x) : ∃ v, cs = [v] ∧ (v = .nilIface ∨ ∃ u y, v = .iface u y) := by
  cases fuel with
  | zero => simp [DataW.trod] at h
  | succ n =>
    unfold DataW.trod at h
    rw [ht] at h
    match cs, h with
    | [], h => simp at h
    | [v], h => cases v <;> first | exact ⟨_, rfl, .inl rfl⟩ | exact ⟨_, rfl, .inr ⟨_, _, rfl⟩⟩ | (simp at h)
    | a :: b :: r, h => simp at h

theorem laid_tail {P : Program} {W : World} {x : String × DataW Unit} {rest : List (String × DataW Unit)} {ps : List MemPlace} (h : DataW.LaidVars P W (x :: rest) ps) : ∃ qs, DataW.LaidVars P W rest qs := by
  obtain ⟨_, _, _, _, _, q, _, _, _, _, hr, _⟩ := h
  exact ⟨q, hr⟩
/-- a listed table -/
theorem laid_tab {P : Program} {W : World} {name : String} {k : IntKind} {zs : List Int} {rest : List (String × DataW Unit)} {ps : List MemPlace} {g : Nat} {t e : TypeId} {n : Nat}
    (hg : P.globalNamed name = some g) (hty : (P.globals[g]?).map (·.type) = some t) (ht : P.underlying t = some (.array n e)) (he : P.underlying e = some (.int k)) (hce : P.cellsOf e = 1) (hct : P.cellsOf t = n)
    (h : DataW.LaidVars P W ((name, Lib.tabData k zs) :: rest) ps) : ∃ o, W.heap[g]? = some o ∧ isArr (zs.map fun z => Value.int k z).toArray o := by
  obtain ⟨g', t', cs, fuel, p, q, hg', ht', hvar, hd, _, _⟩ := h
  obtain rfl := Option.some.inj (hg.symm.trans hg')
  obtain rfl := Option.some.inj (hty.symm.trans ht')
  have hc := Lib.cells_of_tab ht he hce hct hd
  unfold World.var? at hvar
  rw [hg] at hvar
  simp only [Option.bind_some] at hvar
  split at hvar
  · rename_i c ty fz hh
    cases hvar
    exact ⟨_, hh, ty, fz, by rw [← hc]⟩
  · cases hvar
/-- a listed error -/
theorem laid_err {P : Program} {W : World} {name : String} {d : DataW Unit} {rest : List (String × DataW Unit)} {ps : List MemPlace} {g : Nat} {t : TypeId} {ms : Array (String × TypeId)}
    (hg : P.globalNamed name = some g) (hty : (P.globals[g]?).map (·.type) = some t) (ht : P.underlying t = some (.interface ms))
    (h : DataW.LaidVars P W ((name, d) :: rest) ps) : ∃ o, W.heap[g]? = some o ∧ isErr o := by
  obtain ⟨g', t', cs, fuel, p, q, hg', ht', hvar, hd, _, _⟩ := h
  obtain rfl := Option.some.inj (hg.symm.trans hg')
  obtain rfl := Option.some.inj (hty.symm.trans ht')
  obtain ⟨v, hc, hv⟩ := trod_err ht hd
  unfold World.var? at hvar
  rw [hg] at hvar
  simp only [Option.bind_some] at hvar
  split at hvar
  · rename_i c ty fz hh
    cases hvar
    refine ⟨_, hh, v, _, ty, fz, rfl, ?_, hv⟩
    rw [← Array.getElem?_toList, hc]; rfl
  · cases hvar
end Go.Own
