/- What the functions compute, in plain words. -/
import Derived.Test.YtbanjbafckgghaaDoorP1
set_option linter.unusedSectionVars false
set_option linter.unusedVariables false
set_option linter.unusedSimpArgs false
/-! Health: probes. -/
namespace Go.Proofs.YtbanjbafckgghaaDoor
open Go Go.Own

def Host.nul : Host := ⟨[], false, 0⟩
/-- what a probe does to its host -/
def Health.stepH (h : Health) (x : Host) (fine : Bool) : Host × Bool :=
  if x.up == fine then (⟨x.name, x.up, 0⟩, false)
  else if x.row + 1 < h.most x then (⟨x.name, x.up, x.row + 1⟩, false)
  else (⟨x.name, !x.up, 0⟩, true)
def Health.host (h : Health) (i : Nat) : Host := h.hosts.getD i Host.nul
def Health.put (h : Health) (i : Nat) (x : Host) : Health := ⟨h.rise, h.fall, h.hosts.set i x⟩
def Health.probed (h : Health) (i : Nat) (fine : Bool) : Health × Bool := (h.put i (h.stepH (h.host i) fine).1, (h.stepH (h.host i) fine).2)

theorem Health.host_lt {h : Health} {i : Nat} (hi : i < h.hosts.length) : h.host i = h.hosts[i] := by simp [Health.host, hi]

theorem Health.put_d (h : Health) (i : Nat) (x : Host) : (h.put i x).d = .pair (.int h.rise) (.pair (.int h.fall) (.pair (.lst ((h.hosts.map Host.d).set i x.d)) .unit)) := by
  simp [Health.put, Health.d, List.map_set]

theorem f_cloneHosts {xs : List D} (h : xs.length ≤ lim) : e_slices_Clone_impl_Host_impl_Host.F [.lst xs] = some (.lst xs) := by
  rw [q_slices_Clone_impl_Host_impl_Host]
  have ha : appOk 32 ([] : List D) (D.lst xs).l = true := by
    have h1 : lim ≤ smax := lim_smax
    have h2 : (lim : Nat) = 1048576 := rfl
    simp [appOk]; omega
  rw [two_eq]
  · refine rn_if ha rfl
  · intro h
    rw [if_pos ha]
    have : xs = [] := by simpa using h
    subst this
    rfl

/-- a row that a health may hold -/
theorem Health.row_R {h : Health} (hg : h.good = true) {x : Host} (hx : x ∈ h.hosts) : 0 ≤ x.row ∧ x.row + 1 ≤ h.most x ∧ h.most x ≤ 10 := by
  simp only [Health.good, Bool.and_eq_true, List.all_eq_true] at hg
  have h1 := hg.2.1 x hx
  have h2 := Health.most_R hg.1.1 hg.1.2.1 x
  simp only [Health.rowOk, inR, Bool.and_eq_true, decide_eq_true_eq] at h1 h2
  omega
theorem Health.len_R {h : Health} (hg : h.good = true) : 1 ≤ h.hosts.length ∧ h.hosts.length ≤ 12 := by
  simp only [Health.good, Bool.and_eq_true] at hg
  have h1 := hg.1.2.2
  simp only [inR, Bool.and_eq_true, decide_eq_true_eq] at h1
  omega

theorem f_implProbed {h : Health} {i : Nat} {fine : Bool} (hg : h.good = true) (hi : i < h.hosts.length) :
    e_impl_probed.F [h.d, (Prb.mk i fine).d] = some (.pair (h.probed i fine).1.d (.pair (.bool (h.probed i fine).2) .unit)) := by
  have hlen := Health.len_R hg
  have hrow := Health.row_R hg (List.getElem_mem hi)
  rw [q_impl_probed]
  refine rn_call (f_cloneHosts (xs := h.hosts.map Host.d) (by rw [List.length_map]; have : lim = 1048576 := rfl; omega)) ?_
  refine rn_if (by simpa [Prb.d] using inb_nat hi) ?_
  have hgd : gd (h.hosts.map Host.d) i = h.hosts[i].d := gd_hosts hi
  have hl : i < (h.hosts.map Host.d).length := by simpa using hi
  unfold Health.probed
  rw [Health.put_d, Health.host_lt hi]
  have hwr : IntKind.wrap .i64 (h.hosts[i].row + 1) = h.hosts[i].row + 1 := wrap_id (by omega) (by omega)
  have e0 : ((Prb.mk i fine).d.fld 0).i.toNat = i := by simp [Prb.d]
  have e1 : ((Prb.mk i fine).d.fld 1).b = fine := rfl
  have hx1 : (h.hosts[i].d.fld 1).b = h.hosts[i].up := rfl
  have hx2 : (h.hosts[i].d.fld 2).i = h.hosts[i].row := rfl
  simp only [D.l_lst, e0, e1, hgd, hx1, hx2, hwr, gd_set hl]
  have hd1 : h.hosts[i].d.setFld 2 (.int (h.hosts[i].row + 1)) = (Host.mk h.hosts[i].name h.hosts[i].up (h.hosts[i].row + 1)).d := rfl
  rw [hd1]
  unfold Health.stepH
  by_cases hu : h.hosts[i].up = fine
  · refine rn_if (by simpa using hu) ?_
    rw [if_pos (by simpa using hu)]
    rfl
  · refine rn_else (by simpa using hu) ?_
    rw [if_neg (by simpa using hu)]
    refine rn_call (f_mostRow h ⟨h.hosts[i].name, h.hosts[i].up, h.hosts[i].row + 1⟩) ?_
    have hm : h.most ⟨h.hosts[i].name, h.hosts[i].up, h.hosts[i].row + 1⟩ = h.most h.hosts[i] := rfl
    rw [hm]
    by_cases hr : h.hosts[i].row + 1 < h.most h.hosts[i]
    · refine rn_if (decide_eq_true hr) ?_
      rw [if_pos hr]
      rfl
    · refine rn_else (fun hc => hr (of_decide_eq_true hc)) ?_
      rw [if_neg hr]
      simp only [List.set_set, gd_set hl]
      rfl

/-- a good health is small -/
theorem Health.good_fit {h : Health} (hg : h.good = true) : h.Fit := by
  have hl := Health.len_R hg
  have hr := fun x hx => Health.row_R (x := x) hg hx
  have hlim : lim = 1048576 := rfl
  have hg' := hg
  simp only [Health.good, Bool.and_eq_true] at hg'
  have h1 := hg'.1.1
  have h2 := hg'.1.2.1
  simp only [inR, Bool.and_eq_true, decide_eq_true_eq] at h1 h2
  refine ⟨by omega, ?_, fun x hx => by have := hr x hx; omega, by omega, by omega⟩
  intro x hx
  obtain ⟨i, hi, rfl⟩ := List.getElem_of_mem hx
  have := (allN_true.1 hg'.2.2) i hi
  unfold nameOk at this
  rw [Health.names_get hi] at this
  simp only [Bool.and_eq_true, isName, decide_eq_true_eq] at this
  have := this.2.1.1
  omega

theorem Health.most_put (h : Health) (i : Nat) (y x : Host) : (h.put i y).most x = h.most x := rfl
theorem Health.names_put {h : Health} {i : Nat} (hi : i < h.hosts.length) {y : Host} (hn : y.name = h.hosts[i].name) : (h.put i y).names = h.names := by
  simp only [Health.names, Health.put, List.map_set, hn]
  have : h.hosts[i].name = (h.hosts.map (·.name))[i]'(by simpa using hi) := by simp
  rw [this, List.set_getElem_self]
theorem Health.good_put {h : Health} (hg : h.good = true) {i : Nat} (hi : i < h.hosts.length) {y : Host} (hn : y.name = h.hosts[i].name) (hr : h.rowOk y = true) : (h.put i y).good = true := by
  have hlen : (h.put i y).hosts.length = h.hosts.length := by simp [Health.put]
  unfold Health.good at hg ⊢
  rw [hlen, Health.names_put hi hn]
  simp only [Bool.and_eq_true, List.all_eq_true] at hg ⊢
  refine ⟨hg.1, ?_, hg.2.2⟩
  intro x hx
  rcases List.mem_or_eq_of_mem_set hx with hx | rfl
  · exact hg.2.1 x hx
  · exact hr

theorem Health.step_name (h : Health) (x : Host) (fine : Bool) : (h.stepH x fine).1.name = x.name := by
  unfold Health.stepH; split
  · rfl
  · split <;> rfl
theorem Health.step_row {h : Health} (hg : h.good = true) {x : Host} (hx : x ∈ h.hosts) (fine : Bool) : h.rowOk (h.stepH x fine).1 = true := by
  have hr := Health.row_R hg hx
  have hg' := hg
  simp only [Health.good, Bool.and_eq_true] at hg'
  have hm := Health.most_R hg'.1.1 hg'.1.2.1 ⟨x.name, !x.up, 0⟩
  have hm2 : h.most ⟨x.name, x.up, 0⟩ = h.most x := rfl
  have hm3 : h.most ⟨x.name, x.up, x.row + 1⟩ = h.most x := rfl
  simp only [inR, Bool.and_eq_true, decide_eq_true_eq] at hm
  unfold Health.stepH Health.rowOk
  split
  · simp [inR, hm2]; omega
  · split
    · simp [inR, hm3]; omega
    · simp [inR]; omega
theorem Health.probed_good {h : Health} (hg : h.good = true) {i : Nat} (hi : i < h.hosts.length) (fine : Bool) : (h.probed i fine).1.good = true := by
  unfold Health.probed
  rw [Health.host_lt hi]
  exact Health.good_put hg hi (Health.step_name _ _ _) (Health.step_row hg (List.getElem_mem hi) fine)
theorem Health.probed_len (h : Health) (i : Nat) (fine : Bool) : (h.probed i fine).1.hosts.length = h.hosts.length := by simp [Health.probed, Health.put]

/-- a probe, taken -/
def Health.take (h : Health) (p : Prb) : Health × Bool × Bool :=
  if h.good && inR p.host 0 (h.hosts.length - 1) then ((h.probed p.host.toNat p.fine).1, (h.probed p.host.toNat p.fine).2, true) else (Health.nul, false, false)
def taken (r : Health × Bool × Bool) : D := .pair r.1.d (.pair (.bool r.2.1) (.pair (.bool r.2.2) .unit))

theorem wrap_len {n : Nat} (h : n ≤ smax) : IntKind.wrap .i64 ((n : Int) - 1) = (n : Int) - 1 := by
  have : (smax : Int) = 9223372036854775807 := rfl
  exact wrap_id (by omega) (by omega)

theorem f_implTake {h : Health} (hf : h.hosts.length ≤ smax) (p : Prb) : e_impl_TakeProbe.F [h.d, p.d] = some (taken (h.take p)) := by
  rw [q_impl_TakeProbe]
  have hgd := f_implGoodHealth h hf
  have hlen : (h.d.fld 2).l.length = h.hosts.length := by simp [Health.d]
  have hp0 : p.d.fld 0 = .int p.host := rfl
  rw [hlen, hp0, wrap_len hf]
  have hw := f_within' p.host 0 (h.hosts.length - 1)
  unfold Health.take
  cases hg : h.good with
  | false =>
    rw [hg] at hgd
    refine rn_bind (r := (0, [.bool true])) (out_call hgd (out_if rfl rfl)) ?_
    rfl
  | true =>
    rw [hg] at hgd
    cases hr : inR p.host 0 (h.hosts.length - 1) with
    | false =>
      rw [hr] at hw
      refine rn_bind (r := (0, [.bool true])) (out_call hgd (out_else (by simp) (out_call hw rfl))) ?_
      rfl
    | true =>
      rw [hr] at hw
      refine rn_bind (r := (0, [.bool false])) (out_call hgd (out_else (by simp) (out_call hw rfl))) ?_
      simp only [inR, Bool.and_eq_true, decide_eq_true_eq] at hr
      obtain ⟨ph, pf⟩ := p
      obtain ⟨n, rfl⟩ := Int.eq_ofNat_of_zero_le hr.1
      simp only [sel2_zero, gd_zero]
      refine rn_else (by simp) (rn_call (f_implProbed (fine := pf) hg (by simp at hr; omega)) ?_)
      simp [taken]

theorem f_specOwn {h : Health} (hf : h.hosts.length ≤ lim) : e_spec_l13Own.F [h.d] = some h.d := by
  rw [q_spec_l13Own]
  have hlim : lim = 1048576 := rfl
  refine rn_if (by simp [appOk, Health.d, smax_eq]; omega) ?_
  simp [Health.d]

theorem f_specTake {h : Health} (hf : h.Fit) (p : Prb) : e_spec_TakeProbe.F [h.d, p.d] = some (taken (h.take p)) := by
  rw [q_spec_TakeProbe]
  have hgd := f_specGoodHealth h hf
  have hlen : (h.d.fld 2).l.length = h.hosts.length := by simp [Health.d]
  have hp0 : p.d.fld 0 = .int p.host := rfl
  rw [hlen, hp0, wrap_len (Nat.le_trans hf.len lim_smax)]
  have hw := f_l1In' p.host 0 (h.hosts.length - 1)
  unfold Health.take
  cases hg : h.good with
  | false =>
    rw [hg] at hgd
    refine rn_bind (r := (0, [.bool true])) (out_call hgd (out_if rfl rfl)) ?_
    rfl
  | true =>
    rw [hg] at hgd
    cases hr : inR p.host 0 (h.hosts.length - 1) with
    | false =>
      rw [hr] at hw
      refine rn_bind (r := (0, [.bool true])) (out_call hgd (out_else (by simp) (out_call hw rfl))) ?_
      rfl
    | true =>
      rw [hr] at hw
      refine rn_bind (r := (0, [.bool false])) (out_call hgd (out_else (by simp) (out_call hw rfl))) ?_
      simp only [inR, Bool.and_eq_true, decide_eq_true_eq] at hr
      obtain ⟨ph, pf⟩ := p
      obtain ⟨i, rfl⟩ := Int.eq_ofNat_of_zero_le hr.1
      simp only [sel2_zero, gd_zero]
      have hi : i < h.hosts.length := by simp at hr; omega
      refine rn_else (by simp) (rn_call (f_specOwn hf.len) (rn_if (by simpa [Health.d] using inb_nat hi) ?_))
      have hrow := Health.row_R hg (List.getElem_mem hi)
      have hgd : gd (h.hosts.map Host.d) i = h.hosts[i].d := gd_hosts hi
      have hl : i < (h.hosts.map Host.d).length := by simpa using hi
      have hwr : IntKind.wrap .i64 (h.hosts[i].row + 1) = h.hosts[i].row + 1 := wrap_id (by omega) (by omega)
      have e1 : ((Prb.mk i pf).d.fld 1).b = pf := rfl
      have hx1 : (h.hosts[i].d.fld 1).b = h.hosts[i].up := rfl
      have hx2 : (h.hosts[i].d.fld 2).i = h.hosts[i].row := rfl
      have hh2 : (h.d.fld 2).l = h.hosts.map Host.d := rfl
      simp only [D.l_lst, D.i_int, Int.toNat_natCast, e1, hh2, hgd, hx1, hx2, hwr, gd_set hl]
      show _ = some (taken ((h.probed i pf).1, (h.probed i pf).2, true))
      unfold taken Health.probed Health.stepH
      simp only [Health.put_d, Health.host_lt hi]
      by_cases hu : h.hosts[i].up = pf
      · refine rn_if (by simpa using hu.symm) ?_
        rw [if_pos (by simpa using hu)]
        rfl
      · refine rn_else (by simpa using Ne.symm hu) ?_
        rw [if_neg (by simpa using hu)]
        refine rn_call (f_l13Most h h.hosts[i]) ?_
        by_cases hr : h.hosts[i].row + 1 < h.most h.hosts[i]
        · refine rn_if (decide_eq_true hr) ?_
          rw [if_pos hr]
          rfl
        · refine rn_else (fun hc => hr (of_decide_eq_true hc)) ?_
          rw [if_neg hr, List.set_set]
          rfl
end Go.Proofs.YtbanjbafckgghaaDoor

/-! Health: new, and played. -/
namespace Go.Proofs.YtbanjbafckgghaaDoor
open Go Go.Own

def Health.new (r f : Int) (ls : List (List UInt8)) : Health := ⟨r, f, ls.map (⟨·, true, 0⟩)⟩
def Health.start (r f : Int) (ls : List (List UInt8)) : Health × Bool := if (Health.new r f ls).good then (Health.new r f ls, true) else (Health.nul, false)
def started (x : Health × Bool) : D := .pair x.1.d (.pair (.bool x.2) .unit)

theorem Health.new_len (r f : Int) (ls : List (List UInt8)) : (Health.new r f ls).hosts.length = ls.length := by simp [Health.new]
theorem Health.new_names (r f : Int) (ls : List (List UInt8)) : (Health.new r f ls).names = ls := by simp [Health.new, Health.names, Function.comp_def]

theorem rn_fold {σ : Type} {o : Outc} {x : Sum σ (Nat × List D)} {T : Nat} {out : σ → List D} {k : Nat × List D → Outc} {R : Option D}
    (h : o = match x with
      | .inl s => some (T, out s)
      | .inr e => some e) (hl : ∀ s, x = .inl s → rn (k (T, out s)) = R) (hr : ∀ e, x = .inr e → rn (k e) = R) : rn (o.bind k) = R := by
  subst h
  cases x with
  | inl s => exact hl s rfl
  | inr e => exact hr e rfl

def newAt (r f : Int) (ls : List (List UInt8)) (i : Nat) : D := .pair (.int r) (.pair (.int f) (.pair (.lst (((Health.new r f ls).hosts.map Host.d).take i)) .unit))
theorem newAt_all (r f : Int) (ls : List (List UInt8)) : newAt r f ls ls.length = (Health.new r f ls).d := by
  have : ((Health.new r f ls).hosts.map Host.d).take ls.length = (Health.new r f ls).hosts.map Host.d := List.take_of_length_le (by simp [Health.new])
  simp only [newAt, this]; rfl
theorem newAt_succ {r f : Int} {ls : List (List UInt8)} {i : Nat} (hi : i < ls.length) :
    (newAt r f ls i).setFld 2 (.lst (((newAt r f ls i).fld 2).l ++ [.pair (.str (ls.getD i [])) (.pair (.bool true) (.pair (.int 0) .unit))])) = newAt r f ls (i + 1) := by
  have hi' : i < ((Health.new r f ls).hosts.map Host.d).length := by simpa [Health.new] using hi
  simp only [newAt, D.setFld, D.fld, D.fst_pair, D.snd_pair, D.l_lst, List.take_succ_eq_append_getElem hi']
  simp [Health.new, Host.d, hi]
theorem newAt_len {r f : Int} {ls : List (List UInt8)} {i : Nat} (hi : i ≤ ls.length) : ((newAt r f ls i).fld 2).l.length = i := by
  simp [newAt, Health.new]; omega

theorem new_app {r f : Int} {ls : List (List UInt8)} {i : Nat} {x : D} (hi : i ≤ ls.length) (hl : ls.length ≤ lim) : appOk 32 ((newAt r f ls i).fld 2).l [x] = true := by
  have hlim : lim = 1048576 := rfl
  unfold appOk; rw [newAt_len hi]; simp [smax_eq]; omega

theorem nameOk_any (ls : List (List UInt8)) : inR ls.length 1 12 = false → (Health.new 0 0 ls).good = false := by
  intro h
  simp [Health.good, Health.new_len, h]

theorem f_implNew (r f : Int) (ls : List (List UInt8)) : e_impl_NewHealth.F [.int r, .int f, .lst (ls.map .str)] = some (started (Health.start r f ls)) := by
  rw [q_impl_NewHealth]
  have hlim : lim = 1048576 := rfl
  have hlen : (D.lst (ls.map D.str)).l.length = ls.length := by simp
  rw [hlen]
  by_cases h12 : ls.length > 12
  · refine rn_if (decide_eq_true (by omega)) ?_
    have : (Health.new r f ls).good = false := by
      have h : inR (ls.length : Int) 1 12 = false := by simp [inR]; omega
      simp [Health.good, Health.new_len, h]
    simp [Health.start, this, started, Health.nul, Health.d]
  · refine rn_else (fun h => h12 (by have := of_decide_eq_true h; omega)) ?_
    have hsm : ls.length ≤ smax := by rw [smax_eq]; omega
    refine rn_bind (loop_for' (fun i (z : D) => [z, .int i]) ls.length (newAt r f ls) (t := 0) (o := [(Health.new r f ls).d]) (by simp [newAt]) ?_ ?_) ?_
    · intro i hi
      have hg : gd (D.lst (ls.map D.str)).l i = .str (ls.getD i []) := gd_strs hi
      refine out_if (by simpa using hi) (out_if (by simpa using inb_nat hi) (out_if (new_app (Nat.le_of_lt hi) (by omega)) ?_))
      have e0 : (gd [newAt r f ls i, D.int (i : Int)] 1).i.toNat = i := by simp
      have e1 : (gd [newAt r f ls i, D.int (i : Int)] 1).i = i := rfl
      have e2 : gd [newAt r f ls i, D.int (i : Int)] 0 = newAt r f ls i := rfl
      rw [e0, e1, e2, hg, newAt_succ hi, wrap_succ hi hsm]
    · simp [newAt_all]
    · simp only [sel2_zero, gd_zero]
      refine rn_call (f_implGoodHealth _ (by rw [Health.new_len]; exact hsm)) ?_
      unfold Health.start
      cases (Health.new r f ls).good <;> simp [started, Health.nul, Health.d]

theorem Health.new_good (r f : Int) (ls : List (List UInt8)) : (Health.new r f ls).good = (inR r 1 10 && (inR f 1 10 && (allN ls.length (nameOk ls) && inR ls.length 1 12))) := by
  unfold Health.good
  rw [Health.new_names, Health.new_len]
  show ((inR r 1 10 && (inR f 1 10 && inR (ls.length : Int) 1 12)) && _) = _
  cases h1 : inR r 1 10 with
  | false => rfl
  | true =>
    cases h2 : inR f 1 10 with
    | false => rfl
    | true =>
      have : (Health.new r f ls).hosts.all (Health.new r f ls).rowOk = true := by
        rw [List.all_eq_true]
        intro x hx
        obtain ⟨s, hs, rfl⟩ := List.mem_map.1 hx
        simp only [inR, Bool.and_eq_true, decide_eq_true_eq] at h2
        simp [Health.rowOk, inR, Health.most, Health.new]
        omega
      rw [this]
      cases inR (ls.length : Int) 1 12 <;> simp

theorem f_specNew (r f : Int) (ls : List (List UInt8)) (hl : ls.length ≤ lim) (hm : ∀ s ∈ ls, s.length ≤ lim) : e_spec_NewHealth.F [.int r, .int f, .lst (ls.map .str)] = some (started (Health.start r f ls)) := by
  rw [q_spec_NewHealth]
  have hsm := Nat.le_trans hl lim_smax
  have hlen : (D.lst (ls.map D.str)).l.length = ls.length := by simp
  rw [hlen]
  have w1 := f_l1In' r 1 10
  have w2 := f_l1In' f 1 10
  have w3 := f_l13Names ls hl hm
  refine rn_bind (r := (0, [.bool (!(Health.new r f ls).good)])) ?_ ?_
  · rw [Health.new_good]
    cases r1 : inR r 1 10 with
    | false => rw [r1] at w1; exact out_call w1 (out_if rfl rfl)
    | true =>
      rw [r1] at w1
      cases r2 : inR f 1 10 with
      | false => rw [r2] at w2; exact out_call w1 (out_else (by simp) (out_call w2 (out_if rfl rfl)))
      | true => rw [r2] at w2; exact out_call w1 (out_else (by simp) (out_call w2 (out_else (by simp) (out_call w3 (by simp)))))
  · unfold Health.start
    cases hg : (Health.new r f ls).good with
    | false => simp [started, Health.nul, Health.d]
    | true =>
      simp only [sel2_zero, gd_zero]
      refine rn_else (by simp) ?_
      refine rn_bind (loop_for' (fun i (z : D) => [z, .int i]) ls.length (newAt r f ls) (t := 0) (o := [(Health.new r f ls).d]) (by simp [newAt]) ?_ ?_) ?_
      · intro i hi
        have hg : gd (D.lst (ls.map D.str)).l i = .str (ls.getD i []) := gd_strs hi
        refine out_if (by simpa using hi) (out_if (by simpa using inb_nat hi) (out_if (new_app (Nat.le_of_lt hi) hl) ?_))
        have e0 : (gd [newAt r f ls i, D.int (i : Int)] 1).i.toNat = i := by simp
        have e1 : (gd [newAt r f ls i, D.int (i : Int)] 1).i = i := rfl
        have e2 : gd [newAt r f ls i, D.int (i : Int)] 0 = newAt r f ls i := rfl
        rw [e0, e1, e2, hg, newAt_succ hi, wrap_succ hi hsm]
      · simp [newAt_all]
      · simp [started]

/-! played -/
structure Pl where
  h : Health
  n : Nat
  ok : Bool
def Pl.d (x : Pl) : D := .pair x.h.d (.pair (.int x.n) (.pair (.bool x.ok) .unit))
def Pl.nul : Pl := ⟨.nul, 0, false⟩
def Pl.enc (i : Nat) (s : Health × Nat) : List D := [s.1.d, .int s.2, .int i]
/-- one probe on -/
def playG (_ : Nat) (s : Health × Nat) (p : Prb) : Sum (Health × Nat) (Nat × List D) :=
  if inR p.host 0 (s.1.hosts.length - 1) then .inl ((s.1.probed p.host.toNat p.fine).1, if (s.1.probed p.host.toNat p.fine).2 then s.2 + 1 else s.2)
  else .inr (0, [Health.nul.d, .int 0, .bool false])
def Health.play (r f : Int) (ls : List (List UInt8)) (ps : List Prb) : Pl :=
  if !(Health.start r f ls).2 || decide (ps.length > 200) then Pl.nul
  else match foldE playG 0 ((Health.start r f ls).1, 0) ps with
    | .inl s => ⟨s.1, s.2, true⟩
    | .inr _ => Pl.nul

theorem playG_inr {i : Nat} {ps : List Prb} {s : Health × Nat} {e : Nat × List D} : foldE playG i s ps = .inr e → e = (0, [Health.nul.d, .int 0, .bool false]) := by
  induction ps generalizing i s with
  | nil => intro h; cases h
  | cons p ps ih =>
    intro h
    unfold foldE playG at h
    by_cases hc : inR p.host 0 (s.1.hosts.length - 1) = true
    · rw [if_pos hc] at h; exact ih h
    · rw [if_neg hc] at h; cases h; rfl

def PlInv (i : Nat) (s : Health × Nat) : Prop := s.1.good = true ∧ s.2 ≤ i
theorem playG_inv {i : Nat} {s : Health × Nat} {p : Prb} {s' : Health × Nat} (hs : PlInv i s) (h : playG i s p = .inl s') : PlInv (i + 1) s' := by
  unfold playG at h
  by_cases hc : inR p.host 0 (s.1.hosts.length - 1) = true
  · rw [if_pos hc] at h
    cases h
    simp only [inR, Bool.and_eq_true, decide_eq_true_eq] at hc
    refine ⟨Health.probed_good hs.1 (by omega) _, ?_⟩
    have := hs.2
    simp only
    split <;> omega
  · rw [if_neg hc] at h; cases h

theorem gd_prbs {ps : List Prb} {i : Nat} (hi : i < ps.length) : gd (ps.map Prb.d) i = ps[i].d := by
  rw [gd_lt (by simpa using hi)]; simp

theorem start_good {r f : Int} {ls : List (List UInt8)} (h : (Health.start r f ls).2 = true) : (Health.start r f ls).1.good = true := by
  unfold Health.start at h ⊢
  by_cases hg : (Health.new r f ls).good = true
  · rw [if_pos hg]; exact hg
  · rw [if_neg hg] at h; cases h

theorem f_implPlay (r f : Int) (ls : List (List UInt8)) (ps : List Prb) : e_impl_PlayProbes.F [.int r, .int f, .lst (ls.map .str), .lst (ps.map Prb.d)] = some (Health.play r f ls ps).d := by
  rw [q_impl_PlayProbes]
  refine rn_call (f_implNew r f ls) ?_
  have hlen : (D.lst (ps.map Prb.d)).l.length = ps.length := by simp
  have hb : ((started (Health.start r f ls)).fld 1).b = (Health.start r f ls).2 := rfl
  have h0 : (started (Health.start r f ls)).fld 0 = (Health.start r f ls).1.d := rfl
  rw [hlen, hb, h0]
  refine rn_bind (r := (0, [.bool (!(Health.start r f ls).2 || decide (ps.length > 200))])) ?_ ?_
  · cases (Health.start r f ls).2 with
    | false => rfl
    | true =>
      have : decide ((ps.length : Int) > 200) = decide (ps.length > 200) := by rw [decide_eq_decide]; omega
      simp [this]
  · unfold Health.play
    simp only [sel2_zero, gd_zero]
    by_cases hc : (!(Health.start r f ls).2 || decide (ps.length > 200)) = true
    · rw [hc]
      refine rn_if rfl ?_
      simp [Pl.nul, Pl.d, Health.nul, Health.d]
    · rw [if_neg hc]
      refine rn_else (by simpa using hc) ?_
      simp only [Bool.or_eq_true, Bool.not_eq_true', decide_eq_true_eq, not_or, Bool.not_eq_false] at hc
      have hsm : ps.length ≤ smax := by rw [smax_eq]; omega
      have hg := start_good hc.1
      refine rn_fold (loop_foldE' (T := 1) (out := fun s => [s.1.d, .int s.2]) Pl.enc ps playG PlInv ((Health.start r f ls).1, 0) rfl ⟨hg, Nat.le_refl _⟩ ?_ ?_) ?_ ?_
      · intro i s hi hs
        have hgp : gd (D.lst (ps.map Prb.d)).l i = ps[i].d := gd_prbs hi
        have hlh := Health.len_R hs.1
        have key : ∀ R, (
            (e_impl_within.F [(ps[i].d.fld 0), (.int 0), (.int (s.1.hosts.length - 1))]).bind fun r9 =>
            if (!r9.b) then
              ou 1 [(.pair (.int 0) (.pair (.int 0) (.pair (D.lst []) .unit))), (.int 0), (.bool false)]
            else
              (e_impl_probed.F [s.1.d, ps[i].d]).bind fun r10 =>
              (if (r10.fld 1).b then
                  ou 0 [(.int (IntKind.wrap .i64 ((s.2 : Int) + 1)))]
                else
                  ou 0 [.int s.2]).bind fun o11 =>
              sel2 o11.1 (ou 0 [(r10.fld 0), (gd o11.2 0), (.int ((i + 1 : Nat) : Int))]) fun _ => none) = R →
            (if (decide ((gd (Pl.enc i s) 2).i < (ps.length : Int))) then
            if (inb (gd (Pl.enc i s) 2).i ps.length) then
            (e_impl_within.F [((gd (D.lst (ps.map Prb.d)).l (gd (Pl.enc i s) 2).i.toNat).fld 0), (.int 0), (.int (IntKind.wrap .i64 ((((gd (Pl.enc i s) 0).fld 2).l.length : Int) - 1)))]).bind fun r9 =>
            if (!r9.b) then
              ou 1 [(.pair (.int 0) (.pair (.int 0) (.pair (D.lst []) .unit))), (.int 0), (.bool false)]
            else
              (e_impl_probed.F [(gd (Pl.enc i s) 0), (gd (D.lst (ps.map Prb.d)).l (gd (Pl.enc i s) 2).i.toNat)]).bind fun r10 =>
              (if (r10.fld 1).b then
                  ou 0 [(.int (IntKind.wrap .i64 ((gd (Pl.enc i s) 1).i + 1)))]
                else
                  ou 0 [(gd (Pl.enc i s) 1)]).bind fun o11 =>
              sel2 o11.1 (ou 0 [(r10.fld 0), (gd o11.2 0), (.int (IntKind.wrap .i64 ((gd (Pl.enc i s) 2).i + 1)))]) fun _ => none
            else none
          else
            ou 2 [(gd (Pl.enc i s) 0), (gd (Pl.enc i s) 1)]) = R := by
          intro R hR
          refine out_if (by simpa [Pl.enc] using hi) (out_if (by simpa [Pl.enc] using inb_nat hi) ?_)
          have e0 : (gd (Pl.enc i s) 2).i.toNat = i := by simp [Pl.enc]
          have e1 : (gd (Pl.enc i s) 2).i = i := rfl
          have e2 : gd (Pl.enc i s) 0 = s.1.d := rfl
          have e3 : gd (Pl.enc i s) 1 = .int s.2 := rfl
          have e4 : (s.1.d.fld 2).l.length = s.1.hosts.length := by simp [Health.d]
          rw [e0, e1, e2, e3, e4, hgp, wrap_len (by rw [smax_eq]; omega), wrap_succ hi hsm]
          exact hR
        have hw := f_within' ps[i].host 0 (s.1.hosts.length - 1)
        unfold playG
        cases hr : inR ps[i].host 0 (s.1.hosts.length - 1) with
        | false =>
          rw [hr] at hw
          exact key _ (out_call hw (out_if rfl rfl))
        | true =>
          rw [hr] at hw
          refine ⟨key _ (out_call hw (out_else (by simp) ?_)), ?_⟩
          · have hr' := hr
            simp only [inR, Bool.and_eq_true, decide_eq_true_eq] at hr'
            have hp := f_implProbed (h := s.1) (i := ps[i].host.toNat) (fine := ps[i].fine) hs.1 (by omega)
            rw [Int.toNat_of_nonneg hr'.1] at hp
            refine out_call hp ?_
            have hw1 : IntKind.wrap .i64 ((s.2 : Int) + 1) = ((s.2 + 1 : Nat) : Int) := by
              have := hs.2
              rw [wrap_id] <;> omega
            rw [hw1]
            simp only [D.fld, D.fst_pair, D.snd_pair, D.b_bool]
            cases (s.1.probed ps[i].host.toNat ps[i].fine).2 <;> rfl
          · refine playG_inv (p := ps[i]) hs ?_
            unfold playG
            rw [if_pos hr]
      · intro s _
        simp [Pl.enc]
      · intro s hf
        rw [hf]; simp [Pl.d]
      · intro e hf
        rw [hf]
        have := playG_inr hf
        subst this
        simp [Pl.d, Pl.nul]

theorem f_specPlay (r f : Int) (ls : List (List UInt8)) (ps : List Prb) (hl : ls.length ≤ lim) (hm : ∀ s ∈ ls, s.length ≤ lim) : e_spec_PlayProbes.F [.int r, .int f, .lst (ls.map .str), .lst (ps.map Prb.d)] = some (Health.play r f ls ps).d := by
  rw [q_spec_PlayProbes]
  refine rn_call (f_specNew r f ls hl hm) ?_
  have hlen : (D.lst (ps.map Prb.d)).l.length = ps.length := by simp
  have hb : ((started (Health.start r f ls)).fld 1).b = (Health.start r f ls).2 := rfl
  have h0 : (started (Health.start r f ls)).fld 0 = (Health.start r f ls).1.d := rfl
  rw [hlen, hb, h0]
  refine rn_bind (r := (0, [.bool (!(Health.start r f ls).2 || decide (ps.length > 200))])) ?_ ?_
  · cases (Health.start r f ls).2 with
    | false => rfl
    | true =>
      have : decide ((ps.length : Int) > 200) = decide (ps.length > 200) := by rw [decide_eq_decide]; omega
      simp [this]
  · unfold Health.play
    simp only [sel2_zero, gd_zero]
    by_cases hc : (!(Health.start r f ls).2 || decide (ps.length > 200)) = true
    · rw [hc]
      refine rn_if rfl ?_
      simp [Pl.nul, Pl.d, Health.nul, Health.d]
    · rw [if_neg hc]
      refine rn_else (by simpa using hc) ?_
      simp only [Bool.or_eq_true, Bool.not_eq_true', decide_eq_true_eq, not_or, Bool.not_eq_false] at hc
      have hsm : ps.length ≤ smax := by rw [smax_eq]; omega
      have hg := start_good hc.1
      refine rn_fold (loop_foldE' (T := 1) (out := fun s => [s.1.d, .int s.2]) Pl.enc ps playG PlInv ((Health.start r f ls).1, 0) rfl ⟨hg, Nat.le_refl _⟩ ?_ ?_) ?_ ?_
      · intro i s hi hs
        have hgp : gd (D.lst (ps.map Prb.d)).l i = ps[i].d := gd_prbs hi
        have hlh := Health.len_R hs.1
        have ht := f_specTake (Health.good_fit hs.1) ps[i]
        have key : ∀ R, (
            ((e_spec_TakeProbe.F [s.1.d, ps[i].d]).bind fun r9 =>
              if (!(r9.fld 2).b) then
                ou 1 [(.pair (.int 0) (.pair (.int 0) (.pair (D.lst []) .unit))), (.int 0), (.bool false)]
              else
                if (r9.fld 1).b then
                  ou 0 [(r9.fld 0), (.int (IntKind.wrap .i64 ((s.2 : Int) + 1)))]
                else
                  ou 0 [(r9.fld 0), .int s.2]).bind fun o9 =>
            sel2 o9.1 (ou 0 [(gd o9.2 0), (gd o9.2 1), (.int ((i + 1 : Nat) : Int))]) fun n12 =>
            sel2 n12 (ou 1 [(gd o9.2 0), (gd o9.2 1), (gd o9.2 2)]) fun _ => none) = R →
            (if (decide ((gd (Pl.enc i s) 2).i < (ps.length : Int))) then
            (if (inb (gd (Pl.enc i s) 2).i ps.length) then
              (e_spec_TakeProbe.F [(gd (Pl.enc i s) 0), (gd (D.lst (ps.map Prb.d)).l (gd (Pl.enc i s) 2).i.toNat)]).bind fun r9 =>
              if (!(r9.fld 2).b) then
                ou 1 [(.pair (.int 0) (.pair (.int 0) (.pair (D.lst []) .unit))), (.int 0), (.bool false)]
              else
                if (r9.fld 1).b then
                  ou 0 [(r9.fld 0), (.int (IntKind.wrap .i64 ((gd (Pl.enc i s) 1).i + 1)))]
                else
                  ou 0 [(r9.fld 0), (gd (Pl.enc i s) 1)]
              else none).bind fun o9 =>
            sel2 o9.1 (ou 0 [(gd o9.2 0), (gd o9.2 1), (.int (IntKind.wrap .i64 ((gd (Pl.enc i s) 2).i + 1)))]) fun n12 =>
            sel2 n12 (ou 1 [(gd o9.2 0), (gd o9.2 1), (gd o9.2 2)]) fun _ => none
          else
            ou 2 [(gd (Pl.enc i s) 0), (gd (Pl.enc i s) 1)]) = R := by
          intro R hR
          refine out_if (by simpa [Pl.enc] using hi) ?_
          have e0 : (gd (Pl.enc i s) 2).i.toNat = i := by simp [Pl.enc]
          have e1 : (gd (Pl.enc i s) 2).i = i := rfl
          have e2 : gd (Pl.enc i s) 0 = s.1.d := rfl
          have e3 : gd (Pl.enc i s) 1 = .int s.2 := rfl
          have e5 : inb (i : Int) ps.length = true := inb_nat hi
          rw [e0, e1, e2, e3, hgp, wrap_succ hi hsm, if_pos e5]
          exact hR
        unfold Health.take at ht
        rw [hs.1] at ht
        unfold playG
        cases hr : inR ps[i].host 0 (s.1.hosts.length - 1) with
        | false =>
          rw [hr] at ht
          exact key _ (out_bind (r := (1, [Health.nul.d, .int 0, .bool false])) (out_call ht (out_if rfl rfl)) rfl)
        | true =>
          rw [hr] at ht
          refine ⟨key _ ?_, ?_⟩
          · have hw1 : IntKind.wrap .i64 ((s.2 : Int) + 1) = ((s.2 + 1 : Nat) : Int) := by
              have := hs.2
              rw [wrap_id] <;> omega
            rw [hw1]
            refine out_bind (r := (0, [(s.1.probed ps[i].host.toNat ps[i].fine).1.d, .int ((if (s.1.probed ps[i].host.toNat ps[i].fine).2 then s.2 + 1 else s.2 : Nat) : Int)])) (out_call ht (out_else (by simp [taken]) ?_)) rfl
            simp only [Bool.and_self, if_true, taken, D.fld, D.fst_pair, D.snd_pair, D.b_bool]
            cases (s.1.probed ps[i].host.toNat ps[i].fine).2 <;> rfl
          · refine playG_inv (p := ps[i]) hs ?_
            unfold playG
            rw [if_pos hr]
      · intro s _
        simp [Pl.enc]
      · intro s hf
        rw [hf]; simp [Pl.d]
      · intro e hf
        rw [hf]
        have := playG_inr hf
        subst this
        simp [Pl.d, Pl.nul]
end Go.Proofs.YtbanjbafckgghaaDoor

/-! Health: what the laws look at. -/
namespace Go.Own
variable [Glb]
open Go
theorem rn_else_exH {α : Type} {g : α → D} {c : Prop} [Decidable c] {a b : Outc} (h : ¬ c) (hk : ∃ s, rn b = some (g s)) : ∃ s, rn (if c then a else b) = some (g s) := by rw [if_neg h]; exact hk
/-- a number's digits, the last first -/
theorem digits_loopH {f : List D → Outc} {c : Nat × List D → Outc} {k : Int} (h0 : 0 ≤ k) (h1 : k < 10 ^ 18)
    (hs : ∀ (n : Int) (s : List UInt8), 0 < n → n < 10 ^ 18 → s.length ≤ 30 → ∃ c : List UInt8, c.length = 1 ∧ f [.int n, .str s] = some (0, [.int (n.tdiv 10), .str (c ++ s)]))
    (he : ∀ (n : Int) (s : List UInt8), n ≤ 0 → f [.int n, .str s] = some (1, [.str s])) (hc : ∀ s : List UInt8, s.length ≤ 30 → ∃ s', rn (c (0, [.str s])) = some (.str s')) :
    ∃ s, rn ((loopF f [.int k, .str []]).bind c) = some (.str s) := by
  have key : ∀ (fuel : Nat), fuel ≤ 18 → ∀ (n : Int) (s : List UInt8), 0 ≤ n → n < 10 ^ fuel → s.length + fuel ≤ 30 → ∃ s', loopF f [.int n, .str s] = some (0, [.str s']) ∧ s'.length ≤ 30 := by
    intro fuel
    induction fuel with
    | zero =>
      intro _ n s h0 h1 h2
      exact ⟨s, loopF_exit (he n s (by simp at h1; omega)), by omega⟩
    | succ m ih =>
      intro hm n s h0 h1 h2
      by_cases hn : n ≤ 0
      · exact ⟨s, loopF_exit (he n s hn), by omega⟩
      · have hp : (10 : Int) ^ (m + 1) = 10 ^ m * 10 := Int.pow_succ 10 m
        have hp2 : (10 : Int) ^ (m + 1) ≤ 10 ^ 18 := by
          have := Nat.pow_le_pow_right (n := 10) (by omega) hm
          exact_mod_cast this
        obtain ⟨c, hc, hstep⟩ := hs n s (by omega) (by omega) (by omega)
        rw [loopF_step hstep]
        have h3 : n.tdiv 10 = n / 10 := Int.tdiv_eq_ediv_of_nonneg (by omega)
        refine ih (by omega) (n.tdiv 10) (c ++ s) (by omega) ?_ (by simp; omega)
        rw [h3]
        omega
  obtain ⟨s, h2, h3⟩ := key 18 (Nat.le_refl _) k [] h0 h1 (by simp)
  rw [h2]
  exact hc s h3
end Go.Own
namespace Go.Proofs.YtbanjbafckgghaaDoor
open Go Go.Own

abbrev tHost : T := .pair .str (.pair .bool (.pair (.int .i64) .unit))
abbrev tHealth : T := .pair (.int .i64) (.pair (.int .i64) (.pair (.lst false tHost) .unit))
abbrev tPrb : T := .pair (.int .i64) (.pair .bool .unit)

def in64 (n : Int) : Prop := -9223372036854775808 ≤ n ∧ n ≤ 9223372036854775807
theorem sm_int {B : Nat} {d : D} (h : Sm B (.int .i64) d) : ∃ n, d = .int n ∧ in64 n := by
  obtain ⟨n, rfl, h1, h2⟩ := h
  exact ⟨n, rfl, h1, h2⟩
structure Host.In (B : Nat) (x : Host) : Prop where
  nm : x.name.length ≤ B
  row : in64 x.row
structure Health.In (B : Nat) (h : Health) : Prop where
  len : h.hosts.length ≤ B
  all : ∀ x ∈ h.hosts, x.In B
  rise : in64 h.rise
  fall : in64 h.fall
theorem Health.In.fit {h : Health} (hi : h.In lim) : h.Fit := ⟨hi.len, fun x hx => (hi.all x hx).nm, fun x hx => (hi.all x hx).row, hi.rise, hi.fall⟩
theorem host_of {B : Nat} {d : D} (h : Sm B tHost d) : ∃ x : Host, d = x.d ∧ x.In B := by
  obtain ⟨_, _, rfl, ⟨s, rfl, hs⟩, _, _, rfl, ⟨b, rfl⟩, _, _, rfl, hc, rfl⟩ := h
  obtain ⟨n, rfl, hn⟩ := sm_int hc
  exact ⟨⟨s, b, n⟩, rfl, hs, hn⟩
theorem list_of {α : Type} {g : α → D} {Q : α → Prop} : ∀ {xs : List D}, (∀ x ∈ xs, ∃ y : α, x = g y ∧ Q y) → ∃ ys : List α, xs = ys.map g ∧ ∀ y ∈ ys, Q y
  | [], _ => ⟨[], rfl, by simp⟩
  | x :: xs, h => by
    obtain ⟨y, rfl, hy⟩ := h x (by simp)
    obtain ⟨ys, rfl, hys⟩ := list_of (xs := xs) (fun z hz => h z (by simp [hz]))
    exact ⟨y :: ys, rfl, by simpa using ⟨hy, hys⟩⟩
theorem health_of {B : Nat} {d : D} (h : Sm B tHealth d) : ∃ x : Health, d = x.d ∧ x.In B := by
  obtain ⟨_, _, rfl, ha, _, _, rfl, hb, _, _, rfl, ⟨xs, rfl, hl, hc⟩, rfl⟩ := h
  obtain ⟨a, rfl, ra⟩ := sm_int ha
  obtain ⟨b, rfl, rb⟩ := sm_int hb
  obtain ⟨ys, rfl, hys⟩ := list_of (g := Host.d) (Q := Host.In B) (fun x hx => host_of (hc x hx))
  exact ⟨⟨a, b, ys⟩, rfl, by simpa using hl, hys, ra, rb⟩
theorem prb_of {B : Nat} {d : D} (h : Sm B tPrb d) : ∃ x : Prb, d = x.d ∧ in64 x.host := by
  obtain ⟨_, _, rfl, ha, _, _, rfl, ⟨b, rfl⟩, rfl⟩ := h
  obtain ⟨a, rfl, ra⟩ := sm_int ha
  exact ⟨⟨a, b⟩, rfl, ra⟩
theorem prbs_of {B : Nat} {o : Bool} {d : D} (h : Sm B (.lst o tPrb) d) : ∃ xs : List Prb, d = .lst (xs.map Prb.d) ∧ xs.length ≤ B := by
  obtain ⟨xs, rfl, hl, hc⟩ := h
  obtain ⟨ys, rfl, _⟩ := list_of (g := Prb.d) (Q := fun x => in64 x.host) (fun x hx => prb_of (hc x hx))
  exact ⟨ys, rfl, by simpa using hl⟩
theorem strs_of {B : Nat} {o : Bool} {d : D} (h : Sm B (.lst o .str) d) : ∃ xs : List (List UInt8), d = .lst (xs.map D.str) ∧ xs.length ≤ B ∧ ∀ s ∈ xs, s.length ≤ B := by
  obtain ⟨xs, rfl, hl, hc⟩ := h
  obtain ⟨ys, rfl, hy⟩ := list_of (g := D.str) (Q := fun s => s.length ≤ B) (fun x hx => hc x hx)
  exact ⟨ys, rfl, by simpa using hl, hy⟩

/-! the same is alike -/
theorem f_eqHost (x : Host) : e_laws_eqHost.F [x.d, x.d] = some (.bool true) := by
  rw [q_laws_eqHost]; simp [Host.d]
theorem f_eqHostS {xs : List Host} (hl : xs.length ≤ smax) : e_laws_eqHostS.F [.lst (xs.map Host.d), .lst (xs.map Host.d)] = some (.bool true) := by
  rw [q_laws_eqHostS, if_neg (by simp)]
  refine rn_bind (loop_for' (fun i (_ : Unit) => [.int i]) xs.length (fun _ => ()) (t := 1) (o := []) rfl ?_ ?_) rfl
  · intro i hi
    simp [hi, gd_hosts hi, inb_nat hi, wrap_succ hi hl, f_eqHost]
  · simp
theorem f_eqHealth {h : Health} (hl : h.hosts.length ≤ smax) : e_laws_eqHealth.F [h.d, h.d] = some (.bool true) := by
  rw [q_laws_eqHealth, if_neg (by simp), if_neg (by simp)]
  exact rn_call (f_eqHostS hl) rfl
theorem f_eqStringS {ls : List (List UInt8)} (hl : ls.length ≤ smax) : e_laws_eqStringS.F [.lst (ls.map D.str), .lst (ls.map D.str)] = some (.bool true) := by
  rw [q_laws_eqStringS, if_neg (by simp)]
  refine rn_bind (loop_for' (fun i (_ : Unit) => [.int i]) ls.length (fun _ => ()) (t := 1) (o := []) rfl ?_ ?_) rfl
  · intro i hi
    simp [hi, gd_strs hi, inb_nat hi, wrap_succ hi hl]
  · simp
theorem f_eqProbeS {ps : List Prb} (hl : ps.length ≤ smax) : e_laws_eqProbeS.F [.lst (ps.map Prb.d), .lst (ps.map Prb.d)] = some (.bool true) := by
  rw [q_laws_eqProbeS, if_neg (by simp)]
  refine rn_bind (loop_for' (fun i (_ : Unit) => [.int i]) ps.length (fun _ => ()) (t := 1) (o := []) rfl ?_ ?_) rfl
  · intro i hi
    have : e_laws_eqProbe.F [ps[i].d, ps[i].d] = some (.bool true) := by rw [q_laws_eqProbe]; simp [Prb.d]
    simp [hi, gd_prbs hi, inb_nat hi, wrap_succ hi hl, this]
  · simp

/-! what is taken over is the same -/
theorem f_toHostS {xs : List Host} (hl : xs.length ≤ lim) : e_laws_toHostS.F [.lst (xs.map Host.d)] = some (.lst (xs.map Host.d)) := by
  have hlen : (D.lst (xs.map Host.d)).l.length = xs.length := by simp
  rw [q_laws_toHostS, hlen]; refine rn_if (makeOk_nat hl (by decide)) ?_
  refine rn_bind (loop_for' (fun i (zs : List D) => [.lst zs, .int i]) xs.length (filled (xs.map Host.d) (.pair (.str []) (.pair (.bool false) (.pair (.int 0) .unit)))) (t := 0) (o := [.lst (xs.map Host.d)]) (by simp [filled_zero]) ?_ ?_) rfl
  · intro i hi
    have hm : i < (xs.map Host.d).length := by simpa using hi
    have hf := filled_set (z := (.pair (.str []) (.pair (.bool false) (.pair (.int 0) .unit)))) hm
    have ht : e_laws_toHost.F [xs[i].d] = some xs[i].d := by rw [q_laws_toHost]; rfl
    rw [List.getElem_map] at hf
    simp [hi, gd_hosts hi, inb_nat hi, wrap_succ hi (Nat.le_trans hl lim_smax), filled_length (Nat.le_of_lt hm), hf, ht]
  · have := filled_all (xs := xs.map Host.d) (z := (.pair (.str []) (.pair (.bool false) (.pair (.int 0) .unit))))
    rw [List.length_map] at this
    simp [this]
theorem f_toHealth {h : Health} (hl : h.hosts.length ≤ lim) : e_laws_toHealth.F [h.d] = some h.d := by
  rw [q_laws_toHealth]
  exact rn_call (f_toHostS hl) rfl
theorem f_toProbe (p : Prb) : e_laws_toProbe.F [p.d] = some p.d := by rw [q_laws_toProbe]; rfl
theorem f_toStringS {ls : List (List UInt8)} (hl : ls.length ≤ lim) : e_laws_toStringS.F [.lst (ls.map D.str)] = some (.lst (ls.map D.str)) := by
  have hlen : (D.lst (ls.map D.str)).l.length = ls.length := by simp
  rw [q_laws_toStringS, hlen]; refine rn_if (makeOk_nat hl (by decide)) ?_
  refine rn_bind (loop_for' (fun i (zs : List D) => [.lst zs, .int i]) ls.length (filled (ls.map D.str) (.str [])) (t := 0) (o := [.lst (ls.map D.str)]) (by simp [filled_zero]) ?_ ?_) rfl
  · intro i hi
    have hm : i < (ls.map D.str).length := by simpa using hi
    have hf := filled_set (z := (.str [])) hm
    have hg : gd (ls.map D.str) i = (ls.map D.str)[i] := gd_lt hm
    rw [← hg] at hf
    simp [hi, inb_nat hi, wrap_succ hi (Nat.le_trans hl lim_smax), filled_length (Nat.le_of_lt hm), hf]
  · have := filled_all (xs := ls.map D.str) (z := (.str []))
    rw [List.length_map] at this
    simp [this]
theorem f_toProbeS {ps : List Prb} (hl : ps.length ≤ lim) : e_laws_toProbeS.F [.lst (ps.map Prb.d)] = some (.lst (ps.map Prb.d)) := by
  have hlen : (D.lst (ps.map Prb.d)).l.length = ps.length := by simp
  rw [q_laws_toProbeS, hlen]; refine rn_if (makeOk_nat hl (by decide)) ?_
  refine rn_bind (loop_for' (fun i (zs : List D) => [.lst zs, .int i]) ps.length (filled (ps.map Prb.d) (.pair (.int 0) (.pair (.bool false) .unit))) (t := 0) (o := [.lst (ps.map Prb.d)]) (by simp [filled_zero]) ?_ ?_) rfl
  · intro i hi
    have hm : i < (ps.map Prb.d).length := by simpa using hi
    have hf := filled_set (z := (.pair (.int 0) (.pair (.bool false) .unit))) hm
    have ht := f_toProbe ps[i]
    rw [List.getElem_map] at hf
    simp [hi, gd_prbs hi, inb_nat hi, wrap_succ hi (Nat.le_trans hl lim_smax), filled_length (Nat.le_of_lt hm), hf, ht]
  · have := filled_all (xs := ps.map Prb.d) (z := (.pair (.int 0) (.pair (.bool false) .unit)))
    rw [List.length_map] at this
    simp [this]

/-! what is read is small, or the law says nothing -/
theorem len_wrapH {left : Int} {n : Nat} (h0 : 0 ≤ left) (h1 : left ≤ lim) (hn : n ≤ smax) : IntKind.wrap .i64 (left - (n : Int)) = left - n := by
  have hlim : (lim : Int) = 1048576 := rfl
  have hsm : (smax : Int) = 9223372036854775807 := rfl
  exact wrap_id (by omega) (by omega)

def szHost (s : Int) (x : D) : Int := if s - (x.fld 0).s.length < 0 then -1 else s - (x.fld 0).s.length
theorem f_szHost {x : Host} {left : Int} (hx : x.In smax) (h0 : 0 ≤ left) (h1 : left ≤ lim) : e_laws_szHost.F [x.d, .int left] = some (.int (szHost left x.d)) := by
  rw [q_laws_szHost]
  have hw := len_wrapH h0 h1 hx.nm
  have hd : (x.d.fld 0).s = x.name := rfl
  simp only [hd, D.i_int, hw, szHost]
  by_cases h : left - (x.name.length : Int) < 0
  · rw [if_pos h]; exact rn_if (decide_eq_true h) rfl
  · rw [if_neg h]; exact rn_else (fun hc => h (of_decide_eq_true hc)) rfl
theorem szHost_spec {x : Host} (hx : x.In smax) (s : Int) (h0 : 0 ≤ s) (h1 : s ≤ lim) : szHost s x.d ≤ s ∧ (0 ≤ szHost s x.d → ∃ y : Host, x.d = y.d ∧ y.In lim) := by
  have hd : (x.d.fld 0).s = x.name := rfl
  simp only [szHost, hd]
  by_cases h : s - (x.name.length : Int) < 0
  · rw [if_pos h]; omega
  · rw [if_neg h]; exact ⟨by omega, fun _ => ⟨x, rfl, by omega, hx.row⟩⟩
theorem f_szHostS {xs : List Host} {left : Int} (hl : xs.length ≤ smax) (hx : ∀ x ∈ xs, x.In smax) (h0 : 0 ≤ left) (h1 : left ≤ lim) : e_laws_szHostS.F [.lst (xs.map Host.d), .int left] = some (.int (szL szHost (xs.map Host.d) left)) := by
  have hw := len_wrapH h0 h1 hl
  have hlen : (D.lst (xs.map Host.d)).l.length = (xs.map Host.d).length := rfl
  have hlen' : (xs.map Host.d).length = xs.length := by simp
  rw [q_laws_szHostS, hlen]
  have hw' : IntKind.wrap .i64 (left - ((xs.map Host.d).length : Int)) = left - (xs.map Host.d).length := by rw [hlen']; exact hw
  by_cases hlt : left - ((xs.map Host.d).length : Int) < 0
  · refine rn_if (by rw [D.i_int, hw']; exact decide_eq_true hlt) ?_
    unfold szL
    rw [if_pos hlt]; rfl
  · refine rn_else (by rw [D.i_int, hw']; exact fun hc => hlt (of_decide_eq_true hc)) ?_
    simp only [D.l_lst, D.i_int, hw']
    refine rn_bind (szL_loop (c := szHost) hlt h1 ?_ ?_ ?_) ?_
    · intro x hx' s h1 h2
      obtain ⟨y, hy, rfl⟩ := List.mem_map.1 hx'
      exact (szHost_spec (hx y hy) s h1 h2).1
    · intro i s hi h1 h2
      have hi' : i < xs.length := by simpa using hi
      have hg : (xs.map Host.d)[i] = xs[i].d := by simp
      have hz := f_szHost (hx _ (List.getElem_mem hi')) h1 h2
      rw [hg]
      constructor <;> intro hc <;> simp [hi', gd_hosts hi', inb_nat hi', wrap_succ hi' hl, hz, hc]
    · intro s; simp
    · rcases szN_cases szHost (xs.map Host.d) left with h | h <;> simp [h]
theorem f_szHealth {h : Health} {left : Int} (hh : h.In smax) (h0 : 0 ≤ left) (h1 : left ≤ lim) : ∃ r, e_laws_szHealth.F [h.d, .int left] = some (.int r) ∧ (0 ≤ r → h.In lim) := by
  rw [q_laws_szHealth]
  have hs := szL_spec (c := szHost) (Q := fun d => ∃ y : Host, d = y.d ∧ y.In lim) (xs := h.hosts.map Host.d) h1 (by
    intro x hx' s h1 h2
    obtain ⟨y, hy, rfl⟩ := List.mem_map.1 hx'
    exact szHost_spec (hh.all y hy) s h1 h2) h0
  have hz := f_szHostS hh.len hh.all h0 h1
  by_cases hlt : szL szHost (h.hosts.map Host.d) left < 0
  · refine ⟨-1, rn_call hz ?_, by omega⟩
    simp [hlt]
  · refine ⟨szL szHost (h.hosts.map Host.d) left, rn_call hz ?_, fun hp => ?_⟩
    · simp [hlt]
    · have := hs.2 hp
      refine ⟨by simpa using this.1, ?_, hh.rise, hh.fall⟩
      intro x hx
      obtain ⟨y, hy, hyl⟩ := this.2 x.d (List.mem_map.2 ⟨x, hx, rfl⟩)
      have h1 : x.name = y.name := by cases x; cases y; simp [Host.d] at hy; exact hy.1
      exact ⟨by rw [h1]; exact hyl.nm, (hh.all x hx).row⟩
def szStrH (s : Int) (x : D) : Int := s - x.s.length
theorem f_szStringS {ls : List (List UInt8)} {left : Int} (hl : ls.length ≤ smax) (hm : ∀ s ∈ ls, s.length ≤ smax) (h0 : 0 ≤ left) (h1 : left ≤ lim) :
    ∃ r, e_laws_szStringS.F [.lst (ls.map D.str), .int left] = some (.int r) ∧ r ≤ left ∧ (0 ≤ r → ls.length ≤ lim ∧ ∀ s ∈ ls, s.length ≤ lim) := by
  have hw := len_wrapH h0 h1 hl
  have hlen : (D.lst (ls.map D.str)).l.length = (ls.map D.str).length := rfl
  have hlen' : (ls.map D.str).length = ls.length := by simp
  have hw' : IntKind.wrap .i64 (left - ((ls.map D.str).length : Int)) = left - (ls.map D.str).length := by rw [hlen']; exact hw
  have hspec : ∀ x ∈ ls.map D.str, ∀ s : Int, 0 ≤ s → s ≤ lim → szStrH s x ≤ s ∧ (0 ≤ szStrH s x → x.s.length ≤ lim) := by
    intro x hx s h1 h2
    simp only [szStrH]
    exact ⟨by omega, fun h => by omega⟩
  have hs := szL_spec (c := szStrH) (Q := fun d => d.s.length ≤ lim) (xs := ls.map D.str) h1 hspec h0
  refine ⟨szL szStrH (ls.map D.str) left, ?_, hs.1, fun hp => ?_⟩
  · rw [q_laws_szStringS, hlen]
    by_cases hlt : left - ((ls.map D.str).length : Int) < 0
    · refine rn_if (by rw [D.i_int, hw']; exact decide_eq_true hlt) ?_
      unfold szL
      rw [if_pos hlt]; rfl
    · refine rn_else (by rw [D.i_int, hw']; exact fun hc => hlt (of_decide_eq_true hc)) ?_
      simp only [D.l_lst, D.i_int, hw']
      refine rn_bind (szL_loop (c := szStrH) hlt h1 (fun x hx s a b => (hspec x hx s a b).1) ?_ ?_) ?_
      · intro i s hi h1 h2
        have hi' : i < ls.length := by simpa using hi
        have hg : (ls.map D.str)[i] = .str ls[i] := by simp
        have hg2 : gd (ls.map D.str) i = .str ls[i] := by rw [gd_strs hi']; simp [hi']
        have := len_wrapH h1 h2 (hm _ (List.getElem_mem hi'))
        rw [hg]
        constructor <;> intro hc <;> simp only [szStrH, D.s_str] at hc <;> simp [hi', hg2, inb_nat hi', wrap_succ hi' hl, this, szStrH, hc]
      · intro s; simp
      · rcases szN_cases szStrH (ls.map D.str) left with h | h <;> simp [h]
  · have := hs.2 hp
    refine ⟨by simpa using this.1, fun s hs => ?_⟩
    have := this.2 (.str s) (List.mem_map.2 ⟨s, hs, rfl⟩)
    simpa using this
theorem f_szProbeS {ps : List Prb} {left : Int} (hl : ps.length ≤ smax) (h0 : 0 ≤ left) (h1 : left ≤ lim) :
    ∃ r, e_laws_szProbeS.F [.lst (ps.map Prb.d), .int left] = some (.int r) ∧ (0 ≤ r → ps.length ≤ lim) := by
  have hw := len_wrapH h0 h1 hl
  have hlen : (D.lst (ps.map Prb.d)).l.length = ps.length := by simp
  rw [q_laws_szProbeS, hlen]
  simp only [D.i_int, hw]
  by_cases hlt : left - (ps.length : Int) < 0
  · exact ⟨-1, rn_if (decide_eq_true hlt) rfl, by omega⟩
  · exact ⟨left - ps.length, rn_else (fun hc => hlt (of_decide_eq_true hc)) rfl, by omega⟩

/-! marks -/
theorem f_markText {k : Int} (h0 : 0 ≤ k) (h1 : k < 10 ^ 18) : ∃ s, e_laws_markText.F [.int k] = some (.str s) := by
  rw [q_laws_markText]
  by_cases hk : k ≤ 0
  · exact ⟨_, rn_if (decide_eq_true hk) rfl⟩
  refine rn_else_exH (g := D.str) (fun h => hk (of_decide_eq_true h)) (digits_loopH h0 h1 ?_ ?_ ?_)
  · intro n s hn hn2 hs
    refine ⟨_, bytesStr_size [.int (IntKind.wrap .u8 (IntKind.wrap .i64 (48 + (n.tmod 10))))], ?_⟩
    have hc : catOk (bytesStr [.int (IntKind.wrap .u8 (IntKind.wrap .i64 (48 + (n.tmod 10))))]) s = true := by
      unfold catOk
      rw [bytesStr_size]
      simp [smax]; omega
    have h3 : n.tdiv 10 = n / 10 := Int.tdiv_eq_ediv_of_nonneg (by omega)
    have hw : IntKind.wrap .i64 (n.tdiv 10) = n.tdiv 10 := by rw [h3]; exact wrap_id (by omega) (by omega)
    refine out_if (decide_eq_true hn) (out_if (by decide) (out_if hc ?_))
    simp only [gd_zero, D.i_int, hw]
    rfl
  · intro n s hn
    exact out_else (fun h => absurd (of_decide_eq_true h) (Int.not_lt.2 hn)) rfl
  · intro s hs
    refine ⟨_, rn_if (by simp [catOk, smax]; omega) rfl⟩
noncomputable def mtH (k : Int) : List UInt8 := if h : 0 ≤ k ∧ k < 10 ^ 18 then (f_markText h.1 h.2).choose else []
theorem mtH_is {k : Int} (h0 : 0 ≤ k) (h1 : k < 10 ^ 18) : e_laws_markText.F [.int k] = some (.str (mtH k)) := by
  unfold mtH
  rw [dif_pos ⟨h0, h1⟩]
  exact (f_markText h0 h1).choose_spec
noncomputable def hmk (k : Int) : Host := ⟨mtH k, (k + 1).tmod 3 == 0, k + 2⟩
noncomputable def hmk3 (k : Int) (i : Nat) : D := (hmk (k + 3 * i)).d
noncomputable def markedH (k : Int) (n : Nat) : List Host := (List.range n).map fun i : Nat => hmk (k + 3 * i)
theorem markedH_d (k : Int) (n : Nat) : (List.range n).map (hmk3 k) = (markedH k n).map Host.d := by
  simp only [markedH, List.map_map]
  rfl

theorem f_markHostS {xs : List Host} {k : Int} (h0 : 0 ≤ k) (h1 : k + 3 * xs.length < 10 ^ 18) :
    e_laws_markHostS.F [.lst (xs.map Host.d), .int k] = some (.pair (.int (k + 3 * xs.length)) (.pair (.lst ((markedH k xs.length).map Host.d)) .unit)) := by
  have h10 := pow18
  have hl : xs.length ≤ smax := by simp [smax]; omega
  have hml : (xs.map Host.d).length = xs.length := by simp
  rw [q_laws_markHostS]
  refine rn_bind (loop_for' (fun i (zs : List D) => [.lst zs, .int (k + 3 * i), .int i]) xs.length (over (hmk3 k) (xs.map Host.d)) (t := 0) (o := [.lst ((markedH k xs.length).map Host.d), .int (k + 3 * xs.length)]) (by simp [over_zero]) ?_ ?_) rfl
  · intro i hi
    have hi' : i < (xs.map Host.d).length := by simpa using hi
    have w1 : IntKind.wrap .i64 (k + 3 * (i : Int) + 1) = k + 3 * i + 1 := by rw [wrap_id] <;> omega
    have w2 : IntKind.wrap .i64 (k + 3 * (i : Int) + 1 + 1) = k + 3 * i + 2 := by rw [wrap_id] <;> omega
    have w3 : IntKind.wrap .i64 (k + 3 * (i : Int) + 2 + 1) = k + 3 * ((i + 1 : Nat) : Int) := by rw [wrap_id] <;> omega
    have hm := mtH_is (k := k + 3 * i) (by omega) (by omega)
    have hol : (over (hmk3 k) (xs.map Host.d) i).length = xs.length := by rw [over_length (Nat.le_of_lt hi'), hml]
    have hol' : i < (over (hmk3 k) (xs.map Host.d) i).length := by rw [hol]; exact hi
    have hg : gd (over (hmk3 k) (xs.map Host.d) i) i = xs[i].d := (over_gd hi').trans (gd_hosts hi)
    refine out_if (by simp [hol]; omega) (out_call hm (out_if ?_ (out_if (by decide) ?_)))
    · simp only [gd_zero, gd_two, D.l_lst, D.i_int, hol]; exact inb_nat hi
    · simp only [gd_zero, gd_one, gd_two, D.l_lst, D.i_int, Int.toNat_natCast, List.set_set, gd_set hol', hg, w1, w2, w3, wrap_succ hi hl]
      rw [over_set' hi']
      all_goals rfl
  · have := over_all (ys := hmk3 k) (xs := xs.map Host.d)
    have h2 : (markedH k xs.length).length = xs.length := by simp [markedH]
    rw [hml, markedH_d] at this
    simp [this, h2]
theorem f_heldHostS {n : Nat} {k : Int} (h0 : 0 ≤ k) (h1 : k + 3 * n < 10 ^ 18) : e_laws_heldHostS.F [.lst ((markedH k n).map Host.d), .int k] = some (.int (k + 3 * n)) := by
  have h10 := pow18
  have hl : n ≤ smax := by simp [smax]; omega
  have hml : (markedH k n).length = n := by simp [markedH]
  have hlen : (D.lst ((markedH k n).map Host.d)).l.length = n := by simp [hml]
  rw [q_laws_heldHostS, hlen]
  refine rn_bind (loop_for' (fun i (_ : Unit) => [.int (k + 3 * i), .int i]) n (fun _ => ()) (t := 1) (o := [.int (k + 3 * n)]) (by simp) ?_ ?_) rfl
  · intro i hi
    have w1 : IntKind.wrap .i64 (k + 3 * (i : Int) + 1) = k + 3 * i + 1 := by rw [wrap_id] <;> omega
    have w2 : IntKind.wrap .i64 (k + 3 * (i : Int) + 1 + 1) = k + 3 * i + 2 := by rw [wrap_id] <;> omega
    have w3 : IntKind.wrap .i64 (k + 3 * (i : Int) + 2 + 1) = k + 3 * ((i + 1 : Nat) : Int) := by rw [wrap_id] <;> omega
    have hm := mtH_is (k := k + 3 * i) (by omega) (by omega)
    have hg : gd ((markedH k n).map Host.d) i = (hmk (k + 3 * i)).d := by
      rw [gd_hosts (by rw [hml]; exact hi)]; simp [markedH]
    refine out_if (by simpa using hi) (out_if (by simpa using inb_nat hi) ?_)
    simp only [gd_zero, gd_one, D.l_lst, D.i_int, Int.toNat_natCast, hg, w1, w2, w3, wrap_succ hi hl]
    have f0 : (hmk (k + 3 * i)).d.fld 0 = .str (mtH (k + 3 * i)) := rfl
    have f1 : (hmk (k + 3 * i)).d.fld 1 = .bool ((k + 3 * i + 1).tmod 3 == 0) := rfl
    have f2 : (hmk (k + 3 * i)).d.fld 2 = .int (k + 3 * i + 2) := rfl
    rw [f0, f1, f2]
    exact out_call hm (out_else (by simp) (out_if (by decide) (out_else (by simp) (out_else (by simp) rfl))))
  · simp
def Health.hs (h : Health) (xs : List Host) : Health := ⟨h.rise, h.fall, xs⟩
theorem f_markHealth {h : Health} {k : Int} (h0 : 0 ≤ k) (h1 : k + 3 * h.hosts.length < 10 ^ 18) :
    e_laws_markHealth.F [h.d, .int k] = some (.pair (.int (k + 3 * h.hosts.length)) (.pair (h.hs (markedH k h.hosts.length)).d .unit)) := by
  rw [q_laws_markHealth]
  refine rn_call (f_markHostS h0 h1) ?_
  have hm : ∀ d, d = (h.hs (markedH k h.hosts.length)).d → D.mix (.pair (.int .i64) (.pair (.int .i64) (.pair (.lst true (.pair .str (.pair .bool (.pair (.int .i64) .unit)))) .unit))) h.d d = (h.hs (markedH k h.hosts.length)).d := by
    intro d hd
    unfold D.mix
    split
    · exact hd
    · rw [hd]; rfl
  show rn (ou 0 [(D.int (k + 3 * (h.hosts.length : Int))).pair ((D.mix (.pair (.int .i64) (.pair (.int .i64) (.pair (.lst true (.pair .str (.pair .bool (.pair (.int .i64) .unit)))) .unit))) h.d (h.hs (markedH k h.hosts.length)).d).pair D.unit)]) = _
  rw [hm _ rfl]
  rfl
theorem f_heldHealth {h : Health} {n : Nat} {k : Int} (h0 : 0 ≤ k) (h1 : k + 3 * n < 10 ^ 18) : e_laws_heldHealth.F [(h.hs (markedH k n)).d, .int k] = some (.int (k + 3 * n)) := by
  rw [q_laws_heldHealth]
  refine rn_call (f_heldHostS h0 h1) (rn_else ?_ rfl)
  intro hc
  have hc' : k + 3 * (n : Int) < 0 := of_decide_eq_true hc
  omega
theorem f_markStringS {ls : List (List UInt8)} {k : Int} (h0 : 0 ≤ k) (h1 : k + ls.length < 10 ^ 18) : ∃ y, e_laws_markStringS.F [.lst (ls.map D.str), .int k] = some (.pair (.int (k + ls.length)) y) := by
  have h10 := pow18
  have hl : ls.length ≤ smax := by simp [smax]; omega
  have hml : (ls.map D.str).length = ls.length := by simp
  rw [q_laws_markStringS]
  refine ⟨_, rn_bind (loop_for' (fun i (zs : List D) => [.lst zs, .int (k + i), .int i]) ls.length (over (fun i => .str (mtH (k + i))) (ls.map D.str)) (t := 0) (o := [.lst (over (fun i => .str (mtH (k + i))) (ls.map D.str) ls.length), .int (k + ls.length)]) (by simp [over_zero]) ?_ ?_) rfl⟩
  · intro i hi
    have hi' : i < (ls.map D.str).length := by simpa using hi
    have hw : IntKind.wrap .i64 (k + (i : Int) + 1) = k + ((i + 1 : Nat) : Int) := by rw [wrap_id] <;> omega
    have hm := mtH_is (k := k + i) (by omega) (by omega)
    have hol : (over (fun i : Nat => D.str (mtH (k + i))) (ls.map D.str) i).length = ls.length := by rw [over_length (Nat.le_of_lt hi'), hml]
    refine out_if (by simp [hol]; omega) (out_call hm (out_if ?_ ?_))
    · simp only [gd_zero, gd_two, D.l_lst, D.i_int, hol]; exact inb_nat hi
    · have := over_set' (ys := fun i : Nat => D.str (mtH (k + i))) hi' rfl
      simp [wrap_succ hi hl, hw, this]
  · have := over_length (ys := fun i : Nat => D.str (mtH (k + i))) (xs := ls.map D.str) (i := ls.length) (by simp)
    rw [hml] at this
    simp [this]
noncomputable def pmk (k : Int) (i : Nat) : D := (Prb.mk (k + 2 * i) ((k + 2 * i + 1).tmod 3 == 0)).d
theorem f_markProbeS {ps : List Prb} {k : Int} (h0 : 0 ≤ k) (h1 : k + 2 * ps.length < 10 ^ 18) : ∃ y, e_laws_markProbeS.F [.lst (ps.map Prb.d), .int k] = some (.pair (.int (k + 2 * ps.length)) y) := by
  have h10 := pow18
  have hl : ps.length ≤ smax := by simp [smax]; omega
  have hml : (ps.map Prb.d).length = ps.length := by simp
  rw [q_laws_markProbeS]
  refine ⟨_, rn_bind (loop_for' (fun i (zs : List D) => [.lst zs, .int (k + 2 * i), .int i]) ps.length (over (pmk k) (ps.map Prb.d)) (t := 0) (o := [.lst (over (pmk k) (ps.map Prb.d) ps.length), .int (k + 2 * ps.length)]) (by simp [over_zero]) ?_ ?_) rfl⟩
  · intro i hi
    have hi' : i < (ps.map Prb.d).length := by simpa using hi
    have w1 : IntKind.wrap .i64 (k + 2 * (i : Int) + 1) = k + 2 * i + 1 := by rw [wrap_id] <;> omega
    have w3 : IntKind.wrap .i64 (k + 2 * (i : Int) + 1 + 1) = k + 2 * ((i + 1 : Nat) : Int) := by rw [wrap_id] <;> omega
    have hol : (over (pmk k) (ps.map Prb.d) i).length = ps.length := by rw [over_length (Nat.le_of_lt hi'), hml]
    have hol' : i < (over (pmk k) (ps.map Prb.d) i).length := by rw [hol]; exact hi
    have hg : gd (over (pmk k) (ps.map Prb.d) i) i = ps[i].d := (over_gd hi').trans (gd_prbs hi)
    refine out_if (by simp [hol]; omega) (out_if ?_ (out_if (by decide) ?_))
    · simp only [gd_zero, gd_two, D.l_lst, D.i_int, hol]; exact inb_nat hi
    · simp only [gd_zero, gd_one, gd_two, D.l_lst, D.i_int, Int.toNat_natCast, List.set_set, gd_set hol', hg, w1, w3, wrap_succ hi hl]
      rw [over_set' hi']
      all_goals rfl
  · have := over_length (ys := pmk k) (xs := ps.map Prb.d) (i := ps.length) (by simp)
    rw [hml] at this
    simp [this]
end Go.Proofs.YtbanjbafckgghaaDoor
