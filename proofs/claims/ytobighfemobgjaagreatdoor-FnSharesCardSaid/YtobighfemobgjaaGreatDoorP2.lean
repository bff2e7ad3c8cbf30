/- What the functions compute, in plain words. -/
import Derived.Test.YtobighfemobgjaaGreatDoorP1
set_option linter.unusedSectionVars false
set_option linter.unusedVariables false
set_option linter.unusedSimpArgs false
namespace Go.Proofs.YtobighfemobgjaaGreatDoor
open Go Go.Own
structure Host where
  name : List UInt8
  up : Bool
  row : Int
  deriving DecidableEq
structure Health where
  rise : Int
  fall : Int
  hosts : List Host
  deriving DecidableEq
structure Prb where
  host : Int
  fine : Bool
  deriving DecidableEq
def Host.d (x : Host) : D := .pair (.str x.name) (.pair (.bool x.up) (.pair (.int x.row) .unit))
def Health.d (h : Health) : D := .pair (.int h.rise) (.pair (.int h.fall) (.pair (.lst (h.hosts.map Host.d)) .unit))
def Prb.d (p : Prb) : D := .pair (.int p.host) (.pair (.bool p.fine) .unit)
def Health.nul : Health := ⟨0, 0, []⟩
def inR (n lo hi : Int) : Bool := decide (lo ≤ n) && decide (n ≤ hi)
def Health.most (h : Health) (x : Host) : Int := if x.up then h.fall else h.rise
def seen (l : List (List UInt8)) (s : List UInt8) : Bool := l.any (· == s)
def nameOk (l : List (List UInt8)) (i : Nat) : Bool := !(l.getD i []).isEmpty && (isName (l.getD i []) && !seen (l.take i) (l.getD i []))
def Health.names (h : Health) : List (List UInt8) := h.hosts.map (·.name)
def Health.rowOk (h : Health) (x : Host) : Bool := inR x.row 0 (h.most x - 1)
def Health.good (h : Health) : Bool := (inR h.rise 1 10 && (inR h.fall 1 10 && inR h.hosts.length 1 12)) && (h.hosts.all h.rowOk && allN h.hosts.length (nameOk h.names))
structure Health.Fit (h : Health) : Prop where
  len : h.hosts.length ≤ lim
  nm : ∀ x ∈ h.hosts, x.name.length ≤ lim
  row : ∀ x ∈ h.hosts, -9223372036854775808 ≤ x.row ∧ x.row ≤ 9223372036854775807
  rise : -9223372036854775808 ≤ h.rise ∧ h.rise ≤ 9223372036854775807
  fall : -9223372036854775808 ≤ h.fall ∧ h.fall ≤ 9223372036854775807
theorem gd_hosts {xs : List Host} {i : Nat} (hi : i < xs.length) : gd (xs.map Host.d) i = xs[i].d := by
  rw [gd_lt (by simpa using hi)]; simp
theorem Health.names_get {h : Health} {i : Nat} (hi : i < h.hosts.length) : h.names.getD i [] = h.hosts[i].name := by
  simp [Health.names, hi]
theorem f_within' (a b c : Int) : e_impl_within.F [.int a, .int b, .int c] = some (.bool (inR a b c)) := f_within a b c
theorem f_l1In' (a b c : Int) : e_spec_l1In.F [.int a, .int b, .int c] = some (.bool (inR a b c)) := f_l1In a b c
theorem f_mostRow (h : Health) (x : Host) : e_impl_Health_mostRow.F [h.d, x.d] = some (.int (h.most x)) := by
  rw [q_impl_Health_mostRow]
  cases hu : x.up <;> simp [Health.d, Host.d, Health.most, hu]
theorem f_l13Most (h : Health) (x : Host) : e_spec_l13Most.F [h.d, x.d] = some (.int (h.most x)) := by
  rw [q_spec_l13Most]
  cases hu : x.up <;> simp [Health.d, Host.d, Health.most, hu]
theorem f_containsHost (xs : List Host) (x : Host) (u : D) (hl : xs.length ≤ smax) : e_slices_ContainsFunc_impl_Host_impl_Host__impl_GoodHealth_1.F [.lst (xs.map Host.d), .pair x.d u] = some (.bool (seen (xs.map (·.name)) x.name)) := by
  rw [q_slices_ContainsFunc_impl_Host_impl_Host__impl_GoodHealth_1]
  have key : ∃ r, e_slices_IndexFunc_impl_Host_impl_Host__impl_GoodHealth_1.F [.lst (xs.map Host.d), .pair x.d u] = some r ∧ ∃ n : Int, r = .int n ∧ decide (n ≥ 0) = seen (xs.map (·.name)) x.name := by
    rw [q_slices_IndexFunc_impl_Host_impl_Host__impl_GoodHealth_1]
    have hp : ∀ i (hi : i < xs.length), e_impl_GoodHealth_1.F [xs[i].d, x.d] = some (.bool (xs[i].name == x.name)) := by
      intro i hi; rw [q_impl_GoodHealth_1]; rfl
    refine find_ex (fun i => [.int i]) xs.length (fun i => !((xs.getD i ⟨[], false, 0⟩).name == x.name)) (t1 := 0) (t2 := 1) (o1 := fun i => [.int i]) (o2 := []) rfl ?_ ?_ ?_ ?_ ?_
    · intro i hi h
      simp only [List.getD_eq_getElem?_getD, List.getElem?_eq_getElem hi, Option.getD_some] at h
      have h' : (xs[i].name == x.name) = false := by simpa using h
      have := hp i hi
      rw [h'] at this
      simp [hi, inb_nat hi, wrap_succ hi hl, gd_hosts hi, this]
    · intro i hi h
      simp only [List.getD_eq_getElem?_getD, List.getElem?_eq_getElem hi, Option.getD_some] at h
      have h' : (xs[i].name == x.name) = true := by simpa using h
      have := hp i hi
      rw [h'] at this
      simp [hi, inb_nat hi, gd_hosts hi, this]
    · simp
    · intro hall
      refine ⟨_, rfl, -1, rfl, ?_⟩
      have : seen (xs.map (·.name)) x.name = false := by
        unfold seen
        rw [List.any_eq_false]
        intro s hs
        obtain ⟨y, hy, rfl⟩ := List.mem_map.1 hs
        obtain ⟨i, hi, rfl⟩ := List.getElem_of_mem hy
        have := hall i hi
        simpa [hi] using this
      rw [this]; rfl
    · intro j hj hp' _
      refine ⟨_, rfl, j, rfl, ?_⟩
      have : seen (xs.map (·.name)) x.name = true := by
        unfold seen
        rw [List.any_eq_true]
        exact ⟨xs[j].name, List.mem_map.2 ⟨_, List.getElem_mem hj, rfl⟩, by simpa [hj] using hp'⟩
      rw [this]; simp
  obtain ⟨r, h1, n, rfl, h2⟩ := key
  refine rn_call h1 ?_
  rw [← h2]; rfl
theorem wrap_pred {n : Int} (h : inR n 1 10 = true) : IntKind.wrap .i64 (n - 1) = n - 1 := by
  simp only [inR, Bool.and_eq_true, decide_eq_true_eq] at h
  exact wrap_id (by omega) (by omega)
theorem Health.most_R {h : Health} (h1 : inR h.rise 1 10 = true) (h2 : inR h.fall 1 10 = true) (x : Host) : inR (h.most x) 1 10 = true := by
  unfold Health.most; split <;> assumption
def Health.hostOk (h : Health) (i : Nat) : Bool := h.rowOk (h.hosts.getD i ⟨[], false, 0⟩) && nameOk h.names i
theorem Health.all_hosts (h : Health) : allN h.hosts.length h.hostOk = (h.hosts.all h.rowOk && allN h.hosts.length (nameOk h.names)) := by
  rw [Bool.eq_iff_iff, Bool.and_eq_true, allN_true, allN_true, List.all_eq_true]
  constructor
  · intro ha
    refine ⟨fun x hx => ?_, fun i hi => ?_⟩
    · obtain ⟨i, hi, rfl⟩ := List.getElem_of_mem hx
      have := ha i hi
      simp only [Health.hostOk, Bool.and_eq_true] at this
      simpa [hi] using this.1
    · have := ha i hi
      simp only [Health.hostOk, Bool.and_eq_true] at this
      exact this.2
  · rintro ⟨h1, h2⟩ i hi
    simp only [Health.hostOk, Bool.and_eq_true]
    refine ⟨?_, h2 i hi⟩
    have := h1 _ (List.getElem_mem hi)
    simpa [hi] using this
theorem rn_boolR {o : Outc} {b c : Bool} (h : rn o = some (.bool b)) (hb : b = c) : rn o = some (.bool c) := hb ▸ h
theorem f_implGoodHealth (h : Health) (hf : h.hosts.length ≤ smax) : e_impl_GoodHealth.F [h.d] = some (.bool h.good) := by
  rw [q_impl_GoodHealth]
  have hd0 : h.d.fld 0 = .int h.rise := rfl
  have hd1 : h.d.fld 1 = .int h.fall := rfl
  have hd2 : h.d.fld 2 = .lst (h.hosts.map Host.d) := rfl
  have hlen : (h.d.fld 2).l.length = h.hosts.length := by rw [hd2]; simp
  have w1 := f_within' h.rise 1 10
  have w2 := f_within' h.fall 1 10
  have w3 := f_within' h.hosts.length 1 12
  rw [hd0, hd1, hlen]
  cases r1 : inR h.rise 1 10 with
  | false =>
    rw [r1] at w1
    refine rn_bind (r := (0, [.bool true])) (out_call w1 (out_if rfl rfl)) ?_
    simp [Health.good, r1]
  | true =>
    rw [r1] at w1
    cases r2 : inR h.fall 1 10 with
    | false =>
      rw [r2] at w2
      refine rn_bind (r := (0, [.bool true])) (out_call w1 (out_else (by simp) (out_call w2 (out_if rfl rfl)))) ?_
      simp [Health.good, r2]
    | true =>
      rw [r2] at w2
      refine rn_bind (r := (0, [.bool !(inR h.hosts.length 1 12)])) (out_call w1 (out_else (by simp) (out_call w2 (out_else (by simp) (out_call w3 rfl))))) ?_
      cases r3 : inR h.hosts.length 1 12 with
      | false => simp [Health.good, r3]
      | true =>
        simp only [sel2_zero, gd_zero]
        refine rn_else (by decide) ?_
        refine rn_bind (loop_all' (fun i => [.int i]) h.hosts.length h.hostOk (t1 := 0) (t2 := 1) (o1 := [.bool false]) (o2 := []) rfl ?_ ?_) ?_
        · intro i hi
          have hg : gd (h.d.fld 2).l i = h.hosts[i].d := by rw [hd2]; exact gd_hosts hi
          refine out_if (by simpa using hi) (out_if (by simpa using inb_nat hi) ?_)
          have e0 : (gd [D.int (i : Int)] 0).i.toNat = i := by simp
          have e1 : (gd [D.int (i : Int)] 0).i = i := rfl
          rw [e0, e1, hg]
          have hx0 : h.hosts[i].d.fld 0 = .str h.hosts[i].name := rfl
          have hx2 : h.hosts[i].d.fld 2 = .int h.hosts[i].row := rfl
          rw [hx0, hx2]
          have hnm := f_GoodName h.hosts[i].name
          have hms := f_mostRow h h.hosts[i]
          have hwi := f_within' h.hosts[i].row 0 (h.most h.hosts[i] - 1)
          have hwr := wrap_pred (Health.most_R r1 r2 h.hosts[i])
          have hok : h.hostOk i = (inR h.hosts[i].row 0 (h.most h.hosts[i] - 1) && (!h.hosts[i].name.isEmpty && (isName h.hosts[i].name && !seen (h.names.take i) h.hosts[i].name))) := by
            unfold Health.hostOk nameOk Health.rowOk
            rw [Health.names_get hi]
            simp [hi]
          have hnext : D.int (IntKind.wrap .i64 ((i : Int) + 1)) = .int ((i + 1 : Nat) : Int) := by rw [wrap_succ hi hf]
          rw [hok, hnext]
          by_cases n0 : h.hosts[i].name = []
          · refine out_bind (r := (0, [.bool true])) (out_if (by simp [n0]) rfl) ?_
            simp [n0]
          · have n0' : h.hosts[i].name.isEmpty = false := by cases hq : h.hosts[i].name <;> simp_all
            cases n1 : isName h.hosts[i].name with
            | false =>
              rw [n1] at hnm
              refine out_bind (r := (0, [.bool true])) (out_else (by simpa using n0) (out_call hnm (out_if rfl rfl))) ?_
              simp
            | true =>
              rw [n1] at hnm
              cases n2 : inR h.hosts[i].row 0 (h.most h.hosts[i] - 1) with
              | false =>
                rw [n2] at hwi
                refine out_bind (r := (0, [.bool true])) (out_else (by simpa using n0) (out_call hnm (out_else (by simp) (out_call hms ?_)))) ?_
                · simp only [D.i_int, hwr]; exact out_call hwi (out_if rfl rfl)
                · simp
              | true =>
                rw [n2] at hwi
                have hsl : slOk 0 (i : Int) ((h.hosts.length : Nat) : Int) = true := by simp [slOk]; omega
                have hct := f_containsHost (h.hosts.take i) h.hosts[i] .unit (by rw [List.length_take]; omega)
                have htk : (List.take i (h.d.fld 2).l).drop 0 = (h.hosts.take i).map Host.d := by rw [hd2]; simp [List.map_take]
                refine out_bind (r := (0, [.bool (seen (h.names.take i) h.hosts[i].name)])) (out_else (by simpa using n0) (out_call hnm (out_else (by simp) (out_call hms ?_)))) ?_
                · simp only [D.i_int, hwr]
                  refine out_call hwi (out_else (by simp) (out_if hsl ?_))
                  rw [htk]
                  refine out_call hct ?_
                  simp [Health.names, List.map_take]
                · cases n3 : seen (h.names.take i) h.hosts[i].name <;> simp [n0']
        · simp
        · rw [Health.all_hosts]
          cases hb : (h.hosts.all h.rowOk && allN h.hosts.length (nameOk h.names)) <;> simp [Health.good, r1, r2, r3, hb]
end Go.Proofs.YtobighfemobgjaaGreatDoor
namespace Go.Proofs.YtobighfemobgjaaGreatDoor
open Go Go.Own
theorem gd_strs {ls : List (List UInt8)} {i : Nat} (hi : i < ls.length) : gd (ls.map D.str) i = .str (ls.getD i []) := by
  rw [gd_lt (by simpa using hi)]; simp [hi]
theorem f_l13Names (ls : List (List UInt8)) (hl : ls.length ≤ lim) (hm : ∀ s ∈ ls, s.length ≤ lim) : e_spec_l13Names.F [.lst (ls.map .str)] = some (.bool (allN ls.length (nameOk ls) && inR ls.length 1 12)) := by
  have hs := Nat.le_trans hl lim_smax
  rw [q_spec_l13Names]
  have hlen : (D.lst (ls.map D.str)).l.length = ls.length := by simp
  rw [hlen]
  have hb := loop_all' (f := fun l1 =>
      if (decide ((gd l1 0).i < (ls.length : Int))) then
        if (inb (gd l1 0).i ls.length) then
        ((e_spec_GoodName.F [(gd (D.lst (ls.map D.str)).l (gd l1 0).i.toNat)]).bind fun r2 =>
          if (!r2.b) then
            ou 0 [(.bool true)]
          else
            ou 0 [(.bool ((gd (D.lst (ls.map D.str)).l (gd l1 0).i.toNat).s == ([] : List UInt8)))]).bind fun o2 =>
        sel2 o2.1 (if (gd o2.2 0).b then
            ou 1 [(.bool false)]
          else
            if (slOk 0 (gd l1 0).i (ls.length : Int)) then
            (loopF (fun l3 =>
                if (decide ((gd l3 0).i < ((((D.lst (ls.map D.str)).l.take (gd l1 0).i.toNat).drop 0).length : Int))) then
                  if (inb (gd l3 0).i (((D.lst (ls.map D.str)).l.take (gd l1 0).i.toNat).drop 0).length) then
                  if ((gd (D.lst (((D.lst (ls.map D.str)).l.take (gd l1 0).i.toNat).drop 0)).l (gd l3 0).i.toNat).s == (gd (D.lst (ls.map D.str)).l (gd l1 0).i.toNat).s) then
                    ou 1 [(.bool false)]
                  else
                    ou 0 [(.int (IntKind.wrap .i64 ((gd l3 0).i + 1)))]
                  else none
                else
                  ou 2 []) [(.int 0)]).bind fun o3 =>
            sel2 o3.1 (ou 1 [(gd o3.2 0)]) fun n12 =>
            sel2 n12 (ou 0 [(.int (IntKind.wrap .i64 ((gd l1 0).i + 1)))]) fun _ => none
            else none) fun _ => none
        else none
      else
        ou 2 []) (l := [.int 0]) (fun i => [.int i]) ls.length (nameOk ls) (t1 := 0) (t2 := 1) (o1 := [.bool false]) (o2 := []) rfl ?_ ?_
  · rw [hb]
    cases hn : allN ls.length (nameOk ls) with
    | false => rfl
    | true =>
      refine rn_call (f_l1In' _ _ _) ?_
      rfl
  · intro i hi
    have hg : gd (D.lst (ls.map D.str)).l i = .str (ls.getD i []) := gd_strs hi
    refine out_if (by simpa using hi) (out_if (by simpa using inb_nat hi) ?_)
    have e0 : (gd [D.int (i : Int)] 0).i.toNat = i := by simp
    have e1 : (gd [D.int (i : Int)] 0).i = i := rfl
    rw [e0, e1, hg]
    have hmem : ls.getD i [] ∈ ls := by simp [hi]
    have hgn := f_specGoodName (ls.getD i []) (hm _ hmem)
    have hnext : D.int (IntKind.wrap .i64 ((i : Int) + 1)) = .int ((i + 1 : Nat) : Int) := by rw [wrap_succ hi hs]
    rw [hnext]
    unfold nameOk
    generalize hx : ls.getD i [] = x at hgn hmem ⊢
    cases n1 : isName x with
    | false =>
      rw [n1] at hgn
      refine out_bind (r := (0, [.bool true])) (out_call hgn (out_if rfl rfl)) ?_
      simp
    | true =>
      rw [n1] at hgn
      refine out_bind (r := (0, [.bool (x == [])])) (out_call hgn (out_else (by simp) rfl)) ?_
      cases x with
      | nil => simp
      | cons c x =>
        simp only [sel2_zero, gd_zero]
        refine out_else (by simp) (out_if (by simp [slOk]; omega) ?_)
        have hlt : (((D.lst (ls.map D.str)).l.take i).drop 0).length = (ls.take i).length := by simp
        have htl : (ls.take i).length ≤ smax := by rw [List.length_take]; omega
        have hin := loop_find (f := fun l3 =>
                if (decide ((gd l3 0).i < ((((D.lst (ls.map D.str)).l.take i).drop 0).length : Int))) then
                  if (inb (gd l3 0).i (((D.lst (ls.map D.str)).l.take i).drop 0).length) then
                  if ((gd (D.lst (((D.lst (ls.map D.str)).l.take i).drop 0)).l (gd l3 0).i.toNat).s == (D.str (c :: x)).s) then
                    ou 1 [(.bool false)]
                  else
                    ou 0 [(.int (IntKind.wrap .i64 ((gd l3 0).i + 1)))]
                  else none
                else
                  ou 2 []) (l := [.int 0]) (fun j => [.int j]) (ls.take i).length (fun j => !((ls.take i).getD j [] == c :: x)) (t1 := 0) (t2 := 1) (o1 := fun _ => [.bool false]) (o2 := []) rfl ?_ ?_ ?_
        · rcases hin with ⟨h1, h2⟩ | ⟨k, hk, h1, _, h2⟩
          · rw [h2]
            have : seen (ls.take i) (c :: x) = false := by
              unfold seen
              rw [List.any_eq_false]
              intro s hs'
              obtain ⟨j, hj, rfl⟩ := List.getElem_of_mem hs'
              have := h1 j hj
              rw [List.getD_eq_getElem?_getD, List.getElem?_eq_getElem hj] at this
              simpa using this
            rw [this]; rfl
          · rw [h2]
            have : seen (ls.take i) (c :: x) = true := by
              unfold seen
              rw [List.any_eq_true]
              rw [List.getD_eq_getElem?_getD, List.getElem?_eq_getElem hk] at h1
              exact ⟨_, List.getElem_mem hk, by simpa using h1⟩
            rw [this]; rfl
        · intro j hj h
          have hgj : gd (D.lst (((D.lst (ls.map D.str)).l.take i).drop 0)).l j = .str ((ls.take i).getD j []) := by
            have : (D.lst (((D.lst (ls.map D.str)).l.take i).drop 0)).l = (ls.take i).map D.str := by simp [List.map_take]
            rw [this, gd_strs hj]
          have h' : ((ls.take i).getD j [] == c :: x) = false := by simpa using h
          refine out_if (by rw [hlt]; simpa using hj) (out_if (by rw [hlt]; simpa using inb_nat hj) (out_else ?_ ?_))
          · have e0 : (gd [D.int (j : Int)] 0).i.toNat = j := by simp
            rw [e0, hgj]; simp only [D.s_str]; rw [h']; simp
          · have := wrap_succ hj htl
            simp [this]
        · intro j hj h
          have hgj : gd (D.lst (((D.lst (ls.map D.str)).l.take i).drop 0)).l j = .str ((ls.take i).getD j []) := by
            have : (D.lst (((D.lst (ls.map D.str)).l.take i).drop 0)).l = (ls.take i).map D.str := by simp [List.map_take]
            rw [this, gd_strs hj]
          have h' : ((ls.take i).getD j [] == c :: x) = true := by simpa using h
          refine out_if (by rw [hlt]; simpa using hj) (out_if (by rw [hlt]; simpa using inb_nat hj) (out_if ?_ rfl))
          have e0 : (gd [D.int (j : Int)] 0).i.toNat = j := by simp
          rw [e0, hgj]; simp only [D.s_str]; exact h'
        · simp
  · simp
theorem f_specGoodHealth (h : Health) (hf : h.Fit) : e_spec_GoodHealth.F [h.d] = some (.bool h.good) := by
  rw [q_spec_GoodHealth]
  have hsm := Nat.le_trans hf.len lim_smax
  have hd0 : h.d.fld 0 = .int h.rise := rfl
  have hd1 : h.d.fld 1 = .int h.fall := rfl
  have hd2 : h.d.fld 2 = .lst (h.hosts.map Host.d) := rfl
  have hlen : (h.d.fld 2).l.length = h.hosts.length := by rw [hd2]; simp
  rw [hd0, hd1, hlen]
  -- a row is looked at with what wraps
  let rk : Nat → Bool := fun i => inR (h.hosts.getD i ⟨[], false, 0⟩).row 0 (IntKind.wrap .i64 (h.most (h.hosts.getD i ⟨[], false, 0⟩) - 1))
  have hnl : ∀ i, i ≤ h.hosts.length → (h.names.take i).length = i := fun i hi => by simp [Health.names]; omega
  have key : ∀ k : Nat × List D → Outc, rn ((loopF (fun l1 =>
      if (decide ((gd l1 1).i < (h.hosts.length : Int))) then
        if (inb (gd l1 1).i h.hosts.length) then
        (e_spec_l13Most.F [h.d, (gd (h.d.fld 2).l (gd l1 1).i.toNat)]).bind fun r3 =>
        (e_spec_l1In.F [((gd (h.d.fld 2).l (gd l1 1).i.toNat).fld 2), (.int 0), (.int (IntKind.wrap .i64 (r3.i - 1)))]).bind fun r4 =>
        if (!r4.b) then
          ou 1 []
        else
          if (appOk 16 (gd l1 0).l (((gd (h.d.fld 2).l (gd l1 1).i.toNat).fld 0) :: ([] : List D))) then
          ou 0 [(D.lst ((gd l1 0).l ++ (((gd (h.d.fld 2).l (gd l1 1).i.toNat).fld 0) :: ([] : List D)))), (.int (IntKind.wrap .i64 ((gd l1 1).i + 1)))]
          else none
        else none
      else
        ou 2 [(gd l1 0)]) [(D.lst []), (.int 0)]).bind k) = rn (k (cond (allN h.hosts.length rk) (1, [.lst (h.names.map .str)]) (0, []))) := by
    intro k
    have := loop_all' (f := fun l1 =>
      if (decide ((gd l1 1).i < (h.hosts.length : Int))) then
        if (inb (gd l1 1).i h.hosts.length) then
        (e_spec_l13Most.F [h.d, (gd (h.d.fld 2).l (gd l1 1).i.toNat)]).bind fun r3 =>
        (e_spec_l1In.F [((gd (h.d.fld 2).l (gd l1 1).i.toNat).fld 2), (.int 0), (.int (IntKind.wrap .i64 (r3.i - 1)))]).bind fun r4 =>
        if (!r4.b) then
          ou 1 []
        else
          if (appOk 16 (gd l1 0).l (((gd (h.d.fld 2).l (gd l1 1).i.toNat).fld 0) :: ([] : List D))) then
          ou 0 [(D.lst ((gd l1 0).l ++ (((gd (h.d.fld 2).l (gd l1 1).i.toNat).fld 0) :: ([] : List D)))), (.int (IntKind.wrap .i64 ((gd l1 1).i + 1)))]
          else none
        else none
      else
        ou 2 [(gd l1 0)]) (l := [(D.lst []), (.int 0)]) (fun i => [.lst ((h.names.take i).map .str), .int i]) h.hosts.length rk (t1 := 0) (t2 := 1) (o1 := []) (o2 := [.lst (h.names.map .str)]) (by simp) ?_ ?_
    · rw [this]; rfl
    · intro i hi
      have hg : gd (h.d.fld 2).l i = h.hosts[i].d := by rw [hd2]; exact gd_hosts hi
      refine out_if (by simpa using hi) (out_if (by simpa using inb_nat hi) ?_)
      have e0 : (gd [D.lst ((h.names.take i).map D.str), D.int (i : Int)] 1).i.toNat = i := by simp
      have e1 : (gd [D.lst ((h.names.take i).map D.str), D.int (i : Int)] 1).i = i := rfl
      have e2 : gd [D.lst ((h.names.take i).map D.str), D.int (i : Int)] 0 = .lst ((h.names.take i).map D.str) := rfl
      rw [e0, e1, e2, hg]
      have hx0 : h.hosts[i].d.fld 0 = .str h.hosts[i].name := rfl
      have hx2 : h.hosts[i].d.fld 2 = .int h.hosts[i].row := rfl
      rw [hx0, hx2]
      have hrk : rk i = inR h.hosts[i].row 0 (IntKind.wrap .i64 (h.most h.hosts[i] - 1)) := by simp [rk, hi]
      have hw := f_l1In' h.hosts[i].row 0 (IntKind.wrap .i64 (h.most h.hosts[i] - 1))
      rw [← hrk] at hw
      refine out_call (f_l13Most h h.hosts[i]) ?_
      simp only [D.i_int]
      cases hr : rk i with
      | false =>
        rw [hr] at hw
        exact out_call hw (out_if rfl rfl)
      | true =>
        rw [hr] at hw
        have ha : appOk 16 (D.lst ((h.names.take i).map D.str)).l [D.str h.hosts[i].name] = true := by
          have := hf.len
          have hlim : lim = 1048576 := rfl
          simp [appOk, smax_eq, hnl i (by omega)]; omega
        refine out_call hw (out_else (by simp) (out_if ha ?_))
        have hnx : h.names.take (i + 1) = h.names.take i ++ [h.hosts[i].name] := by
          have hi' : i < h.names.length := by simpa [Health.names] using hi
          rw [List.take_succ_eq_append_getElem hi']
          simp [Health.names]
        simp [wrap_succ hi hsm, hnx]
    · have : h.names.take h.hosts.length = h.names := List.take_of_length_le (by simp [Health.names])
      simp [this]
  rw [key]
  have hrow : inR h.rise 1 10 = true → inR h.fall 1 10 = true → allN h.hosts.length rk = h.hosts.all h.rowOk := by
    intro h1 h2
    rw [Bool.eq_iff_iff, allN_true, List.all_eq_true]
    constructor
    · intro ha x hx
      obtain ⟨i, hi, rfl⟩ := List.getElem_of_mem hx
      have := ha i hi
      simp only [rk] at this
      simp only [List.getD_eq_getElem?_getD, List.getElem?_eq_getElem hi, Option.getD_some] at this
      rw [wrap_pred (Health.most_R h1 h2 _)] at this
      exact this
    · intro ha i hi
      have := ha _ (List.getElem_mem hi)
      simp only [rk, List.getD_eq_getElem?_getD, List.getElem?_eq_getElem hi, Option.getD_some]
      rw [wrap_pred (Health.most_R h1 h2 _)]
      exact this
  have hnm := f_l13Names h.names (by simpa [Health.names] using hf.len) (by
    intro s hs
    obtain ⟨x, hx, rfl⟩ := List.mem_map.1 hs
    exact hf.nm x hx)
  have hnlen : h.names.length = h.hosts.length := by simp [Health.names]
  rw [hnlen] at hnm
  have w1 := f_l1In' h.rise 1 10
  have w2 := f_l1In' h.fall 1 10
  cases ha : allN h.hosts.length rk with
  | false =>
    cases r1 : inR h.rise 1 10 with
    | false => simp [Health.good, r1]
    | true =>
      cases r2 : inR h.fall 1 10 with
      | false => simp [Health.good, r2]
      | true => simp [Health.good, r1, r2, ← hrow r1 r2, ha]
  | true =>
    cases r1 : inR h.rise 1 10 with
    | false =>
      rw [r1] at w1
      refine rn_bind (r := (0, [.bool false])) (out_call w1 (out_else (by simp) rfl)) ?_
      simp [Health.good, r1]
    | true =>
      rw [r1] at w1
      cases r2 : inR h.fall 1 10 with
      | false =>
        rw [r2] at w2
        refine rn_bind (r := (0, [.bool false])) (out_call w1 (out_if rfl (out_call w2 (out_else (by simp) rfl)))) ?_
        simp [Health.good, r2]
      | true =>
        rw [r2] at w2
        refine rn_bind (r := (0, [.bool (allN h.hosts.length (nameOk h.names) && inR h.hosts.length 1 12)])) (out_call w1 (out_if rfl (out_call w2 (out_if rfl (out_call hnm rfl))))) ?_
        simp [Health.good, r1, r2, ← hrow r1 r2, ha, Bool.and_comm]
end Go.Proofs.YtobighfemobgjaaGreatDoor
namespace Go.Proofs.YtobighfemobgjaaGreatDoor
open Go Go.Own
def Host.nul : Host := ⟨[], false, 0⟩
def Health.stepH (h : Health) (x : Host) (fine : Bool) : Host × Bool :=
  if x.up == fine then (⟨x.name, x.up, 0⟩, false)
  else if x.row + 1 < h.most x then (⟨x.name, x.up, x.row + 1⟩, false)
  else (⟨x.name, !x.up, 0⟩, true)
def Health.host (h : Health) (i : Nat) : Host := h.hosts.getD i Host.nul
def Health.put (h : Health) (i : Nat) (x : Host) : Health := ⟨h.rise, h.fall, h.hosts.set i x⟩
def Health.probed (h : Health) (i : Nat) (fine : Bool) : Health × Bool := (h.put i (h.stepH (h.host i) fine).1, (h.stepH (h.host i) fine).2)
theorem Health.host_lt {h : Health} {i : Nat} (hi : i < h.hosts.length) : h.host i = h.hosts[i] := by simp [Health.host, hi]
theorem Health.put_d (h : Health) (i : Nat) (x : Host) : (h.put i x).d = .pair (.int h.rise) (.pair (.int h.fall) (.pair (.lst ((h.hosts.map Host.d).set i x.d)) .unit)) := by
  simp [Health.put, Health.d, List.map_set]
theorem Health.row_R {h : Health} (hg : h.good = true) {x : Host} (hx : x ∈ h.hosts) : 0 ≤ x.row ∧ x.row + 1 ≤ h.most x ∧ h.most x ≤ 10 := by
  simp only [Health.good, Bool.and_eq_true, List.all_eq_true] at hg
  have h1 := hg.2.1 x hx
  have h2 := Health.most_R hg.1.1 hg.1.2.1 x
  simp only [Health.rowOk, inR, Bool.and_eq_true, decide_eq_true_eq] at h1 h2
  omega
theorem Health.len_R {h : Health} (hg : h.good = true) : 1 ≤ h.hosts.length ∧ h.hosts.length ≤ 12 := by
  simp only [Health.good, Bool.and_eq_true] at hg
  have h1 := hg.1.2.2
  simp only [inR, Bool.and_eq_true, decide_eq_true_eq] at h1
  omega
theorem Health.good_fit {h : Health} (hg : h.good = true) : h.Fit := by
  have hl := Health.len_R hg
  have hr := fun x hx => Health.row_R (x := x) hg hx
  have hlim : lim = 1048576 := rfl
  have hg' := hg
  simp only [Health.good, Bool.and_eq_true] at hg'
  have h1 := hg'.1.1
  have h2 := hg'.1.2.1
  simp only [inR, Bool.and_eq_true, decide_eq_true_eq] at h1 h2
  refine ⟨by omega, ?_, fun x hx => by have := hr x hx; omega, by omega, by omega⟩
  intro x hx
  obtain ⟨i, hi, rfl⟩ := List.getElem_of_mem hx
  have := (allN_true.1 hg'.2.2) i hi
  unfold nameOk at this
  rw [Health.names_get hi] at this
  simp only [Bool.and_eq_true, isName, decide_eq_true_eq] at this
  have := this.2.1.1
  omega
theorem Health.most_put (h : Health) (i : Nat) (y x : Host) : (h.put i y).most x = h.most x := rfl
theorem Health.names_put {h : Health} {i : Nat} (hi : i < h.hosts.length) {y : Host} (hn : y.name = h.hosts[i].name) : (h.put i y).names = h.names := by
  simp only [Health.names, Health.put, List.map_set, hn]
  have : h.hosts[i].name = (h.hosts.map (·.name))[i]'(by simpa using hi) := by simp
  rw [this, List.set_getElem_self]
theorem Health.good_put {h : Health} (hg : h.good = true) {i : Nat} (hi : i < h.hosts.length) {y : Host} (hn : y.name = h.hosts[i].name) (hr : h.rowOk y = true) : (h.put i y).good = true := by
  have hlen : (h.put i y).hosts.length = h.hosts.length := by simp [Health.put]
  unfold Health.good at hg ⊢
  rw [hlen, Health.names_put hi hn]
  simp only [Bool.and_eq_true, List.all_eq_true] at hg ⊢
  refine ⟨hg.1, ?_, hg.2.2⟩
  intro x hx
  rcases List.mem_or_eq_of_mem_set hx with hx | rfl
  · exact hg.2.1 x hx
  · exact hr
theorem Health.step_name (h : Health) (x : Host) (fine : Bool) : (h.stepH x fine).1.name = x.name := by
  unfold Health.stepH; split
  · rfl
  · split <;> rfl
theorem Health.step_row {h : Health} (hg : h.good = true) {x : Host} (hx : x ∈ h.hosts) (fine : Bool) : h.rowOk (h.stepH x fine).1 = true := by
  have hr := Health.row_R hg hx
  have hg' := hg
  simp only [Health.good, Bool.and_eq_true] at hg'
  have hm := Health.most_R hg'.1.1 hg'.1.2.1 ⟨x.name, !x.up, 0⟩
  have hm2 : h.most ⟨x.name, x.up, 0⟩ = h.most x := rfl
  have hm3 : h.most ⟨x.name, x.up, x.row + 1⟩ = h.most x := rfl
  simp only [inR, Bool.and_eq_true, decide_eq_true_eq] at hm
  unfold Health.stepH Health.rowOk
  split
  · simp [inR, hm2]; omega
  · split
    · simp [inR, hm3]; omega
    · simp [inR]; omega
theorem Health.probed_good {h : Health} (hg : h.good = true) {i : Nat} (hi : i < h.hosts.length) (fine : Bool) : (h.probed i fine).1.good = true := by
  unfold Health.probed
  rw [Health.host_lt hi]
  exact Health.good_put hg hi (Health.step_name _ _ _) (Health.step_row hg (List.getElem_mem hi) fine)
theorem Health.probed_len (h : Health) (i : Nat) (fine : Bool) : (h.probed i fine).1.hosts.length = h.hosts.length := by simp [Health.probed, Health.put]
def Health.take (h : Health) (p : Prb) : Health × Bool × Bool :=
  if h.good && inR p.host 0 (h.hosts.length - 1) then ((h.probed p.host.toNat p.fine).1, (h.probed p.host.toNat p.fine).2, true) else (Health.nul, false, false)
def taken (r : Health × Bool × Bool) : D := .pair r.1.d (.pair (.bool r.2.1) (.pair (.bool r.2.2) .unit))
theorem wrap_len {n : Nat} (h : n ≤ smax) : IntKind.wrap .i64 ((n : Int) - 1) = (n : Int) - 1 := by
  have : (smax : Int) = 9223372036854775807 := rfl
  exact wrap_id (by omega) (by omega)
theorem f_specOwn {h : Health} (hf : h.hosts.length ≤ lim) : e_spec_l13Own.F [h.d] = some h.d := by
  rw [q_spec_l13Own]
  have hlim : lim = 1048576 := rfl
  refine rn_if (by simp [appOk, Health.d, smax_eq]; omega) ?_
  simp [Health.d]
theorem f_specTake {h : Health} (hf : h.Fit) (p : Prb) : e_spec_TakeProbe.F [h.d, p.d] = some (taken (h.take p)) := by
  rw [q_spec_TakeProbe]
  have hgd := f_specGoodHealth h hf
  have hlen : (h.d.fld 2).l.length = h.hosts.length := by simp [Health.d]
  have hp0 : p.d.fld 0 = .int p.host := rfl
  rw [hlen, hp0, wrap_len (Nat.le_trans hf.len lim_smax)]
  have hw := f_l1In' p.host 0 (h.hosts.length - 1)
  unfold Health.take
  cases hg : h.good with
  | false =>
    rw [hg] at hgd
    refine rn_bind (r := (0, [.bool true])) (out_call hgd (out_if rfl rfl)) ?_
    rfl
  | true =>
    rw [hg] at hgd
    cases hr : inR p.host 0 (h.hosts.length - 1) with
    | false =>
      rw [hr] at hw
      refine rn_bind (r := (0, [.bool true])) (out_call hgd (out_else (by simp) (out_call hw rfl))) ?_
      rfl
    | true =>
      rw [hr] at hw
      refine rn_bind (r := (0, [.bool false])) (out_call hgd (out_else (by simp) (out_call hw rfl))) ?_
      simp only [inR, Bool.and_eq_true, decide_eq_true_eq] at hr
      obtain ⟨ph, pf⟩ := p
      obtain ⟨i, rfl⟩ := Int.eq_ofNat_of_zero_le hr.1
      simp only [sel2_zero, gd_zero]
      have hi : i < h.hosts.length := by simp at hr; omega
      refine rn_else (by simp) (rn_call (f_specOwn hf.len) (rn_if (by simpa [Health.d] using inb_nat hi) ?_))
      have hrow := Health.row_R hg (List.getElem_mem hi)
      have hgd : gd (h.hosts.map Host.d) i = h.hosts[i].d := gd_hosts hi
      have hl : i < (h.hosts.map Host.d).length := by simpa using hi
      have hwr : IntKind.wrap .i64 (h.hosts[i].row + 1) = h.hosts[i].row + 1 := wrap_id (by omega) (by omega)
      have e1 : ((Prb.mk i pf).d.fld 1).b = pf := rfl
      have hx1 : (h.hosts[i].d.fld 1).b = h.hosts[i].up := rfl
      have hx2 : (h.hosts[i].d.fld 2).i = h.hosts[i].row := rfl
      have hh2 : (h.d.fld 2).l = h.hosts.map Host.d := rfl
      simp only [upd, D.l_lst, D.i_int, Int.toNat_natCast, e1, hh2, hgd, hx1, hx2, hwr, gd_set hl]
      show _ = some (taken ((h.probed i pf).1, (h.probed i pf).2, true))
      unfold taken Health.probed Health.stepH
      simp only [Health.put_d, Health.host_lt hi]
      by_cases hu : h.hosts[i].up = pf
      · refine rn_if (by simpa using hu.symm) ?_
        rw [if_pos (by simpa using hu)]
        rfl
      · refine rn_else (by simpa using Ne.symm hu) ?_
        rw [if_neg (by simpa using hu)]
        refine rn_call (f_l13Most h h.hosts[i]) ?_
        by_cases hr : h.hosts[i].row + 1 < h.most h.hosts[i]
        · refine rn_if (decide_eq_true hr) ?_
          rw [if_pos hr]
          rfl
        · refine rn_else (fun hc => hr (of_decide_eq_true hc)) ?_
          rw [if_neg hr, List.set_set]
          rfl
end Go.Proofs.YtobighfemobgjaaGreatDoor
namespace Go.Proofs.YtobighfemobgjaaGreatDoor
open Go Go.Own
def Health.new (r f : Int) (ls : List (List UInt8)) : Health := ⟨r, f, ls.map (⟨·, true, 0⟩)⟩
def Health.start (r f : Int) (ls : List (List UInt8)) : Health × Bool := if (Health.new r f ls).good then (Health.new r f ls, true) else (Health.nul, false)
def started (x : Health × Bool) : D := .pair x.1.d (.pair (.bool x.2) .unit)
theorem Health.new_len (r f : Int) (ls : List (List UInt8)) : (Health.new r f ls).hosts.length = ls.length := by simp [Health.new]
theorem Health.new_names (r f : Int) (ls : List (List UInt8)) : (Health.new r f ls).names = ls := by simp [Health.new, Health.names, Function.comp_def]
def newAt (r f : Int) (ls : List (List UInt8)) (i : Nat) : D := .pair (.int r) (.pair (.int f) (.pair (.lst (((Health.new r f ls).hosts.map Host.d).take i)) .unit))
theorem newAt_all (r f : Int) (ls : List (List UInt8)) : newAt r f ls ls.length = (Health.new r f ls).d := by
  have : ((Health.new r f ls).hosts.map Host.d).take ls.length = (Health.new r f ls).hosts.map Host.d := List.take_of_length_le (by simp [Health.new])
  simp only [newAt, this]; rfl
theorem newAt_succ {r f : Int} {ls : List (List UInt8)} {i : Nat} (hi : i < ls.length) :
    (newAt r f ls i).setFld 2 (.lst (((newAt r f ls i).fld 2).l ++ [.pair (.str (ls.getD i [])) (.pair (.bool true) (.pair (.int 0) .unit))])) = newAt r f ls (i + 1) := by
  have hi' : i < ((Health.new r f ls).hosts.map Host.d).length := by simpa [Health.new] using hi
  simp only [newAt, D.setFld, D.fld, D.fst_pair, D.snd_pair, D.l_lst, List.take_succ_eq_append_getElem hi']
  simp [Health.new, Host.d, hi]
theorem newAt_len {r f : Int} {ls : List (List UInt8)} {i : Nat} (hi : i ≤ ls.length) : ((newAt r f ls i).fld 2).l.length = i := by
  simp [newAt, Health.new]; omega
theorem new_app {r f : Int} {ls : List (List UInt8)} {i : Nat} {x : D} (hi : i ≤ ls.length) (hl : ls.length ≤ lim) : appOk 32 ((newAt r f ls i).fld 2).l [x] = true := by
  have hlim : lim = 1048576 := rfl
  unfold appOk; rw [newAt_len hi]; simp [smax_eq]; omega
theorem nameOk_any (ls : List (List UInt8)) : inR ls.length 1 12 = false → (Health.new 0 0 ls).good = false := by
  intro h
  simp [Health.good, Health.new_len, h]
theorem Health.new_good (r f : Int) (ls : List (List UInt8)) : (Health.new r f ls).good = (inR r 1 10 && (inR f 1 10 && (allN ls.length (nameOk ls) && inR ls.length 1 12))) := by
  unfold Health.good
  rw [Health.new_names, Health.new_len]
  show ((inR r 1 10 && (inR f 1 10 && inR (ls.length : Int) 1 12)) && _) = _
  cases h1 : inR r 1 10 with
  | false => rfl
  | true =>
    cases h2 : inR f 1 10 with
    | false => rfl
    | true =>
      have : (Health.new r f ls).hosts.all (Health.new r f ls).rowOk = true := by
        rw [List.all_eq_true]
        intro x hx
        obtain ⟨s, hs, rfl⟩ := List.mem_map.1 hx
        simp only [inR, Bool.and_eq_true, decide_eq_true_eq] at h2
        simp [Health.rowOk, inR, Health.most, Health.new]
        omega
      rw [this]
      cases inR (ls.length : Int) 1 12 <;> simp
theorem f_specNew (r f : Int) (ls : List (List UInt8)) (hl : ls.length ≤ lim) (hm : ∀ s ∈ ls, s.length ≤ lim) : e_spec_NewHealth.F [.int r, .int f, .lst (ls.map .str)] = some (started (Health.start r f ls)) := by
  rw [q_spec_NewHealth]
  have hsm := Nat.le_trans hl lim_smax
  have hlen : (D.lst (ls.map D.str)).l.length = ls.length := by simp
  rw [hlen]
  have w1 := f_l1In' r 1 10
  have w2 := f_l1In' f 1 10
  have w3 := f_l13Names ls hl hm
  refine rn_bind (r := (0, [.bool (!(Health.new r f ls).good)])) ?_ ?_
  · rw [Health.new_good]
    cases r1 : inR r 1 10 with
    | false => rw [r1] at w1; exact out_call w1 (out_if rfl rfl)
    | true =>
      rw [r1] at w1
      cases r2 : inR f 1 10 with
      | false => rw [r2] at w2; exact out_call w1 (out_else (by simp) (out_call w2 (out_if rfl rfl)))
      | true => rw [r2] at w2; exact out_call w1 (out_else (by simp) (out_call w2 (out_else (by simp) (out_call w3 (by simp)))))
  · unfold Health.start
    cases hg : (Health.new r f ls).good with
    | false => simp [started, Health.nul, Health.d]
    | true =>
      simp only [sel2_zero, gd_zero]
      refine rn_else (by simp) ?_
      refine rn_bind (loop_for' (fun i (z : D) => [z, .int i]) ls.length (newAt r f ls) (t := 0) (o := [(Health.new r f ls).d]) (by simp [newAt]) ?_ ?_) ?_
      · intro i hi
        have hg : gd (D.lst (ls.map D.str)).l i = .str (ls.getD i []) := gd_strs hi
        refine out_if (by simpa using hi) (out_if (by simpa using inb_nat hi) (out_if (new_app (Nat.le_of_lt hi) hl) ?_))
        have e0 : (gd [newAt r f ls i, D.int (i : Int)] 1).i.toNat = i := by simp
        have e1 : (gd [newAt r f ls i, D.int (i : Int)] 1).i = i := rfl
        have e2 : gd [newAt r f ls i, D.int (i : Int)] 0 = newAt r f ls i := rfl
        rw [e0, e1, e2, hg, newAt_succ hi, wrap_succ hi hsm]
      · simp [newAt_all]
      · simp [started]
structure Pl where
  h : Health
  n : Nat
  ok : Bool
def Pl.d (x : Pl) : D := .pair x.h.d (.pair (.int x.n) (.pair (.bool x.ok) .unit))
def Pl.nul : Pl := ⟨.nul, 0, false⟩
def Pl.enc (i : Nat) (s : Health × Nat) : List D := [s.1.d, .int s.2, .int i]
def playG (_ : Nat) (s : Health × Nat) (p : Prb) : Sum (Health × Nat) (Nat × List D) :=
  if inR p.host 0 (s.1.hosts.length - 1) then .inl ((s.1.probed p.host.toNat p.fine).1, if (s.1.probed p.host.toNat p.fine).2 then s.2 + 1 else s.2)
  else .inr (0, [Health.nul.d, .int 0, .bool false])
def Health.play (r f : Int) (ls : List (List UInt8)) (ps : List Prb) : Pl :=
  if !(Health.start r f ls).2 || decide (ps.length > 200) then Pl.nul
  else match foldE playG 0 ((Health.start r f ls).1, 0) ps with
    | .inl s => ⟨s.1, s.2, true⟩
    | .inr _ => Pl.nul
theorem playG_inr {i : Nat} {ps : List Prb} {s : Health × Nat} {e : Nat × List D} : foldE playG i s ps = .inr e → e = (0, [Health.nul.d, .int 0, .bool false]) := by
  induction ps generalizing i s with
  | nil => intro h; cases h
  | cons p ps ih =>
    intro h
    unfold foldE playG at h
    by_cases hc : inR p.host 0 (s.1.hosts.length - 1) = true
    · rw [if_pos hc] at h; exact ih h
    · rw [if_neg hc] at h; cases h; rfl
def PlInv (i : Nat) (s : Health × Nat) : Prop := s.1.good = true ∧ s.2 ≤ i
theorem playG_inv {i : Nat} {s : Health × Nat} {p : Prb} {s' : Health × Nat} (hs : PlInv i s) (h : playG i s p = .inl s') : PlInv (i + 1) s' := by
  unfold playG at h
  by_cases hc : inR p.host 0 (s.1.hosts.length - 1) = true
  · rw [if_pos hc] at h
    cases h
    simp only [inR, Bool.and_eq_true, decide_eq_true_eq] at hc
    refine ⟨Health.probed_good hs.1 (by omega) _, ?_⟩
    have := hs.2
    simp only
    split <;> omega
  · rw [if_neg hc] at h; cases h
theorem gd_prbs {ps : List Prb} {i : Nat} (hi : i < ps.length) : gd (ps.map Prb.d) i = ps[i].d := by
  rw [gd_lt (by simpa using hi)]; simp
theorem start_good {r f : Int} {ls : List (List UInt8)} (h : (Health.start r f ls).2 = true) : (Health.start r f ls).1.good = true := by
  unfold Health.start at h ⊢
  by_cases hg : (Health.new r f ls).good = true
  · rw [if_pos hg]; exact hg
  · rw [if_neg hg] at h; cases h
theorem f_specPlay (r f : Int) (ls : List (List UInt8)) (ps : List Prb) (hl : ls.length ≤ lim) (hm : ∀ s ∈ ls, s.length ≤ lim) : e_spec_PlayProbes.F [.int r, .int f, .lst (ls.map .str), .lst (ps.map Prb.d)] = some (Health.play r f ls ps).d := by
  rw [q_spec_PlayProbes]
  refine rn_call (f_specNew r f ls hl hm) ?_
  have hlen : (D.lst (ps.map Prb.d)).l.length = ps.length := by simp
  have hb : ((started (Health.start r f ls)).fld 1).b = (Health.start r f ls).2 := rfl
  have h0 : (started (Health.start r f ls)).fld 0 = (Health.start r f ls).1.d := rfl
  rw [hlen, hb, h0]
  refine rn_bind (r := (0, [.bool (!(Health.start r f ls).2 || decide (ps.length > 200))])) ?_ ?_
  · cases (Health.start r f ls).2 with
    | false => rfl
    | true =>
      have : decide ((ps.length : Int) > 200) = decide (ps.length > 200) := by rw [decide_eq_decide]; omega
      simp [this]
  · unfold Health.play
    simp only [sel2_zero, gd_zero]
    by_cases hc : (!(Health.start r f ls).2 || decide (ps.length > 200)) = true
    · rw [hc]
      refine rn_if rfl ?_
      simp [Pl.nul, Pl.d, Health.nul, Health.d]
    · rw [if_neg hc]
      refine rn_else (by simpa using hc) ?_
      simp only [Bool.or_eq_true, Bool.not_eq_true', decide_eq_true_eq, not_or, Bool.not_eq_false] at hc
      have hsm : ps.length ≤ smax := by rw [smax_eq]; omega
      have hg := start_good hc.1
      refine rn_fold (loop_foldE' (T := 1) (out := fun s => [s.1.d, .int s.2]) Pl.enc ps playG PlInv ((Health.start r f ls).1, 0) rfl ⟨hg, Nat.le_refl _⟩ ?_ ?_) ?_ ?_
      · intro i s hi hs
        have hgp : gd (D.lst (ps.map Prb.d)).l i = ps[i].d := gd_prbs hi
        have hlh := Health.len_R hs.1
        have ht := f_specTake (Health.good_fit hs.1) ps[i]
        have key : ∀ R, (
            ((e_spec_TakeProbe.F [s.1.d, ps[i].d]).bind fun r9 =>
              if (!(r9.fld 2).b) then
                ou 1 [(.pair (.int 0) (.pair (.int 0) (.pair (D.lst []) .unit))), (.int 0), (.bool false)]
              else
                if (r9.fld 1).b then
                  ou 0 [(r9.fld 0), (.int (IntKind.wrap .i64 ((s.2 : Int) + 1)))]
                else
                  ou 0 [(r9.fld 0), .int s.2]).bind fun o9 =>
            sel2 o9.1 (ou 0 [(gd o9.2 0), (gd o9.2 1), (.int ((i + 1 : Nat) : Int))]) fun n12 =>
            sel2 n12 (ou 1 [(gd o9.2 0), (gd o9.2 1), (gd o9.2 2)]) fun _ => none) = R →
            (if (decide ((gd (Pl.enc i s) 2).i < (ps.length : Int))) then
            (if (inb (gd (Pl.enc i s) 2).i ps.length) then
              (e_spec_TakeProbe.F [(gd (Pl.enc i s) 0), (gd (D.lst (ps.map Prb.d)).l (gd (Pl.enc i s) 2).i.toNat)]).bind fun r9 =>
              if (!(r9.fld 2).b) then
                ou 1 [(.pair (.int 0) (.pair (.int 0) (.pair (D.lst []) .unit))), (.int 0), (.bool false)]
              else
                if (r9.fld 1).b then
                  ou 0 [(r9.fld 0), (.int (IntKind.wrap .i64 ((gd (Pl.enc i s) 1).i + 1)))]
                else
                  ou 0 [(r9.fld 0), (gd (Pl.enc i s) 1)]
              else none).bind fun o9 =>
            sel2 o9.1 (ou 0 [(gd o9.2 0), (gd o9.2 1), (.int (IntKind.wrap .i64 ((gd (Pl.enc i s) 2).i + 1)))]) fun n12 =>
            sel2 n12 (ou 1 [(gd o9.2 0), (gd o9.2 1), (gd o9.2 2)]) fun _ => none
          else
            ou 2 [(gd (Pl.enc i s) 0), (gd (Pl.enc i s) 1)]) = R := by
          intro R hR
          refine out_if (by simpa [Pl.enc] using hi) ?_
          have e0 : (gd (Pl.enc i s) 2).i.toNat = i := by simp [Pl.enc]
          have e1 : (gd (Pl.enc i s) 2).i = i := rfl
          have e2 : gd (Pl.enc i s) 0 = s.1.d := rfl
          have e3 : gd (Pl.enc i s) 1 = .int s.2 := rfl
          have e5 : inb (i : Int) ps.length = true := inb_nat hi
          rw [e0, e1, e2, e3, hgp, wrap_succ hi hsm, if_pos e5]
          exact hR
        unfold Health.take at ht
        rw [hs.1] at ht
        unfold playG
        cases hr : inR ps[i].host 0 (s.1.hosts.length - 1) with
        | false =>
          rw [hr] at ht
          exact key _ (out_bind (r := (1, [Health.nul.d, .int 0, .bool false])) (out_call ht (out_if rfl rfl)) rfl)
        | true =>
          rw [hr] at ht
          refine ⟨key _ ?_, ?_⟩
          · have hw1 : IntKind.wrap .i64 ((s.2 : Int) + 1) = ((s.2 + 1 : Nat) : Int) := by
              have := hs.2
              rw [wrap_id] <;> omega
            rw [hw1]
            refine out_bind (r := (0, [(s.1.probed ps[i].host.toNat ps[i].fine).1.d, .int ((if (s.1.probed ps[i].host.toNat ps[i].fine).2 then s.2 + 1 else s.2 : Nat) : Int)])) (out_call ht (out_else (by simp [taken]) ?_)) rfl
            simp only [Bool.and_self, if_true, taken, D.fld, D.fst_pair, D.snd_pair, D.b_bool]
            cases (s.1.probed ps[i].host.toNat ps[i].fine).2 <;> rfl
          · refine playG_inv (p := ps[i]) hs ?_
            unfold playG
            rw [if_pos hr]
      · intro s _
        simp [Pl.enc]
      · intro s hf
        rw [hf]; simp [Pl.d]
      · intro e hf
        rw [hf]
        have := playG_inr hf
        subst this
        simp [Pl.d, Pl.nul]
end Go.Proofs.YtobighfemobgjaaGreatDoor
namespace Go.Own
variable [Glb]
open Go
theorem rn_else_exH {α : Type} {g : α → D} {c : Prop} [Decidable c] {a b : Outc} (h : ¬ c) (hk : ∃ s, rn b = some (g s)) : ∃ s, rn (if c then a else b) = some (g s) := by rw [if_neg h]; exact hk
theorem digits_loopH {f : List D → Outc} {c : Nat × List D → Outc} {k : Int} (h0 : 0 ≤ k) (h1 : k < 10 ^ 18)
    (hs : ∀ (n : Int) (s : List UInt8), 0 < n → n < 10 ^ 18 → s.length ≤ 30 → ∃ c : List UInt8, c.length = 1 ∧ f [.int n, .str s] = some (0, [.int (n.tdiv 10), .str (c ++ s)]))
    (he : ∀ (n : Int) (s : List UInt8), n ≤ 0 → f [.int n, .str s] = some (1, [.str s])) (hc : ∀ s : List UInt8, s.length ≤ 30 → ∃ s', rn (c (0, [.str s])) = some (.str s')) :
    ∃ s, rn ((loopF f [.int k, .str []]).bind c) = some (.str s) := by
  have key : ∀ (fuel : Nat), fuel ≤ 18 → ∀ (n : Int) (s : List UInt8), 0 ≤ n → n < 10 ^ fuel → s.length + fuel ≤ 30 → ∃ s', loopF f [.int n, .str s] = some (0, [.str s']) ∧ s'.length ≤ 30 := by
    intro fuel
    induction fuel with
    | zero =>
      intro _ n s h0 h1 h2
      exact ⟨s, loopF_exit (he n s (by simp at h1; omega)), by omega⟩
    | succ m ih =>
      intro hm n s h0 h1 h2
      by_cases hn : n ≤ 0
      · exact ⟨s, loopF_exit (he n s hn), by omega⟩
      · have hp : (10 : Int) ^ (m + 1) = 10 ^ m * 10 := Int.pow_succ 10 m
        have hp2 : (10 : Int) ^ (m + 1) ≤ 10 ^ 18 := by
          have := Nat.pow_le_pow_right (n := 10) (by omega) hm
          exact_mod_cast this
        obtain ⟨c, hc, hstep⟩ := hs n s (by omega) (by omega) (by omega)
        rw [loopF_step hstep]
        have h3 : n.tdiv 10 = n / 10 := Int.tdiv_eq_ediv_of_nonneg (by omega)
        refine ih (by omega) (n.tdiv 10) (c ++ s) (by omega) ?_ (by simp; omega)
        rw [h3]
        omega
  obtain ⟨s, h2, h3⟩ := key 18 (Nat.le_refl _) k [] h0 h1 (by simp)
  rw [h2]
  exact hc s h3
end Go.Own
namespace Go.Proofs.YtobighfemobgjaaGreatDoor
open Go Go.Own
abbrev tHost : T := .pair .str (.pair .bool (.pair (.int .i64) .unit))
abbrev tHealth : T := .pair (.int .i64) (.pair (.int .i64) (.pair (.lst false tHost) .unit))
abbrev tPrb : T := .pair (.int .i64) (.pair .bool .unit)
def in64 (n : Int) : Prop := -9223372036854775808 ≤ n ∧ n ≤ 9223372036854775807
theorem sm_int {B : Nat} {d : D} (h : Sm B (.int .i64) d) : ∃ n, d = .int n ∧ in64 n := by
  obtain ⟨n, rfl, h1, h2⟩ := h
  exact ⟨n, rfl, h1, h2⟩
structure Host.In (B : Nat) (x : Host) : Prop where
  nm : x.name.length ≤ B
  row : in64 x.row
structure Health.In (B : Nat) (h : Health) : Prop where
  len : h.hosts.length ≤ B
  all : ∀ x ∈ h.hosts, x.In B
  rise : in64 h.rise
  fall : in64 h.fall
theorem Health.In.fit {h : Health} (hi : h.In lim) : h.Fit := ⟨hi.len, fun x hx => (hi.all x hx).nm, fun x hx => (hi.all x hx).row, hi.rise, hi.fall⟩
theorem host_of {B : Nat} {d : D} (h : Sm B tHost d) : ∃ x : Host, d = x.d ∧ x.In B := by
  obtain ⟨_, _, rfl, ⟨s, rfl, hs⟩, _, _, rfl, ⟨b, rfl⟩, _, _, rfl, hc, rfl⟩ := h
  obtain ⟨n, rfl, hn⟩ := sm_int hc
  exact ⟨⟨s, b, n⟩, rfl, hs, hn⟩
theorem list_of {α : Type} {g : α → D} {Q : α → Prop} : ∀ {xs : List D}, (∀ x ∈ xs, ∃ y : α, x = g y ∧ Q y) → ∃ ys : List α, xs = ys.map g ∧ ∀ y ∈ ys, Q y
  | [], _ => ⟨[], rfl, by simp⟩
  | x :: xs, h => by
    obtain ⟨y, rfl, hy⟩ := h x (by simp)
    obtain ⟨ys, rfl, hys⟩ := list_of (xs := xs) (fun z hz => h z (by simp [hz]))
    exact ⟨y :: ys, rfl, by simpa using ⟨hy, hys⟩⟩
theorem health_of {B : Nat} {d : D} (h : Sm B tHealth d) : ∃ x : Health, d = x.d ∧ x.In B := by
  obtain ⟨_, _, rfl, ha, _, _, rfl, hb, _, _, rfl, ⟨xs, rfl, hl, hc⟩, rfl⟩ := h
  obtain ⟨a, rfl, ra⟩ := sm_int ha
  obtain ⟨b, rfl, rb⟩ := sm_int hb
  obtain ⟨ys, rfl, hys⟩ := list_of (g := Host.d) (Q := Host.In B) (fun x hx => host_of (hc x hx))
  exact ⟨⟨a, b, ys⟩, rfl, by simpa using hl, hys, ra, rb⟩
theorem prb_of {B : Nat} {d : D} (h : Sm B tPrb d) : ∃ x : Prb, d = x.d ∧ in64 x.host := by
  obtain ⟨_, _, rfl, ha, _, _, rfl, ⟨b, rfl⟩, rfl⟩ := h
  obtain ⟨a, rfl, ra⟩ := sm_int ha
  exact ⟨⟨a, b⟩, rfl, ra⟩
theorem prbs_of {B : Nat} {o : Bool} {d : D} (h : Sm B (.lst o tPrb) d) : ∃ xs : List Prb, d = .lst (xs.map Prb.d) ∧ xs.length ≤ B := by
  obtain ⟨xs, rfl, hl, hc⟩ := h
  obtain ⟨ys, rfl, _⟩ := list_of (g := Prb.d) (Q := fun x => in64 x.host) (fun x hx => prb_of (hc x hx))
  exact ⟨ys, rfl, by simpa using hl⟩
theorem strs_of {B : Nat} {o : Bool} {d : D} (h : Sm B (.lst o .str) d) : ∃ xs : List (List UInt8), d = .lst (xs.map D.str) ∧ xs.length ≤ B ∧ ∀ s ∈ xs, s.length ≤ B := by
  obtain ⟨xs, rfl, hl, hc⟩ := h
  obtain ⟨ys, rfl, hy⟩ := list_of (g := D.str) (Q := fun s => s.length ≤ B) (fun x hx => hc x hx)
  exact ⟨ys, rfl, by simpa using hl, hy⟩
theorem len_wrapH {left : Int} {n : Nat} (h0 : 0 ≤ left) (h1 : left ≤ lim) (hn : n ≤ smax) : IntKind.wrap .i64 (left - (n : Int)) = left - n := by
  have hlim : (lim : Int) = 1048576 := rfl
  have hsm : (smax : Int) = 9223372036854775807 := rfl
  exact wrap_id (by omega) (by omega)
def szHost (s : Int) (x : D) : Int := if s - (x.fld 0).s.length < 0 then -1 else s - (x.fld 0).s.length
theorem szHost_spec {x : Host} (hx : x.In smax) (s : Int) (h0 : 0 ≤ s) (h1 : s ≤ lim) : szHost s x.d ≤ s ∧ (0 ≤ szHost s x.d → ∃ y : Host, x.d = y.d ∧ y.In lim) := by
  have hd : (x.d.fld 0).s = x.name := rfl
  simp only [szHost, hd]
  by_cases h : s - (x.name.length : Int) < 0
  · rw [if_pos h]; omega
  · rw [if_neg h]; exact ⟨by omega, fun _ => ⟨x, rfl, by omega, hx.row⟩⟩
def szStrH (s : Int) (x : D) : Int := s - x.s.length
def Health.hs (h : Health) (xs : List Host) : Health := ⟨h.rise, h.fall, xs⟩
noncomputable def pmk (k : Int) (i : Nat) : D := (Prb.mk (k + 2 * i) ((k + 2 * i + 1).tmod 3 == 0)).d
end Go.Proofs.YtobighfemobgjaaGreatDoor
namespace Go.Proofs.YtobighfemobgjaaGreatDoor
open Go Go.Own
theorem Health.take_len (h : Health) (p : Prb) : (h.take p).1.hosts.length ≤ h.hosts.length := by
  unfold Health.take
  split
  · simp [Health.probed_len]
  · simp [Health.nul]
theorem playG_len {ps : List Prb} : ∀ {i : Nat} {s s' : Health × Nat}, foldE playG i s ps = .inl s' → s'.1.hosts.length = s.1.hosts.length := by
  induction ps with
  | nil => intro i s s' h; cases h; rfl
  | cons p ps ih =>
    intro i s s' h
    unfold foldE playG at h
    by_cases hc : inR p.host 0 (s.1.hosts.length - 1) = true
    · rw [if_pos hc] at h
      rw [ih h]
      simp [Health.probed_len]
    · rw [if_neg hc] at h; cases h
theorem start_len (r f : Int) (ls : List (List UInt8)) : (Health.start r f ls).1.hosts.length ≤ ls.length := by
  unfold Health.start
  split
  · simp [Health.new_len]
  · simp [Health.nul]
theorem play_len (r f : Int) (ls : List (List UInt8)) (ps : List Prb) : (Health.play r f ls ps).h.hosts.length ≤ ls.length := by
  unfold Health.play
  split
  · simp [Pl.nul, Health.nul]
  · split
    · rename_i s hs
      simp only
      rw [playG_len hs]
      exact start_len r f ls
    · simp [Pl.nul, Health.nul]
end Go.Proofs.YtobighfemobgjaaGreatDoor
namespace Go.Own
variable [Glb]
open Go
def cuD (bs : List D) (p : Nat) (a : Int) : D := .pair (.lst bs) (.pair (.int p) (.pair (.int a) .unit))
def Cu (bs : List D) (k : Nat) (c : D) : Prop := ∃ p a, c = cuD bs p a ∧ p ≤ k
theorem Cu.mono {bs : List D} {k m : Nat} {c : D} (h : Cu bs k c) (hk : k ≤ m) : Cu bs m c := by
  obtain ⟨p, a, rfl, h⟩ := h; exact ⟨p, a, rfl, by omega⟩
def Bytes (bs : List D) : Prop := ∀ x ∈ bs, ∃ n : Int, x = .int n ∧ 0 ≤ n ∧ n ≤ 255
theorem bytes_ofD {B : Nat} {o : Bool} {d : D} (h : Sm B (.lst o (.int .u8)) d) : ∃ bs, d = .lst bs ∧ Bytes bs := by
  obtain ⟨xs, rfl, _, h⟩ := h
  refine ⟨xs, rfl, fun x hx => ?_⟩
  obtain ⟨n, rfl, h1, h2⟩ := h x hx
  have e1 : IntKind.min .u8 = 0 := by decide
  have e2 : IntKind.max .u8 = 255 := by decide
  exact ⟨n, rfl, by omega, by omega⟩
theorem and255 (x : Int) : ∃ n : Nat, (D.ofBin (binInt .and .u64 x 255)).i = (n : Int) ∧ n ≤ 255 := by
  have h1 : (BitVec.ofInt 64 x &&& BitVec.ofInt 64 255).toNat ≤ 255 := by
    rw [BitVec.toNat_and]
    exact Nat.le_trans Nat.and_le_right (by decide)
  refine ⟨_, ?_, h1⟩
  show IntKind.wrap .u64 ((BitVec.ofInt 64 x &&& BitVec.ofInt 64 255).toNat : Int) = _
  generalize (BitVec.ofInt 64 x &&& BitVec.ofInt 64 255).toNat = m at h1
  have : IntKind.wrap .u64 (m : Int) = (m : Int) % 18446744073709551616 := by
    simp [IntKind.wrap, IntKind.bits, IntKind.signed]
  rw [this]
  omega
end Go.Own
namespace Go.Proofs.YtobighfemobgjaaGreatDoor
open Go Go.Own
theorem f_next {bs : List D} (hb : Bytes bs) {k : Nat} {c : D} (hc : Cu bs k c) (hk : k ≤ 1000000) :
    ∃ (n : Nat) (c' : D), e_spec_l1Cur_next.F [c] = some (.pair (.int n) (.pair c' .unit)) ∧ n ≤ 255 ∧ Cu bs (k + 1) c' := by
  obtain ⟨p, a, rfl, hp⟩ := hc
  rw [q_spec_l1Cur_next]
  have f0 : ((cuD bs p a).fld 0).l = bs := rfl
  have f1 : ((cuD bs p a).fld 1).i = p := rfl
  have f2 : ((cuD bs p a).fld 2).i = a := rfl
  have hw : IntKind.wrap .i64 ((p : Int) + 1) = ((p + 1 : Nat) : Int) := by rw [wrap_id] <;> omega
  have hset : ∀ x : Int, ((cuD bs p a).setFld 1 (.int ((p + 1 : Nat) : Int))).setFld 2 (.int x) = cuD bs (p + 1) x := fun _ => rfl
  simp only [f0, f1, f2, hw, hset]
  by_cases hlt : p < bs.length
  · obtain ⟨n, hn, hn0, hn1⟩ := hb _ (List.getElem_mem hlt)
    have hg : gd bs p = .int n := (gd_lt hlt).trans hn
    have hwn : IntKind.wrap .i64 n = n := by rw [wrap_id] <;> omega
    obtain ⟨m, rfl⟩ := Int.eq_ofNat_of_zero_le hn0
    refine ⟨m, cuD bs (p + 1) _, rn_bind (r := (0, [.int m])) (out_if (decide_eq_true (by omega)) (out_if (inb_nat hlt) ?_)) (rn_if (decide_eq_true (by omega)) rfl), by omega, p + 1, _, rfl, by omega⟩
    simp [hg, hwn]
  · obtain ⟨m, hm, hm2⟩ := and255 ((IntKind.wrap .u64 ((IntKind.wrap .u64 ((IntKind.wrap .u64 (a * 6364136223846793005)) + (IntKind.wrap .u64 0))) + 1442695040888963407)).fdiv (2 ^ min 40 (IntKind.bits .u64)))
    by_cases hle : ((p + 1 : Nat) : Int) ≤ (bs.length : Int)
    · omega
    refine ⟨m, cuD bs (p + 1) (IntKind.wrap .u64 ((IntKind.wrap .u64 ((IntKind.wrap .u64 (a * 6364136223846793005)) + (IntKind.wrap .u64 0))) + 1442695040888963407)), rn_bind (r := (0, [.int 0])) (out_else (fun h => by have := of_decide_eq_true h; omega) rfl) (rn_else (fun h => hle (of_decide_eq_true h)) (rn_if (by decide) ?_)), hm2, p + 1, _, rfl, by omega⟩
    simp only [gd_zero, D.i_int, hm]
    have : IntKind.wrap .i64 (m : Int) = m := by rw [wrap_id] <;> omega
    rw [this]; rfl
theorem tmod_nat {n : Nat} {x : Int} (hx : 0 < x) : ∃ v : Nat, (n : Int).tmod x = v ∧ (v : Int) < x := by
  rw [Int.tmod_eq_emod_of_nonneg (by omega)]
  have h1 := Int.emod_nonneg (n : Int) (show x ≠ 0 by omega)
  have h2 := Int.emod_lt_of_pos (n : Int) hx
  exact ⟨((n : Int) % x).toNat, by omega, by omega⟩
theorem f_pick {bs : List D} (hb : Bytes bs) {k : Nat} {c : D} (hc : Cu bs k c) (hk : k ≤ 900000) (x : Int) :
    ∃ (v : Nat) (c' : D), e_spec_l1Cur_pick.F [c, .int x] = some (.pair (.int v) (.pair c' .unit)) ∧ ((v : Int) < x ∨ v = 0) ∧ Cu bs (k + 2) c' := by
  rw [q_spec_l1Cur_pick]
  by_cases h1 : x ≤ 1
  · exact ⟨0, c, rn_if (decide_eq_true h1) rfl, .inr rfl, hc.mono (by omega)⟩
  obtain ⟨n, c1, hn, hn2, hc1⟩ := f_next hb hc (by omega)
  by_cases h2 : x > 200
  · obtain ⟨m, c2, hm, hm2, hc2⟩ := f_next hb hc1 (by omega)
    have w : IntKind.wrap .i64 (IntKind.wrap .i64 ((n : Int) * 256) + m) = ((n * 256 + m : Nat) : Int) := by
      rw [wrap_id (x := (n : Int) * 256) (by omega) (by omega), wrap_id] <;> omega
    obtain ⟨v, hv, hv2⟩ := tmod_nat (n := n * 256 + m) (x := x) (by omega)
    refine ⟨v, c2, rn_else (fun h => h1 (of_decide_eq_true h)) (rn_call hn (rn_bind (r := (0, [c2, .int ((n * 256 + m : Nat) : Int)])) (out_if (decide_eq_true h2) (out_call hm ?_)) (rn_if (by simp; omega) ?_))), .inl hv2, hc2.mono (by omega)⟩
    · simp only [D.fld, D.fst_pair, D.snd_pair, D.i_int, w]
    · simp only [gd_one, gd_zero, D.i_int, hv]; rfl
  · obtain ⟨v, hv, hv2⟩ := tmod_nat (n := n) (x := x) (by omega)
    refine ⟨v, c1, rn_else (fun h => h1 (of_decide_eq_true h)) (rn_call hn (rn_bind (r := (0, [c1, .int n])) (out_else (fun h => h2 (of_decide_eq_true h)) rfl) (rn_if (by simp; omega) ?_))), .inl hv2, hc1.mono (by omega)⟩
    simp [hv]
theorem f_one {bs : List D} (hb : Bytes bs) {k : Nat} {c : D} (hc : Cu bs k c) (hk : k ≤ 900000) (x : Int) :
    ∃ (b : Bool) (c' : D), e_spec_l1Cur_one.F [c, .int x] = some (.pair (.bool b) (.pair c' .unit)) ∧ Cu bs (k + 2) c' := by
  obtain ⟨v, c', h, _, hc'⟩ := f_pick hb hc hk x
  rw [q_spec_l1Cur_one]
  exact ⟨_, c', rn_call h rfl, hc'⟩
theorem f_of {bs : List D} (hb : Bytes bs) {k : Nat} {c : D} (hc : Cu bs k c) (hk : k ≤ 900000) {xs : List D} (hx : 0 < xs.length) :
    ∃ (x : D) (c' : D), e_spec_l1Cur_of.F [c, .lst xs] = some (.pair x (.pair c' .unit)) ∧ x ∈ xs ∧ Cu bs (k + 2) c' := by
  obtain ⟨v, c', h, hv, hc'⟩ := f_pick hb hc hk xs.length
  have hlt : v < xs.length := by omega
  rw [q_spec_l1Cur_of]
  refine ⟨gd xs v, c', rn_call h (rn_if (inb_nat hlt) ?_), ?_, hc'⟩
  · simp
  · rw [gd_lt hlt]; exact List.getElem_mem hlt
def poolS : List (List UInt8) := [[97, 46, 101, 120, 46, 99, 111, 109], [98, 46, 101, 120, 46, 99, 111, 109], [99, 46, 101, 120, 46, 99, 111, 109], [100, 46, 101, 120, 46, 99, 111, 109]]
theorem f_hosts {bs : List D} (hb : Bytes bs) {k : Nat} {c : D} (hc : Cu bs k c) (hk : k ≤ 800000) :
    ∃ (ls : List (List UInt8)) (c' : D), e_spec_l1Cur_hosts.F [c] = some (.pair (.lst (ls.map D.str)) (.pair c' .unit)) ∧ ls.length ≤ 5 ∧ (∀ s ∈ ls, s.length ≤ 8) ∧ Cu bs (k + 6) c' := by
  obtain ⟨v, c1, h1, hv, hc1⟩ := f_pick hb hc (by omega) 4
  obtain ⟨b, c2, h2, hc2⟩ := f_one hb hc1 (by omega) 30
  have hv4 : v ≤ 3 := by omega
  have hw : IntKind.wrap .i64 (1 + (v : Int)) = ((v + 1 : Nat) : Int) := by rw [wrap_id] <;> omega
  have hpl : ∀ n : Nat, n ≤ 4 → (poolS.take n).length ≤ 4 ∧ ∀ s ∈ poolS.take n, s.length ≤ 8 := by
    intro n hn
    refine ⟨by rw [List.length_take]; omega, fun s hs => ?_⟩
    have h0 : ∀ s ∈ poolS, s.length ≤ 8 := by decide
    exact h0 s (List.mem_of_mem_take hs)
  have htk : (((D.str [97, 46, 101, 120, 46, 99, 111, 109]) :: ((D.str [98, 46, 101, 120, 46, 99, 111, 109]) :: ((D.str [99, 46, 101, 120, 46, 99, 111, 109]) :: ((D.str [100, 46, 101, 120, 46, 99, 111, 109]) :: ([] : List D))))).drop 0).take ((v + 1 : Nat) : Int).toNat = (poolS.take (v + 1)).map D.str := by
    rw [List.map_take]; rfl
  rw [q_spec_l1Cur_hosts]
  have hsl : slOk 0 ((v + 1 : Nat) : Int) 4 = true := by simp [slOk]; omega
  have hwin : winOk 0 ((v + 1 : Nat) : Int).toNat ((D.str [97, 46, 101, 120, 46, 99, 111, 109]) :: ((D.str [98, 46, 101, 120, 46, 99, 111, 109]) :: ((D.str [99, 46, 101, 120, 46, 99, 111, 109]) :: ((D.str [100, 46, 101, 120, 46, 99, 111, 109]) :: ([] : List D))))) = true := by simp [winOk]; omega
  have hpv := hpl (v + 1) (by omega)
  have hcase : ∃ (ls : List (List UInt8)) (c' : D), ls.length ≤ 5 ∧ (∀ s ∈ ls, s.length ≤ 8) ∧ Cu bs (k + 6) c' ∧ ((if b = true then
      if (appOk 16 ([] : List D) ((poolS.take (v + 1)).map D.str)) then
      (e_spec_l1Cur_of.F [c2, (D.lst ((D.str []) :: ((D.str [97, 46, 101, 120, 46, 99, 111, 109]) :: ((D.str [65]) :: ([] : List D)))))]).bind fun r3 =>
      if (appOk 16 (([] : List D) ++ ((poolS.take (v + 1)).map D.str)) ((r3.fld 0) :: ([] : List D))) then
      ou 0 [(r3.fld 1), (D.lst ((([] : List D) ++ ((poolS.take (v + 1)).map D.str)) ++ ((r3.fld 0) :: ([] : List D))))]
      else none
      else none
    else
      ou 0 [c2, (D.lst ((poolS.take (v + 1)).map D.str))]) = some (0, [c', .lst (ls.map D.str)])) := by
    cases b with
    | false =>
      exact ⟨poolS.take (v + 1), c2, by omega, hpv.2, hc2.mono (by omega), rfl⟩
    | true =>
      obtain ⟨x, c3, h3, hx, hc3⟩ := f_of hb hc2 (by omega) (xs := ((D.str []) :: ((D.str [97, 46, 101, 120, 46, 99, 111, 109]) :: ((D.str [65]) :: ([] : List D))))) (by simp)
      have hxs : ∃ s : List UInt8, x = .str s ∧ s.length ≤ 8 := by
        simp only [List.mem_cons, List.not_mem_nil, or_false] at hx
        rcases hx with rfl | rfl | rfl <;> exact ⟨_, rfl, by decide⟩
      obtain ⟨s, rfl, hs⟩ := hxs
      refine ⟨poolS.take (v + 1) ++ [s], c3, by simp only [List.length_append, List.length_singleton]; omega, ?_, hc3.mono (by omega), ?_⟩
      · intro t ht
        simp only [List.mem_append, List.mem_singleton] at ht
        rcases ht with ht | rfl
        · exact hpv.2 t ht
        · exact hs
      · have hsm : smax = 9223372036854775807 := smax_eq
        refine out_if rfl (out_if (by simp [appOk, smax_eq]; omega) (out_call h3 (out_if (by simp [appOk, smax_eq]; omega) ?_)))
        simp
  obtain ⟨ls, c', hl, hm, hc', hcase⟩ := hcase
  refine ⟨ls, c', rn_call h1 ?_, hl, hm, hc'⟩
  simp only [D.fld, D.fst_pair, D.snd_pair, D.i_int, hw]
  refine rn_if hsl (rn_if hwin ?_)
  rw [show ((((v + 1 : Nat) : Int).toNat - 0 : Nat) : Int).toNat = ((v + 1 : Nat) : Int).toNat by simp, htk]
  exact rn_bind (out_call h2 hcase) rfl
end Go.Proofs.YtobighfemobgjaaGreatDoor
namespace Go.Own
variable [Glb]
open Go
end Go.Own
namespace Go.Proofs.YtobighfemobgjaaGreatDoor
open Go Go.Own
theorem prbs_set {ps : List Prb} {i : Nat} {p : Prb} : (ps.map Prb.d).set i p.d = (ps.set i p).map Prb.d := by simp [List.map_set]
theorem f_probes {bs : List D} (hb : Bytes bs) {k : Nat} {c : D} (hc : Cu bs k c) (hk : k ≤ 700000) (x : Int) :
    ∃ (ps : List Prb) (c' : D), e_spec_l1Cur_probes.F [c, .int x] = some (.pair (.lst (ps.map Prb.d)) (.pair c' .unit)) ∧ ps.length ≤ 201 ∧ Cu bs (k + 1000) c' := by
  obtain ⟨v, c1, h1, hv, hc1⟩ := f_pick hb hc (by omega) 30
  obtain ⟨b, c2, h2, hc2⟩ := f_one hb hc1 (by omega) 20
  rw [q_spec_l1Cur_probes]
  -- how many
  have hn : ∃ (n : Nat) (c3 : D), n ≤ 201 ∧ Cu bs (k + 6) c3 ∧ (if b = true then
      (e_spec_l1Cur_pick.F [c2, (.int 2)]).bind fun r4 =>
      ou 0 [(r4.fld 1), (.int (IntKind.wrap .i64 (200 + (r4.fld 0).i)))]
    else
      ou 0 [c2, .int v]) = some (0, [c3, .int n]) := by
    cases b with
    | false => exact ⟨v, c2, by omega, hc2.mono (by omega), rfl⟩
    | true =>
      obtain ⟨w, c3, h3, hw, hc3⟩ := f_pick hb hc2 (by omega) 2
      have hww : IntKind.wrap .i64 (200 + (w : Int)) = ((200 + w : Nat) : Int) := by rw [wrap_id] <;> omega
      refine ⟨200 + w, c3, by omega, hc3.mono (by omega), out_if rfl (out_call h3 ?_)⟩
      simp only [D.fld, D.fst_pair, D.snd_pair, D.i_int, hww]
  obtain ⟨n, c3, hn2, hc3, hn⟩ := hn
  refine (?_ : ∃ (ps : List Prb) (c' : D), rn _ = _ ∧ _)
  -- the loop
  have hloop := loop_down (f := fun l5 =>
        if (decide ((gd l5 2).i > 0)) then
          (e_spec_l1Cur_pick.F [(gd l5 0), .int x]).bind fun r8 =>
          (e_spec_l1Cur_one.F [(r8.fld 1), (.int 2)]).bind fun r9 =>
          if (appOk 16 (gd l5 1).l ((.pair (r8.fld 0) (.pair (r9.fld 0) .unit)) :: ([] : List D))) then
          ou 0 [(r9.fld 1), (D.lst ((gd l5 1).l ++ ((.pair (r8.fld 0) (.pair (r9.fld 0) .unit)) :: ([] : List D)))), (.int (IntKind.wrap .i64 ((gd l5 2).i - 1)))]
          else none
        else
          ou 1 [(gd l5 0), (gd l5 1)]) (l := [c3, (D.lst []), .int n]) (t := 0) (out := fun (s : D × List Prb) => [s.1, .lst (s.2.map Prb.d)])
    (fun m (s : D × List Prb) => [s.1, .lst (s.2.map Prb.d), .int m]) (fun m s => Cu bs (k + 6 + 4 * (n - m)) s.1 ∧ s.2.length = n - m ∧ m ≤ n) n (c3, []) rfl ⟨by simpa using hc3, by simp, Nat.le_refl _⟩ ?_ ?_
  · obtain ⟨⟨c5, ps⟩, ⟨hc5, hlp, _⟩, hl⟩ := hloop
    simp only at hc5 hlp
    -- one may be out of place
    have hlast : ∃ (ps' : List Prb) (c6 : D), ps'.length = ps.length ∧ Cu bs (k + 8 + 4 * n) c6 ∧ ((if (decide (((D.lst (ps.map Prb.d)).l.length : Int) > 0)) then
            (e_spec_l1Cur_one.F [c5, (.int 40)]).bind fun r7 =>
            ou 0 [(r7.fld 1), (r7.fld 0)]
          else
            ou 0 [c5, (.bool false)]).bind fun o7 =>
        sel2 o7.1 (if (gd o7.2 1).b then
            if (inb 0 (D.lst (ps.map Prb.d)).l.length) then
            ou 0 [(gd o7.2 0), (D.lst (upd (D.lst (ps.map Prb.d)).l 0 0 (.int x)))]
            else none
          else
            ou 0 [(gd o7.2 0), D.lst (ps.map Prb.d)]) fun _ => none) = some (0, [c6, .lst (ps'.map Prb.d)]) := by
      have hlen : (D.lst (ps.map Prb.d)).l.length = ps.length := by simp
      rw [hlen]
      by_cases h0 : ps.length = 0
      · refine ⟨ps, c5, rfl, hc5.mono (by omega), out_bind (r := (0, [c5, .bool false])) (out_else (fun h => by have := of_decide_eq_true h; omega) rfl) (sel0 (out_else (by simp) rfl))⟩
      · obtain ⟨b7, c7, h7, hc7⟩ := f_one hb hc5 (by omega) 40
        cases b7 with
        | false => exact ⟨ps, c7, rfl, hc7.mono (by omega), out_bind (r := (0, [c7, .bool false])) (out_if (decide_eq_true (by omega)) (out_call h7 rfl)) (sel0 (out_else (by simp) rfl))⟩
        | true =>
          refine ⟨ps.set 0 ⟨x, (ps[0]'(by omega)).fine⟩, c7, by simp, hc7.mono (by omega), out_bind (r := (0, [c7, .bool true])) (out_if (decide_eq_true (by omega)) (out_call h7 rfl)) (sel0 (out_if rfl (out_if (inb_nat (i := 0) (n := ps.length) (by omega)) ?_)))⟩
          have hg : gd (D.lst (ps.map Prb.d)).l 0 = (ps[0]'(by omega)).d := gd_prbs (by omega)
          unfold upd
          rw [hg, ← prbs_set]; rfl
    obtain ⟨ps', c6, hl6, hc6, hlast⟩ := hlast
    refine ⟨ps', c6, rn_call h1 (rn_bind (out_call h2 hn) ?_), by omega, hc6.mono (by omega)⟩
    simp only [sel2_zero, gd_zero, gd_one]
    refine rn_bind hl ?_
    simp only [sel2_zero, gd_zero, gd_one]
    exact rn_bind hlast rfl
  · rintro m ⟨s1, s2⟩ ⟨hi1, hi2, hi3⟩
    simp only at hi1 hi2
    obtain ⟨w, c8, h8, _, hc8⟩ := f_pick hb hi1 (by omega) x
    obtain ⟨b9, c9, h9, hc9⟩ := f_one hb hc8 (by omega) 2
    refine ⟨(c9, s2 ++ [⟨w, b9⟩]), out_if (decide_eq_true (by simp)) (out_call h8 (out_call h9 (out_if ?_ ?_))), hc9.mono (by omega), by simp; omega, by omega⟩
    · simp [appOk, smax_eq]; omega
    · have : IntKind.wrap .i64 (((m + 1 : Nat) : Int) - 1) = m := by rw [wrap_id] <;> omega
      simp only [gd_two, gd_one, D.i_int, this]
      simp [Prb.d]
  · rintro ⟨s1, s2⟩ _
    rfl
theorem play_good {r f : Int} {ls : List (List UInt8)} {ps : List Prb} (h : (Health.play r f ls ps).ok = true) : (Health.play r f ls ps).h.good = true := by
  have key : ∀ (ps : List Prb) (i : Nat) (s s' : Health × Nat), PlInv i s → foldE playG i s ps = .inl s' → s'.1.good = true := by
    intro ps
    induction ps with
    | nil => intro i s s' hi h; cases h; exact hi.1
    | cons p ps ih =>
      intro i s s' hi h
      unfold foldE at h
      cases hg : playG i s p with
      | inl t => rw [hg] at h; exact ih (i + 1) t s' (playG_inv hi hg) h
      | inr e => rw [hg] at h; cases h
  unfold Health.play at h ⊢
  split
  · rename_i hc; rw [if_pos hc] at h; cases h
  · rename_i hc
    rw [if_neg hc] at h
    simp only [Bool.or_eq_true, Bool.not_eq_true', decide_eq_true_eq, not_or, Bool.not_eq_false] at hc
    cases hf : foldE playG 0 ((Health.start r f ls).1, 0) ps with
    | inl s => exact key ps 0 _ s ⟨start_good hc.1, Nat.le_refl _⟩ hf
    | inr e => rw [hf] at h; cases h
theorem health0 : (Health.new 2 2 [[97, 46, 101, 120, 46, 99, 111, 109]]).good = true := by decide +kernel
theorem f_health {bs : List D} (hb : Bytes bs) {k : Nat} {c : D} (hc : Cu bs k c) (hk : k ≤ 600000) :
    ∃ (h : Health) (c' : D), e_spec_l1Cur_health.F [c] = some (.pair h.d (.pair c' .unit)) ∧ h.Fit ∧ h.hosts.length ≤ 12 ∧ Cu bs (k + 2000) c' := by
  obtain ⟨ls, c1, h1, hl, hm, hc1⟩ := f_hosts hb hc (by omega)
  obtain ⟨ps, c2, h2, hp, hc2⟩ := f_probes hb hc1 (by omega) ls.length
  obtain ⟨r, c4, h4, hr, hc4⟩ := f_pick hb hc2 (by omega) 3
  obtain ⟨f, c5, h5, hf, hc5⟩ := f_pick hb hc4 (by omega) 3
  have hlim : lim = 1048576 := rfl
  rw [q_spec_l1Cur_health]
  have hlen : ((D.pair (.lst (ls.map D.str)) (.pair c1 .unit)).fld 0).l.length = ls.length := by simp
  have hplen : ((D.pair (.lst (ps.map Prb.d)) (.pair c2 .unit)).fld 0).l.length = ps.length := by simp
  have hcut : ∃ qs : List Prb, qs.length ≤ 40 ∧ (if (decide ((ps.length : Int) > 40)) then
      if (slOk 0 40 (ps.length : Int)) then
      if (winOk 0 ((40 - 0 : Nat) : Int).toNat ((D.pair (.lst (ps.map Prb.d)) (.pair c2 .unit)).fld 0).l) then
      ou 0 [(D.lst ((((D.pair (.lst (ps.map Prb.d)) (.pair c2 .unit)).fld 0).l.drop 0).take ((40 - 0 : Nat) : Int).toNat))]
      else none
      else none
    else
      ou 0 [((D.pair (.lst (ps.map Prb.d)) (.pair c2 .unit)).fld 0)]) = some (0, [.lst (qs.map Prb.d)]) := by
    by_cases h40 : ps.length > 40
    · refine ⟨ps.take 40, by simp; omega, out_if (decide_eq_true (by omega)) (out_if (by simp [slOk]; omega) (out_if (by simp [winOk]; omega) ?_))⟩
      simp [List.map_take]
    · exact ⟨ps, by omega, out_else (fun h => by have := of_decide_eq_true h; omega) rfl⟩
  obtain ⟨qs, hq, hcut⟩ := hcut
  have w1 : IntKind.wrap .i64 (1 + (r : Int)) = ((1 + r : Nat) : Int) := by rw [wrap_id] <;> omega
  have w2 : IntKind.wrap .i64 (1 + (f : Int)) = ((1 + f : Nat) : Int) := by rw [wrap_id] <;> omega
  have hpl := f_specPlay (1 + r : Nat) (1 + f : Nat) ls qs (by omega) (fun s hs => by have := hm s hs; omega)
  -- a good one
  have hg : ∃ h : Health, h.good = true ∧ (if (!(Health.play (1 + r : Nat) (1 + f : Nat) ls qs).ok) then
        (e_spec_NewHealth.F [(.int 2), (.int 2), (D.lst ((D.str [97, 46, 101, 120, 46, 99, 111, 109]) :: ([] : List D)))]).bind fun r7 =>
        ou 0 [(r7.fld 0)]
      else
        ou 0 [(Health.play (1 + r : Nat) (1 + f : Nat) ls qs).h.d]) = some (0, [h.d]) := by
    cases hok : (Health.play (1 + r : Nat) (1 + f : Nat) ls qs).ok with
    | true => exact ⟨_, play_good hok, rfl⟩
    | false =>
      have hn := f_specNew 2 2 [[97, 46, 101, 120, 46, 99, 111, 109]] (by decide) (by decide)
      unfold Health.start at hn
      rw [health0] at hn
      exact ⟨_, health0, out_if rfl (out_call hn rfl)⟩
  obtain ⟨h, hgd, hg⟩ := hg
  have hln := Health.len_R hgd
  have hfit := Health.good_fit hgd
  obtain ⟨b8, c8, h8, hc8⟩ := f_one hb hc5 (by omega) 20
  have hfin : ∃ (h' : Health) (c9 : D), h'.Fit ∧ h'.hosts.length ≤ 12 ∧ Cu bs (k + 2000) c9 ∧ (if b8 = true then
          if (inb 0 (h.d.fld 2).l.length) then
          (e_spec_l1Cur_pick.F [c8, (.int 4)]).bind fun r9 =>
          ou 0 [(r9.fld 1), (h.d.setFld 2 (D.lst (upd (h.d.fld 2).l 0 2 (.int (IntKind.wrap .i64 (((gd (h.d.fld 2).l 0).fld 2).i + (r9.fld 0).i))))))]
          else none
        else
          ou 0 [c8, h.d]) = some (0, [c9, h'.d]) := by
    cases b8 with
    | false => exact ⟨h, c8, hfit, hln.2, hc8.mono (by omega), rfl⟩
    | true =>
      obtain ⟨w, c9, h9, hw, hc9⟩ := f_pick hb hc8 (by omega) 4
      have h0 : 0 < h.hosts.length := by omega
      have hd2 : (h.d.fld 2).l = h.hosts.map Host.d := rfl
      have hg0 : gd (h.hosts.map Host.d) 0 = (h.hosts[0]).d := gd_hosts h0
      have hrng := wrap_range64 ((h.hosts[0]).row + w)
      refine ⟨h.put 0 ⟨(h.hosts[0]).name, (h.hosts[0]).up, IntKind.wrap .i64 ((h.hosts[0]).row + w)⟩, c9, ⟨by simpa [Health.put] using hfit.len, ?_, ?_, hfit.rise, hfit.fall⟩, by simpa [Health.put] using hln.2, hc9.mono (by omega), out_if rfl (out_if (by rw [hd2]; simpa using inb_nat h0) (out_call h9 ?_))⟩
      · intro x hx
        rcases List.mem_or_eq_of_mem_set hx with hx | rfl
        · exact hfit.nm x hx
        · exact hfit.nm (h.hosts[0]) (List.getElem_mem h0)
      · intro x hx
        rcases List.mem_or_eq_of_mem_set hx with hx | rfl
        · exact hfit.row x hx
        · exact hrng
      · unfold upd
        rw [hd2, hg0, Health.put_d]
        rfl
  obtain ⟨h', c9, hf', hl', hc9, hfin⟩ := hfin
  refine ⟨h', c9, rn_call h1 ?_, hf', hl', hc9⟩
  rw [hlen]
  refine rn_call h2 ?_
  rw [hplen]
  refine rn_bind hcut ?_
  simp only [sel2_zero, gd_zero]
  refine rn_call h4 (rn_call h5 ?_)
  simp only [D.fld, D.fst_pair, D.snd_pair, D.i_int, w1, w2]
  refine rn_call hpl (rn_bind hg ?_)
  simp only [sel2_zero, gd_zero]
  refine rn_bind (out_call h8 hfin) ?_
  rfl
end Go.Proofs.YtobighfemobgjaaGreatDoor
