/- What the functions compute, in plain words. -/
import Derived.Test.YtbpfkhhacafcpaaGreatDoorP1
set_option linter.unusedSectionVars false
set_option linter.unusedVariables false
set_option linter.unusedSimpArgs false
namespace Go.Proofs.YtbpfkhhacafcpaaGreatDoor
open Go Go.Own
structure Host where
  name : List UInt8
  up : Bool
  row : Int
  deriving DecidableEq
structure Health where
  rise : Int
  fall : Int
  hosts : List Host
  deriving DecidableEq
structure Prb where
  host : Int
  fine : Bool
  deriving DecidableEq
def Host.d (x : Host) : D := .pair (.str x.name) (.pair (.bool x.up) (.pair (.int x.row) .unit))
def Health.d (h : Health) : D := .pair (.int h.rise) (.pair (.int h.fall) (.pair (.lst (h.hosts.map Host.d)) .unit))
def Prb.d (p : Prb) : D := .pair (.int p.host) (.pair (.bool p.fine) .unit)
def Health.nul : Health := ⟨0, 0, []⟩
def inR (n lo hi : Int) : Bool := decide (lo ≤ n) && decide (n ≤ hi)
def Health.most (h : Health) (x : Host) : Int := if x.up then h.fall else h.rise
def seen (l : List (List UInt8)) (s : List UInt8) : Bool := l.any (· == s)
def nameOk (l : List (List UInt8)) (i : Nat) : Bool := !(l.getD i []).isEmpty && (isName (l.getD i []) && !seen (l.take i) (l.getD i []))
def Health.names (h : Health) : List (List UInt8) := h.hosts.map (·.name)
def Health.rowOk (h : Health) (x : Host) : Bool := inR x.row 0 (h.most x - 1)
def Health.good (h : Health) : Bool := (inR h.rise 1 10 && (inR h.fall 1 10 && inR h.hosts.length 1 12)) && (h.hosts.all h.rowOk && allN h.hosts.length (nameOk h.names))
structure Health.Fit (h : Health) : Prop where
  len : h.hosts.length ≤ lim
  nm : ∀ x ∈ h.hosts, x.name.length ≤ lim
  row : ∀ x ∈ h.hosts, -9223372036854775808 ≤ x.row ∧ x.row ≤ 9223372036854775807
  rise : -9223372036854775808 ≤ h.rise ∧ h.rise ≤ 9223372036854775807
  fall : -9223372036854775808 ≤ h.fall ∧ h.fall ≤ 9223372036854775807
theorem gd_hosts {xs : List Host} {i : Nat} (hi : i < xs.length) : gd (xs.map Host.d) i = xs[i].d := by
  rw [gd_lt (by simpa using hi)]; simp
theorem Health.names_get {h : Health} {i : Nat} (hi : i < h.hosts.length) : h.names.getD i [] = h.hosts[i].name := by
  simp [Health.names, hi]
theorem f_within' (a b c : Int) : e_impl_within.F [.int a, .int b, .int c] = some (.bool (inR a b c)) := f_within a b c
theorem f_l1In' (a b c : Int) : e_spec_l1In.F [.int a, .int b, .int c] = some (.bool (inR a b c)) := f_l1In a b c
theorem f_mostRow (h : Health) (x : Host) : e_impl_Health_mostRow.F [h.d, x.d] = some (.int (h.most x)) := by
  rw [q_impl_Health_mostRow]
  cases hu : x.up <;> simp [Health.d, Host.d, Health.most, hu]
theorem f_l13Most (h : Health) (x : Host) : e_spec_l13Most.F [h.d, x.d] = some (.int (h.most x)) := by
  rw [q_spec_l13Most]
  cases hu : x.up <;> simp [Health.d, Host.d, Health.most, hu]
theorem f_containsHost (xs : List Host) (x : Host) (u : D) (hl : xs.length ≤ smax) : e_slices_ContainsFunc_impl_Host_impl_Host__impl_GoodHealth_1.F [.lst (xs.map Host.d), .pair x.d u] = some (.bool (seen (xs.map (·.name)) x.name)) := by
  rw [q_slices_ContainsFunc_impl_Host_impl_Host__impl_GoodHealth_1]
  have key : ∃ r, e_slices_IndexFunc_impl_Host_impl_Host__impl_GoodHealth_1.F [.lst (xs.map Host.d), .pair x.d u] = some r ∧ ∃ n : Int, r = .int n ∧ decide (n ≥ 0) = seen (xs.map (·.name)) x.name := by
    rw [q_slices_IndexFunc_impl_Host_impl_Host__impl_GoodHealth_1]
    have hp : ∀ i (hi : i < xs.length), e_impl_GoodHealth_1.F [xs[i].d, x.d] = some (.bool (xs[i].name == x.name)) := by
      intro i hi; rw [q_impl_GoodHealth_1]; rfl
    refine find_ex (fun i => [.int i]) xs.length (fun i => !((xs.getD i ⟨[], false, 0⟩).name == x.name)) (t1 := 0) (t2 := 1) (o1 := fun i => [.int i]) (o2 := []) rfl ?_ ?_ ?_ ?_ ?_
    · intro i hi h
      simp only [List.getD_eq_getElem?_getD, List.getElem?_eq_getElem hi, Option.getD_some] at h
      have h' : (xs[i].name == x.name) = false := by simpa using h
      have := hp i hi
      rw [h'] at this
      simp [hi, inb_nat hi, wrap_succ hi hl, gd_hosts hi, this]
    · intro i hi h
      simp only [List.getD_eq_getElem?_getD, List.getElem?_eq_getElem hi, Option.getD_some] at h
      have h' : (xs[i].name == x.name) = true := by simpa using h
      have := hp i hi
      rw [h'] at this
      simp [hi, inb_nat hi, gd_hosts hi, this]
    · simp
    · intro hall
      refine ⟨_, rfl, -1, rfl, ?_⟩
      have : seen (xs.map (·.name)) x.name = false := by
        unfold seen
        rw [List.any_eq_false]
        intro s hs
        obtain ⟨y, hy, rfl⟩ := List.mem_map.1 hs
        obtain ⟨i, hi, rfl⟩ := List.getElem_of_mem hy
        have := hall i hi
        simpa [hi] using this
      rw [this]; rfl
    · intro j hj hp' _
      refine ⟨_, rfl, j, rfl, ?_⟩
      have : seen (xs.map (·.name)) x.name = true := by
        unfold seen
        rw [List.any_eq_true]
        exact ⟨xs[j].name, List.mem_map.2 ⟨_, List.getElem_mem hj, rfl⟩, by simpa [hj] using hp'⟩
      rw [this]; simp
  obtain ⟨r, h1, n, rfl, h2⟩ := key
  refine rn_call h1 ?_
  rw [← h2]; rfl
theorem wrap_pred {n : Int} (h : inR n 1 10 = true) : IntKind.wrap .i64 (n - 1) = n - 1 := by
  simp only [inR, Bool.and_eq_true, decide_eq_true_eq] at h
  exact wrap_id (by omega) (by omega)
theorem Health.most_R {h : Health} (h1 : inR h.rise 1 10 = true) (h2 : inR h.fall 1 10 = true) (x : Host) : inR (h.most x) 1 10 = true := by
  unfold Health.most; split <;> assumption
def Health.hostOk (h : Health) (i : Nat) : Bool := h.rowOk (h.hosts.getD i ⟨[], false, 0⟩) && nameOk h.names i
theorem Health.all_hosts (h : Health) : allN h.hosts.length h.hostOk = (h.hosts.all h.rowOk && allN h.hosts.length (nameOk h.names)) := by
  rw [Bool.eq_iff_iff, Bool.and_eq_true, allN_true, allN_true, List.all_eq_true]
  constructor
  · intro ha
    refine ⟨fun x hx => ?_, fun i hi => ?_⟩
    · obtain ⟨i, hi, rfl⟩ := List.getElem_of_mem hx
      have := ha i hi
      simp only [Health.hostOk, Bool.and_eq_true] at this
      simpa [hi] using this.1
    · have := ha i hi
      simp only [Health.hostOk, Bool.and_eq_true] at this
      exact this.2
  · rintro ⟨h1, h2⟩ i hi
    simp only [Health.hostOk, Bool.and_eq_true]
    refine ⟨?_, h2 i hi⟩
    have := h1 _ (List.getElem_mem hi)
    simpa [hi] using this
theorem rn_boolR {o : Outc} {b c : Bool} (h : rn o = some (.bool b)) (hb : b = c) : rn o = some (.bool c) := hb ▸ h
theorem f_implGoodHealth (h : Health) (hf : h.hosts.length ≤ smax) : e_impl_GoodHealth.F [h.d] = some (.bool h.good) := by
  rw [q_impl_GoodHealth]
  have hd0 : h.d.fld 0 = .int h.rise := rfl
  have hd1 : h.d.fld 1 = .int h.fall := rfl
  have hd2 : h.d.fld 2 = .lst (h.hosts.map Host.d) := rfl
  have hlen : (h.d.fld 2).l.length = h.hosts.length := by rw [hd2]; simp
  have w1 := f_within' h.rise 1 10
  have w2 := f_within' h.fall 1 10
  have w3 := f_within' h.hosts.length 1 12
  rw [hd0, hd1, hlen]
  cases r1 : inR h.rise 1 10 with
  | false =>
    rw [r1] at w1
    refine rn_bind (r := (0, [.bool true])) (out_call w1 (out_if rfl rfl)) ?_
    simp [Health.good, r1]
  | true =>
    rw [r1] at w1
    cases r2 : inR h.fall 1 10 with
    | false =>
      rw [r2] at w2
      refine rn_bind (r := (0, [.bool true])) (out_call w1 (out_else (by simp) (out_call w2 (out_if rfl rfl)))) ?_
      simp [Health.good, r2]
    | true =>
      rw [r2] at w2
      refine rn_bind (r := (0, [.bool !(inR h.hosts.length 1 12)])) (out_call w1 (out_else (by simp) (out_call w2 (out_else (by simp) (out_call w3 rfl))))) ?_
      cases r3 : inR h.hosts.length 1 12 with
      | false => simp [Health.good, r3]
      | true =>
        simp only [sel2_zero, gd_zero]
        refine rn_else (by decide) ?_
        refine rn_bind (loop_all' (fun i => [.int i]) h.hosts.length h.hostOk (t1 := 0) (t2 := 1) (o1 := [.bool false]) (o2 := []) rfl ?_ ?_) ?_
        · intro i hi
          have hg : gd (h.d.fld 2).l i = h.hosts[i].d := by rw [hd2]; exact gd_hosts hi
          refine out_if (by simpa using hi) (out_if (by simpa using inb_nat hi) ?_)
          have e0 : (gd [D.int (i : Int)] 0).i.toNat = i := by simp
          have e1 : (gd [D.int (i : Int)] 0).i = i := rfl
          rw [e0, e1, hg]
          have hx0 : h.hosts[i].d.fld 0 = .str h.hosts[i].name := rfl
          have hx2 : h.hosts[i].d.fld 2 = .int h.hosts[i].row := rfl
          rw [hx0, hx2]
          have hnm := f_GoodName h.hosts[i].name
          have hms := f_mostRow h h.hosts[i]
          have hwi := f_within' h.hosts[i].row 0 (h.most h.hosts[i] - 1)
          have hwr := wrap_pred (Health.most_R r1 r2 h.hosts[i])
          have hok : h.hostOk i = (inR h.hosts[i].row 0 (h.most h.hosts[i] - 1) && (!h.hosts[i].name.isEmpty && (isName h.hosts[i].name && !seen (h.names.take i) h.hosts[i].name))) := by
            unfold Health.hostOk nameOk Health.rowOk
            rw [Health.names_get hi]
            simp [hi]
          have hnext : D.int (IntKind.wrap .i64 ((i : Int) + 1)) = .int ((i + 1 : Nat) : Int) := by rw [wrap_succ hi hf]
          rw [hok, hnext]
          by_cases n0 : h.hosts[i].name = []
          · refine out_bind (r := (0, [.bool true])) (out_if (by simp [n0]) rfl) ?_
            simp [n0]
          · have n0' : h.hosts[i].name.isEmpty = false := by cases hq : h.hosts[i].name <;> simp_all
            cases n1 : isName h.hosts[i].name with
            | false =>
              rw [n1] at hnm
              refine out_bind (r := (0, [.bool true])) (out_else (by simpa using n0) (out_call hnm (out_if rfl rfl))) ?_
              simp
            | true =>
              rw [n1] at hnm
              cases n2 : inR h.hosts[i].row 0 (h.most h.hosts[i] - 1) with
              | false =>
                rw [n2] at hwi
                refine out_bind (r := (0, [.bool true])) (out_else (by simpa using n0) (out_call hnm (out_else (by simp) (out_call hms ?_)))) ?_
                · simp only [D.i_int, hwr]; exact out_call hwi (out_if rfl rfl)
                · simp
              | true =>
                rw [n2] at hwi
                have hsl : slOk 0 (i : Int) ((h.hosts.length : Nat) : Int) = true := by simp [slOk]; omega
                have hct := f_containsHost (h.hosts.take i) h.hosts[i] .unit (by rw [List.length_take]; omega)
                have htk : (List.take i (h.d.fld 2).l).drop 0 = (h.hosts.take i).map Host.d := by rw [hd2]; simp [List.map_take]
                refine out_bind (r := (0, [.bool (seen (h.names.take i) h.hosts[i].name)])) (out_else (by simpa using n0) (out_call hnm (out_else (by simp) (out_call hms ?_)))) ?_
                · simp only [D.i_int, hwr]
                  refine out_call hwi (out_else (by simp) (out_if hsl ?_))
                  rw [htk]
                  refine out_call hct ?_
                  simp [Health.names, List.map_take]
                · cases n3 : seen (h.names.take i) h.hosts[i].name <;> simp [n0']
        · simp
        · rw [Health.all_hosts]
          cases hb : (h.hosts.all h.rowOk && allN h.hosts.length (nameOk h.names)) <;> simp [Health.good, r1, r2, r3, hb]
end Go.Proofs.YtbpfkhhacafcpaaGreatDoor
namespace Go.Proofs.YtbpfkhhacafcpaaGreatDoor
open Go Go.Own
theorem gd_strs {ls : List (List UInt8)} {i : Nat} (hi : i < ls.length) : gd (ls.map D.str) i = .str (ls.getD i []) := by
  rw [gd_lt (by simpa using hi)]; simp [hi]
theorem f_l13Names (ls : List (List UInt8)) (hl : ls.length ≤ lim) (hm : ∀ s ∈ ls, s.length ≤ lim) : e_spec_l13Names.F [.lst (ls.map .str)] = some (.bool (allN ls.length (nameOk ls) && inR ls.length 1 12)) := by
  have hs := Nat.le_trans hl lim_smax
  rw [q_spec_l13Names]
  have hlen : (D.lst (ls.map D.str)).l.length = ls.length := by simp
  rw [hlen]
  have hb := loop_all' (f := fun l1 =>
      if (decide ((gd l1 0).i < (ls.length : Int))) then
        if (inb (gd l1 0).i ls.length) then
        ((e_spec_GoodName.F [(gd (D.lst (ls.map D.str)).l (gd l1 0).i.toNat)]).bind fun r2 =>
          if (!r2.b) then
            ou 0 [(.bool true)]
          else
            ou 0 [(.bool ((gd (D.lst (ls.map D.str)).l (gd l1 0).i.toNat).s == ([] : List UInt8)))]).bind fun o2 =>
        sel2 o2.1 (if (gd o2.2 0).b then
            ou 1 [(.bool false)]
          else
            if (slOk 0 (gd l1 0).i (ls.length : Int)) then
            (loopF (fun l3 =>
                if (decide ((gd l3 0).i < ((((D.lst (ls.map D.str)).l.take (gd l1 0).i.toNat).drop 0).length : Int))) then
                  if (inb (gd l3 0).i (((D.lst (ls.map D.str)).l.take (gd l1 0).i.toNat).drop 0).length) then
                  if ((gd (D.lst (((D.lst (ls.map D.str)).l.take (gd l1 0).i.toNat).drop 0)).l (gd l3 0).i.toNat).s == (gd (D.lst (ls.map D.str)).l (gd l1 0).i.toNat).s) then
                    ou 1 [(.bool false)]
                  else
                    ou 0 [(.int (IntKind.wrap .i64 ((gd l3 0).i + 1)))]
                  else none
                else
                  ou 2 []) [(.int 0)]).bind fun o3 =>
            sel2 o3.1 (ou 1 [(gd o3.2 0)]) fun n12 =>
            sel2 n12 (ou 0 [(.int (IntKind.wrap .i64 ((gd l1 0).i + 1)))]) fun _ => none
            else none) fun _ => none
        else none
      else
        ou 2 []) (l := [.int 0]) (fun i => [.int i]) ls.length (nameOk ls) (t1 := 0) (t2 := 1) (o1 := [.bool false]) (o2 := []) rfl ?_ ?_
  · rw [hb]
    cases hn : allN ls.length (nameOk ls) with
    | false => rfl
    | true =>
      refine rn_call (f_l1In' _ _ _) ?_
      rfl
  · intro i hi
    have hg : gd (D.lst (ls.map D.str)).l i = .str (ls.getD i []) := gd_strs hi
    refine out_if (by simpa using hi) (out_if (by simpa using inb_nat hi) ?_)
    have e0 : (gd [D.int (i : Int)] 0).i.toNat = i := by simp
    have e1 : (gd [D.int (i : Int)] 0).i = i := rfl
    rw [e0, e1, hg]
    have hmem : ls.getD i [] ∈ ls := by simp [hi]
    have hgn := f_specGoodName (ls.getD i []) (hm _ hmem)
    have hnext : D.int (IntKind.wrap .i64 ((i : Int) + 1)) = .int ((i + 1 : Nat) : Int) := by rw [wrap_succ hi hs]
    rw [hnext]
    unfold nameOk
    generalize hx : ls.getD i [] = x at hgn hmem ⊢
    cases n1 : isName x with
    | false =>
      rw [n1] at hgn
      refine out_bind (r := (0, [.bool true])) (out_call hgn (out_if rfl rfl)) ?_
      simp
    | true =>
      rw [n1] at hgn
      refine out_bind (r := (0, [.bool (x == [])])) (out_call hgn (out_else (by simp) rfl)) ?_
      cases x with
      | nil => simp
      | cons c x =>
        simp only [sel2_zero, gd_zero]
        refine out_else (by simp) (out_if (by simp [slOk]; omega) ?_)
        have hlt : (((D.lst (ls.map D.str)).l.take i).drop 0).length = (ls.take i).length := by simp
        have htl : (ls.take i).length ≤ smax := by rw [List.length_take]; omega
        have hin := loop_find (f := fun l3 =>
                if (decide ((gd l3 0).i < ((((D.lst (ls.map D.str)).l.take i).drop 0).length : Int))) then
                  if (inb (gd l3 0).i (((D.lst (ls.map D.str)).l.take i).drop 0).length) then
                  if ((gd (D.lst (((D.lst (ls.map D.str)).l.take i).drop 0)).l (gd l3 0).i.toNat).s == (D.str (c :: x)).s) then
                    ou 1 [(.bool false)]
                  else
                    ou 0 [(.int (IntKind.wrap .i64 ((gd l3 0).i + 1)))]
                  else none
                else
                  ou 2 []) (l := [.int 0]) (fun j => [.int j]) (ls.take i).length (fun j => !((ls.take i).getD j [] == c :: x)) (t1 := 0) (t2 := 1) (o1 := fun _ => [.bool false]) (o2 := []) rfl ?_ ?_ ?_
        · rcases hin with ⟨h1, h2⟩ | ⟨k, hk, h1, _, h2⟩
          · rw [h2]
            have : seen (ls.take i) (c :: x) = false := by
              unfold seen
              rw [List.any_eq_false]
              intro s hs'
              obtain ⟨j, hj, rfl⟩ := List.getElem_of_mem hs'
              have := h1 j hj
              rw [List.getD_eq_getElem?_getD, List.getElem?_eq_getElem hj] at this
              simpa using this
            rw [this]; rfl
          · rw [h2]
            have : seen (ls.take i) (c :: x) = true := by
              unfold seen
              rw [List.any_eq_true]
              rw [List.getD_eq_getElem?_getD, List.getElem?_eq_getElem hk] at h1
              exact ⟨_, List.getElem_mem hk, by simpa using h1⟩
            rw [this]; rfl
        · intro j hj h
          have hgj : gd (D.lst (((D.lst (ls.map D.str)).l.take i).drop 0)).l j = .str ((ls.take i).getD j []) := by
            have : (D.lst (((D.lst (ls.map D.str)).l.take i).drop 0)).l = (ls.take i).map D.str := by simp [List.map_take]
            rw [this, gd_strs hj]
          have h' : ((ls.take i).getD j [] == c :: x) = false := by simpa using h
          refine out_if (by rw [hlt]; simpa using hj) (out_if (by rw [hlt]; simpa using inb_nat hj) (out_else ?_ ?_))
          · have e0 : (gd [D.int (j : Int)] 0).i.toNat = j := by simp
            rw [e0, hgj]; simp only [D.s_str]; rw [h']; simp
          · have := wrap_succ hj htl
            simp [this]
        · intro j hj h
          have hgj : gd (D.lst (((D.lst (ls.map D.str)).l.take i).drop 0)).l j = .str ((ls.take i).getD j []) := by
            have : (D.lst (((D.lst (ls.map D.str)).l.take i).drop 0)).l = (ls.take i).map D.str := by simp [List.map_take]
            rw [this, gd_strs hj]
          have h' : ((ls.take i).getD j [] == c :: x) = true := by simpa using h
          refine out_if (by rw [hlt]; simpa using hj) (out_if (by rw [hlt]; simpa using inb_nat hj) (out_if ?_ rfl))
          have e0 : (gd [D.int (j : Int)] 0).i.toNat = j := by simp
          rw [e0, hgj]; simp only [D.s_str]; exact h'
        · simp
  · simp
theorem f_specGoodHealth (h : Health) (hf : h.Fit) : e_spec_GoodHealth.F [h.d] = some (.bool h.good) := by
  rw [q_spec_GoodHealth]
  have hsm := Nat.le_trans hf.len lim_smax
  have hd0 : h.d.fld 0 = .int h.rise := rfl
  have hd1 : h.d.fld 1 = .int h.fall := rfl
  have hd2 : h.d.fld 2 = .lst (h.hosts.map Host.d) := rfl
  have hlen : (h.d.fld 2).l.length = h.hosts.length := by rw [hd2]; simp
  rw [hd0, hd1, hlen]
  -- a row is looked at with what wraps
  let rk : Nat → Bool := fun i => inR (h.hosts.getD i ⟨[], false, 0⟩).row 0 (IntKind.wrap .i64 (h.most (h.hosts.getD i ⟨[], false, 0⟩) - 1))
  have hnl : ∀ i, i ≤ h.hosts.length → (h.names.take i).length = i := fun i hi => by simp [Health.names]; omega
  have key : ∀ k : Nat × List D → Outc, rn ((loopF (fun l1 =>
      if (decide ((gd l1 1).i < (h.hosts.length : Int))) then
        if (inb (gd l1 1).i h.hosts.length) then
        (e_spec_l13Most.F [h.d, (gd (h.d.fld 2).l (gd l1 1).i.toNat)]).bind fun r3 =>
        (e_spec_l1In.F [((gd (h.d.fld 2).l (gd l1 1).i.toNat).fld 2), (.int 0), (.int (IntKind.wrap .i64 (r3.i - 1)))]).bind fun r4 =>
        if (!r4.b) then
          ou 1 []
        else
          if (appOk 16 (gd l1 0).l (((gd (h.d.fld 2).l (gd l1 1).i.toNat).fld 0) :: ([] : List D))) then
          ou 0 [(D.lst ((gd l1 0).l ++ (((gd (h.d.fld 2).l (gd l1 1).i.toNat).fld 0) :: ([] : List D)))), (.int (IntKind.wrap .i64 ((gd l1 1).i + 1)))]
          else none
        else none
      else
        ou 2 [(gd l1 0)]) [(D.lst []), (.int 0)]).bind k) = rn (k (cond (allN h.hosts.length rk) (1, [.lst (h.names.map .str)]) (0, []))) := by
    intro k
    have := loop_all' (f := fun l1 =>
      if (decide ((gd l1 1).i < (h.hosts.length : Int))) then
        if (inb (gd l1 1).i h.hosts.length) then
        (e_spec_l13Most.F [h.d, (gd (h.d.fld 2).l (gd l1 1).i.toNat)]).bind fun r3 =>
        (e_spec_l1In.F [((gd (h.d.fld 2).l (gd l1 1).i.toNat).fld 2), (.int 0), (.int (IntKind.wrap .i64 (r3.i - 1)))]).bind fun r4 =>
        if (!r4.b) then
          ou 1 []
        else
          if (appOk 16 (gd l1 0).l (((gd (h.d.fld 2).l (gd l1 1).i.toNat).fld 0) :: ([] : List D))) then
          ou 0 [(D.lst ((gd l1 0).l ++ (((gd (h.d.fld 2).l (gd l1 1).i.toNat).fld 0) :: ([] : List D)))), (.int (IntKind.wrap .i64 ((gd l1 1).i + 1)))]
          else none
        else none
      else
        ou 2 [(gd l1 0)]) (l := [(D.lst []), (.int 0)]) (fun i => [.lst ((h.names.take i).map .str), .int i]) h.hosts.length rk (t1 := 0) (t2 := 1) (o1 := []) (o2 := [.lst (h.names.map .str)]) (by simp) ?_ ?_
    · rw [this]; rfl
    · intro i hi
      have hg : gd (h.d.fld 2).l i = h.hosts[i].d := by rw [hd2]; exact gd_hosts hi
      refine out_if (by simpa using hi) (out_if (by simpa using inb_nat hi) ?_)
      have e0 : (gd [D.lst ((h.names.take i).map D.str), D.int (i : Int)] 1).i.toNat = i := by simp
      have e1 : (gd [D.lst ((h.names.take i).map D.str), D.int (i : Int)] 1).i = i := rfl
      have e2 : gd [D.lst ((h.names.take i).map D.str), D.int (i : Int)] 0 = .lst ((h.names.take i).map D.str) := rfl
      rw [e0, e1, e2, hg]
      have hx0 : h.hosts[i].d.fld 0 = .str h.hosts[i].name := rfl
      have hx2 : h.hosts[i].d.fld 2 = .int h.hosts[i].row := rfl
      rw [hx0, hx2]
      have hrk : rk i = inR h.hosts[i].row 0 (IntKind.wrap .i64 (h.most h.hosts[i] - 1)) := by simp [rk, hi]
      have hw := f_l1In' h.hosts[i].row 0 (IntKind.wrap .i64 (h.most h.hosts[i] - 1))
      rw [← hrk] at hw
      refine out_call (f_l13Most h h.hosts[i]) ?_
      simp only [D.i_int]
      cases hr : rk i with
      | false =>
        rw [hr] at hw
        exact out_call hw (out_if rfl rfl)
      | true =>
        rw [hr] at hw
        have ha : appOk 16 (D.lst ((h.names.take i).map D.str)).l [D.str h.hosts[i].name] = true := by
          have := hf.len
          have hlim : lim = 1048576 := rfl
          simp [appOk, smax_eq, hnl i (by omega)]; omega
        refine out_call hw (out_else (by simp) (out_if ha ?_))
        have hnx : h.names.take (i + 1) = h.names.take i ++ [h.hosts[i].name] := by
          have hi' : i < h.names.length := by simpa [Health.names] using hi
          rw [List.take_succ_eq_append_getElem hi']
          simp [Health.names]
        simp [wrap_succ hi hsm, hnx]
    · have : h.names.take h.hosts.length = h.names := List.take_of_length_le (by simp [Health.names])
      simp [this]
  rw [key]
  have hrow : inR h.rise 1 10 = true → inR h.fall 1 10 = true → allN h.hosts.length rk = h.hosts.all h.rowOk := by
    intro h1 h2
    rw [Bool.eq_iff_iff, allN_true, List.all_eq_true]
    constructor
    · intro ha x hx
      obtain ⟨i, hi, rfl⟩ := List.getElem_of_mem hx
      have := ha i hi
      simp only [rk] at this
      simp only [List.getD_eq_getElem?_getD, List.getElem?_eq_getElem hi, Option.getD_some] at this
      rw [wrap_pred (Health.most_R h1 h2 _)] at this
      exact this
    · intro ha i hi
      have := ha _ (List.getElem_mem hi)
      simp only [rk, List.getD_eq_getElem?_getD, List.getElem?_eq_getElem hi, Option.getD_some]
      rw [wrap_pred (Health.most_R h1 h2 _)]
      exact this
  have hnm := f_l13Names h.names (by simpa [Health.names] using hf.len) (by
    intro s hs
    obtain ⟨x, hx, rfl⟩ := List.mem_map.1 hs
    exact hf.nm x hx)
  have hnlen : h.names.length = h.hosts.length := by simp [Health.names]
  rw [hnlen] at hnm
  have w1 := f_l1In' h.rise 1 10
  have w2 := f_l1In' h.fall 1 10
  cases ha : allN h.hosts.length rk with
  | false =>
    cases r1 : inR h.rise 1 10 with
    | false => simp [Health.good, r1]
    | true =>
      cases r2 : inR h.fall 1 10 with
      | false => simp [Health.good, r2]
      | true => simp [Health.good, r1, r2, ← hrow r1 r2, ha]
  | true =>
    cases r1 : inR h.rise 1 10 with
    | false =>
      rw [r1] at w1
      refine rn_bind (r := (0, [.bool false])) (out_call w1 (out_else (by simp) rfl)) ?_
      simp [Health.good, r1]
    | true =>
      rw [r1] at w1
      cases r2 : inR h.fall 1 10 with
      | false =>
        rw [r2] at w2
        refine rn_bind (r := (0, [.bool false])) (out_call w1 (out_if rfl (out_call w2 (out_else (by simp) rfl)))) ?_
        simp [Health.good, r2]
      | true =>
        rw [r2] at w2
        refine rn_bind (r := (0, [.bool (allN h.hosts.length (nameOk h.names) && inR h.hosts.length 1 12)])) (out_call w1 (out_if rfl (out_call w2 (out_if rfl (out_call hnm rfl))))) ?_
        simp [Health.good, r1, r2, ← hrow r1 r2, ha, Bool.and_comm]
end Go.Proofs.YtbpfkhhacafcpaaGreatDoor
namespace Go.Own
variable [Glb]
open Go
theorem rn_else_exH {α : Type} {g : α → D} {c : Prop} [Decidable c] {a b : Outc} (h : ¬ c) (hk : ∃ s, rn b = some (g s)) : ∃ s, rn (if c then a else b) = some (g s) := by rw [if_neg h]; exact hk
theorem digits_loopH {f : List D → Outc} {c : Nat × List D → Outc} {k : Int} (h0 : 0 ≤ k) (h1 : k < 10 ^ 18)
    (hs : ∀ (n : Int) (s : List UInt8), 0 < n → n < 10 ^ 18 → s.length ≤ 30 → ∃ c : List UInt8, c.length = 1 ∧ f [.int n, .str s] = some (0, [.int (n.tdiv 10), .str (c ++ s)]))
    (he : ∀ (n : Int) (s : List UInt8), n ≤ 0 → f [.int n, .str s] = some (1, [.str s])) (hc : ∀ s : List UInt8, s.length ≤ 30 → ∃ s', rn (c (0, [.str s])) = some (.str s')) :
    ∃ s, rn ((loopF f [.int k, .str []]).bind c) = some (.str s) := by
  have key : ∀ (fuel : Nat), fuel ≤ 18 → ∀ (n : Int) (s : List UInt8), 0 ≤ n → n < 10 ^ fuel → s.length + fuel ≤ 30 → ∃ s', loopF f [.int n, .str s] = some (0, [.str s']) ∧ s'.length ≤ 30 := by
    intro fuel
    induction fuel with
    | zero =>
      intro _ n s h0 h1 h2
      exact ⟨s, loopF_exit (he n s (by simp at h1; omega)), by omega⟩
    | succ m ih =>
      intro hm n s h0 h1 h2
      by_cases hn : n ≤ 0
      · exact ⟨s, loopF_exit (he n s hn), by omega⟩
      · have hp : (10 : Int) ^ (m + 1) = 10 ^ m * 10 := Int.pow_succ 10 m
        have hp2 : (10 : Int) ^ (m + 1) ≤ 10 ^ 18 := by
          have := Nat.pow_le_pow_right (n := 10) (by omega) hm
          exact_mod_cast this
        obtain ⟨c, hc, hstep⟩ := hs n s (by omega) (by omega) (by omega)
        rw [loopF_step hstep]
        have h3 : n.tdiv 10 = n / 10 := Int.tdiv_eq_ediv_of_nonneg (by omega)
        refine ih (by omega) (n.tdiv 10) (c ++ s) (by omega) ?_ (by simp; omega)
        rw [h3]
        omega
  obtain ⟨s, h2, h3⟩ := key 18 (Nat.le_refl _) k [] h0 h1 (by simp)
  rw [h2]
  exact hc s h3
end Go.Own
namespace Go.Proofs.YtbpfkhhacafcpaaGreatDoor
open Go Go.Own
abbrev tHost : T := .pair .str (.pair .bool (.pair (.int .i64) .unit))
abbrev tHealth : T := .pair (.int .i64) (.pair (.int .i64) (.pair (.lst false tHost) .unit))
abbrev tPrb : T := .pair (.int .i64) (.pair .bool .unit)
def in64 (n : Int) : Prop := -9223372036854775808 ≤ n ∧ n ≤ 9223372036854775807
theorem sm_int {B : Nat} {d : D} (h : Sm B (.int .i64) d) : ∃ n, d = .int n ∧ in64 n := by
  obtain ⟨n, rfl, h1, h2⟩ := h
  exact ⟨n, rfl, h1, h2⟩
structure Host.In (B : Nat) (x : Host) : Prop where
  nm : x.name.length ≤ B
  row : in64 x.row
structure Health.In (B : Nat) (h : Health) : Prop where
  len : h.hosts.length ≤ B
  all : ∀ x ∈ h.hosts, x.In B
  rise : in64 h.rise
  fall : in64 h.fall
theorem Health.In.fit {h : Health} (hi : h.In lim) : h.Fit := ⟨hi.len, fun x hx => (hi.all x hx).nm, fun x hx => (hi.all x hx).row, hi.rise, hi.fall⟩
theorem host_of {B : Nat} {d : D} (h : Sm B tHost d) : ∃ x : Host, d = x.d ∧ x.In B := by
  obtain ⟨_, _, rfl, ⟨s, rfl, hs⟩, _, _, rfl, ⟨b, rfl⟩, _, _, rfl, hc, rfl⟩ := h
  obtain ⟨n, rfl, hn⟩ := sm_int hc
  exact ⟨⟨s, b, n⟩, rfl, hs, hn⟩
theorem list_of {α : Type} {g : α → D} {Q : α → Prop} : ∀ {xs : List D}, (∀ x ∈ xs, ∃ y : α, x = g y ∧ Q y) → ∃ ys : List α, xs = ys.map g ∧ ∀ y ∈ ys, Q y
  | [], _ => ⟨[], rfl, by simp⟩
  | x :: xs, h => by
    obtain ⟨y, rfl, hy⟩ := h x (by simp)
    obtain ⟨ys, rfl, hys⟩ := list_of (xs := xs) (fun z hz => h z (by simp [hz]))
    exact ⟨y :: ys, rfl, by simpa using ⟨hy, hys⟩⟩
theorem health_of {B : Nat} {d : D} (h : Sm B tHealth d) : ∃ x : Health, d = x.d ∧ x.In B := by
  obtain ⟨_, _, rfl, ha, _, _, rfl, hb, _, _, rfl, ⟨xs, rfl, hl, hc⟩, rfl⟩ := h
  obtain ⟨a, rfl, ra⟩ := sm_int ha
  obtain ⟨b, rfl, rb⟩ := sm_int hb
  obtain ⟨ys, rfl, hys⟩ := list_of (g := Host.d) (Q := Host.In B) (fun x hx => host_of (hc x hx))
  exact ⟨⟨a, b, ys⟩, rfl, by simpa using hl, hys, ra, rb⟩
theorem prb_of {B : Nat} {d : D} (h : Sm B tPrb d) : ∃ x : Prb, d = x.d ∧ in64 x.host := by
  obtain ⟨_, _, rfl, ha, _, _, rfl, ⟨b, rfl⟩, rfl⟩ := h
  obtain ⟨a, rfl, ra⟩ := sm_int ha
  exact ⟨⟨a, b⟩, rfl, ra⟩
theorem strs_of {B : Nat} {o : Bool} {d : D} (h : Sm B (.lst o .str) d) : ∃ xs : List (List UInt8), d = .lst (xs.map D.str) ∧ xs.length ≤ B ∧ ∀ s ∈ xs, s.length ≤ B := by
  obtain ⟨xs, rfl, hl, hc⟩ := h
  obtain ⟨ys, rfl, hy⟩ := list_of (g := D.str) (Q := fun s => s.length ≤ B) (fun x hx => hc x hx)
  exact ⟨ys, rfl, by simpa using hl, hy⟩
theorem f_eqHost (x : Host) : e_laws_eqHost.F [x.d, x.d] = some (.bool true) := by
  rw [q_laws_eqHost]; simp [Host.d]
theorem f_eqHostS {xs : List Host} (hl : xs.length ≤ smax) : e_laws_eqHostS.F [.lst (xs.map Host.d), .lst (xs.map Host.d)] = some (.bool true) := by
  rw [q_laws_eqHostS, if_neg (by simp)]
  refine rn_bind (loop_for' (fun i (_ : Unit) => [.int i]) xs.length (fun _ => ()) (t := 1) (o := []) rfl ?_ ?_) rfl
  · intro i hi
    simp [hi, gd_hosts hi, inb_nat hi, wrap_succ hi hl, f_eqHost]
  · simp
theorem f_eqHealth {h : Health} (hl : h.hosts.length ≤ smax) : e_laws_eqHealth.F [h.d, h.d] = some (.bool true) := by
  rw [q_laws_eqHealth, if_neg (by simp), if_neg (by simp)]
  exact rn_call (f_eqHostS hl) rfl
theorem f_toHostS {xs : List Host} (hl : xs.length ≤ lim) : e_laws_toHostS.F [.lst (xs.map Host.d)] = some (.lst (xs.map Host.d)) := by
  have hlen : (D.lst (xs.map Host.d)).l.length = xs.length := by simp
  rw [q_laws_toHostS, hlen]; refine rn_if (makeOk_nat hl (by decide)) ?_
  refine rn_bind (loop_for' (fun i (zs : List D) => [.lst zs, .int i]) xs.length (filled (xs.map Host.d) (.pair (.str []) (.pair (.bool false) (.pair (.int 0) .unit)))) (t := 0) (o := [.lst (xs.map Host.d)]) (by simp [filled_zero]) ?_ ?_) rfl
  · intro i hi
    have hm : i < (xs.map Host.d).length := by simpa using hi
    have hf := filled_set (z := (.pair (.str []) (.pair (.bool false) (.pair (.int 0) .unit)))) hm
    have ht : e_laws_toHost.F [xs[i].d] = some xs[i].d := by rw [q_laws_toHost]; rfl
    rw [List.getElem_map] at hf
    simp [hi, gd_hosts hi, inb_nat hi, wrap_succ hi (Nat.le_trans hl lim_smax), filled_length (Nat.le_of_lt hm), hf, ht]
  · have := filled_all (xs := xs.map Host.d) (z := (.pair (.str []) (.pair (.bool false) (.pair (.int 0) .unit))))
    rw [List.length_map] at this
    simp [this]
theorem f_toHealth {h : Health} (hl : h.hosts.length ≤ lim) : e_laws_toHealth.F [h.d] = some h.d := by
  rw [q_laws_toHealth]
  exact rn_call (f_toHostS hl) rfl
theorem len_wrapH {left : Int} {n : Nat} (h0 : 0 ≤ left) (h1 : left ≤ lim) (hn : n ≤ smax) : IntKind.wrap .i64 (left - (n : Int)) = left - n := by
  have hlim : (lim : Int) = 1048576 := rfl
  have hsm : (smax : Int) = 9223372036854775807 := rfl
  exact wrap_id (by omega) (by omega)
def szHost (s : Int) (x : D) : Int := if s - (x.fld 0).s.length < 0 then -1 else s - (x.fld 0).s.length
theorem f_szHost {x : Host} {left : Int} (hx : x.In smax) (h0 : 0 ≤ left) (h1 : left ≤ lim) : e_laws_szHost.F [x.d, .int left] = some (.int (szHost left x.d)) := by
  rw [q_laws_szHost]
  have hw := len_wrapH h0 h1 hx.nm
  have hd : (x.d.fld 0).s = x.name := rfl
  simp only [hd, D.i_int, hw, szHost]
  by_cases h : left - (x.name.length : Int) < 0
  · rw [if_pos h]; exact rn_if (decide_eq_true h) rfl
  · rw [if_neg h]; exact rn_else (fun hc => h (of_decide_eq_true hc)) rfl
theorem szHost_spec {x : Host} (hx : x.In smax) (s : Int) (h0 : 0 ≤ s) (h1 : s ≤ lim) : szHost s x.d ≤ s ∧ (0 ≤ szHost s x.d → ∃ y : Host, x.d = y.d ∧ y.In lim) := by
  have hd : (x.d.fld 0).s = x.name := rfl
  simp only [szHost, hd]
  by_cases h : s - (x.name.length : Int) < 0
  · rw [if_pos h]; omega
  · rw [if_neg h]; exact ⟨by omega, fun _ => ⟨x, rfl, by omega, hx.row⟩⟩
theorem f_szHostS {xs : List Host} {left : Int} (hl : xs.length ≤ smax) (hx : ∀ x ∈ xs, x.In smax) (h0 : 0 ≤ left) (h1 : left ≤ lim) : e_laws_szHostS.F [.lst (xs.map Host.d), .int left] = some (.int (szL szHost (xs.map Host.d) left)) := by
  have hw := len_wrapH h0 h1 hl
  have hlen : (D.lst (xs.map Host.d)).l.length = (xs.map Host.d).length := rfl
  have hlen' : (xs.map Host.d).length = xs.length := by simp
  rw [q_laws_szHostS, hlen]
  have hw' : IntKind.wrap .i64 (left - ((xs.map Host.d).length : Int)) = left - (xs.map Host.d).length := by rw [hlen']; exact hw
  by_cases hlt : left - ((xs.map Host.d).length : Int) < 0
  · refine rn_if (by rw [D.i_int, hw']; exact decide_eq_true hlt) ?_
    unfold szL
    rw [if_pos hlt]; rfl
  · refine rn_else (by rw [D.i_int, hw']; exact fun hc => hlt (of_decide_eq_true hc)) ?_
    simp only [D.l_lst, D.i_int, hw']
    refine rn_bind (szL_loop (c := szHost) hlt h1 ?_ ?_ ?_) ?_
    · intro x hx' s h1 h2
      obtain ⟨y, hy, rfl⟩ := List.mem_map.1 hx'
      exact (szHost_spec (hx y hy) s h1 h2).1
    · intro i s hi h1 h2
      have hi' : i < xs.length := by simpa using hi
      have hg : (xs.map Host.d)[i] = xs[i].d := by simp
      have hz := f_szHost (hx _ (List.getElem_mem hi')) h1 h2
      rw [hg]
      constructor <;> intro hc <;> simp [hi', gd_hosts hi', inb_nat hi', wrap_succ hi' hl, hz, hc]
    · intro s; simp
    · rcases szN_cases szHost (xs.map Host.d) left with h | h <;> simp [h]
theorem f_szHealth {h : Health} {left : Int} (hh : h.In smax) (h0 : 0 ≤ left) (h1 : left ≤ lim) : ∃ r, e_laws_szHealth.F [h.d, .int left] = some (.int r) ∧ (0 ≤ r → h.In lim) := by
  rw [q_laws_szHealth]
  have hs := szL_spec (c := szHost) (Q := fun d => ∃ y : Host, d = y.d ∧ y.In lim) (xs := h.hosts.map Host.d) h1 (by
    intro x hx' s h1 h2
    obtain ⟨y, hy, rfl⟩ := List.mem_map.1 hx'
    exact szHost_spec (hh.all y hy) s h1 h2) h0
  have hz := f_szHostS hh.len hh.all h0 h1
  by_cases hlt : szL szHost (h.hosts.map Host.d) left < 0
  · refine ⟨-1, rn_call hz ?_, by omega⟩
    simp [hlt]
  · refine ⟨szL szHost (h.hosts.map Host.d) left, rn_call hz ?_, fun hp => ?_⟩
    · simp [hlt]
    · have := hs.2 hp
      refine ⟨by simpa using this.1, ?_, hh.rise, hh.fall⟩
      intro x hx
      obtain ⟨y, hy, hyl⟩ := this.2 x.d (List.mem_map.2 ⟨x, hx, rfl⟩)
      have h1 : x.name = y.name := by cases x; cases y; simp [Host.d] at hy; exact hy.1
      exact ⟨by rw [h1]; exact hyl.nm, (hh.all x hx).row⟩
theorem f_markText {k : Int} (h0 : 0 ≤ k) (h1 : k < 10 ^ 18) : ∃ s, e_laws_markText.F [.int k] = some (.str s) := by
  rw [q_laws_markText]
  by_cases hk : k ≤ 0
  · exact ⟨_, rn_if (decide_eq_true hk) rfl⟩
  refine rn_else_exH (g := D.str) (fun h => hk (of_decide_eq_true h)) (digits_loopH h0 h1 ?_ ?_ ?_)
  · intro n s hn hn2 hs
    refine ⟨_, bytesStr_size [.int (IntKind.wrap .u8 (IntKind.wrap .i64 (48 + (n.tmod 10))))], ?_⟩
    have hc : catOk (bytesStr [.int (IntKind.wrap .u8 (IntKind.wrap .i64 (48 + (n.tmod 10))))]) s = true := by
      unfold catOk
      rw [bytesStr_size]
      simp [smax]; omega
    have h3 : n.tdiv 10 = n / 10 := Int.tdiv_eq_ediv_of_nonneg (by omega)
    have hw : IntKind.wrap .i64 (n.tdiv 10) = n.tdiv 10 := by rw [h3]; exact wrap_id (by omega) (by omega)
    refine out_if (decide_eq_true hn) (out_if (by decide) (out_if hc ?_))
    simp only [gd_zero, D.i_int, hw]
    rfl
  · intro n s hn
    exact out_else (fun h => absurd (of_decide_eq_true h) (Int.not_lt.2 hn)) rfl
  · intro s hs
    refine ⟨_, rn_if (by simp [catOk, smax]; omega) rfl⟩
noncomputable def mtH (k : Int) : List UInt8 := if h : 0 ≤ k ∧ k < 10 ^ 18 then (f_markText h.1 h.2).choose else []
theorem mtH_is {k : Int} (h0 : 0 ≤ k) (h1 : k < 10 ^ 18) : e_laws_markText.F [.int k] = some (.str (mtH k)) := by
  unfold mtH
  rw [dif_pos ⟨h0, h1⟩]
  exact (f_markText h0 h1).choose_spec
end Go.Proofs.YtbpfkhhacafcpaaGreatDoor
