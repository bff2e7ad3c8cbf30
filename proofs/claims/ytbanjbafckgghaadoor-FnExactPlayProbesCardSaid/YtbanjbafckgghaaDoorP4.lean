/- What the functions compute, in plain words. -/
import Derived.Test.YtbanjbafckgghaaDoorP3
set_option linter.unusedSectionVars false
set_option linter.unusedVariables false
set_option linter.unusedSimpArgs false
/-! Health: the law of rows. -/
namespace Go.Proofs.YtbanjbafckgghaaDoor
open Go Go.Own

/-- one host's probes, played again: how often it turned, whether it is up, its row -/
abbrev Rp := Nat × Bool × Int
def turns (r f : Int) (s : Rp) : Bool := if s.2.1 then s.2.2 + 1 == f else s.2.2 + 1 == r
def rpS (r f : Int) (i : Nat) (s : Rp) (p : Prb) : Rp :=
  if p.host = i then
    if p.fine = s.2.1 then (s.1, s.2.1, 0)
    else if turns r f s then (s.1 + 1, !s.2.1, 0) else (s.1, s.2.1, s.2.2 + 1)
  else s
def rpL (r f : Int) (i : Nat) (ps : List Prb) (s : Rp) : Rp := ps.foldl (rpS r f i) s
theorem rpS_shift (r f : Int) (i : Nat) (p : Prb) (m n : Nat) (u : Bool × Int) : rpS r f i (m + n, u) p = (m + (rpS r f i (n, u) p).1, (rpS r f i (n, u) p).2) := by
  have ht : turns r f (m + n, u) = turns r f (n, u) := rfl
  unfold rpS
  rw [ht]
  split
  · split
    · rfl
    · split <;> rfl
  · rfl
theorem rpL_shift (r f : Int) (i : Nat) : ∀ (ps : List Prb) (m n : Nat) (u : Bool × Int), rpL r f i ps (m + n, u) = (m + (rpL r f i ps (n, u)).1, (rpL r f i ps (n, u)).2)
  | [], _, _, _ => rfl
  | p :: ps, m, n, u => by
    show rpL r f i ps (rpS r f i (m + n, u) p) = _
    rw [rpS_shift]
    show _ = (m + (rpL r f i ps (rpS r f i (n, u) p)).1, (rpL r f i ps (rpS r f i (n, u) p)).2)
    generalize rpS r f i (n, u) p = t
    obtain ⟨n', u'⟩ := t
    exact rpL_shift r f i ps m n' u'
theorem rpS_bound (r f : Int) (i : Nat) (p : Prb) (s : Rp) (k : Nat) (h0 : 0 ≤ s.2.2) (h1 : s.2.2 ≤ k) : (rpS r f i s p).1 ≤ s.1 + 1 ∧ 0 ≤ (rpS r f i s p).2.2 ∧ (rpS r f i s p).2.2 ≤ ((k + 1 : Nat) : Int) := by
  unfold rpS
  split
  · split
    · simp; omega
    · split
      · simp; omega
      · simp; omega
  · omega
theorem rpL_bound (r f : Int) (i : Nat) : ∀ (ps : List Prb) (s : Rp) (k : Nat), 0 ≤ s.2.2 → s.2.2 ≤ k → (rpL r f i ps s).1 ≤ s.1 + ps.length ∧ 0 ≤ (rpL r f i ps s).2.2 ∧ (rpL r f i ps s).2.2 ≤ ((k + ps.length : Nat) : Int)
  | [], s, k, h0, h1 => by simp [rpL]; omega
  | p :: ps, s, k, h0, h1 => by
    have h2 := rpS_bound r f i p s k h0 h1
    have h3 := rpL_bound r f i ps (rpS r f i s p) (k + 1) h2.2.1 h2.2.2
    show (rpL r f i ps (rpS r f i s p)).1 ≤ _ ∧ 0 ≤ (rpL r f i ps (rpS r f i s p)).2.2 ∧ (rpL r f i ps (rpS r f i s p)).2.2 ≤ _
    simp only [List.length_cons]
    omega

def Health.ofHost (h : Health) (i : Nat) : Bool × Int := ((h.host i).up, (h.host i).row)
theorem step_rp {h : Health} (hg : h.good = true) {i j : Nat} (hi : i < h.hosts.length) (hj : j < h.hosts.length) (fine : Bool) :
    rpS h.rise h.fall i (0, h.ofHost i) ⟨j, fine⟩ = ((if i = j ∧ (h.probed j fine).2 = true then 1 else 0), (h.probed j fine).1.ofHost i) := by
  have hpl := Health.probed_len h j fine
  have hi' : i < (h.probed j fine).1.hosts.length := by omega
  unfold Health.ofHost
  rw [Health.host_lt hi, Health.host_lt hi']
  by_cases hij : i = j
  · subst hij
    rw [probed_same fine hi]
    have hp2 : (h.probed i fine).2 = (h.stepH h.hosts[i] fine).2 := by simp [Health.probed, Health.host_lt hi]
    rw [hp2]
    have hrow := Health.row_R hg (List.getElem_mem hi)
    generalize h.hosts[i] = x at hrow
    obtain ⟨nm, up, row⟩ := x
    unfold rpS Health.stepH turns
    simp only at hrow
    cases up <;> cases fine <;> simp [Health.most] at hrow ⊢
    · by_cases hc : row + 1 < h.rise
      · have : row + 1 ≠ h.rise := by omega
        simp [hc, this]
      · have : row + 1 = h.rise := by omega
        simp [this]
    · by_cases hc : row + 1 < h.fall
      · have : row + 1 ≠ h.fall := by omega
        simp [hc, this]
      · have : row + 1 = h.fall := by omega
        simp [this]
  · rw [probed_other fine hi hij]
    unfold rpS
    have : ¬ ((j : Int) = i) := by omega
    simp [this, hij]

theorem sum_one {n j : Nat} (hj : j < n) (b : Nat) (g : Nat → Nat) : ((List.range n).map fun i => (if i = j then b else 0) + g i).sum = b + ((List.range n).map g).sum := by
  induction n with
  | zero => omega
  | succ n ih =>
    rw [List.range_succ, List.map_append, List.map_append, List.sum_append_nat, List.sum_append_nat]
    by_cases h : j = n
    · subst h
      have : ∀ (m : Nat), m ≤ j → ((List.range m).map fun i => (if i = j then b else 0) + g i).sum = ((List.range m).map g).sum := by
        intro m
        induction m with
        | zero => intro _; rfl
        | succ m ih2 =>
          intro hm
          rw [List.range_succ, List.map_append, List.map_append, List.sum_append_nat, List.sum_append_nat, ih2 (by omega)]
          have : ¬ m = j := by omega
          simp [this]
      rw [this j (Nat.le_refl _)]
      simp; omega
    · rw [ih (by omega)]
      have : ¬ n = j := by omega
      simp [this]; omega

def cI (h : Health) (ps : List Prb) (i : Nat) : Nat := (rpL h.rise h.fall i ps (0, h.ofHost i)).1
theorem rp_sim : ∀ (ps : List Prb) (k : Nat) (h : Health) (n : Nat) (s' : Health × Nat), h.good = true → foldE playG k (h, n) ps = .inl s' →
    s'.1.hosts.length = h.hosts.length ∧ (∀ i, i < h.hosts.length → rpL h.rise h.fall i ps (0, h.ofHost i) = (cI h ps i, s'.1.ofHost i)) ∧ s'.2 = n + ((List.range h.hosts.length).map (cI h ps)).sum
  | [], k, h, n, s', hg, hf => by
    cases hf
    refine ⟨rfl, fun i _ => rfl, ?_⟩
    have : ∀ m, ((List.range m).map (cI h [])).sum = 0 := by
      intro m
      induction m with
      | zero => rfl
      | succ m ih => rw [List.range_succ, List.map_append, List.sum_append_nat, ih]; rfl
    simp [this]
  | p :: ps, k, h, n, s', hg, hf => by
    unfold foldE playG at hf
    by_cases hc : inR p.host 0 (h.hosts.length - 1) = true
    · simp only at hf
      rw [if_pos hc] at hf
      simp only [inR, Bool.and_eq_true, decide_eq_true_eq] at hc
      obtain ⟨ph, pf⟩ := p
      obtain ⟨j, rfl⟩ := Int.eq_ofNat_of_zero_le hc.1
      have hj : j < h.hosts.length := by simp only at hc; omega
      simp only [Int.toNat_natCast] at hf
      have hg' := Health.probed_good hg hj pf
      have hpl := Health.probed_len h j pf
      obtain ⟨i1, i2, i3⟩ := rp_sim ps (k + 1) _ _ s' hg' hf
      have hrf : (h.probed j pf).1.rise = h.rise ∧ (h.probed j pf).1.fall = h.fall := ⟨rfl, rfl⟩
      rw [hrf.1, hrf.2] at i2
      have key : ∀ i, i < h.hosts.length → rpL h.rise h.fall i (⟨j, pf⟩ :: ps) (0, h.ofHost i) = ((if i = j ∧ (h.probed j pf).2 = true then 1 else 0) + cI (h.probed j pf).1 ps i, s'.1.ofHost i) := by
        intro i hi
        show rpL h.rise h.fall i ps (rpS h.rise h.fall i (0, h.ofHost i) ⟨j, pf⟩) = _
        rw [step_rp hg hi hj pf]
        have := rpL_shift h.rise h.fall i ps (if i = j ∧ (h.probed j pf).2 = true then 1 else 0) 0 ((h.probed j pf).1.ofHost i)
        rw [Nat.add_zero] at this
        rw [this, i2 i (by omega)]
      refine ⟨by omega, fun i hi => ?_, ?_⟩
      · rw [cI, key i hi]
      · have hc : ((List.range h.hosts.length).map (cI h (⟨j, pf⟩ :: ps))) = (List.range h.hosts.length).map fun i => (if i = j then (if (h.probed j pf).2 = true then 1 else 0) else 0) + cI (h.probed j pf).1 ps i := by
          refine List.map_congr_left fun i hi => ?_
          rw [List.mem_range] at hi
          rw [cI, key i hi]
          by_cases h1 : i = j <;> by_cases h2 : (h.probed j pf).2 = true <;> simp [h1, h2]
        rw [hc, sum_one hj, i3, hpl]
        split <;> omega
    · simp only at hf
      rw [if_neg hc] at hf
      cases hf

/-- the sum of the first turns -/
def cS (h : Health) (ps : List Prb) (i : Nat) : Nat := ((List.range i).map (cI h ps)).sum
theorem cS_succ (h : Health) (ps : List Prb) (i : Nat) : cS h ps (i + 1) = cS h ps i + cI h ps i := by
  simp [cS, List.range_succ]
def Rp.enc (s : Rp) : List D := [.int s.1, .bool s.2.1, .int s.2.2]

theorem rows_inner {h : Health} {ps : List Prb} (hp : ps.length ≤ 200) {i m : Nat} (hm : m ≤ 10000) (hup : h.ofHost i = (true, 0)) {x1 x0 : D} (h1 : x1 = .int h.fall) (h0 : x0 = .int h.rise) :
    loopF (fun l7 =>
                    if (decide ((gd l7 3).i < (ps.length : Int))) then
                      (if (inb (gd l7 3).i ps.length) then
                        if (((gd (ps.map Prb.d) (gd l7 3).i.toNat).fld 0).i != (i : Int)) then
                          ou 0 [(gd l7 0), (gd l7 1), (gd l7 2)]
                        else
                          if (((gd (ps.map Prb.d) (gd l7 3).i.toNat).fld 1).b == (gd l7 1).b) then
                            ou 0 [(gd l7 0), (gd l7 1), (.int 0)]
                          else
                            (if (gd l7 1).b then
                                if ((IntKind.wrap .i64 ((gd l7 2).i + 1)) == x1.i) then
                                  ou 0 [(.bool true)]
                                else
                                  if (!(gd l7 1).b) then
                                    ou 0 [(.bool ((IntKind.wrap .i64 ((gd l7 2).i + 1)) == x0.i))]
                                  else
                                    ou 0 [(.bool false)]
                              else
                                if (!(gd l7 1).b) then
                                  ou 0 [(.bool ((IntKind.wrap .i64 ((gd l7 2).i + 1)) == x0.i))]
                                else
                                  ou 0 [(.bool false)]).bind fun o11 =>
                            sel2 o11.1 (if (gd o11.2 0).b then
                                ou 0 [(.int (IntKind.wrap .i64 ((gd l7 0).i + 1))), (.bool (!(gd l7 1).b)), (.int 0)]
                              else
                                ou 0 [(gd l7 0), (gd l7 1), (.int (IntKind.wrap .i64 ((gd l7 2).i + 1)))]) fun _ => none
                        else none).bind fun o11 =>
                      sel2 o11.1 (ou 0 [(gd o11.2 0), (gd o11.2 1), (gd o11.2 2), (.int (IntKind.wrap .i64 ((gd l7 3).i + 1)))]) fun _ => none
                    else
                      ou 1 [(gd l7 0), (gd l7 1), (gd l7 2)]) [.int m, (.bool true), (.int 0), (.int 0)] = some (0, Rp.enc (m + (rpL h.rise h.fall i ps (0, h.ofHost i)).1, (rpL h.rise h.fall i ps (0, h.ofHost i)).2)) := by
  subst h1; subst h0
  have hst : ∀ k, k ≤ ps.length → (rpL h.rise h.fall i (ps.take k) (m, true, 0)).1 ≤ 10200 ∧ 0 ≤ (rpL h.rise h.fall i (ps.take k) (m, true, 0)).2.2 ∧ (rpL h.rise h.fall i (ps.take k) (m, true, 0)).2.2 ≤ 200 := by
    intro k hk
    have := rpL_bound h.rise h.fall i (ps.take k) (m, true, 0) 0 (Int.le_refl _) (by simp)
    have hl : (ps.take k).length ≤ 200 := by rw [List.length_take]; omega
    simp only at this
    omega
  rw [← rpL_shift, hup, Nat.add_zero]
  have := loop_for' (f := fun l7 =>
                    if (decide ((gd l7 3).i < (ps.length : Int))) then
                      (if (inb (gd l7 3).i ps.length) then
                        if (((gd (ps.map Prb.d) (gd l7 3).i.toNat).fld 0).i != (i : Int)) then
                          ou 0 [(gd l7 0), (gd l7 1), (gd l7 2)]
                        else
                          if (((gd (ps.map Prb.d) (gd l7 3).i.toNat).fld 1).b == (gd l7 1).b) then
                            ou 0 [(gd l7 0), (gd l7 1), (.int 0)]
                          else
                            (if (gd l7 1).b then
                                if ((IntKind.wrap .i64 ((gd l7 2).i + 1)) == (D.int h.fall).i) then
                                  ou 0 [(.bool true)]
                                else
                                  if (!(gd l7 1).b) then
                                    ou 0 [(.bool ((IntKind.wrap .i64 ((gd l7 2).i + 1)) == (D.int h.rise).i))]
                                  else
                                    ou 0 [(.bool false)]
                              else
                                if (!(gd l7 1).b) then
                                  ou 0 [(.bool ((IntKind.wrap .i64 ((gd l7 2).i + 1)) == (D.int h.rise).i))]
                                else
                                  ou 0 [(.bool false)]).bind fun o11 =>
                            sel2 o11.1 (if (gd o11.2 0).b then
                                ou 0 [(.int (IntKind.wrap .i64 ((gd l7 0).i + 1))), (.bool (!(gd l7 1).b)), (.int 0)]
                              else
                                ou 0 [(gd l7 0), (gd l7 1), (.int (IntKind.wrap .i64 ((gd l7 2).i + 1)))]) fun _ => none
                        else none).bind fun o11 =>
                      sel2 o11.1 (ou 0 [(gd o11.2 0), (gd o11.2 1), (gd o11.2 2), (.int (IntKind.wrap .i64 ((gd l7 3).i + 1)))]) fun _ => none
                    else
                      ou 1 [(gd l7 0), (gd l7 1), (gd l7 2)]) (l := [.int m, (.bool true), (.int 0), (.int 0)])
    (fun k (s : Rp) => [.int s.1, .bool s.2.1, .int s.2.2, .int k]) ps.length (fun k => rpL h.rise h.fall i (ps.take k) (m, true, 0)) (t := 0) (o := Rp.enc (rpL h.rise h.fall i ps (m, true, 0))) rfl ?_ ?_
  · exact this
  · intro k hk
    have hb := hst k (Nat.le_of_lt hk)
    have hnx : rpL h.rise h.fall i (ps.take (k + 1)) (m, true, 0) = rpS h.rise h.fall i (rpL h.rise h.fall i (ps.take k) (m, true, 0)) ps[k] := by
      rw [List.take_succ_eq_append_getElem hk, rpL, List.foldl_append]; rfl
    rw [hnx]
    generalize rpL h.rise h.fall i (ps.take k) (m, true, 0) = s at hb
    obtain ⟨s1, s2, s3⟩ := s
    simp only at hb
    have hg : gd (ps.map Prb.d) k = (ps[k]).d := gd_prbs hk
    have f0 : ((ps[k]).d.fld 0).i = (ps[k]).host := rfl
    have f1 : ((ps[k]).d.fld 1).b = (ps[k]).fine := rfl
    have w1 : IntKind.wrap .i64 (s3 + 1) = s3 + 1 := by rw [wrap_id] <;> omega
    have w2 : IntKind.wrap .i64 ((s1 : Int) + 1) = ((s1 + 1 : Nat) : Int) := by rw [wrap_id] <;> omega
    have w3 : IntKind.wrap .i64 ((k : Int) + 1) = ((k + 1 : Nat) : Int) := by rw [wrap_id] <;> omega
    refine out_if (decide_eq_true (by simpa using hk)) (out_bind (r := (0, Rp.enc (rpS h.rise h.fall i (s1, s2, s3) ps[k]))) (out_if (by simpa using inb_nat hk) ?_) ?_)
    · simp only [gd_zero, gd_one, gd_two, gd_three, D.i_int, D.b_bool, Int.toNat_natCast, hg, f0, f1, w1, w2]
      unfold rpS
      by_cases hh : (ps[k]).host = (i : Int)
      · refine out_else (by simp [hh]) ?_
        rw [if_pos hh]
        by_cases hfi : (ps[k]).fine = s2
        · refine out_if (by simp [hfi]) ?_
          rw [if_pos hfi]; rfl
        · refine out_else (by simpa using hfi) ?_
          rw [if_neg hfi]
          refine out_bind (r := (0, [.bool (turns h.rise h.fall (s1, s2, s3))])) ?_ ?_
          · unfold turns
            cases s2 with
            | true =>
              by_cases hq : s3 + 1 = h.fall
              · simp [hq]
              · simp [hq]
            | false => simp
          · refine sel0 ?_
            simp only [gd_zero, D.b_bool]
            cases turns h.rise h.fall (s1, s2, s3) <;> rfl
      · refine out_if (by simpa using hh) ?_
        rw [if_neg hh]; rfl
    · refine sel0 ?_
      simp only [gd_three, D.i_int, w3]
      rfl
  · simp [Rp.enc]

theorem new_row (r f : Int) (ls : List (List UInt8)) (i : Nat) : ((Health.new r f ls).ofHost i).2 = 0 := by
  unfold Health.ofHost
  by_cases hi : i < (Health.new r f ls).hosts.length
  · rw [Health.host_lt hi]; simp [Health.new]
  · unfold Health.host
    rw [List.getD_eq_getElem?_getD, List.getElem?_eq_none (by omega)]
    rfl
theorem law_FnRows {a : D} (ha : Sm smax (.lst false (.int .u8)) a) : e_laws_FnRows.F [a] = some (.bool true) := by
  obtain ⟨bs, rfl, hbs⟩ := bytes_ofD ha
  rw [q_laws_FnRows]
  by_cases hbig : ((D.lst bs).l.length : Int) > 1048576
  · exact rn_if (decide_eq_true hbig) rfl
  refine rn_else (fun h => hbig (of_decide_eq_true h)) ?_
  obtain ⟨r, f, ls, ps, h1, hl, hm⟩ := f_drawPlay hbs
  have hlim : lim = 1048576 := rfl
  have h2 := f_implPlay r f ls ps
  have h3 := f_specPlay r f ls ps (by omega) (fun s hs => by have := hm s hs; omega)
  have hln := play_len r f ls ps
  have hse := f_sameHealths (h := (Health.play r f ls ps).h) (by rw [smax_eq]; omega)
  refine rn_call h1 (rn_call h2 (rn_call h3 ?_))
  have f0 : (Health.play r f ls ps).d.fld 0 = (Health.play r f ls ps).h.d := rfl
  have f1 : (Health.play r f ls ps).d.fld 1 = .int (Health.play r f ls ps).n := rfl
  have f2 : (Health.play r f ls ps).d.fld 2 = .bool (Health.play r f ls ps).ok := rfl
  refine rn_bind (r := (0, [.bool false])) ?_ ?_
  · rw [f0]
    exact out_else (by simp) (out_else (by simp) (out_call hse (by simp)))
  simp only [sel2_zero, gd_zero]
  refine rn_else (by simp) ?_
  rw [f2, f1, f0]
  have hd2 : ((Health.play r f ls ps).h.d.fld 2).l = (Health.play r f ls ps).h.hosts.map Host.d := rfl
  cases hok : (Health.play r f ls ps).ok with
  | false =>
    have hnul : Health.play r f ls ps = Pl.nul := by
      unfold Health.play at hok ⊢
      split
      · rfl
      · rename_i hc
        rw [if_neg hc] at hok
        cases hf : foldE playG 0 ((Health.start r f ls).1, 0) ps with
        | inl s => rw [hf] at hok; cases hok
        | inr e => rfl
    rw [hnul]
    exact rn_if rfl rfl
  | true =>
    refine rn_else (by simp) ?_
    have hg := play_good hok
    -- what was played
    have hpl : ps.length ≤ 200 ∧ (Health.new r f ls).good = true ∧ ∃ s, foldE playG 0 (Health.new r f ls, 0) ps = .inl s ∧ (Health.play r f ls ps).h = s.1 ∧ (Health.play r f ls ps).n = s.2 := by
      unfold Health.play at hok ⊢
      by_cases hc : (!(Health.start r f ls).2 || decide (ps.length > 200)) = true
      · rw [if_pos hc] at hok; cases hok
      · rw [if_neg hc] at hok ⊢
        simp only [Bool.or_eq_true, Bool.not_eq_true', decide_eq_true_eq, not_or, Bool.not_eq_false] at hc
        have hst : (Health.new r f ls).good = true ∧ (Health.start r f ls).1 = Health.new r f ls := by
          have := hc.1
          unfold Health.start at this ⊢
          by_cases hq : (Health.new r f ls).good = true
          · rw [if_pos hq]; exact ⟨hq, rfl⟩
          · rw [if_neg hq] at this; cases this
        rw [hst.2] at hok ⊢
        refine ⟨by omega, hst.1, ?_⟩
        cases hf : foldE playG 0 (Health.new r f ls, 0) ps with
        | inl s => exact ⟨s, rfl, rfl, rfl⟩
        | inr e => rw [hf] at hok; cases hok
    obtain ⟨hp200, hng, s, hfold, hsh, hsn⟩ := hpl
    rw [hsh] at hg hd2 hln
    rw [hsh, hsn, hd2]
    have hlen := Health.len_R hg
    obtain ⟨i1, i2, i3⟩ := rp_sim ps 0 (Health.new r f ls) 0 s hng hfold
    have hnl := Health.new_len r f ls
    have hcI : ∀ i, cI (Health.new r f ls) ps i ≤ 200 := by
      intro i
      have := rpL_bound (Health.new r f ls).rise (Health.new r f ls).fall i ps (0, (Health.new r f ls).ofHost i) 0 ?_ ?_
      · simp only at this
        unfold cI
        omega
      · simp only; rw [new_row]; exact Int.le_refl _
      · simp only; rw [new_row]; exact Int.le_refl _
    have hcS : ∀ i, cS (Health.new r f ls) ps i ≤ i * 200 := by
      intro i
      induction i with
      | zero => simp [cS]
      | succ i ih => rw [cS_succ]; have := hcI i; omega
    rw [List.length_map]
    refine rn_bind (r := (1, [.int s.2])) (loop_for' (fun i (_ : Unit) => [.int (cS (Health.new r f ls) ps i), .int i]) s.1.hosts.length (fun _ => ()) rfl ?_ ?_) ?_
    · intro i hi
      have hi' : i < (Health.new r f ls).hosts.length := by omega
      have hup : (Health.new r f ls).ofHost i = (true, 0) := by
        unfold Health.ofHost
        rw [Health.host_lt hi']; simp [Health.new]
      have hci := hcS i
      have hin := rows_inner (h := Health.new r f ls) (ps := ps) hp200 (i := i) (m := cS (Health.new r f ls) ps i) (by omega) hup (x1 := .int f) (x0 := .int r) rfl rfl
      rw [i2 i hi'] at hin
      have hg2 : gd (s.1.hosts.map Host.d) i = (s.1.hosts[i]).d := gd_hosts hi
      have hofs : s.1.ofHost i = (s.1.hosts[i].up, s.1.hosts[i].row) := by simp [Health.ofHost, Health.host_lt hi]
      have hrow := f_rowOf hg hi
      have hisup := f_isUp hg hi
      refine out_if (decide_eq_true (by simpa using hi)) (out_if (by simpa using inb_nat hi) ?_)
      simp only [gd_zero, gd_one, D.i_int, Int.toNat_natCast]
      have p0 : (D.pair (.int (r : Int)) (.pair (.int (f : Int)) (.pair (.lst (ls.map D.str)) (.pair (.lst (ps.map Prb.d)) .unit)))).fld 0 = .int r := rfl
      have p1 : (D.pair (.int (r : Int)) (.pair (.int (f : Int)) (.pair (.lst (ls.map D.str)) (.pair (.lst (ps.map Prb.d)) .unit)))).fld 1 = .int f := rfl
      have p3 : ((D.pair (.int (r : Int)) (.pair (.int (f : Int)) (.pair (.lst (ls.map D.str)) (.pair (.lst (ps.map Prb.d)) .unit)))).fld 3).l = ps.map Prb.d := rfl
      rw [p0, p1, p3, List.length_map]
      refine out_bind hin (sel0 ?_)
      have fn : (s.1.hosts[i]).d.fld 0 = .str s.1.hosts[i].name := rfl
      rw [hg2, fn]
      refine out_call hrow (out_call hisup (out_bind (r := (0, [.bool false])) (out_else (by simp) (out_else ?_ (out_else (by simp) ?_))) (sel0 (out_else (by simp) ?_))))
      · simp [Rp.enc, hofs]
      · simp [Rp.enc, hofs]
      · rw [cS_succ, wrap_succ hi (by rw [smax_eq]; omega)]
        simp [Rp.enc]
    · refine out_else (fun h => by have := of_decide_eq_true h; simp at this) ?_
      rw [i3, i1]
      simp [cS]
    · simp only [sel2_one, sel2_zero]
      have hgd := f_implGoodHealth s.1 (by rw [smax_eq]; omega)
      rw [hg] at hgd
      refine rn_bind (r := (0, [.bool true])) (out_if (by simp) (out_call hgd rfl)) rfl
end Go.Proofs.YtbanjbafckgghaaDoor
