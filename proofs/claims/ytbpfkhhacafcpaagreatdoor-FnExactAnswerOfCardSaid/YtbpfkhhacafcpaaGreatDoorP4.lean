/- What the functions compute, in plain words. -/
import Derived.Test.YtbpfkhhacafcpaaGreatDoorP3
set_option linter.unusedSectionVars false
set_option linter.unusedVariables false
set_option linter.unusedSimpArgs false
namespace Go.Proofs.YtbpfkhhacafcpaaGreatDoor
open Go Go.Own
def idxs (n : Nat) (q : Nat → Bool) : List Int := ((List.range n).filter q).map Int.ofNat
theorem idxs_succ (n : Nat) (q : Nat → Bool) : idxs (n + 1) q = idxs n q ++ if q n then [(n : Int)] else [] := by
  unfold idxs
  rw [List.range_succ, List.filter_append, List.map_append]
  cases h : q n <;> simp [h]
theorem idxs_len (n : Nat) (q : Nat → Bool) : (idxs n q).length ≤ n := by
  unfold idxs
  rw [List.length_map]
  exact Nat.le_trans (List.length_filter_le _ _) (by simp)
theorem mem_idxs {n : Nat} {q : Nat → Bool} {x : Int} (h : x ∈ idxs n q) : ∃ i : Nat, x = i ∧ i < n ∧ q i = true := by
  simp only [idxs, List.mem_map, List.mem_filter, List.mem_range] at h
  obtain ⟨i, ⟨hi, hq⟩, rfl⟩ := h
  exact ⟨i, rfl, hi, hq⟩
def noT : Target := ⟨[], [], 0, 0⟩
def Policy.inG (p : Policy) (g : Int) (i : Nat) : Bool := (p.ts.getD i noT).group == g
def Policy.wellG (p : Policy) (h : Health) (g : Int) (i : Nat) : Bool := Target.fit h g (p.ts.getD i noT)
def Policy.cand (p : Policy) (h : Health) : List Int :=
  if (idxs p.ts.length (p.wellG h (p.group h))).length = 0 then idxs p.ts.length (p.inG (p.group h)) else idxs p.ts.length (p.wellG h (p.group h))
theorem Policy.cand_len (p : Policy) (h : Health) : (p.cand h).length ≤ p.ts.length := by
  unfold Policy.cand
  split <;> exact idxs_len _ _
theorem Policy.cand_mem {p : Policy} {h : Health} {x : Int} (hx : x ∈ p.cand h) : ∃ i : Nat, x = i ∧ i < p.ts.length := by
  unfold Policy.cand at hx
  split at hx
  · obtain ⟨i, h1, h2, _⟩ := mem_idxs hx; exact ⟨i, h1, h2⟩
  · obtain ⟨i, h1, h2, _⟩ := mem_idxs hx; exact ⟨i, h1, h2⟩
theorem cand_step {p : Policy} {h : Health} {e : Outc → Outc} (hp : p.ts.length ≤ lim) (g : Int) {i : Nat} (hi : i < p.ts.length) (w : Option D) (hw : w = some (.bool (h.well p.ts[i].host))) :
    ((if (inb ((D.int (i : Int))).i (D.lst (p.ts.map Target.d)).l.length) then
          if (((gd (D.lst (p.ts.map Target.d)).l ((D.int (i : Int))).i.toNat).fld 2).i != (D.int g).i) then
            ou 0 [nd (idxs i (p.wellG h g)), nd (idxs i (p.inG g))]
          else
            if (appOk 8 (nd (idxs i (p.inG g))).l ((D.int (i : Int)) :: ([] : List D))) then
            w.bind fun r6 =>
            if r6.b then
              if (appOk 8 (nd (idxs i (p.wellG h g))).l ((D.int (i : Int)) :: ([] : List D))) then
              ou 0 [(D.lst ((nd (idxs i (p.wellG h g))).l ++ ((D.int (i : Int)) :: ([] : List D)))), (D.lst ((nd (idxs i (p.inG g))).l ++ ((D.int (i : Int)) :: ([] : List D))))]
              else none
            else
              ou 0 [nd (idxs i (p.wellG h g)), (D.lst ((nd (idxs i (p.inG g))).l ++ ((D.int (i : Int)) :: ([] : List D))))]
            else none
          else none) : Outc) = some (0, [nd (idxs (i + 1) (p.wellG h g)), nd (idxs (i + 1) (p.inG g))]) := by
  have hlim : lim = 1048576 := rfl
  have e2 : (p.ts[i].d.fld 2).i = p.ts[i].group := rfl
  have l1 := idxs_len i (p.wellG h g)
  have l2 := idxs_len i (p.inG g)
  have q1 : p.inG g i = (p.ts[i].group == g) := by simp [Policy.inG, hi]
  have q2 : p.wellG h g i = (p.ts[i].group == g && h.well p.ts[i].host) := by simp [Policy.wellG, Target.fit, hi]
  subst hw
  rw [idxs_succ, idxs_succ, q1, q2]
  simp only [D.i_int, Int.toNat_natCast, D.l_lst, gd_t hi, e2, List.length_map]
  refine out_if (inb_nat hi) ?_
  cases hb : p.ts[i].group == g with
  | false =>
    have hne : p.ts[i].group ≠ g := by simpa using hb
    exact out_if (by simpa using hne) (by simp)
  | true =>
    have he : p.ts[i].group = g := by simpa using hb
    refine out_else (by simp [he]) (out_if (appOk1 (by simp [nd]; omega)) ?_)
    cases hw : h.well p.ts[i].host with
    | true => exact out_call rfl (out_if rfl (out_if (appOk1 (by simp [nd]; omega)) (by simp [nd])))
    | false => exact out_call rfl (out_else (by simp) (by simp [nd]))
theorem f_candidatesOf {p : Policy} {h : Health} (hp : p.In lim) (hl : h.hosts.length ≤ lim) (hg : p.good = true) : e_impl_candidatesOf.F [p.d, h.d] = some (nd (p.cand h)) := by
  have f1 : p.d.fld 1 = .lst (p.ts.map Target.d) := rfl
  have hsm : p.ts.length ≤ smax := Nat.le_trans hp.len lim_smax
  rw [q_impl_candidatesOf, f1]
  refine rn_call (f_groupOf hp hl hg) (rn_bind (loop_for' (fun i (s : List Int × List Int) => [nd s.1, nd s.2, .int i]) p.ts.length (fun i => (idxs i (p.wellG h (p.group h)), idxs i (p.inG (p.group h)))) (t := 0) (o := [nd (idxs p.ts.length (p.wellG h (p.group h))), nd (idxs p.ts.length (p.inG (p.group h)))]) rfl ?_ ?_) ?_)
  · intro i hi
    refine out_if (decide_eq_true (by simp [hi])) (out_bind (cand_step (e := id) hp.len (p.group h) hi _ ?_) ?_)
    · have := f_isWell hl p.ts[i]
      have e : gd (D.lst (p.ts.map Target.d)).l ((D.int (i : Int))).i.toNat = p.ts[i].d := by
        simp only [D.i_int, Int.toNat_natCast, D.l_lst, gd_t hi]
      rw [← e] at this
      exact this
    · have hw1 := wrap_succ hi hsm
      simp only [gd_two, D.i_int, hw1]
      rfl
  · exact out_else (by simp) rfl
  · by_cases h0 : (idxs p.ts.length (p.wellG h (p.group h))).length = 0
    · rw [Policy.cand, if_pos h0]
      exact rn_else (by simp [nd, h0]) rfl
    · rw [Policy.cand, if_neg h0]
      exact rn_if (decide_eq_true (by simp [nd]; omega)) rfl
theorem f_l14Candidates {p : Policy} {h : Health} (hp : p.In lim) (hf : h.Fit) (hl : h.hosts.length ≤ lim) (hh : h.good = true) (hg : p.good = true) : e_spec_l14Candidates.F [p.d, h.d] = some (nd (p.cand h)) := by
  have f1 : p.d.fld 1 = .lst (p.ts.map Target.d) := rfl
  have hsm : p.ts.length ≤ smax := Nat.le_trans hp.len lim_smax
  rw [q_spec_l14Candidates, f1]
  refine rn_call (f_l14Group hp hf hl hh hg) (rn_bind (loop_for' (fun i (s : List Int × List Int) => [nd s.1, nd s.2, .int i]) p.ts.length (fun i => (idxs i (p.wellG h (p.group h)), idxs i (p.inG (p.group h)))) (t := 0) (o := [nd (idxs p.ts.length (p.wellG h (p.group h))), nd (idxs p.ts.length (p.inG (p.group h)))]) rfl ?_ ?_) ?_)
  · intro i hi
    refine out_if (decide_eq_true (by simp [hi])) (out_bind (cand_step (e := id) hp.len (p.group h) hi _ ?_) ?_)
    · have := f_l14Well hf hl hh p.ts[i].host
      have e : (gd (D.lst (p.ts.map Target.d)).l ((D.int (i : Int))).i.toNat).fld 0 = .str p.ts[i].host := by
        simp only [D.i_int, Int.toNat_natCast, D.l_lst, gd_t hi]; rfl
      rw [← e] at this
      exact this
    · have hw1 := wrap_succ hi hsm
      simp only [gd_two, D.i_int, hw1]
      rfl
  · exact out_else (by simp) rfl
  · by_cases h0 : (idxs p.ts.length (p.wellG h (p.group h))).length = 0
    · rw [Policy.cand, if_pos h0]
      exact rn_if (by simp [nd, h0]) rfl
    · rw [Policy.cand, if_neg h0]
      exact rn_else (fun hh => h0 (by simpa [nd] using hh)) rfl
theorem f_CandidatesOf {p : Policy} {h : Health} (hp : p.In lim) (hh : h.In lim) : ∃ (l : List Int) (b : Bool), l.length ≤ lim ∧ e_impl_CandidatesOf.F [p.d, h.d] = some (.pair (nd l) (.pair (.bool b) .unit)) ∧ e_spec_CandidatesOf.F [p.d, h.d] = some (.pair (nd l) (.pair (.bool b) .unit)) := by
  have h1 := f_implPolicy hp
  have h2 := f_specPolicy hp
  have h3 := f_implGoodHealth h (Nat.le_trans hh.len lim_smax)
  have h4 := f_specGoodHealth h hh.fit
  rw [q_impl_CandidatesOf, q_spec_CandidatesOf]
  cases hg : p.good with
  | false =>
    rw [hg] at h1 h2
    exact ⟨[], false, by simp, rn_bind0 (l := [.bool true]) (out_call h1 (out_if rfl rfl)) (rn_if rfl rfl), rn_bind0 (l := [.bool true]) (out_call h2 (out_if rfl rfl)) (rn_if rfl rfl)⟩
  | true =>
    rw [hg] at h1 h2
    cases hgh : h.good with
    | false =>
      rw [hgh] at h3 h4
      exact ⟨[], false, by simp, rn_bind0 (l := [.bool true]) (out_call h1 (out_else (by simp) (out_call h3 rfl))) (rn_if rfl rfl), rn_bind0 (l := [.bool true]) (out_call h2 (out_else (by simp) (out_call h4 rfl))) (rn_if rfl rfl)⟩
    | true =>
      rw [hgh] at h3 h4
      exact ⟨p.cand h, true, Nat.le_trans (Policy.cand_len p h) hp.len, rn_bind0 (l := [.bool false]) (out_call h1 (out_else (by simp) (out_call h3 rfl))) (rn_else (by simp) (rn_call (f_candidatesOf hp hh.len hg) rfl)), rn_bind0 (l := [.bool false]) (out_call h2 (out_else (by simp) (out_call h4 rfl))) (rn_else (by simp) (rn_call (f_l14Candidates hp hh.fit hh.len hgh hg) rfl))⟩
theorem law_FnExactCandidatesOf {a b : D} (ha : Sm smax tPolicy a) (hb : Sm smax tHealth b) : e_laws_FnExactCandidatesOf.F [a, b] = some (.bool true) := by
  obtain ⟨p, rfl, hi⟩ := policy_of ha
  obtain ⟨h, rfl, hj⟩ := health_of hb
  rw [q_laws_FnExactCandidatesOf]
  have hlim : lim = 1048576 := rfl
  obtain ⟨r, h1, h2⟩ := f_szPolicy hi (left := 1048576) (by decide) (by decide)
  refine rn_call h1 ?_
  by_cases hr : r < 0
  · exact rn_if (decide_eq_true hr) rfl
  refine rn_else (fun h => hr (of_decide_eq_true h)) ?_
  obtain ⟨hrl, hp⟩ := h2 (by omega)
  obtain ⟨r2, h3, h4⟩ := f_szHealth hj (left := r) (by omega) (by omega)
  refine rn_call h3 ?_
  by_cases hr2 : r2 < 0
  · exact rn_if (decide_eq_true hr2) rfl
  refine rn_else (fun h => hr2 (of_decide_eq_true h)) ?_
  have hh := h4 (by omega)
  have ht := f_toPolicy hp.len
  have ht2 := f_toHealth hh.len
  obtain ⟨l, b, hll, hI, hS⟩ := f_CandidatesOf hp hh
  have hep := f_eqPolicy (p := p) (Nat.le_trans hp.len lim_smax)
  have heh := f_eqHealth (h := h) (Nat.le_trans hh.len lim_smax)
  have heq := f_eqIntS (l := l) (Nat.le_trans hll lim_smax)
  obtain ⟨k, y, k0, k1, hm⟩ := marks_Policy (p := p) hp.len 1 (by decide) (by decide)
  obtain ⟨k', y', k0', k1', hm'⟩ := marks_Health (h := h) hh.len k k0 (by omega)
  obtain ⟨zs, hz, hmi⟩ := f_markIntS (l := l) (k := 1) hll (by decide) (by decide)
  have hhe := f_heldIntS hz hll (by decide) (by decide)
  have f0 : (D.pair (nd l) (.pair (.bool b) .unit)).fld 0 = nd l := rfl
  have f1 : (D.pair (nd l) (.pair (.bool b) .unit)).fld 1 = .bool b := rfl
  have hk : ¬ (decide (((D.pair (.int k') (.pair y' .unit)).fld 0).i < 0)) = true := fun h => by
    have h' : k' < 0 := of_decide_eq_true h
    omega
  have hq : ¬ (decide ((D.int (1 + (l.length : Int))).i < 0)) = true := fun h => by
    have h' : 1 + (l.length : Int) < 0 := of_decide_eq_true h
    omega
  refine rn_call ht (rn_call ht2 (rn_call hS (rn_call ht (rn_call ht2 (rn_call hI ?_)))))
  simp only [f0, f1]
  refine rn_bind0 (l := [.bool false]) (out_call heq (out_else (by simp) (by simp))) ?_
  refine rn_else (by simp) (rn_call ht (rn_call hep (rn_else (by simp) (rn_call ht2 (rn_call heh (rn_else (by simp) (rn_call hm (rn_call hm' ?_))))))))
  refine rn_bind0 (l := [.bool false]) (out_else hk (out_call heq (out_else (by simp) (by simp)))) ?_
  refine rn_else (by simp) (rn_call hmi (rn_call hhe (rn_else hq (rn_else (by simp [D.fld]) (rn_call ht (rn_call ht2 (rn_call hI ?_)))))))
  simp only [f0, f1]
  refine rn_bind0 (l := [.bool false]) (out_call heq (out_else (by simp) (by simp))) ?_
  exact rn_else (by simp) (rn_call hhe (rn_else hq (rn_else (by simp [D.fld]) rfl)))
end Go.Proofs.YtbpfkhhacafcpaaGreatDoor
