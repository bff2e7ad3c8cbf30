/- What the functions compute, in plain words. -/
import Derived.Test.YtobighfemobgjaaGreatDoorP3
set_option linter.unusedSectionVars false
set_option linter.unusedVariables false
set_option linter.unusedSimpArgs false
namespace Go.Proofs.YtobighfemobgjaaGreatDoor
open Go Go.Own
def idxs (n : Nat) (q : Nat → Bool) : List Int := ((List.range n).filter q).map Int.ofNat
theorem idxs_succ (n : Nat) (q : Nat → Bool) : idxs (n + 1) q = idxs n q ++ if q n then [(n : Int)] else [] := by
  unfold idxs
  rw [List.range_succ, List.filter_append, List.map_append]
  cases h : q n <;> simp [h]
theorem idxs_len (n : Nat) (q : Nat → Bool) : (idxs n q).length ≤ n := by
  unfold idxs
  rw [List.length_map]
  exact Nat.le_trans (List.length_filter_le _ _) (by simp)
theorem mem_idxs {n : Nat} {q : Nat → Bool} {x : Int} (h : x ∈ idxs n q) : ∃ i : Nat, x = i ∧ i < n ∧ q i = true := by
  simp only [idxs, List.mem_map, List.mem_filter, List.mem_range] at h
  obtain ⟨i, ⟨hi, hq⟩, rfl⟩ := h
  exact ⟨i, rfl, hi, hq⟩
def noT : Target := ⟨[], [], 0, 0⟩
def Policy.inG (p : Policy) (g : Int) (i : Nat) : Bool := (p.ts.getD i noT).group == g
def Policy.wellG (p : Policy) (h : Health) (g : Int) (i : Nat) : Bool := Target.fit h g (p.ts.getD i noT)
def Policy.cand (p : Policy) (h : Health) : List Int :=
  if (idxs p.ts.length (p.wellG h (p.group h))).length = 0 then idxs p.ts.length (p.inG (p.group h)) else idxs p.ts.length (p.wellG h (p.group h))
theorem Policy.cand_len (p : Policy) (h : Health) : (p.cand h).length ≤ p.ts.length := by
  unfold Policy.cand
  split <;> exact idxs_len _ _
theorem Policy.cand_mem {p : Policy} {h : Health} {x : Int} (hx : x ∈ p.cand h) : ∃ i : Nat, x = i ∧ i < p.ts.length := by
  unfold Policy.cand at hx
  split at hx
  · obtain ⟨i, h1, h2, _⟩ := mem_idxs hx; exact ⟨i, h1, h2⟩
  · obtain ⟨i, h1, h2, _⟩ := mem_idxs hx; exact ⟨i, h1, h2⟩
theorem cand_step {p : Policy} {h : Health} {e : Outc → Outc} (hp : p.ts.length ≤ lim) (g : Int) {i : Nat} (hi : i < p.ts.length) (w : Option D) (hw : w = some (.bool (h.well p.ts[i].host))) :
    ((if (inb ((D.int (i : Int))).i (D.lst (p.ts.map Target.d)).l.length) then
          if (((gd (D.lst (p.ts.map Target.d)).l ((D.int (i : Int))).i.toNat).fld 2).i != (D.int g).i) then
            ou 0 [nd (idxs i (p.wellG h g)), nd (idxs i (p.inG g))]
          else
            if (appOk 8 (nd (idxs i (p.inG g))).l ((D.int (i : Int)) :: ([] : List D))) then
            w.bind fun r6 =>
            if r6.b then
              if (appOk 8 (nd (idxs i (p.wellG h g))).l ((D.int (i : Int)) :: ([] : List D))) then
              ou 0 [(D.lst ((nd (idxs i (p.wellG h g))).l ++ ((D.int (i : Int)) :: ([] : List D)))), (D.lst ((nd (idxs i (p.inG g))).l ++ ((D.int (i : Int)) :: ([] : List D))))]
              else none
            else
              ou 0 [nd (idxs i (p.wellG h g)), (D.lst ((nd (idxs i (p.inG g))).l ++ ((D.int (i : Int)) :: ([] : List D))))]
            else none
          else none) : Outc) = some (0, [nd (idxs (i + 1) (p.wellG h g)), nd (idxs (i + 1) (p.inG g))]) := by
  have hlim : lim = 1048576 := rfl
  have e2 : (p.ts[i].d.fld 2).i = p.ts[i].group := rfl
  have l1 := idxs_len i (p.wellG h g)
  have l2 := idxs_len i (p.inG g)
  have q1 : p.inG g i = (p.ts[i].group == g) := by simp [Policy.inG, hi]
  have q2 : p.wellG h g i = (p.ts[i].group == g && h.well p.ts[i].host) := by simp [Policy.wellG, Target.fit, hi]
  subst hw
  rw [idxs_succ, idxs_succ, q1, q2]
  simp only [D.i_int, Int.toNat_natCast, D.l_lst, gd_t hi, e2, List.length_map]
  refine out_if (inb_nat hi) ?_
  cases hb : p.ts[i].group == g with
  | false =>
    have hne : p.ts[i].group ≠ g := by simpa using hb
    exact out_if (by simpa using hne) (by simp)
  | true =>
    have he : p.ts[i].group = g := by simpa using hb
    refine out_else (by simp [he]) (out_if (appOk1 (by simp [nd]; omega)) ?_)
    cases hw : h.well p.ts[i].host with
    | true => exact out_call rfl (out_if rfl (out_if (appOk1 (by simp [nd]; omega)) (by simp [nd])))
    | false => exact out_call rfl (out_else (by simp) (by simp [nd]))
theorem f_candidatesOf {p : Policy} {h : Health} (hp : p.In lim) (hl : h.hosts.length ≤ lim) (hg : p.good = true) : e_impl_candidatesOf.F [p.d, h.d] = some (nd (p.cand h)) := by
  have f1 : p.d.fld 1 = .lst (p.ts.map Target.d) := rfl
  have hsm : p.ts.length ≤ smax := Nat.le_trans hp.len lim_smax
  rw [q_impl_candidatesOf, f1]
  refine rn_call (f_groupOf hp hl hg) (rn_bind (loop_for' (fun i (s : List Int × List Int) => [nd s.1, nd s.2, .int i]) p.ts.length (fun i => (idxs i (p.wellG h (p.group h)), idxs i (p.inG (p.group h)))) (t := 0) (o := [nd (idxs p.ts.length (p.wellG h (p.group h))), nd (idxs p.ts.length (p.inG (p.group h)))]) rfl ?_ ?_) ?_)
  · intro i hi
    refine out_if (decide_eq_true (by simp [hi])) (out_bind (cand_step (e := id) hp.len (p.group h) hi _ ?_) ?_)
    · have := f_isWell hl p.ts[i]
      have e : gd (D.lst (p.ts.map Target.d)).l ((D.int (i : Int))).i.toNat = p.ts[i].d := by
        simp only [D.i_int, Int.toNat_natCast, D.l_lst, gd_t hi]
      rw [← e] at this
      exact this
    · have hw1 := wrap_succ hi hsm
      simp only [gd_two, D.i_int, hw1]
      rfl
  · exact out_else (by simp) rfl
  · by_cases h0 : (idxs p.ts.length (p.wellG h (p.group h))).length = 0
    · rw [Policy.cand, if_pos h0]
      exact rn_else (by simp [nd, h0]) rfl
    · rw [Policy.cand, if_neg h0]
      exact rn_if (decide_eq_true (by simp [nd]; omega)) rfl
theorem f_l14Candidates {p : Policy} {h : Health} (hp : p.In lim) (hf : h.Fit) (hl : h.hosts.length ≤ lim) (hh : h.good = true) (hg : p.good = true) : e_spec_l14Candidates.F [p.d, h.d] = some (nd (p.cand h)) := by
  have f1 : p.d.fld 1 = .lst (p.ts.map Target.d) := rfl
  have hsm : p.ts.length ≤ smax := Nat.le_trans hp.len lim_smax
  rw [q_spec_l14Candidates, f1]
  refine rn_call (f_l14Group hp hf hl hh hg) (rn_bind (loop_for' (fun i (s : List Int × List Int) => [nd s.1, nd s.2, .int i]) p.ts.length (fun i => (idxs i (p.wellG h (p.group h)), idxs i (p.inG (p.group h)))) (t := 0) (o := [nd (idxs p.ts.length (p.wellG h (p.group h))), nd (idxs p.ts.length (p.inG (p.group h)))]) rfl ?_ ?_) ?_)
  · intro i hi
    refine out_if (decide_eq_true (by simp [hi])) (out_bind (cand_step (e := id) hp.len (p.group h) hi _ ?_) ?_)
    · have := f_l14Well hf hl hh p.ts[i].host
      have e : (gd (D.lst (p.ts.map Target.d)).l ((D.int (i : Int))).i.toNat).fld 0 = .str p.ts[i].host := by
        simp only [D.i_int, Int.toNat_natCast, D.l_lst, gd_t hi]; rfl
      rw [← e] at this
      exact this
    · have hw1 := wrap_succ hi hsm
      simp only [gd_two, D.i_int, hw1]
      rfl
  · exact out_else (by simp) rfl
  · by_cases h0 : (idxs p.ts.length (p.wellG h (p.group h))).length = 0
    · rw [Policy.cand, if_pos h0]
      exact rn_if (by simp [nd, h0]) rfl
    · rw [Policy.cand, if_neg h0]
      exact rn_else (fun hh => h0 (by simpa [nd] using hh)) rfl
theorem f_CandidatesOf {p : Policy} {h : Health} (hp : p.In lim) (hh : h.In lim) : ∃ (l : List Int) (b : Bool), (l.length ≤ lim ∧ b = (p.good && h.good) ∧ (b = true → l = p.cand h)) ∧ e_impl_CandidatesOf.F [p.d, h.d] = some (.pair (nd l) (.pair (.bool b) .unit)) ∧ e_spec_CandidatesOf.F [p.d, h.d] = some (.pair (nd l) (.pair (.bool b) .unit)) := by
  have h1 := f_implPolicy hp
  have h2 := f_specPolicy hp
  have h3 := f_implGoodHealth h (Nat.le_trans hh.len lim_smax)
  have h4 := f_specGoodHealth h hh.fit
  rw [q_impl_CandidatesOf, q_spec_CandidatesOf]
  cases hg : p.good with
  | false =>
    rw [hg] at h1 h2
    exact ⟨[], false, ⟨by simp, by simp, fun h => nomatch h⟩, rn_bind0 (l := [.bool true]) (out_call h1 (out_if rfl rfl)) (rn_if rfl rfl), rn_bind0 (l := [.bool true]) (out_call h2 (out_if rfl rfl)) (rn_if rfl rfl)⟩
  | true =>
    rw [hg] at h1 h2
    cases hgh : h.good with
    | false =>
      rw [hgh] at h3 h4
      exact ⟨[], false, ⟨by simp, by simp, fun h => nomatch h⟩, rn_bind0 (l := [.bool true]) (out_call h1 (out_else (by simp) (out_call h3 rfl))) (rn_if rfl rfl), rn_bind0 (l := [.bool true]) (out_call h2 (out_else (by simp) (out_call h4 rfl))) (rn_if rfl rfl)⟩
    | true =>
      rw [hgh] at h3 h4
      exact ⟨p.cand h, true, ⟨Nat.le_trans (Policy.cand_len p h) hp.len, by simp, fun _ => rfl⟩, rn_bind0 (l := [.bool false]) (out_call h1 (out_else (by simp) (out_call h3 rfl))) (rn_else (by simp) (rn_call (f_candidatesOf hp hh.len hg) rfl)), rn_bind0 (l := [.bool false]) (out_call h2 (out_else (by simp) (out_call h4 rfl))) (rn_else (by simp) (rn_call (f_l14Candidates hp hh.fit hh.len hgh hg) rfl))⟩
end Go.Proofs.YtobighfemobgjaaGreatDoor
namespace Go.Proofs.YtobighfemobgjaaGreatDoor
open Go Go.Own
theorem sum_take_succ {l : List Int} {i : Nat} (hi : i < l.length) : (l.take (i + 1)).sum = (l.take i).sum + l[i] := by
  rw [← List.take_append_getElem hi, List.sum_append]
  simp
theorem sum_bound {l : List Int} {B : Int} (h : ∀ x ∈ l, 0 ≤ x ∧ x ≤ B) : 0 ≤ l.sum ∧ l.sum ≤ l.length * B := by
  induction l with
  | nil => simp
  | cons a l ih =>
    have h1 := h a (by simp)
    have h2 := ih fun x hx => h x (by simp [hx])
    simp only [List.sum_cons, List.length_cons]
    have : ((l.length + 1 : Nat) : Int) * B = l.length * B + B := by rw [Int.natCast_add, Int.add_mul]; simp
    rw [this]; omega
theorem total_loop {l : List Int} (hl : l.length ≤ 12) (hb : ∀ x ∈ l, 0 ≤ x ∧ x ≤ 10000) : loopF (fun l1 =>
      if (decide ((gd l1 1).i < (((nd l).l.length : Nat) : Int))) then
        if (inb (gd l1 1).i (nd l).l.length) then
        ou 0 [(.int (IntKind.wrap .i64 ((gd l1 0).i + (gd (nd l).l (gd l1 1).i.toNat).i))), (.int (IntKind.wrap .i64 ((gd l1 1).i + 1)))]
        else none
      else
        ou 1 [(gd l1 0)]) [(.int 0), (.int 0)] = some (0, [.int l.sum]) := by
  have hsm : l.length ≤ smax := by have : smax = 9223372036854775807 := rfl; omega
  refine loop_for' (fun i (_ : Unit) => [.int (l.take i).sum, .int i]) l.length (fun _ => ()) (t := 0) (o := [.int l.sum]) (by simp) ?_ ?_
  · intro i hi
    have e0 : gd [D.int (l.take i).sum, D.int (i : Int)] 0 = .int (l.take i).sum := rfl
    have e1 : gd [D.int (l.take i).sum, D.int (i : Int)] 1 = .int i := rfl
    have hs := sum_bound (l := l.take i) (B := 10000) fun x hx => hb x (List.mem_of_mem_take hx)
    have hx := hb _ (List.getElem_mem hi)
    have hlt : (l.take i).length ≤ 12 := by simp; omega
    have hw : IntKind.wrap .i64 ((l.take i).sum + l[i]) = (l.take i).sum + l[i] := by rw [wrap_id] <;> omega
    simp only [gd_zero, gd_one, nd, D.l_lst, D.i_int, Int.toNat_natCast, gd_nd hi, wrap_succ hi hsm, hw, List.length_map]
    rw [← sum_take_succ hi]
    exact out_if (decide_eq_true (by omega)) (out_if (inb_nat hi) rfl)
  · rw [List.take_length]
    exact out_else (by simp [nd]) rfl
theorem f_totalOf {l : List Int} (hl : l.length ≤ 12) (hb : ∀ x ∈ l, 0 ≤ x ∧ x ≤ 10000) : e_impl_totalOf.F [nd l] = some (.int l.sum) := by
  rw [q_impl_totalOf]
  exact rn_bind (total_loop hl hb) rfl
theorem f_l12Total {l : List Int} (hl : l.length ≤ 12) (hb : ∀ x ∈ l, 0 ≤ x ∧ x ≤ 10000) : e_spec_l12Total.F [nd l] = some (.int l.sum) := by
  rw [q_spec_l12Total]
  exact rn_bind (total_loop hl hb) rfl
theorem Policy.good_facts {p : Policy} (hg : p.good = true) : 1 ≤ p.ts.length ∧ p.ts.length ≤ 12 ∧ ∀ t ∈ p.ts, 1 ≤ t.weight ∧ t.weight ≤ 50 := by
  simp only [Policy.good, Bool.and_eq_true, inP, decide_eq_true_eq, List.all_eq_true, Target.ok] at hg
  refine ⟨by omega, by omega, fun t ht => ?_⟩
  exact (hg.2.2 t ht).2.2.2
theorem set_nd {zs : List Int} {i : Nat} {x : Int} : (zs.map D.int).set i (.int x) = (zs.set i x).map D.int := by
  rw [List.map_set]
def wt0 (p : Policy) (x : Int) : Int := (p.ts.getD x.toNat noT).weight
theorem sum_set : ∀ {l : List Int} {k : Nat} {x : Int} (hk : k < l.length), (l.set k x).sum = l.sum - l[k] + x
  | a :: l, 0, x, _ => by simp; omega
  | a :: l, k + 1, x, hk => by
    have h := sum_set (l := l) (k := k) (x := x) (by simpa using hk)
    simp only [List.set_cons_succ, List.sum_cons, h, List.getElem_cons_succ]
    omega
theorem idxs_nodup (n : Nat) (q : Nat → Bool) : (idxs n q).Nodup := by
  unfold idxs
  rw [List.Nodup, List.pairwise_map]
  exact (List.Pairwise.filter _ (List.nodup_range (n := n))).imp fun h he => h (Int.ofNat.inj he)
theorem Policy.cand_nodup (p : Policy) (h : Health) : (p.cand h).Nodup := by
  unfold Policy.cand
  split <;> exact idxs_nodup _ _
theorem shares_loop {p : Policy} {l : List Int} (hg : p.good = true) (hl : l.length ≤ p.ts.length) (hm : ∀ x ∈ l, ∃ i : Nat, x = i ∧ i < p.ts.length) (hnd : l.Nodup) : ∃ zs : List Int, zs.length = p.ts.length ∧ (∀ z ∈ zs, 0 ≤ z ∧ z ≤ 10000) ∧ (∀ t : Nat, zs.getD t 0 = if (t : Int) ∈ l then wt0 p t else 0) ∧ zs.sum = (l.map (wt0 p)).sum ∧ loopF (fun l4 =>
          if (decide ((gd l4 1).i < (((nd l).l.length : Nat) : Int))) then
            if (inb (gd l4 1).i (nd l).l.length) then
            if (inb (gd (nd l).l (gd l4 1).i.toNat).i (D.lst (p.ts.map Target.d)).l.length) then
            if (inb (gd (nd l).l (gd l4 1).i.toNat).i (gd l4 0).l.length) then
            ou 0 [(D.lst ((gd l4 0).l.set (gd (nd l).l (gd l4 1).i.toNat).i.toNat ((gd (D.lst (p.ts.map Target.d)).l (gd (nd l).l (gd l4 1).i.toNat).i.toNat).fld 3))), (.int (IntKind.wrap .i64 ((gd l4 1).i + 1)))]
            else none
            else none
            else none
          else
            ou 1 [(gd l4 0)]) [(D.lst (List.replicate (((D.lst (p.ts.map Target.d)).l.length : Nat) : Int).toNat (.int 0))), (.int 0)] = some (0, [nd zs]) := by
  obtain ⟨g1, g2, g3⟩ := Policy.good_facts hg
  have hsm : l.length ≤ smax := by have : smax = 9223372036854775807 := rfl; omega
  obtain ⟨zs, ⟨hz, hb, hv, hs⟩, hloop⟩ := loop_inv (f := fun l4 =>
          if (decide ((gd l4 1).i < (((nd l).l.length : Nat) : Int))) then
            if (inb (gd l4 1).i (nd l).l.length) then
            if (inb (gd (nd l).l (gd l4 1).i.toNat).i (D.lst (p.ts.map Target.d)).l.length) then
            if (inb (gd (nd l).l (gd l4 1).i.toNat).i (gd l4 0).l.length) then
            ou 0 [(D.lst ((gd l4 0).l.set (gd (nd l).l (gd l4 1).i.toNat).i.toNat ((gd (D.lst (p.ts.map Target.d)).l (gd (nd l).l (gd l4 1).i.toNat).i.toNat).fld 3))), (.int (IntKind.wrap .i64 ((gd l4 1).i + 1)))]
            else none
            else none
            else none
          else
            ou 1 [(gd l4 0)]) (l := [(D.lst (List.replicate (((D.lst (p.ts.map Target.d)).l.length : Nat) : Int).toNat (.int 0))), (.int 0)]) (fun i (zs : List Int) => [nd zs, .int i]) (fun i zs => zs.length = p.ts.length ∧ (∀ z ∈ zs, 0 ≤ z ∧ z ≤ 10000) ∧ (∀ t : Nat, zs.getD t 0 = if (t : Int) ∈ l.take i then wt0 p t else 0) ∧ zs.sum = ((l.take i).map (wt0 p)).sum) l.length (t := 0) (out := fun zs => [nd zs]) (List.replicate p.ts.length 0) (by simp [nd]) ⟨by simp, by
            intro z hz; rw [List.eq_of_mem_replicate hz]; decide, by
            intro t
            rw [List.getD_eq_getElem?_getD, List.getElem?_replicate]
            split <;> simp, by simp⟩ (by
    rintro i zs hi ⟨hz, hb, hv, hs⟩
    obtain ⟨k, hk, hkl⟩ := hm _ (List.getElem_mem hi)
    have hw := g3 _ (List.getElem_mem hkl)
    have hwt : wt0 p l[i] = p.ts[k].weight := by rw [hk]; simp [wt0, hkl]
    have htk : l.take (i + 1) = l.take i ++ [l[i]] := by rw [List.take_add_one]; simp [hi]
    have hnm : l[i] ∉ l.take i := by
      intro hm
      obtain ⟨j, hj, he⟩ := List.getElem_of_mem hm
      rw [List.getElem_take] at he
      simp only [List.length_take] at hj
      exact absurd ((List.getElem_inj hnd).1 he) (by omega)
    refine ⟨zs.set k p.ts[k].weight, ?_, by simpa using hz, ?_, ?_, ?_⟩
    · have e0 : gd [nd zs, D.int (i : Int)] 0 = nd zs := rfl
      have e1 : gd [nd zs, D.int (i : Int)] 1 = .int i := rfl
      have ef : p.ts[k].d.fld 3 = .int p.ts[k].weight := rfl
      simp only [gd_zero, gd_one, nd, D.l_lst, D.i_int, Int.toNat_natCast, gd_nd hi, hk, gd_t hkl, ef, wrap_succ hi hsm, set_nd, List.length_map]
      refine out_if (decide_eq_true (by omega)) (out_if (inb_nat hi) (out_if (inb_nat hkl) (out_if (inb_nat (by omega)) rfl)))
    · intro z hzm
      rcases List.mem_or_eq_of_mem_set hzm with h | h
      · exact hb z h
      · subst h; omega
    · intro t
      have hzk : k < zs.length := by omega
      rw [List.getD_eq_getElem?_getD, List.getElem?_set, htk]
      by_cases h : k = t
      · subst h
        rw [if_pos rfl, if_pos hzk, if_pos (by simp [hk]), ← hk, hwt]; rfl
      · rw [if_neg h, ← List.getD_eq_getElem?_getD, hv t]
        have : ((t : Int) ∈ l.take i ++ [l[i]]) ↔ ((t : Int) ∈ l.take i) := by
          rw [List.mem_append, List.mem_singleton, hk]
          constructor
          · rintro (h1 | h1)
            · exact h1
            · omega
          · exact .inl
        simp only [this]
    · have hzk : k < zs.length := by omega
      have h0 : zs[k] = 0 := by
        have := hv k
        rw [if_neg (by rw [← hk]; exact hnm)] at this
        simpa [hzk] using this
      rw [sum_set hzk, h0, hs, htk, List.map_append, List.sum_append, List.map_singleton, hwt]
      simp) (by
    rintro zs _
    exact out_else (by simp [nd]) rfl)
  rw [List.take_length] at hv hs
  exact ⟨zs, hz, hb, hv, hs, hloop⟩
theorem makeOk8 {n : Nat} (h : n ≤ 12) : makeOk 8 (n : Int) = true := by
  have : smax = 9223372036854775807 := rfl
  simp only [makeOk, Int.toNat_natCast, this, Bool.and_eq_true, decide_eq_true_eq]
  omega
theorem f_SharesOf {p : Policy} {h : Health} (hp : p.In lim) (hh : h.In lim) : ∃ (l : List Int) (n : Int) (b : Bool), l.length ≤ lim ∧ ((b = false ∧ n = 0 ∧ (p.good && h.good) = false) ∨ (b = true ∧ p.good = true ∧ h.good = true ∧ l.length = p.ts.length ∧ (∀ t : Nat, l.getD t 0 = if (t : Int) ∈ p.cand h then wt0 p t else 0) ∧ n = ((p.cand h).map (wt0 p)).sum)) ∧ e_impl_SharesOf.F [p.d, h.d] = some (.pair (nd l) (.pair (.int n) (.pair (.bool b) .unit))) ∧ e_spec_SharesOf.F [p.d, h.d] = some (.pair (nd l) (.pair (.int n) (.pair (.bool b) .unit))) := by
  have f1 : p.d.fld 1 = .lst (p.ts.map Target.d) := rfl
  have h1 := f_implPolicy hp
  have h2 := f_specPolicy hp
  have h3 := f_implGoodHealth h (Nat.le_trans hh.len lim_smax)
  have h4 := f_specGoodHealth h hh.fit
  rw [q_impl_SharesOf, q_spec_SharesOf, f1]
  cases hg : p.good with
  | false =>
    rw [hg] at h1 h2
    exact ⟨[], 0, false, by simp, .inl ⟨rfl, rfl, by simp [hg]⟩, rn_bind0 (l := [.bool true]) (out_call h1 (out_if rfl rfl)) (rn_if rfl rfl), rn_bind0 (l := [.bool true]) (out_call h2 (out_if rfl rfl)) (rn_if rfl rfl)⟩
  | true =>
    rw [hg] at h1 h2
    cases hgh : h.good with
    | false =>
      rw [hgh] at h3 h4
      exact ⟨[], 0, false, by simp, .inl ⟨rfl, rfl, by simp [hgh]⟩, rn_bind0 (l := [.bool true]) (out_call h1 (out_else (by simp) (out_call h3 rfl))) (rn_if rfl rfl), rn_bind0 (l := [.bool true]) (out_call h2 (out_else (by simp) (out_call h4 rfl))) (rn_if rfl rfl)⟩
    | true =>
      rw [hgh] at h3 h4
      obtain ⟨g1, g2, g3⟩ := Policy.good_facts hg
      obtain ⟨zs, hz, hb, hv, hs, hloop⟩ := shares_loop (l := p.cand h) hg (Policy.cand_len p h) (fun x hx => Policy.cand_mem hx) (Policy.cand_nodup p h)
      have hmk : makeOk 8 (((D.lst (p.ts.map Target.d)).l.length : Nat) : Int) = true := makeOk8 (by simpa using g2)
      refine ⟨zs, zs.sum, true, by have : lim = 1048576 := rfl; omega, .inr ⟨rfl, rfl, rfl, hz, hv, hs⟩, rn_bind0 (l := [.bool false]) (out_call h1 (out_else (by simp) (out_call h3 rfl))) (rn_else (by simp) (rn_if hmk (rn_call (f_candidatesOf hp hh.len hg) (rn_bind hloop ?_)))), rn_bind0 (l := [.bool false]) (out_call h2 (out_else (by simp) (out_call h4 rfl))) (rn_else (by simp) (rn_if hmk (rn_call (f_l14Candidates hp hh.fit hh.len hgh hg) (rn_bind hloop ?_))))⟩
      · exact rn_call (f_totalOf (by omega) hb) rfl
      · exact rn_call (f_l12Total (by omega) hb) rfl
end Go.Proofs.YtobighfemobgjaaGreatDoor
namespace Go.Proofs.YtobighfemobgjaaGreatDoor
open Go Go.Own
def fst (q : Nat → Bool) : Nat → Int
  | 0 => -1
  | i + 1 => if fst q i < 0 then (if q i then (i : Int) else -1) else fst q i
theorem fst_facts (q : Nat → Bool) : ∀ n, (fst q n = -1 ∧ ∀ i, i < n → q i = false) ∨ ∃ k : Nat, fst q n = k ∧ k < n ∧ q k = true ∧ ∀ i, i < k → q i = false
  | 0 => .inl ⟨rfl, fun i hi => by omega⟩
  | n + 1 => by
    rcases fst_facts q n with ⟨h1, h2⟩ | ⟨k, h1, h2, h3, h4⟩
    · cases hq : q n with
      | false =>
        refine .inl ⟨by simp [fst, h1, hq], fun i hi => ?_⟩
        by_cases h : i = n
        · subst h; exact hq
        · exact h2 i (by omega)
      | true => exact .inr ⟨n, by simp [fst, h1, hq], by omega, hq, h2⟩
    · refine .inr ⟨k, ?_, by omega, h3, h4⟩
      have : ¬ (fst q n < 0) := by rw [h1]; omega
      rw [fst, if_neg this, h1]
theorem fst_none {q : Nat → Bool} {n : Nat} (h : ∀ i, i < n → q i = false) : fst q n = -1 := by
  rcases fst_facts q n with ⟨h1, _⟩ | ⟨k, _, h2, h3, _⟩
  · exact h1
  · rw [h k h2] at h3; cases h3
theorem fst_some {q : Nat → Bool} {n k : Nat} (hk : k < n) (h : q k = true) (hn : ∀ i, i < k → q i = false) : fst q n = k := by
  rcases fst_facts q n with ⟨_, h2⟩ | ⟨j, h1, h2, h3, h4⟩
  · rw [h2 k hk] at h; cases h
  · have : j = k := by
      rcases Nat.lt_trichotomy j k with hjk | hjk | hjk
      · rw [hn j hjk] at h3; cases h3
      · exact hjk
      · rw [h4 k hjk] at h; cases h
    subst this; exact h1
def bd (l : List Bool) : D := .lst (l.map .bool)
def cold (c : Int × Int) : D := .pair (.int c.1) (.pair (.int c.2) .unit)
def cd (l : List (Int × Int)) : D := .lst (l.map cold)
theorem gd_bd {l : List Bool} {i : Nat} (h : i < l.length) : gd (l.map D.bool) i = .bool l[i] := by
  rw [gd_lt (by simpa using h)]; simp
theorem gd_cd {l : List (Int × Int)} {i : Nat} (h : i < l.length) : gd (l.map cold) i = cold l[i] := by
  rw [gd_lt (by simpa using h)]; simp
def lowQ (T : Int) (left : List Int) (done : List Bool) (i : Nat) : Bool := !(done.getD i false) && decide (left.getD i 0 < T)
def highQ (T : Int) (left : List Int) (done : List Bool) (i : Nat) : Bool := !(done.getD i false) && decide (left.getD i 0 > T)
def specScan (T : D) (left done : D) : List D → Outc := fun l8 =>
              if (decide ((gd l8 2).i < (left.l.length : Int))) then
                (if (inb (gd l8 2).i done.l.length) then
                  if (gd done.l (gd l8 2).i.toNat).b then
                    ou 0 [(gd l8 0), (gd l8 1)]
                  else
                    ((if (inb (gd l8 2).i left.l.length) then
                        if (decide ((gd left.l (gd l8 2).i.toNat).i < T.i)) then
                          ou 0 [(.bool (decide ((gd l8 0).i < 0)))]
                        else
                          ou 0 [(.bool false)]
                        else none).bind fun o11 =>
                      sel2 o11.1 (if (gd o11.2 0).b then
                          ou 0 [(gd l8 2)]
                        else
                          ou 0 [(gd l8 0)]) fun _ => none).bind fun o11 =>
                    sel2 o11.1 ((if (inb (gd l8 2).i left.l.length) then
                        if (decide ((gd left.l (gd l8 2).i.toNat).i > T.i)) then
                          ou 0 [(.bool (decide ((gd l8 1).i < 0)))]
                        else
                          ou 0 [(.bool false)]
                        else none).bind fun o12 =>
                      sel2 o12.1 (if (gd o12.2 0).b then
                          ou 0 [(gd o11.2 0), (gd l8 2)]
                        else
                          ou 0 [(gd o11.2 0), (gd l8 1)]) fun _ => none) fun _ => none
                  else none).bind fun o11 =>
                sel2 o11.1 (ou 0 [(gd o11.2 0), (gd o11.2 1), (.int (IntKind.wrap .i64 ((gd l8 2).i + 1)))]) fun _ => none
              else
                ou 1 [(gd l8 0), (gd l8 1)]
theorem fst_neg {q : Nat → Bool} {n : Nat} (h : fst q n < 0) : fst q n = -1 := by
  rcases fst_facts q n with ⟨h1, _⟩ | ⟨k, h1, _⟩
  · exact h1
  · rw [h1] at h; omega
theorem half1 {i len : Nat} (hi : i < len) {A : Int} (hA : A < 0 → A = -1) (c : Bool) : ((if (inb (i : Int) len) then
                        if c then
                          ou 0 [(.bool (decide (A < 0)))]
                        else
                          ou 0 [(.bool false)]
                        else none).bind fun o11 : Nat × List D =>
                      sel2 o11.1 (if (gd o11.2 0).b then
                          ou 0 [.int (i : Int)]
                        else
                          ou 0 [.int A]) fun _ => none : Outc) = some (0, [.int (if A < 0 then (if c then (i : Int) else -1) else A)]) := by
  rw [if_pos (inb_nat hi)]
  by_cases h : A < 0
  · have := hA h
    subst this
    cases c <;> simp [ou, sel2, gd]
  · cases c <;> simp [ou, sel2, gd, h]
theorem half2 {i len : Nat} (hi : i < len) {B : Int} (hB : B < 0 → B = -1) (c : Bool) (x : D) : ((if (inb (i : Int) len) then
                        if c then
                          ou 0 [(.bool (decide (B < 0)))]
                        else
                          ou 0 [(.bool false)]
                        else none).bind fun o11 : Nat × List D =>
                      sel2 o11.1 (if (gd o11.2 0).b then
                          ou 0 [x, .int (i : Int)]
                        else
                          ou 0 [x, .int B]) fun _ => none : Outc) = some (0, [x, .int (if B < 0 then (if c then (i : Int) else -1) else B)]) := by
  rw [if_pos (inb_nat hi)]
  by_cases h : B < 0
  · have := hB h
    subst this
    cases c <;> simp [ou, sel2, gd]
  · cases c <;> simp [ou, sel2, gd, h]
theorem specScan_is {T : Int} {left : List Int} {done : List Bool} (hd : done.length = left.length) (hl : left.length ≤ 12) :
    loopF (specScan (.int T) (nd left) (bd done)) [.int (-1), .int (-1), .int 0] = some (0, [.int (fst (lowQ T left done) left.length), .int (fst (highQ T left done) left.length)]) := by
  have hsm : left.length ≤ smax := by have : smax = 9223372036854775807 := rfl; omega
  refine loop_for' (fun i (_ : Unit) => [.int (fst (lowQ T left done) i), .int (fst (highQ T left done) i), .int i]) left.length (fun _ => ()) (t := 0) (o := [.int (fst (lowQ T left done) left.length), .int (fst (highQ T left done) left.length)]) rfl ?_ ?_
  · intro i hi
    have hid : i < done.length := by omega
    have q1 : lowQ T left done i = (!done[i] && decide (left[i] < T)) := by simp [lowQ, hi, hid]
    have q2 : highQ T left done i = (!done[i] && decide (left[i] > T)) := by simp [highQ, hi, hid]
    unfold specScan
    simp only [gd_zero, gd_one, gd_two, nd, bd, D.l_lst, D.i_int, Int.toNat_natCast, gd_nd hi, gd_bd hid, List.length_map, wrap_succ hi hsm, fst, q1, q2]
    have hA := fun h => fst_neg (q := lowQ T left done) (n := i) h
    have hB := fun h => fst_neg (q := highQ T left done) (n := i) h
    generalize fst (lowQ T left done) i = A at hA
    generalize fst (highQ T left done) i = B at hB
    refine out_if (decide_eq_true (by omega)) (out_bind (r := (0, [.int (if A < 0 then (if (!done[i] && decide (left[i] < T)) = true then (i : Int) else -1) else A), .int (if B < 0 then (if (!done[i] && decide (left[i] > T)) = true then (i : Int) else -1) else B)])) (out_if (inb_nat hid) ?_) rfl)
    cases hdn : done[i] with
    | true =>
      refine out_if rfl ?_
      by_cases h1 : A < 0 <;> by_cases h2 : B < 0
      · rw [hA h1, hB h2]; rfl
      · rw [hA h1]; simp [h2]
      · rw [hB h2]; simp [h1]
      · simp [h1, h2]
    | false =>
      refine out_else (by simp) (out_bind (half1 hi hA _) ?_)
      exact half2 hi hB _ _
  · unfold specScan
    exact out_else (by simp [nd]) rfl
end Go.Proofs.YtobighfemobgjaaGreatDoor
namespace Go.Proofs.YtobighfemobgjaaGreatDoor
open Go Go.Own
def sumN (f : Nat → Int) : Nat → Int
  | 0 => 0
  | i + 1 => sumN f i + f i
theorem sumN_one {f g : Nat → Int} {a : Nat} (h : ∀ i, i ≠ a → g i = f i) : ∀ n, sumN g n = sumN f n + if a < n then g a - f a else 0
  | 0 => by simp [sumN]
  | n + 1 => by
    rw [sumN, sumN, sumN_one h n]
    by_cases hn : n = a
    · subst hn
      rw [if_neg (Nat.lt_irrefl _), if_pos (Nat.lt_succ_self _)]; omega
    · rw [h n hn]
      by_cases ha : a < n
      · rw [if_pos ha, if_pos (by omega)]; omega
      · rw [if_neg ha, if_neg (by omega)]; omega
theorem sumN_neg {f : Nat → Int} {n k : Nat} (h : ∀ i, i < n → f i ≤ 0) (hk : k < n) (hf : f k < 0) : sumN f n < 0 := by
  have le : ∀ m, m ≤ n → sumN f m ≤ 0 := by
    intro m
    induction m with
    | zero => intro _; exact Int.le_refl _
    | succ m ih => intro hm; have h1 := ih (by omega); have h2 := h m (by omega); rw [sumN]; omega
  have key : ∀ m, m ≤ n → k < m → sumN f m < 0 := by
    intro m
    induction m with
    | zero => intro _ h; omega
    | succ m ih =>
      intro hm hkm
      rw [sumN]
      by_cases hk' : k = m
      · subst hk'; have := le k (by omega); omega
      · have := ih (by omega) (by omega); have := h m (by omega); omega
  exact key n (Nat.le_refl _) hk
theorem sumN_congr {f g : Nat → Int} : ∀ n, (∀ i, i < n → f i = g i) → sumN f n = sumN g n
  | 0, _ => rfl
  | n + 1, h => by rw [sumN, sumN, sumN_congr n fun i hi => h i (by omega), h n (by omega)]
def exc (T : Int) (left : List Int) (done : List Bool) (i : Nat) : Int := if done.getD i false then 0 else left.getD i 0 - T
def colF (T : Int) (cols : List (Int × Int)) (k i : Nat) : Int := (if i = k then (cols.getD i (0, 0)).1 else 0) + (if (cols.getD i (0, 0)).2 = (k : Int) then T - (cols.getD i (0, 0)).1 else 0)
def colS (T : Int) (cols : List (Int × Int)) (n k : Nat) : Int := sumN (colF T cols k) n
theorem sumN_nonneg {f : Nat → Int} : ∀ {n : Nat}, (∀ i, i < n → 0 ≤ f i) → 0 ≤ sumN f n
  | 0, _ => by simp [sumN]
  | n + 1, h => by have h1 := sumN_nonneg (n := n) fun i hi => h i (by omega); have h2 := h n (by omega); rw [sumN]; omega
theorem sumN_zero {f : Nat → Int} : ∀ {n : Nat}, (∀ i, i < n → 0 ≤ f i) → sumN f n = 0 → ∀ i, i < n → f i = 0
  | 0, _, _ => fun i hi => by omega
  | n + 1, h, h0 => by
    have h1 := sumN_nonneg (n := n) fun i hi => h i (by omega)
    have h2 := h n (by omega)
    rw [sumN] at h0
    intro i hi
    by_cases he : i = n
    · subst he; omega
    · exact sumN_zero (n := n) (fun i hi => h i (by omega)) (by omega) i (by omega)
structure Al (T : Int) (n : Nat) (left : List Int) (done : List Bool) (cols : List (Int × Int)) (W : Nat → Int) : Prop where
  ll : left.length = n
  dl : done.length = n
  cl : cols.length = n
  n12 : n ≤ 12
  t0 : 0 ≤ T ∧ T ≤ 10000
  lo : ∀ i, i < n → 0 ≤ left.getD i 0 ∧ left.getD i 0 ≤ 10000
  dn : ∀ i, i < n → done.getD i false = true → left.getD i 0 < T
  co : ∀ c ∈ cols, (0 ≤ c.1 ∧ c.1 ≤ T) ∧ 0 ≤ c.2 ∧ c.2 < n
  sm : sumN (exc T left done) n = 0
  fr : ∀ i, i < n → done.getD i false = false → cols.getD i (0, 0) = (T, (i : Int))
  cs : ∀ k, k < n → colS T cols n k = if done.getD k false then W k else W k + T - left.getD k 0
theorem getD_set {α : Type} {l : List α} {i j : Nat} {x d : α} (hi : i < l.length) : (l.set i x).getD j d = if j = i then x else l.getD j d := by
  rw [List.getD_eq_getElem?_getD, List.getD_eq_getElem?_getD]
  by_cases h : j = i
  · subst h; simp [hi]
  · rw [if_neg h, List.getElem?_set_ne (fun e => h e.symm)]
theorem Al.high {T n left done cols W} (h : Al T n left done cols W) {k : Nat} (hk : k < n) (hq : lowQ T left done k = true) : ∃ j : Nat, fst (highQ T left done) n = j ∧ j < n ∧ highQ T left done j = true ∧ ∀ i, i < j → highQ T left done i = false := by
  rcases fst_facts (highQ T left done) n with ⟨_, h2⟩ | ⟨j, h1, h2, h3, h4⟩
  · simp only [lowQ, Bool.and_eq_true, Bool.not_eq_true', decide_eq_true_eq] at hq
    have := sumN_neg (f := exc T left done) (n := n) (k := k) (fun i hi => by
      have := h2 i hi
      unfold exc
      cases hd : done.getD i false with
      | true => simp
      | false =>
        simp only [highQ, hd, Bool.not_false, Bool.true_and, decide_eq_false_iff_not] at this
        simp only [Bool.false_eq_true, if_false]
        omega) hk (by unfold exc; rw [hq.1]; simp only [Bool.false_eq_true, if_false]; omega)
    rw [h.sm] at this
    omega
  · exact ⟨j, h1, h2, h3, h4⟩
theorem Al.fin {T n left done cols W} (h : Al T n left done cols W) (hno : ∀ i, i < n → lowQ T left done i = false) : ∀ k, k < n → colS T cols n k = W k := by
  intro k hk
  have hx : ∀ i, i < n → 0 ≤ exc T left done i := by
    intro i hi
    have := hno i hi
    unfold exc
    cases hd : done.getD i false with
    | true => simp
    | false =>
      simp only [lowQ, hd, Bool.not_false, Bool.true_and, decide_eq_false_iff_not] at this
      simp only [Bool.false_eq_true, if_false]
      omega
  have hz := sumN_zero hx h.sm k hk
  have hc := h.cs k hk
  cases hd : done.getD k false with
  | true => rw [hd] at hc; simpa using hc
  | false =>
    rw [hd] at hc
    unfold exc at hz
    rw [hd] at hz
    simp only [Bool.false_eq_true, if_false] at hz hc
    omega
theorem Al.next {T n left done cols W} (h : Al T n left done cols W) {k j : Nat} (hk : k < n) (hq : lowQ T left done k = true) (hj : j < n) (hqj : highQ T left done j = true) :
    Al T n (left.set j (left.getD j 0 - (T - left.getD k 0))) (done.set k true) (cols.set k (left.getD k 0, (j : Int))) W := by
  simp only [lowQ, highQ, Bool.and_eq_true, Bool.not_eq_true', decide_eq_true_eq] at hq hqj
  have hne : k ≠ j := by intro e; subst e; omega
  have hkl := h.lo k hk
  have hjl := h.lo j hj
  have hlj : j < left.length := by rw [h.ll]; exact hj
  have hdk : k < done.length := by rw [h.dl]; exact hk
  refine ⟨by simp [h.ll], by simp [h.dl], by simp [h.cl], h.n12, h.t0, ?_, ?_, ?_, ?_, ?_, ?_⟩
  · intro i hi
    rw [getD_set hlj]
    by_cases hij : i = j
    · rw [if_pos hij]; omega
    · rw [if_neg hij]; exact h.lo i hi
  · intro i hi hd
    rw [getD_set hdk] at hd
    rw [getD_set hlj]
    by_cases hik : i = k
    · subst hik; rw [if_neg hne]; exact hq.2
    · rw [if_neg hik] at hd
      by_cases hij : i = j
      · subst hij; rw [hqj.1] at hd; cases hd
      · rw [if_neg hij]; exact h.dn i hi hd
  · intro c hc
    rcases List.mem_or_eq_of_mem_set hc with hc | hc
    · exact h.co c hc
    · subst hc
      exact ⟨⟨hkl.1, by show left.getD k 0 ≤ T; omega⟩, by show 0 ≤ (j : Int); omega, by show (j : Int) < n; omega⟩
  · have e1 := sumN_one (f := exc T left done) (g := exc T left (done.set k true)) (a := k) (fun i hi => by unfold exc; rw [getD_set hdk, if_neg hi]) n
    have e2 := sumN_one (f := exc T left (done.set k true)) (g := exc T (left.set j (left.getD j 0 - (T - left.getD k 0))) (done.set k true)) (a := j) (fun i hi => by unfold exc; rw [getD_set hlj, if_neg hi]) n
    rw [e2, e1, h.sm, if_pos hk, if_pos hj]
    have hdj : (done.set k true).getD j false = false := by
      rw [getD_set hdk, if_neg (fun e => hne e.symm)]; exact hqj.1
    have d1 : exc T left (done.set k true) k = 0 := by unfold exc; rw [getD_set hdk, if_pos rfl]; rfl
    have d2 : exc T left done k = left.getD k 0 - T := by unfold exc; rw [hq.1]; rfl
    have d3 : exc T (left.set j (left.getD j 0 - (T - left.getD k 0))) (done.set k true) j = left.getD j 0 - (T - left.getD k 0) - T := by
      unfold exc
      rw [hdj, getD_set hlj, if_pos rfl]; rfl
    have d4 : exc T left (done.set k true) j = left.getD j 0 - T := by
      unfold exc
      rw [hdj]; rfl
    rw [d1, d2, d3, d4]; omega
  · intro i hi hd
    rw [getD_set hdk] at hd
    by_cases hik : i = k
    · rw [if_pos hik] at hd; cases hd
    · rw [if_neg hik] at hd
      rw [getD_set (by rw [h.cl]; exact hk), if_neg hik]
      exact h.fr i hi hd
  · intro q hq'
    have hkc : k < cols.length := by rw [h.cl]; exact hk
    have e1 := sumN_one (f := colF T cols q) (g := colF T (cols.set k (left.getD k 0, (j : Int))) q) (a := k) (fun i hi => by unfold colF; rw [getD_set hkc, if_neg hi]) n
    have f1 : colF T cols q k = if k = q then T else 0 := by
      unfold colF
      rw [h.fr k hk hq.1]
      simp
    have f2 : colF T (cols.set k (left.getD k 0, (j : Int))) q k = (if k = q then left.getD k 0 else 0) + (if j = q then T - left.getD k 0 else 0) := by
      unfold colF
      rw [getD_set hkc, if_pos rfl]
      simp only [Int.natCast_inj]
    have hc := h.cs q hq'
    unfold colS at hc ⊢
    rw [e1, hc, if_pos hk, f1, f2, getD_set hdk, getD_set hlj]
    by_cases h1 : q = k
    · subst h1
      rw [hq.1]
      simp only [if_true, Bool.false_eq_true, if_false, if_neg (Ne.symm hne)]
      omega
    · rw [if_neg h1, if_neg (Ne.symm h1), if_neg (Ne.symm h1)]
      by_cases h2 : q = j
      · subst h2
        rw [hqj.1]
        simp only [if_true, Bool.false_eq_true, if_false]
        omega
      · rw [if_neg h2, if_neg (Ne.symm h2)]
        omega
theorem count_set_true {l : List Bool} {k : Nat} (hk : k < l.length) (h : l.getD k false = false) : (l.set k true).count false + 1 = l.count false := by
  have h' : l[k] = false := by simpa [hk] using h
  have hm : false ∈ l := h' ▸ List.getElem_mem hk
  rw [List.count_set hk]
  have : 0 < l.count false := List.count_pos_iff.2 hm
  simp [h']; omega
end Go.Proofs.YtobighfemobgjaaGreatDoor
namespace Go.Proofs.YtobighfemobgjaaGreatDoor
open Go Go.Own
theorem sumN_add {f : Nat → Int} (a : Nat) : ∀ b, sumN f (a + b) = sumN f a + sumN (fun i => f (a + i)) b
  | 0 => by simp [sumN]
  | b + 1 => by rw [← Nat.add_assoc, sumN, sumN_add a b, sumN]; omega
theorem sumN_const (A : Int) : ∀ m : Nat, sumN (fun _ => A) m = m * A
  | 0 => by simp [sumN]
  | m + 1 => by rw [sumN, sumN_const A m, Int.natCast_add, Int.add_mul]; simp
theorem sumN_row {c m : Nat} (h : c ≤ m) (A B : Int) : sumN (fun r => if r < c then A else B) m = c * A + ((m : Int) - c) * B := by
  obtain ⟨e, rfl⟩ : ∃ e, m = c + e := ⟨m - c, by omega⟩
  rw [sumN_add, sumN_congr (g := fun _ => A) c (fun i hi => if_pos hi), sumN_congr (g := fun _ => B) e (fun i hi => if_neg (by omega)), sumN_const, sumN_const]
  congr 2
  omega
theorem sumN_rows {f : Nat → Int} {t : Nat} : ∀ m : Nat, sumN f (m * t) = sumN (fun i => sumN (fun r => f (i * t + r)) t) m
  | 0 => by simp [sumN]
  | m + 1 => by rw [Nat.add_mul, Nat.one_mul, sumN_add, sumN_rows m, sumN]
def pk (T : Int) (cols : List (Int × Int)) (d : Int) : Nat :=
  if d.tmod T < (cols.getD (d.tdiv T).toNat (0, 0)).1 then (d.tdiv T).toNat else (cols.getD (d.tdiv T).toNat (0, 0)).2.toNat
theorem pk_row {t : Nat} (ht : 0 < t) (cols : List (Int × Int)) {i r : Nat} (hr : r < t) : pk t cols ((i * t + r : Nat) : Int) = if (r : Int) < (cols.getD i (0, 0)).1 then i else (cols.getD i (0, 0)).2.toNat := by
  have e1 : ((i * t + r : Nat) : Int).tdiv t = i := by
    rw [Int.tdiv_eq_ediv_of_nonneg (by omega), ← Int.natCast_ediv, Nat.mul_comm, Nat.mul_add_div ht, Nat.div_eq_of_lt hr]; simp
  have e2 : ((i * t + r : Nat) : Int).tmod t = r := by
    rw [Int.tmod_eq_emod_of_nonneg (by omega), ← Int.natCast_emod, Nat.mul_comm, Nat.mul_add_mod, Nat.mod_eq_of_lt hr]
  unfold pk
  rw [e1, e2]
  simp
theorem picks {t n : Nat} (ht : 0 < t) {cols : List (Int × Int)} (hn : cols.length = n) (hc : ∀ c ∈ cols, (0 ≤ c.1 ∧ c.1 ≤ (t : Int)) ∧ 0 ≤ c.2 ∧ c.2 < (n : Int)) (q : Nat → Bool) (k : Nat) (hq : ∀ i, i < n → (q i = true ↔ i = k)) :
    sumN (fun x => if q (pk t cols (x : Int)) = true then 1 else 0) (n * t) = colS t cols n k := by
  rw [sumN_rows]
  refine sumN_congr _ fun i hi => ?_
  have hcl : i < cols.length := by omega
  have hci := hc _ (List.getElem_mem hcl)
  have hgi : cols.getD i (0, 0) = cols[i] := by simp [hcl]
  obtain ⟨c, hcc⟩ := Int.eq_ofNat_of_zero_le hci.1.1
  obtain ⟨a, haa⟩ := Int.eq_ofNat_of_zero_le hci.2.1
  have hrow : sumN (fun r => if q (pk t cols ((i * t + r : Nat) : Int)) = true then (1 : Int) else 0) t = sumN (fun r => if r < c then (if q i = true then 1 else 0) else (if q a = true then 1 else 0)) t := by
    refine sumN_congr _ fun r hr => ?_
    rw [pk_row ht cols hr, hgi, hcc, haa, Int.toNat_natCast]
    by_cases h : r < c
    · rw [if_pos (show (r : Int) < (c : Int) by omega), if_pos h]
    · rw [if_neg (show ¬ (r : Int) < (c : Int) by omega), if_neg h]
  rw [hrow, sumN_row (by omega)]
  unfold colF
  rw [hgi, hcc, haa]
  have h1 : (if q i = true then (1 : Int) else 0) = if i = k then 1 else 0 := by
    by_cases h : i = k
    · rw [if_pos h, if_pos ((hq i hi).2 h)]
    · rw [if_neg h, if_neg fun hh => h ((hq i hi).1 hh)]
  have h2 : (if q a = true then (1 : Int) else 0) = if (a : Int) = (k : Int) then 1 else 0 := by
    have ha : a < n := by omega
    by_cases h : a = k
    · rw [if_pos ((hq a ha).2 h), if_pos (show (a : Int) = (k : Int) by rw [h])]
    · rw [if_neg fun hh => h ((hq a ha).1 hh), if_neg (show ¬ (a : Int) = (k : Int) from fun hh => h (Int.ofNat.inj hh))]
  rw [h1, h2]
  split <;> split <;> simp
theorem picks_none {t n : Nat} (ht : 0 < t) {cols : List (Int × Int)} (hn : cols.length = n) (hc : ∀ c ∈ cols, (0 ≤ c.1 ∧ c.1 ≤ (t : Int)) ∧ 0 ≤ c.2 ∧ c.2 < (n : Int)) (q : Nat → Bool) (hq : ∀ i, i < n → q i = false) :
    sumN (fun x => if q (pk t cols (x : Int)) = true then 1 else 0) (n * t) = 0 := by
  rw [sumN_rows, sumN_congr (g := fun _ => 0) n, sumN_const]
  · simp
  intro i hi
  have hcl : i < cols.length := by omega
  have hci := hc _ (List.getElem_mem hcl)
  have hgi : cols.getD i (0, 0) = cols[i] := by simp [hcl]
  rw [sumN_congr (g := fun _ => 0) t, sumN_const]
  · simp
  intro r hr
  rw [pk_row ht cols hr, hgi]
  by_cases h : (r : Int) < cols[i].1
  · rw [if_pos h, hq i hi]; rfl
  · rw [if_neg h, hq _ (by omega)]; rfl
theorem pk_lt {t n : Nat} (ht : 0 < t) {cols : List (Int × Int)} (hn : cols.length = n) (hc : ∀ c ∈ cols, (0 ≤ c.1 ∧ c.1 ≤ (t : Int)) ∧ 0 ≤ c.2 ∧ c.2 < (n : Int)) {d : Nat} (hd : d < n * t) : pk t cols (d : Int) < n := by
  have e : d = d / t * t + d % t := by rw [Nat.mul_comm]; exact (Nat.div_add_mod d t).symm
  have hr : d % t < t := Nat.mod_lt _ ht
  have hi : d / t < n := (Nat.div_lt_iff_lt_mul ht).2 hd
  rw [e, pk_row ht cols hr]
  have hcl : d / t < cols.length := by omega
  have hci := hc _ (List.getElem_mem hcl)
  have hgi : cols.getD (d / t) (0, 0) = cols[d / t] := by simp [hcl]
  rw [hgi]
  split
  · exact hi
  · omega
end Go.Proofs.YtobighfemobgjaaGreatDoor
