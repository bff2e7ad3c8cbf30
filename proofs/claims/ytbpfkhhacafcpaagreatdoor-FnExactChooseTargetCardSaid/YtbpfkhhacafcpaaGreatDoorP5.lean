/- What the functions compute, in plain words. -/
import Derived.Test.YtbpfkhhacafcpaaGreatDoorP4
set_option linter.unusedSectionVars false
set_option linter.unusedVariables false
set_option linter.unusedSimpArgs false
namespace Go.Proofs.YtbpfkhhacafcpaaGreatDoor
open Go Go.Own
theorem sum_take_succ {l : List Int} {i : Nat} (hi : i < l.length) : (l.take (i + 1)).sum = (l.take i).sum + l[i] := by
  rw [← List.take_append_getElem hi, List.sum_append]
  simp
theorem sum_bound {l : List Int} {B : Int} (h : ∀ x ∈ l, 0 ≤ x ∧ x ≤ B) : 0 ≤ l.sum ∧ l.sum ≤ l.length * B := by
  induction l with
  | nil => simp
  | cons a l ih =>
    have h1 := h a (by simp)
    have h2 := ih fun x hx => h x (by simp [hx])
    simp only [List.sum_cons, List.length_cons]
    have : ((l.length + 1 : Nat) : Int) * B = l.length * B + B := by rw [Int.natCast_add, Int.add_mul]; simp
    rw [this]; omega
theorem total_loop {l : List Int} (hl : l.length ≤ 12) (hb : ∀ x ∈ l, 0 ≤ x ∧ x ≤ 10000) : loopF (fun l1 =>
      if (decide ((gd l1 1).i < (((nd l).l.length : Nat) : Int))) then
        if (inb (gd l1 1).i (nd l).l.length) then
        ou 0 [(.int (IntKind.wrap .i64 ((gd l1 0).i + (gd (nd l).l (gd l1 1).i.toNat).i))), (.int (IntKind.wrap .i64 ((gd l1 1).i + 1)))]
        else none
      else
        ou 1 [(gd l1 0)]) [(.int 0), (.int 0)] = some (0, [.int l.sum]) := by
  have hsm : l.length ≤ smax := by have : smax = 9223372036854775807 := rfl; omega
  refine loop_for' (fun i (_ : Unit) => [.int (l.take i).sum, .int i]) l.length (fun _ => ()) (t := 0) (o := [.int l.sum]) (by simp) ?_ ?_
  · intro i hi
    have e0 : gd [D.int (l.take i).sum, D.int (i : Int)] 0 = .int (l.take i).sum := rfl
    have e1 : gd [D.int (l.take i).sum, D.int (i : Int)] 1 = .int i := rfl
    have hs := sum_bound (l := l.take i) (B := 10000) fun x hx => hb x (List.mem_of_mem_take hx)
    have hx := hb _ (List.getElem_mem hi)
    have hlt : (l.take i).length ≤ 12 := by simp; omega
    have hw : IntKind.wrap .i64 ((l.take i).sum + l[i]) = (l.take i).sum + l[i] := by rw [wrap_id] <;> omega
    simp only [gd_zero, gd_one, nd, D.l_lst, D.i_int, Int.toNat_natCast, gd_nd hi, wrap_succ hi hsm, hw, List.length_map]
    rw [← sum_take_succ hi]
    exact out_if (decide_eq_true (by omega)) (out_if (inb_nat hi) rfl)
  · rw [List.take_length]
    exact out_else (by simp [nd]) rfl
theorem f_totalOf {l : List Int} (hl : l.length ≤ 12) (hb : ∀ x ∈ l, 0 ≤ x ∧ x ≤ 10000) : e_impl_totalOf.F [nd l] = some (.int l.sum) := by
  rw [q_impl_totalOf]
  exact rn_bind (total_loop hl hb) rfl
theorem f_l12Total {l : List Int} (hl : l.length ≤ 12) (hb : ∀ x ∈ l, 0 ≤ x ∧ x ≤ 10000) : e_spec_l12Total.F [nd l] = some (.int l.sum) := by
  rw [q_spec_l12Total]
  exact rn_bind (total_loop hl hb) rfl
theorem Policy.good_facts {p : Policy} (hg : p.good = true) : 1 ≤ p.ts.length ∧ p.ts.length ≤ 12 ∧ ∀ t ∈ p.ts, 1 ≤ t.weight ∧ t.weight ≤ 50 := by
  simp only [Policy.good, Bool.and_eq_true, inP, decide_eq_true_eq, List.all_eq_true, Target.ok] at hg
  refine ⟨by omega, by omega, fun t ht => ?_⟩
  exact (hg.2.2 t ht).2.2.2
theorem set_nd {zs : List Int} {i : Nat} {x : Int} : (zs.map D.int).set i (.int x) = (zs.set i x).map D.int := by
  rw [List.map_set]
theorem shares_loop {p : Policy} {l : List Int} (hg : p.good = true) (hl : l.length ≤ p.ts.length) (hm : ∀ x ∈ l, ∃ i : Nat, x = i ∧ i < p.ts.length) : ∃ zs : List Int, zs.length = p.ts.length ∧ (∀ z ∈ zs, 0 ≤ z ∧ z ≤ 10000) ∧ loopF (fun l4 =>
          if (decide ((gd l4 1).i < (((nd l).l.length : Nat) : Int))) then
            if (inb (gd l4 1).i (nd l).l.length) then
            if (inb (gd (nd l).l (gd l4 1).i.toNat).i (D.lst (p.ts.map Target.d)).l.length) then
            if (inb (gd (nd l).l (gd l4 1).i.toNat).i (gd l4 0).l.length) then
            ou 0 [(D.lst ((gd l4 0).l.set (gd (nd l).l (gd l4 1).i.toNat).i.toNat ((gd (D.lst (p.ts.map Target.d)).l (gd (nd l).l (gd l4 1).i.toNat).i.toNat).fld 3))), (.int (IntKind.wrap .i64 ((gd l4 1).i + 1)))]
            else none
            else none
            else none
          else
            ou 1 [(gd l4 0)]) [(D.lst (List.replicate (((D.lst (p.ts.map Target.d)).l.length : Nat) : Int).toNat (.int 0))), (.int 0)] = some (0, [nd zs]) := by
  obtain ⟨g1, g2, g3⟩ := Policy.good_facts hg
  have hsm : l.length ≤ smax := by have : smax = 9223372036854775807 := rfl; omega
  obtain ⟨zs, ⟨hz, hb⟩, hloop⟩ := loop_inv (f := fun l4 =>
          if (decide ((gd l4 1).i < (((nd l).l.length : Nat) : Int))) then
            if (inb (gd l4 1).i (nd l).l.length) then
            if (inb (gd (nd l).l (gd l4 1).i.toNat).i (D.lst (p.ts.map Target.d)).l.length) then
            if (inb (gd (nd l).l (gd l4 1).i.toNat).i (gd l4 0).l.length) then
            ou 0 [(D.lst ((gd l4 0).l.set (gd (nd l).l (gd l4 1).i.toNat).i.toNat ((gd (D.lst (p.ts.map Target.d)).l (gd (nd l).l (gd l4 1).i.toNat).i.toNat).fld 3))), (.int (IntKind.wrap .i64 ((gd l4 1).i + 1)))]
            else none
            else none
            else none
          else
            ou 1 [(gd l4 0)]) (l := [(D.lst (List.replicate (((D.lst (p.ts.map Target.d)).l.length : Nat) : Int).toNat (.int 0))), (.int 0)]) (fun i (zs : List Int) => [nd zs, .int i]) (fun _ zs => zs.length = p.ts.length ∧ ∀ z ∈ zs, 0 ≤ z ∧ z ≤ 10000) l.length (t := 0) (out := fun zs => [nd zs]) (List.replicate p.ts.length 0) (by simp [nd]) ⟨by simp, by
            intro z hz; rw [List.eq_of_mem_replicate hz]; decide⟩ (by
    rintro i zs hi ⟨hz, hb⟩
    obtain ⟨k, hk, hkl⟩ := hm _ (List.getElem_mem hi)
    have hw := g3 _ (List.getElem_mem hkl)
    refine ⟨zs.set k p.ts[k].weight, ?_, by simpa using hz, ?_⟩
    · have e0 : gd [nd zs, D.int (i : Int)] 0 = nd zs := rfl
      have e1 : gd [nd zs, D.int (i : Int)] 1 = .int i := rfl
      have ef : p.ts[k].d.fld 3 = .int p.ts[k].weight := rfl
      simp only [gd_zero, gd_one, nd, D.l_lst, D.i_int, Int.toNat_natCast, gd_nd hi, hk, gd_t hkl, ef, wrap_succ hi hsm, set_nd, List.length_map]
      refine out_if (decide_eq_true (by omega)) (out_if (inb_nat hi) (out_if (inb_nat hkl) (out_if (inb_nat (by omega)) rfl)))
    · intro z hzm
      rcases List.mem_or_eq_of_mem_set hzm with h | h
      · exact hb z h
      · subst h; omega) (by
    rintro zs _
    exact out_else (by simp [nd]) rfl)
  exact ⟨zs, hz, hb, hloop⟩
theorem makeOk8 {n : Nat} (h : n ≤ 12) : makeOk 8 (n : Int) = true := by
  have : smax = 9223372036854775807 := rfl
  simp only [makeOk, Int.toNat_natCast, this, Bool.and_eq_true, decide_eq_true_eq]
  omega
theorem f_SharesOf {p : Policy} {h : Health} (hp : p.In lim) (hh : h.In lim) : ∃ (l : List Int) (n : Int) (b : Bool), l.length ≤ lim ∧ e_impl_SharesOf.F [p.d, h.d] = some (.pair (nd l) (.pair (.int n) (.pair (.bool b) .unit))) ∧ e_spec_SharesOf.F [p.d, h.d] = some (.pair (nd l) (.pair (.int n) (.pair (.bool b) .unit))) := by
  have f1 : p.d.fld 1 = .lst (p.ts.map Target.d) := rfl
  have h1 := f_implPolicy hp
  have h2 := f_specPolicy hp
  have h3 := f_implGoodHealth h (Nat.le_trans hh.len lim_smax)
  have h4 := f_specGoodHealth h hh.fit
  rw [q_impl_SharesOf, q_spec_SharesOf, f1]
  cases hg : p.good with
  | false =>
    rw [hg] at h1 h2
    exact ⟨[], 0, false, by simp, rn_bind0 (l := [.bool true]) (out_call h1 (out_if rfl rfl)) (rn_if rfl rfl), rn_bind0 (l := [.bool true]) (out_call h2 (out_if rfl rfl)) (rn_if rfl rfl)⟩
  | true =>
    rw [hg] at h1 h2
    cases hgh : h.good with
    | false =>
      rw [hgh] at h3 h4
      exact ⟨[], 0, false, by simp, rn_bind0 (l := [.bool true]) (out_call h1 (out_else (by simp) (out_call h3 rfl))) (rn_if rfl rfl), rn_bind0 (l := [.bool true]) (out_call h2 (out_else (by simp) (out_call h4 rfl))) (rn_if rfl rfl)⟩
    | true =>
      rw [hgh] at h3 h4
      obtain ⟨g1, g2, g3⟩ := Policy.good_facts hg
      obtain ⟨zs, hz, hb, hloop⟩ := shares_loop (l := p.cand h) hg (Policy.cand_len p h) (fun x hx => Policy.cand_mem hx)
      have hmk : makeOk 8 (((D.lst (p.ts.map Target.d)).l.length : Nat) : Int) = true := makeOk8 (by simpa using g2)
      refine ⟨zs, zs.sum, true, by have : lim = 1048576 := rfl; omega, rn_bind0 (l := [.bool false]) (out_call h1 (out_else (by simp) (out_call h3 rfl))) (rn_else (by simp) (rn_if hmk (rn_call (f_candidatesOf hp hh.len hg) (rn_bind hloop ?_)))), rn_bind0 (l := [.bool false]) (out_call h2 (out_else (by simp) (out_call h4 rfl))) (rn_else (by simp) (rn_if hmk (rn_call (f_l14Candidates hp hh.fit hh.len hgh hg) (rn_bind hloop ?_))))⟩
      · exact rn_call (f_totalOf (by omega) hb) rfl
      · exact rn_call (f_l12Total (by omega) hb) rfl
theorem law_FnExactSharesOf {a b : D} (ha : Sm smax tPolicy a) (hb : Sm smax tHealth b) : e_laws_FnExactSharesOf.F [a, b] = some (.bool true) := by
  obtain ⟨p, rfl, hi⟩ := policy_of ha
  obtain ⟨h, rfl, hj⟩ := health_of hb
  rw [q_laws_FnExactSharesOf]
  have hlim : lim = 1048576 := rfl
  obtain ⟨r, h1, h2⟩ := f_szPolicy hi (left := 1048576) (by decide) (by decide)
  refine rn_call h1 ?_
  by_cases hr : r < 0
  · exact rn_if (decide_eq_true hr) rfl
  refine rn_else (fun h => hr (of_decide_eq_true h)) ?_
  obtain ⟨hrl, hp⟩ := h2 (by omega)
  obtain ⟨r2, h3, h4⟩ := f_szHealth hj (left := r) (by omega) (by omega)
  refine rn_call h3 ?_
  by_cases hr2 : r2 < 0
  · exact rn_if (decide_eq_true hr2) rfl
  refine rn_else (fun h => hr2 (of_decide_eq_true h)) ?_
  have hh := h4 (by omega)
  have ht := f_toPolicy hp.len
  have ht2 := f_toHealth hh.len
  obtain ⟨l, n, b, hll, hI, hS⟩ := f_SharesOf hp hh
  have hep := f_eqPolicy (p := p) (Nat.le_trans hp.len lim_smax)
  have heh := f_eqHealth (h := h) (Nat.le_trans hh.len lim_smax)
  have heq := f_eqIntS (l := l) (Nat.le_trans hll lim_smax)
  obtain ⟨k, y, k0, k1, hm⟩ := marks_Policy (p := p) hp.len 1 (by decide) (by decide)
  obtain ⟨k', y', k0', k1', hm'⟩ := marks_Health (h := h) hh.len k k0 (by omega)
  obtain ⟨zs, hz, hmi⟩ := f_markIntS (l := l) (k := 1) hll (by decide) (by decide)
  have hhe := f_heldIntS hz hll (by decide) (by decide)
  have f0 : (D.pair (nd l) (.pair (.int n) (.pair (.bool b) .unit))).fld 0 = nd l := rfl
  have f1 : (D.pair (nd l) (.pair (.int n) (.pair (.bool b) .unit))).fld 1 = .int n := rfl
  have f2 : (D.pair (nd l) (.pair (.int n) (.pair (.bool b) .unit))).fld 2 = .bool b := rfl
  have hk : ¬ (decide (((D.pair (.int k') (.pair y' .unit)).fld 0).i < 0)) = true := fun h => by
    have h' : k' < 0 := of_decide_eq_true h
    omega
  have hq : ¬ (decide ((D.int (1 + (l.length : Int))).i < 0)) = true := fun h => by
    have h' : 1 + (l.length : Int) < 0 := of_decide_eq_true h
    omega
  refine rn_call ht (rn_call ht2 (rn_call hS (rn_call ht (rn_call ht2 (rn_call hI ?_)))))
  simp only [f0, f1, f2]
  refine rn_bind0 (l := [.bool false]) (out_call heq (out_else (by simp) (out_else (by simp) (by simp)))) ?_
  refine rn_else (by simp) (rn_call ht (rn_call hep (rn_else (by simp) (rn_call ht2 (rn_call heh (rn_else (by simp) (rn_call hm (rn_call hm' ?_))))))))
  refine rn_bind0 (l := [.bool false]) (out_else hk (out_call heq (out_else (by simp) (out_else (by simp) (by simp))))) ?_
  refine rn_else (by simp) (rn_call hmi (rn_call hhe (rn_else hq (rn_else (by simp [D.fld]) (rn_call ht (rn_call ht2 (rn_call hI ?_)))))))
  simp only [f0, f1, f2]
  refine rn_bind0 (l := [.bool false]) (out_call heq (out_else (by simp) (out_else (by simp) (by simp)))) ?_
  exact rn_else (by simp) (rn_call hhe (rn_else hq (rn_else (by simp [D.fld]) rfl)))
end Go.Proofs.YtbpfkhhacafcpaaGreatDoor
