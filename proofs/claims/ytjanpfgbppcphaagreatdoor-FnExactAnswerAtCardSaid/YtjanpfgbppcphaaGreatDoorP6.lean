/- What the functions compute, in plain words. -/
import Derived.Test.YtjanpfgbppcphaaGreatDoorP5
set_option linter.unusedSectionVars false
set_option linter.unusedVariables false
set_option linter.unusedSimpArgs false
namespace Go.Own
variable [Glb]
open Go
theorem loop_inv {σ : Type} {f : List D → Outc} {l : List D} (enc : Nat → σ → List D) (Inv : Nat → σ → Prop) (n : Nat) {t : Nat} {out : σ → List D} (s0 : σ) (hl : l = enc 0 s0) (h0 : Inv 0 s0)
 (h : ∀ i s, i < n → Inv i s → ∃ s', f (enc i s) = some (0, enc (i + 1) s') ∧ Inv (i + 1) s') (hn : ∀ s, Inv n s → f (enc n s) = some (t + 1, out s)) : ∃ s, Inv n s ∧ loopF f l = some (t, out s) := by
 subst hl
 have key : ∀ m k s, m + k = n → Inv k s → ∃ s', Inv n s' ∧ loopF f (enc k s) = some (t, out s') := by
  intro m
  induction m with
  | zero =>
    intro k s hk hi
    have : k = n := by omega
    subst this
    exact ⟨s, hi, loopF_exit (hn s hi)⟩
  | succ m ih =>
    intro k s hk hi
    obtain ⟨s', h1, h2⟩ := h k s (by omega) hi
    obtain ⟨s'', h3, h4⟩ := ih (k + 1) s' (by omega) h2
    exact ⟨s'', h3, by rw [loopF_step h1]; exact h4⟩
 exact key n 0 s0 (by omega) h0
theorem gd_set_ne {l : List D} {i j : Nat} {x : D} (h : i ≠ j) : gd (l.set i x) j = gd l j := by
 unfold gd
 rw [List.getD_eq_getElem?_getD, List.getD_eq_getElem?_getD, List.getElem?_set_ne h]
end Go.Own
namespace Go.Proofs.YtjanpfgbppcphaaGreatDoor
open Go Go.Own
theorem cut_dot {p q : List UInt8} (h : 46 ∉ p) : Lib.cut (p ++ 46 :: q) [46] = (p, q, true) := by
 unfold Lib.cut
 rw [index_one_cut h]
 simp
theorem cut_nodot {s : List UInt8} (h : 46 ∉ s) : Lib.cut s [46] = (s, [], false) := by
 unfold Lib.cut
 rw [index_one_none h]; rfl
theorem parent_cut : ∀ {p q : List UInt8}, 46 ∉ p → parent (p ++ 46 :: q) = q
 | [], q, _ => by simp [parent]
 | c :: p, q, h => by
   simp only [List.mem_cons, not_or] at h
   simp only [List.cons_append]
   unfold parent
   rw [if_neg (fun e => h.1 e.symm)]
   exact parent_cut h.2
theorem parent_nodot : ∀ {s : List UInt8}, 46 ∉ s → parent s = []
 | [], _ => rfl
 | c :: p, h => by
   simp only [List.mem_cons, not_or] at h
   unfold parent
   rw [if_neg (fun e => h.1 e.symm)]
   exact parent_nodot h.2
theorem f_parentOf {s : List UInt8} (h : s.length ≤ lim) : e_impl_parentOf.F [.str s] = some (.str (parent s)) := by
 rw [q_impl_parentOf]
 have hlim : lim = 1048576 := rfl
 have hc : e_strings_Cut.F [.str s, .str [46]] = some (cutD (Lib.cut s [46])) := by
  rw [show e_strings_Cut.F = cutF from by unfold e_strings_Cut cutE; rfl]
  unfold cutF
  exact if_pos (by simp; omega)
 refine rn_call hc ?_
 by_cases hd : 46 ∈ s
 ·obtain ⟨p, q, rfl, hp⟩ := mem_cut hd
  rw [cut_dot hp, parent_cut hp]; rfl
 ·rw [cut_nodot hd, parent_nodot hd]; rfl
theorem hasAt_filter {xs : List Rec} {n : List UInt8} {k : Int} (hk : k ≠ 0) : decide (0 < (xs.filter (isAt n k)).length) = hasAt xs n k := by
 rw [Bool.eq_iff_iff, decide_eq_true_iff]
 unfold hasAt
 rw [List.any_eq_true]
 constructor
 ·intro h
  obtain ⟨r, hr⟩ := List.exists_mem_of_length_pos h
  rw [List.mem_filter] at hr
  refine ⟨r, hr.1, ?_⟩
  have := hr.2
  unfold isAt at this
  simpa [hk] using this
 ·rintro ⟨r, hr, hb⟩
  apply List.length_pos_of_mem (a := r)
  rw [List.mem_filter]
  refine ⟨hr, ?_⟩
  unfold isAt
  simp only [Bool.and_eq_true] at hb ⊢
  exact ⟨hb.1, by simp [hb.2]⟩
theorem f_cutAbove {z : Zn} {s : List UInt8} (hz : z.In lim) (hs : s.length ≤ lim) (hup : Up s z.apex) : e_impl_cutAbove.F [z.d, .str s] = some (.pair (cutDt (cutOf z.apex z.recs s)).1 (.pair (cutDt (cutOf z.apex z.recs s)).2 .unit)) := by
 rw [q_impl_cutAbove]
 have f0 : (z.d.fld 0).s = z.apex := rfl
 have f2 : z.d.fld 2 = .lst (z.recs.map Rec.d) := rfl
 rw [f0, f2]
 have key : ∀ (n : Nat) (s : List UInt8) (o : Option (List UInt8)), s.length < n → s.length ≤ lim → Up s z.apex → loopF (fun l2 =>
  if (!((gd l2 0).s == z.apex)) then
   ((e_impl_at.F [(.lst (z.recs.map Rec.d)), (gd l2 0), (.int 2)]).bind fun r5 =>
     if (decide ((r5.l.length : Int) > 0)) then
      ou 0 [(gd l2 0), (.bool true)]
     else
      ou 0 [(gd l2 1), (gd l2 2)]).bind fun o5 =>
   sel2 o5.1 ((e_impl_parentOf.F [(gd l2 0)]).bind fun r7 =>
    ou 0 [r7, (gd o5.2 0), (gd o5.2 1)]) fun _ => none
  else
   ou 1 [(gd l2 1), (gd l2 2)]) [.str s, (cutDt o).1, (cutDt o).2] = some (0, [(cutDt (walkUp z.apex (fun n => hasAt z.recs n 2) n s o)).1, (cutDt (walkUp z.apex (fun n => hasAt z.recs n 2) n s o)).2]) := by
  intro n
  induction n with
  | zero => intro s o h; omega
  | succ n ih =>
    intro s o h hs hup
    unfold walkUp
    by_cases ha : s = z.apex
    ·rw [if_neg (fun hc => hc.1 ha)]
     exact loopF_exit (out_else (by simp [ha]) rfl)
    ·have hb := bel_iff.2 hup
     rw [if_pos ⟨ha, hb⟩]
     have h0 : s ≠ [] := by
      rintro rfl
      rcases hup.len with h1 | h1
      ·exact ha h1
      ·simp at h1
     rw [if_neg h0]
     have hpl := parent_len h0
     have hup2 : Up (parent s) z.apex := by
      cases hup with
      | refl => exact absurd rfl ha
      | step _ h2 => exact h2
     rw [← ih (parent s) (if hasAt z.recs s 2 then some s else o) (by omega) (by omega) hup2]
     have hat := f_at (xs := z.recs) (n := s) (k := 2) hz.len
     have h2 : ((e_impl_at.F [(.lst (z.recs.map Rec.d)), (D.str s), (.int 2)]).bind fun r5 =>
      if (decide ((r5.l.length : Int) > 0)) then
       ou 0 [(D.str s), (.bool true)]
      else
       ou 0 [(cutDt o).1, (cutDt o).2] : Outc) = some (0, [(cutDt (if hasAt z.recs s 2 then some s else o)).1, (cutDt (if hasAt z.recs s 2 then some s else o)).2]) := by
      refine out_call hat ?_
      have e : (D.lst ((z.recs.filter (isAt s 2)).map Rec.d)).l.length = (z.recs.filter (isAt s 2)).length := by simp
      have e2 : decide (((z.recs.filter (isAt s 2)).length : Int) > 0) = hasAt z.recs s 2 := by
       rw [← hasAt_filter (by decide), Bool.eq_iff_iff]; simp
      rw [e, e2]
      cases hasAt z.recs s 2 with
      | false => exact out_else (by simp) (by simp)
      | true => exact out_if rfl (by simp [cutDt])
     exact loopF_step (out_if (by simpa using ha) (out_bind h2 (sel0 (out_call (f_parentOf hs) rfl))))
 exact rn_bind (key (s.length + 1) s none (by omega) hs hup) rfl
end Go.Proofs.YtjanpfgbppcphaaGreatDoor
namespace Go.Proofs.YtjanpfgbppcphaaGreatDoor
open Go Go.Own
structure Fnd where
 kind : Int
 owner : List UInt8
 recs : List Rec
 chain : List Rec
def Fnd.d (f : Fnd) : D := .pair (.int f.kind) (.pair (.str f.owner) (.pair (.lst (f.recs.map Rec.d)) (.pair (.lst (f.chain.map Rec.d)) .unit)))
def Fnd.nul : Fnd := ⟨0, [], [], []⟩
def Rec.as (n : List UInt8) (r : Rec) : Rec := ⟨n, r.type, r.ttl, r.data⟩
def thr (z : Zn) (n : List UInt8) : Bool := z.recs.any fun r => bel r.name n
def encl (z : Zn) : Nat → List UInt8 → List UInt8
 | 0, s => s
 | n + 1, s => if thr z s then s else encl z n (parent s)
def star (s : List UInt8) : List UInt8 := if s = [] then [42] else [42, 46] ++ s
def byF (z : Zn) (owner name : List UInt8) (k : Int) : Fnd :=
 if (z.recs.filter (isAt owner k)) = [] then
  (if (z.recs.filter (isAt owner 5)) = [] then ⟨4, owner, [], []⟩ else ⟨2, owner, (z.recs.filter (isAt owner 5)).map (Rec.as name), []⟩)
 else ⟨1, owner, (z.recs.filter (isAt owner k)).map (Rec.as name), []⟩
def lookF (z : Zn) (name : List UInt8) (k : Int) : Fnd :=
 if bel name z.apex = true then
  match cutOf z.apex z.recs name with
  | some c => ⟨3, c, z.recs.filter (isAt c 2), []⟩
  | none => if thr z name = true then byF z name name k
    else if thr z (star (encl z (name.length + 1) name)) = true then byF z (star (encl z (name.length + 1) name)) name k
    else ⟨5, encl z (name.length + 1) name, [], []⟩
 else ⟨6, [], [], []⟩
theorem thr_apex {z : Zn} (hz : z.Good) : thr z z.apex = true := by
 obtain ⟨r, hr, _, _, hn, _⟩ := soa_one hz.rul
 unfold thr
 rw [List.any_eq_true]
 exact ⟨r, hr, by rw [hn]; exact bel_iff.2 (.refl _)⟩
theorem encl_up {z : Zn} (hz : z.Good) : ∀ (n : Nat) (s : List UInt8), s.length < n → Up s z.apex → Up s (encl z n s) ∧ Up (encl z n s) z.apex ∧ thr z (encl z n s) = true
 | 0, s, h, _ => by omega
 | n + 1, s, h, hu => by
   unfold encl
   cases ht : thr z s with
   | true => rw [if_pos rfl]; exact ⟨.refl _, hu, ht⟩
   | false =>
     rw [if_neg (by simp)]
     have hne : s ≠ z.apex := by rintro rfl; rw [thr_apex hz] at ht; cases ht
     have h0 : s ≠ [] := by
      rintro rfl
      rcases hu.len with h1 | h1
      ·exact hne h1
      ·simp at h1
     have hu2 : Up (parent s) z.apex := by
      cases hu with
      | refl => exact absurd rfl hne
      | step _ h2 => exact h2
     obtain ⟨a, b, c⟩ := encl_up hz n (parent s) (by have := parent_len h0; omega) hu2
     exact ⟨.step h0 a, b, c⟩
theorem star_up (s : List UInt8) : Up (star s) s := by
 unfold star
 by_cases h : s = []
 ·subst h; exact up_nil _ _ (Nat.le_refl _)
 ·rw [if_neg h]
  exact .step (by simp) (by show Up s s; exact .refl _)
theorem Up.le {a b : List UInt8} (h : Up a b) : b.length ≤ a.length := by
 rcases h.len with h1 | h1
 ·rw [h1]; exact Nat.le_refl _
 ·omega
theorem f_isThere {z : Zn} {s : List UInt8} (hz : z.In lim) (hs : s.length ≤ lim) (hu : Up s z.apex) : e_impl_isThere.F [z.d, .str s] = some (.bool (thr z s)) := by
 rw [q_impl_isThere]
 have f0 : z.d.fld 0 = .str z.apex := rfl
 have f2 : z.d.fld 2 = .lst (z.recs.map Rec.d) := rfl
 rw [f0, f2]
 have hb := f_isBelow hs hz.apex
 rw [bel_iff.2 hu] at hb
 obtain ⟨n, h1, h2⟩ := idx_gen (f := Rec.d) (c := fun d => e_impl_isThere_1.F [d, .str s]) (xs := z.recs) (p := fun r => bel r.name s) (Nat.le_trans hz.len lim_smax) (fun r hr => by
  show e_impl_isThere_1.F [r.d, .str s] = _
  rw [q_impl_isThere_1]
  have g0 : r.d.fld 0 = .str r.name := rfl
  rw [g0]
  exact rn_call (f_isBelow (hz.all r hr).name hs) rfl)
 have h3 : e_slices_IndexFunc_impl_Record_impl_Record__impl_isThere_1.F [.lst (z.recs.map Rec.d), .pair (.str s) .unit] = some (.int n) := by
  rw [q_slices_IndexFunc_impl_Record_impl_Record__impl_isThere_1]; exact h1
 have h4 : e_slices_ContainsFunc_impl_Record_impl_Record__impl_isThere_1.F [.lst (z.recs.map Rec.d), .pair (.str s) .unit] = some (.bool (thr z s)) := by
  rw [q_slices_ContainsFunc_impl_Record_impl_Record__impl_isThere_1]
  refine rn_call h3 ?_
  unfold thr
  rw [← h2]; rfl
 exact rn_bind0 (l := [.bool (thr z s)]) (out_call hb (out_if rfl (out_call h4 rfl))) rfl
theorem f_l7There {z : Zn} {s : List UInt8} (hz : z.In lim) (hs : s.length ≤ lim) : e_spec_l7There.F [z.d, .str s] = some (.bool (thr z s)) := by
 have hsm := Nat.le_trans hz.len lim_smax
 rw [q_spec_l7There]
 have f2 : (z.d.fld 2).l = z.recs.map Rec.d := rfl
 simp only [f2, List.length_map]
 refine rn_bind (loop_all' (fun i => [.int i]) z.recs.length (fun i => !(bel (z.recs.getD i Rec.nul).name s)) (t1 := 0) (t2 := 1) (o1 := [.bool true]) (o2 := []) rfl ?_ (by exact out_else (by simp) rfl)) ?_
 ·intro i hi
  rw [getD_lt hi]
  have e0 : (gd [D.int (i : Int)] 0).i.toNat = i := by simp
  have e1 : (gd [D.int (i : Int)] 0).i = i := rfl
  have g0 : z.recs[i].d.fld 0 = .str z.recs[i].name := rfl
  rw [e0, e1, gd_rec hi, g0, wrap_succ hi hsm]
  refine out_if (by simpa using hi) (out_if (by simpa using inb_nat hi) (out_call (f_l1Below (hz.all _ (List.getElem_mem hi)).name hs) ?_))
  cases bel z.recs[i].name s <;> simp
 ·have : allN z.recs.length (fun i => !(bel (z.recs.getD i Rec.nul).name s)) = !(thr z s) := by
   rw [all_allN z.recs (fun r => !(bel r.name s)) Rec.nul]
   unfold thr
   rw [← List.not_any_eq_all_not]
  rw [this]
  cases thr z s <;> rfl
theorem f_encloserOf {z : Zn} {s : List UInt8} (hz : z.In lim) (hg : z.Good) (hs : s.length ≤ lim) (hu : Up s z.apex) : e_impl_encloserOf.F [z.d, .str s] = some (.str (encl z (s.length + 1) s)) := by
 rw [q_impl_encloserOf]
 have key : ∀ (n : Nat) (s : List UInt8), s.length < n → s.length ≤ lim → Up s z.apex → loopF (fun l2 =>
  (e_impl_isThere.F [z.d, (gd l2 0)]).bind fun r3 =>
  if (!r3.b) then
   (e_impl_parentOf.F [(gd l2 0)]).bind fun r4 =>
   ou 0 [r4]
  else
   ou 1 [(gd l2 0)]) [.str s] = some (0, [.str (encl z n s)]) := by
  intro n
  induction n with
  | zero => intro s h; omega
  | succ n ih =>
    intro s h hs hu
    have ht := f_isThere hz hs hu
    unfold encl
    cases hq : thr z s with
    | true =>
      rw [hq] at ht
      exact loopF_exit (out_call ht (out_else (by simp) rfl))
    | false =>
      rw [hq] at ht
      have hne : s ≠ z.apex := by rintro rfl; rw [thr_apex hg] at hq; cases hq
      have h0 : s ≠ [] := by
       rintro rfl
       rcases hu.len with h1 | h1
       ·exact hne h1
       ·simp at h1
      have hu2 : Up (parent s) z.apex := by
       cases hu with
       | refl => exact absurd rfl hne
       | step _ h2 => exact h2
      have hpl := parent_len h0
      rw [if_neg (by simp), ← ih (parent s) (by omega) (by omega) hu2]
      exact loopF_step (out_call ht (out_if rfl (out_call (f_parentOf hs) rfl)))
 exact rn_bind (key (s.length + 1) s (by omega) hs hu) rfl
theorem f_l7Encloser {z : Zn} {s : List UInt8} (hz : z.In lim) (hg : z.Good) (hs : s.length ≤ lim) (hu : Up s z.apex) : e_spec_l7Encloser.F [z.d, .str s] = some (.str (encl z (s.length + 1) s)) := by
 rw [q_spec_l7Encloser]
 have f0 : (z.d.fld 0).s = z.apex := rfl
 rw [f0]
 have key : ∀ (n : Nat) (s : List UInt8), s.length < n → s.length ≤ lim → Up s z.apex → loopF (fun l2 =>
  (if (!((gd l2 0).s == z.apex)) then
      (e_spec_l7There.F [z.d, (gd l2 0)]).bind fun r3 =>
      ou 0 [(.bool (!r3.b))]
    else
     ou 0 [(.bool false)]).bind fun o3 =>
  sel2 o3.1 (if (gd o3.2 0).b then
   (e_spec_l1Parent.F [(gd l2 0)]).bind fun r4 =>
   ou 0 [r4]
   else
    ou 1 [(gd l2 0)]) fun _ => none) [.str s] = some (0, [.str (encl z n s)]) := by
  intro n
  induction n with
  | zero => intro s h; omega
  | succ n ih =>
    intro s h hs hu
    have ht := f_l7There hz hs
    unfold encl
    cases hq : thr z s with
    | true =>
      rw [hq] at ht
      rw [if_pos rfl]
      refine loopF_exit (out_bind (r := (0, [.bool false])) ?_ (sel0 (out_else (by simp) rfl)))
      by_cases ha : s = z.apex
      ·exact out_else (by simp [ha]) rfl
      ·exact out_if (by simpa using ha) (out_call ht rfl)
    | false =>
      rw [hq] at ht
      have hne : s ≠ z.apex := by rintro rfl; rw [thr_apex hg] at hq; cases hq
      have h0 : s ≠ [] := by
       rintro rfl
       rcases hu.len with h1 | h1
       ·exact hne h1
       ·simp at h1
      have hu2 : Up (parent s) z.apex := by
       cases hu with
       | refl => exact absurd rfl hne
       | step _ h2 => exact h2
      have hpl := parent_len h0
      rw [if_neg (by simp), ← ih (parent s) (by omega) (by omega) hu2]
      exact loopF_step (out_bind (r := (0, [.bool true])) (out_if (by simpa using hne) (out_call ht rfl)) (sel0 (out_if rfl (out_call (f_l1Parent hs) rfl))))
 exact rn_bind (key (s.length + 1) s (by omega) hs hu) rfl
theorem f_starOf {s : List UInt8} (hs : s.length ≤ lim) : e_impl_starOf.F [.str s] = some (.str (star s)) := by
 have hlim : lim = 1048576 := rfl
 rw [q_impl_starOf]
 unfold star
 by_cases h : s = []
 ·rw [if_pos h]; exact rn_if (by simpa using h) rfl
 ·rw [if_neg h]; exact rn_else (by simpa using h) (rn_if (by simp [catOk, smax_eq]; omega) rfl)
theorem f_l6Set {xs : List Rec} {n : List UInt8} {k : Int} (hl : xs.length ≤ lim) (hk : k ≠ 0) : e_spec_l6Set.F [.lst (xs.map Rec.d), .str n, .int k] = some (.lst ((xs.filter (isAt n k)).map Rec.d)) := by
 have hlim : lim = 1048576 := rfl
 have hsm := Nat.le_trans hl lim_smax
 rw [q_spec_l6Set]
 have hlen : (D.lst (xs.map Rec.d)).l.length = xs.length := by simp
 rw [hlen]
 refine rn_bind (loop_for' (fun i (zs : List Rec) => [.lst (zs.map Rec.d), .int i]) xs.length (fun i => (xs.take i).filter (isAt n k)) (t := 0) (o := [.lst ((xs.filter (isAt n k)).map Rec.d)]) (by simp) ?_ ?_) rfl
 ·intro i hi
  have hg : gd (D.lst (xs.map Rec.d)).l i = xs[i].d := gd_rec hi
  have e0 : (gd [D.lst (((xs.take i).filter (isAt n k)).map Rec.d), D.int (i : Int)] 1).i.toNat = i := by simp
  have e1 : (gd [D.lst (((xs.take i).filter (isAt n k)).map Rec.d), D.int (i : Int)] 1).i = i := rfl
  have e2 : (gd [D.lst (((xs.take i).filter (isAt n k)).map Rec.d), D.int (i : Int)] 0) = D.lst (((xs.take i).filter (isAt n k)).map Rec.d) := rfl
  have g0 : (xs[i].d.fld 0).s = xs[i].name := rfl
  have g1 : (xs[i].d.fld 1).i = xs[i].type := rfl
  have hfl : ((xs.take i).filter (isAt n k)).length ≤ i := by
   have := List.length_filter_le (isAt n k) (xs.take i); simp at this; omega
  rw [e0, e1, e2, hg, g0, g1, wrap_succ hi hsm]
  refine out_if (by simpa using hi) (out_bind (r := (0, [.lst (((xs.take (i + 1)).filter (isAt n k)).map Rec.d)])) (out_if (by simpa using inb_nat hi) (out_bind (r := (0, [.bool (isAt n k xs[i])])) ?_ (sel0 ?_))) (sel0 rfl))
  ·unfold isAt
   simp only [D.s_str, D.i_int]
   by_cases h1 : xs[i].name = n
   ·exact out_if (by simpa using h1) (by simp [h1, hk])
   ·exact out_else (by simpa using h1) (by simp [h1])
  ·rw [List.take_succ_eq_append_getElem hi, List.filter_append]
   cases hq : isAt n k xs[i] with
   | false => exact out_else (by simp) (by simp [List.filter_cons, hq])
   | true =>
     refine out_if rfl (out_if ?_ (by simp [List.filter_cons, hq]))
     simp only [D.l_lst, appOk, List.length_map, List.length_singleton, smax_eq, Bool.and_eq_true, decide_eq_true_eq]
     omega
 ·have h1 : xs.take xs.length = xs := List.take_length
  exact out_else (by simp) (by simp [h1])
def asAll (n : List UInt8) (xs : List Rec) (i : Nat) : List Rec := (xs.take i).map (Rec.as n) ++ xs.drop i
theorem asAll_len {n : List UInt8} {xs : List Rec} {i : Nat} (h : i ≤ xs.length) : (asAll n xs i).length = xs.length := by
 simp [asAll]; omega
theorem asAll_get {n : List UInt8} {xs : List Rec} {i : Nat} (h : i < xs.length) : (asAll n xs i)[i]'(by rw [asAll_len (Nat.le_of_lt h)]; exact h) = xs[i] := by
 unfold asAll
 rw [List.getElem_append_right (by simp; omega)]
 simp [Nat.min_eq_left (Nat.le_of_lt h)]
theorem asAll_set {n : List UInt8} {xs : List Rec} {i : Nat} (h : i < xs.length) : (asAll n xs i).set i (Rec.as n xs[i]) = asAll n xs (i + 1) := by
 unfold asAll
 rw [List.set_append_right _ _ (by simp; omega), List.drop_eq_getElem_cons h, show i - ((xs.take i).map (Rec.as n)).length = 0 by simp; omega, List.set_cons_zero, List.take_succ_eq_append_getElem h, List.map_append, List.append_assoc]
 rfl
theorem rename_I {name owner : List UInt8} {k : Int} {xs : List Rec} (hl : xs.length ≤ lim) (ch : D) : loopF (fun l8 =>
 if (decide ((gd l8 1).i < (xs.length : Int))) then
  if (inb (gd l8 1).i ((gd l8 0).fld 2).l.length) then
  ou 0 [((gd l8 0).setFld 2 (D.lst (((gd l8 0).fld 2).l.set (gd l8 1).i.toNat ((gd ((gd l8 0).fld 2).l (gd l8 1).i.toNat).setFld 0 (.str name))))), (.int (IntKind.wrap .i64 ((gd l8 1).i + 1)))]
  else none
 else
  ou 1 [(gd l8 0)]) [.pair (.int k) (.pair (.str owner) (.pair (.lst (xs.map Rec.d)) (.pair ch .unit))), (.int 0)] = some (0, [.pair (.int k) (.pair (.str owner) (.pair (.lst ((xs.map (Rec.as name)).map Rec.d)) (.pair ch .unit)))]) := by
 have hsm := Nat.le_trans hl lim_smax
 refine loop_for' (fun i (zs : List Rec) => [.pair (.int k) (.pair (.str owner) (.pair (.lst (zs.map Rec.d)) (.pair ch .unit))), .int i]) xs.length (asAll name xs) (t := 0) (o := [.pair (.int k) (.pair (.str owner) (.pair (.lst ((xs.map (Rec.as name)).map Rec.d)) (.pair ch .unit)))]) (by simp [asAll]) ?_ ?_
 ·intro i hi
  have hi' : i < (asAll name xs i).length := by rw [asAll_len (Nat.le_of_lt hi)]; exact hi
  refine out_if (by simpa using hi) (out_if ?_ ?_)
  ·show inb (i : Int) (((asAll name xs i).map Rec.d)).length = true
   rw [List.length_map]; exact inb_nat hi'
  ·show some (0, [D.pair (.int k) (.pair (.str owner) (.pair (.lst (((asAll name xs i).map Rec.d).set i ((gd ((asAll name xs i).map Rec.d) i).setFld 0 (.str name)))) (.pair ch .unit))), D.int (IntKind.wrap .i64 ((i : Int) + 1))]) = _
   rw [wrap_succ hi hsm, gd_rec hi', asAll_get hi]
   have e : xs[i].d.setFld 0 (.str name) = (Rec.as name xs[i]).d := rfl
   rw [e, ← List.map_set, asAll_set hi]
 ·refine out_else (by simp) ?_
  simp [asAll]
theorem rename_S {name owner : List UInt8} {k : Int} {xs : List Rec} (hl : xs.length ≤ lim) (ch : D) : loopF (fun l7 =>
        if (decide ((gd l7 1).i < (xs.length : Int))) then
         if (inb (gd l7 1).i xs.length) then
         if (appOk 48 ((gd l7 0).fld 2).l (((gd (xs.map Rec.d) (gd l7 1).i.toNat).setFld 0 (.str name)) :: ([] : List D))) then
         ou 0 [((gd l7 0).setFld 2 (D.lst (((gd l7 0).fld 2).l ++ (((gd (xs.map Rec.d) (gd l7 1).i.toNat).setFld 0 (.str name)) :: ([] : List D))))), (.int (IntKind.wrap .i64 ((gd l7 1).i + 1)))]
         else none
         else none
        else
         ou 1 [(gd l7 0)]) [.pair (.int k) (.pair (.str owner) (.pair (D.lst []) (.pair ch .unit))), (.int 0)] = some (0, [.pair (.int k) (.pair (.str owner) (.pair (.lst ((xs.map (Rec.as name)).map Rec.d)) (.pair ch .unit)))]) := by
 have hsm := Nat.le_trans hl lim_smax
 have hlim : lim = 1048576 := rfl
 refine loop_for' (fun i (zs : List Rec) => [.pair (.int k) (.pair (.str owner) (.pair (.lst (zs.map Rec.d)) (.pair ch .unit))), .int i]) xs.length (fun i => (xs.take i).map (Rec.as name)) (t := 0) (o := [.pair (.int k) (.pair (.str owner) (.pair (.lst ((xs.map (Rec.as name)).map Rec.d)) (.pair ch .unit)))]) (by simp) ?_ ?_
 ·intro i hi
  refine out_if (by simpa using hi) (out_if (by simpa using inb_nat hi) (out_if ?_ ?_))
  ·show appOk 48 (((xs.take i).map (Rec.as name)).map Rec.d) [_] = true
   simp only [appOk, List.length_map, List.length_take, List.length_singleton, smax_eq, Bool.and_eq_true, decide_eq_true_eq]
   omega
  ·show some (0, [D.pair (.int k) (.pair (.str owner) (.pair (.lst ((((xs.take i).map (Rec.as name)).map Rec.d) ++ [(gd (xs.map Rec.d) i).setFld 0 (.str name)])) (.pair ch .unit))), D.int (IntKind.wrap .i64 ((i : Int) + 1))]) = _
   rw [wrap_succ hi hsm, gd_rec hi]
   have e : xs[i].d.setFld 0 (.str name) = (Rec.as name xs[i]).d := rfl
   rw [e, List.take_succ_eq_append_getElem hi, List.map_append, List.map_append]
   rfl
 ·refine out_else (by simp) ?_
  simp
theorem f_lookUp {z : Zn} {name : List UInt8} {k : Int} (hz : z.In lim) (hg : z.Good) (hs : name.length ≤ lim) : e_impl_lookUp.F [z.d, .str name, .int k] = some (lookF z name k).d := by
 have hlim : lim = 1048576 := rfl
 rw [q_impl_lookUp]
 have f0 : z.d.fld 0 = .str z.apex := rfl
 have f2 : z.d.fld 2 = .lst (z.recs.map Rec.d) := rfl
 rw [f0, f2]
 have hb := f_isBelow hs hz.apex
 unfold lookF
 cases hq : bel name z.apex with
 | false =>
   rw [hq] at hb
   exact rn_call hb (rn_if rfl rfl)
 | true =>
   rw [hq] at hb
   have hu := bel_iff.1 hq
   have hcut := f_cutAbove hz hs hu
   rw [if_pos rfl]
   refine rn_call hb (rn_else (by simp) (rn_call hcut ?_))
   cases hc : cutOf z.apex z.recs name with
   | some c => exact rn_if rfl (rn_call (f_at (n := c) (k := 2) hz.len) rfl)
   | none =>
     refine rn_else (by simp [cutDt, D.fld]) ?_
     have ht := f_isThere hz hs hu
     -- what is told of an owner
     have rest : ∀ owner : List UInt8, rn ((e_impl_at.F [(.lst (z.recs.map Rec.d)), (.str owner), .int k]).bind fun r6 =>
      (if ((r6.l.length : Int) == 0) then
          (e_impl_at.F [(.lst (z.recs.map Rec.d)), (.str owner), (.int 5)]).bind fun r7 =>
          ou 0 [(.pair (.int 2) (.pair (.str owner) (.pair r7 (.pair (D.lst []) .unit))))]
        else
         ou 0 [(.pair (.int 1) (.pair (.str owner) (.pair r6 (.pair (D.lst []) .unit))))]).bind fun o7 =>
      sel2 o7.1 (if ((((gd o7.2 0).fld 2).l.length : Int) == 0) then
       ou 0 [(.pair (.int 4) (.pair (.str owner) (.pair (D.lst []) (.pair (D.lst []) .unit))))]
       else
        (loopF (fun l8 =>
          if (decide ((gd l8 1).i < (((gd o7.2 0).fld 2).l.length : Int))) then
           if (inb (gd l8 1).i ((gd l8 0).fld 2).l.length) then
           ou 0 [((gd l8 0).setFld 2 (D.lst (((gd l8 0).fld 2).l.set (gd l8 1).i.toNat ((gd ((gd l8 0).fld 2).l (gd l8 1).i.toNat).setFld 0 (.str name))))), (.int (IntKind.wrap .i64 ((gd l8 1).i + 1)))]
           else none
          else
           ou 1 [(gd l8 0)]) [(gd o7.2 0), (.int 0)]).bind fun o8 =>
        sel2 o8.1 (ou 0 [(gd o8.2 0)]) fun _ => none) fun _ => none) = some (byF z owner name k).d := by
      intro owner
      have h1 := f_at (n := owner) (k := k) hz.len
      have h5 := f_at (n := owner) (k := 5) hz.len
      have l1 := List.length_filter_le (isAt owner k) z.recs
      have l5 := List.length_filter_le (isAt owner 5) z.recs
      have hzl := hz.len
      unfold byF
      generalize z.recs.filter (isAt owner k) = xs at h1 l1 ⊢
      generalize z.recs.filter (isAt owner 5) = ys at h5 l5 ⊢
      by_cases hx : xs = []
      ·rw [if_pos hx]
       subst hx
       refine rn_call h1 (rn_bind0 (l := [.pair (.int 2) (.pair (.str owner) (.pair (.lst (ys.map Rec.d)) (.pair (D.lst []) .unit)))]) (out_if rfl (out_call h5 rfl)) ?_)
       by_cases hy : ys = []
       ·rw [if_pos hy]; subst hy; exact rn_if rfl rfl
       ·rw [if_neg hy]
        have hyl : (((D.pair (.int 2) (.pair (.str owner) (.pair (.lst (ys.map Rec.d)) (.pair (D.lst []) .unit)))).fld 2).l.length) = ys.length := by simp [D.fld]
        simp only [gd_zero, hyl]
        have hpos : 0 < ys.length := List.length_pos_iff.2 hy
        exact rn_else (by simp; omega) (rn_bind (rename_I (by omega) (D.lst [])) rfl)
      ·rw [if_neg hx]
       have hpos : 0 < xs.length := List.length_pos_iff.2 hx
       refine rn_call h1 (rn_bind0 (l := [.pair (.int 1) (.pair (.str owner) (.pair (.lst (xs.map Rec.d)) (.pair (D.lst []) .unit)))]) (out_else (by simp; omega) rfl) ?_)
       have hxl : (((D.pair (.int 1) (.pair (.str owner) (.pair (.lst (xs.map Rec.d)) (.pair (D.lst []) .unit)))).fld 2).l.length) = xs.length := by simp [D.fld]
       simp only [gd_zero, hxl]
       exact rn_else (by simp; omega) (rn_bind (rename_I (by omega) (D.lst [])) rfl)
     cases htq : thr z name with
     | true =>
       rw [htq] at ht
       rw [if_pos rfl]
       exact rn_bind0 (l := [.str name]) (out_call ht (out_else (by simp) rfl)) (rest name)
     | false =>
       rw [htq] at ht
       rw [if_neg (by simp)]
       obtain ⟨e1, e2, e3⟩ := encl_up hg (name.length + 1) name (by omega) hu
       have hel := Up.le e1
       have he := f_encloserOf hz hg hs hu
       generalize encl z (name.length + 1) name = e at e1 e2 e3 hel he ⊢
       have hst := f_starOf (s := e) (by omega)
       have hstu : Up (star e) z.apex := (star_up e).trans e2
       have hstl : (star e).length ≤ lim ∨ True := .inr trivial
       have hsl : (star e).length ≤ e.length + 2 := by unfold star; split <;> simp
       by_cases hel2 : (star e).length ≤ lim
       ·have ht2 := f_isThere hz hel2 hstu
        cases htq2 : thr z (star e) with
        | true =>
          rw [htq2] at ht2
          rw [if_pos rfl]
          exact rn_bind0 (l := [.str (star e)]) (out_call ht (out_if rfl (out_call he (out_call hst (out_call ht2 (out_else (by simp) rfl)))))) (rest (star e))
        | false =>
          rw [htq2] at ht2
          rw [if_neg (by simp)]
          exact rn_bind (r := (1, [.pair (.int 5) (.pair (.str e) (.pair (D.lst []) (.pair (D.lst []) .unit)))])) (out_call ht (out_if rfl (out_call he (out_call hst (out_call ht2 (out_if rfl rfl)))))) rfl
       ·exfalso
        -- names that are there are short
        unfold thr at e3
        rw [List.any_eq_true] at e3
        obtain ⟨r, hr, hrb⟩ := e3
        have h60 : r.name.length ≤ 60 := by
         have hok := (rises_of hg.ris).ok r hr
         unfold Rec.ok at hok
         simp only [Bool.and_eq_true] at hok
         have hn := hok.2.1
         unfold isName at hn
         simp only [Bool.and_eq_true, decide_eq_true_eq] at hn
         exact hn.1
        have := Up.le (bel_iff.1 hrb)
        omega
theorem f_l7By {z : Zn} {owner name : List UInt8} {k : Int} (hz : z.In lim) (hk : k ≠ 0) : e_spec_l7By.F [z.d, .str owner, .str name, .int k] = some (byF z owner name k).d := by
 rw [q_spec_l7By]
 have f2 : z.d.fld 2 = .lst (z.recs.map Rec.d) := rfl
 rw [f2]
 have h1 := f_l6Set (n := owner) hz.len hk
 have h5 := f_l6Set (n := owner) (k := 5) hz.len (by decide)
 have l1 := List.length_filter_le (isAt owner k) z.recs
 have l5 := List.length_filter_le (isAt owner 5) z.recs
 have hzl := hz.len
 unfold byF
 generalize z.recs.filter (isAt owner k) = xs at h1 l1 ⊢
 generalize z.recs.filter (isAt owner 5) = ys at h5 l5 ⊢
 have hll : ∀ us : List Rec, (D.lst (us.map Rec.d)).l = us.map Rec.d := fun _ => rfl
 by_cases hx : xs = []
 ·rw [if_pos hx]
  subst hx
  by_cases hy : ys = []
  ·rw [if_pos hy]
   subst hy
   refine rn_call h1 (rn_bind0 (l := [.pair (.int 4) (.pair (.str owner) (.pair (D.lst []) (.pair (D.lst []) .unit))), .lst []]) (out_else (by simp) (out_call h5 (out_else (by simp) rfl))) ?_)
   exact rn_bind (rename_S (name := name) (owner := owner) (k := 4) (xs := []) (by simp) (D.lst [])) rfl
  ·rw [if_neg hy]
   have hpos : 0 < ys.length := List.length_pos_iff.2 hy
   refine rn_call h1 (rn_bind0 (l := [.pair (.int 2) (.pair (.str owner) (.pair (D.lst []) (.pair (D.lst []) .unit))), .lst (ys.map Rec.d)]) (out_else (by simp) (out_call h5 (out_if (decide_eq_true (by simp; omega)) rfl))) ?_)
   have g1 : ∀ a b : D, gd [a, b] 1 = b := fun _ _ => rfl
   simp only [g1, hll, List.length_map]
   exact rn_bind (rename_S (name := name) (owner := owner) (k := 2) (xs := ys) (by omega) (D.lst [])) rfl
 ·rw [if_neg hx]
  have hpos : 0 < xs.length := List.length_pos_iff.2 hx
  refine rn_call h1 (rn_bind0 (l := [.pair (.int 1) (.pair (.str owner) (.pair (D.lst []) (.pair (D.lst []) .unit))), .lst (xs.map Rec.d)]) (out_if (decide_eq_true (by simp; omega)) rfl) ?_)
  have g1 : ∀ a b : D, gd [a, b] 1 = b := fun _ _ => rfl
  simp only [g1, hll, List.length_map]
  exact rn_bind (rename_S (name := name) (owner := owner) (k := 1) (xs := xs) (by omega) (D.lst [])) rfl
theorem f_l7Look {z : Zn} {name : List UInt8} {k : Int} (hz : z.In lim) (hg : z.Good) (hs : name.length ≤ lim) (hk : k ≠ 0) : e_spec_l7Look.F [z.d, .str name, .int k] = some (lookF z name k).d := by
 have hlim : lim = 1048576 := rfl
 rw [q_spec_l7Look]
 have f0 : z.d.fld 0 = .str z.apex := rfl
 have f2 : z.d.fld 2 = .lst (z.recs.map Rec.d) := rfl
 rw [f0, f2]
 have hb := f_l1Below hs hz.apex
 unfold lookF
 cases hq : bel name z.apex with
 | false =>
   rw [hq] at hb
   exact rn_call hb (rn_if rfl rfl)
 | true =>
   rw [hq] at hb
   have hu := bel_iff.1 hq
   have hcut := f_l6Cut (xs := z.recs) hz.apex hz.len hs
   rw [if_pos rfl]
   refine rn_call hb (rn_else (by simp) (rn_call hcut ?_))
   cases hc : cutOf z.apex z.recs name with
   | some c => exact rn_if rfl (rn_call (f_l6Set (n := c) (k := 2) hz.len (by decide)) rfl)
   | none =>
     refine rn_else (by simp [cutDt, D.fld]) ?_
     have ht := f_l7There hz hs
     cases htq : thr z name with
     | true =>
       rw [htq] at ht
       rw [if_pos rfl]
       exact rn_call ht (rn_if rfl (rn_call (f_l7By hz hk) rfl))
     | false =>
       rw [htq] at ht
       rw [if_neg (by simp)]
       obtain ⟨e1, e2, e3⟩ := encl_up hg (name.length + 1) name (by omega) hu
       have hel := Up.le e1
       have he := f_l7Encloser hz hg hs hu
       generalize encl z (name.length + 1) name = e at e1 e2 e3 hel he ⊢
       have h60 : e.length ≤ 60 := by
        unfold thr at e3
        rw [List.any_eq_true] at e3
        obtain ⟨r, hr, hrb⟩ := e3
        have hok := (rises_of hg.ris).ok r hr
        unfold Rec.ok at hok
        simp only [Bool.and_eq_true] at hok
        have hn := hok.2.1
        unfold isName at hn
        simp only [Bool.and_eq_true, decide_eq_true_eq] at hn
        have := Up.le (bel_iff.1 hrb)
        omega
       have hsl : (star e).length ≤ e.length + 2 := by unfold star; split <;> simp
       have ht2 := f_l7There (s := star e) hz (by omega)
       refine rn_call ht (rn_else (by simp) (rn_call he (rn_if (by simp [catOk, smax_eq]; omega) (rn_bind0 (l := [.str (star e)]) ?_ (rn_call ht2 ?_)))))
       ·unfold star
        by_cases h : e = []
        ·rw [if_pos h]; exact out_if (by simpa using h) rfl
        ·rw [if_neg h]; exact out_else (by simpa using h) rfl
       ·cases htq2 : thr z (star e) with
        | true => rw [if_pos rfl]; exact rn_if rfl (rn_call (f_l7By hz hk) rfl)
        | false =>
          refine rn_else (by simp) ?_
          rw [if_neg (by simp)]; rfl
def typeB (k : Int) : Bool := k == 1 || (k == 2 || (k == 5 || (k == 6 || (k == 15 || k == 16))))
def typesL : List Int := [1, 2, 5, 6, 15, 16]
theorem typesL_any (k : Int) : typesL.any (fun x => k == x) = typeB k := by
 simp [typesL, typeB]
theorem f_isType (k : Int) : e_impl_isType.F [.int k] = some (.bool (typeB k)) := by
 rw [q_impl_isType]
 have hidx : ∃ n : Int, e_slices_Index_int_int.F [.lst (typesL.map .int), .int k] = some (.int n) ∧ decide (n ≥ 0) = typeB k := by
  rw [q_slices_Index_int_int]
  have hlen : (D.lst (typesL.map D.int)).l.length = typesL.length := by simp
  rw [hlen]
  rcases loop_find (l := [.int 0]) (fun i => [.int i]) typesL.length (fun i => !(k == typesL.getD i 0)) (t1 := 0) (t2 := 1) (o1 := fun i => [.int i]) (o2 := []) (f := fun l2 =>
   if (decide ((gd l2 0).i < (typesL.length : Int))) then
    if (inb (gd l2 0).i typesL.length) then
    if ((D.int k).i == (gd (D.lst (typesL.map D.int)).l (gd l2 0).i.toNat).i) then
     ou 1 [(gd l2 0)]
    else
     ou 0 [(.int (IntKind.wrap .i64 ((gd l2 0).i + 1)))]
    else none
   else
    ou 2 []) rfl (by
    intro i hi hp
    rw [getD_lt hi] at hp
    have e0 : (gd [D.int (i : Int)] 0).i.toNat = i := by simp
    have e1 : (gd [D.int (i : Int)] 0).i = i := rfl
    rw [e0, e1, D.l_lst, gd_map hi, wrap_succ hi (by rw [smax_eq]; simp [typesL])]
    exact out_if (by simpa using hi) (out_if (by simpa using inb_nat hi) (out_else (by simpa using hp) rfl))) (by
    intro i hi hp
    rw [getD_lt hi] at hp
    have e0 : (gd [D.int (i : Int)] 0).i.toNat = i := by simp
    rw [e0, D.l_lst, gd_map hi]
    exact out_if (by simpa using hi) (out_if (by simpa using inb_nat hi) (out_if (by simpa using hp) rfl))) (by exact out_else (by simp) rfl) with ⟨hall, hloop⟩ | ⟨j, hj, hpj, _, hloop⟩
  ·refine ⟨-1, rn_bind hloop rfl, ?_⟩
   rw [← typesL_any]
   have : typesL.any (fun x => k == x) = false := by
    rw [List.any_eq_false]
    intro x hx
    obtain ⟨i, hi, rfl⟩ := List.getElem_of_mem hx
    have := hall i hi
    rw [getD_lt hi] at this
    simpa using this
   rw [this]; rfl
  ·refine ⟨j, rn_bind hloop rfl, ?_⟩
   rw [← typesL_any]
   rw [getD_lt hj] at hpj
   have : typesL.any (fun x => k == x) = true := by
    rw [List.any_eq_true]
    exact ⟨_, List.getElem_mem hj, by simpa using hpj⟩
   rw [this]; simp
 obtain ⟨n, h1, h2⟩ := hidx
 have h3 : e_slices_Contains_int_int.F [.lst (typesL.map .int), .int k] = some (.bool (typeB k)) := by
  rw [q_slices_Contains_int_int]
  refine rn_call h1 ?_
  rw [← h2]; rfl
 exact rn_call h3 rfl
theorem f_l3Type (k : Int) : e_spec_l3Type.F [.int k] = some (.bool (typeB k)) := by
 rw [q_spec_l3Type]
 have h3 : e_spec_l1Has.F [.lst (typesL.map .int), .int k] = some (.bool (typeB k)) := by
  rw [q_spec_l1Has]
  have hlen : (D.lst (typesL.map D.int)).l.length = typesL.length := by simp
  rw [hlen]
  refine rn_bind (loop_all' (fun i => [.int i]) typesL.length (fun i => !(typesL.getD i 0 == k)) (t1 := 0) (t2 := 1) (o1 := [.bool true]) (o2 := []) rfl ?_ (by exact out_else (by simp) rfl)) ?_
  ·intro i hi
   rw [getD_lt hi]
   have e0 : (gd [D.int (i : Int)] 0).i.toNat = i := by simp
   have e1 : (gd [D.int (i : Int)] 0).i = i := rfl
   rw [e0, e1, D.l_lst, gd_map hi, wrap_succ hi (by rw [smax_eq]; simp [typesL])]
   refine out_if (by simpa using hi) (out_if (by simpa using inb_nat hi) ?_)
   cases hq : typesL[i] == k with
   | true => exact out_if (by simpa using hq) rfl
   | false => exact out_else (by simpa using hq) rfl
  ·have : allN typesL.length (fun i => !(typesL.getD i 0 == k)) = !(typeB k) := by
    rw [all_allN typesL (fun x => !(x == k)) 0, ← typesL_any, List.not_any_eq_all_not]
    congr 1
    funext x
    rw [Bool.beq_comm (a := x)] <;> rfl
   rw [this]
   cases typeB k <;> rfl
 exact rn_call h3 rfl
theorem typeB_ne {k : Int} (h : typeB k = true) : k ≠ 0 := by
 rintro rfl; exact absurd h (by decide)
noncomputable def askB (z : Zn) (name : List UInt8) (k : Int) : Bool := z.good && (isName name && (typeB k && (k != 6 || name == z.apex)))
theorem f_isAsked {z : Zn} {name : List UInt8} {k : Int} (hz : z.In lim) : e_impl_isAsked.F [z.d, .str name, .int k] = some (.bool (askB z name k)) := by
 rw [q_impl_isAsked]
 have h1 := f_GoodZone hz
 have h2 := f_GoodName name
 have h3 := f_isType k
 refine rn_bind0 (l := [.bool (askB z name k)]) ?_ rfl
 unfold askB
 cases k1 : z.good with
 | false => rw [k1] at h1; exact out_call h1 (out_else (by simp) rfl)
 | true =>
   rw [k1] at h1
   cases k2 : isName name with
   | false => rw [k2] at h2; exact out_call h1 (out_if rfl (out_call h2 (out_else (by simp) rfl)))
   | true =>
     rw [k2] at h2
     cases k3 : typeB k with
     | false => rw [k3] at h3; exact out_call h1 (out_if rfl (out_call h2 (out_if rfl (out_call h3 (out_else (by simp) rfl)))))
     | true =>
       rw [k3] at h3
       refine out_call h1 (out_if rfl (out_call h2 (out_if rfl (out_call h3 (out_if rfl ?_)))))
       by_cases h6 : k = 6
       ·exact out_else (by simp [h6]) (by simp [h6]; rfl)
       ·exact out_if (by simpa using h6) (by simp [h6])
theorem f_l7Ask {z : Zn} {name : List UInt8} {k : Int} (hz : z.In lim) (hs : name.length ≤ lim) : e_spec_l7Ask.F [z.d, .str name, .int k] = some (.bool (askB z name k)) := by
 rw [q_spec_l7Ask]
 have h1 := f_specGoodZone hz
 have h2 := f_specGoodName name hs
 have h3 := f_l3Type k
 refine rn_bind0 (l := [.bool (askB z name k)]) ?_ rfl
 unfold askB
 cases k1 : z.good with
 | false => rw [k1] at h1; exact out_call h1 (out_else (by simp) rfl)
 | true =>
   rw [k1] at h1
   cases k2 : isName name with
   | false => rw [k2] at h2; exact out_call h1 (out_if rfl (out_call h2 (out_else (by simp) rfl)))
   | true =>
     rw [k2] at h2
     cases k3 : typeB k with
     | false => rw [k3] at h3; exact out_call h1 (out_if rfl (out_call h2 (out_if rfl (out_call h3 (out_else (by simp) rfl)))))
     | true =>
       rw [k3] at h3
       refine out_call h1 (out_if rfl (out_call h2 (out_if rfl (out_call h3 (out_if rfl ?_)))))
       by_cases h6 : k = 6
       ·exact out_else (by simp [h6]) (by simp [h6]; rfl)
       ·exact out_if (by simpa using h6) (by simp [h6])
noncomputable def lookT (z : Zn) (name : List UInt8) (k : Int) : Fnd := if askB z name k = true then lookF z name k else Fnd.nul
theorem f_LookUp {z : Zn} {name : List UInt8} {k : Int} (hz : z.In lim) (hs : name.length ≤ lim) : e_impl_LookUp.F [z.d, .str name, .int k] = some (.pair (lookT z name k).d (.pair (.bool (askB z name k)) .unit)) ∧ e_spec_LookUp.F [z.d, .str name, .int k] = some (.pair (lookT z name k).d (.pair (.bool (askB z name k)) .unit)) := by
 rw [q_impl_LookUp, q_spec_LookUp]
 have hI := f_isAsked (name := name) (k := k) hz
 have hS := f_l7Ask (k := k) hz hs
 unfold lookT
 cases ha : askB z name k with
 | false => rw [ha] at hI hS; exact ⟨rn_call hI (rn_if rfl rfl), rn_call hS (rn_if rfl rfl)⟩
 | true =>
   rw [ha] at hI hS
   unfold askB at ha
   simp only [Bool.and_eq_true] at ha
   have hg := Zn.good_iff.1 ha.1
   exact ⟨rn_call hI (rn_else (by simp) (rn_call (f_lookUp hz hg hs) rfl)), rn_call hS (rn_else (by simp) (rn_call (f_l7Look hz hg hs (typeB_ne ha.2.2.1)) rfl))⟩
end Go.Proofs.YtjanpfgbppcphaaGreatDoor
namespace Go.Proofs.YtjanpfgbppcphaaGreatDoor
open Go Go.Own
theorem byF_facts {z : Zn} {o n : List UInt8} {k : Int} (hz : z.In lim) : (byF z o n k).recs.length ≤ lim ∧ (byF z o n k).chain = [] ∧ (byF z o n k).kind ≠ 3 ∧ ((byF z o n k).kind = 2 → ∃ r rs, (byF z o n k).recs = r :: rs ∧ r.type = 5 ∧ r.data.length ≤ lim) := by
 have l1 := List.length_filter_le (isAt o k) z.recs
 have l5 := List.length_filter_le (isAt o 5) z.recs
 have hl := hz.len
 unfold byF
 split
 ·split
  ·exact ⟨by simp, rfl, by simp, by simp⟩
  ·rename_i h5
   refine ⟨by simp; omega, rfl, by simp, fun _ => ?_⟩
   obtain ⟨r, rs, hr⟩ := List.exists_cons_of_ne_nil h5
   have hm : r ∈ z.recs.filter (isAt o 5) := by rw [hr]; simp
   rw [List.mem_filter] at hm
   have hat := hm.2
   unfold isAt at hat
   simp at hat
   simp only
   rw [hr]
   exact ⟨_, _, rfl, hat.2, (hz.all r hm.1).data⟩
 ·exact ⟨by simp; omega, rfl, by simp, by simp⟩
theorem lookF_facts {z : Zn} {n : List UInt8} {k : Int} (hz : z.In lim) : (lookF z n k).recs.length ≤ lim ∧ (lookF z n k).chain = [] ∧ ((lookF z n k).kind = 3 → cutOf z.apex z.recs n = some (lookF z n k).owner) ∧ ((lookF z n k).kind = 2 → ∃ r rs, (lookF z n k).recs = r :: rs ∧ r.type = 5 ∧ r.data.length ≤ lim) := by
 have hl := hz.len
 unfold lookF
 split
 ·split
  ·rename_i c hc
   have l2 := List.length_filter_le (isAt c 2) z.recs
   exact ⟨by simp; omega, rfl, fun _ => hc, by simp⟩
  ·split
   ·obtain ⟨a, b, c, d⟩ := byF_facts (o := n) (n := n) (k := k) hz
    exact ⟨a, b, fun h => absurd h c, d⟩
   ·split
    ·obtain ⟨a, b, c, d⟩ := byF_facts (o := star (encl z (n.length + 1) n)) (n := n) (k := k) hz
     exact ⟨a, b, fun h => absurd h c, d⟩
    ·exact ⟨by simp, rfl, by simp, by simp⟩
 ·exact ⟨by simp, rfl, by simp, by simp⟩
theorem lookT_facts {z : Zn} {n : List UInt8} {k : Int} (hz : z.In lim) : (lookT z n k).recs.length ≤ lim ∧ (lookT z n k).chain.length ≤ lim := by
 unfold lookT
 split
 ·obtain ⟨a, b, _⟩ := lookF_facts (n := n) (k := k) hz
  exact ⟨a, by rw [b]; simp⟩
 ·exact ⟨by simp [Fnd.nul], by simp [Fnd.nul]⟩
theorem f_eqFound {f : Fnd} (h1 : f.recs.length ≤ smax) (h2 : f.chain.length ≤ smax) : e_laws_eqFound.F [f.d, f.d] = some (.bool true) := by
 rw [q_laws_eqFound, if_neg (by simp), if_neg (by simp)]
 exact rn_call (f_eqRecordS h1) (rn_else (by simp) (rn_call (f_eqRecordS h2) (rn_else (by simp) rfl)))
theorem f_markFound {f : Fnd} (h1 : f.recs.length ≤ lim) (h2 : f.chain.length ≤ lim) : ∃ mm, e_laws_markFound.F [f.d, .int 1] = some (.pair (.int (1 + 4 * (f.recs.length : Int) + 4 * (f.chain.length : Int))) (.pair mm .unit)) ∧ mm.fld 2 = .lst ((markedR 1 f.recs.length).map Rec.d) ∧ mm.fld 3 = .lst ((markedR (1 + 4 * (f.recs.length : Int)) f.chain.length).map Rec.d) := by
 have h10 := pow18A
 have hlim : lim = 1048576 := rfl
 rw [q_laws_markFound]
 have f2 : f.d.fld 2 = .lst (f.recs.map Rec.d) := rfl
 have f3 : f.d.fld 3 = .lst (f.chain.map Rec.d) := rfl
 rw [f2, f3]
 have m1 := f_markRecordS (xs := f.recs) (k := 1) (by decide) (by omega)
 have m2 := f_markRecordS (xs := f.chain) (k := 1 + 4 * (f.recs.length : Int)) (by omega) (by omega)
 refine ⟨_, rn_call m1 (rn_call m2 rfl), ?_, ?_⟩
 ·unfold D.mix
  split <;> rfl
 ·unfold D.mix
  split <;> rfl
theorem f_heldFound {a b : D} {n m : Nat} (h1 : n ≤ lim) (h2 : m ≤ lim) : e_laws_heldFound.F [.pair a (.pair b (.pair (.lst ((markedR 1 n).map Rec.d)) (.pair (.lst ((markedR (1 + 4 * (n : Int)) m).map Rec.d)) .unit))), .int 1] = some (.int (1 + 4 * (n : Int) + 4 * (m : Int))) := by
 have h10 := pow18A
 have hlim : lim = 1048576 := rfl
 rw [q_laws_heldFound]
 refine rn_call (f_heldRecordS (k := 1) (n := n) (by decide) (by omega)) (rn_else (fun h => ?_) (rn_call (f_heldRecordS (k := 1 + 4 * (n : Int)) (n := m) (by omega) (by omega)) (rn_else (fun h => ?_) rfl)))
 ·have h' : 1 + 4 * (n : Int) < 0 := of_decide_eq_true h
  omega
 ·have h' : 1 + 4 * (n : Int) + 4 * (m : Int) < 0 := of_decide_eq_true h
  omega
end Go.Proofs.YtjanpfgbppcphaaGreatDoor
namespace Go.Own
variable [Glb]
open Go
theorem upd_len {l : List D} {i j : Nat} {v : D} : (upd l i j v).length = l.length := by simp [upd]
theorem upd2_len {l : List D} {i j k : Nat} {v : D} : (upd2 l i j k v).length = l.length := by simp [upd2]
theorem upd_ne {l : List D} {i j m : Nat} {v : D} (h : i ≠ m) : gd (upd l i j v) m = gd l m := by unfold upd; exact gd_set_ne h
theorem upd2_ne {l : List D} {i j k m : Nat} {v : D} (h : i ≠ m) : gd (upd2 l i j k v) m = gd l m := by unfold upd2; exact gd_set_ne h
theorem gd_upd {l : List D} {i j : Nat} {v : D} (h : i < l.length) : gd (upd l i j v) i = (gd l i).setFld j v := by unfold upd; exact gd_set h
theorem gd_upd2 {l : List D} {i j k : Nat} {v : D} (h : i < l.length) : gd (upd2 l i j k v) i = (gd l i).setFld j (((gd l i).fld j).setFld k v) := by unfold upd2; exact gd_set h
theorem mark_gen {α : Type} {F : List D → Outc} {f : α → D} {xs : List α} {k0 : Int} (B : Int) (hB : 0 ≤ B) (hk0 : 0 ≤ k0)
 (hstep : ∀ (i : Nat) (hi : i < xs.length) (zs : List D) (k : Int), zs.length = xs.length → gd zs i = f xs[i] → 0 ≤ k → k ≤ k0 + i * B → ∃ (zs' : List D) (k' : Int), F [.lst zs, .int k, .int i] = some (0, [.lst zs', .int k', .int ((i + 1 : Nat) : Int)]) ∧ zs'.length = xs.length ∧ (∀ j, i < j → gd zs' j = gd zs j) ∧ 0 ≤ k' ∧ k' ≤ k + B)
 (hend : ∀ (zs : List D) (k : Int), zs.length = xs.length → F [.lst zs, .int k, .int xs.length] = some (1, [.lst zs, .int k])) :
 ∃ (zs : List D) (k : Int), 0 ≤ k ∧ k ≤ k0 + xs.length * B ∧ loopF F [.lst (xs.map f), .int k0, .int 0] = some (0, [.lst zs, .int k]) := by
 obtain ⟨s, hs, hloop⟩ := loop_inv (f := F) (l := [.lst (xs.map f), .int k0, .int 0]) (fun i (s : List D × Int) => [.lst s.1, .int s.2, .int i]) (fun i s => s.1.length = xs.length ∧ (∀ j (hj : j < xs.length), i ≤ j → gd s.1 j = f xs[j]) ∧ 0 ≤ s.2 ∧ s.2 ≤ k0 + i * B) xs.length (t := 0) (out := fun s => [.lst s.1, .int s.2]) (xs.map f, k0) rfl ⟨by simp, fun j hj _ => by rw [gd_lt (by simpa using hj)]; simp, hk0, by simp⟩ (by
  rintro i ⟨zs, k⟩ hi ⟨hzl, hzg, h0, h1⟩
  obtain ⟨zs', k', hF, hl', hn', h0', h1'⟩ := hstep i hi zs k hzl (hzg i hi (Nat.le_refl _)) h0 h1
  refine ⟨(zs', k'), hF, hl', fun j hj hij => ?_, h0', ?_⟩
  ·exact (hn' j (by omega)).trans (hzg j hj (by omega))
  ·simp only at h1 h1' ⊢
   have : ((i + 1 : Nat) : Int) * B = i * B + B := by rw [Int.natCast_add, Int.add_mul]; simp
   rw [this]; omega) (by
  rintro ⟨zs, k⟩ ⟨hzl, _⟩
  exact hend zs k hzl)
 exact ⟨s.1, s.2, hs.2.2.1, hs.2.2.2, hloop⟩
end Go.Own
namespace Go.Proofs.YtjanpfgbppcphaaGreatDoor
open Go Go.Own
theorem w_succ {k : Int} (h0 : 0 ≤ k) (h1 : k ≤ 100000000000000000) : IntKind.wrap .i64 (k + 1) = k + 1 := wrap_id (by omega) (by omega)
theorem mulB {n : Nat} {B : Int} (hn : n ≤ lim) (h0 : 0 ≤ B) (h1 : B ≤ 20000000) : (n : Int) * B ≤ 1048576 * 20000000 ∧ 0 ≤ (n : Int) * B := by
 have hlim : lim = 1048576 := rfl
 constructor
 ·exact Int.mul_le_mul (by omega) h1 h0 (by omega)
 ·exact Int.mul_nonneg (by omega) h0
def Marks (e : List D → Option D) (d : D) : Prop := ∀ k : Int, 0 ≤ k → k ≤ 10000000000000000 → ∃ (k' : Int) (y : D), 0 ≤ k' ∧ k' ≤ k + 30000000000000 ∧ e [d, .int k] = some (.pair (.int k') (.pair y .unit))
theorem marks_Done {xs : List Dn} (hl : xs.length ≤ lim) : Marks e_laws_markDoneS.F (.lst (xs.map Dn.d)) := by
 intro k h0 h1
 have hsm := Nat.le_trans hl lim_smax
 rw [q_laws_markDoneS]
 have hm := mulB (n := xs.length) (B := 4) hl (by decide) (by decide)
 obtain ⟨zs, k', g0, g1, hloop⟩ := mark_gen (f := Dn.d) (xs := xs) (k0 := k) 4 (by decide) h0 (F := fun l2 =>
  if (decide ((gd l2 2).i < ((gd l2 0).l.length : Int))) then
   if (inb (gd l2 2).i (gd l2 0).l.length) then
   ou 0 [(D.lst (upd (upd (upd (upd (gd l2 0).l (gd l2 2).i.toNat 0 (gd l2 1)) (gd l2 2).i.toNat 1 (.int (IntKind.wrap .i64 ((gd l2 1).i + 1)))) (gd l2 2).i.toNat 2 (.int (IntKind.wrap .i64 ((IntKind.wrap .i64 ((gd l2 1).i + 1)) + 1)))) (gd l2 2).i.toNat 3 (.int (IntKind.wrap .i64 ((IntKind.wrap .i64 ((IntKind.wrap .i64 ((gd l2 1).i + 1)) + 1)) + 1))))), (.int (IntKind.wrap .i64 ((IntKind.wrap .i64 ((IntKind.wrap .i64 ((IntKind.wrap .i64 ((gd l2 1).i + 1)) + 1)) + 1)) + 1))), (.int (IntKind.wrap .i64 ((gd l2 2).i + 1)))]
   else none
  else
   ou 1 [(gd l2 0), (gd l2 1)]) (by
  intro i hi zs k2 hzl hg hk0 hk1
  have hi2 := mulB (n := i) (B := 4) (by omega) (by decide) (by decide)
  have e0 : gd [D.lst zs, D.int k2, D.int (i : Int)] 0 = .lst zs := rfl
  have e1 : gd [D.lst zs, D.int k2, D.int (i : Int)] 1 = .int k2 := rfl
  have e2 : gd [D.lst zs, D.int k2, D.int (i : Int)] 2 = .int i := rfl
  refine ⟨upd (upd (upd (upd zs i 0 (.int k2)) i 1 (.int (k2 + 1))) i 2 (.int (k2 + 1 + 1))) i 3 (.int (k2 + 1 + 1 + 1)), k2 + 1 + 1 + 1 + 1, out_if (by rw [e0, e2]; exact decide_eq_true (show (i : Int) < (zs.length : Int) by omega)) (out_if (by rw [e0, e2]; exact inb_nat (by show i < zs.length; omega)) ?_), by simp only [upd_len]; exact hzl, ?_, by omega, by omega⟩
  ·rw [e0, e1, e2]
   simp only [D.l_lst, D.i_int, Int.toNat_natCast, w_succ (k := k2) (by omega) (by omega), w_succ (k := k2 + 1) (by omega) (by omega), w_succ (k := k2 + 1 + 1) (by omega) (by omega), w_succ (k := k2 + 1 + 1 + 1) (by omega) (by omega), wrap_succ hi hsm]
  ·intro j hj
   have hne : i ≠ j := by omega
   rw [upd_ne hne, upd_ne hne, upd_ne hne, upd_ne hne]) (by
  intro zs k2 hzl
  exact out_else (by simp [hzl]) rfl)
 exact ⟨k', .lst zs, g0, by omega, rn_bind hloop rfl⟩
theorem marks_Recs {xs : List Rec} (hl : xs.length ≤ lim) {k : Int} (h0 : 0 ≤ k) (h1 : k ≤ 100000000000000000) : ∃ (k' : Int) (y : D), 0 ≤ k' ∧ k' ≤ k + 4194304 ∧ e_laws_markRecordS.F [.lst (xs.map Rec.d), .int k] = some (.pair (.int k') (.pair y .unit)) := by
 have h10 := pow18A
 have hlim : lim = 1048576 := rfl
 exact ⟨_, _, by omega, by omega, f_markRecordS h0 (by omega)⟩
theorem marks_Text {k : Int} (h0 : 0 ≤ k) (h1 : k ≤ 100000000000000000) : e_laws_markText.F [.int k] = some (.str (mtA k)) := mtA_is h0 (by have h10 := pow18A; omega)
theorem marks_Diffs {xs : List Dif} (hl : xs.length ≤ lim) (hx : ∀ x ∈ xs, x.In lim) : Marks e_laws_markDiffS.F (.lst (xs.map Dif.d)) := by
 intro k h0 h1
 have hsm := Nat.le_trans hl lim_smax
 rw [q_laws_markDiffS]
 have hm := mulB (n := xs.length) (B := 20000000) hl (by decide) (by decide)
 obtain ⟨zs, k', g0, g1, hloop⟩ := mark_gen (f := Dif.d) (xs := xs) (k0 := k) 20000000 (by decide) h0 (F := fun l2 =>
  if (decide ((gd l2 2).i < ((gd l2 0).l.length : Int))) then
   if (inb (gd l2 2).i (gd l2 0).l.length) then
   (e_laws_markRecordS.F [((gd (D.lst (upd (upd (gd l2 0).l (gd l2 2).i.toNat 0 (gd l2 1)) (gd l2 2).i.toNat 1 (.int (IntKind.wrap .i64 ((gd l2 1).i + 1))))).l (gd l2 2).i.toNat).fld 2), (.int (IntKind.wrap .i64 ((IntKind.wrap .i64 ((gd l2 1).i + 1)) + 1)))]).bind fun r5 =>
   (e_laws_markRecordS.F [((gd (D.lst (upd (upd (upd (gd l2 0).l (gd l2 2).i.toNat 0 (gd l2 1)) (gd l2 2).i.toNat 1 (.int (IntKind.wrap .i64 ((gd l2 1).i + 1)))) (gd l2 2).i.toNat 2 (r5.fld 1))).l (gd l2 2).i.toNat).fld 3), (r5.fld 0)]).bind fun r6 =>
   ou 0 [(D.lst (upd (upd (upd (upd (gd l2 0).l (gd l2 2).i.toNat 0 (gd l2 1)) (gd l2 2).i.toNat 1 (.int (IntKind.wrap .i64 ((gd l2 1).i + 1)))) (gd l2 2).i.toNat 2 (r5.fld 1)) (gd l2 2).i.toNat 3 (r6.fld 1))), (r6.fld 0), (.int (IntKind.wrap .i64 ((gd l2 2).i + 1)))]
   else none
  else
   ou 1 [(gd l2 0), (gd l2 1)]) (by
  intro i hi zs k2 hzl hg hk0 hk1
  have hi2 := mulB (n := i) (B := 20000000) (by omega) (by decide) (by decide)
  have hzi : i < zs.length := by omega
  have e0 : gd [D.lst zs, D.int k2, D.int (i : Int)] 0 = .lst zs := rfl
  have e1 : gd [D.lst zs, D.int k2, D.int (i : Int)] 1 = .int k2 := rfl
  have e2 : gd [D.lst zs, D.int k2, D.int (i : Int)] 2 = .int i := rfl
  have hxi := hx _ (List.getElem_mem hi)
  obtain ⟨k3, y3, a3, b3, h3⟩ := marks_Recs (xs := xs[i].dels) hxi.dels.len (k := k2 + 1 + 1) (by omega) (by omega)
  obtain ⟨k4, y4, a4, b4, h4⟩ := marks_Recs (xs := xs[i].adds) hxi.adds.len (k := k3) (by omega) (by omega)
  refine ⟨upd (upd (upd (upd zs i 0 (.int k2)) i 1 (.int (k2 + 1))) i 2 y3) i 3 y4, k4, out_if (by rw [e0, e2]; exact decide_eq_true (show (i : Int) < (zs.length : Int) by omega)) (out_if (by rw [e0, e2]; exact inb_nat hzi) (out_call (r := .pair (.int k3) (.pair y3 .unit)) ?_ (out_call (r := .pair (.int k4) (.pair y4 .unit)) ?_ ?_))), by simp only [upd_len]; exact hzl, ?_, by omega, by omega⟩
  ·rw [e0, e1, e2]
   simp only [D.l_lst, D.i_int, Int.toNat_natCast, gd_upd, upd_len, hzi, hg, w_succ (k := k2) (by omega) (by omega), w_succ (k := k2 + 1) (by omega) (by omega)]
   exact h3
  ·rw [e0, e1, e2]
   simp only [D.l_lst, D.i_int, Int.toNat_natCast, gd_upd, upd_len, hzi, hg]
   exact h4
  ·rw [e0, e1, e2]
   simp only [D.l_lst, D.i_int, Int.toNat_natCast, w_succ (k := k2) (by omega) (by omega), wrap_succ hi hsm]
   rfl
  ·intro j hj
   have hne : i ≠ j := by omega
   rw [upd_ne hne, upd_ne hne, upd_ne hne, upd_ne hne]) (by
  intro zs k2 hzl
  exact out_else (by simp [hzl]) rfl)
 exact ⟨k', .lst zs, g0, by omega, rn_bind hloop rfl⟩
theorem marks_Edges {xs : List Edg} (hl : xs.length ≤ lim) (hx : ∀ x ∈ xs, x.In lim) : Marks e_laws_markEdgeS.F (.lst (xs.map Edg.d)) := by
 intro k h0 h1
 have hsm := Nat.le_trans hl lim_smax
 rw [q_laws_markEdgeS]
 have hm := mulB (n := xs.length) (B := 20000000) hl (by decide) (by decide)
 obtain ⟨zs, k', g0, g1, hloop⟩ := mark_gen (f := Edg.d) (xs := xs) (k0 := k) 20000000 (by decide) h0 (F := fun l2 =>
  if (decide ((gd l2 2).i < ((gd l2 0).l.length : Int))) then
   (e_laws_markText.F [(gd l2 1)]).bind fun r5 =>
   if (inb (gd l2 2).i (gd l2 0).l.length) then
   (e_laws_markRecordS.F [(((gd (D.lst (upd2 (upd2 (gd l2 0).l (gd l2 2).i.toNat 0 0 r5) (gd l2 2).i.toNat 0 1 (.int (IntKind.wrap .i64 ((gd l2 1).i + 1))))).l (gd l2 2).i.toNat).fld 0).fld 2), (.int (IntKind.wrap .i64 ((IntKind.wrap .i64 ((gd l2 1).i + 1)) + 1)))]).bind fun r6 =>
   (e_laws_markText.F [(r6.fld 0)]).bind fun r7 =>
   (e_laws_markRecordS.F [(((gd (D.lst (upd2 (upd2 (upd2 (upd2 (upd2 (gd l2 0).l (gd l2 2).i.toNat 0 0 r5) (gd l2 2).i.toNat 0 1 (.int (IntKind.wrap .i64 ((gd l2 1).i + 1)))) (gd l2 2).i.toNat 0 2 (r6.fld 1)) (gd l2 2).i.toNat 1 0 r7) (gd l2 2).i.toNat 1 1 (.int (IntKind.wrap .i64 ((r6.fld 0).i + 1))))).l (gd l2 2).i.toNat).fld 1).fld 2), (.int (IntKind.wrap .i64 ((IntKind.wrap .i64 ((r6.fld 0).i + 1)) + 1)))]).bind fun r8 =>
   ou 0 [(D.lst (upd2 (upd2 (upd2 (upd2 (upd2 (upd2 (gd l2 0).l (gd l2 2).i.toNat 0 0 r5) (gd l2 2).i.toNat 0 1 (.int (IntKind.wrap .i64 ((gd l2 1).i + 1)))) (gd l2 2).i.toNat 0 2 (r6.fld 1)) (gd l2 2).i.toNat 1 0 r7) (gd l2 2).i.toNat 1 1 (.int (IntKind.wrap .i64 ((r6.fld 0).i + 1)))) (gd l2 2).i.toNat 1 2 (r8.fld 1))), (r8.fld 0), (.int (IntKind.wrap .i64 ((gd l2 2).i + 1)))]
   else none
  else
   ou 1 [(gd l2 0), (gd l2 1)]) (by
  intro i hi zs k2 hzl hg hk0 hk1
  have hi2 := mulB (n := i) (B := 20000000) (by omega) (by decide) (by decide)
  have hzi : i < zs.length := by omega
  have e0 : gd [D.lst zs, D.int k2, D.int (i : Int)] 0 = .lst zs := rfl
  have e1 : gd [D.lst zs, D.int k2, D.int (i : Int)] 1 = .int k2 := rfl
  have e2 : gd [D.lst zs, D.int k2, D.int (i : Int)] 2 = .int i := rfl
  have hxi := hx _ (List.getElem_mem hi)
  obtain ⟨k3, y3, a3, b3, h3⟩ := marks_Recs (xs := xs[i].zone.recs) hxi.zone.len (k := k2 + 1 + 1) (by omega) (by omega)
  obtain ⟨k4, y4, a4, b4, h4⟩ := marks_Recs (xs := xs[i].saved.recs) hxi.saved.len (k := k3 + 1 + 1) (by omega) (by omega)
  refine ⟨upd2 (upd2 (upd2 (upd2 (upd2 (upd2 zs i 0 0 (.str (mtA k2))) i 0 1 (.int (k2 + 1))) i 0 2 y3) i 1 0 (.str (mtA k3))) i 1 1 (.int (k3 + 1))) i 1 2 y4, k4, out_if (by rw [e0, e2]; exact decide_eq_true (show (i : Int) < (zs.length : Int) by omega)) (out_call (r := .str (mtA k2)) (marks_Text (by omega) (by omega)) (out_if (by rw [e0, e2]; exact inb_nat hzi) (out_call (r := .pair (.int k3) (.pair y3 .unit)) ?_ (out_call (r := .str (mtA k3)) (marks_Text (by omega) (by omega)) (out_call (r := .pair (.int k4) (.pair y4 .unit)) ?_ ?_))))), by simp only [upd2_len]; exact hzl, ?_, by omega, by omega⟩
  ·rw [e0, e1, e2]
   simp only [D.l_lst, D.i_int, Int.toNat_natCast, gd_upd2, upd2_len, hzi, hg, w_succ (k := k2) (by omega) (by omega), w_succ (k := k2 + 1) (by omega) (by omega)]
   exact h3
  ·have f0 : (D.pair (.int k3) (.pair y3 .unit)).fld 0 = .int k3 := rfl
   rw [e0, e1, e2, f0]
   simp only [D.l_lst, D.i_int, Int.toNat_natCast, gd_upd2, upd2_len, hzi, hg, w_succ (k := k3) (by omega) (by omega), w_succ (k := k3 + 1) (by omega) (by omega)]
   exact h4
  ·have f0 : (D.pair (.int k3) (.pair y3 .unit)).fld 0 = .int k3 := rfl
   rw [e0, e1, e2, f0]
   simp only [D.l_lst, D.i_int, Int.toNat_natCast, w_succ (k := k2) (by omega) (by omega), w_succ (k := k3) (by omega) (by omega), wrap_succ hi hsm]
   rfl
  ·intro j hj
   have hne : i ≠ j := by omega
   rw [upd2_ne hne, upd2_ne hne, upd2_ne hne, upd2_ne hne, upd2_ne hne, upd2_ne hne]) (by
  intro zs k2 hzl
  exact out_else (by simp [hzl]) rfl)
 exact ⟨k', .lst zs, g0, by omega, rn_bind hloop rfl⟩
theorem marks_Parcels {xs : List Prc} (hl : xs.length ≤ lim) (hx : ∀ x ∈ xs, x.In lim) : Marks e_laws_markParcelS.F (.lst (xs.map Prc.d)) := by
 intro k h0 h1
 have hsm := Nat.le_trans hl lim_smax
 rw [q_laws_markParcelS]
 have hm := mulB (n := xs.length) (B := 20000000) hl (by decide) (by decide)
 obtain ⟨zs, k', g0, g1, hloop⟩ := mark_gen (f := Prc.d) (xs := xs) (k0 := k) 20000000 (by decide) h0 (F := fun l2 =>
  if (decide ((gd l2 2).i < ((gd l2 0).l.length : Int))) then
   if (inb (gd l2 2).i (gd l2 0).l.length) then
   if (3 != 0) then
   (e_laws_markText.F [(.int (IntKind.wrap .i64 ((IntKind.wrap .i64 ((gd l2 1).i + 1)) + 1)))]).bind fun r5 =>
   (e_laws_markRecordS.F [(((gd (D.lst (upd2 (upd2 (upd (upd (gd l2 0).l (gd l2 2).i.toNat 0 (gd l2 1)) (gd l2 2).i.toNat 1 (.bool (((IntKind.wrap .i64 ((gd l2 1).i + 1)).tmod 3) == 0))) (gd l2 2).i.toNat 2 0 r5) (gd l2 2).i.toNat 2 1 (.int (IntKind.wrap .i64 ((IntKind.wrap .i64 ((IntKind.wrap .i64 ((gd l2 1).i + 1)) + 1)) + 1))))).l (gd l2 2).i.toNat).fld 2).fld 2), (.int (IntKind.wrap .i64 ((IntKind.wrap .i64 ((IntKind.wrap .i64 ((IntKind.wrap .i64 ((gd l2 1).i + 1)) + 1)) + 1)) + 1)))]).bind fun r6 =>
   (e_laws_markRecordS.F [(((gd (D.lst (upd2 (upd2 (upd2 (upd2 (upd2 (upd (upd (gd l2 0).l (gd l2 2).i.toNat 0 (gd l2 1)) (gd l2 2).i.toNat 1 (.bool (((IntKind.wrap .i64 ((gd l2 1).i + 1)).tmod 3) == 0))) (gd l2 2).i.toNat 2 0 r5) (gd l2 2).i.toNat 2 1 (.int (IntKind.wrap .i64 ((IntKind.wrap .i64 ((IntKind.wrap .i64 ((gd l2 1).i + 1)) + 1)) + 1)))) (gd l2 2).i.toNat 2 2 (r6.fld 1)) (gd l2 2).i.toNat 3 0 (r6.fld 0)) (gd l2 2).i.toNat 3 1 (.int (IntKind.wrap .i64 ((r6.fld 0).i + 1))))).l (gd l2 2).i.toNat).fld 3).fld 2), (.int (IntKind.wrap .i64 ((IntKind.wrap .i64 ((r6.fld 0).i + 1)) + 1)))]).bind fun r7 =>
   (e_laws_markRecordS.F [(((gd (D.lst (upd2 (upd2 (upd2 (upd2 (upd2 (upd2 (upd (upd (gd l2 0).l (gd l2 2).i.toNat 0 (gd l2 1)) (gd l2 2).i.toNat 1 (.bool (((IntKind.wrap .i64 ((gd l2 1).i + 1)).tmod 3) == 0))) (gd l2 2).i.toNat 2 0 r5) (gd l2 2).i.toNat 2 1 (.int (IntKind.wrap .i64 ((IntKind.wrap .i64 ((IntKind.wrap .i64 ((gd l2 1).i + 1)) + 1)) + 1)))) (gd l2 2).i.toNat 2 2 (r6.fld 1)) (gd l2 2).i.toNat 3 0 (r6.fld 0)) (gd l2 2).i.toNat 3 1 (.int (IntKind.wrap .i64 ((r6.fld 0).i + 1)))) (gd l2 2).i.toNat 3 2 (r7.fld 1))).l (gd l2 2).i.toNat).fld 3).fld 3), (r7.fld 0)]).bind fun r8 =>
   ou 0 [(D.lst (upd2 (upd2 (upd2 (upd2 (upd2 (upd2 (upd2 (upd (upd (gd l2 0).l (gd l2 2).i.toNat 0 (gd l2 1)) (gd l2 2).i.toNat 1 (.bool (((IntKind.wrap .i64 ((gd l2 1).i + 1)).tmod 3) == 0))) (gd l2 2).i.toNat 2 0 r5) (gd l2 2).i.toNat 2 1 (.int (IntKind.wrap .i64 ((IntKind.wrap .i64 ((IntKind.wrap .i64 ((gd l2 1).i + 1)) + 1)) + 1)))) (gd l2 2).i.toNat 2 2 (r6.fld 1)) (gd l2 2).i.toNat 3 0 (r6.fld 0)) (gd l2 2).i.toNat 3 1 (.int (IntKind.wrap .i64 ((r6.fld 0).i + 1)))) (gd l2 2).i.toNat 3 2 (r7.fld 1)) (gd l2 2).i.toNat 3 3 (r8.fld 1))), (r8.fld 0), (.int (IntKind.wrap .i64 ((gd l2 2).i + 1)))]
   else none
   else none
  else
   ou 1 [(gd l2 0), (gd l2 1)]) (by
  intro i hi zs k2 hzl hg hk0 hk1
  have hi2 := mulB (n := i) (B := 20000000) (by omega) (by decide) (by decide)
  have hzi : i < zs.length := by omega
  have e0 : gd [D.lst zs, D.int k2, D.int (i : Int)] 0 = .lst zs := rfl
  have e1 : gd [D.lst zs, D.int k2, D.int (i : Int)] 1 = .int k2 := rfl
  have e2 : gd [D.lst zs, D.int k2, D.int (i : Int)] 2 = .int i := rfl
  have hxi := hx _ (List.getElem_mem hi)
  obtain ⟨k3, y3, a3, b3, h3⟩ := marks_Recs (xs := xs[i].zone.recs) hxi.zone.len (k := k2 + 1 + 1 + 1 + 1) (by omega) (by omega)
  obtain ⟨k4, y4, a4, b4, h4⟩ := marks_Recs (xs := xs[i].diff.dels) hxi.diff.dels.len (k := k3 + 1 + 1) (by omega) (by omega)
  obtain ⟨k5, y5, a5, b5, h5⟩ := marks_Recs (xs := xs[i].diff.adds) hxi.diff.adds.len (k := k4) (by omega) (by omega)
  have w1 := w_succ (k := k2) (by omega) (by omega)
  have w2 := w_succ (k := k2 + 1) (by omega) (by omega)
  have w3 := w_succ (k := k2 + 1 + 1) (by omega) (by omega)
  have w4 := w_succ (k := k2 + 1 + 1 + 1) (by omega) (by omega)
  have w5 := w_succ (k := k3) (by omega) (by omega)
  have w6 := w_succ (k := k3 + 1) (by omega) (by omega)
  have f6 : (D.pair (.int k3) (.pair y3 .unit)).fld 0 = .int k3 := rfl
  have f7 : (D.pair (.int k4) (.pair y4 .unit)).fld 0 = .int k4 := rfl
  refine ⟨upd2 (upd2 (upd2 (upd2 (upd2 (upd2 (upd2 (upd (upd zs i 0 (.int k2)) i 1 (.bool ((k2 + 1).tmod 3 == 0))) i 2 0 (.str (mtA (k2 + 1 + 1)))) i 2 1 (.int (k2 + 1 + 1 + 1))) i 2 2 y3) i 3 0 (.int k3)) i 3 1 (.int (k3 + 1))) i 3 2 y4) i 3 3 y5, k5, out_if (by rw [e0, e2]; exact decide_eq_true (show (i : Int) < (zs.length : Int) by omega)) (out_if (by rw [e0, e2]; exact inb_nat hzi) (out_if (by decide) (out_call (r := .str (mtA (k2 + 1 + 1))) ?_ (out_call (r := .pair (.int k3) (.pair y3 .unit)) ?_ (out_call (r := .pair (.int k4) (.pair y4 .unit)) ?_ (out_call (r := .pair (.int k5) (.pair y5 .unit)) ?_ ?_)))))), by simp only [upd_len, upd2_len]; exact hzl, ?_, by omega, by omega⟩
  ·rw [e1, D.i_int, w1, w2]
   exact marks_Text (by omega) (by omega)
  ·rw [e0, e1, e2]
   simp only [D.l_lst, D.i_int, Int.toNat_natCast, gd_upd, gd_upd2, upd_len, upd2_len, hzi, hg, w1, w2, w3, w4]
   exact h3
  ·rw [e0, e1, e2, f6]
   simp only [D.l_lst, D.i_int, Int.toNat_natCast, gd_upd, gd_upd2, upd_len, upd2_len, hzi, hg, w1, w2, w3, w4, w5, w6]
   exact h4
  ·rw [e0, e1, e2, f6, f7]
   simp only [D.l_lst, D.i_int, Int.toNat_natCast, gd_upd, gd_upd2, upd_len, upd2_len, hzi, hg, w1, w2, w3, w4, w5, w6]
   exact h5
  ·rw [e0, e1, e2, f6]
   simp only [D.l_lst, D.i_int, Int.toNat_natCast, w1, w2, w3, w5, wrap_succ hi hsm]
   rfl
  ·intro j hj
   have hne : i ≠ j := by omega
   rw [upd2_ne hne, upd2_ne hne, upd2_ne hne, upd2_ne hne, upd2_ne hne, upd2_ne hne, upd2_ne hne, upd_ne hne, upd_ne hne]) (by
  intro zs k2 hzl
  exact out_else (by simp [hzl]) rfl)
 exact ⟨k', .lst zs, g0, by omega, rn_bind hloop rfl⟩
theorem f_markFleet {f : Flt} (hf : f.In lim) : ∃ (k : Int) (y : D), 0 ≤ k ∧ e_laws_markFleet.F [f.d, .int 1] = some (.pair (.int k) (.pair y .unit)) := by
 have hlim : lim = 1048576 := rfl
 obtain ⟨k1, y1, a1, b1, h1⟩ := marks_Recs (xs := f.ctl.zone.recs) hf.ctl.zone.len (k := 1) (by decide) (by decide)
 obtain ⟨k2, y2, a2, b2, h2⟩ := marks_Done hf.ctl.len k1 (by omega) (by omega)
 obtain ⟨k3, y3, a3, b3, h3⟩ := marks_Diffs hf.jrn.len hf.jrn.all k2 (by omega) (by omega)
 obtain ⟨k4, y4, a4, b4, h4⟩ := marks_Edges hf.elen hf.eall k3 (by omega) (by omega)
 obtain ⟨k5, y5, a5, b5, h5⟩ := marks_Parcels hf.plen hf.pall k4 (by omega) (by omega)
 have c1 : ∃ y, e_laws_markZone.F [f.ctl.zone.d, .int 1] = some (.pair (.int k1) (.pair y .unit)) := by
  rw [q_laws_markZone]
  have f2 : f.ctl.zone.d.fld 2 = .lst (f.ctl.zone.recs.map Rec.d) := rfl
  rw [f2]
  exact ⟨_, rn_call h1 rfl⟩
 obtain ⟨z1, c1⟩ := c1
 have c2 : ∃ y, e_laws_markControl.F [f.ctl.d, .int 1] = some (.pair (.int k2) (.pair y .unit)) := by
  rw [q_laws_markControl]
  have f0 : f.ctl.d.fld 0 = f.ctl.zone.d := rfl
  have f1 : f.ctl.d.fld 1 = .lst (f.ctl.last.map Dn.d) := rfl
  rw [f0, f1]
  exact ⟨_, rn_call c1 (rn_call (r := .pair (.int k2) (.pair y2 .unit)) h2 rfl)⟩
 obtain ⟨z2, c2⟩ := c2
 have c3 : ∃ y, e_laws_markJournal.F [f.jrn.d, .int k2] = some (.pair (.int k3) (.pair y .unit)) := by
  rw [q_laws_markJournal]
  have f2 : f.jrn.d.fld 2 = .lst (f.jrn.diffs.map Dif.d) := rfl
  rw [f2]
  exact ⟨_, rn_call h3 rfl⟩
 obtain ⟨z3, c3⟩ := c3
 rw [q_laws_markFleet]
 have f0 : f.d.fld 0 = f.ctl.d := rfl
 have f1 : f.d.fld 1 = f.jrn.d := rfl
 have f2 : f.d.fld 2 = .lst (f.edges.map Edg.d) := rfl
 have f3 : f.d.fld 3 = .lst (f.parcels.map Prc.d) := rfl
 rw [f0, f1, f2, f3]
 exact ⟨k5, _, a5, rn_call c2 (rn_call (r := .pair (.int k3) (.pair z3 .unit)) c3 (rn_call (r := .pair (.int k4) (.pair y4 .unit)) h4 (rn_call (r := .pair (.int k5) (.pair y5 .unit)) h5 rfl)))⟩
theorem f_AnswerAt {f : Flt} (hf : f.In lim) (n : Int) {s : List UInt8} (hs : s.length ≤ lim) (k m : Int) : ∃ (x : Fnd) (a b : Bool), x.recs.length ≤ lim ∧ x.chain.length ≤ lim ∧ e_impl_AnswerAt.F [f.d, .int n, .str s, .int k, .int m] = some (.pair x.d (.pair (.bool a) (.pair (.bool b) .unit))) ∧ e_spec_AnswerAt.F [f.d, .int n, .str s, .int k, .int m] = some (.pair x.d (.pair (.bool a) (.pair (.bool b) .unit))) := by
 have hlim : lim = 1048576 := rfl
 rw [q_impl_AnswerAt, q_spec_AnswerAt]
 have f2 : (f.d.fld 2).l = f.edges.map Edg.d := rfl
 have hw : IntKind.wrap .i64 ((f.edges.length : Int) - 1) = (f.edges.length : Int) - 1 := by have := hf.elen; rw [wrap_id] <;> omega
 simp only [f2, List.length_map, hw]
 have h1 := f_GoodFleet hf
 have h2 := f_specGoodFleet hf
 have h3 := f_withinP n 0 ((f.edges.length : Int) - 1)
 have h4 := f_l1InP n 0 ((f.edges.length : Int) - 1)
 have hnul : Fnd.nul.recs.length ≤ lim ∧ Fnd.nul.chain.length ≤ lim := ⟨by simp [Fnd.nul], by simp [Fnd.nul]⟩
 cases k1 : f.good with
 | false =>
   rw [k1] at h1 h2
   exact ⟨Fnd.nul, false, false, hnul.1, hnul.2, rn_bind0 (l := [.bool true]) (out_call h1 (out_if rfl rfl)) (rn_if rfl rfl), rn_bind0 (l := [.bool true]) (out_call h2 (out_if rfl rfl)) (rn_if rfl rfl)⟩
 | true =>
   rw [k1] at h1 h2
   cases k2 : inP n 0 ((f.edges.length : Int) - 1) with
   | false =>
     rw [k2] at h3 h4
     exact ⟨Fnd.nul, false, false, hnul.1, hnul.2, rn_bind0 (l := [.bool true]) (out_call h1 (out_else (by simp) (out_call h3 rfl))) (rn_if rfl rfl), rn_bind0 (l := [.bool true]) (out_call h2 (out_else (by simp) (out_call h4 rfl))) (rn_if rfl rfl)⟩
   | true =>
     rw [k2] at h3 h4
     simp only [inP, Bool.and_eq_true, decide_eq_true_eq] at k2
     obtain ⟨i, rfl⟩ := Int.eq_ofNat_of_zero_le k2.1
     have hi : i < f.edges.length := by omega
     have hz := (hf.eall _ (List.getElem_mem hi)).zone
     obtain ⟨hLI, hLS⟩ := f_LookUp (k := k) hz hs
     obtain ⟨hf1, hf2⟩ := lookT_facts (n := s) (k := k) hz
     have g0 : (gd (f.edges.map Edg.d) (i : Int).toNat).fld 0 = f.edges[i].zone.d := by
      rw [Int.toNat_natCast, gd_map hi]; rfl
     have g1 : (f.edges[i].zone.d.fld 1).i = f.edges[i].zone.counter := rfl
     simp only [D.i_int, g0, g1]
     have pI : ∀ R : Option D, (rn (if (!(askB f.edges[i].zone s k)) = true then ou 0 [(.pair (.pair (.int 0) (.pair (.str []) (.pair (D.lst []) (.pair (D.lst []) .unit)))) (.pair (.bool false) (.pair (.bool false) .unit)))] else if (decide (f.edges[i].zone.counter < m)) = true then ou 0 [(.pair (.pair (.int 0) (.pair (.str []) (.pair (D.lst []) (.pair (D.lst []) .unit)))) (.pair (.bool false) (.pair (.bool true) .unit)))] else ou 0 [(.pair (lookT f.edges[i].zone s k).d (.pair (.bool true) (.pair (.bool true) .unit)))]) = R) →
      rn (if inb (i : Int) f.edges.length = true then (e_impl_LookUp.F [f.edges[i].zone.d, .str s, .int k]).bind fun r6 => if (!(r6.fld 1).b) = true then ou 0 [(.pair (.pair (.int 0) (.pair (.str []) (.pair (D.lst []) (.pair (D.lst []) .unit)))) (.pair (.bool false) (.pair (.bool false) .unit)))] else if (decide (f.edges[i].zone.counter < m)) = true then ou 0 [(.pair (.pair (.int 0) (.pair (.str []) (.pair (D.lst []) (.pair (D.lst []) .unit)))) (.pair (.bool false) (.pair (.bool true) .unit)))] else ou 0 [(.pair (r6.fld 0) (.pair (.bool true) (.pair (.bool true) .unit)))] else none) = R := fun R h => rn_if (inb_nat hi) (rn_call hLI h)
     have pS : ∀ R : Option D, (rn (if (!(askB f.edges[i].zone s k)) = true then ou 0 [(.pair (.pair (.int 0) (.pair (.str []) (.pair (D.lst []) (.pair (D.lst []) .unit)))) (.pair (.bool false) (.pair (.bool false) .unit)))] else if (decide (f.edges[i].zone.counter < m)) = true then ou 0 [(.pair (.pair (.int 0) (.pair (.str []) (.pair (D.lst []) (.pair (D.lst []) .unit)))) (.pair (.bool false) (.pair (.bool true) .unit)))] else ou 0 [(.pair (lookT f.edges[i].zone s k).d (.pair (.bool true) (.pair (.bool true) .unit)))]) = R) →
      rn (if inb (i : Int) f.edges.length = true then (e_spec_LookUp.F [f.edges[i].zone.d, .str s, .int k]).bind fun r6 => if (!(r6.fld 1).b) = true then ou 0 [(.pair (.pair (.int 0) (.pair (.str []) (.pair (D.lst []) (.pair (D.lst []) .unit)))) (.pair (.bool false) (.pair (.bool false) .unit)))] else if (decide (f.edges[i].zone.counter < m)) = true then ou 0 [(.pair (.pair (.int 0) (.pair (.str []) (.pair (D.lst []) (.pair (D.lst []) .unit)))) (.pair (.bool false) (.pair (.bool true) .unit)))] else ou 0 [(.pair (r6.fld 0) (.pair (.bool true) (.pair (.bool true) .unit)))] else none) = R := fun R h => rn_if (inb_nat hi) (rn_call hLS h)
     cases ha : askB f.edges[i].zone s k with
     | false => exact ⟨Fnd.nul, false, false, hnul.1, hnul.2, rn_bind0 (l := [.bool false]) (out_call h1 (out_else (by simp) (out_call h3 rfl))) (rn_else (by simp) (pI _ <| rn_if (by rw [ha]; rfl) rfl)), rn_bind0 (l := [.bool false]) (out_call h2 (out_else (by simp) (out_call h4 rfl))) (rn_else (by simp) (pS _ <| rn_if (by rw [ha]; rfl) rfl))⟩
     | true =>
       by_cases hm : f.edges[i].zone.counter < m
       ·exact ⟨Fnd.nul, false, true, hnul.1, hnul.2, rn_bind0 (l := [.bool false]) (out_call h1 (out_else (by simp) (out_call h3 rfl))) (rn_else (by simp) (pI _ <| rn_else (by rw [ha]; simp) (rn_if (decide_eq_true hm) rfl))), rn_bind0 (l := [.bool false]) (out_call h2 (out_else (by simp) (out_call h4 rfl))) (rn_else (by simp) (pS _ <| rn_else (by rw [ha]; simp) (rn_if (decide_eq_true hm) rfl)))⟩
       ·exact ⟨lookT f.edges[i].zone s k, true, true, hf1, hf2, rn_bind0 (l := [.bool false]) (out_call h1 (out_else (by simp) (out_call h3 rfl))) (rn_else (by simp) (pI _ <| rn_else (by rw [ha]; simp) (rn_else (fun h => hm (of_decide_eq_true h)) rfl))), rn_bind0 (l := [.bool false]) (out_call h2 (out_else (by simp) (out_call h4 rfl))) (rn_else (by simp) (pS _ <| rn_else (by rw [ha]; simp) (rn_else (fun h => hm (of_decide_eq_true h)) rfl)))⟩
theorem law_FnExactAnswerAt {a b c d e : D} (ha : Sm smax tFlt a) (hb : Sm smax (.int .i64) b) (hc : Sm smax .str c) (hd : Sm smax (.int .i64) d) (he : Sm smax (.int .i64) e) : e_laws_FnExactAnswerAt.F [a, b, c, d, e] = some (.bool true) := by
 obtain ⟨f, rfl, hi⟩ := flt_of ha
 obtain ⟨n, rfl, _⟩ := hb
 obtain ⟨s, rfl, hs⟩ := hc
 obtain ⟨k, rfl, _⟩ := hd
 obtain ⟨m, rfl, _⟩ := he
 rw [q_laws_FnExactAnswerAt]
 have hlim : lim = 1048576 := rfl
 have hsm : lim ≤ smax := lim_smax
 by_cases hl : (s.length : Int) > 1048576
 ·exact rn_if (decide_eq_true hl) rfl
 refine rn_else (fun h => hl (of_decide_eq_true h)) ?_
 obtain ⟨r, h1, h2⟩ := f_szFleet hi (left := 1048576) (by decide) (by decide)
 refine rn_call h1 ?_
 by_cases hr : r < 0
 ·exact rn_if (decide_eq_true hr) rfl
 refine rn_else (fun h => hr (of_decide_eq_true h)) ?_
 have hw := h2 (by omega)
 have ht := f_toFleet hw
 obtain ⟨x, p, q, hf1, hf2, hI, hS⟩ := f_AnswerAt hw n (s := s) (by omega) k m
 have heq := f_eqFound (f := x) (by omega) (by omega)
 obtain ⟨kk, yy, hk0, hmw⟩ := f_markFleet hw
 obtain ⟨mm, hm, hmm2, hmm3⟩ := f_markFound hf1 hf2
 have hh := fun a b => f_heldFound (a := a) (b := b) hf1 hf2
 have f0 : (D.pair x.d (.pair (.bool p) (.pair (.bool q) .unit))).fld 0 = x.d := rfl
 have hneg : ¬ decide ((D.int (1 + 4 * (x.recs.length : Int) + 4 * (x.chain.length : Int))).i < 0) = true := fun h => by
  have h' : 1 + 4 * (x.recs.length : Int) + 4 * (x.chain.length : Int) < 0 := of_decide_eq_true h
  omega
 refine rn_call ht (rn_call hS (rn_call ht (rn_call hI (rn_bind0 (l := [.bool false]) (by rw [f0]; exact out_call heq (out_else (by simp) (out_else (by simp [D.fld]) (by simp [D.fld])))) (rn_else (by simp) (rn_call ht (rn_call (f_eqFleet hw.smax) (rn_else (by simp) (rn_call hmw (rn_bind0 (l := [.bool false]) (out_else (fun h => ?_) (by rw [f0]; exact out_call heq (out_else (by simp) (out_else (by simp [D.fld]) (by simp [D.fld]))))) (rn_else (by simp) ?_)))))))))))
 ·have h' : kk < 0 := of_decide_eq_true h
  omega
 rw [f0]
 have g2 : ((D.pair (.int (1 + 4 * (x.recs.length : Int) + 4 * (x.chain.length : Int))) (.pair mm .unit)).fld 1).fld 2 = .lst ((markedR 1 x.recs.length).map Rec.d) := hmm2
 have g3 : ((D.pair (.int (1 + 4 * (x.recs.length : Int) + 4 * (x.chain.length : Int))) (.pair mm .unit)).fld 1).fld 3 = .lst ((markedR (1 + 4 * (x.recs.length : Int)) x.chain.length).map Rec.d) := hmm3
 refine rn_call hm ?_
 rw [g2, g3]
 refine rn_call (hh _ _) (rn_else hneg (rn_else (by simp [D.fld]) (rn_call ht (rn_call hI (rn_bind0 (l := [.bool false]) (by rw [f0]; exact out_call heq (out_else (by simp) (out_else (by simp [D.fld]) (by simp [D.fld])))) (rn_else (by simp) ?_))))))
 exact rn_call (hh _ _) (rn_else hneg (rn_else (by simp [D.fld]) rfl))
end Go.Proofs.YtjanpfgbppcphaaGreatDoor
