/- What the functions compute, in plain words. -/
import Derived.Test.YtfgfpdingddkcaaGreatDoorP4
set_option linter.unusedSectionVars false
set_option linter.unusedVariables false
set_option linter.unusedSimpArgs false
namespace Go.Proofs.YtfgfpdingddkcaaGreatDoor
open Go Go.Own
structure Fnd where
 kind : Int
 owner : List UInt8
 recs : List Rec
 chain : List Rec
def Fnd.d (f : Fnd) : D := .pair (.int f.kind) (.pair (.str f.owner) (.pair (.lst (f.recs.map Rec.d)) (.pair (.lst (f.chain.map Rec.d)) .unit)))
def Fnd.nul : Fnd := ⟨0, [], [], []⟩
def Rec.as (n : List UInt8) (r : Rec) : Rec := ⟨n, r.type, r.ttl, r.data⟩
def thr (z : Zn) (n : List UInt8) : Bool := z.recs.any fun r => bel r.name n
def encl (z : Zn) : Nat → List UInt8 → List UInt8
 | 0, s => s
 | n + 1, s => if thr z s then s else encl z n (parent s)
def star (s : List UInt8) : List UInt8 := if s = [] then [42] else [42, 46] ++ s
def byF (z : Zn) (owner name : List UInt8) (k : Int) : Fnd :=
 if (z.recs.filter (isAt owner k)) = [] then
  (if (z.recs.filter (isAt owner 5)) = [] then ⟨4, owner, [], []⟩ else ⟨2, owner, (z.recs.filter (isAt owner 5)).map (Rec.as name), []⟩)
 else ⟨1, owner, (z.recs.filter (isAt owner k)).map (Rec.as name), []⟩
def lookF (z : Zn) (name : List UInt8) (k : Int) : Fnd :=
 if bel name z.apex = true then
  match cutOf z.apex z.recs name with
  | some c => ⟨3, c, z.recs.filter (isAt c 2), []⟩
  | none => if thr z name = true then byF z name name k
    else if thr z (star (encl z (name.length + 1) name)) = true then byF z (star (encl z (name.length + 1) name)) name k
    else ⟨5, encl z (name.length + 1) name, [], []⟩
 else ⟨6, [], [], []⟩
theorem thr_apex {z : Zn} (hz : z.Good) : thr z z.apex = true := by
 obtain ⟨r, hr, _, _, hn, _⟩ := soa_one hz.rul
 unfold thr
 rw [List.any_eq_true]
 exact ⟨r, hr, by rw [hn]; exact bel_iff.2 (.refl _)⟩
theorem encl_up {z : Zn} (hz : z.Good) : ∀ (n : Nat) (s : List UInt8), s.length < n → Up s z.apex → Up s (encl z n s) ∧ Up (encl z n s) z.apex ∧ thr z (encl z n s) = true
 | 0, s, h, _ => by omega
 | n + 1, s, h, hu => by
   unfold encl
   cases ht : thr z s with
   | true => rw [if_pos rfl]; exact ⟨.refl _, hu, ht⟩
   | false =>
     rw [if_neg (by simp)]
     have hne : s ≠ z.apex := by rintro rfl; rw [thr_apex hz] at ht; cases ht
     have h0 : s ≠ [] := by
      rintro rfl
      rcases hu.len with h1 | h1
      ·exact hne h1
      ·simp at h1
     have hu2 : Up (parent s) z.apex := by
      cases hu with
      | refl => exact absurd rfl hne
      | step _ h2 => exact h2
     obtain ⟨a, b, c⟩ := encl_up hz n (parent s) (by have := parent_len h0; omega) hu2
     exact ⟨.step h0 a, b, c⟩
theorem star_up (s : List UInt8) : Up (star s) s := by
 unfold star
 by_cases h : s = []
 ·subst h; exact up_nil _ _ (Nat.le_refl _)
 ·rw [if_neg h]
  exact .step (by simp) (by show Up s s; exact .refl _)
theorem Up.le {a b : List UInt8} (h : Up a b) : b.length ≤ a.length := by
 rcases h.len with h1 | h1
 ·rw [h1]; exact Nat.le_refl _
 ·omega
theorem f_isThere {z : Zn} {s : List UInt8} (hz : z.In lim) (hs : s.length ≤ lim) (hu : Up s z.apex) : e_impl_isThere.F [z.d, .str s] = some (.bool (thr z s)) := by
 rw [q_impl_isThere]
 have f0 : z.d.fld 0 = .str z.apex := rfl
 have f2 : z.d.fld 2 = .lst (z.recs.map Rec.d) := rfl
 rw [f0, f2]
 have hb := f_isBelow hs hz.apex
 rw [bel_iff.2 hu] at hb
 obtain ⟨n, h1, h2⟩ := idx_gen (f := Rec.d) (c := fun d => e_impl_isThere_1.F [d, .str s]) (xs := z.recs) (p := fun r => bel r.name s) (Nat.le_trans hz.len lim_smax) (fun r hr => by
  show e_impl_isThere_1.F [r.d, .str s] = _
  rw [q_impl_isThere_1]
  have g0 : r.d.fld 0 = .str r.name := rfl
  rw [g0]
  exact rn_call (f_isBelow (hz.all r hr).name hs) rfl)
 have h3 : e_slices_IndexFunc_impl_Record_impl_Record__impl_isThere_1.F [.lst (z.recs.map Rec.d), .pair (.str s) .unit] = some (.int n) := by
  rw [q_slices_IndexFunc_impl_Record_impl_Record__impl_isThere_1]; exact h1
 have h4 : e_slices_ContainsFunc_impl_Record_impl_Record__impl_isThere_1.F [.lst (z.recs.map Rec.d), .pair (.str s) .unit] = some (.bool (thr z s)) := by
  rw [q_slices_ContainsFunc_impl_Record_impl_Record__impl_isThere_1]
  refine rn_call h3 ?_
  unfold thr
  rw [← h2]; rfl
 exact rn_bind0 (l := [.bool (thr z s)]) (out_call hb (out_if rfl (out_call h4 rfl))) rfl
theorem f_l7There {z : Zn} {s : List UInt8} (hz : z.In lim) (hs : s.length ≤ lim) : e_spec_l7There.F [z.d, .str s] = some (.bool (thr z s)) := by
 have hsm := Nat.le_trans hz.len lim_smax
 rw [q_spec_l7There]
 have f2 : (z.d.fld 2).l = z.recs.map Rec.d := rfl
 simp only [f2, List.length_map]
 refine rn_bind (loop_all' (fun i => [.int i]) z.recs.length (fun i => !(bel (z.recs.getD i Rec.nul).name s)) (t1 := 0) (t2 := 1) (o1 := [.bool true]) (o2 := []) rfl ?_ (by exact out_else (by simp) rfl)) ?_
 ·intro i hi
  rw [getD_lt hi]
  have e0 : (gd [D.int (i : Int)] 0).i.toNat = i := by simp
  have e1 : (gd [D.int (i : Int)] 0).i = i := rfl
  have g0 : z.recs[i].d.fld 0 = .str z.recs[i].name := rfl
  rw [e0, e1, gd_rec hi, g0, wrap_succ hi hsm]
  refine out_if (by simpa using hi) (out_if (by simpa using inb_nat hi) (out_call (f_l1Below (hz.all _ (List.getElem_mem hi)).name hs) ?_))
  cases bel z.recs[i].name s <;> simp
 ·have : allN z.recs.length (fun i => !(bel (z.recs.getD i Rec.nul).name s)) = !(thr z s) := by
   rw [all_allN z.recs (fun r => !(bel r.name s)) Rec.nul]
   unfold thr
   rw [← List.not_any_eq_all_not]
  rw [this]
  cases thr z s <;> rfl
theorem f_encloserOf {z : Zn} {s : List UInt8} (hz : z.In lim) (hg : z.Good) (hs : s.length ≤ lim) (hu : Up s z.apex) : e_impl_encloserOf.F [z.d, .str s] = some (.str (encl z (s.length + 1) s)) := by
 rw [q_impl_encloserOf]
 have key : ∀ (n : Nat) (s : List UInt8), s.length < n → s.length ≤ lim → Up s z.apex → loopF (fun l2 =>
  (e_impl_isThere.F [z.d, (gd l2 0)]).bind fun r3 =>
  if (!r3.b) then
   (e_impl_parentOf.F [(gd l2 0)]).bind fun r4 =>
   ou 0 [r4]
  else
   ou 1 [(gd l2 0)]) [.str s] = some (0, [.str (encl z n s)]) := by
  intro n
  induction n with
  | zero => intro s h; omega
  | succ n ih =>
    intro s h hs hu
    have ht := f_isThere hz hs hu
    unfold encl
    cases hq : thr z s with
    | true =>
      rw [hq] at ht
      exact loopF_exit (out_call ht (out_else (by simp) rfl))
    | false =>
      rw [hq] at ht
      have hne : s ≠ z.apex := by rintro rfl; rw [thr_apex hg] at hq; cases hq
      have h0 : s ≠ [] := by
       rintro rfl
       rcases hu.len with h1 | h1
       ·exact hne h1
       ·simp at h1
      have hu2 : Up (parent s) z.apex := by
       cases hu with
       | refl => exact absurd rfl hne
       | step _ h2 => exact h2
      have hpl := parent_len h0
      rw [if_neg (by simp), ← ih (parent s) (by omega) (by omega) hu2]
      exact loopF_step (out_call ht (out_if rfl (out_call (f_parentOf hs) rfl)))
 exact rn_bind (key (s.length + 1) s (by omega) hs hu) rfl
theorem f_l7Encloser {z : Zn} {s : List UInt8} (hz : z.In lim) (hg : z.Good) (hs : s.length ≤ lim) (hu : Up s z.apex) : e_spec_l7Encloser.F [z.d, .str s] = some (.str (encl z (s.length + 1) s)) := by
 rw [q_spec_l7Encloser]
 have f0 : (z.d.fld 0).s = z.apex := rfl
 rw [f0]
 have key : ∀ (n : Nat) (s : List UInt8), s.length < n → s.length ≤ lim → Up s z.apex → loopF (fun l2 =>
  (if (!((gd l2 0).s == z.apex)) then
      (e_spec_l7There.F [z.d, (gd l2 0)]).bind fun r3 =>
      ou 0 [(.bool (!r3.b))]
    else
     ou 0 [(.bool false)]).bind fun o3 =>
  sel2 o3.1 (if (gd o3.2 0).b then
   (e_spec_l1Parent.F [(gd l2 0)]).bind fun r4 =>
   ou 0 [r4]
   else
    ou 1 [(gd l2 0)]) fun _ => none) [.str s] = some (0, [.str (encl z n s)]) := by
  intro n
  induction n with
  | zero => intro s h; omega
  | succ n ih =>
    intro s h hs hu
    have ht := f_l7There hz hs
    unfold encl
    cases hq : thr z s with
    | true =>
      rw [hq] at ht
      rw [if_pos rfl]
      refine loopF_exit (out_bind (r := (0, [.bool false])) ?_ (sel0 (out_else (by simp) rfl)))
      by_cases ha : s = z.apex
      ·exact out_else (by simp [ha]) rfl
      ·exact out_if (by simpa using ha) (out_call ht rfl)
    | false =>
      rw [hq] at ht
      have hne : s ≠ z.apex := by rintro rfl; rw [thr_apex hg] at hq; cases hq
      have h0 : s ≠ [] := by
       rintro rfl
       rcases hu.len with h1 | h1
       ·exact hne h1
       ·simp at h1
      have hu2 : Up (parent s) z.apex := by
       cases hu with
       | refl => exact absurd rfl hne
       | step _ h2 => exact h2
      have hpl := parent_len h0
      rw [if_neg (by simp), ← ih (parent s) (by omega) (by omega) hu2]
      exact loopF_step (out_bind (r := (0, [.bool true])) (out_if (by simpa using hne) (out_call ht rfl)) (sel0 (out_if rfl (out_call (f_l1Parent hs) rfl))))
 exact rn_bind (key (s.length + 1) s (by omega) hs hu) rfl
theorem f_starOf {s : List UInt8} (hs : s.length ≤ lim) : e_impl_starOf.F [.str s] = some (.str (star s)) := by
 have hlim : lim = 1048576 := rfl
 rw [q_impl_starOf]
 unfold star
 by_cases h : s = []
 ·rw [if_pos h]; exact rn_if (by simpa using h) rfl
 ·rw [if_neg h]; exact rn_else (by simpa using h) (rn_if (by simp [catOk, smax_eq]; omega) rfl)
theorem f_l6Set {xs : List Rec} {n : List UInt8} {k : Int} (hl : xs.length ≤ lim) (hk : k ≠ 0) : e_spec_l6Set.F [.lst (xs.map Rec.d), .str n, .int k] = some (.lst ((xs.filter (isAt n k)).map Rec.d)) := by
 have hlim : lim = 1048576 := rfl
 have hsm := Nat.le_trans hl lim_smax
 rw [q_spec_l6Set]
 have hlen : (D.lst (xs.map Rec.d)).l.length = xs.length := by simp
 rw [hlen]
 refine rn_bind (loop_for' (fun i (zs : List Rec) => [.lst (zs.map Rec.d), .int i]) xs.length (fun i => (xs.take i).filter (isAt n k)) (t := 0) (o := [.lst ((xs.filter (isAt n k)).map Rec.d)]) (by simp) ?_ ?_) rfl
 ·intro i hi
  have hg : gd (D.lst (xs.map Rec.d)).l i = xs[i].d := gd_rec hi
  have e0 : (gd [D.lst (((xs.take i).filter (isAt n k)).map Rec.d), D.int (i : Int)] 1).i.toNat = i := by simp
  have e1 : (gd [D.lst (((xs.take i).filter (isAt n k)).map Rec.d), D.int (i : Int)] 1).i = i := rfl
  have e2 : (gd [D.lst (((xs.take i).filter (isAt n k)).map Rec.d), D.int (i : Int)] 0) = D.lst (((xs.take i).filter (isAt n k)).map Rec.d) := rfl
  have g0 : (xs[i].d.fld 0).s = xs[i].name := rfl
  have g1 : (xs[i].d.fld 1).i = xs[i].type := rfl
  have hfl : ((xs.take i).filter (isAt n k)).length ≤ i := by
   have := List.length_filter_le (isAt n k) (xs.take i); simp at this; omega
  rw [e0, e1, e2, hg, g0, g1, wrap_succ hi hsm]
  refine out_if (by simpa using hi) (out_bind (r := (0, [.lst (((xs.take (i + 1)).filter (isAt n k)).map Rec.d)])) (out_if (by simpa using inb_nat hi) (out_bind (r := (0, [.bool (isAt n k xs[i])])) ?_ (sel0 ?_))) (sel0 rfl))
  ·unfold isAt
   simp only [D.s_str, D.i_int]
   by_cases h1 : xs[i].name = n
   ·exact out_if (by simpa using h1) (by simp [h1, hk])
   ·exact out_else (by simpa using h1) (by simp [h1])
  ·rw [List.take_succ_eq_append_getElem hi, List.filter_append]
   cases hq : isAt n k xs[i] with
   | false => exact out_else (by simp) (by simp [List.filter_cons, hq])
   | true =>
     refine out_if rfl (out_if ?_ (by simp [List.filter_cons, hq]))
     simp only [D.l_lst, appOk, List.length_map, List.length_singleton, smax_eq, Bool.and_eq_true, decide_eq_true_eq]
     omega
 ·have h1 : xs.take xs.length = xs := List.take_length
  exact out_else (by simp) (by simp [h1])
def asAll (n : List UInt8) (xs : List Rec) (i : Nat) : List Rec := (xs.take i).map (Rec.as n) ++ xs.drop i
theorem asAll_len {n : List UInt8} {xs : List Rec} {i : Nat} (h : i ≤ xs.length) : (asAll n xs i).length = xs.length := by
 simp [asAll]; omega
theorem asAll_get {n : List UInt8} {xs : List Rec} {i : Nat} (h : i < xs.length) : (asAll n xs i)[i]'(by rw [asAll_len (Nat.le_of_lt h)]; exact h) = xs[i] := by
 unfold asAll
 rw [List.getElem_append_right (by simp; omega)]
 simp [Nat.min_eq_left (Nat.le_of_lt h)]
theorem asAll_set {n : List UInt8} {xs : List Rec} {i : Nat} (h : i < xs.length) : (asAll n xs i).set i (Rec.as n xs[i]) = asAll n xs (i + 1) := by
 unfold asAll
 rw [List.set_append_right _ _ (by simp; omega), List.drop_eq_getElem_cons h, show i - ((xs.take i).map (Rec.as n)).length = 0 by simp; omega, List.set_cons_zero, List.take_succ_eq_append_getElem h, List.map_append, List.append_assoc]
 rfl
theorem rename_I {name owner : List UInt8} {k : Int} {xs : List Rec} (hl : xs.length ≤ lim) (ch : D) : loopF (fun l8 =>
 if (decide ((gd l8 1).i < (xs.length : Int))) then
  if (inb (gd l8 1).i ((gd l8 0).fld 2).l.length) then
  ou 0 [((gd l8 0).setFld 2 (D.lst (((gd l8 0).fld 2).l.set (gd l8 1).i.toNat ((gd ((gd l8 0).fld 2).l (gd l8 1).i.toNat).setFld 0 (.str name))))), (.int (IntKind.wrap .i64 ((gd l8 1).i + 1)))]
  else none
 else
  ou 1 [(gd l8 0)]) [.pair (.int k) (.pair (.str owner) (.pair (.lst (xs.map Rec.d)) (.pair ch .unit))), (.int 0)] = some (0, [.pair (.int k) (.pair (.str owner) (.pair (.lst ((xs.map (Rec.as name)).map Rec.d)) (.pair ch .unit)))]) := by
 have hsm := Nat.le_trans hl lim_smax
 refine loop_for' (fun i (zs : List Rec) => [.pair (.int k) (.pair (.str owner) (.pair (.lst (zs.map Rec.d)) (.pair ch .unit))), .int i]) xs.length (asAll name xs) (t := 0) (o := [.pair (.int k) (.pair (.str owner) (.pair (.lst ((xs.map (Rec.as name)).map Rec.d)) (.pair ch .unit)))]) (by simp [asAll]) ?_ ?_
 ·intro i hi
  have hi' : i < (asAll name xs i).length := by rw [asAll_len (Nat.le_of_lt hi)]; exact hi
  refine out_if (by simpa using hi) (out_if ?_ ?_)
  ·show inb (i : Int) (((asAll name xs i).map Rec.d)).length = true
   rw [List.length_map]; exact inb_nat hi'
  ·show some (0, [D.pair (.int k) (.pair (.str owner) (.pair (.lst (((asAll name xs i).map Rec.d).set i ((gd ((asAll name xs i).map Rec.d) i).setFld 0 (.str name)))) (.pair ch .unit))), D.int (IntKind.wrap .i64 ((i : Int) + 1))]) = _
   rw [wrap_succ hi hsm, gd_rec hi', asAll_get hi]
   have e : xs[i].d.setFld 0 (.str name) = (Rec.as name xs[i]).d := rfl
   rw [e, ← List.map_set, asAll_set hi]
 ·refine out_else (by simp) ?_
  simp [asAll]
theorem rename_S {name owner : List UInt8} {k : Int} {xs : List Rec} (hl : xs.length ≤ lim) (ch : D) : loopF (fun l7 =>
        if (decide ((gd l7 1).i < (xs.length : Int))) then
         if (inb (gd l7 1).i xs.length) then
         if (appOk 48 ((gd l7 0).fld 2).l (((gd (xs.map Rec.d) (gd l7 1).i.toNat).setFld 0 (.str name)) :: ([] : List D))) then
         ou 0 [((gd l7 0).setFld 2 (D.lst (((gd l7 0).fld 2).l ++ (((gd (xs.map Rec.d) (gd l7 1).i.toNat).setFld 0 (.str name)) :: ([] : List D))))), (.int (IntKind.wrap .i64 ((gd l7 1).i + 1)))]
         else none
         else none
        else
         ou 1 [(gd l7 0)]) [.pair (.int k) (.pair (.str owner) (.pair (D.lst []) (.pair ch .unit))), (.int 0)] = some (0, [.pair (.int k) (.pair (.str owner) (.pair (.lst ((xs.map (Rec.as name)).map Rec.d)) (.pair ch .unit)))]) := by
 have hsm := Nat.le_trans hl lim_smax
 have hlim : lim = 1048576 := rfl
 refine loop_for' (fun i (zs : List Rec) => [.pair (.int k) (.pair (.str owner) (.pair (.lst (zs.map Rec.d)) (.pair ch .unit))), .int i]) xs.length (fun i => (xs.take i).map (Rec.as name)) (t := 0) (o := [.pair (.int k) (.pair (.str owner) (.pair (.lst ((xs.map (Rec.as name)).map Rec.d)) (.pair ch .unit)))]) (by simp) ?_ ?_
 ·intro i hi
  refine out_if (by simpa using hi) (out_if (by simpa using inb_nat hi) (out_if ?_ ?_))
  ·show appOk 48 (((xs.take i).map (Rec.as name)).map Rec.d) [_] = true
   simp only [appOk, List.length_map, List.length_take, List.length_singleton, smax_eq, Bool.and_eq_true, decide_eq_true_eq]
   omega
  ·show some (0, [D.pair (.int k) (.pair (.str owner) (.pair (.lst ((((xs.take i).map (Rec.as name)).map Rec.d) ++ [(gd (xs.map Rec.d) i).setFld 0 (.str name)])) (.pair ch .unit))), D.int (IntKind.wrap .i64 ((i : Int) + 1))]) = _
   rw [wrap_succ hi hsm, gd_rec hi]
   have e : xs[i].d.setFld 0 (.str name) = (Rec.as name xs[i]).d := rfl
   rw [e, List.take_succ_eq_append_getElem hi, List.map_append, List.map_append]
   rfl
 ·refine out_else (by simp) ?_
  simp
theorem f_lookUp {z : Zn} {name : List UInt8} {k : Int} (hz : z.In lim) (hg : z.Good) (hs : name.length ≤ lim) : e_impl_lookUp.F [z.d, .str name, .int k] = some (lookF z name k).d := by
 have hlim : lim = 1048576 := rfl
 rw [q_impl_lookUp]
 have f0 : z.d.fld 0 = .str z.apex := rfl
 have f2 : z.d.fld 2 = .lst (z.recs.map Rec.d) := rfl
 rw [f0, f2]
 have hb := f_isBelow hs hz.apex
 unfold lookF
 cases hq : bel name z.apex with
 | false =>
   rw [hq] at hb
   exact rn_call hb (rn_if rfl rfl)
 | true =>
   rw [hq] at hb
   have hu := bel_iff.1 hq
   have hcut := f_cutAbove hz hs hu
   rw [if_pos rfl]
   refine rn_call hb (rn_else (by simp) (rn_call hcut ?_))
   cases hc : cutOf z.apex z.recs name with
   | some c => exact rn_if rfl (rn_call (f_at (n := c) (k := 2) hz.len) rfl)
   | none =>
     refine rn_else (by simp [cutDt, D.fld]) ?_
     have ht := f_isThere hz hs hu
     -- what is told of an owner
     have rest : ∀ owner : List UInt8, rn ((e_impl_at.F [(.lst (z.recs.map Rec.d)), (.str owner), .int k]).bind fun r6 =>
      (if ((r6.l.length : Int) == 0) then
          (e_impl_at.F [(.lst (z.recs.map Rec.d)), (.str owner), (.int 5)]).bind fun r7 =>
          ou 0 [(.pair (.int 2) (.pair (.str owner) (.pair r7 (.pair (D.lst []) .unit))))]
        else
         ou 0 [(.pair (.int 1) (.pair (.str owner) (.pair r6 (.pair (D.lst []) .unit))))]).bind fun o7 =>
      sel2 o7.1 (if ((((gd o7.2 0).fld 2).l.length : Int) == 0) then
       ou 0 [(.pair (.int 4) (.pair (.str owner) (.pair (D.lst []) (.pair (D.lst []) .unit))))]
       else
        (loopF (fun l8 =>
          if (decide ((gd l8 1).i < (((gd o7.2 0).fld 2).l.length : Int))) then
           if (inb (gd l8 1).i ((gd l8 0).fld 2).l.length) then
           ou 0 [((gd l8 0).setFld 2 (D.lst (((gd l8 0).fld 2).l.set (gd l8 1).i.toNat ((gd ((gd l8 0).fld 2).l (gd l8 1).i.toNat).setFld 0 (.str name))))), (.int (IntKind.wrap .i64 ((gd l8 1).i + 1)))]
           else none
          else
           ou 1 [(gd l8 0)]) [(gd o7.2 0), (.int 0)]).bind fun o8 =>
        sel2 o8.1 (ou 0 [(gd o8.2 0)]) fun _ => none) fun _ => none) = some (byF z owner name k).d := by
      intro owner
      have h1 := f_at (n := owner) (k := k) hz.len
      have h5 := f_at (n := owner) (k := 5) hz.len
      have l1 := List.length_filter_le (isAt owner k) z.recs
      have l5 := List.length_filter_le (isAt owner 5) z.recs
      have hzl := hz.len
      unfold byF
      generalize z.recs.filter (isAt owner k) = xs at h1 l1 ⊢
      generalize z.recs.filter (isAt owner 5) = ys at h5 l5 ⊢
      by_cases hx : xs = []
      ·rw [if_pos hx]
       subst hx
       refine rn_call h1 (rn_bind0 (l := [.pair (.int 2) (.pair (.str owner) (.pair (.lst (ys.map Rec.d)) (.pair (D.lst []) .unit)))]) (out_if rfl (out_call h5 rfl)) ?_)
       by_cases hy : ys = []
       ·rw [if_pos hy]; subst hy; exact rn_if rfl rfl
       ·rw [if_neg hy]
        have hyl : (((D.pair (.int 2) (.pair (.str owner) (.pair (.lst (ys.map Rec.d)) (.pair (D.lst []) .unit)))).fld 2).l.length) = ys.length := by simp [D.fld]
        simp only [gd_zero, hyl]
        have hpos : 0 < ys.length := List.length_pos_iff.2 hy
        exact rn_else (by simp; omega) (rn_bind (rename_I (by omega) (D.lst [])) rfl)
      ·rw [if_neg hx]
       have hpos : 0 < xs.length := List.length_pos_iff.2 hx
       refine rn_call h1 (rn_bind0 (l := [.pair (.int 1) (.pair (.str owner) (.pair (.lst (xs.map Rec.d)) (.pair (D.lst []) .unit)))]) (out_else (by simp; omega) rfl) ?_)
       have hxl : (((D.pair (.int 1) (.pair (.str owner) (.pair (.lst (xs.map Rec.d)) (.pair (D.lst []) .unit)))).fld 2).l.length) = xs.length := by simp [D.fld]
       simp only [gd_zero, hxl]
       exact rn_else (by simp; omega) (rn_bind (rename_I (by omega) (D.lst [])) rfl)
     cases htq : thr z name with
     | true =>
       rw [htq] at ht
       rw [if_pos rfl]
       exact rn_bind0 (l := [.str name]) (out_call ht (out_else (by simp) rfl)) (rest name)
     | false =>
       rw [htq] at ht
       rw [if_neg (by simp)]
       obtain ⟨e1, e2, e3⟩ := encl_up hg (name.length + 1) name (by omega) hu
       have hel := Up.le e1
       have he := f_encloserOf hz hg hs hu
       generalize encl z (name.length + 1) name = e at e1 e2 e3 hel he ⊢
       have hst := f_starOf (s := e) (by omega)
       have hstu : Up (star e) z.apex := (star_up e).trans e2
       have hstl : (star e).length ≤ lim ∨ True := .inr trivial
       have hsl : (star e).length ≤ e.length + 2 := by unfold star; split <;> simp
       by_cases hel2 : (star e).length ≤ lim
       ·have ht2 := f_isThere hz hel2 hstu
        cases htq2 : thr z (star e) with
        | true =>
          rw [htq2] at ht2
          rw [if_pos rfl]
          exact rn_bind0 (l := [.str (star e)]) (out_call ht (out_if rfl (out_call he (out_call hst (out_call ht2 (out_else (by simp) rfl)))))) (rest (star e))
        | false =>
          rw [htq2] at ht2
          rw [if_neg (by simp)]
          exact rn_bind (r := (1, [.pair (.int 5) (.pair (.str e) (.pair (D.lst []) (.pair (D.lst []) .unit)))])) (out_call ht (out_if rfl (out_call he (out_call hst (out_call ht2 (out_if rfl rfl)))))) rfl
       ·exfalso
        -- names that are there are short
        unfold thr at e3
        rw [List.any_eq_true] at e3
        obtain ⟨r, hr, hrb⟩ := e3
        have h60 : r.name.length ≤ 60 := by
         have hok := (rises_of hg.ris).ok r hr
         unfold Rec.ok at hok
         simp only [Bool.and_eq_true] at hok
         have hn := hok.2.1
         unfold isName at hn
         simp only [Bool.and_eq_true, decide_eq_true_eq] at hn
         exact hn.1
        have := Up.le (bel_iff.1 hrb)
        omega
theorem f_l7By {z : Zn} {owner name : List UInt8} {k : Int} (hz : z.In lim) (hk : k ≠ 0) : e_spec_l7By.F [z.d, .str owner, .str name, .int k] = some (byF z owner name k).d := by
 rw [q_spec_l7By]
 have f2 : z.d.fld 2 = .lst (z.recs.map Rec.d) := rfl
 rw [f2]
 have h1 := f_l6Set (n := owner) hz.len hk
 have h5 := f_l6Set (n := owner) (k := 5) hz.len (by decide)
 have l1 := List.length_filter_le (isAt owner k) z.recs
 have l5 := List.length_filter_le (isAt owner 5) z.recs
 have hzl := hz.len
 unfold byF
 generalize z.recs.filter (isAt owner k) = xs at h1 l1 ⊢
 generalize z.recs.filter (isAt owner 5) = ys at h5 l5 ⊢
 have hll : ∀ us : List Rec, (D.lst (us.map Rec.d)).l = us.map Rec.d := fun _ => rfl
 by_cases hx : xs = []
 ·rw [if_pos hx]
  subst hx
  by_cases hy : ys = []
  ·rw [if_pos hy]
   subst hy
   refine rn_call h1 (rn_bind0 (l := [.pair (.int 4) (.pair (.str owner) (.pair (D.lst []) (.pair (D.lst []) .unit))), .lst []]) (out_else (by simp) (out_call h5 (out_else (by simp) rfl))) ?_)
   exact rn_bind (rename_S (name := name) (owner := owner) (k := 4) (xs := []) (by simp) (D.lst [])) rfl
  ·rw [if_neg hy]
   have hpos : 0 < ys.length := List.length_pos_iff.2 hy
   refine rn_call h1 (rn_bind0 (l := [.pair (.int 2) (.pair (.str owner) (.pair (D.lst []) (.pair (D.lst []) .unit))), .lst (ys.map Rec.d)]) (out_else (by simp) (out_call h5 (out_if (decide_eq_true (by simp; omega)) rfl))) ?_)
   have g1 : ∀ a b : D, gd [a, b] 1 = b := fun _ _ => rfl
   simp only [g1, hll, List.length_map]
   exact rn_bind (rename_S (name := name) (owner := owner) (k := 2) (xs := ys) (by omega) (D.lst [])) rfl
 ·rw [if_neg hx]
  have hpos : 0 < xs.length := List.length_pos_iff.2 hx
  refine rn_call h1 (rn_bind0 (l := [.pair (.int 1) (.pair (.str owner) (.pair (D.lst []) (.pair (D.lst []) .unit))), .lst (xs.map Rec.d)]) (out_if (decide_eq_true (by simp; omega)) rfl) ?_)
  have g1 : ∀ a b : D, gd [a, b] 1 = b := fun _ _ => rfl
  simp only [g1, hll, List.length_map]
  exact rn_bind (rename_S (name := name) (owner := owner) (k := 1) (xs := xs) (by omega) (D.lst [])) rfl
theorem f_l7Look {z : Zn} {name : List UInt8} {k : Int} (hz : z.In lim) (hg : z.Good) (hs : name.length ≤ lim) (hk : k ≠ 0) : e_spec_l7Look.F [z.d, .str name, .int k] = some (lookF z name k).d := by
 have hlim : lim = 1048576 := rfl
 rw [q_spec_l7Look]
 have f0 : z.d.fld 0 = .str z.apex := rfl
 have f2 : z.d.fld 2 = .lst (z.recs.map Rec.d) := rfl
 rw [f0, f2]
 have hb := f_l1Below hs hz.apex
 unfold lookF
 cases hq : bel name z.apex with
 | false =>
   rw [hq] at hb
   exact rn_call hb (rn_if rfl rfl)
 | true =>
   rw [hq] at hb
   have hu := bel_iff.1 hq
   have hcut := f_l6Cut (xs := z.recs) hz.apex hz.len hs
   rw [if_pos rfl]
   refine rn_call hb (rn_else (by simp) (rn_call hcut ?_))
   cases hc : cutOf z.apex z.recs name with
   | some c => exact rn_if rfl (rn_call (f_l6Set (n := c) (k := 2) hz.len (by decide)) rfl)
   | none =>
     refine rn_else (by simp [cutDt, D.fld]) ?_
     have ht := f_l7There hz hs
     cases htq : thr z name with
     | true =>
       rw [htq] at ht
       rw [if_pos rfl]
       exact rn_call ht (rn_if rfl (rn_call (f_l7By hz hk) rfl))
     | false =>
       rw [htq] at ht
       rw [if_neg (by simp)]
       obtain ⟨e1, e2, e3⟩ := encl_up hg (name.length + 1) name (by omega) hu
       have hel := Up.le e1
       have he := f_l7Encloser hz hg hs hu
       generalize encl z (name.length + 1) name = e at e1 e2 e3 hel he ⊢
       have h60 : e.length ≤ 60 := by
        unfold thr at e3
        rw [List.any_eq_true] at e3
        obtain ⟨r, hr, hrb⟩ := e3
        have hok := (rises_of hg.ris).ok r hr
        unfold Rec.ok at hok
        simp only [Bool.and_eq_true] at hok
        have hn := hok.2.1
        unfold isName at hn
        simp only [Bool.and_eq_true, decide_eq_true_eq] at hn
        have := Up.le (bel_iff.1 hrb)
        omega
       have hsl : (star e).length ≤ e.length + 2 := by unfold star; split <;> simp
       have ht2 := f_l7There (s := star e) hz (by omega)
       refine rn_call ht (rn_else (by simp) (rn_call he (rn_if (by simp [catOk, smax_eq]; omega) (rn_bind0 (l := [.str (star e)]) ?_ (rn_call ht2 ?_)))))
       ·unfold star
        by_cases h : e = []
        ·rw [if_pos h]; exact out_if (by simpa using h) rfl
        ·rw [if_neg h]; exact out_else (by simpa using h) rfl
       ·cases htq2 : thr z (star e) with
        | true => rw [if_pos rfl]; exact rn_if rfl (rn_call (f_l7By hz hk) rfl)
        | false =>
          refine rn_else (by simp) ?_
          rw [if_neg (by simp)]; rfl
def typeB (k : Int) : Bool := k == 1 || (k == 2 || (k == 5 || (k == 6 || (k == 15 || k == 16))))
def typesL : List Int := [1, 2, 5, 6, 15, 16]
theorem typesL_any (k : Int) : typesL.any (fun x => k == x) = typeB k := by
 simp [typesL, typeB]
theorem f_isType (k : Int) : e_impl_isType.F [.int k] = some (.bool (typeB k)) := by
 rw [q_impl_isType]
 have hidx : ∃ n : Int, e_slices_Index_int_int.F [.lst (typesL.map .int), .int k] = some (.int n) ∧ decide (n ≥ 0) = typeB k := by
  rw [q_slices_Index_int_int]
  have hlen : (D.lst (typesL.map D.int)).l.length = typesL.length := by simp
  rw [hlen]
  rcases loop_find (l := [.int 0]) (fun i => [.int i]) typesL.length (fun i => !(k == typesL.getD i 0)) (t1 := 0) (t2 := 1) (o1 := fun i => [.int i]) (o2 := []) (f := fun l2 =>
   if (decide ((gd l2 0).i < (typesL.length : Int))) then
    if (inb (gd l2 0).i typesL.length) then
    if ((D.int k).i == (gd (D.lst (typesL.map D.int)).l (gd l2 0).i.toNat).i) then
     ou 1 [(gd l2 0)]
    else
     ou 0 [(.int (IntKind.wrap .i64 ((gd l2 0).i + 1)))]
    else none
   else
    ou 2 []) rfl (by
    intro i hi hp
    rw [getD_lt hi] at hp
    have e0 : (gd [D.int (i : Int)] 0).i.toNat = i := by simp
    have e1 : (gd [D.int (i : Int)] 0).i = i := rfl
    rw [e0, e1, D.l_lst, gd_map hi, wrap_succ hi (by rw [smax_eq]; simp [typesL])]
    exact out_if (by simpa using hi) (out_if (by simpa using inb_nat hi) (out_else (by simpa using hp) rfl))) (by
    intro i hi hp
    rw [getD_lt hi] at hp
    have e0 : (gd [D.int (i : Int)] 0).i.toNat = i := by simp
    rw [e0, D.l_lst, gd_map hi]
    exact out_if (by simpa using hi) (out_if (by simpa using inb_nat hi) (out_if (by simpa using hp) rfl))) (by exact out_else (by simp) rfl) with ⟨hall, hloop⟩ | ⟨j, hj, hpj, _, hloop⟩
  ·refine ⟨-1, rn_bind hloop rfl, ?_⟩
   rw [← typesL_any]
   have : typesL.any (fun x => k == x) = false := by
    rw [List.any_eq_false]
    intro x hx
    obtain ⟨i, hi, rfl⟩ := List.getElem_of_mem hx
    have := hall i hi
    rw [getD_lt hi] at this
    simpa using this
   rw [this]; rfl
  ·refine ⟨j, rn_bind hloop rfl, ?_⟩
   rw [← typesL_any]
   rw [getD_lt hj] at hpj
   have : typesL.any (fun x => k == x) = true := by
    rw [List.any_eq_true]
    exact ⟨_, List.getElem_mem hj, by simpa using hpj⟩
   rw [this]; simp
 obtain ⟨n, h1, h2⟩ := hidx
 have h3 : e_slices_Contains_int_int.F [.lst (typesL.map .int), .int k] = some (.bool (typeB k)) := by
  rw [q_slices_Contains_int_int]
  refine rn_call h1 ?_
  rw [← h2]; rfl
 exact rn_call h3 rfl
theorem f_l3Type (k : Int) : e_spec_l3Type.F [.int k] = some (.bool (typeB k)) := by
 rw [q_spec_l3Type]
 have h3 : e_spec_l1Has.F [.lst (typesL.map .int), .int k] = some (.bool (typeB k)) := by
  rw [q_spec_l1Has]
  have hlen : (D.lst (typesL.map D.int)).l.length = typesL.length := by simp
  rw [hlen]
  refine rn_bind (loop_all' (fun i => [.int i]) typesL.length (fun i => !(typesL.getD i 0 == k)) (t1 := 0) (t2 := 1) (o1 := [.bool true]) (o2 := []) rfl ?_ (by exact out_else (by simp) rfl)) ?_
  ·intro i hi
   rw [getD_lt hi]
   have e0 : (gd [D.int (i : Int)] 0).i.toNat = i := by simp
   have e1 : (gd [D.int (i : Int)] 0).i = i := rfl
   rw [e0, e1, D.l_lst, gd_map hi, wrap_succ hi (by rw [smax_eq]; simp [typesL])]
   refine out_if (by simpa using hi) (out_if (by simpa using inb_nat hi) ?_)
   cases hq : typesL[i] == k with
   | true => exact out_if (by simpa using hq) rfl
   | false => exact out_else (by simpa using hq) rfl
  ·have : allN typesL.length (fun i => !(typesL.getD i 0 == k)) = !(typeB k) := by
    rw [all_allN typesL (fun x => !(x == k)) 0, ← typesL_any, List.not_any_eq_all_not]
    congr 1
    funext x
    rw [Bool.beq_comm (a := x)] <;> rfl
   rw [this]
   cases typeB k <;> rfl
 exact rn_call h3 rfl
theorem typeB_ne {k : Int} (h : typeB k = true) : k ≠ 0 := by
 rintro rfl; exact absurd h (by decide)
noncomputable def askB (z : Zn) (name : List UInt8) (k : Int) : Bool := z.good && (isName name && (typeB k && (k != 6 || name == z.apex)))
theorem f_isAsked {z : Zn} {name : List UInt8} {k : Int} (hz : z.In lim) : e_impl_isAsked.F [z.d, .str name, .int k] = some (.bool (askB z name k)) := by
 rw [q_impl_isAsked]
 have h1 := f_GoodZone hz
 have h2 := f_GoodName name
 have h3 := f_isType k
 refine rn_bind0 (l := [.bool (askB z name k)]) ?_ rfl
 unfold askB
 cases k1 : z.good with
 | false => rw [k1] at h1; exact out_call h1 (out_else (by simp) rfl)
 | true =>
   rw [k1] at h1
   cases k2 : isName name with
   | false => rw [k2] at h2; exact out_call h1 (out_if rfl (out_call h2 (out_else (by simp) rfl)))
   | true =>
     rw [k2] at h2
     cases k3 : typeB k with
     | false => rw [k3] at h3; exact out_call h1 (out_if rfl (out_call h2 (out_if rfl (out_call h3 (out_else (by simp) rfl)))))
     | true =>
       rw [k3] at h3
       refine out_call h1 (out_if rfl (out_call h2 (out_if rfl (out_call h3 (out_if rfl ?_)))))
       by_cases h6 : k = 6
       ·exact out_else (by simp [h6]) (by simp [h6]; rfl)
       ·exact out_if (by simpa using h6) (by simp [h6])
noncomputable def lookT (z : Zn) (name : List UInt8) (k : Int) : Fnd := if askB z name k = true then lookF z name k else Fnd.nul
end Go.Proofs.YtfgfpdingddkcaaGreatDoor
namespace Go.Proofs.YtfgfpdingddkcaaGreatDoor
open Go Go.Own
theorem byF_facts {z : Zn} {o n : List UInt8} {k : Int} (hz : z.In lim) : (byF z o n k).recs.length ≤ lim ∧ (byF z o n k).chain = [] ∧ (byF z o n k).kind ≠ 3 ∧ ((byF z o n k).kind = 2 → ∃ r rs, (byF z o n k).recs = r :: rs ∧ r.type = 5 ∧ r.data.length ≤ lim) := by
 have l1 := List.length_filter_le (isAt o k) z.recs
 have l5 := List.length_filter_le (isAt o 5) z.recs
 have hl := hz.len
 unfold byF
 split
 ·split
  ·exact ⟨by simp, rfl, by simp, by simp⟩
  ·rename_i h5
   refine ⟨by simp; omega, rfl, by simp, fun _ => ?_⟩
   obtain ⟨r, rs, hr⟩ := List.exists_cons_of_ne_nil h5
   have hm : r ∈ z.recs.filter (isAt o 5) := by rw [hr]; simp
   rw [List.mem_filter] at hm
   have hat := hm.2
   unfold isAt at hat
   simp at hat
   simp only
   rw [hr]
   exact ⟨_, _, rfl, hat.2, (hz.all r hm.1).data⟩
 ·exact ⟨by simp; omega, rfl, by simp, by simp⟩
theorem lookF_facts {z : Zn} {n : List UInt8} {k : Int} (hz : z.In lim) : (lookF z n k).recs.length ≤ lim ∧ (lookF z n k).chain = [] ∧ ((lookF z n k).kind = 3 → cutOf z.apex z.recs n = some (lookF z n k).owner) ∧ ((lookF z n k).kind = 2 → ∃ r rs, (lookF z n k).recs = r :: rs ∧ r.type = 5 ∧ r.data.length ≤ lim) := by
 have hl := hz.len
 unfold lookF
 split
 ·split
  ·rename_i c hc
   have l2 := List.length_filter_le (isAt c 2) z.recs
   exact ⟨by simp; omega, rfl, fun _ => hc, by simp⟩
  ·split
   ·obtain ⟨a, b, c, d⟩ := byF_facts (o := n) (n := n) (k := k) hz
    exact ⟨a, b, fun h => absurd h c, d⟩
   ·split
    ·obtain ⟨a, b, c, d⟩ := byF_facts (o := star (encl z (n.length + 1) n)) (n := n) (k := k) hz
     exact ⟨a, b, fun h => absurd h c, d⟩
    ·exact ⟨by simp, rfl, by simp, by simp⟩
 ·exact ⟨by simp, rfl, by simp, by simp⟩
theorem lookT_facts {z : Zn} {n : List UInt8} {k : Int} (hz : z.In lim) : (lookT z n k).recs.length ≤ lim ∧ (lookT z n k).chain.length ≤ lim := by
 unfold lookT
 split
 ·obtain ⟨a, b, _⟩ := lookF_facts (n := n) (k := k) hz
  exact ⟨a, by rw [b]; simp⟩
 ·exact ⟨by simp [Fnd.nul], by simp [Fnd.nul]⟩
structure Tld where
 kind : Int
 recs : List Rec
 chain : List Rec
 zone : List UInt8
 asks : Int
def Tld.d (t : Tld) : D := .pair (.int t.kind) (.pair (.lst (t.recs.map Rec.d)) (.pair (.lst (t.chain.map Rec.d)) (.pair (.str t.zone) (.pair (.int t.asks) .unit))))
def Tld.nul : Tld := ⟨0, [], [], [], 0⟩
structure Tld.In (t : Tld) : Prop where
 recs : t.recs.length ≤ lim
 chain : t.chain.length ≤ lim
theorem f_targetOf {r : Rec} (h : r.type = 5) : e_impl_targetOf.F [r.d] = some (.pair (.str r.data) (.pair (.bool true) .unit)) := by
 rw [q_impl_targetOf]
 have f1 : (r.d.fld 1).i = r.type := rfl
 rw [f1, h]
 exact rn_bind0 (l := [.bool true]) (out_else (by decide) rfl) (rn_if rfl rfl)
end Go.Proofs.YtfgfpdingddkcaaGreatDoor
