/- What the functions compute, in plain words. -/
import Derived.Test.YtllbponcjpcbnaaGreatDoorP5
set_option linter.unusedSectionVars false
set_option linter.unusedVariables false
set_option linter.unusedSimpArgs false
namespace Go.Proofs.YtllbponcjpcbnaaGreatDoor
open Go Go.Own
theorem zQZ {α : Type} {A B : List α} {x y : α} {i : Nat} (h : i = A.length) : (A ++ x :: B).set i y = A ++ y :: B := by
 subst h; simp
theorem zQx {A B : List D} {x : D} {i : Nat} (h : i = A.length) : gd (A ++ x :: B) i = x := by
 subst h; unfold gd; simp
theorem zNW {z : Zn} (h : z.recs.length ≤ lim) : z2O.F [z.d] = some z.d := by
 have f2 : z.d.fld 2 = .lst (z.recs.map Rec.d) := rfl
 rw [zJS, f2]
 exact z0U (z12 (by simp) (by simpa using h) (by decide)) rfl
def cntF (c : Int) (r : Rec) : Rec := if r.type = 6 then ⟨r.name, r.type, r.ttl, Lib.itoa (c % 4294967296)⟩ else r
theorem zQ6 {c : Int} {r : Rec} (h : r.In lim) : (cntF c r).In lim := by
 have hp18 : (10 : Int) ^ 18 = 1000000000000000000 := by decide
 unfold cntF
 split
 ·have := zLV (v := c % 4294967296) (by omega) (by omega)
  have hlim : lim = 1048576 := rfl
  exact ⟨h.name, by show (Lib.itoa (c % 4294967296)).length ≤ lim; omega⟩
 ·exact h
theorem zNQ {ys : List Rec} {c : Int} (hl : ys.length ≤ 1000) (hc : inP c 0 1152921504606846976 = true) : z4g.F [.lst (ys.map Rec.d), .int c] = some (.lst ((ys.map (cntF c)).map Rec.d)) := by
 have hlim : lim = 1048576 := rfl
 rw [zFr]
 refine z02 (z8y (by simp; omega)) ?_
 have hlen : (D.lst (ys.map Rec.d)).l.length = ys.length := by simp
 rw [hlen]
 refine z06 (l := [.lst ((ys.map (cntF c)).map Rec.d)]) (z1R (fun i (s : List D) => [.lst s, .int (i : Int)]) ys.length (fun i => ((ys.take i).map (cntF c)).map Rec.d ++ (ys.drop i).map Rec.d) (t := 0) (by simp) ?_ ?_) rfl
 ·intro i hi
  have hA : i = (((ys.take i).map (cntF c)).map Rec.d).length := by simp; omega
  have hmid : ((ys.take i).map (cntF c)).map Rec.d ++ (ys.drop i).map Rec.d = ((ys.take i).map (cntF c)).map Rec.d ++ ys[i].d :: (ys.drop (i + 1)).map Rec.d := by
   rw [List.drop_eq_getElem_cons hi]; rfl
  have hnext : ((ys.take (i + 1)).map (cntF c)).map Rec.d ++ (ys.drop (i + 1)).map Rec.d = ((ys.take i).map (cntF c)).map Rec.d ++ (cntF c ys[i]).d :: (ys.drop (i + 1)).map Rec.d := by
   rw [List.take_add_one, List.getElem?_eq_getElem hi, List.map_append, List.map_append, List.append_assoc]; rfl
  have hll : (((ys.take i).map (cntF c)).map Rec.d ++ ys[i].d :: (ys.drop (i + 1)).map Rec.d).length = ys.length := by simp; omega
  rw [hmid, hnext]
  have hg : gd (((ys.take i).map (cntF c)).map Rec.d ++ ys[i].d :: (ys.drop (i + 1)).map Rec.d) i = ys[i].d := zQx hA
  have hs : ∀ y : D, (((ys.take i).map (cntF c)).map Rec.d ++ ys[i].d :: (ys.drop (i + 1)).map Rec.d).set i y = ((ys.take i).map (cntF c)).map Rec.d ++ y :: (ys.drop (i + 1)).map Rec.d := fun y => zQZ hA
  generalize ((ys.take i).map (cntF c)).map Rec.d ++ ys[i].d :: (ys.drop (i + 1)).map Rec.d = L at hg hs hll
  have e0 : gd [D.lst L, D.int (i : Int)] 0 = .lst L := rfl
  have e1 : (gd [D.lst L, D.int (i : Int)] 1).i = (i : Int) := rfl
  have f1 : (ys[i].d.fld 1).i = ys[i].type := rfl
  simp only [e0, e1, D.l_lst, Int.toNat_natCast, hg, f1, hll, upd]
  refine z01 (decide_eq_true (by omega)) (z0b (l := [.lst (L.set i (cntF c ys[i]).d)]) (z01 (z0B hi) ?_) ?_)
  ·unfold cntF
   by_cases h6 : ys[i].type = 6
   ·rw [if_pos h6]
    refine z01 (by simp [h6]) (z05 (zBY hc) ?_)
    rfl
   ·rw [if_neg h6]
    refine z00 (by simpa using h6) ?_
    have : L.set i ys[i].d = L := by
     have hiL : i < L.length := by omega
     have : ys[i].d = L[i] := by rw [← hg]; unfold gd; rw [List.getD_eq_getElem?_getD, List.getElem?_eq_getElem hiL]; rfl
     rw [this, List.set_getElem_self]
    rw [this]
  ·show some (0, [D.lst (L.set i (cntF c ys[i]).d), D.int (IntKind.wrap .i64 ((i : Int) + 1))]) = _
   rw [hs, z0N hi (by rw [z0p]; omega)]
 ·refine z00 (by simp) ?_
  simp only [List.take_length, List.drop_length, List.map_nil, List.append_nil]
  rfl
theorem zNO {z : Zn} {l : List (Int × Rec)} (hz : z.In lim) (hR : Rises z.recs) (h40 : z.recs.length ≤ 40) (hl : l.length ≤ 1000) (hx : ∀ p ∈ l, p.2.In lim) (hok : ∀ p ∈ l, p.2.ok = true) :
 ∃ ys : List Rec, Rises ys ∧ ys.length ≤ 100 + l.length ∧ (∀ y ∈ ys, y.In lim) ∧ z4f.F [.lst (z.recs.map Rec.d), .lst (l.map chgD)] = some (.lst (ys.map Rec.d)) ∧
  z0a (fun l4 =>
   if (decide ((gd l4 1).i < (l.length : Int))) then
    (if (inb (gd l4 1).i l.length) then
      if (((gd (l.map chgD) (gd l4 1).i.toNat).fld 0).i == 2) then
       (z1U.F [(gd l4 0), ((gd (l.map chgD) (gd l4 1).i.toNat).fld 1)]).bind fun r6 =>
       ou 0 [r6]
      else
       if (((gd (l.map chgD) (gd l4 1).i.toNat).fld 0).i == 1) then
        (z1U.F [(gd l4 0), ((gd (l.map chgD) (gd l4 1).i.toNat).fld 1)]).bind fun r6 =>
        (z3e.F [r6, ((gd (l.map chgD) (gd l4 1).i.toNat).fld 1)]).bind fun r7 =>
        ou 0 [r7]
       else
        ou 0 [(gd l4 0)]
      else none).bind fun o6 =>
    sel2 o6.1 (ou 0 [(gd o6.2 0), (.int (IntKind.wrap .i64 ((gd l4 1).i + 1)))]) fun _ => none
   else
    ou 1 [(gd l4 0)]) [.lst (z.recs.map Rec.d), .int 0] = some (0, [.lst (ys.map Rec.d)]) := by
 have hlim : lim = 1048576 := rfl
 obtain ⟨ys, y1, y2, y3, y4, y5⟩ := zN5 hl hx hok l.length 0 z.recs (by omega) hR (by omega) hz.all
 refine ⟨ys, y1, y2, y3, ?_, y5⟩
 rw [zFq]
 refine z02 (z8y (by simp; omega)) ?_
 have hlen : (D.lst (l.map chgD)).l.length = l.length := by simp
 have hll : (D.lst (l.map chgD)).l = l.map chgD := rfl
 rw [hlen]
 simp only [hll]
 exact z06 y4 rfl
def znZ : D := .pair (.str []) (.pair (.int 0) (.pair (D.lst []) .unit))
theorem zQB {z : Zn} {l : List (Int × Rec)} (hz : z.In lim) (hg : z.Good) (hl : l.length ≤ lim) (hx : ∀ p ∈ l, p.2.In lim) :
 ∃ (z' : Zn) (n : Int), z'.In lim ∧ z'.recs.length ≤ 40 ∧ inP n 0 4 = true ∧ z4z.F [z.d, .lst (l.map chgD)] = some (.pair (if n = 0 then z'.d else znZ) (.pair (.int n) .unit)) ∧ z2m.F [z.d, .lst (l.map chgD)] = some (.pair (if n = 0 then z'.d else z.d) (.pair (.int n) .unit)) ∧
  (n = 0 → z'.apex = z.apex ∧ z'.counter = z.counter + 1 ∧ z.counter ≠ 1152921504606846976 ∧ ∃ ys, z'.recs = ys.map (cntF (z.counter + 1)) ∧ Rises ys ∧ RuleS z.apex ys ∧ ys.length ≤ 40) := by
 have hlim : lim = 1048576 := rfl
 have z0 : z.d.fld 0 = .str z.apex := rfl
 have z1 : z.d.fld 1 = .int z.counter := rfl
 have z2 : z.d.fld 2 = .lst (z.recs.map Rec.d) := rfl
 have hlen : (D.lst (l.map chgD)).l.length = l.length := by simp
 have hll : (D.lst (l.map chgD)).l = l.map chgD := rfl
 have hown := zNW hz.len
 have hgz := zFE hz
 rw [Zn.good_iff.2 hg] at hgz
 have h40 := hg.n40
 have hC := zIT hl hx
 have hB := zMB hl hx
 rw [zJM, zBI]
 cases hb : batB l with
 | false =>
   rw [hb] at hC hB
   exact ⟨z, 1, hz, h40, by decide, z02 hC (z0U rfl rfl), z02 hgz (z04 (by simp) (z02 hB (z0U rfl (z02 hown rfl)))), by simp⟩
 | true =>
   rw [hb] at hC hB
   unfold batB at hb
   simp only [Bool.and_eq_true, decide_eq_true_eq, List.all_eq_true] at hb
   obtain ⟨hbo, hb12⟩ := hb
   have hok : ∀ p ∈ l, p.2.ok = true := fun p hp => by have := hbo p hp; unfold z7X at this; simp only [Bool.and_eq_true] at this; exact this.2.1
   have hN := zQH hz hl hok
   have hfind := z5M (f := fun l4 =>
    if (decide ((gd l4 0).i < (l.length : Int))) then
     if (inb (gd l4 0).i l.length) then
     (z1l.F [(z.d.fld 2), (((gd (l.map chgD) (gd l4 0).i.toNat).fld 1).fld 0), (((gd (l.map chgD) (gd l4 0).i.toNat).fld 1).fld 1)]).bind fun r5 =>
     (if (((gd (l.map chgD) (gd l4 0).i.toNat).fld 0).i == 3) then
         if (!r5.b) then
          ou 0 [(.bool true)]
         else
          if (((gd (l.map chgD) (gd l4 0).i.toNat).fld 0).i == 4) then
           ou 0 [r5]
          else
           ou 0 [(.bool false)]
       else
        if (((gd (l.map chgD) (gd l4 0).i.toNat).fld 0).i == 4) then
         ou 0 [r5]
        else
         ou 0 [(.bool false)]).bind fun o6 =>
     sel2 o6.1 (if (gd o6.2 0).b then
      (z2O.F [z.d]).bind fun r7 =>
      ou 1 [r7, (.int 2)]
      else
       ou 0 [(.int (IntKind.wrap .i64 ((gd l4 0).i + 1)))]) fun _ => none
     else none
    else
     ou 2 []) (l := [.int 0]) (fun i => [.int (i : Int)]) l.length (fun i => !(zDr z.recs (l.getD i (0, Rec.nul)))) (t1 := 0) (t2 := 1) (o1 := fun _ => [z.d, .int 2]) (o2 := []) rfl (by
    intro i hi hp
    rw [z0J hi] at hp
    have e0 : (gd [D.int (i : Int)] 0).i = (i : Int) := rfl
    have hgg : gd (l.map chgD) i = chgD l[i] := zLQ hi
    have f0 : ((chgD l[i]).fld 0).i = l[i].1 := rfl
    have f10 : ((chgD l[i]).fld 1).fld 0 = .str l[i].2.name := rfl
    have f11 : ((chgD l[i]).fld 1).fld 1 = .int l[i].2.type := rfl
    simp only [e0, Int.toNat_natCast, hgg, f0, f10, f11, z2]
    have hm : zDr z.recs l[i] = false := by simpa using hp
    refine z01 (decide_eq_true (by omega)) (z01 (z0B hi) (z05 (zGt hz.len) (z0b (l := [.bool (zDr z.recs l[i])]) (zNw l[i].1 _) ?_)))
    rw [hm]
    refine z00 (by simp) ?_
    rw [z0N hi (by rw [z0p]; omega)]) (by
    intro i hi hp
    rw [z0J hi] at hp
    have e0 : (gd [D.int (i : Int)] 0).i = (i : Int) := rfl
    have hgg : gd (l.map chgD) i = chgD l[i] := zLQ hi
    have f0 : ((chgD l[i]).fld 0).i = l[i].1 := rfl
    have f10 : ((chgD l[i]).fld 1).fld 0 = .str l[i].2.name := rfl
    have f11 : ((chgD l[i]).fld 1).fld 1 = .int l[i].2.type := rfl
    simp only [e0, Int.toNat_natCast, hgg, f0, f10, f11, z2]
    have hm : zDr z.recs l[i] = true := by simpa using hp
    refine z01 (decide_eq_true (by omega)) (z01 (z0B hi) (z05 (zGt hz.len) (z0b (l := [.bool (zDr z.recs l[i])]) (zNw l[i].1 _) ?_)))
    rw [hm]
    exact z01 rfl (z05 hown rfl)) (by exact z00 (by simp) rfl)
   rcases hfind with ⟨hall, hloop⟩ | ⟨k, hk, hmk, _, hloop⟩
   ·have hany : l.any (zDr z.recs) = false := by
     rw [List.any_eq_false]
     intro p hp
     obtain ⟨i, hi, rfl⟩ := List.getElem_of_mem hp
     have := hall i hi
     rw [z0J hi] at this
     simpa using this
    rw [hany] at hN
    obtain ⟨ys, y1, y2, y3, hI, hS⟩ := zNO hz (zHt hg.ris) h40 (by omega) hx hok
    have hyl : (D.lst (ys.map Rec.d)).l.length = ys.length := by simp
    have hcnt := hg.cnt
    have hcnt' := hcnt
    simp only [inP, Bool.and_eq_true, decide_eq_true_eq] at hcnt'
    by_cases hfull : ys.length > 40 ∨ z.counter = 1152921504606846976
    ·have hj : (if (decide ((((D.lst (ys.map Rec.d)).l.length : Nat) : Int) > 40)) then ou 0 [(.bool true)] else ou 0 [(.bool ((D.int z.counter).i == 1152921504606846976))] : Outc) = some (0, [.bool true]) := by
      rw [hyl]
      by_cases h : ys.length > 40
      ·exact z01 (decide_eq_true (by omega)) rfl
      ·refine z00 (fun h2 => h (by have := of_decide_eq_true h2; omega)) ?_
       rcases hfull with h2 | h2
       ·exact absurd h2 h
       ·rw [h2]; rfl
     refine ⟨z, 4, hz, h40, by decide, z02 hC (z04 (by simp) (z02 hN (z04 (by simp) (z02 (by rw [z2]; exact hI) (z06 (by rw [z1]; exact hj) (z0U rfl rfl)))))), ?_, by simp⟩
     refine z02 hgz (z04 (by simp) (z02 hB (z04 (by simp) ?_)))
     simp only [hll, List.length_map]
     refine z7O hloop (z8C (z0U (z12 (by simp) (by rw [z2]; simp; omega) (by decide)) ?_))
     rw [z2]
     exact z06 hS (z06 (by rw [z1]; exact hj) (z0U rfl (z02 hown rfl)))
    ·have h4 : ys.length ≤ 40 := by
      by_cases h : ys.length ≤ 40
      ·exact h
      ·exact absurd (.inl (by omega)) hfull
     have hct : z.counter ≠ 1152921504606846976 := fun h => hfull (.inr h)
     have hj : (if (decide ((((D.lst (ys.map Rec.d)).l.length : Nat) : Int) > 40)) then ou 0 [(.bool true)] else ou 0 [(.bool ((D.int z.counter).i == 1152921504606846976))] : Outc) = some (0, [.bool false]) := by
      rw [hyl]
      exact z00 (fun h2 => by have := of_decide_eq_true h2; omega) (by simp [hct])
     have hwc : IntKind.wrap .i64 ((D.int z.counter).i + 1) = z.counter + 1 := by rw [D.i_int, z0c] <;> omega
     obtain ⟨n1, r1, r1'⟩ := zLI (xs := ys) hz.apex (by omega) y3
     obtain ⟨n2, r2, r2'⟩ := zLM (xs := ys) hz.apex (by omega) y3
     have hwhl : zFZ z.apex ys = true := by
      unfold zFZ
      rw [hg.apx, y1.rs, decide_eq_true h4]; rfl
     rw [hwhl] at r1'
     have hcc : inP (z.counter + 1) 0 1152921504606846976 = true := by
      simp only [inP, Bool.and_eq_true, decide_eq_true_eq]; omega
     by_cases hr : RuleS z.apex ys
     ·have e1 : n1 = 0 := r1'.2 ⟨rfl, (zCr y1).2 hr⟩
      have e2 : n2 = 0 := r2'.2 hr
      subst e1 e2
      let z' : Zn := ⟨z.apex, z.counter + 1, ys.map (cntF (z.counter + 1))⟩
      have hz' : z'.In lim := ⟨hz.apex, by show (ys.map _).length ≤ lim; rw [List.length_map]; omega, fun r hr => by
       obtain ⟨y, hy, rfl⟩ := List.mem_map.1 hr
       exact zQ6 (y3 y hy)⟩
      refine ⟨z', 0, hz', by show (ys.map _).length ≤ 40; rw [List.length_map]; exact h4, by decide, ?_, ?_, fun _ => ⟨rfl, rfl, hct, ys, rfl, y1, hr, h4⟩⟩
      ·refine z02 hC (z04 (by simp) (z02 hN (z04 (by simp) (z02 (by rw [z2]; exact hI) (z06 (by rw [z1]; exact hj) (z04 (by simp) (z02 (by rw [z0]; exact r1) (z04 (by simp) ?_))))))))
       rw [z1, hwc]
       exact z02 (zNQ (by omega) hcc) rfl
      ·refine z02 hgz (z04 (by simp) (z02 hB (z04 (by simp) ?_)))
       simp only [hll, List.length_map]
       refine z7O hloop (z8C (z0U (z12 (by simp) (by rw [z2]; simp; omega) (by decide)) ?_))
       rw [z2]
       refine z06 hS (z06 (by rw [z1]; exact hj) (z04 (by simp) (z02 (by rw [z0]; exact r2) (z04 (by simp) ?_))))
       rw [z0, z1, hwc]
       have hyl2 : ((gd [D.lst (ys.map Rec.d)] 0).l) = ys.map Rec.d := rfl
       simp only [hyl2, List.length_map]
       refine z06 (l := [z'.d]) (z1R (fun i (s : List Rec) => [Zn.d ⟨z.apex, z.counter + 1, s⟩, .int (i : Int)]) ys.length (fun i => (ys.take i).map (cntF (z.counter + 1))) (t := 0) rfl ?_ ?_) rfl
       ·intro i hi
        have hgg : gd (ys.map Rec.d) i = ys[i].d := z4E hi
        have f1 : (ys[i].d.fld 1).i = ys[i].type := rfl
        have e1 : ∀ q : D, (gd [q, D.int (i : Int)] 1).i = (i : Int) := fun _ => rfl
        have e0 : ∀ q : D, gd [q, D.int (i : Int)] 0 = q := fun _ => rfl
        simp only [e0, e1, Int.toNat_natCast, hgg, f1]
        refine z01 (decide_eq_true (by omega)) (z01 (z0B hi) (z0b (l := [(cntF (z.counter + 1) ys[i]).d]) ?_ (z01 ?_ ?_)))
        ·unfold cntF
         by_cases h6 : ys[i].type = 6
         ·rw [if_pos h6]
          exact z01 (by simp [h6]) (z05 (zNX (z := ⟨z.apex, z.counter + 1, (ys.take i).map (cntF (z.counter + 1))⟩) hcc) rfl)
         ·rw [if_neg h6]
          exact z00 (by simpa using h6) rfl
        ·show appOk 48 (((ys.take i).map (cntF (z.counter + 1))).map Rec.d) _ = true
         exact z12 (by simp; omega) (by simp; omega) (by decide)
        ·show some (0, [(Zn.d ⟨z.apex, z.counter + 1, (ys.take i).map (cntF (z.counter + 1))⟩).setFld 2 (D.lst (((ys.take i).map (cntF (z.counter + 1))).map Rec.d ++ [(cntF (z.counter + 1) ys[i]).d])), D.int (IntKind.wrap .i64 ((i : Int) + 1))]) = _
         rw [z0N hi (by rw [z0p]; omega), List.take_add_one, List.getElem?_eq_getElem hi, List.map_append]
         unfold Zn.d
         rw [List.map_append]
         rfl
       ·rw [List.take_length]
        exact z00 (by simp [gd]) rfl
     ·have e1 : n1 ≠ 0 := fun h => hr ((zCr y1).1 (r1'.1 h).2)
      have e2 : n2 ≠ 0 := fun h => hr (r2'.1 h)
      refine ⟨z, 3, hz, h40, by decide, z02 hC (z04 (by simp) (z02 hN (z04 (by simp) (z02 (by rw [z2]; exact hI) (z06 (by rw [z1]; exact hj) (z04 (by simp) (z02 (by rw [z0]; exact r1) (z0U (by simpa using e1) rfl)))))))), ?_, by simp⟩
      refine z02 hgz (z04 (by simp) (z02 hB (z04 (by simp) ?_)))
      simp only [hll, List.length_map]
      refine z7O hloop (z8C (z0U (z12 (by simp) (by rw [z2]; simp; omega) (by decide)) ?_))
      rw [z2]
      exact z06 hS (z06 (by rw [z1]; exact hj) (z04 (by simp) (z02 (by rw [z0]; exact r2) (z0U (by simpa using e2) (z02 hown rfl)))))
   ·have hany : l.any (zDr z.recs) = true := by
     rw [List.any_eq_true]
     rw [z0J hk] at hmk
     exact ⟨_, List.getElem_mem hk, by simpa using hmk⟩
    rw [hany] at hN
    refine ⟨z, 2, hz, h40, by decide, z02 hC (z04 (by simp) (z02 hN (z0U rfl rfl))), ?_, by simp⟩
    refine z02 hgz (z04 (by simp) (z02 hB (z04 (by simp) ?_)))
    simp only [hll, List.length_map]
    exact z06 hloop rfl
end Go.Proofs.YtllbponcjpcbnaaGreatDoor
namespace Go.Proofs.YtllbponcjpcbnaaGreatDoor
open Go Go.Own
theorem z4U (c : Int) (r : Rec) : (cntF c r).name = r.name := by unfold cntF; split <;> rfl
theorem z4q (c : Int) (r : Rec) : (cntF c r).type = r.type := by unfold cntF; split <;> rfl
theorem zQ7 (c : Int) (r : Rec) : (cntF c r).ttl = r.ttl := by unfold cntF; split <;> rfl
theorem zGk (c : Int) (r : Rec) : (cntF c r).key = r.key := by unfold Rec.key; rw [z4U, z4q]
theorem zGA {c : Int} {r : Rec} (h : r.type ≠ 6) : cntF c r = r := by unfold cntF; rw [if_neg h]
theorem zCn (c : Int) (xs : List Rec) (i : Nat) : (xs.map (cntF c)).getD i Rec.nul = cntF c (xs.getD i Rec.nul) := by
 rw [List.getD_eq_getElem?_getD, List.getD_eq_getElem?_getD, List.getElem?_map]
 cases xs[i]? with
 | none => exact (zGA (c := c) (r := Rec.nul) (show Rec.nul.type ≠ 6 by decide)).symm
 | some r => rfl
theorem zLn (c : Int) (apex : List UInt8) : ∀ xs : List Rec, soaS apex (xs.map (cntF c)) = soaS apex xs
 | [] => rfl
 | r :: xs => by
   rw [List.map_cons, soaS, soaS, zLn c apex xs]
   unfold soaW
   rw [z4U, z4q]
theorem zIv (c : Int) (xs : List Rec) (n : List UInt8) (k : Int) : z5a (xs.map (cntF c)) n k = z5a xs n k := by
 unfold z5a
 rw [List.any_map]
 congr 1
 funext r
 simp only [Function.comp, z4U, z4q]
theorem zOU {apex : List UInt8} {xs : List Rec} (hs : RuleS apex xs) {i j : Nat} (hi : i < xs.length) (hj : j < xs.length) (hij : i < j) : ¬ (xs[i].type = 6 ∧ xs[j].type = 6) := by
 rintro ⟨h1, h2⟩
 obtain ⟨e1, e2⟩ := zPX.2 hs.s2
 rw [List.any_eq_false] at e1
 have at6 : ∀ r ∈ xs, r.type = 6 → isAt apex 6 r = true := by
  intro r hr ht
  have := e1 r hr
  unfold zBi at this
  unfold isAt
  simp [ht] at this
  simp [ht, this]
 rw [← List.take_append_drop (i + 1) xs, List.filter_append, List.length_append] at e2
 have l1 : 0 < ((xs.take (i + 1)).filter (isAt apex 6)).length := List.length_pos_of_mem (a := xs[i]) (List.mem_filter.2 ⟨by
  rw [List.mem_take_iff_getElem]; exact ⟨i, by omega, rfl⟩, at6 _ (List.getElem_mem hi) h1⟩)
 have l2 : 0 < ((xs.drop (i + 1)).filter (isAt apex 6)).length := List.length_pos_of_mem (a := xs[j]) (List.mem_filter.2 ⟨by
  rw [List.mem_drop_iff_getElem]; exact ⟨j - (i + 1), by omega, by congr 1; omega⟩, at6 _ (List.getElem_mem hj) h2⟩)
 omega
theorem zMi {m : Int} (h0 : 0 ≤ m) (h1 : m ≤ 4294967295) : z2g (Lib.itoa m) 4294967295 = true := by
 obtain ⟨n, rfl⟩ := Int.eq_ofNat_of_zero_le h0
 rw [z9q]
 unfold z2g
 rw [zCy, z7h]
 simp
 omega
theorem zQm {c : Int} {r : Rec} (h : r.ok = true) : (cntF c r).ok = true := by
 by_cases h6 : r.type = 6
 ·have h' := h
  unfold Rec.ok at h' ⊢
  rw [z4U, z4q, zQ7]
  simp only [Bool.and_eq_true] at h' ⊢
  refine ⟨?_, h'.2⟩
  have : (cntF c r).data = Lib.itoa (c % 4294967296) := by unfold cntF; rw [if_pos h6]
  rw [this, h6]
  exact zMi (by omega) (by omega)
 ·rw [zGA h6]; exact h
theorem zOv {c : Int} {a b : Rec} (h : ¬ (a.type = 6 ∧ b.type = 6)) (hl : cmpR a b < 0) : cmpR (cntF c a) (cntF c b) < 0 := by
 by_cases ha : a.type = 6
 ·have hb : b.type ≠ 6 := fun hb => h ⟨ha, hb⟩
  have hk : cmpK a b ≠ 0 := by
   rw [z6G]
   intro h0
   have := congrArg Prod.snd (z6X.eq _ _ h0)
   exact hb ((show b.type = a.type from this.symm).trans ha)
  have hk2 : cmpK (cntF c a) (cntF c b) = cmpK a b := by rw [z6G, z6G, zGk, zGk]
  unfold cmpR at hl ⊢
  rw [orL3, if_neg hk] at hl
  rw [orL3, hk2, if_neg hk]; exact hl
 ·by_cases hb : b.type = 6
  ·have hk : cmpK a b ≠ 0 := by
    rw [z6G]
    intro h0
    have := congrArg Prod.snd (z6X.eq _ _ h0)
    exact ha (by rw [show a.type = b.type from this]; exact hb)
   have hk2 : cmpK (cntF c a) (cntF c b) = cmpK a b := by rw [z6G, z6G, zGk, zGk]
   unfold cmpR at hl ⊢
   rw [orL3, if_neg hk] at hl
   rw [orL3, hk2, if_neg hk]; exact hl
  ·rw [zGA ha, zGA hb]; exact hl
theorem zOF {c : Int} {apex : List UInt8} {xs : List Rec} (h : Rises xs) (hs : RuleS apex xs) : Rises (xs.map (cntF c)) := by
 refine Rises.of (fun r hr => ?_) ?_
 ·obtain ⟨y, hy, rfl⟩ := List.mem_map.1 hr
  exact zQm (h.ok y hy)
 ·rw [List.pairwise_iff_getElem]
  intro i j hi hj hij
  rw [List.length_map] at hi hj
  rw [List.getElem_map, List.getElem_map]
  exact zOv (zOU hs hi hj hij) ((List.pairwise_iff_getElem.1 h.pw) i j hi hj hij)
theorem zPY {c : Int} {apex : List UInt8} {xs : List Rec} (hs : RuleS apex xs) : RuleS apex (xs.map (cntF c)) := by
 refine ⟨fun r hr => ?_, by rw [zLn]; exact hs.s2, fun i hi => ?_, fun i hi j hij => ?_, by rw [zIv]; exact hs.s5, fun r hr => ?_⟩
 ·obtain ⟨y, hy, rfl⟩ := List.mem_map.1 hr
  rw [z4U]; exact hs.s1 y hy
 ·rw [List.length_map] at hi
  have h3 := hs.s3 i hi
  by_cases h0 : 0 < i
  ·have hi1 : i - 1 < xs.length := by omega
   unfold z6V at h3 ⊢
   rw [zCn, zCn, z0J hi, z0J hi1]
   rw [z0J hi, z0J hi1] at h3
   by_cases ha : xs[i - 1].type = 6
   ·have hb : xs[i].type ≠ 6 := fun hb => zOU hs hi1 hi (by omega) ⟨ha, hb⟩
    rw [z4q, z4q, z4U, z4U]
    have : (xs[i - 1].type == xs[i].type) = false := by
     rw [beq_eq_false_iff_ne, ha]; exact fun e => hb e.symm
    rw [this]; simp
   ·by_cases hb : xs[i].type = 6
    ·rw [z4q, z4q, z4U, z4U]
     have : (xs[i - 1].type == xs[i].type) = false := by
      rw [beq_eq_false_iff_ne, hb]; exact ha
     rw [this]; simp
    ·rw [zGA ha, zGA hb]; exact h3
  ·unfold z6V
   rw [decide_eq_false h0]; rfl
 ·rw [List.length_map] at hi
  have := hs.s4 i hi j hij
  rw [zCn, zCn]
  unfold z8a at this ⊢
  rw [z4U, z4U, z4q, z4q]; exact this
 ·obtain ⟨y, hy, rfl⟩ := List.mem_map.1 hr
  have := hs.s6 y hy
  unfold z6J at this ⊢
  have hc : zF8 apex (xs.map (cntF c)) (cntF c y).name = zF8 apex xs y.name := by
   unfold zF8
   rw [z4U]
   congr 1
   funext n
   exact zIv c xs n 2
  rw [hc, z4q, z4U]; exact this
theorem zPA {z z' : Zn} (hg : z.Good) (h1 : z'.apex = z.apex) (h2 : z'.counter = z.counter + 1) (h3 : z.counter ≠ 1152921504606846976) {ys : List Rec} (h4 : z'.recs = ys.map (cntF (z.counter + 1))) (hR : Rises ys) (hs : RuleS z.apex ys) (h40 : ys.length ≤ 40) : z'.Good := by
 have hc := hg.cnt
 simp only [inP, Bool.and_eq_true, decide_eq_true_eq] at hc
 refine ⟨?_, by rw [h1]; exact hg.apx, by rw [h4, List.length_map]; exact h40, by rw [h4]; exact (zOF hR hs).rs, by rw [h1, h4]; exact zPY hs, fun r hr h6 => ?_⟩
 ·rw [h2]
  simp only [inP, Bool.and_eq_true, decide_eq_true_eq]; omega
 ·rw [h4] at hr
  obtain ⟨y, hy, rfl⟩ := List.mem_map.1 hr
  rw [z4q] at h6
  unfold cntF
  rw [if_pos h6, h2]
end Go.Proofs.YtllbponcjpcbnaaGreatDoor
namespace Go.Proofs.YtllbponcjpcbnaaGreatDoor
open Go Go.Own
structure Ask where
 client : Int
 no : Int
 ch : List (Int × Rec)
def Ask.d (a : Ask) : D := .pair (.int a.client) (.pair (.int a.no) (.pair (.lst (a.ch.map chgD)) .unit))
structure Ask.In (B : Nat) (a : Ask) : Prop where
 len : a.ch.length ≤ B
 all : ∀ p ∈ a.ch, p.2.In B
def takD (c : Ctl) (d : Dn) (b : Bool) : D := .pair c.d (.pair d.d (.pair (.bool b) .unit))
theorem zNY {z : Zn} (h : z.recs.length ≤ lim) : z4j.F [z.d] = some z.d := by
 have f2 : z.d.fld 2 = .lst (z.recs.map Rec.d) := rfl
 rw [zFv, f2]
 exact z02 (z8y (by simpa using h)) rfl
theorem zIU {xs : List D} (h : xs.length ≤ lim) : z0q.F [.lst xs] = some (.lst xs) := by
 rw [z57]
 have ha : appOk 32 ([] : List D) (D.lst xs).l = true := z12 (by simp) h (by decide)
 rw [zQ3]
 ·refine z0U ha rfl
 ·intro h
  rw [if_pos ha]
  have : xs = [] := by simpa using h
  subst this
  rfl
theorem zId {c : Ctl} (hc : c.In lim) : z3S.F [c.d] = some c.d := by
 have f0 : c.d.fld 0 = c.zone.d := rfl
 have f1 : c.d.fld 1 = .lst (c.last.map Dn.d) := rfl
 rw [zBF, f0, f1]
 exact z02 (zNY hc.zone.len) (z02 (zIU (by simpa using hc.len)) rfl)
theorem zLK {c : Ctl} (hc : c.In lim) : z4V.F [c.d] = some c.d := by
 have f0 : c.d.fld 0 = c.zone.d := rfl
 have f1 : (c.d.fld 1).l = c.last.map Dn.d := rfl
 rw [zHk, f0, f1]
 exact z02 (zNW hc.zone.len) (z0U (z12 (by simp) (by simpa using hc.len) (by decide)) rfl)
structure CGood (c : Ctl) : Prop where
 zone : c.zone.Good
 many : 0 ≤ c.many ∧ c.many ≤ 1000000
 len : c.last.length ≤ 8
 up : ∀ i j (hi : i < c.last.length) (hj : j < c.last.length), i < j → c.last[i].client < c.last[j].client
theorem CGood.pw {c : Ctl} (h : CGood c) : c.last.Pairwise (fun x y => x.client < y.client) := List.pairwise_iff_getElem.2 fun i j hi hj hij => h.up i j hi hj hij
theorem CGood.of_pw {l : List Dn} (h : l.Pairwise (fun x y => x.client < y.client)) : ∀ i j (hi : i < l.length) (hj : j < l.length), i < j → l[i].client < l[j].client := fun i j hi hj hij => List.pairwise_iff_getElem.1 h i j hi hj hij
def z8i (l : List Dn) (k : Nat) (b : Bool) (d : Dn) : List Dn := l.take k ++ d :: l.drop (if b then k + 1 else k)
theorem zOA {l : List Dn} {k : Nat} {d : Dn} (h : k < l.length) : (l.map Dn.d).set k d.d = (z8i l k true d).map Dn.d := by
 unfold z8i
 rw [if_pos rfl, List.set_eq_take_append_cons_drop, if_pos (by simpa using h), List.map_append, List.map_cons, List.map_take, List.map_drop]
theorem zO9 {l : List Dn} {k : Nat} {d : Dn} {y : D} (h : k ≤ l.length) : ((l.map Dn.d).take k ++ [y] ++ (l.map Dn.d).drop k).set k d.d = (z8i l k false d).map Dn.d := by
 have hl : ((l.map Dn.d).take k).length = k := by simp; omega
 unfold z8i
 rw [List.append_assoc, List.set_append, hl, if_neg (by omega), Nat.sub_self]
 simp [List.map_take, List.map_drop]
theorem zPU {l : List Dn} {k : Nat} {b : Bool} {d : Dn} (hp : l.Pairwise (fun x y => x.client < y.client)) (k1 : k ≤ l.length) (k2 : ∀ i (hi : i < l.length), i < k → l[i].client < d.client) (k3 : ∀ hk : k < l.length, ¬ l[k].client < d.client) (kb : b = true ↔ ∃ h : k < l.length, l[k].client = d.client) : (z8i l k b d).Pairwise (fun x y => x.client < y.client) := by
 have hpi := List.pairwise_iff_getElem.1 hp
 unfold z8i
 rw [List.pairwise_append, List.pairwise_cons]
 have hbig : ∀ y ∈ l.drop (if b = true then k + 1 else k), d.client < y.client := by
  intro y hy
  obtain ⟨i, hi, rfl⟩ := List.getElem_of_mem hy
  rw [List.length_drop] at hi
  rw [List.getElem_drop]
  split at hi
  ·rename_i hb
   obtain ⟨hk, hke⟩ := kb.1 hb
   have := hpi k (k + 1 + i) hk (by omega) (by omega)
   simp only [hb, if_true]
   rw [← hke]; exact this
  ·rename_i hb
   have hk : k < l.length := by omega
   have h1 := k3 hk
   have h2 : l[k].client ≠ d.client := fun h => hb (kb.2 ⟨hk, h⟩)
   have h0 : b = false := by simpa using hb
   subst h0
   simp only [Bool.false_eq_true, if_false]
   by_cases h0 : i = 0
   ·subst h0
    show d.client < l[k + 0].client
    have : l[k + 0] = l[k] := rfl
    rw [this]; omega
   ·have := hpi k (k + i) hk (by omega) (by omega)
    omega
 refine ⟨hp.sublist (List.take_sublist _ _), ⟨hbig, hp.sublist (List.drop_sublist _ _)⟩, fun x hx y hy => ?_⟩
 obtain ⟨i, hi, rfl⟩ := List.getElem_of_mem hx
 rw [List.length_take] at hi
 have hlt := k2 i (by omega) (by omega)
 rw [List.getElem_take]
 rcases List.mem_cons.1 hy with rfl | hy
 ·exact hlt
 ·have := hbig y hy; omega
theorem zQr {c : Ctl} (hg : CGood c) (n : Int) : ∃ (k : Nat) (b : Bool), k ≤ c.last.length ∧ (∀ i (hi : i < c.last.length), i < k → c.last[i].client < n) ∧ (∀ hk : k < c.last.length, ¬ c.last[k].client < n) ∧ (b = true ↔ ∃ h : k < c.last.length, c.last[k].client = n) ∧
 z2q.F [c.d, .int n] = some (.pair (.int (k : Int)) (.pair (.bool b) .unit)) := by
 have hlim : lim = 1048576 := rfl
 have hl := hg.len
 have f1 : c.d.fld 1 = .lst (c.last.map Dn.d) := rfl
 have hlt : ∀ x y : Int, intC x y < 0 ↔ x < y := by intro x y; unfold intC; split <;> (try split) <;> omega
 obtain ⟨k, k1, k2, k3, b, hb, hr⟩ := zPp (f := Dn.d) (c := fun d => z1E.F [d, .int n]) (xs := c.last) (cv := fun x => intC x.client n) (by omega) (fun x _ => by
  show z1E.F [x.d, .int n] = _
  rw [z8A]
  have : x.d.fld 0 = .int x.client := rfl
  rw [this]
  exact z02 (zGp x.client n) rfl) (fun i j hi hj hij h => by
  rw [hlt] at h ⊢
  by_cases he : i = j
  ·subst he; exact h
  ·have := hg.up i j hi hj (by omega); omega)
 have hz : ∀ x : Int, intC x n = 0 ↔ x = n := by intro x; unfold intC; split <;> (try split) <;> omega
 refine ⟨k, b, k1, fun i hi hik => (hlt _ _).1 (k2 i hi hik), fun hk h => ?_, ?_, ?_⟩
 ·have := k3 k hk (Nat.le_refl _)
  have := (hlt _ _).2 h
  omega
 ·rw [hb]
  exact ⟨fun ⟨h, e⟩ => ⟨h, (hz _).1 e⟩, fun ⟨h, e⟩ => ⟨h, (hz _).2 e⟩⟩
 ·rw [z9M, f1]
  refine z02 (r := .pair (.int (k : Int)) (.pair (.bool b) .unit)) ?_ rfl
  rw [z1P]; exact hr
theorem zQt {c : Ctl} {a : Ask} (hc : c.In lim) (hg : CGood c) (ha : a.In lim) : ∃ (c' : Ctl) (d : Dn) (b : Bool), c'.In lim ∧ (b = true → CGood c') ∧ z25.F [c.d, a.d] = some (takD c' d b) ∧ z49.F [c.d, a.d] = some (takD c' d b) := by
 have hlim : lim = 1048576 := rfl
 have c0 : c.d.fld 0 = c.zone.d := rfl
 have c1 : c.d.fld 1 = .lst (c.last.map Dn.d) := rfl
 have c2 : c.d.fld 2 = .int c.many := rfl
 have a0 : a.d.fld 0 = .int a.client := rfl
 have a1 : a.d.fld 1 = .int a.no := rfl
 have a2 : a.d.fld 2 = .lst (a.ch.map chgD) := rfl
 have hl8 := hg.len
 have hnC : nulC.In lim := ⟨⟨by simp [nulC], by simp [nulC], by simp [nulC]⟩, by simp [nulC]⟩
 obtain ⟨k, b, k1, k2, k3, kb, hfind⟩ := zQr hg a.client
 have hI := zM8 a.client a.no
 have hS := zP6 a.client a.no
 have hlen : (D.lst (c.last.map Dn.d)).l.length = c.last.length := by simp
 have hll : (D.lst (c.last.map Dn.d)).l = c.last.map Dn.d := rfl
 rw [z9N, zG1]
 simp only [c0, c1, c2, a0, a1, a2, hll, List.length_map, D.i_int]
 cases hw : who a.client a.no with
 | false =>
   rw [hw] at hI hS
   exact ⟨nulC, Dn.nul, false, hnC, by simp, z02 hI (z0U rfl rfl), z02 hS (z0U rfl rfl)⟩
 | true =>
   rw [hw] at hI hS
   have hloop : z0a (fun l3 =>
    (if (decide ((gd l3 0).i < ((c.last.length : Nat) : Int))) then
        if (inb (gd l3 0).i c.last.length) then
        ou 0 [(.bool (decide (((gd (c.last.map Dn.d) (gd l3 0).i.toNat).fld 0).i < a.client)))]
        else none
      else
       ou 0 [(.bool false)]).bind fun o4 =>
    sel2 o4.1 (if (gd o4.2 0).b then
     ou 0 [(.int (IntKind.wrap .i64 ((gd l3 0).i + 1)))]
     else
      ou 1 [(gd l3 0)]) fun _ => none) [(.int 0)] = some (0, [.int (k : Int)]) := by
    refine z1R (fun i (_ : Unit) => [.int (i : Int)]) k (fun _ => ()) rfl ?_ ?_
    ·intro i hi
     have hi' : i < c.last.length := by omega
     have e0 : (gd [D.int (i : Int)] 0).i = (i : Int) := rfl
     have hgg : gd (c.last.map Dn.d) i = c.last[i].d := zKW hi'
     have f0 : (c.last[i].d.fld 0).i = c.last[i].client := rfl
     simp only [e0, Int.toNat_natCast, hgg, f0]
     refine z0b (l := [.bool true]) (z01 (decide_eq_true (by omega)) (z01 (z0B hi') ?_)) (z01 rfl ?_)
     ·rw [decide_eq_true (k2 i hi' hi)]
     ·rw [z0N hi' (by rw [z0p]; omega)]
    ·have e0 : (gd [D.int (k : Int)] 0).i = (k : Int) := rfl
     simp only [e0, Int.toNat_natCast]
     refine z0b (l := [.bool false]) ?_ (z00 (by simp) rfl)
     by_cases hk : k < c.last.length
     ·have hgg : gd (c.last.map Dn.d) k = c.last[k].d := zKW hk
      have f0 : (c.last[k].d.fld 0).i = c.last[k].client := rfl
      rw [hgg, f0]
      refine z01 (decide_eq_true (by omega)) (z01 (z0B hk) ?_)
      rw [decide_eq_false (k3 hk)]
     ·exact z00 (fun h => hk (by have := of_decide_eq_true h; omega)) rfl
   have hhas : (if (decide ((k : Int) < ((c.last.length : Nat) : Int))) then if (inb (k : Int) c.last.length) then ou 0 [(.bool (((gd (c.last.map Dn.d) (k : Int).toNat).fld 0).i == a.client))] else none else ou 0 [(.bool false)] : Outc) = some (0, [.bool b]) := by
    by_cases hk : k < c.last.length
    ·have hgg : gd (c.last.map Dn.d) k = c.last[k].d := zKW hk
     have f0 : (c.last[k].d.fld 0).i = c.last[k].client := rfl
     rw [Int.toNat_natCast, hgg, f0]
     refine z01 (decide_eq_true (by omega)) (z01 (z0B hk) ?_)
     have : (c.last[k].client == a.client) = b := by
      rw [Bool.eq_iff_iff, kb, beq_iff_eq]
      exact ⟨fun h => ⟨hk, h⟩, fun ⟨_, h⟩ => h⟩
     rw [this]
    ·have : b = false := by
      rw [← Bool.not_eq_true, kb]
      rintro ⟨h, _⟩; exact hk h
     rw [this]
     exact z00 (fun h => hk (by have := of_decide_eq_true h; omega)) rfl
   have g0 : (gd [D.int (k : Int)] 0).i = (k : Int) := rfl
   have P0 : ∀ x y : D, (D.pair x (.pair y .unit)).fld 0 = x := fun _ _ => rfl
   have P1 : ∀ x y : D, (D.pair x (.pair y .unit)).fld 1 = y := fun _ _ => rfl
   have hz : c.zone.In lim := hc.zone
   obtain ⟨z', n, z1, z2, z3, hAI, hAS, hgd⟩ := zQB hz hg.zone ha.len ha.all
   -- the zone behind it
   let zz : Zn := if n = 0 then z' else c.zone
   have hzz : zz.In lim := by show (if n = 0 then z' else c.zone).In lim; split; exact z1; exact hz
   have hzd : zz.d = if n = 0 then z'.d else c.zone.d := by show (if n = 0 then z' else c.zone).d = _; split <;> rfl
   let d : Dn := ⟨a.client, a.no, n, zz.counter.tmod 4294967296⟩
   let c' : Ctl := ⟨zz, z8i c.last k b d, c.many + 1⟩
   have hpl : (z8i c.last k b d).length ≤ 9 := by unfold z8i; simp only [List.length_append, List.length_cons, List.length_take, List.length_drop]; split <;> omega
   have hc' : c'.In lim := ⟨hzz, by show (z8i c.last k b d).length ≤ lim; omega⟩
   have hmw : IntKind.wrap .i64 (c.many + 1) = c.many + 1 := by have := hg.many; rw [z0c] <;> omega
   have hgz : zz.Good := by
    show (if n = 0 then z' else c.zone).Good
    split
    ·rename_i hn
     obtain ⟨q1, q2, q3, ys, q4, q5, q6, q7⟩ := hgd hn
     exact zPA hg.zone q1 q2 q3 q4 q5 q6 q7
    ·exact hg.zone
   have hup := hg.pw
   have hgood : (b = true ∨ c.last.length ≠ 8) → c.many ≠ 1000000 → CGood c' := by
    intro hb hm
    refine ⟨hgz, ⟨by have := hg.many; show 0 ≤ c.many + 1; omega, by have := hg.many; show c.many + 1 ≤ 1000000; omega⟩, ?_, CGood.of_pw ?_⟩
    ·show (z8i c.last k b d).length ≤ 8
     unfold z8i
     simp only [List.length_append, List.length_cons, List.length_take, List.length_drop]
     split
     ·rename_i hbt
      obtain ⟨h, _⟩ := kb.1 hbt
      omega
     ·rename_i hbf
      have := hb.resolve_left hbf
      omega
    ·show (z8i c.last k b d).Pairwise (fun x y => x.client < y.client)
     exact zPU hup k1 k2 k3 kb
   have hown := zId hc
   rw [← hzd] at hAS
   -- the program's end
   have tailI : ∀ (L : List D) (zI : D), zI = c.zone.d → k < L.length → L.set k d.d = (z8i c.last k b d).map Dn.d →
    rn ((z4z.F [zI, .lst (a.ch.map chgD)]).bind fun r6 =>
     (if ((r6.fld 1).i == 0) then ou 0 [((D.pair zI (.pair (.lst L) (.pair (.int c.many) .unit))).setFld 0 (r6.fld 0))] else ou 0 [(D.pair zI (.pair (.lst L) (.pair (.int c.many) .unit)))]).bind fun o7 =>
     sel2 o7.1 (if (4294967296 != 0) then
      if (inb (k : Int) ((gd o7.2 0).fld 1).l.length) then
      ou 0 [(.pair (((gd o7.2 0).setFld 2 (.int (IntKind.wrap .i64 (((gd o7.2 0).fld 2).i + 1)))).setFld 1 (D.lst (((gd o7.2 0).fld 1).l.set (k : Int).toNat (.pair (.int a.client) (.pair (.int a.no) (.pair (r6.fld 1) (.pair (.int ((((gd o7.2 0).fld 0).fld 1).i.tmod 4294967296)) .unit))))))) (.pair (.pair (.int a.client) (.pair (.int a.no) (.pair (r6.fld 1) (.pair (.int ((((gd o7.2 0).fld 0).fld 1).i.tmod 4294967296)) .unit)))) (.pair (.bool true) .unit)))]
      else none
     else none) fun _ => none) = some (takD c' d true) := by
    rintro L _ rfl hkL hset
    refine z02 hAI (z06 (l := [D.pair zz.d (.pair (.lst L) (.pair (.int c.many) .unit))]) ?_ (z0U rfl (z0U (z0B hkL) ?_)))
    ·rw [P1, P0, D.i_int]
     by_cases hn : n = 0
     ·rw [if_pos (by simp [hn])]
      have : zz.d = z'.d := by rw [hzd, if_pos hn]
      rw [this, if_pos hn]; rfl
     ·rw [if_neg (by simp [hn])]
      have : zz.d = c.zone.d := by rw [hzd, if_neg hn]
      rw [this]
    ·show some (D.pair (.pair zz.d (.pair (.lst (L.set k d.d)) (.pair (.int (IntKind.wrap .i64 (c.many + 1))) .unit))) (.pair d.d (.pair (.bool true) .unit))) = _
     rw [hmw, hset]; rfl
   have hs1 : slOk 0 (k : Int) (c.last.length : Int) = true := by simp [slOk]; omega
   have htk : ((c.last.map Dn.d).take k).length = k := by simp; omega
   -- the reference's end
   have tailS : rn ((z2m.F [c.zone.d, .lst (a.ch.map chgD)]).bind fun r7 =>
    if (4294967296 != 0) then
    if (slOk 0 (k : Int) (c.last.length : Int)) then
    if (appOk 32 ([] : List D) (((c.last.map Dn.d).drop 0).take (((k : Int).toNat - 0 : Nat) : Int).toNat)) then
    if (appOk 32 (([] : List D) ++ (((c.last.map Dn.d).drop 0).take (((k : Int).toNat - 0 : Nat) : Int).toNat)) ((.pair (.int a.client) (.pair (.int a.no) (.pair (r7.fld 1) (.pair (.int (((r7.fld 0).fld 1).i.tmod 4294967296)) .unit)))) :: ([] : List D))) then
    (if b then ou 0 [(.int (IntKind.wrap .i64 ((k : Int) + 1)))] else ou 0 [(.int (k : Int))]).bind fun o8 =>
    sel2 o8.1 (if (slOk (gd o8.2 0).i (c.last.length : Int) (c.last.length : Int)) then
     if (appOk 32 ((([] : List D) ++ (((c.last.map Dn.d).drop 0).take (((k : Int).toNat - 0 : Nat) : Int).toNat)) ++ ((.pair (.int a.client) (.pair (.int a.no) (.pair (r7.fld 1) (.pair (.int (((r7.fld 0).fld 1).i.tmod 4294967296)) .unit)))) :: ([] : List D))) (((c.last.map Dn.d).drop (gd o8.2 0).i.toNat).take (((c.last.length : Int).toNat - (gd o8.2 0).i.toNat : Nat) : Int).toNat)) then
     ou 0 [(.pair (.pair (r7.fld 0) (.pair (D.lst (((([] : List D) ++ (((c.last.map Dn.d).drop 0).take (((k : Int).toNat - 0 : Nat) : Int).toNat)) ++ ((.pair (.int a.client) (.pair (.int a.no) (.pair (r7.fld 1) (.pair (.int (((r7.fld 0).fld 1).i.tmod 4294967296)) .unit)))) :: ([] : List D))) ++ (((c.last.map Dn.d).drop (gd o8.2 0).i.toNat).take (((c.last.length : Int).toNat - (gd o8.2 0).i.toNat : Nat) : Int).toNat))) (.pair (.int (IntKind.wrap .i64 (c.many + 1))) .unit))) (.pair (.pair (.int a.client) (.pair (.int a.no) (.pair (r7.fld 1) (.pair (.int (((r7.fld 0).fld 1).i.tmod 4294967296)) .unit)))) (.pair (.bool true) .unit)))]
     else none
    else none) fun _ => none
    else none
    else none
    else none
    else none) = some (takD c' d true) := by
    refine z02 hAS ?_
    simp only [P0, P1, Int.toNat_natCast, Nat.sub_zero, List.drop_zero, List.nil_append]
    refine z0U rfl (z0U hs1 (z0U (z12 (by simp) (by rw [htk]; omega) (by decide)) (z0U (z12 (by rw [htk]; omega) (by simp; omega) (by decide)) ?_)))
    have kk : ∃ q : Nat, q = (if b = true then k + 1 else k) ∧ q ≤ c.last.length := by
     refine ⟨_, rfl, ?_⟩
     split
     ·rename_i hb
      obtain ⟨h, _⟩ := kb.1 hb; omega
     ·exact k1
    obtain ⟨q, hq, hql⟩ := kk
    refine z06 (l := [.int (q : Int)]) ?_ ?_
    ·rw [hq]
     cases hb : b with
     | true =>
       obtain ⟨h, _⟩ := kb.1 hb
       refine z01 rfl ?_
       rw [z0N h (by rw [z0p]; omega)]; rfl
     | false => exact z00 (by simp) rfl
    ·have hqt : ((c.last.map Dn.d).drop q).length = c.last.length - q := by simp
     simp only [z14, D.i_int, Int.toNat_natCast]
     refine z0U (by simp [slOk]; omega) (z0U (z12 (by rw [List.length_append, htk]; simp; omega) (by rw [List.length_take, hqt]; omega) (by decide)) ?_)
     rw [List.take_of_length_le (l := (c.last.map Dn.d).drop q) (by rw [hqt]; omega)]
     show some (D.pair (.pair zz.d (.pair (.lst _) (.pair (.int (IntKind.wrap .i64 (c.many + 1))) .unit))) (.pair d.d (.pair (.bool true) .unit))) = _
     rw [hmw]
     have : (c.last.map Dn.d).take k ++ [d.d] ++ (c.last.map Dn.d).drop q = (z8i c.last k b d).map Dn.d := by
      unfold z8i
      rw [← hq, List.map_append, List.map_cons, List.map_take, List.map_drop, List.append_assoc]; rfl
     show some (D.pair (.pair zz.d (.pair (.lst ((c.last.map Dn.d).take k ++ [d.d] ++ (c.last.map Dn.d).drop q)) (.pair (.int (c.many + 1)) .unit))) (.pair d.d (.pair (.bool true) .unit))) = _
     rw [this]; rfl
   cases hb : b with
   | true =>
     obtain ⟨hk, hkc⟩ := kb.1 hb
     have hgk : gd (c.last.map Dn.d) k = c.last[k].d := zKW hk
     have fk1 : (c.last[k].d.fld 1).i = c.last[k].no := rfl
     rw [hb] at hfind hhas tailI tailS
     by_cases hno : c.last[k].no = a.no
     ·refine ⟨c, c.last[k], true, hc, fun _ => hg, ?_, ?_⟩
      ·refine z02 hI (z04 (by simp) (z02 hown (z02 hfind ?_)))
       simp only [P0, P1, D.b_bool, D.i_int, Int.toNat_natCast, hgk, fk1]
       refine z7O (l := [c.d, c.last[k].d, .bool true]) (z0b (l := [.bool true]) (z01 (by first | rfl | trivial) (z01 (z0B hk) (by rw [hno]; simp [ou]))) (z01 (by first | rfl | trivial) (z01 (z0B hk) rfl))) (z8C rfl)
      ·refine z02 hS (z04 (by simp) (z06 hloop ?_))
       simp only [g0]
       refine z06 hhas ?_
       simp only [z14, D.b_bool, Int.toNat_natCast, hgk, fk1]
       exact z06 (l := [.bool true]) (z01 (by first | rfl | trivial) (z01 (z0B hk) (by rw [hno]; simp [ou]))) (z0U rfl (z0U (z0B hk) rfl))
     ·have hno' : (c.last[k].no == a.no) = false := by simpa using hno
      by_cases hst : c.last[k].no > a.no ∨ c.many = 1000000
      ·refine ⟨nulC, Dn.nul, false, hnC, by simp, ?_, ?_⟩
       ·refine z02 hI (z04 (by simp) (z02 hown (z02 hfind ?_)))
        simp only [P0, P1, D.b_bool, D.i_int, Int.toNat_natCast, hgk, fk1, hno']
        refine z7O (l := [nulC.d, Dn.nul.d, .bool false]) (z0b (l := [.bool false]) (z01 (by first | rfl | trivial) (z01 (z0B hk) rfl)) (z00 (by simp) (z0b (l := [.bool true]) ?_ (z01 (by first | rfl | trivial) rfl)))) (z8C rfl)
        by_cases h1 : c.last[k].no > a.no
        ·exact z0b (l := [.bool true]) (z01 (by first | rfl | trivial) (z01 (z0B hk) (by simp [h1, ou]))) (z01 (by first | rfl | trivial) rfl)
        ·have h2 : c.many = 1000000 := hst.resolve_left h1
         exact z0b (l := [.bool false]) (z01 (by first | rfl | trivial) (z01 (z0B hk) (by simp [ou]; omega))) (z00 (by simp) (z0b (l := [.bool false]) (z00 (by simp) rfl) (z00 (by simp) (by rw [h2]; rfl))))
       ·refine z02 hS (z04 (by simp) (z06 hloop ?_))
        simp only [g0]
        refine z06 hhas ?_
        simp only [z14, D.b_bool, Int.toNat_natCast, hgk, fk1, hno']
        refine z06 (l := [.bool false]) (z01 (by first | rfl | trivial) (z01 (z0B hk) rfl)) (z04 (by simp) (z06 (l := [.bool true]) (z01 (by first | rfl | trivial) (z01 (z0B hk) ?_)) (z0U rfl rfl)))
        by_cases h1 : c.last[k].no > a.no
        ·exact z01 (decide_eq_true h1) rfl
        ·have h2 : c.many = 1000000 := hst.resolve_left h1
         exact z00 (fun h => h1 (of_decide_eq_true h)) (z00 (by simp) (by rw [h2]; rfl))
      ·have h1 : ¬ c.last[k].no > a.no := fun h => hst (.inl h)
       have h2 : (c.many == 1000000) = false := by simpa using (fun h => hst (.inr h) : ¬ c.many = 1000000)
       refine ⟨c', d, true, hc', fun _ => hgood (.inl hb) (fun h => hst (.inr h)), ?_, ?_⟩
       ·refine z02 hI (z04 (by simp) (z02 hown (z02 hfind ?_)))
        simp only [P0, P1, D.b_bool, D.i_int, Int.toNat_natCast, hgk, fk1, hno', h2]
        refine z06 (l := [c.d]) (z0b (l := [.bool false]) (z01 (by first | rfl | trivial) (z01 (z0B hk) rfl)) (z00 (by simp) (z0b (l := [.bool false]) (z0b (l := [.bool false]) (z01 (by first | rfl | trivial) (z01 (z0B hk) (by simp [ou]; omega))) (z00 (by simp) (z0b (l := [.bool false]) (z00 (by simp) rfl) (z00 (by simp) rfl)))) (z00 (by simp) (z00 (by simp) rfl))))) ?_
        exact tailI (c.last.map Dn.d) _ rfl (by simpa using hk) (by rw [zOA hk])
       ·refine z02 hS (z04 (by simp) (z06 hloop ?_))
        simp only [g0]
        refine z06 hhas ?_
        simp only [z14, D.b_bool, Int.toNat_natCast, hgk, fk1, hno', h2]
        exact z06 (l := [.bool false]) (z01 (by first | rfl | trivial) (z01 (z0B hk) rfl)) (z04 (by simp) (z06 (l := [.bool false]) (z01 (by first | rfl | trivial) (z01 (z0B hk) (z00 (fun h => h1 (of_decide_eq_true h)) (z00 (by simp) rfl)))) (z04 (by simp) tailS)))
   | false =>
     rw [hb] at hfind hhas tailI tailS
     by_cases hst : c.last.length = 8 ∨ c.many = 1000000
     ·refine ⟨nulC, Dn.nul, false, hnC, by simp, ?_, ?_⟩
      ·refine z02 hI (z04 (by simp) (z02 hown (z02 hfind ?_)))
       simp only [P0, P1, D.b_bool, D.i_int, Int.toNat_natCast]
       refine z7O (l := [nulC.d, Dn.nul.d, .bool false]) (z0b (l := [.bool false]) (z00 (by simp) rfl) (z00 (by simp) (z0b (l := [.bool true]) (z0b (l := [.bool false]) (z00 (by simp) rfl) (z00 (by simp) ?_)) (z01 rfl rfl)))) (z8C rfl)
       by_cases h1 : c.last.length = 8
       ·exact z0b (l := [.bool true]) (z01 rfl (by rw [h1]; rfl)) (z01 rfl rfl)
       ·have h2 : c.many = 1000000 := hst.resolve_left h1
        exact z0b (l := [.bool false]) (z01 rfl (by simp [ou]; omega)) (z00 (by simp) (by rw [h2]; rfl))
      ·refine z02 hS (z04 (by simp) (z06 hloop ?_))
       simp only [g0]
       refine z06 hhas ?_
       simp only [z14, D.b_bool, Int.toNat_natCast]
       refine z06 (l := [.bool false]) (z00 (by simp) rfl) (z04 (by simp) (z06 (l := [.bool true]) (z00 (by simp) (z01 rfl ?_)) (z0U rfl rfl)))
       by_cases h1 : c.last.length = 8
       ·exact z01 (by rw [h1]; rfl) rfl
       ·have h2 : c.many = 1000000 := hst.resolve_left h1
        exact z00 (by simp; omega) (by rw [h2]; rfl)
     ·have h1 : ((c.last.length : Int) == 8) = false := by simp; omega
      have h2 : (c.many == 1000000) = false := by simpa using (fun h => hst (.inr h) : ¬ c.many = 1000000)
      refine ⟨c', d, true, hc', fun _ => hgood (.inr (fun h => hst (.inl h))) (fun h => hst (.inr h)), ?_, ?_⟩
      ·refine z02 hI (z04 (by simp) (z02 hown (z02 hfind ?_)))
       simp only [P0, P1, D.b_bool, D.i_int, Int.toNat_natCast, h1, h2, c1]
       have hins : z13.F [.lst (c.last.map Dn.d), .int (k : Int), (D.lst ((.pair (.int 0) (.pair (.int 0) (.pair (.int 0) (.pair (.int 0) .unit)))) :: ([] : List D)))] = some (.lst ((c.last.map Dn.d).take k ++ [Dn.nul.d] ++ (c.last.map Dn.d).drop k)) := by
        show insF 32 [.lst (c.last.map Dn.d), .int (k : Int), (D.lst [Dn.nul.d])] = _
        unfold insF
        dsimp only
        rw [if_pos]
        ·rfl
        ·exact ⟨⟨by simp, by simpa using k1⟩, by simp, z12 (by simp; omega) (by simp; omega) (by decide)⟩
       refine z06 (l := [.pair c.zone.d (.pair (.lst ((c.last.map Dn.d).take k ++ [Dn.nul.d] ++ (c.last.map Dn.d).drop k)) (.pair (.int c.many) .unit))]) (z0b (l := [.bool false]) (z00 (by simp) rfl) (z00 (by simp) (z0b (l := [.bool false]) (z0b (l := [.bool false]) (z00 (by simp) rfl) (z00 (by simp) (z0b (l := [.bool false]) (z01 rfl rfl) (z00 (by simp) rfl)))) (z00 (by simp) (z01 rfl (z05 hins rfl)))))) ?_
       exact tailI _ _ rfl (by simp; omega) (by rw [zO9 k1])
      ·refine z02 hS (z04 (by simp) (z06 hloop ?_))
       simp only [g0]
       refine z06 hhas ?_
       simp only [z14, D.b_bool, Int.toNat_natCast, h1, h2]
       exact z06 (l := [.bool false]) (z00 (by simp) rfl) (z04 (by simp) (z06 (l := [.bool false]) (z00 (by simp) (z01 rfl (z00 (by simp) rfl))) (z04 (by simp) tailS)))
end Go.Proofs.YtllbponcjpcbnaaGreatDoor
