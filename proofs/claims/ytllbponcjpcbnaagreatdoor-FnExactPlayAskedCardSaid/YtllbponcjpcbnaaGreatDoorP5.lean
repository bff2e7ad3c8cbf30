/- What the functions compute, in plain words. -/
import Derived.Test.YtllbponcjpcbnaaGreatDoorP4
set_option linter.unusedSectionVars false
set_option linter.unusedVariables false
set_option linter.unusedSimpArgs false
namespace Go.Proofs.YtllbponcjpcbnaaGreatDoor
open Go Go.Own
def same (x r : Rec) : Bool := r.name == x.name && (r.type == x.type && r.data == x.data)
def z6K (xs : List Rec) (x : Rec) : List Rec := xs.filter fun r => !same x r
theorem z8L (r x : Rec) : z1S.F [r.d, x.d] = some (.bool (same x r)) := by
 rw [zCS]
 have f0 : ∀ y : Rec, (y.d.fld 0).s = y.name := fun _ => rfl
 have f1 : ∀ y : Rec, (y.d.fld 1).i = y.type := fun _ => rfl
 have f3 : ∀ y : Rec, (y.d.fld 3).s = y.data := fun _ => rfl
 rw [f0, f0, f1, f1, f3, f3]
 refine z06 (l := [.bool (same x r)]) ?_ rfl
 unfold same
 by_cases h0 : (r.name == x.name) = true
 ·rw [h0, Bool.true_and]
  refine z01 rfl ?_
  by_cases h1 : (r.type == x.type) = true
  ·rw [h1, Bool.true_and]; exact z01 rfl rfl
  ·have h1' : (r.type == x.type) = false := by simpa using h1
   rw [h1']; exact z00 (by simp) rfl
 ·have h0' : (r.name == x.name) = false := by simpa using h0
  rw [h0']; exact z00 (by simp) rfl
theorem zIP {xs : List Rec} {x r : Rec} (h : r ∈ z6K xs x) : r ∈ xs := (List.mem_filter.1 h).1
theorem z9d (xs : List Rec) (x : Rec) : (z6K xs x).length ≤ xs.length := List.length_filter_le _ _
theorem zKA {xs : List Rec} (x : Rec) (h : Rises xs) : Rises (z6K xs x) := Rises.of (fun r hr => h.ok r (zIP hr)) (h.pw.filter _)
theorem drop_take {xs : List Rec} {x : Rec} {i : Nat} (hi : i < xs.length) : z6K (xs.take (i + 1)) x = z6K (xs.take i) x ++ (if same x xs[i] then [] else [xs[i]]) := by
 unfold z6K
 rw [List.take_add_one, List.getElem?_eq_getElem hi, List.filter_append]
 congr 1
 cases h : same x xs[i] <;> simp [h]
theorem zP7 {xs : List Rec} {x : Rec} (hl : xs.length ≤ 1000000) : z1U.F [.lst (xs.map Rec.d), x.d] = some (.lst ((z6K xs x).map Rec.d)) := by
 have hlim : lim = 1048576 := rfl
 have hlen : (D.lst (xs.map Rec.d)).l.length = xs.length := by simp
 rw [zHo, hlen]
 refine z06 (l := [.lst ((z6K xs x).map Rec.d)]) (z1R (fun i (s : List Rec) => [.lst (s.map Rec.d), .int (i : Int)]) xs.length (fun i => z6K (xs.take i) x) (t := 0) (by simp [z6K]) ?_ ?_) rfl
 ·intro i hi
  have e1 : (gd [D.lst ((z6K (xs.take i) x).map Rec.d), D.int (i : Int)] 1).i = (i : Int) := rfl
  have hg : gd (D.lst (xs.map Rec.d)).l i = xs[i].d := z4E hi
  have f0 : ∀ y : Rec, (y.d.fld 0).s = y.name := fun _ => rfl
  have f1 : ∀ y : Rec, (y.d.fld 1).i = y.type := fun _ => rfl
  have f3 : ∀ y : Rec, (y.d.fld 3).s = y.data := fun _ => rfl
  simp only [e1, Int.toNat_natCast, hg, f0, f1, f3]
  have hdl := z9d (xs.take i) x
  rw [List.length_take] at hdl
  refine z01 (decide_eq_true (by omega)) (z0b (l := [.lst ((z6K (xs.take (i + 1)) x).map Rec.d)]) (z01 (z0B hi) (z0b (l := [.bool !(same x xs[i])]) ?_ ?_)) ?_)
  ·unfold same
   by_cases h0 : (xs[i].name == x.name) = true
   ·refine z00 (by simp [h0]) ?_
    by_cases h1 : (xs[i].type == x.type) = true
    ·refine z00 (by simpa using h1) ?_
     rw [h0, h1]; simp
    ·have h1' : (xs[i].type == x.type) = false := by simpa using h1
     rw [h0, h1']
     exact z01 (by simpa using h1) rfl
   ·have h0' : (xs[i].name == x.name) = false := by simpa using h0
    rw [h0']
    exact z01 rfl rfl
  ·rw [drop_take hi]
   cases hs : same x xs[i] with
   | true => exact z00 (by simp) (by simp)
   | false =>
     refine z01 rfl (z01 (z12 (by simp; omega) (by simp; omega) (by decide)) ?_)
     show some (0, [D.lst ((z6K (xs.take i) x).map Rec.d ++ [xs[i].d])]) = _
     simp
  ·show some (0, [D.lst ((z6K (xs.take (i + 1)) x).map Rec.d), D.int (IntKind.wrap .i64 ((i : Int) + 1))]) = _
   rw [z0N hi (by rw [z0p]; omega)]
 ·rw [List.take_length]
  exact z00 (by simp) rfl
theorem zP4 {xs : List Rec} {x : Rec} (hl : xs.length ≤ 1000000) : (∃ k : Nat, ∃ hk : k < xs.length, z0E.F [.lst (xs.map Rec.d), .pair x.d .unit] = some (.int (k : Int)) ∧ same x xs[k] = true ∧ ∀ i (hi : i < xs.length), i < k → same x xs[i] = false) ∨
 (z0E.F [.lst (xs.map Rec.d), .pair x.d .unit] = some (.int (-1)) ∧ ∀ i (hi : i < xs.length), same x xs[i] = false) := by
 have hlen : (D.lst (xs.map Rec.d)).l.length = xs.length := by simp
 have hx0 : (D.pair x.d .unit).fld 0 = x.d := rfl
 rw [z2M, hlen, hx0]
 have hf := z5M (f := fun l2 =>
  if (decide ((gd l2 0).i < (xs.length : Int))) then
   if (inb (gd l2 0).i xs.length) then
   (z1S.F [(gd (D.lst (xs.map Rec.d)).l (gd l2 0).i.toNat), x.d]).bind fun r3 =>
   if r3.b then
    ou 1 [(gd l2 0)]
   else
    ou 0 [(.int (IntKind.wrap .i64 ((gd l2 0).i + 1)))]
   else none
  else
   ou 2 []) (l := [.int 0]) (fun i => [.int (i : Int)]) xs.length (fun i => !(same x (xs.getD i Rec.nul))) (t1 := 0) (t2 := 1) (o1 := fun i => [.int (i : Int)]) (o2 := []) rfl (by
  intro i hi hp
  rw [z0J hi] at hp
  have e0 : (gd [D.int (i : Int)] 0).i = (i : Int) := rfl
  have hg : gd (D.lst (xs.map Rec.d)).l i = xs[i].d := z4E hi
  simp only [e0, Int.toNat_natCast, hg]
  refine z01 (decide_eq_true (by omega)) (z01 (z0B hi) (z05 (z8L _ _) (z00 (by simpa using hp) ?_)))
  show some (0, [D.int (IntKind.wrap .i64 ((i : Int) + 1))]) = _
  rw [z0N hi (by rw [z0p]; omega)]) (by
  intro i hi hp
  rw [z0J hi] at hp
  have e0 : (gd [D.int (i : Int)] 0).i = (i : Int) := rfl
  have hg : gd (D.lst (xs.map Rec.d)).l i = xs[i].d := z4E hi
  simp only [e0, Int.toNat_natCast, hg]
  exact z01 (decide_eq_true (by omega)) (z01 (z0B hi) (z05 (z8L _ _) (z01 (by simpa using hp) rfl)))) (by exact z00 (by simp) rfl)
 rcases hf with ⟨hall, h⟩ | ⟨k, hk, hp, hall, h⟩
 ·refine .inr ⟨z7O h (z8C rfl), fun i hi => ?_⟩
  have := hall i hi
  rw [z0J hi] at this
  simpa using this
 ·refine .inl ⟨k, hk, z06 h rfl, ?_, fun i hi hik => ?_⟩
  ·rw [z0J hk] at hp; simpa using hp
  ·have := hall i hik
   rw [z0J hi] at this
   simpa using this
theorem zIO {xs : List Rec} {x : Rec} (h : ∀ i (hi : i < xs.length), same x xs[i] = false) : z6K xs x = xs := by
 unfold z6K
 rw [List.filter_eq_self]
 intro r hr
 obtain ⟨i, hi, rfl⟩ := List.getElem_of_mem hr
 rw [h i hi]; rfl
structure Cmpt (xs : List Rec) (x : Rec) (j : Nat) (s : List D × Nat) : Prop where
 len : s.1.length = xs.length
 done : s.1.take s.2 = (z6K (xs.take j) x).map Rec.d
 cnt : s.2 = (z6K (xs.take j) x).length
 rest : s.1.drop j = (xs.map Rec.d).drop j
theorem zIV {xs : List Rec} {x : Rec} (hl : xs.length ≤ 1000000) : z08.F [.lst (xs.map Rec.d), .pair x.d .unit] = some (.lst ((z6K xs x).map Rec.d)) := by
 have hlim : lim = 1048576 := rfl
 have hx0 : (D.pair x.d .unit).fld 0 = x.d := rfl
 rw [z2G, hx0]
 rcases zP4 (x := x) hl with ⟨k, hk, hidx, hks, hkn⟩ | ⟨hidx, hall⟩
 ·refine z02 hidx (z04 (by simp) ?_)
  have hdk : z6K (xs.take k) x = xs.take k := zIO fun i hi => by
   rw [List.length_take] at hi
   rw [List.getElem_take]
   exact hkn i (by omega) (by omega)
  have hdk1 : z6K (xs.take (k + 1)) x = xs.take k := by rw [drop_take hk, hdk, if_pos hks, List.append_nil]
  have hw : IntKind.wrap .i64 ((D.int (k : Int)).i + 1) = ((k + 1 : Nat) : Int) := z0N hk (by rw [z0p]; omega)
  rw [hw]
  obtain ⟨⟨l, c⟩, hI, hloop⟩ := zLZ (f := fun l3 =>
   if (decide ((gd l3 2).i < ((gd l3 0).l.length : Int))) then
    (if (inb (gd l3 2).i (gd l3 0).l.length) then
      (z1S.F [(gd (gd l3 0).l (gd l3 2).i.toNat), x.d]).bind fun r6 =>
      if (!r6.b) then
       if (inb (gd l3 1).i (gd l3 0).l.length) then
       ou 0 [(D.lst ((gd l3 0).l.set (gd l3 1).i.toNat (gd (gd l3 0).l (gd l3 2).i.toNat))), (.int (IntKind.wrap .i64 ((gd l3 1).i + 1)))]
       else none
      else
       ou 0 [(gd l3 0), (gd l3 1)]
      else none).bind fun o6 =>
    sel2 o6.1 (ou 0 [(gd o6.2 0), (gd o6.2 1), (.int (IntKind.wrap .i64 ((gd l3 2).i + 1)))]) fun _ => none
   else
    ou 1 [(gd l3 0), (gd l3 1)]) (l := [.lst (xs.map Rec.d), .int (k : Int), .int ((k + 1 : Nat) : Int)]) (fun m (s : List D × Nat) => [.lst s.1, .int (s.2 : Int), .int ((k + 1 + m : Nat) : Int)]) (fun m s => Cmpt xs x (k + 1 + m) s) (xs.length - (k + 1)) (t := 0) (out := fun s => [.lst s.1, .int (s.2 : Int)]) (xs.map Rec.d, k) rfl
   ⟨by simp, by rw [Nat.add_zero, hdk1, List.map_take], by rw [Nat.add_zero, hdk1, List.length_take]; simp only; omega, by simp⟩ (by
   rintro m ⟨l, c⟩ hm ⟨h1, h2, h3, h4⟩
   simp only at h1 h2 h3 h4
   have hj : k + 1 + m < xs.length := by omega
   have hcl : c ≤ k + 1 + m := by
    rw [h3]
    have := z9d (xs.take (k + 1 + m)) x
    rw [List.length_take] at this; omega
   have e0 : (gd [D.lst l, D.int (c : Int), D.int ((k + 1 + m : Nat) : Int)] 0).l = l := rfl
   have e0' : gd [D.lst l, D.int (c : Int), D.int ((k + 1 + m : Nat) : Int)] 0 = .lst l := rfl
   have e1 : (gd [D.lst l, D.int (c : Int), D.int ((k + 1 + m : Nat) : Int)] 1).i = (c : Int) := rfl
   have e1' : gd [D.lst l, D.int (c : Int), D.int ((k + 1 + m : Nat) : Int)] 1 = .int (c : Int) := rfl
   have e2 : (gd [D.lst l, D.int (c : Int), D.int ((k + 1 + m : Nat) : Int)] 2).i = ((k + 1 + m : Nat) : Int) := rfl
   have hg : gd l (k + 1 + m) = xs[k + 1 + m].d := by
    have h5 := congrArg (fun q : List D => q.getD 0 .unit) h4
    simp only [List.getD_eq_getElem?_getD, List.getElem?_drop, Nat.add_zero, List.getElem?_map, List.getElem?_eq_getElem hj] at h5
    unfold gd
    rw [List.getD_eq_getElem?_getD, h5]; rfl
   have hw2 : IntKind.wrap .i64 (((k + 1 + m : Nat) : Int) + 1) = ((k + 1 + (m + 1) : Nat) : Int) := z0N hj (by rw [z0p]; omega)
   have hdt := drop_take (x := x) hj
   have hdrop : ∀ y : D, (l.set c y).drop (k + 1 + (m + 1)) = (xs.map Rec.d).drop (k + 1 + (m + 1)) := by
    intro y
    rw [List.drop_set, if_pos (by omega), show k + 1 + (m + 1) = (k + 1 + m) + 1 by omega, ← List.drop_drop, h4, List.drop_drop]
   have hdrop0 : l.drop (k + 1 + (m + 1)) = (xs.map Rec.d).drop (k + 1 + (m + 1)) := by
    rw [show k + 1 + (m + 1) = (k + 1 + m) + 1 by omega, ← List.drop_drop, h4, List.drop_drop]
   simp only [e0', e1', e2, D.l_lst, D.i_int, Int.toNat_natCast, hg, h1]
   cases hs : same x xs[k + 1 + m] with
   | true =>
     refine ⟨(l, c), z01 (decide_eq_true (by omega)) (z0b (l := [.lst l, .int (c : Int)]) (z01 (z0B hj) (z05 (z8L _ _) (z00 (by simp [hs]) rfl))) ?_), ⟨h1, ?_, ?_, hdrop0⟩⟩
     ·show some (0, [D.lst l, D.int (c : Int), D.int (IntKind.wrap .i64 (((k + 1 + m : Nat) : Int) + 1))]) = _
      rw [hw2]
     ·show l.take c = _
      rw [show k + 1 + (m + 1) = (k + 1 + m) + 1 by omega, hdt, if_pos hs, List.append_nil, h2]
     ·show c = _
      rw [show k + 1 + (m + 1) = (k + 1 + m) + 1 by omega, hdt, if_pos hs, List.append_nil, h3]
   | false =>
     have hcw : IntKind.wrap .i64 ((c : Int) + 1) = ((c + 1 : Nat) : Int) := z0N (show c < xs.length by omega) (by rw [z0p]; omega)
     refine ⟨(l.set c xs[k + 1 + m].d, c + 1), z01 (decide_eq_true (by omega)) (z0b (l := [.lst (l.set c xs[k + 1 + m].d), .int ((c + 1 : Nat) : Int)]) (z01 (z0B hj) (z05 (z8L _ _) (z01 (by simp [hs]) (z01 (z0B (by omega)) ?_)))) ?_), ⟨by simp [h1], ?_, ?_, hdrop _⟩⟩
     ·show some (0, [D.lst (l.set c xs[k + 1 + m].d), D.int (IntKind.wrap .i64 ((c : Int) + 1))]) = _
      rw [hcw]
     ·show some (0, [D.lst (l.set c xs[k + 1 + m].d), D.int ((c + 1 : Nat) : Int), D.int (IntKind.wrap .i64 (((k + 1 + m : Nat) : Int) + 1))]) = _
      rw [hw2]
     ·show (l.set c xs[k + 1 + m].d).take (c + 1) = _
      rw [show k + 1 + (m + 1) = (k + 1 + m) + 1 by omega, hdt, if_neg (by rw [hs]; simp), List.map_append, ← h2]
      have hcl2 : c < l.length := by omega
      rw [List.take_add_one, List.getElem?_set_self hcl2, List.take_set_of_le (Nat.le_refl _)]
      rfl
     ·show c + 1 = _
      rw [show k + 1 + (m + 1) = (k + 1 + m) + 1 by omega, hdt, if_neg (by rw [hs]; simp), List.length_append, h3]; rfl) (by
   rintro ⟨l, c⟩ ⟨h1, _, _, _⟩
   simp only at h1
   refine z00 ?_ rfl
   show ¬ decide (((k + 1 + (xs.length - (k + 1)) : Nat) : Int) < ((l.length : Nat) : Int)) = true
   rw [h1]
   simp; omega)
  obtain ⟨h1, h2, h3, _⟩ := hI
  simp only at h1 h2 h3
  rw [show k + 1 + (xs.length - (k + 1)) = xs.length by omega, List.take_length] at h2 h3
  have hc : c ≤ xs.length := by rw [h3]; exact z9d _ _
  refine z06 hloop ?_
  have g0 : (gd [D.lst l, D.int (c : Int)] 0).l = l := rfl
  have g1 : (gd [D.lst l, D.int (c : Int)] 1).i = (c : Int) := rfl
  simp only [g0, g1, Int.toNat_natCast, Nat.sub_zero, List.drop_zero, h1]
  have ht : (l.take c).length = c := by rw [List.length_take]; omega
  refine z0U (by simp [slOk]; omega) (z0U (by simp [winOk]; omega) (z0U ?_ (z0U ?_ ?_)))
  ·simp [slOk]; omega
  ·simp [winOk]; omega
  ·rw [List.append_assoc, List.take_append_of_le_length (by omega), List.take_of_length_le (by omega), h2]; rfl
 ·rw [zIO hall]
  exact z02 hidx (z0U rfl rfl)
end Go.Proofs.YtllbponcjpcbnaaGreatDoor
namespace Go.Proofs.YtllbponcjpcbnaaGreatDoor
open Go Go.Own
def chgD (p : Int × Rec) : D := .pair (.int p.1) (.pair p.2.d .unit)
theorem zLQ {l : List (Int × Rec)} {i : Nat} (h : i < l.length) : gd (l.map chgD) i = chgD l[i] := z5V h
def z7X (p : Int × Rec) : Bool := inP p.1 1 4 && (p.2.ok && !(p.2.type == 6))
def batB (l : List (Int × Rec)) : Bool := l.all z7X && decide (l.length ≤ 12)
theorem zQj (p : Int × Rec) : (if (!inP p.1 1 4) = true then ou 0 [.bool true] else (some (.bool p.2.ok)).bind fun r2 : D => if (!r2.b) = true then ou 0 [.bool true] else ou 0 [.bool (p.2.type == 6)] : Outc) = some (0, [.bool !(z7X p)]) := by
 unfold z7X
 cases inP p.1 1 4 <;> cases p.2.ok <;> simp [ou]
theorem zGo {p : Int × Rec} (hp : p.2.In lim) : z27.F [chgD p] = some (.bool !(z7X p)) := by
 rw [z9O]
 have f0 : (chgD p).fld 0 = .int p.1 := rfl
 have f1 : (chgD p).fld 1 = p.2.d := rfl
 have f11 : (p.2.d.fld 1).i = p.2.type := rfl
 rw [f0, f1, f11]
 refine z06 (l := [.bool !(z7X p)]) (z05 (z7j p.1 1 4) ?_) rfl
 rw [zIX hp]
 exact zQj p
theorem zIT {l : List (Int × Rec)} (hl : l.length ≤ lim) (hx : ∀ p ∈ l, p.2.In lim) : z3N.F [.lst (l.map chgD)] = some (.bool (batB l)) := by
 have hsm := Nat.le_trans hl z1A
 have hlen : (D.lst (l.map chgD)).l.length = l.length := by simp
 rw [zBD, hlen]
 refine z06 (l := [.bool (batB l)]) ?_ rfl
 unfold batB
 by_cases h12 : l.length ≤ 12
 ·obtain ⟨n, h1, h2⟩ := zDd (f := chgD) (c := fun d => z27.F [d]) (xs := l) (p := fun p => !(z7X p)) hsm (fun p hp => zGo (hx p hp))
  have hi : z0I.F [.lst (l.map chgD), .unit] = some (.int n) := by
   rw [z1r]; exact h1
  have hc : z0F.F [.lst (l.map chgD), .unit] = some (.bool (l.any fun p => !(z7X p))) := by
   rw [z1b]
   refine z02 hi ?_
   rw [← h2]; rfl
  refine z01 (decide_eq_true (by omega)) (z05 hc ?_)
  rw [decide_eq_true h12, Bool.and_true]
  have : (!(l.any fun p => !(z7X p))) = l.all z7X := by rw [List.not_any_eq_all_not]; simp
  show some (0, [D.bool (!(l.any fun p => !(z7X p)))]) = _
  rw [this]
 ·rw [decide_eq_false h12, Bool.and_false]
  exact z00 (by simp; omega) rfl
theorem zMB {l : List (Int × Rec)} (hl : l.length ≤ lim) (hx : ∀ p ∈ l, p.2.In lim) : z4l.F [.lst (l.map chgD)] = some (.bool (batB l)) := by
 have hsm := Nat.le_trans hl z1A
 have hlen : (D.lst (l.map chgD)).l.length = l.length := by simp
 rw [zG5, hlen]
 refine z0K (z3a (fun i => [.int i]) l.length (fun i => z7X (l.getD i (0, Rec.nul))) (t1 := 0) (t2 := 1) (o1 := []) (o2 := []) rfl ?_ ?_) ?_
 ·intro i hi
  have hg : gd (D.lst (l.map chgD)).l i = chgD l[i] := zLQ hi
  have e0 : (gd [D.int (i : Int)] 0).i = (i : Int) := rfl
  have f0 : (chgD l[i]).fld 0 = .int l[i].1 := rfl
  have f1 : (chgD l[i]).fld 1 = l[i].2.d := rfl
  have f11 : (l[i].2.d.fld 1).i = l[i].2.type := rfl
  simp only [e0, Int.toNat_natCast, hg, f0, f1, f11, z0J hi]
  refine z01 (decide_eq_true (by omega)) (z01 (z0B hi) (z0b (l := [.bool !(z7X l[i])]) (z05 (zD4 l[i].1 1 4) ?_) ?_))
  ·rw [zGD (hx _ (List.getElem_mem hi))]
   exact zQj l[i]
  ·cases z7X l[i] with
   | true =>
     refine z00 (by simp) ?_
     rw [z0N hi hsm]; rfl
   | false => exact z01 rfl rfl
 ·exact z00 (by simp) rfl
 ·have hall : allN l.length (fun i => z7X (l.getD i (0, Rec.nul))) = l.all z7X := z5h l z7X (0, Rec.nul)
  rw [hall]
  unfold batB
  cases l.all z7X with
  | false => rfl
  | true => simp; omega
def zDr (xs : List Rec) (p : Int × Rec) : Bool := (p.1 == 3 && !(z5a xs p.2.name p.2.type)) || (p.1 == 4 && z5a xs p.2.name p.2.type)
theorem zNw (k : Int) (b : Bool) : (if (k == 3) = true then if (!b) = true then ou 0 [.bool true] else if (k == 4) = true then ou 0 [.bool b] else ou 0 [.bool false] else if (k == 4) = true then ou 0 [.bool b] else ou 0 [.bool false] : Outc) = some (0, [.bool ((k == 3 && !b) || (k == 4 && b))]) := by
 cases b <;> by_cases h3 : (k == 3) = true <;> by_cases h4 : (k == 4) = true <;> simp [h3, h4, ou]
theorem zHJ {xs : List Rec} {n : List UInt8} {k : Int} (hk : k ≠ 0) : decide (0 < (xs.filter (isAt n k)).length) = z5a xs n k := by
 rw [Bool.eq_iff_iff, decide_eq_true_iff]
 unfold z5a
 rw [List.any_eq_true]
 constructor
 ·intro h
  obtain ⟨r, hr⟩ := List.exists_mem_of_length_pos h
  obtain ⟨h1, h2⟩ := List.mem_filter.1 hr
  refine ⟨r, h1, ?_⟩
  unfold isAt at h2
  simp [hk] at h2
  simp [h2]
 ·rintro ⟨r, h1, h2⟩
  refine List.length_pos_of_mem (a := r) (List.mem_filter.2 ⟨h1, ?_⟩)
  unfold isAt
  simp only [Bool.and_eq_true, beq_iff_eq] at h2
  simp [h2.1, h2.2]
theorem zP9 {z : Zn} {p : Int × Rec} (hz : z.In lim) (hp : p.2.ok = true) : z5F.F [z.d, chgD p] = some (.bool (zDr z.recs p)) := by
 rw [zHf]
 have z2 : z.d.fld 2 = .lst (z.recs.map Rec.d) := rfl
 have f0 : ((chgD p).fld 0).i = p.1 := rfl
 have f1 : (chgD p).fld 1 = p.2.d := rfl
 have f10 : p.2.d.fld 0 = .str p.2.name := rfl
 have f11 : p.2.d.fld 1 = .int p.2.type := rfl
 rw [z2, f0, f1, f10, f11]
 refine z02 (f_at hz.len) (z06 (l := [.bool (zDr z.recs p)]) ?_ rfl)
 have : decide ((((D.lst ((z.recs.filter (isAt p.2.name p.2.type)).map Rec.d)).l.length : Nat) : Int) > 0) = z5a z.recs p.2.name p.2.type := by
  rw [← zHJ (zOk hp)]
  rw [D.l_lst, List.length_map]
  rw [Bool.eq_iff_iff, decide_eq_true_iff, decide_eq_true_iff]; omega
 rw [this]
 exact zNw p.1 _
theorem zQH {z : Zn} {l : List (Int × Rec)} (hz : z.In lim) (hl : l.length ≤ lim) (hp : ∀ p ∈ l, p.2.ok = true) : z0O.F [.lst (l.map chgD), .pair z.d .unit] = some (.bool (l.any (zDr z.recs))) := by
 have hsm := Nat.le_trans hl z1A
 have hz0 : (D.pair z.d .unit).fld 0 = z.d := rfl
 obtain ⟨n, h1, h2⟩ := zDd (f := chgD) (c := fun d => z44.F [d, z.d]) (xs := l) (p := zDr z.recs) hsm (fun p h => by
  show z44.F [chgD p, z.d] = _
  rw [zFp]
  exact z02 (zP9 hz (hp p h)) rfl)
 have hi : z0T.F [.lst (l.map chgD), .pair z.d .unit] = some (.int n) := by
  rw [z2Y, hz0]; exact h1
 rw [z2F]
 refine z02 hi ?_
 rw [← h2]; rfl
theorem z8y {xs : List D} (h : xs.length ≤ lim) : z0H.F [.lst xs] = some (.lst xs) := by
 rw [z4b]
 have ha : appOk 48 ([] : List D) (D.lst xs).l = true := z12 (by simp) h (by decide)
 rw [zQ3]
 ·refine z0U ha rfl
 ·intro h
  rw [if_pos ha]
  have : xs = [] := by simpa using h
  subst this
  rfl
theorem zN5 {l : List (Int × Rec)} (hl : l.length ≤ 1000) (hx : ∀ p ∈ l, p.2.In lim) (hok : ∀ p ∈ l, p.2.ok = true) : ∀ (m i : Nat) (xs : List Rec), m + i = l.length → Rises xs → xs.length ≤ 100 + i → (∀ x ∈ xs, x.In lim) →
 ∃ ys : List Rec, Rises ys ∧ ys.length ≤ 100 + l.length ∧ (∀ y ∈ ys, y.In lim) ∧ z0a (fun l3 =>
  if (decide ((gd l3 1).i < (l.length : Int))) then
   (if (inb (gd l3 1).i l.length) then
     (if (((gd (l.map chgD) (gd l3 1).i.toNat).fld 0).i != 1) then
         ou 0 [(.bool (((gd (l.map chgD) (gd l3 1).i.toNat).fld 0).i != 2))]
       else
        ou 0 [(.bool false)]).bind fun o5 =>
     sel2 o5.1 (if (gd o5.2 0).b then
      ou 0 [(gd l3 0)]
      else
       (z08.F [(gd l3 0), (.pair ((gd (l.map chgD) (gd l3 1).i.toNat).fld 1) .unit)]).bind fun r6 =>
       if (((gd (l.map chgD) (gd l3 1).i.toNat).fld 0).i == 1) then
        (z5Z.F [r6, ((gd (l.map chgD) (gd l3 1).i.toNat).fld 1)]).bind fun r7 =>
        ou 0 [r7]
       else
        ou 0 [r6]) fun _ => none
     else none).bind fun o5 =>
   sel2 o5.1 (ou 0 [(gd o5.2 0), (.int (IntKind.wrap .i64 ((gd l3 1).i + 1)))]) fun _ => none
  else
   ou 1 [(gd l3 0)]) [.lst (xs.map Rec.d), .int (i : Int)] = some (0, [.lst (ys.map Rec.d)]) ∧
  z0a (fun l4 =>
   if (decide ((gd l4 1).i < (l.length : Int))) then
    (if (inb (gd l4 1).i l.length) then
      if (((gd (l.map chgD) (gd l4 1).i.toNat).fld 0).i == 2) then
       (z1U.F [(gd l4 0), ((gd (l.map chgD) (gd l4 1).i.toNat).fld 1)]).bind fun r6 =>
       ou 0 [r6]
      else
       if (((gd (l.map chgD) (gd l4 1).i.toNat).fld 0).i == 1) then
        (z1U.F [(gd l4 0), ((gd (l.map chgD) (gd l4 1).i.toNat).fld 1)]).bind fun r6 =>
        (z3e.F [r6, ((gd (l.map chgD) (gd l4 1).i.toNat).fld 1)]).bind fun r7 =>
        ou 0 [r7]
       else
        ou 0 [(gd l4 0)]
      else none).bind fun o6 =>
    sel2 o6.1 (ou 0 [(gd o6.2 0), (.int (IntKind.wrap .i64 ((gd l4 1).i + 1)))]) fun _ => none
   else
    ou 1 [(gd l4 0)]) [.lst (xs.map Rec.d), .int (i : Int)] = some (0, [.lst (ys.map Rec.d)]) := by
 intro m
 induction m with
 | zero =>
   intro i xs hi hR hlx hin
   have : i = l.length := by omega
   subst this
   exact ⟨xs, hR, hlx, hin, z11 (z00 (by simp) rfl), z11 (z00 (by simp) rfl)⟩
 | succ m ih =>
   intro i xs hi hR hlx hin
   have hil : i < l.length := by omega
   have hg : gd (l.map chgD) i = chgD l[i] := zLQ hil
   have f0 : ((chgD l[i]).fld 0).i = l[i].1 := rfl
   have f1 : (chgD l[i]).fld 1 = l[i].2.d := rfl
   have hpi := hx _ (List.getElem_mem hil)
   have hpo := hok _ (List.getElem_mem hil)
   have hw : IntKind.wrap .i64 ((i : Int) + 1) = ((i + 1 : Nat) : Int) := z0N hil (by rw [z0p]; omega)
   have hd := zIV (xs := xs) (x := l[i].2) (by omega)
   have hds := zP7 (xs := xs) (x := l[i].2) (by omega)
   have hdr := zKA l[i].2 hR
   have hdl := z9d xs l[i].2
   have hdi : ∀ x ∈ z6K xs l[i].2, x.In lim := fun x h => hin x (zIP h)
   -- one step
   have step : ∃ s : List Rec, Rises s ∧ s.length ≤ 100 + (i + 1) ∧ (∀ y ∈ s, y.In lim) ∧
    ((if (l[i].1 != 1) = true then ou 0 [(.bool (l[i].1 != 2))] else ou 0 [(.bool false)] : Outc).bind fun o5 => sel2 o5.1 (if (gd o5.2 0).b = true then ou 0 [.lst (xs.map Rec.d)] else
       (z08.F [.lst (xs.map Rec.d), (.pair l[i].2.d .unit)]).bind fun r6 => if (l[i].1 == 1) = true then (z5Z.F [r6, l[i].2.d]).bind fun r7 => ou 0 [r7] else ou 0 [r6]) fun _ => none) = some (0, [.lst (s.map Rec.d)]) ∧
    (if (l[i].1 == 2) = true then (z1U.F [.lst (xs.map Rec.d), l[i].2.d]).bind fun r6 => ou 0 [r6] else if (l[i].1 == 1) = true then (z1U.F [.lst (xs.map Rec.d), l[i].2.d]).bind fun r6 => (z3e.F [r6, l[i].2.d]).bind fun r7 => ou 0 [r7] else ou 0 [.lst (xs.map Rec.d)] : Outc) = some (0, [.lst (s.map Rec.d)]) := by
    by_cases k1 : l[i].1 = 1
    ·obtain ⟨ys, h1, h2, h3, h4, h5⟩ := zRJ hdr (by omega) hdi hpi hpo
     refine ⟨ys, h3, by omega, fun y hy => ?_, ?_, ?_⟩
     ·rcases h5 y hy with rfl | h
      ·exact hpi
      ·exact hdi y h
     ·exact z0b (l := [.bool false]) (z00 (by simp [k1]) rfl) (z00 (by simp) (z05 hd (z01 (by simp [k1]) (z05 h1 rfl))))
     ·exact z00 (by simp [k1]) (z01 (by simp [k1]) (z05 hds (z05 h2 rfl)))
    ·by_cases k2 : l[i].1 = 2
     ·refine ⟨z6K xs l[i].2, hdr, by omega, hdi, ?_, ?_⟩
      ·exact z0b (l := [.bool false]) (z01 (by simp [k2]) (by simp [k2])) (z00 (by simp) (z05 hd (z00 (by simp [k2]) rfl)))
      ·exact z01 (by simp [k2]) (z05 hds rfl)
     ·refine ⟨xs, hR, by omega, hin, ?_, ?_⟩
      ·exact z0b (l := [.bool true]) (z01 (by simp [k1]) (by simp [k2])) (z01 rfl rfl)
      ·exact z00 (by simp [k2]) (z00 (by simp [k1]) rfl)
   obtain ⟨s, s1, s2, s3, s4, s5⟩ := step
   obtain ⟨ys, y1, y2, y3, y4, y5⟩ := ih (i + 1) s (by omega) s1 s2 s3
   refine ⟨ys, y1, y2, y3, ?_, ?_⟩
   ·rw [← y4]
    refine z1Y ?_
    have e0 : gd [D.lst (xs.map Rec.d), D.int (i : Int)] 0 = .lst (xs.map Rec.d) := rfl
    have e1 : (gd [D.lst (xs.map Rec.d), D.int (i : Int)] 1).i = (i : Int) := rfl
    simp only [e0, e1, Int.toNat_natCast, hg, f0, f1, hw]
    exact z01 (decide_eq_true (by omega)) (z0b (l := [.lst (s.map Rec.d)]) (z01 (z0B hil) s4) rfl)
   ·rw [← y5]
    refine z1Y ?_
    have e0 : gd [D.lst (xs.map Rec.d), D.int (i : Int)] 0 = .lst (xs.map Rec.d) := rfl
    have e1 : (gd [D.lst (xs.map Rec.d), D.int (i : Int)] 1).i = (i : Int) := rfl
    simp only [e0, e1, Int.toNat_natCast, hg, f0, f1, hw]
    exact z01 (decide_eq_true (by omega)) (z0b (l := [.lst (s.map Rec.d)]) (z01 (z0B hil) s5) rfl)
end Go.Proofs.YtllbponcjpcbnaaGreatDoor
