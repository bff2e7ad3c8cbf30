/- What the functions compute, in plain words. -/
import Derived.Test.YtbacjgkmkkphdaaGreatDoorP2
set_option linter.unusedSectionVars false
set_option linter.unusedVariables false
set_option linter.unusedSimpArgs false
namespace Go.Proofs.YtbacjgkmkkphdaaGreatDoor
open Go Go.Own
def brk3 (r x : Rec) : Bool := x.ttl != r.ttl || (x.data == r.data && !(D.beq x.d r.d))
def brk6 (apex : List UInt8) (r c : Rec) : Bool := (c.type == 2 && (!(c.name == apex) && bel r.name c.name)) && (r.type != 1 && !(r.type == 2 && r.name == c.name))
def brk (apex : List UInt8) (xs : List Rec) (r : Rec) (k : Nat) : Bool :=
 if k = 1 then !bel r.name apex
 else if k = 2 then r.type == 6 && !(r.name == apex)
 else if k = 3 then (xs.filter (isAt r.name r.type)).any (brk3 r)
 else if k = 4 then r.type == 5 && decide (1 < (xs.filter (isAt r.name 0)).length)
 else if k = 5 then r.type == 5 && r.name == apex
 else xs.any (brk6 apex r)
theorem f_breaks1 (x r : Rec) : e_impl_breaks_1.F [x.d, r.d] = some (.bool (brk3 r x)) := by
 rw [q_impl_breaks_1]
 refine rn_bind0 (l := [.bool (brk3 r x)]) ?_ rfl
 have f2 : (x.d.fld 2).i = x.ttl := rfl
 have g2 : (r.d.fld 2).i = r.ttl := rfl
 have f3 : (x.d.fld 3).s = x.data := rfl
 have g3 : (r.d.fld 3).s = r.data := rfl
 rw [f2, g2, f3, g3]
 unfold brk3
 by_cases h1 : x.ttl = r.ttl
 ·refine out_else (by simp [h1]) ?_
  have e1 : (x.ttl != r.ttl) = false := by simp [h1]
  rw [e1, Bool.false_or]
  by_cases h2 : x.data = r.data
  ·exact out_if (by simpa using h2) (by simp [h2])
  ·exact out_else (by simpa using h2) (by simp [h2])
 ·exact out_if (by simpa using h1) (by simp [h1])
theorem f_contains1 {xs : List Rec} (r : Rec) (hl : xs.length ≤ smax) : e_slices_ContainsFunc_impl_Record_impl_Record__impl_breaks_1.F [.lst (xs.map Rec.d), .pair r.d .unit] = some (.bool (xs.any (brk3 r))) := by
 rw [q_slices_ContainsFunc_impl_Record_impl_Record__impl_breaks_1]
 obtain ⟨n, h1, h2⟩ := idx_gen (f := Rec.d) (c := fun d => e_impl_breaks_1.F [d, r.d]) (xs := xs) (p := brk3 r) hl (fun x _ => f_breaks1 x r)
 have h3 : e_slices_IndexFunc_impl_Record_impl_Record__impl_breaks_1.F [.lst (xs.map Rec.d), .pair r.d .unit] = some (.int n) := by
  rw [q_slices_IndexFunc_impl_Record_impl_Record__impl_breaks_1]; exact h1
 refine rn_call h3 ?_
 rw [← h2]; rfl
theorem f_breaks2 {apex : List UInt8} {c r : Rec} (hc : c.In lim) (hr : r.In lim) : e_impl_breaks_2.F [c.d, .str apex, r.d] = some (.bool (brk6 apex r c)) := by
 rw [q_impl_breaks_2]
 have f0 : (c.d.fld 0) = .str c.name := rfl
 have f1 : (c.d.fld 1).i = c.type := rfl
 have g0 : (r.d.fld 0) = .str r.name := rfl
 have g1 : (r.d.fld 1).i = r.type := rfl
 rw [f0, f1, g0, g1]
 simp only [D.s_str]
 have hb := f_isBelow hr.name hc.name
 refine rn_bind0 (l := [.bool (c.type == 2 && (!(c.name == apex) && bel r.name c.name))]) ?_ (rn_bind0 (l := [.bool (brk6 apex r c)]) ?_ rfl)
 ·by_cases h1 : c.type = 2
  ·refine out_if (by simpa using h1) ?_
   by_cases h2 : c.name = apex
   ·exact out_else (by simpa using h2) (by simp [h2])
   ·exact out_if (by simpa using h2) (out_call hb (by simp [h1, h2]))
  ·exact out_else (by simpa using h1) (by simp [h1])
 ·unfold brk6
  cases (c.type == 2 && (!(c.name == apex) && bel r.name c.name)) with
  | false => exact out_else (by simp) rfl
  | true =>
    refine out_if rfl ?_
    rw [Bool.true_and]
    by_cases h1 : r.type = 1
    ·exact out_else (by simp [h1]) (by simp [h1])
    ·refine out_if (by simpa using h1) ?_
     by_cases h2 : r.type = 2
     ·exact out_if (by simpa using h2) (by simp [h2])
     ·exact out_else (by simpa using h2) (by simp [h1, h2])
theorem f_contains2 {apex : List UInt8} {xs : List Rec} {r : Rec} (hl : xs.length ≤ smax) (hx : ∀ x ∈ xs, x.In lim) (hr : r.In lim) : e_slices_ContainsFunc_impl_Record_impl_Record__impl_breaks_2.F [.lst (xs.map Rec.d), .pair (.str apex) (.pair r.d .unit)] = some (.bool (xs.any (brk6 apex r))) := by
 rw [q_slices_ContainsFunc_impl_Record_impl_Record__impl_breaks_2]
 obtain ⟨n, h1, h2⟩ := idx_gen (f := Rec.d) (c := fun d => e_impl_breaks_2.F [d, .str apex, r.d]) (xs := xs) (p := brk6 apex r) hl (fun x hx' => f_breaks2 (hx x hx') hr)
 have h3 : e_slices_IndexFunc_impl_Record_impl_Record__impl_breaks_2.F [.lst (xs.map Rec.d), .pair (.str apex) (.pair r.d .unit)] = some (.int n) := by
  rw [q_slices_IndexFunc_impl_Record_impl_Record__impl_breaks_2]; exact h1
 refine rn_call h3 ?_
 rw [← h2]; rfl
theorem f_breaks {apex : List UInt8} {xs : List Rec} {r : Rec} {k : Nat} (hk : 1 ≤ k ∧ k ≤ 6) (ha : apex.length ≤ lim) (hl : xs.length ≤ lim) (hx : ∀ x ∈ xs, x.In lim) (hr : r.In lim) : e_impl_breaks.F [.str apex, .lst (xs.map Rec.d), r.d, .int k] = some (.bool (brk apex xs r k)) := by
 have hsm := Nat.le_trans hl lim_smax
 rw [q_impl_breaks]
 have g0 : (r.d.fld 0) = .str r.name := rfl
 have g1 : (r.d.fld 1) = .int r.type := rfl
 rw [g0, g1]
 simp only [D.i_int, D.s_str]
 have kb : ∀ n : Nat, k ≠ n → ¬ ((k : Int) == (n : Int)) = true := fun n h => by simp; omega
 unfold brk
 by_cases k1 : k = 1
 ·subst k1
  exact rn_if rfl (rn_call (f_isBelow hr.name ha) rfl)
 rw [if_neg k1]
 refine rn_else (kb 1 k1) ?_
 by_cases k2 : k = 2
 ·subst k2
  refine rn_if rfl (rn_bind0 (l := [.bool (r.type == 6 && !(r.name == apex))]) ?_ rfl)
  by_cases h1 : r.type = 6
  ·exact out_if (by simpa using h1) (by simp [h1])
  ·exact out_else (by simpa using h1) (by simp [h1])
 rw [if_neg k2]
 refine rn_else (kb 2 k2) ?_
 by_cases k3 : k = 3
 ·subst k3
  have hfl := List.length_filter_le (isAt r.name r.type) xs
  exact rn_if rfl (rn_call (f_at hl) (rn_call (f_contains1 r (by omega)) rfl))
 rw [if_neg k3]
 refine rn_else (kb 3 k3) ?_
 by_cases k4 : k = 4
 ·subst k4
  refine rn_if rfl (rn_bind0 (l := [.bool (r.type == 5 && decide (1 < (xs.filter (isAt r.name 0)).length))]) ?_ rfl)
  by_cases h1 : r.type = 5
  ·refine out_if (by simpa using h1) (out_call (f_at hl) ?_)
   have e : (D.lst ((xs.filter (isAt r.name 0)).map Rec.d)).l.length = (xs.filter (isAt r.name 0)).length := by simp
   have e2 : decide (((xs.filter (isAt r.name 0)).length : Int) > 1) = decide (1 < (xs.filter (isAt r.name 0)).length) := by rw [Bool.eq_iff_iff]; simp; omega
   rw [e, e2]; simp [h1]
  ·exact out_else (by simpa using h1) (by simp [h1])
 rw [if_neg k4]
 refine rn_else (kb 4 k4) ?_
 by_cases k5 : k = 5
 ·subst k5
  refine rn_if rfl (rn_bind0 (l := [.bool (r.type == 5 && r.name == apex)]) ?_ rfl)
  by_cases h1 : r.type = 5
  ·exact out_if (by simpa using h1) (by simp [h1])
  ·exact out_else (by simpa using h1) (by simp [h1])
 rw [if_neg k5]
 refine rn_else (kb 5 k5) ?_
 exact rn_call (f_contains2 hsm hx hr) rfl
theorem f_contains0 {apex : List UInt8} {xs : List Rec} {k : Nat} (hk : 1 ≤ k ∧ k ≤ 6) (ha : apex.length ≤ lim) (hl : xs.length ≤ lim) (hx : ∀ x ∈ xs, x.In lim) :
 e_slices_ContainsFunc_impl_Record_impl_Record__impl_RuleOf_1.F [.lst (xs.map Rec.d), .pair (.str apex) (.pair (.lst (xs.map Rec.d)) (.pair (.int k) .unit))] = some (.bool (xs.any fun r => brk apex xs r k)) := by
 rw [q_slices_ContainsFunc_impl_Record_impl_Record__impl_RuleOf_1]
 obtain ⟨n, h1, h2⟩ := idx_gen (f := Rec.d) (c := fun d => e_impl_RuleOf_1.F [d, .str apex, .lst (xs.map Rec.d), .int k]) (xs := xs) (p := fun r => brk apex xs r k) (Nat.le_trans hl lim_smax) (fun x hx' => by
  have := f_breaks (apex := apex) hk ha hl hx (hx x hx')
  show e_impl_RuleOf_1.F [x.d, .str apex, .lst (xs.map Rec.d), .int k] = _
  rw [q_impl_RuleOf_1]
  exact rn_call this rfl)
 have h3 : e_slices_IndexFunc_impl_Record_impl_Record__impl_RuleOf_1.F [.lst (xs.map Rec.d), .pair (.str apex) (.pair (.lst (xs.map Rec.d)) (.pair (.int k) .unit))] = some (.int n) := by
  rw [q_slices_IndexFunc_impl_Record_impl_Record__impl_RuleOf_1]; exact h1
 refine rn_call h3 ?_
 rw [← h2]; rfl
def isApx (s : List UInt8) : Bool := isName s && !(s.contains 42)
theorem f_isApex {s : List UInt8} (h : s.length ≤ lim) : e_impl_isApex.F [.str s] = some (.bool (isApx s)) := by
 rw [q_impl_isApex]
 have hn := f_GoodName s
 have hc := f_contains h
 refine rn_bind0 (l := [.bool (isApx s)]) ?_ rfl
 unfold isApx
 cases h1 : isName s with
 | false => rw [h1] at hn; exact out_call hn (out_else (by simp) rfl)
 | true => rw [h1] at hn; exact out_call hn (out_if rfl (out_call hc (by simp)))
theorem f_l6Apex {s : List UInt8} (h : s.length ≤ lim) : e_spec_l6Apex.F [.str s] = some (.bool (isApx s)) := by
 have hlim : lim = 1048576 := rfl
 rw [q_spec_l6Apex]
 obtain ⟨ls, hl, hll, hpt⟩ := f_l1LabelsX s h
 have hsm : ls.length ≤ smax := by rw [smax_eq]; omega
 have f0 : ((D.pair (.lst (ls.map D.str)) (.pair (.bool (isName s)) .unit)).fld 0).l = ls.map D.str := rfl
 have f1 : (D.pair (.lst (ls.map D.str)) (.pair (.bool (isName s)) .unit)).fld 1 = .bool (isName s) := rfl
 refine rn_call hl ?_
 rw [f0, f1, List.length_map]
 refine rn_bind (loop_for' (fun i (b : Bool) => [.bool b, .int i]) ls.length (fun i => isName s && (ls.take i).all (fun x => !(x == [42]))) (t := 0) (o := [.bool (isName s && ls.all (fun x => !(x == [42])))]) (by simp) ?_ ?_) ?_
 ·intro i hi
  have hg := gd_parts hi
  refine out_if (by simpa using hi) (out_bind (r := (0, [.bool (isName s && (ls.take (i + 1)).all (fun x => !(x == [42])))])) (out_if (by simpa using inb_nat hi) ?_) (sel0 ?_))
  ·simp only [gd_zero, gd_one, D.i_int, Int.toNat_natCast, D.b_bool, hg]
   rw [List.take_succ_eq_append_getElem hi, List.all_append, ← Bool.and_assoc]
   cases (isName s && (ls.take i).all (fun x => !(x == [42]))) with
   | false => exact out_else (by simp) (by simp)
   | true => exact out_if rfl (by simp)
  ·simp [wrap_succ hi hsm]
 ·simp
 ·have : (isName s && ls.all (fun x => !(x == [42]))) = isApx s := by
   unfold isApx
   cases hn : isName s with
   | false => rfl
   | true =>
     have hls := hpt hn
     subst hls
     rw [Bool.true_and, Bool.true_and]
     by_cases h0 : s = []
     ·subst h0; rfl
     ·rw [name_star hn h0, List.not_any_eq_all_not]
  rw [this]; rfl
noncomputable def isWhl (apex : List UInt8) (xs : List Rec) : Bool := isApx apex && (decide (xs.length ≤ 40) && rising xs)
theorem f_isWhole {apex : List UInt8} {xs : List Rec} (ha : apex.length ≤ lim) (hl : xs.length ≤ lim) (hx : ∀ x ∈ xs, x.In lim) : e_impl_isWhole.F [.str apex, .lst (xs.map Rec.d)] = some (.bool (isWhl apex xs)) := by
 rw [q_impl_isWhole]
 have h1 := f_isApex ha
 have h2 := f_areRising hl hx
 have hlen : (D.lst (xs.map Rec.d)).l.length = xs.length := by simp
 rw [hlen]
 refine rn_bind0 (l := [.bool (isWhl apex xs)]) ?_ rfl
 unfold isWhl
 cases k1 : isApx apex with
 | false => rw [k1] at h1; exact out_call h1 (out_else (by simp) rfl)
 | true =>
   rw [k1] at h1
   refine out_call h1 (out_if rfl ?_)
   by_cases h40 : xs.length ≤ 40
   ·exact out_if (decide_eq_true (show (xs.length : Int) ≤ 40 by omega)) (out_call h2 (by simp [h40]))
   ·exact out_else (fun h => h40 (by have h' : (xs.length : Int) ≤ 40 := of_decide_eq_true h; omega)) (by simp [h40])
def keeps (apex : List UInt8) (xs : List Rec) (k : Nat) : Bool := !(xs.any fun r => brk apex xs r k) && (!decide (k = 2) || decide ((xs.filter (isAt apex 6)).length = 1))
theorem f_RuleOf {apex : List UInt8} {xs : List Rec} (ha : apex.length ≤ lim) (hl : xs.length ≤ lim) (hx : ∀ x ∈ xs, x.In lim) :
 ∃ n : Int, e_impl_RuleOf.F [.str apex, .lst (xs.map Rec.d)] = some (.int n) ∧ (n = 0 ↔ isWhl apex xs = true ∧ ∀ k, 1 ≤ k → k ≤ 6 → keeps apex xs k = true) := by
 rw [q_impl_RuleOf]
 have hw := f_isWhole ha hl hx
 cases k1 : isWhl apex xs with
 | false =>
   rw [k1] at hw
   exact ⟨9, rn_call hw (rn_if rfl rfl), by simp⟩
 | true =>
   rw [k1] at hw
   let F : List D → Outc := fun l3 =>
       if (decide ((gd l3 0).i ≤ 6)) then
        ((e_slices_ContainsFunc_impl_Record_impl_Record__impl_RuleOf_1.F [(.lst (xs.map Rec.d)), (.pair (.str apex) (.pair (.lst (xs.map Rec.d)) (.pair (gd l3 0) .unit)))]).bind fun r4 =>
          if r4.b then
           ou 0 [(.bool true)]
          else
           if ((gd l3 0).i == 2) then
            (e_impl_at.F [(.lst (xs.map Rec.d)), (.str apex), (.int 6)]).bind fun r5 =>
            ou 0 [(.bool ((r5.l.length : Int) != 1))]
           else
            ou 0 [(.bool false)]).bind fun o4 =>
        sel2 o4.1 (if (gd o4.2 0).b then
         ou 1 [(gd l3 0)]
         else
          ou 0 [(.int (IntKind.wrap .i64 ((gd l3 0).i + 1)))]) fun _ => none
       else
        ou 2 []
   have hst : ∀ i, i < 6 → ∀ R, (if keeps apex xs (i + 1) then ou 0 [.int ((i + 1 + 1 : Nat) : Int)] else ou 1 [.int ((i + 1 : Nat) : Int)] : Outc) = R → F [.int ((i + 1 : Nat) : Int)] = R := by
    intro i hi R hR
    have hc := f_contains0 (apex := apex) (xs := xs) (k := i + 1) ⟨by omega, by omega⟩ ha hl hx
    have w : IntKind.wrap .i64 (((i + 1 : Nat) : Int) + 1) = ((i + 1 + 1 : Nat) : Int) := by rw [wrap_id] <;> omega
    refine out_if (decide_eq_true (by simp; omega)) (out_bind (r := (0, [.bool !(keeps apex xs (i + 1))])) (out_call hc ?_) (sel0 ?_))
    ·unfold keeps
     cases (xs.any fun r => brk apex xs r (i + 1)) with
     | true => exact out_if rfl rfl
     | false =>
       refine out_else (by simp) ?_
       by_cases h2 : i + 1 = 2
       ·refine out_if (by simp; omega) (out_call (f_at hl) ?_)
        have e : (D.lst ((xs.filter (isAt apex 6)).map Rec.d)).l.length = (xs.filter (isAt apex 6)).length := by simp
        have e2 : (((xs.filter (isAt apex 6)).length : Int) != 1) = !(decide ((xs.filter (isAt apex 6)).length = 1)) := by rw [Bool.eq_iff_iff]; simp; omega
        rw [e, e2]; simp [h2]
       ·exact out_else (by simp; omega) (by simp [h2])
    ·rw [← hR]
     have g0 : gd [D.int ((i + 1 : Nat) : Int)] 0 = .int ((i + 1 : Nat) : Int) := rfl
     rw [g0, D.i_int, w]
     cases keeps apex xs (i + 1) <;> simp
   have hend : F [.int 7] = some (2, []) := out_else (by decide) rfl
   rcases loop_find (f := F) (l := [.int 1]) (fun i => [.int ((i + 1 : Nat) : Int)]) 6 (fun i => keeps apex xs (i + 1)) (t1 := 0) (t2 := 1) (o1 := fun i => [.int ((i + 1 : Nat) : Int)]) (o2 := []) rfl (by
    intro i hi h; exact hst i hi _ (by rw [h]; rfl)) (by
    intro i hi h; exact hst i hi _ (by rw [h]; rfl)) hend with ⟨hall, hloop⟩ | ⟨k, hk, hpk, hall, hloop⟩
   ·refine ⟨0, rn_call hw (rn_else (by simp) (rn_bind hloop rfl)), by
     simp only [true_and, true_iff]
     intro k h1 h6
     have := hall (k - 1) (by omega)
     rwa [show k - 1 + 1 = k by omega] at this⟩
   ·refine ⟨((k + 1 : Nat) : Int), rn_call hw (rn_else (by simp) (rn_bind hloop rfl)), ?_⟩
    constructor
    ·intro h; omega
    ·rintro ⟨_, h⟩
     rw [h (k + 1) (by omega) (by omega)] at hpk
     cases hpk
end Go.Proofs.YtbacjgkmkkphdaaGreatDoor
namespace Go.Proofs.YtbacjgkmkkphdaaGreatDoor
open Go Go.Own
def soaW (apex : List UInt8) (r : Rec) : Int := if r.type = 6 then (if r.name = apex then 1 else 2) else 0
def soaG (apex : List UInt8) (_ : Nat) (s : Int) (r : Rec) : Sum Int (Nat × List D) := if bel r.name apex = true then .inl (s + soaW apex r) else .inr (0, [.int 1])
def soaS (apex : List UInt8) : List Rec → Int
 | [] => 0
 | r :: xs => soaW apex r + soaS apex xs
theorem soaG_fold (apex : List UInt8) : ∀ (xs : List Rec) (i : Nat) (s : Int), foldE (soaG apex) i s xs = if xs.all (fun r => bel r.name apex) = true then .inl (s + soaS apex xs) else .inr (0, [.int 1])
 | [], i, s => by simp [foldE, soaS]
 | r :: xs, i, s => by
   rw [foldE]
   cases h : bel r.name apex with
   | false =>
     have e : soaG apex i s r = .inr (0, [.int 1]) := by unfold soaG; rw [if_neg (by simp [h])]
     rw [e]; simp [h]
   | true =>
     have e : soaG apex i s r = .inl (s + soaW apex r) := by unfold soaG; rw [if_pos h]
     rw [e]
     simp only [List.all_cons, h, Bool.true_and]
     rw [soaG_fold apex xs]
     simp only [soaS, Int.add_assoc]
theorem soaW_bound (apex : List UInt8) (r : Rec) : 0 ≤ soaW apex r ∧ soaW apex r ≤ 2 := by
 unfold soaW; split
 ·split <;> omega
 ·omega
def adjBad (xs : List Rec) (i : Nat) : Bool := decide (0 < i) && ((xs.getD (i - 1) Rec.nul).name == (xs.getD i Rec.nul).name && ((xs.getD (i - 1) Rec.nul).type == (xs.getD i Rec.nul).type && ((xs.getD (i - 1) Rec.nul).ttl != (xs.getD i Rec.nul).ttl || (xs.getD (i - 1) Rec.nul).data == (xs.getD i Rec.nul).data)))
def cnBad (o r : Rec) : Bool := o.name == r.name && (o.type == 5 || r.type == 5)
def cutBad (apex : List UInt8) (xs : List Rec) (r : Rec) : Bool := match cutOf apex xs r.name with
 | none => false
 | some c => r.type != 1 && (r.type != 2 || !(r.name == c))
structure RuleS (apex : List UInt8) (xs : List Rec) : Prop where
 s1 : ∀ r ∈ xs, bel r.name apex = true
 s2 : soaS apex xs = 1
 s3 : ∀ i, i < xs.length → adjBad xs i = false
 s4 : ∀ i, i < xs.length → ∀ j, j < i → cnBad (xs.getD j Rec.nul) (xs.getD i Rec.nul) = false
 s5 : hasAt xs apex 5 = false
 s6 : ∀ r ∈ xs, cutBad apex xs r = false
theorem f_l6Rule {apex : List UInt8} {xs : List Rec} (ha : apex.length ≤ lim) (hl : xs.length ≤ lim) (hx : ∀ x ∈ xs, x.In lim) :
 ∃ n : Int, e_spec_l6Rule.F [.str apex, .lst (xs.map Rec.d)] = some (.int n) ∧ (n = 0 ↔ RuleS apex xs) := by
 have hlim : lim = 1048576 := rfl
 have hsm := Nat.le_trans hl lim_smax
 rw [q_spec_l6Rule]
 have hlen : (D.lst (xs.map Rec.d)).l.length = xs.length := by simp
 have hll : (D.lst (xs.map Rec.d)).l = xs.map Rec.d := rfl
 simp only [hll, List.length_map]
 -- the first loop
 have loop1 := loop_foldE' (f := fun l2 =>
  if (decide ((gd l2 1).i < (xs.length : Int))) then
   (if (inb (gd l2 1).i xs.length) then
     (e_spec_l1Below.F [((gd (xs.map Rec.d) (gd l2 1).i.toNat).fld 0), (.str apex)]).bind fun r4 =>
     if (!r4.b) then
      ou 1 [(.int 1)]
     else
      if (((gd (xs.map Rec.d) (gd l2 1).i.toNat).fld 1).i == 6) then
       if (!(((gd (xs.map Rec.d) (gd l2 1).i.toNat).fld 0).s == (D.str apex).s)) then
        ou 0 [(.int (IntKind.wrap .i64 ((IntKind.wrap .i64 ((gd l2 0).i + 1)) + 1)))]
       else
        ou 0 [(.int (IntKind.wrap .i64 ((gd l2 0).i + 1)))]
      else
       ou 0 [(gd l2 0)]
     else none).bind fun o4 =>
   sel2 o4.1 (ou 0 [(gd o4.2 0), (.int (IntKind.wrap .i64 ((gd l2 1).i + 1)))]) fun n8 =>
   sel2 n8 (ou 1 [(gd o4.2 0)]) fun _ => none
  else
   ou 2 [(gd l2 0)]) (l := [.int 0, .int 0]) (fun i (s : Int) => [.int s, .int i]) xs (soaG apex) (fun i s => 0 ≤ s ∧ s ≤ 2 * i) 0 1 (fun s => [.int s]) rfl (by omega) (by
  rintro i s hi ⟨h0, h1⟩
  have hb := f_l1Below (a := xs[i].name) (b := apex) (hx _ (List.getElem_mem hi)).name ha
  have e0 : (gd [D.int s, D.int (i : Int)] 1).i.toNat = i := by simp
  have e1 : (gd [D.int s, D.int (i : Int)] 1).i = i := rfl
  have e2 : (gd [D.int s, D.int (i : Int)] 0) = .int s := rfl
  have g0 : (xs[i].d.fld 0) = .str xs[i].name := rfl
  have g1 : (xs[i].d.fld 1).i = xs[i].type := rfl
  have hwb := soaW_bound apex xs[i]
  unfold soaG
  cases hq : bel xs[i].name apex with
  | false =>
    rw [hq] at hb
    show _ = some (1, _)
    refine out_if (by simpa using hi) (out_bind (r := (1, [.int 1])) (out_if (by simpa using inb_nat hi) ?_) rfl)
    rw [e0, gd_rec hi, g0]
    exact out_call hb (out_if rfl rfl)
  | true =>
    rw [hq] at hb
    refine ⟨out_if (by simpa using hi) (out_bind (r := (0, [.int (s + soaW apex xs[i])])) (out_if (by simpa using inb_nat hi) ?_) (sel0 ?_)), by omega, by omega⟩
    ·rw [e0, e2, gd_rec hi, g0, g1]
     have w1 : IntKind.wrap .i64 (s + 1) = s + 1 := by rw [wrap_id] <;> omega
     have w2 : IntKind.wrap .i64 (s + 1 + 1) = s + 2 := by rw [wrap_id] <;> omega
     simp only [D.i_int, D.s_str, w1, w2]
     refine out_call hb (out_else (by simp) ?_)
     unfold soaW
     by_cases h6 : xs[i].type = 6
     ·rw [if_pos h6]
      refine out_if (by simpa using h6) ?_
      by_cases hap : xs[i].name = apex
      ·rw [if_pos hap]; exact out_else (by simp [hap]) rfl
      ·rw [if_neg hap]; exact out_if (by simpa using hap) rfl
     ·rw [if_neg h6]
      exact out_else (by simpa using h6) (by simp)
    ·rw [e1, wrap_succ hi hsm]; rfl) (by
  intro s _
  exact out_else (by simp) rfl)
 rw [soaG_fold apex xs 0 0] at loop1
 cases c1 : xs.all (fun r => bel r.name apex) with
 | false =>
   rw [c1] at loop1
   refine ⟨1, rn_bind loop1 rfl, by
    constructor
    ·intro h; cases h
    ·intro h
     have : xs.all (fun r => bel r.name apex) = true := List.all_eq_true.2 h.s1
     rw [c1] at this; cases this⟩
 | true =>
 rw [c1, if_pos rfl, Int.zero_add] at loop1
 have s1 := List.all_eq_true.1 c1
 by_cases c2 : soaS apex xs = 1
 case neg =>
  exact ⟨2, rn_bind loop1 (rn_if (by simpa using c2) rfl), by
   constructor
   ·intro h; cases h
   ·intro h; exact absurd h.s2 c2⟩
 -- the second loop
 have loop2 := loop_all' (f := fun l3 =>
  if (decide ((gd l3 0).i < (xs.length : Int))) then
   if (inb (gd l3 0).i xs.length) then
   (if (decide ((gd l3 0).i > 0)) then
       if (inb (IntKind.wrap .i64 ((gd l3 0).i - 1)) xs.length) then
       if (((gd (xs.map Rec.d) (IntKind.wrap .i64 ((gd l3 0).i - 1)).toNat).fld 0).s == ((gd (xs.map Rec.d) (gd l3 0).i.toNat).fld 0).s) then
        if (((gd (xs.map Rec.d) (IntKind.wrap .i64 ((gd l3 0).i - 1)).toNat).fld 1).i == ((gd (xs.map Rec.d) (gd l3 0).i.toNat).fld 1).i) then
         if (((gd (xs.map Rec.d) (IntKind.wrap .i64 ((gd l3 0).i - 1)).toNat).fld 2).i != ((gd (xs.map Rec.d) (gd l3 0).i.toNat).fld 2).i) then
          ou 0 [(.bool true)]
         else
          ou 0 [(.bool (((gd (xs.map Rec.d) (IntKind.wrap .i64 ((gd l3 0).i - 1)).toNat).fld 3).s == ((gd (xs.map Rec.d) (gd l3 0).i.toNat).fld 3).s))]
        else
         ou 0 [(.bool false)]
       else
        ou 0 [(.bool false)]
       else none
     else
      ou 0 [(.bool false)]).bind fun o4 =>
   sel2 o4.1 (if (gd o4.2 0).b then
    ou 1 [(.int 3)]
    else
     ou 0 [(.int (IntKind.wrap .i64 ((gd l3 0).i + 1)))]) fun _ => none
   else none
  else
   ou 2 []) (l := [.int 0]) (fun i => [.int i]) xs.length (fun i => !(adjBad xs i)) (t1 := 0) (t2 := 1) (o1 := [.int 3]) (o2 := []) rfl (by
  intro i hi
  have e0 : (gd [D.int (i : Int)] 0).i.toNat = i := by simp
  have e1 : (gd [D.int (i : Int)] 0).i = i := rfl
  rw [e0, e1, wrap_succ hi hsm]
  refine out_if (by simpa using hi) (out_if (by simpa using inb_nat hi) (out_bind (r := (0, [.bool (adjBad xs i)])) ?_ (sel0 (by cases adjBad xs i <;> simp))))
  unfold adjBad
  by_cases h0 : 0 < i
  ·have w : IntKind.wrap .i64 ((i : Int) - 1) = ((i - 1 : Nat) : Int) := by rw [smax_eq] at hsm; rw [wrap_id] <;> omega
   have hi1 : i - 1 < xs.length := by omega
   rw [w, Int.toNat_natCast, gd_rec hi, gd_rec hi1, getD_lt hi, getD_lt hi1]
   refine out_if (decide_eq_true (by omega)) (out_if (inb_nat hi1) ?_)
   have d0 : decide (0 < i) = true := decide_eq_true h0
   rw [d0, Bool.true_and]
   have g0 : ∀ r : Rec, (r.d.fld 0).s = r.name := fun _ => rfl
   have g1 : ∀ r : Rec, (r.d.fld 1).i = r.type := fun _ => rfl
   have g2 : ∀ r : Rec, (r.d.fld 2).i = r.ttl := fun _ => rfl
   have g3 : ∀ r : Rec, (r.d.fld 3).s = r.data := fun _ => rfl
   simp only [g0, g1, g2, g3]
   by_cases h1 : xs[i - 1].name = xs[i].name
   ·refine out_if (by simpa using h1) ?_
    by_cases h2 : xs[i - 1].type = xs[i].type
    ·refine out_if (by simpa using h2) ?_
     by_cases h3 : xs[i - 1].ttl = xs[i].ttl
     ·exact out_else (by simp [h3]) (by simp [h1, h2, h3])
     ·exact out_if (by simpa using h3) (by simp [h1, h2, h3])
    ·exact out_else (by simpa using h2) (by simp [h2])
   ·exact out_else (by simpa using h1) (by simp [h1])
  ·refine out_else (fun h => h0 (by have h' : (i : Int) > 0 := of_decide_eq_true h; omega)) ?_
   have d0 : decide (0 < i) = false := decide_eq_false h0
   rw [d0]; rfl) (by exact out_else (by simp) rfl)
 cases c3 : allN xs.length (fun i => !(adjBad xs i)) with
 | false =>
   rw [c3] at loop2
   exact ⟨3, rn_bind loop1 (rn_else (by simp [c2]) (rn_bind loop2 rfl)), by
    constructor
    ·intro h; cases h
    ·intro h
     have : allN xs.length (fun i => !(adjBad xs i)) = true := allN_true.2 fun i hi => by rw [h.s3 i hi]; rfl
     rw [c3] at this; cases this⟩
 | true =>
 rw [c3] at loop2
 have s3 : ∀ i, i < xs.length → adjBad xs i = false := fun i hi => by have := allN_true.1 c3 i hi; simpa using this
 -- the third loop
 have inner : ∀ i (hi : i < xs.length), loopF (fun l4 =>
  if (decide ((gd l4 0).i < ((((xs.map Rec.d).take i).drop 0).length : Int))) then
   if (inb (gd l4 0).i (((xs.map Rec.d).take i).drop 0).length) then
   (if (((gd (D.lst (((xs.map Rec.d).take i).drop 0)).l (gd l4 0).i.toNat).fld 0).s == (xs[i].d.fld 0).s) then
       if (((gd (D.lst (((xs.map Rec.d).take i).drop 0)).l (gd l4 0).i.toNat).fld 1).i == 5) then
        ou 0 [(.bool true)]
       else
        ou 0 [(.bool ((xs[i].d.fld 1).i == 5))]
     else
      ou 0 [(.bool false)]).bind fun o5 =>
   sel2 o5.1 (if (gd o5.2 0).b then
    ou 1 [(.int 4)]
    else
     ou 0 [(.int (IntKind.wrap .i64 ((gd l4 0).i + 1)))]) fun _ => none
   else none
  else
   ou 2 []) [(.int 0)] = some (cond (allN i (fun j => !(cnBad (xs.getD j Rec.nul) (xs.getD i Rec.nul)))) (1, []) (0, [.int 4])) := by
  intro i hi
  have hlt : (((xs.map Rec.d).take i).drop 0).length = i := by simp; omega
  rw [hlt]
  refine loop_all' (fun j => [.int j]) i (fun j => !(cnBad (xs.getD j Rec.nul) (xs.getD i Rec.nul))) (t1 := 0) (t2 := 1) (o1 := [.int 4]) (o2 := []) rfl ?_ (by exact out_else (by simp) rfl)
  intro j hj
  have hjl : j < xs.length := by omega
  have e0 : (gd [D.int (j : Int)] 0).i.toNat = j := by simp
  have e1 : (gd [D.int (j : Int)] 0).i = j := rfl
  have hg : gd (D.lst (((xs.map Rec.d).take i).drop 0)).l j = xs[j].d := by
   rw [D.l_lst, List.drop_zero, gd_lt (by simp; omega)]; simp
  rw [e0, e1, hg, wrap_succ hj (by omega), getD_lt hjl, getD_lt hi]
  refine out_if (by simpa using hj) (out_if (by simpa using inb_nat hj) (out_bind (r := (0, [.bool (cnBad xs[j] xs[i])])) ?_ (sel0 (by cases cnBad xs[j] xs[i] <;> simp))))
  have g0 : ∀ r : Rec, (r.d.fld 0).s = r.name := fun _ => rfl
  have g1 : ∀ r : Rec, (r.d.fld 1).i = r.type := fun _ => rfl
  simp only [g0, g1]
  unfold cnBad
  by_cases h1 : xs[j].name = xs[i].name
  ·refine out_if (by simpa using h1) ?_
   by_cases h2 : xs[j].type = 5
   ·exact out_if (by simpa using h2) (by simp [h1, h2])
   ·exact out_else (by simpa using h2) (by simp [h1, h2])
  ·exact out_else (by simpa using h1) (by simp [h1])
 have loop3 := loop_all' (f := fun l3 =>
  if (decide ((gd l3 0).i < (xs.length : Int))) then
   if (inb (gd l3 0).i xs.length) then
   if (slOk 0 (gd l3 0).i (xs.length : Int)) then
   (loopF (fun l4 =>
     if (decide ((gd l4 0).i < ((((xs.map Rec.d).take (gd l3 0).i.toNat).drop 0).length : Int))) then
      if (inb (gd l4 0).i (((xs.map Rec.d).take (gd l3 0).i.toNat).drop 0).length) then
      (if (((gd (D.lst (((xs.map Rec.d).take (gd l3 0).i.toNat).drop 0)).l (gd l4 0).i.toNat).fld 0).s == ((gd (xs.map Rec.d) (gd l3 0).i.toNat).fld 0).s) then
          if (((gd (D.lst (((xs.map Rec.d).take (gd l3 0).i.toNat).drop 0)).l (gd l4 0).i.toNat).fld 1).i == 5) then
           ou 0 [(.bool true)]
          else
           ou 0 [(.bool (((gd (xs.map Rec.d) (gd l3 0).i.toNat).fld 1).i == 5))]
        else
         ou 0 [(.bool false)]).bind fun o5 =>
      sel2 o5.1 (if (gd o5.2 0).b then
       ou 1 [(.int 4)]
       else
        ou 0 [(.int (IntKind.wrap .i64 ((gd l4 0).i + 1)))]) fun _ => none
      else none
     else
      ou 2 []) [(.int 0)]).bind fun o4 =>
   sel2 o4.1 (ou 1 [(gd o4.2 0)]) fun n14 =>
   sel2 n14 (ou 0 [(.int (IntKind.wrap .i64 ((gd l3 0).i + 1)))]) fun _ => none
   else none
   else none
  else
   ou 2 []) (l := [.int 0]) (fun i => [.int i]) xs.length (fun i => allN i (fun j => !(cnBad (xs.getD j Rec.nul) (xs.getD i Rec.nul)))) (t1 := 0) (t2 := 1) (o1 := [.int 4]) (o2 := []) rfl (by
  intro i hi
  have e0 : (gd [D.int (i : Int)] 0).i.toNat = i := by simp
  have e1 : (gd [D.int (i : Int)] 0).i = i := rfl
  rw [e0, e1, wrap_succ hi hsm, gd_rec hi]
  refine out_if (by simpa using hi) (out_if (by simpa using inb_nat hi) (out_if (by simp [slOk]; omega) (out_bind (inner i hi) ?_)))
  cases allN i (fun j => !(cnBad (xs.getD j Rec.nul) (xs.getD i Rec.nul))) <;> rfl) (by exact out_else (by simp) rfl)
 cases c4 : allN xs.length (fun i => allN i (fun j => !(cnBad (xs.getD j Rec.nul) (xs.getD i Rec.nul)))) with
 | false =>
   rw [c4] at loop3
   exact ⟨4, rn_bind loop1 (rn_else (by simp [c2]) (rn_bind loop2 (rn_bind loop3 rfl))), by
    constructor
    ·intro h; cases h
    ·intro h
     have : allN xs.length (fun i => allN i (fun j => !(cnBad (xs.getD j Rec.nul) (xs.getD i Rec.nul)))) = true := allN_true.2 fun i hi => allN_true.2 fun j hj => by rw [h.s4 i hi j hj]; rfl
     rw [c4] at this; cases this⟩
 | true =>
 rw [c4] at loop3
 have s4 : ∀ i, i < xs.length → ∀ j, j < i → cnBad (xs.getD j Rec.nul) (xs.getD i Rec.nul) = false := fun i hi j hj => by
  have := allN_true.1 (allN_true.1 c4 i hi) j hj; simpa using this
 have h5 := f_l6Has (xs := xs) (n := apex) (k := 5) hl
 cases c5 : hasAt xs apex 5 with
 | true =>
   rw [c5] at h5
   exact ⟨5, rn_bind loop1 (rn_else (by simp [c2]) (rn_bind loop2 (rn_bind loop3 (rn_call h5 (rn_if rfl rfl))))), by
    constructor
    ·intro h; cases h
    ·intro h; have := h.s5; rw [c5] at this; cases this⟩
 | false =>
 rw [c5] at h5
 -- the last loop
 have loop4 := loop_all' (f := fun l4 =>
               if (decide ((gd l4 0).i < (xs.length : Int))) then
                if (inb (gd l4 0).i xs.length) then
                (e_spec_l6Cut.F [(.str apex), (.lst (xs.map Rec.d)), ((gd (xs.map Rec.d) (gd l4 0).i.toNat).fld 0)]).bind fun r5 =>
                (if (r5.fld 1).b then
                    if (((gd (xs.map Rec.d) (gd l4 0).i.toNat).fld 1).i != 1) then
                     if (((gd (xs.map Rec.d) (gd l4 0).i.toNat).fld 1).i != 2) then
                      ou 0 [(.bool true)]
                     else
                      ou 0 [(.bool (!(((gd (xs.map Rec.d) (gd l4 0).i.toNat).fld 0).s == (r5.fld 0).s)))]
                    else
                     ou 0 [(.bool false)]
                  else
                   ou 0 [(.bool false)]).bind fun o6 =>
                sel2 o6.1 (if (gd o6.2 0).b then
                 ou 1 [(.int 6)]
                 else
                  ou 0 [(.int (IntKind.wrap .i64 ((gd l4 0).i + 1)))]) fun _ => none
                else none
               else
                ou 2 []) (l := [.int 0]) (fun i => [.int i]) xs.length (fun i => !(cutBad apex xs (xs.getD i Rec.nul))) (t1 := 0) (t2 := 1) (o1 := [.int 6]) (o2 := []) rfl (by
  intro i hi
  have e0 : (gd [D.int (i : Int)] 0).i.toNat = i := by simp
  have e1 : (gd [D.int (i : Int)] 0).i = i := rfl
  have g0 : (xs[i].d.fld 0) = .str xs[i].name := rfl
  have g1 : (xs[i].d.fld 1).i = xs[i].type := rfl
  have hc := f_l6Cut (apex := apex) (xs := xs) (s := xs[i].name) ha hl (hx _ (List.getElem_mem hi)).name
  rw [e0, e1, wrap_succ hi hsm, gd_rec hi, getD_lt hi, g0, g1]
  refine out_if (by simpa using hi) (out_if (by simpa using inb_nat hi) (out_call hc (out_bind (r := (0, [.bool (cutBad apex xs xs[i])])) ?_ (sel0 (by cases cutBad apex xs xs[i] <;> simp)))))
  unfold cutBad
  cases cutOf apex xs xs[i].name with
  | none => exact out_else (by simp [cutDt, D.fld]) rfl
  | some c =>
    refine out_if rfl ?_
    by_cases h1 : xs[i].type = 1
    ·exact out_else (by simp [h1]) (by simp [h1])
    ·refine out_if (by simpa using h1) ?_
     by_cases h2 : xs[i].type = 2
     ·exact out_else (by simp [h2]) (by simp [h2, cutDt, D.fld])
     ·exact out_if (by simpa using h2) (by simp [h1, h2])) (by exact out_else (by simp) rfl)
 have hall : allN xs.length (fun i => !(cutBad apex xs (xs.getD i Rec.nul))) = xs.all (fun r => !(cutBad apex xs r)) := all_allN xs (fun r => !(cutBad apex xs r)) Rec.nul
 rw [hall] at loop4
 cases c6 : xs.all (fun r => !(cutBad apex xs r)) with
 | false =>
   rw [c6] at loop4
   exact ⟨6, rn_bind loop1 (rn_else (by simp [c2]) (rn_bind loop2 (rn_bind loop3 (rn_call h5 (rn_else (by simp) (rn_bind loop4 rfl)))))), by
    constructor
    ·intro h; cases h
    ·intro h
     have : xs.all (fun r => !(cutBad apex xs r)) = true := List.all_eq_true.2 fun r hr => by rw [h.s6 r hr]; rfl
     rw [c6] at this; cases this⟩
 | true =>
   rw [c6] at loop4
   refine ⟨0, rn_bind loop1 (rn_else (by simp [c2]) (rn_bind loop2 (rn_bind loop3 (rn_call h5 (rn_else (by simp) (rn_bind loop4 rfl)))))), ?_⟩
   simp only [true_iff]
   exact ⟨s1, c2, s3, s4, c5, fun r hr => by have := List.all_eq_true.1 c6 r hr; simpa using this⟩
end Go.Proofs.YtbacjgkmkkphdaaGreatDoor
namespace Go.Own
open Go
theorem Cmp.prod {α β : Type} {c : α → α → Int} {d : β → β → Int} (hc : Cmp c) (hd : Cmp d) : Cmp (fun p q : α × β => if c p.1 q.1 = 0 then d p.2 q.2 else c p.1 q.1) where
 refl := by intro x; simp [hc.refl, hd.refl]
 eq := by
  rintro ⟨a, b⟩ ⟨a', b'⟩ h
  simp only at h
  split at h
  ·rename_i h1; rw [hc.eq _ _ h1, hd.eq _ _ h]
  ·rename_i h1; exact absurd h h1
 trans := by
  rintro ⟨a, b⟩ ⟨a', b'⟩ ⟨a'', b''⟩ h1 h2
  simp only at h1 h2 ⊢
  by_cases e1 : c a a' = 0
  ·have := hc.eq _ _ e1; subst this
   rw [if_pos e1] at h1
   by_cases e2 : c a a'' = 0
   ·rw [if_pos e2] at h2 ⊢; exact hd.trans _ _ _ h1 h2
   ·rw [if_neg e2] at h2 ⊢; exact h2
  ·rw [if_neg e1] at h1
   by_cases e2 : c a' a'' = 0
   ·have := hc.eq _ _ e2; subst this
    rw [if_neg e1]; exact h1
   ·rw [if_neg e2] at h2
    have := hc.lt h1 h2 (.inl e1)
    rw [if_neg (by omega)]; omega
 anti := by
  rintro ⟨a, b⟩ ⟨a', b'⟩ h1 h2
  simp only at h1 h2 ⊢
  by_cases e1 : c a a' = 0
  ·have := hc.eq _ _ e1; subst this
   rw [if_pos e1] at h1 h2 ⊢; exact hd.anti _ _ h1 h2
  ·rw [if_neg e1] at h1
   by_cases e2 : c a' a = 0
   ·have := hc.eq _ _ e2; subst this; exact absurd e2 e1
   ·rw [if_neg e2] at h2; exact absurd (hc.anti _ _ h1 h2) e1
theorem filter_two {α : Type} {p : α → Bool} {xs : List α} {i j : Nat} (hi : i < xs.length) (hji : j < i) (h1 : p xs[j] = true) (h2 : p xs[i] = true) : 2 ≤ (xs.filter p).length := by
 conv => rhs; rw [← List.take_append_drop i xs]
 rw [List.filter_append, List.length_append]
 have a : 0 < ((xs.take i).filter p).length := by
  apply List.length_pos_of_mem (a := xs[j])
  rw [List.mem_filter]
  refine ⟨?_, h1⟩
  rw [List.mem_take_iff_getElem]
  exact ⟨j, by omega, rfl⟩
 have b : 0 < ((xs.drop i).filter p).length := by
  apply List.length_pos_of_mem (a := xs[i])
  rw [List.mem_filter]
  refine ⟨?_, h2⟩
  exact List.mem_drop_iff_getElem.2 ⟨0, by omega, by simp⟩
 omega
theorem filter_one {α : Type} {p : α → Bool} {xs : List α} {i : Nat} (hi : i < xs.length) (h : ∀ j (hj : j < xs.length), j ≠ i → p xs[j] = false) : (xs.filter p).length ≤ 1 := by
 have e : xs = xs.take i ++ xs[i] :: xs.drop (i + 1) := by rw [← List.drop_eq_getElem_cons hi, List.take_append_drop]
 have a : (xs.take i).filter p = [] := by
  rw [List.filter_eq_nil_iff]
  intro x hx
  rw [List.mem_take_iff_getElem] at hx
  obtain ⟨j, hj, rfl⟩ := hx
  rw [h j (by omega) (by omega)]; simp
 have b : (xs.drop (i + 1)).filter p = [] := by
  rw [List.filter_eq_nil_iff]
  intro x hx
  rw [List.mem_drop_iff_getElem] at hx
  obtain ⟨j, hj, rfl⟩ := hx
  rw [h (i + 1 + j) (by omega) (by omega)]; simp
 rw [e, List.filter_append, List.filter_cons, a, b]
 split <;> simp
end Go.Own
namespace Go.Proofs.YtbacjgkmkkphdaaGreatDoor
open Go Go.Own
def joinB (b : UInt8) : List (List UInt8) → List UInt8
 | [] => []
 | [p] => p
 | p :: q :: ps => p ++ b :: joinB b (q :: ps)
theorem joinB_splB (b : UInt8) : ∀ s : List UInt8, joinB b (splB b s) = s
 | [] => rfl
 | c :: s => by
   have ih := joinB_splB b s
   unfold splB
   split
   ·rename_i h
    subst h
    cases hq : splB c s with
    | nil => exact absurd hq (splB_ne c s)
    | cons q ps => rw [hq] at ih; simp only [joinB, List.nil_append]; rw [ih]
   ·split
    ·rename_i p ps hq
     rw [hq] at ih
     cases ps with
     | nil => simp only [joinB] at ih ⊢; rw [ih]
     | cons q ps => simp only [joinB, List.cons_append] at ih ⊢; rw [ih]
    ·rename_i hq
     exact absurd hq (splB_ne b s)
theorem parts_inj {a b : List UInt8} (h : parts a = parts b) : a = b := by
 unfold parts at h
 by_cases ha : a = []
 ·subst ha
  by_cases hb : b = []
  ·exact hb.symm
  ·have : b.isEmpty = false := by cases b <;> simp_all
   rw [this] at h
   simp only [List.isEmpty_nil, if_true, Bool.false_eq_true, if_false] at h
   exact absurd h.symm (splB_ne 46 b)
 ·have ea : a.isEmpty = false := by cases a <;> simp_all
  rw [ea] at h
  by_cases hb : b = []
  ·subst hb
   simp only [List.isEmpty_nil, if_true, Bool.false_eq_true, if_false] at h
   exact absurd h (splB_ne 46 a)
  ·have eb : b.isEmpty = false := by cases b <;> simp_all
   rw [eb] at h
   simp only [Bool.false_eq_true, if_false] at h
   rw [← joinB_splB 46 a, h, joinB_splB]
theorem cmpN_cmp : Cmp cmpN where
 refl := fun x => cmpL_cmp.refl _
 eq := fun x y h => parts_inj (List.reverse_inj.1 (cmpL_cmp.eq _ _ h))
 trans := fun x y z => cmpL_cmp.trans _ _ _
 anti := fun x y => cmpL_cmp.anti _ _
def cmpP (p q : List UInt8 × Int) : Int := if cmpN p.1 q.1 = 0 then intC p.2 q.2 else cmpN p.1 q.1
theorem cmpP_cmp : Cmp cmpP := cmpN_cmp.prod intC_cmp
def Rec.key (r : Rec) : List UInt8 × Int := (r.name, r.type)
theorem cmpK_eq (a b : Rec) : cmpK a b = cmpP a.key b.key := orL2 _ _
theorem cmpR_K {a b : Rec} (h : cmpR a b < 0) : cmpK a b ≤ 0 := by
 unfold cmpR at h
 rw [orL3] at h
 split at h <;> omega
theorem cmpR_self (a : Rec) : cmpR a a = 0 := by
 unfold cmpR
 rw [orL3, cmpK_eq, cmpP_cmp.refl, if_pos rfl, cmpBytes.refl, if_pos rfl, intC_cmp.refl]
theorem rec_beq {x r : Rec} : D.beq x.d r.d = true ↔ x = r := by
 obtain ⟨a, b, c, d⟩ := x
 obtain ⟨a', b', c', d'⟩ := r
 simp [Rec.d, D.beq]
structure Rises (xs : List Rec) : Prop where
 ok : ∀ r ∈ xs, r.ok = true
 up : ∀ i (h : i + 1 < xs.length), cmpR xs[i] xs[i + 1] < 0
theorem rises_of {xs : List Rec} (h : rising xs = true) : Rises xs := by
 have h' := allN_true.1 h
 constructor
 ·intro r hr
  obtain ⟨i, hi, rfl⟩ := List.getElem_of_mem hr
  have := h' i hi
  unfold upAt at this
  simp only [Bool.and_eq_true, getD_lt hi] at this
  exact this.1
 ·intro i hi
  have := h' (i + 1) hi
  unfold upAt at this
  simp only [Bool.and_eq_true, getD_lt hi, Nat.add_sub_cancel, getD_lt (show i < xs.length by omega), Bool.or_eq_true, beq_iff_eq, decide_eq_true_eq] at this
  rcases this.2 with h1 | h1
  ·omega
  ·exact h1
theorem Rises.le {xs : List Rec} (h : Rises xs) {i : Nat} (hi : i < xs.length) : ∀ (m : Nat) (hm : i + m < xs.length), cmpP xs[i].key xs[i + m].key ≤ 0
 | 0, hm => by rw [show cmpP xs[i].key xs[i + 0].key = 0 from cmpP_cmp.refl _]; omega
 | m + 1, hm => by
   have h1 := h.le hi m (by omega)
   have h2 := cmpR_K (h.up (i + m) (by omega))
   rw [cmpK_eq] at h2
   exact cmpP_cmp.trans _ _ _ h1 h2
theorem Rises.between {xs : List Rec} (h : Rises xs) {i m n : Nat} (hn : i + (m + n) < xs.length) (he : xs[i].key = xs[i + (m + n)].key) : xs[i].key = xs[i + m].key := by
 have h1 := h.le (i := i) (by omega) m (by omega)
 have h2 := h.le (i := i + m) (by omega) n (by omega)
 have e : xs[i + m + n] = xs[i + (m + n)] := by congr 1; omega
 rw [e, ← he] at h2
 exact cmpP_cmp.eq _ _ (cmpP_cmp.anti _ _ h1 h2)
theorem Rises.ttl {xs : List Rec} (h : Rises xs) (h3 : ∀ i, i < xs.length → adjBad xs i = false) {i : Nat} : ∀ (m : Nat) (hm : i + m < xs.length), xs[i].key = xs[i + m].key → xs[i].ttl = xs[i + m].ttl
 | 0, hm, _ => rfl
 | m + 1, hm, he => by
   have hb := h.between (i := i) (m := m) (n := 1) hm he
   have ih := h.ttl h3 m (by omega) hb
   have ha := h3 (i + (m + 1)) hm
   have hi0 : i + (m + 1) - 1 = i + m := by omega
   unfold adjBad at ha
   rw [getD_lt hm, hi0, getD_lt (show i + m < xs.length by omega)] at ha
   have hk : xs[i + m].key = xs[i + (m + 1)].key := hb.symm.trans he
   have hk1 : xs[i + m].name = xs[i + (m + 1)].name := congrArg Prod.fst hk
   have hk2 : xs[i + m].type = xs[i + (m + 1)].type := congrArg Prod.snd hk
   rw [ih]
   by_cases ht : xs[i + m].ttl = xs[i + (m + 1)].ttl
   ·exact ht
   ·simp [hk1, hk2, ht] at ha
theorem type_ne {r : Rec} (h : r.ok = true) : r.type ≠ 0 := by
 intro h0
 unfold Rec.ok dataOk at h
 simp [h0] at h
theorem rule3 {xs : List Rec} (h : Rises xs) : (∀ r ∈ xs, (xs.filter (isAt r.name r.type)).any (brk3 r) = false) ↔ (∀ i, i < xs.length → adjBad xs i = false) := by
 constructor
 ·intro hk i hi
  unfold adjBad
  by_cases h0 : 0 < i
  ·have hi1 : i - 1 < xs.length := by omega
   rw [getD_lt hi, getD_lt hi1]
   by_cases hn : xs[i - 1].name = xs[i].name
   ·by_cases ht : xs[i - 1].type = xs[i].type
    ·have := hk xs[i - 1] (List.getElem_mem hi1)
     rw [List.any_eq_false] at this
     have hb := this xs[i] (by
      rw [List.mem_filter]
      exact ⟨List.getElem_mem hi, by unfold isAt; simp [hn, ht]⟩)
     unfold brk3 at hb
     simp only [Bool.or_eq_true, Bool.and_eq_true, not_or, not_and] at hb
     obtain ⟨hb1, hb2⟩ := hb
     have e1 : xs[i].ttl = xs[i - 1].ttl := by simpa using hb1
     by_cases hd : xs[i - 1].data = xs[i].data
     ·have := hb2 (by simp [hd])
      have hx : D.beq xs[i].d xs[i - 1].d = true := by simpa using this
      have heq := rec_beq.1 hx
      have hup := h.up (i - 1) (by omega)
      have e : xs[i - 1 + 1]'(by omega) = xs[i] := by congr 1; omega
      rw [e, heq, cmpR_self] at hup
      omega
     ·simp [e1, hd]
    ·simp [ht]
   ·simp [hn]
  ·have : decide (0 < i) = false := decide_eq_false h0
   rw [this]; rfl
 ·intro h3 r hr
  rw [List.any_eq_false]
  intro x hx
  rw [List.mem_filter] at hx
  obtain ⟨hx, hat⟩ := hx
  unfold isAt at hat
  simp only [Bool.and_eq_true, beq_iff_eq, Bool.or_eq_true] at hat
  have htp : x.type = r.type := by
   rcases hat.2 with h1 | h1
   ·exact absurd h1 (type_ne (h.ok r hr))
   ·exact h1
  have hkey : x.key = r.key := by unfold Rec.key; rw [hat.1, htp]
  have httl : x.ttl = r.ttl := by
   obtain ⟨i, hi, rfl⟩ := List.getElem_of_mem hx
   obtain ⟨j, hj, rfl⟩ := List.getElem_of_mem hr
   rcases Nat.le_total i j with hij | hij
   ·obtain ⟨m, rfl⟩ := Nat.exists_eq_add_of_le hij
    exact h.ttl h3 m hj hkey
   ·obtain ⟨m, rfl⟩ := Nat.exists_eq_add_of_le hij
    exact (h.ttl h3 m hi hkey.symm).symm
  unfold brk3
  by_cases hd : x.data = r.data
  ·have : x = r := by
    obtain ⟨a, b, c, d⟩ := x
    obtain ⟨a', b', c', d'⟩ := r
    simp only at hat htp httl hd
    rw [hat.1, htp, httl, hd]
   have := rec_beq.2 this
   simp [httl, this]
  ·simp [httl, hd]
def soaOff (apex : List UInt8) (r : Rec) : Bool := r.type == 6 && !(r.name == apex)
theorem soaS_eq (apex : List UInt8) : ∀ xs : List Rec, soaS apex xs = ((xs.filter (isAt apex 6)).length : Int) + 2 * ((xs.filter (soaOff apex)).length : Int)
 | [] => rfl
 | r :: xs => by
   have ih := soaS_eq apex xs
   rw [soaS, ih, List.filter_cons, List.filter_cons]
   unfold soaW soaOff isAt
   by_cases h6 : r.type = 6
   ·by_cases hn : r.name = apex
    ·simp [h6, hn]; omega
    ·simp [h6, hn]; omega
   ·simp [h6]
theorem rule2 {apex : List UInt8} {xs : List Rec} : (xs.any (soaOff apex) = false ∧ (xs.filter (isAt apex 6)).length = 1) ↔ soaS apex xs = 1 := by
 rw [soaS_eq]
 constructor
 ·rintro ⟨h1, h2⟩
  have : xs.filter (soaOff apex) = [] := by
   rw [List.filter_eq_nil_iff]
   rw [List.any_eq_false] at h1
   exact h1
  rw [this, h2]; rfl
 ·intro h
  have h0 : (xs.filter (soaOff apex)).length = 0 := by omega
  refine ⟨?_, by omega⟩
  rw [List.any_eq_false]
  exact List.filter_eq_nil_iff.1 (List.length_eq_zero_iff.1 h0)
theorem rule4 {xs : List Rec} : (∀ r ∈ xs, r.type = 5 → (xs.filter (isAt r.name 0)).length ≤ 1) ↔ (∀ i, i < xs.length → ∀ j, j < i → cnBad (xs.getD j Rec.nul) (xs.getD i Rec.nul) = false) := by
 constructor
 ·intro h i hi j hj
  have hjl : j < xs.length := by omega
  rw [getD_lt hi, getD_lt hjl]
  unfold cnBad
  by_cases hn : xs[j].name = xs[i].name
  ·by_cases h1 : xs[j].type = 5
   ·have := h _ (List.getElem_mem hjl) h1
    have := filter_two (p := isAt xs[j].name 0) hi hj (by simp [isAt]) (by simp [isAt, hn])
    omega
   ·by_cases h2 : xs[i].type = 5
    ·have := h _ (List.getElem_mem hi) h2
     have := filter_two (p := isAt xs[i].name 0) hi hj (by simp [isAt, hn]) (by simp [isAt])
     omega
    ·simp [h1, h2]
  ·simp [hn]
 ·intro h r hr h5
  obtain ⟨i, hi, rfl⟩ := List.getElem_of_mem hr
  refine filter_one hi fun j hj hne => ?_
  unfold isAt
  by_cases hn : xs[j].name = xs[i].name
  ·exfalso
   rcases Nat.lt_or_ge j i with hlt | hge
   ·have := h i hi j hlt
    rw [getD_lt hi, getD_lt hj] at this
    unfold cnBad at this
    simp [hn, h5] at this
   ·have := h j hj i (by omega)
    rw [getD_lt hi, getD_lt hj] at this
    unfold cnBad at this
    simp [hn, h5] at this
  ·simp [hn]
theorem rule6 {apex : List UInt8} {xs : List Rec} (h1 : ∀ r ∈ xs, bel r.name apex = true) : ∀ r ∈ xs, xs.any (brk6 apex r) = cutBad apex xs r := by
 intro r hr
 rw [Bool.eq_iff_iff, List.any_eq_true]
 constructor
 ·rintro ⟨c, hc, hb⟩
  unfold brk6 at hb
  simp only [Bool.and_eq_true, beq_iff_eq, Bool.not_eq_true', bne_iff_ne, ne_eq] at hb
  obtain ⟨⟨hct, hca, hcb⟩, hrt, hrn⟩ := hb
  have hca' : c.name ≠ apex := by simpa using hca
  obtain ⟨x, hx, hup⟩ := walk_hits (m := fun n => hasAt xs n 2) (c := c.name) (apex := apex) (by
   unfold hasAt; rw [List.any_eq_true]; exact ⟨c, hc, by simp [hct]⟩) hca' (h1 c hc) (bel_iff.1 hcb) (r.name.length + 1) none (by omega)
  unfold cutBad cutOf
  rw [hx]
  simp only [Bool.and_eq_true, bne_iff_ne, ne_eq, Bool.or_eq_true, Bool.not_eq_true']
  refine ⟨hrt, ?_⟩
  by_cases h2 : r.type = 2
  ·right
   have hne : r.name ≠ c.name := by simpa [h2] using hrn
   have : r.name ≠ x := by
    rintro rfl
    exact hne (Up.anti (bel_iff.1 hcb) hup)
   simpa using this
  ·exact .inl h2
 ·intro hb
  unfold cutBad cutOf at hb
  split at hb
  ·cases hb
  rename_i x hx
  simp only [Bool.and_eq_true, bne_iff_ne, ne_eq, Bool.or_eq_true, Bool.not_eq_true'] at hb
  obtain ⟨hm, hup, hne, hbl⟩ := walk_sound (s0 := r.name) (r.name.length + 1) r.name none (.refl _) (fun x h => by cases h) x hx
  unfold hasAt at hm
  rw [List.any_eq_true] at hm
  obtain ⟨c, hc, hcc⟩ := hm
  simp only [Bool.and_eq_true, beq_iff_eq] at hcc
  obtain ⟨rfl, hct⟩ := hcc
  refine ⟨c, hc, ?_⟩
  unfold brk6
  have hbr := bel_iff.2 hup
  simp only [hct, hbr, Bool.and_eq_true, beq_iff_eq, Bool.not_eq_true', bne_iff_ne, ne_eq]
  refine ⟨⟨trivial, by simpa using hne, trivial⟩, hb.1, ?_⟩
  rcases hb.2 with h2 | h2
  ·simp [h2]
  ·simp only [beq_eq_false_iff_ne, ne_eq] at h2; simp [h2]
theorem rules_eq {apex : List UInt8} {xs : List Rec} (h : Rises xs) : (∀ k, 1 ≤ k → k ≤ 6 → keeps apex xs k = true) ↔ RuleS apex xs := by
 have hb : ∀ k, keeps apex xs k = true ↔ (∀ r ∈ xs, brk apex xs r k = false) ∧ (k = 2 → (xs.filter (isAt apex 6)).length = 1) := by
  intro k
  unfold keeps
  simp only [Bool.and_eq_true, Bool.not_eq_true', List.any_eq_false, Bool.or_eq_true, decide_eq_true_eq, decide_eq_false_iff_not]
  constructor
  ·rintro ⟨h1, h2⟩
   exact ⟨fun r hr => by simpa using h1 r hr, fun e => by rcases h2 with h2 | h2; exact absurd e h2; exact h2⟩
  ·rintro ⟨h1, h2⟩
   refine ⟨fun r hr => by simp [h1 r hr], ?_⟩
   by_cases e : k = 2
   ·exact .inr (h2 e)
   ·exact .inl e
 have b1 : ∀ r, brk apex xs r 1 = !bel r.name apex := fun r => rfl
 have b2 : ∀ r, brk apex xs r 2 = soaOff apex r := fun r => rfl
 have b3 : ∀ r, brk apex xs r 3 = (xs.filter (isAt r.name r.type)).any (brk3 r) := fun r => rfl
 have b4 : ∀ r, brk apex xs r 4 = (r.type == 5 && decide (1 < (xs.filter (isAt r.name 0)).length)) := fun r => rfl
 have b5 : ∀ r, brk apex xs r 5 = (r.type == 5 && r.name == apex) := fun r => rfl
 have b6 : ∀ r, brk apex xs r 6 = xs.any (brk6 apex r) := fun r => rfl
 constructor
 ·intro hk
  have k1 := ((hb 1).1 (hk 1 (by omega) (by omega))).1
  have k2 := (hb 2).1 (hk 2 (by omega) (by omega))
  have k3 := ((hb 3).1 (hk 3 (by omega) (by omega))).1
  have k4 := ((hb 4).1 (hk 4 (by omega) (by omega))).1
  have k5 := ((hb 5).1 (hk 5 (by omega) (by omega))).1
  have k6 := ((hb 6).1 (hk 6 (by omega) (by omega))).1
  have s1 : ∀ r ∈ xs, bel r.name apex = true := fun r hr => by have := k1 r hr; rw [b1] at this; simpa using this
  refine ⟨s1, ?_, (rule3 h).1 (fun r hr => by have := k3 r hr; rwa [b3] at this), ?_, ?_, ?_⟩
  ·refine rule2.1 ⟨?_, k2.2 rfl⟩
   rw [List.any_eq_false]
   intro r hr
   have := k2.1 r hr
   rw [b2] at this; simp [this]
  ·refine rule4.1 fun r hr h5 => ?_
   have := k4 r hr
   rw [b4] at this
   simp [h5] at this
   exact this
  ·unfold hasAt
   rw [List.any_eq_false]
   intro r hr
   have := k5 r hr
   rw [b5] at this
   simp only [Bool.and_eq_true, beq_iff_eq, Bool.and_eq_false_iff, beq_eq_false_iff_ne, ne_eq, not_and] at this ⊢
   intro hn ht
   rcases this with h1 | h1
   ·exact h1 ht
   ·exact h1 hn
  ·intro r hr
   rw [← rule6 s1 r hr]
   have := k6 r hr
   rwa [b6] at this
 ·intro hs k h1 h6
  rw [hb]
  have e2 := rule2.2 hs.s2
  match k, h1, h6 with
  | 1, _, _ => exact ⟨fun r hr => by rw [b1, hs.s1 r hr]; rfl, by omega⟩
  | 2, _, _ =>
    refine ⟨fun r hr => ?_, fun _ => e2.2⟩
    rw [b2]
    have := e2.1
    rw [List.any_eq_false] at this
    simpa using this r hr
  | 3, _, _ => exact ⟨fun r hr => by rw [b3]; exact (rule3 h).2 hs.s3 r hr, by omega⟩
  | 4, _, _ =>
    refine ⟨fun r hr => ?_, by omega⟩
    rw [b4]
    by_cases h5 : r.type = 5
    ·have := rule4.2 hs.s4 r hr h5
     simp [h5]; exact this
    ·simp [h5]
  | 5, _, _ =>
    refine ⟨fun r hr => ?_, by omega⟩
    rw [b5]
    have := hs.s5
    unfold hasAt at this
    rw [List.any_eq_false] at this
    have := this r hr
    simp only [Bool.and_eq_true, beq_iff_eq, not_and] at this
    by_cases h5 : r.type = 5
    ·by_cases hn : r.name = apex
     ·exact absurd h5 (this hn)
     ·simp [hn]
    ·simp [h5]
  | 6, _, _ =>
    refine ⟨fun r hr => ?_, by omega⟩
    rw [b6, rule6 hs.s1 r hr]
    exact hs.s6 r hr
end Go.Proofs.YtbacjgkmkkphdaaGreatDoor
namespace Go.Proofs.YtbacjgkmkkphdaaGreatDoor
open Go Go.Own
structure Zn where
 apex : List UInt8
 counter : Int
 recs : List Rec
def Zn.d (z : Zn) : D := .pair (.str z.apex) (.pair (.int z.counter) (.pair (.lst (z.recs.map Rec.d)) .unit))
structure Zn.In (B : Nat) (z : Zn) : Prop where
 apex : z.apex.length ≤ B
 len : z.recs.length ≤ B
 all : ∀ r ∈ z.recs, r.In B
structure Zn.Good (z : Zn) : Prop where
 cnt : inP z.counter 0 1152921504606846976 = true
 apx : isApx z.apex = true
 n40 : z.recs.length ≤ 40
 ris : rising z.recs = true
 rul : RuleS z.apex z.recs
 soa : ∀ r ∈ z.recs, r.type = 6 → r.data = Lib.itoa (z.counter % 4294967296)
open Classical in
noncomputable def Zn.good (z : Zn) : Bool := decide z.Good
open Classical in
theorem Zn.good_iff {z : Zn} : z.good = true ↔ z.Good := by unfold Zn.good; exact decide_eq_true_iff
theorem tmod_cnt {c : Int} (h : inP c 0 1152921504606846976 = true) : c.tmod 4294967296 = c % 4294967296 ∧ 0 ≤ c % 4294967296 ∧ c % 4294967296 < 10 ^ 18 := by
 have hp18 : (10 : Int) ^ 18 = 1000000000000000000 := by decide
 simp only [inP, Bool.and_eq_true, decide_eq_true_eq] at h
 refine ⟨Int.tmod_eq_emod_of_nonneg h.1, by omega, by omega⟩
theorem f_serialText {c : Int} (h : inP c 0 1152921504606846976 = true) : e_impl_serialText.F [.int c] = some (.str (Lib.itoa (c % 4294967296))) := by
 obtain ⟨h1, h2, h3⟩ := tmod_cnt h
 rw [q_impl_serialText]
 refine rn_if rfl ?_
 rw [D.i_int, h1]
 exact rn_call (f_itoa h2 h3) rfl
theorem f_l6Soa {z : Zn} (h : inP z.counter 0 1152921504606846976 = true) : e_spec_l6Soa.F [z.d] = some (.str (Lib.itoa (z.counter % 4294967296))) := by
 obtain ⟨h1, h2, h3⟩ := tmod_cnt h
 rw [q_spec_l6Soa]
 refine rn_if rfl ?_
 have f1 : (z.d.fld 1).i = z.counter := rfl
 rw [f1, h1]
 exact rn_call (f_num h2 h3) rfl
theorem f_isCounter (c : Int) : e_impl_isCounter.F [.int c] = some (.bool (inP c 0 1152921504606846976)) := by
 rw [q_impl_isCounter]
 exact rn_call (f_withinP c 0 1152921504606846976) rfl
theorem whl_iff {apex : List UInt8} {xs : List Rec} : isWhl apex xs = true ↔ isApx apex = true ∧ xs.length ≤ 40 ∧ rising xs = true := by
 unfold isWhl; simp
theorem soa_one {apex : List UInt8} {xs : List Rec} (h : RuleS apex xs) : ∃ r, r ∈ xs ∧ xs.filter (isAt apex 6) = [r] ∧ r.type = 6 ∧ r.name = apex ∧ ∀ x ∈ xs, x.type = 6 → x = r := by
 have h2 := rule2.2 h.s2
 obtain ⟨r, hr⟩ := List.length_eq_one_iff.1 h2.2
 have hm : r ∈ xs.filter (isAt apex 6) := by rw [hr]; simp
 rw [List.mem_filter] at hm
 have hat := hm.2
 unfold isAt at hat
 simp at hat
 refine ⟨r, hm.1, hr, hat.2, hat.1, fun x hx h6 => ?_⟩
 have hoff := h2.1
 rw [List.any_eq_false] at hoff
 have hxo := hoff x hx
 unfold soaOff at hxo
 have hxn : x.name = apex := by simpa [h6] using hxo
 have : x ∈ xs.filter (isAt apex 6) := by
  rw [List.mem_filter]; exact ⟨hx, by unfold isAt; simp [hxn, h6]⟩
 rw [hr] at this
 simpa using this
theorem f_GoodZone {z : Zn} (hz : z.In lim) : e_impl_GoodZone.F [z.d] = some (.bool z.good) := by
 rw [q_impl_GoodZone]
 have f0 : z.d.fld 0 = .str z.apex := rfl
 have f1 : z.d.fld 1 = .int z.counter := rfl
 have f2 : z.d.fld 2 = .lst (z.recs.map Rec.d) := rfl
 rw [f0, f1, f2]
 refine rn_bind0 (l := [.bool z.good]) ?_ rfl
 have hc := f_isCounter z.counter
 obtain ⟨n, hn, hnz⟩ := f_RuleOf hz.apex hz.len hz.all
 cases k1 : inP z.counter 0 1152921504606846976 with
 | false =>
   rw [k1] at hc
   have : z.good = false := by
    cases hg : z.good with
    | false => rfl
    | true => have := (Zn.good_iff.1 hg).cnt; rw [k1] at this; cases this
   rw [this]
   exact out_call hc (out_else (by simp) rfl)
 | true =>
   rw [k1] at hc
   refine out_call hc (out_if rfl (out_call hn ?_))
   by_cases h0 : n = 0
   ·refine out_if (by simp [h0]) ?_
    obtain ⟨hw, hk⟩ := hnz.1 h0
    rw [whl_iff] at hw
    have hR := (rules_eq (apex := z.apex) (rises_of hw.2.2)).1 hk
    obtain ⟨r, hr, hf, h6, hna, huniq⟩ := soa_one hR
    have hat := f_at (xs := z.recs) (n := z.apex) (k := 6) hz.len
    rw [hf] at hat
    refine out_call hat (out_if rfl (out_call (f_serialText k1) ?_))
    have : z.good = (r.data == Lib.itoa (z.counter % 4294967296)) := by
     rw [Bool.eq_iff_iff, Zn.good_iff, beq_iff_eq]
     constructor
     ·intro hg; exact hg.soa r hr h6
     ·intro hd
      exact ⟨k1, hw.1, hw.2.1, hw.2.2, hR, fun x hx hx6 => by rw [huniq x hx hx6]; exact hd⟩
    rw [this]; rfl
   ·refine out_else (by simpa using h0) ?_
    have : z.good = false := by
     cases hg : z.good with
     | false => rfl
     | true =>
       have hG := Zn.good_iff.1 hg
       exact absurd (hnz.2 ⟨whl_iff.2 ⟨hG.apx, hG.n40, hG.ris⟩, (rules_eq (rises_of hG.ris)).2 hG.rul⟩) h0
    rw [this]
theorem f_specRuleOf {apex : List UInt8} {xs : List Rec} (ha : apex.length ≤ lim) (hl : xs.length ≤ lim) (hx : ∀ x ∈ xs, x.In lim) :
 ∃ n : Int, e_spec_RuleOf.F [.str apex, .lst (xs.map Rec.d)] = some (.int n) ∧ (n = 0 ↔ isWhl apex xs = true ∧ RuleS apex xs) := by
 rw [q_spec_RuleOf]
 have h1 := f_l6Apex ha
 have h2 := f_l6List hl hx
 obtain ⟨n, hn, hnz⟩ := f_l6Rule ha hl hx
 cases k1 : isApx apex with
 | false =>
   rw [k1] at h1
   refine ⟨9, rn_bind0 (l := [.bool true]) (out_call h1 (out_if rfl rfl)) (rn_if rfl rfl), ?_⟩
   constructor
   ·intro h; cases h
   ·intro h; have := (whl_iff.1 h.1).1; rw [k1] at this; cases this
 | true =>
   rw [k1] at h1
   cases k2 : (rising xs && decide (xs.length ≤ 40)) with
   | false =>
     rw [k2] at h2
     refine ⟨9, rn_bind0 (l := [.bool true]) (out_call h1 (out_else (by simp) (out_call h2 rfl))) (rn_if rfl rfl), ?_⟩
     constructor
     ·intro h; cases h
     ·intro h
      have := whl_iff.1 h.1
      rw [this.2.2] at k2; simp at k2; omega
   | true =>
     rw [k2] at h2
     refine ⟨n, rn_bind0 (l := [.bool false]) (out_call h1 (out_else (by simp) (out_call h2 rfl))) (rn_else (by simp) (rn_call hn rfl)), ?_⟩
     rw [hnz]
     simp only [Bool.and_eq_true, decide_eq_true_eq] at k2
     exact ⟨fun h => ⟨whl_iff.2 ⟨k1, k2.2, k2.1⟩, h⟩, fun h => h.2⟩
theorem f_specGoodZone {z : Zn} (hz : z.In lim) : e_spec_GoodZone.F [z.d] = some (.bool z.good) := by
 rw [q_spec_GoodZone]
 have f0 : z.d.fld 0 = .str z.apex := rfl
 have f1 : z.d.fld 1 = .int z.counter := rfl
 have f2 : z.d.fld 2 = .lst (z.recs.map Rec.d) := rfl
 have hll : (D.lst (z.recs.map Rec.d)).l = z.recs.map Rec.d := rfl
 rw [f0, f1, f2]
 simp only [hll, List.length_map]
 have hsm := Nat.le_trans hz.len lim_smax
 have hc := f_l1InP z.counter 0 1152921504606846976
 obtain ⟨n, hn, hnz⟩ := f_specRuleOf hz.apex hz.len hz.all
 cases k1 : inP z.counter 0 1152921504606846976 with
 | false =>
   rw [k1] at hc
   have : z.good = false := by
    cases hg : z.good with
    | false => rfl
    | true => have := (Zn.good_iff.1 hg).cnt; rw [k1] at this; cases this
   rw [this]
   exact rn_bind0 (l := [.bool true]) (out_call hc (out_if rfl rfl)) (rn_if rfl rfl)
 | true =>
   rw [k1] at hc
   by_cases h0 : n = 0
   ·obtain ⟨hw, hR⟩ := hnz.1 h0
    rw [whl_iff] at hw
    have hs := f_l6Soa (z := z) k1
    have hloop := loop_all' (f := fun l2 =>
     if (decide ((gd l2 0).i < (z.recs.length : Int))) then
      if (inb (gd l2 0).i z.recs.length) then
      (if (((gd (z.recs.map Rec.d) (gd l2 0).i.toNat).fld 1).i == 6) then
          (e_spec_l6Soa.F [z.d]).bind fun r3 =>
          ou 0 [(.bool (!(((gd (z.recs.map Rec.d) (gd l2 0).i.toNat).fld 3).s == r3.s)))]
        else
         ou 0 [(.bool false)]).bind fun o3 =>
      sel2 o3.1 (if (gd o3.2 0).b then
       ou 1 [(.bool false)]
       else
        ou 0 [(.int (IntKind.wrap .i64 ((gd l2 0).i + 1)))]) fun _ => none
      else none
     else
      ou 2 []) (l := [.int 0]) (fun i => [.int i]) z.recs.length (fun i => !((z.recs.getD i Rec.nul).type == 6 && !((z.recs.getD i Rec.nul).data == Lib.itoa (z.counter % 4294967296)))) (t1 := 0) (t2 := 1) (o1 := [.bool false]) (o2 := []) rfl (by
     intro i hi
     have e0 : (gd [D.int (i : Int)] 0).i.toNat = i := by simp
     have e1 : (gd [D.int (i : Int)] 0).i = i := rfl
     have g1 : (z.recs[i].d.fld 1).i = z.recs[i].type := rfl
     have g3 : (z.recs[i].d.fld 3).s = z.recs[i].data := rfl
     rw [e0, e1, wrap_succ hi hsm, gd_rec hi, getD_lt hi, g1, g3]
     refine out_if (by simpa using hi) (out_if (by simpa using inb_nat hi) (out_bind (r := (0, [.bool (z.recs[i].type == 6 && !(z.recs[i].data == Lib.itoa (z.counter % 4294967296)))])) ?_ (sel0 ?_)))
     ·by_cases h6 : z.recs[i].type = 6
      ·exact out_if (by simpa using h6) (out_call hs (by simp [h6]))
      ·exact out_else (by simpa using h6) (by simp [h6])
     ·cases (z.recs[i].type == 6 && !(z.recs[i].data == Lib.itoa (z.counter % 4294967296))) <;> simp) (by exact out_else (by simp) rfl)
    have hall : allN z.recs.length (fun i => !((z.recs.getD i Rec.nul).type == 6 && !((z.recs.getD i Rec.nul).data == Lib.itoa (z.counter % 4294967296)))) = z.good := by
     rw [all_allN z.recs (fun r => !(r.type == 6 && !(r.data == Lib.itoa (z.counter % 4294967296)))) Rec.nul, Bool.eq_iff_iff, Zn.good_iff, List.all_eq_true]
     constructor
     ·intro h
      refine ⟨k1, hw.1, hw.2.1, hw.2.2, hR, fun r hr h6 => ?_⟩
      have := h r hr
      simpa [h6] using this
     ·intro h r hr
      by_cases h6 : r.type = 6
      ·simp [h6, h.soa r hr h6]
      ·simp [h6]
    rw [hall] at hloop
    refine rn_bind0 (l := [.bool false]) (out_call hc (out_else (by simp) (out_call hn (by simp [h0])))) (rn_else (by simp) (rn_bind hloop ?_))
    cases z.good <;> rfl
   ·have : z.good = false := by
     cases hg : z.good with
     | false => rfl
     | true =>
       have hG := Zn.good_iff.1 hg
       exact absurd (hnz.2 ⟨whl_iff.2 ⟨hG.apx, hG.n40, hG.ris⟩, hG.rul⟩) h0
    rw [this]
    refine rn_bind0 (l := [.bool true]) (out_call hc (out_else (by simp) (out_call hn ?_))) (rn_if rfl rfl)
    simp only [ou_eq, D.i_int]
    have : (n != 0) = true := by simpa using h0
    rw [this]
end Go.Proofs.YtbacjgkmkkphdaaGreatDoor
namespace Go.Own
variable [Glb]
open Go
end Go.Own
namespace Go.Proofs.YtbacjgkmkkphdaaGreatDoor
open Go Go.Own
theorem Zn.In.smax {z : Zn} (h : z.In lim) : z.In smax := ⟨Nat.le_trans h.apex lim_smax, Nat.le_trans h.len lim_smax, fun r hr => ⟨Nat.le_trans (h.all r hr).name lim_smax, Nat.le_trans (h.all r hr).data lim_smax⟩⟩
end Go.Proofs.YtbacjgkmkkphdaaGreatDoor
