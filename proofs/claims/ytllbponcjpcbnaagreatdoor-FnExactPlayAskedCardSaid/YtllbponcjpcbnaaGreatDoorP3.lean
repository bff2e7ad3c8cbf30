/- What the functions compute, in plain words. -/
import Derived.Test.YtllbponcjpcbnaaGreatDoorP2
set_option linter.unusedSectionVars false
set_option linter.unusedVariables false
set_option linter.unusedSimpArgs false
namespace Go.Proofs.YtllbponcjpcbnaaGreatDoor
open Go Go.Own
def brk3 (r x : Rec) : Bool := x.ttl != r.ttl || (x.data == r.data && !(D.beq x.d r.d))
def brk6 (apex : List UInt8) (r c : Rec) : Bool := (c.type == 2 && (!(c.name == apex) && bel r.name c.name)) && (r.type != 1 && !(r.type == 2 && r.name == c.name))
def brk (apex : List UInt8) (xs : List Rec) (r : Rec) (k : Nat) : Bool :=
 if k = 1 then !bel r.name apex
 else if k = 2 then r.type == 6 && !(r.name == apex)
 else if k = 3 then (xs.filter (isAt r.name r.type)).any (brk3 r)
 else if k = 4 then r.type == 5 && decide (1 < (xs.filter (isAt r.name 0)).length)
 else if k = 5 then r.type == 5 && r.name == apex
 else xs.any (brk6 apex r)
theorem zNM (x r : Rec) : z3P.F [x.d, r.d] = some (.bool (brk3 r x)) := by
 rw [zET]
 refine z06 (l := [.bool (brk3 r x)]) ?_ rfl
 have f2 : (x.d.fld 2).i = x.ttl := rfl
 have g2 : (r.d.fld 2).i = r.ttl := rfl
 have f3 : (x.d.fld 3).s = x.data := rfl
 have g3 : (r.d.fld 3).s = r.data := rfl
 rw [f2, g2, f3, g3]
 unfold brk3
 by_cases h1 : x.ttl = r.ttl
 ·refine z00 (by simp [h1]) ?_
  have e1 : (x.ttl != r.ttl) = false := by simp [h1]
  rw [e1, Bool.false_or]
  by_cases h2 : x.data = r.data
  ·exact z01 (by simpa using h2) (by simp [h2])
  ·exact z00 (by simpa using h2) (by simp [h2])
 ·exact z01 (by simpa using h1) (by simp [h1])
theorem zKI {xs : List Rec} (r : Rec) (hl : xs.length ≤ smax) : z0L.F [.lst (xs.map Rec.d), .pair r.d .unit] = some (.bool (xs.any (brk3 r))) := by
 rw [z1z]
 obtain ⟨n, h1, h2⟩ := zDd (f := Rec.d) (c := fun d => z3P.F [d, r.d]) (xs := xs) (p := brk3 r) hl (fun x _ => zNM x r)
 have h3 : z0R.F [.lst (xs.map Rec.d), .pair r.d .unit] = some (.int n) := by
  rw [z2V]; exact h1
 refine z02 h3 ?_
 rw [← h2]; rfl
theorem zNN {apex : List UInt8} {c r : Rec} (hc : c.In lim) (hr : r.In lim) : z3Q.F [c.d, .str apex, r.d] = some (.bool (brk6 apex r c)) := by
 rw [zEU]
 have f0 : (c.d.fld 0) = .str c.name := rfl
 have f1 : (c.d.fld 1).i = c.type := rfl
 have g0 : (r.d.fld 0) = .str r.name := rfl
 have g1 : (r.d.fld 1).i = r.type := rfl
 rw [f0, f1, g0, g1]
 simp only [D.s_str]
 have hb := zIY hr.name hc.name
 refine z06 (l := [.bool (c.type == 2 && (!(c.name == apex) && bel r.name c.name))]) ?_ (z06 (l := [.bool (brk6 apex r c)]) ?_ rfl)
 ·by_cases h1 : c.type = 2
  ·refine z01 (by simpa using h1) ?_
   by_cases h2 : c.name = apex
   ·exact z00 (by simpa using h2) (by simp [h2])
   ·exact z01 (by simpa using h2) (z05 hb (by simp [h1, h2]))
  ·exact z00 (by simpa using h1) (by simp [h1])
 ·unfold brk6
  cases (c.type == 2 && (!(c.name == apex) && bel r.name c.name)) with
  | false => exact z00 (by simp) rfl
  | true =>
    refine z01 rfl ?_
    rw [Bool.true_and]
    by_cases h1 : r.type = 1
    ·exact z00 (by simp [h1]) (by simp [h1])
    ·refine z01 (by simpa using h1) ?_
     by_cases h2 : r.type = 2
     ·exact z01 (by simpa using h2) (by simp [h2])
     ·exact z00 (by simpa using h2) (by simp [h1, h2])
theorem zKJ {apex : List UInt8} {xs : List Rec} {r : Rec} (hl : xs.length ≤ smax) (hx : ∀ x ∈ xs, x.In lim) (hr : r.In lim) : z0M.F [.lst (xs.map Rec.d), .pair (.str apex) (.pair r.d .unit)] = some (.bool (xs.any (brk6 apex r))) := by
 rw [z22]
 obtain ⟨n, h1, h2⟩ := zDd (f := Rec.d) (c := fun d => z3Q.F [d, .str apex, r.d]) (xs := xs) (p := brk6 apex r) hl (fun x hx' => zNN (hx x hx') hr)
 have h3 : z0S.F [.lst (xs.map Rec.d), .pair (.str apex) (.pair r.d .unit)] = some (.int n) := by
  rw [z2W]; exact h1
 refine z02 h3 ?_
 rw [← h2]; rfl
theorem zP1 {apex : List UInt8} {xs : List Rec} {r : Rec} {k : Nat} (hk : 1 ≤ k ∧ k ≤ 6) (ha : apex.length ≤ lim) (hl : xs.length ≤ lim) (hx : ∀ x ∈ xs, x.In lim) (hr : r.In lim) : z5D.F [.str apex, .lst (xs.map Rec.d), r.d, .int k] = some (.bool (brk apex xs r k)) := by
 have hsm := Nat.le_trans hl z1A
 rw [zHd]
 have g0 : (r.d.fld 0) = .str r.name := rfl
 have g1 : (r.d.fld 1) = .int r.type := rfl
 rw [g0, g1]
 simp only [D.i_int, D.s_str]
 have kb : ∀ n : Nat, k ≠ n → ¬ ((k : Int) == (n : Int)) = true := fun n h => by simp; omega
 unfold brk
 by_cases k1 : k = 1
 ·subst k1
  exact z0U rfl (z02 (zIY hr.name ha) rfl)
 rw [if_neg k1]
 refine z04 (kb 1 k1) ?_
 by_cases k2 : k = 2
 ·subst k2
  refine z0U rfl (z06 (l := [.bool (r.type == 6 && !(r.name == apex))]) ?_ rfl)
  by_cases h1 : r.type = 6
  ·exact z01 (by simpa using h1) (by simp [h1])
  ·exact z00 (by simpa using h1) (by simp [h1])
 rw [if_neg k2]
 refine z04 (kb 2 k2) ?_
 by_cases k3 : k = 3
 ·subst k3
  have hfl := List.length_filter_le (isAt r.name r.type) xs
  exact z0U rfl (z02 (f_at hl) (z02 (zKI r (by omega)) rfl))
 rw [if_neg k3]
 refine z04 (kb 3 k3) ?_
 by_cases k4 : k = 4
 ·subst k4
  refine z0U rfl (z06 (l := [.bool (r.type == 5 && decide (1 < (xs.filter (isAt r.name 0)).length))]) ?_ rfl)
  by_cases h1 : r.type = 5
  ·refine z01 (by simpa using h1) (z05 (f_at hl) ?_)
   have e : (D.lst ((xs.filter (isAt r.name 0)).map Rec.d)).l.length = (xs.filter (isAt r.name 0)).length := by simp
   have e2 : decide (((xs.filter (isAt r.name 0)).length : Int) > 1) = decide (1 < (xs.filter (isAt r.name 0)).length) := by rw [Bool.eq_iff_iff]; simp; omega
   rw [e, e2]; simp [h1]
  ·exact z00 (by simpa using h1) (by simp [h1])
 rw [if_neg k4]
 refine z04 (kb 4 k4) ?_
 by_cases k5 : k = 5
 ·subst k5
  refine z0U rfl (z06 (l := [.bool (r.type == 5 && r.name == apex)]) ?_ rfl)
  by_cases h1 : r.type = 5
  ·exact z01 (by simpa using h1) (by simp [h1])
  ·exact z00 (by simpa using h1) (by simp [h1])
 rw [if_neg k5]
 refine z04 (kb 5 k5) ?_
 exact z02 (zKJ hsm hx hr) rfl
theorem zKH {apex : List UInt8} {xs : List Rec} {k : Nat} (hk : 1 ≤ k ∧ k ≤ 6) (ha : apex.length ≤ lim) (hl : xs.length ≤ lim) (hx : ∀ x ∈ xs, x.In lim) :
 z0C.F [.lst (xs.map Rec.d), .pair (.str apex) (.pair (.lst (xs.map Rec.d)) (.pair (.int k) .unit))] = some (.bool (xs.any fun r => brk apex xs r k)) := by
 rw [z1y]
 obtain ⟨n, h1, h2⟩ := zDd (f := Rec.d) (c := fun d => z3M.F [d, .str apex, .lst (xs.map Rec.d), .int k]) (xs := xs) (p := fun r => brk apex xs r k) (Nat.le_trans hl z1A) (fun x hx' => by
  have := zP1 (apex := apex) hk ha hl hx (hx x hx')
  show z3M.F [x.d, .str apex, .lst (xs.map Rec.d), .int k] = _
  rw [zES]
  exact z02 this rfl)
 have h3 : z0Q.F [.lst (xs.map Rec.d), .pair (.str apex) (.pair (.lst (xs.map Rec.d)) (.pair (.int k) .unit))] = some (.int n) := by
  rw [z2U]; exact h1
 refine z02 h3 ?_
 rw [← h2]; rfl
def z6L (s : List UInt8) : Bool := z16 s && !(s.contains 42)
theorem zP5 {s : List UInt8} (h : s.length ≤ lim) : z5E.F [.str s] = some (.bool (z6L s)) := by
 rw [zHe]
 have hn := zAW s
 have hc := zGB h
 refine z06 (l := [.bool (z6L s)]) ?_ rfl
 unfold z6L
 cases h1 : z16 s with
 | false => rw [h1] at hn; exact z05 hn (z00 (by simp) rfl)
 | true => rw [h1] at hn; exact z05 hn (z01 rfl (z05 hc (by simp)))
theorem zLL {s : List UInt8} (h : s.length ≤ lim) : z3k.F [.str s] = some (.bool (z6L s)) := by
 have hlim : lim = 1048576 := rfl
 rw [zHn]
 obtain ⟨ls, hl, hll, hpt⟩ := z4v s h
 have hsm : ls.length ≤ smax := by rw [z0p]; omega
 have f0 : ((D.pair (.lst (ls.map D.str)) (.pair (.bool (z16 s)) .unit)).fld 0).l = ls.map D.str := rfl
 have f1 : (D.pair (.lst (ls.map D.str)) (.pair (.bool (z16 s)) .unit)).fld 1 = .bool (z16 s) := rfl
 refine z02 hl ?_
 rw [f0, f1, List.length_map]
 refine z0K (z1R (fun i (b : Bool) => [.bool b, .int i]) ls.length (fun i => z16 s && (ls.take i).all (fun x => !(x == [42]))) (t := 0) (o := [.bool (z16 s && ls.all (fun x => !(x == [42])))]) (by simp) ?_ ?_) ?_
 ·intro i hi
  have hg := z7B hi
  refine z01 (by simpa using hi) (z0x (r := (0, [.bool (z16 s && (ls.take (i + 1)).all (fun x => !(x == [42])))])) (z01 (by simpa using z0B hi) ?_) (sel0 ?_))
  ·simp only [z14, z4d, D.i_int, Int.toNat_natCast, D.b_bool, hg]
   rw [List.take_succ_eq_append_getElem hi, List.all_append, ← Bool.and_assoc]
   cases (z16 s && (ls.take i).all (fun x => !(x == [42]))) with
   | false => exact z00 (by simp) (by simp)
   | true => exact z01 rfl (by simp)
  ·simp [z0N hi hsm]
 ·simp
 ·have : (z16 s && ls.all (fun x => !(x == [42]))) = z6L s := by
   unfold z6L
   cases hn : z16 s with
   | false => rfl
   | true =>
     have hls := hpt hn
     subst hls
     rw [Bool.true_and, Bool.true_and]
     by_cases h0 : s = []
     ·subst h0; rfl
     ·rw [zJ7 hn h0, List.not_any_eq_all_not]
  rw [this]; rfl
noncomputable def zFZ (apex : List UInt8) (xs : List Rec) : Bool := z6L apex && (decide (xs.length ≤ 40) && z6h xs)
theorem zNT {apex : List UInt8} {xs : List Rec} (ha : apex.length ≤ lim) (hl : xs.length ≤ lim) (hx : ∀ x ∈ xs, x.In lim) : z4i.F [.str apex, .lst (xs.map Rec.d)] = some (.bool (zFZ apex xs)) := by
 rw [zFu]
 have h1 := zP5 ha
 have h2 := zKE hl hx
 have hlen : (D.lst (xs.map Rec.d)).l.length = xs.length := by simp
 rw [hlen]
 refine z06 (l := [.bool (zFZ apex xs)]) ?_ rfl
 unfold zFZ
 cases k1 : z6L apex with
 | false => rw [k1] at h1; exact z05 h1 (z00 (by simp) rfl)
 | true =>
   rw [k1] at h1
   refine z05 h1 (z01 rfl ?_)
   by_cases h40 : xs.length ≤ 40
   ·exact z01 (decide_eq_true (show (xs.length : Int) ≤ 40 by omega)) (z05 h2 (by simp [h40]))
   ·exact z00 (fun h => h40 (by have h' : (xs.length : Int) ≤ 40 := of_decide_eq_true h; omega)) (by simp [h40])
def zHL (apex : List UInt8) (xs : List Rec) (k : Nat) : Bool := !(xs.any fun r => brk apex xs r k) && (!decide (k = 2) || decide ((xs.filter (isAt apex 6)).length = 1))
theorem zLI {apex : List UInt8} {xs : List Rec} (ha : apex.length ≤ lim) (hl : xs.length ≤ lim) (hx : ∀ x ∈ xs, x.In lim) :
 ∃ n : Int, z3h.F [.str apex, .lst (xs.map Rec.d)] = some (.int n) ∧ (n = 0 ↔ zFZ apex xs = true ∧ ∀ k, 1 ≤ k → k ≤ 6 → zHL apex xs k = true) := by
 rw [zHc]
 have hw := zNT ha hl hx
 cases k1 : zFZ apex xs with
 | false =>
   rw [k1] at hw
   exact ⟨9, z02 hw (z0U rfl rfl), by simp⟩
 | true =>
   rw [k1] at hw
   let F : List D → Outc := fun l3 =>
       if (decide ((gd l3 0).i ≤ 6)) then
        ((z0C.F [(.lst (xs.map Rec.d)), (.pair (.str apex) (.pair (.lst (xs.map Rec.d)) (.pair (gd l3 0) .unit)))]).bind fun r4 =>
          if r4.b then
           ou 0 [(.bool true)]
          else
           if ((gd l3 0).i == 2) then
            (z3O.F [(.lst (xs.map Rec.d)), (.str apex), (.int 6)]).bind fun r5 =>
            ou 0 [(.bool ((r5.l.length : Int) != 1))]
           else
            ou 0 [(.bool false)]).bind fun o4 =>
        sel2 o4.1 (if (gd o4.2 0).b then
         ou 1 [(gd l3 0)]
         else
          ou 0 [(.int (IntKind.wrap .i64 ((gd l3 0).i + 1)))]) fun _ => none
       else
        ou 2 []
   have hst : ∀ i, i < 6 → ∀ R, (if zHL apex xs (i + 1) then ou 0 [.int ((i + 1 + 1 : Nat) : Int)] else ou 1 [.int ((i + 1 : Nat) : Int)] : Outc) = R → F [.int ((i + 1 : Nat) : Int)] = R := by
    intro i hi R hR
    have hc := zKH (apex := apex) (xs := xs) (k := i + 1) ⟨by omega, by omega⟩ ha hl hx
    have w : IntKind.wrap .i64 (((i + 1 : Nat) : Int) + 1) = ((i + 1 + 1 : Nat) : Int) := by rw [z0c] <;> omega
    refine z01 (decide_eq_true (by simp; omega)) (z0x (r := (0, [.bool !(zHL apex xs (i + 1))])) (z05 hc ?_) (sel0 ?_))
    ·unfold zHL
     cases (xs.any fun r => brk apex xs r (i + 1)) with
     | true => exact z01 rfl rfl
     | false =>
       refine z00 (by simp) ?_
       by_cases h2 : i + 1 = 2
       ·refine z01 (by simp; omega) (z05 (f_at hl) ?_)
        have e : (D.lst ((xs.filter (isAt apex 6)).map Rec.d)).l.length = (xs.filter (isAt apex 6)).length := by simp
        have e2 : (((xs.filter (isAt apex 6)).length : Int) != 1) = !(decide ((xs.filter (isAt apex 6)).length = 1)) := by rw [Bool.eq_iff_iff]; simp; omega
        rw [e, e2]; simp [h2]
       ·exact z00 (by simp; omega) (by simp [h2])
    ·rw [← hR]
     have g0 : gd [D.int ((i + 1 : Nat) : Int)] 0 = .int ((i + 1 : Nat) : Int) := rfl
     rw [g0, D.i_int, w]
     cases zHL apex xs (i + 1) <;> simp
   have hend : F [.int 7] = some (2, []) := z00 (by decide) rfl
   rcases z5M (f := F) (l := [.int 1]) (fun i => [.int ((i + 1 : Nat) : Int)]) 6 (fun i => zHL apex xs (i + 1)) (t1 := 0) (t2 := 1) (o1 := fun i => [.int ((i + 1 : Nat) : Int)]) (o2 := []) rfl (by
    intro i hi h; exact hst i hi _ (by rw [h]; rfl)) (by
    intro i hi h; exact hst i hi _ (by rw [h]; rfl)) hend with ⟨hall, hloop⟩ | ⟨k, hk, hpk, hall, hloop⟩
   ·refine ⟨0, z02 hw (z04 (by simp) (z0K hloop rfl)), by
     simp only [true_and, true_iff]
     intro k h1 h6
     have := hall (k - 1) (by omega)
     rwa [show k - 1 + 1 = k by omega] at this⟩
   ·refine ⟨((k + 1 : Nat) : Int), z02 hw (z04 (by simp) (z0K hloop rfl)), ?_⟩
    constructor
    ·intro h; omega
    ·rintro ⟨_, h⟩
     rw [h (k + 1) (by omega) (by omega)] at hpk
     cases hpk
end Go.Proofs.YtllbponcjpcbnaaGreatDoor
namespace Go.Proofs.YtllbponcjpcbnaaGreatDoor
open Go Go.Own
def soaW (apex : List UInt8) (r : Rec) : Int := if r.type = 6 then (if r.name = apex then 1 else 2) else 0
def soaG (apex : List UInt8) (_ : Nat) (s : Int) (r : Rec) : Sum Int (Nat × List D) := if bel r.name apex = true then .inl (s + soaW apex r) else .inr (0, [.int 1])
def soaS (apex : List UInt8) : List Rec → Int
 | [] => 0
 | r :: xs => soaW apex r + soaS apex xs
theorem zJg (apex : List UInt8) : ∀ (xs : List Rec) (i : Nat) (s : Int), z91 (soaG apex) i s xs = if xs.all (fun r => bel r.name apex) = true then .inl (s + soaS apex xs) else .inr (0, [.int 1])
 | [], i, s => by simp [z91, soaS]
 | r :: xs, i, s => by
   rw [z91]
   cases h : bel r.name apex with
   | false =>
     have e : soaG apex i s r = .inr (0, [.int 1]) := by unfold soaG; rw [if_neg (by simp [h])]
     rw [e]; simp [h]
   | true =>
     have e : soaG apex i s r = .inl (s + soaW apex r) := by unfold soaG; rw [if_pos h]
     rw [e]
     simp only [List.all_cons, h, Bool.true_and]
     rw [zJg apex xs]
     simp only [soaS, Int.add_assoc]
theorem zMp (apex : List UInt8) (r : Rec) : 0 ≤ soaW apex r ∧ soaW apex r ≤ 2 := by
 unfold soaW; split
 ·split <;> omega
 ·omega
def z6V (xs : List Rec) (i : Nat) : Bool := decide (0 < i) && ((xs.getD (i - 1) Rec.nul).name == (xs.getD i Rec.nul).name && ((xs.getD (i - 1) Rec.nul).type == (xs.getD i Rec.nul).type && ((xs.getD (i - 1) Rec.nul).ttl != (xs.getD i Rec.nul).ttl || (xs.getD (i - 1) Rec.nul).data == (xs.getD i Rec.nul).data)))
def z8a (o r : Rec) : Bool := o.name == r.name && (o.type == 5 || r.type == 5)
def z6J (apex : List UInt8) (xs : List Rec) (r : Rec) : Bool := match zF8 apex xs r.name with
 | none => false
 | some c => r.type != 1 && (r.type != 2 || !(r.name == c))
structure RuleS (apex : List UInt8) (xs : List Rec) : Prop where
 s1 : ∀ r ∈ xs, bel r.name apex = true
 s2 : soaS apex xs = 1
 s3 : ∀ i, i < xs.length → z6V xs i = false
 s4 : ∀ i, i < xs.length → ∀ j, j < i → z8a (xs.getD j Rec.nul) (xs.getD i Rec.nul) = false
 s5 : z5a xs apex 5 = false
 s6 : ∀ r ∈ xs, z6J apex xs r = false
theorem zLM {apex : List UInt8} {xs : List Rec} (ha : apex.length ≤ lim) (hl : xs.length ≤ lim) (hx : ∀ x ∈ xs, x.In lim) :
 ∃ n : Int, z3l.F [.str apex, .lst (xs.map Rec.d)] = some (.int n) ∧ (n = 0 ↔ RuleS apex xs) := by
 have hlim : lim = 1048576 := rfl
 have hsm := Nat.le_trans hl z1A
 rw [zHq]
 have hlen : (D.lst (xs.map Rec.d)).l.length = xs.length := by simp
 have hll : (D.lst (xs.map Rec.d)).l = xs.map Rec.d := rfl
 simp only [hll, List.length_map]
 -- the first loop
 have loop1 := z99 (f := fun l2 =>
  if (decide ((gd l2 1).i < (xs.length : Int))) then
   (if (inb (gd l2 1).i xs.length) then
     (z1d.F [((gd (xs.map Rec.d) (gd l2 1).i.toNat).fld 0), (.str apex)]).bind fun r4 =>
     if (!r4.b) then
      ou 1 [(.int 1)]
     else
      if (((gd (xs.map Rec.d) (gd l2 1).i.toNat).fld 1).i == 6) then
       if (!(((gd (xs.map Rec.d) (gd l2 1).i.toNat).fld 0).s == (D.str apex).s)) then
        ou 0 [(.int (IntKind.wrap .i64 ((IntKind.wrap .i64 ((gd l2 0).i + 1)) + 1)))]
       else
        ou 0 [(.int (IntKind.wrap .i64 ((gd l2 0).i + 1)))]
      else
       ou 0 [(gd l2 0)]
     else none).bind fun o4 =>
   sel2 o4.1 (ou 0 [(gd o4.2 0), (.int (IntKind.wrap .i64 ((gd l2 1).i + 1)))]) fun n8 =>
   sel2 n8 (ou 1 [(gd o4.2 0)]) fun _ => none
  else
   ou 2 [(gd l2 0)]) (l := [.int 0, .int 0]) (fun i (s : Int) => [.int s, .int i]) xs (soaG apex) (fun i s => 0 ≤ s ∧ s ≤ 2 * i) 0 1 (fun s => [.int s]) rfl (by omega) (by
  rintro i s hi ⟨h0, h1⟩
  have hb := zIZ (a := xs[i].name) (b := apex) (hx _ (List.getElem_mem hi)).name ha
  have e0 : (gd [D.int s, D.int (i : Int)] 1).i.toNat = i := by simp
  have e1 : (gd [D.int s, D.int (i : Int)] 1).i = i := rfl
  have e2 : (gd [D.int s, D.int (i : Int)] 0) = .int s := rfl
  have g0 : (xs[i].d.fld 0) = .str xs[i].name := rfl
  have g1 : (xs[i].d.fld 1).i = xs[i].type := rfl
  have hwb := zMp apex xs[i]
  unfold soaG
  cases hq : bel xs[i].name apex with
  | false =>
    rw [hq] at hb
    show _ = some (1, _)
    refine z01 (by simpa using hi) (z0x (r := (1, [.int 1])) (z01 (by simpa using z0B hi) ?_) rfl)
    rw [e0, z4E hi, g0]
    exact z05 hb (z01 rfl rfl)
  | true =>
    rw [hq] at hb
    refine ⟨z01 (by simpa using hi) (z0x (r := (0, [.int (s + soaW apex xs[i])])) (z01 (by simpa using z0B hi) ?_) (sel0 ?_)), by omega, by omega⟩
    ·rw [e0, e2, z4E hi, g0, g1]
     have w1 : IntKind.wrap .i64 (s + 1) = s + 1 := by rw [z0c] <;> omega
     have w2 : IntKind.wrap .i64 (s + 1 + 1) = s + 2 := by rw [z0c] <;> omega
     simp only [D.i_int, D.s_str, w1, w2]
     refine z05 hb (z00 (by simp) ?_)
     unfold soaW
     by_cases h6 : xs[i].type = 6
     ·rw [if_pos h6]
      refine z01 (by simpa using h6) ?_
      by_cases hap : xs[i].name = apex
      ·rw [if_pos hap]; exact z00 (by simp [hap]) rfl
      ·rw [if_neg hap]; exact z01 (by simpa using hap) rfl
     ·rw [if_neg h6]
      exact z00 (by simpa using h6) (by simp)
    ·rw [e1, z0N hi hsm]; rfl) (by
  intro s _
  exact z00 (by simp) rfl)
 rw [zJg apex xs 0 0] at loop1
 cases c1 : xs.all (fun r => bel r.name apex) with
 | false =>
   rw [c1] at loop1
   refine ⟨1, z0K loop1 rfl, by
    constructor
    ·intro h; cases h
    ·intro h
     have : xs.all (fun r => bel r.name apex) = true := List.all_eq_true.2 h.s1
     rw [c1] at this; cases this⟩
 | true =>
 rw [c1, if_pos rfl, Int.zero_add] at loop1
 have s1 := List.all_eq_true.1 c1
 by_cases c2 : soaS apex xs = 1
 case neg =>
  exact ⟨2, z0K loop1 (z0U (by simpa using c2) rfl), by
   constructor
   ·intro h; cases h
   ·intro h; exact absurd h.s2 c2⟩
 -- the second loop
 have loop2 := z3a (f := fun l3 =>
  if (decide ((gd l3 0).i < (xs.length : Int))) then
   if (inb (gd l3 0).i xs.length) then
   (if (decide ((gd l3 0).i > 0)) then
       if (inb (IntKind.wrap .i64 ((gd l3 0).i - 1)) xs.length) then
       if (((gd (xs.map Rec.d) (IntKind.wrap .i64 ((gd l3 0).i - 1)).toNat).fld 0).s == ((gd (xs.map Rec.d) (gd l3 0).i.toNat).fld 0).s) then
        if (((gd (xs.map Rec.d) (IntKind.wrap .i64 ((gd l3 0).i - 1)).toNat).fld 1).i == ((gd (xs.map Rec.d) (gd l3 0).i.toNat).fld 1).i) then
         if (((gd (xs.map Rec.d) (IntKind.wrap .i64 ((gd l3 0).i - 1)).toNat).fld 2).i != ((gd (xs.map Rec.d) (gd l3 0).i.toNat).fld 2).i) then
          ou 0 [(.bool true)]
         else
          ou 0 [(.bool (((gd (xs.map Rec.d) (IntKind.wrap .i64 ((gd l3 0).i - 1)).toNat).fld 3).s == ((gd (xs.map Rec.d) (gd l3 0).i.toNat).fld 3).s))]
        else
         ou 0 [(.bool false)]
       else
        ou 0 [(.bool false)]
       else none
     else
      ou 0 [(.bool false)]).bind fun o4 =>
   sel2 o4.1 (if (gd o4.2 0).b then
    ou 1 [(.int 3)]
    else
     ou 0 [(.int (IntKind.wrap .i64 ((gd l3 0).i + 1)))]) fun _ => none
   else none
  else
   ou 2 []) (l := [.int 0]) (fun i => [.int i]) xs.length (fun i => !(z6V xs i)) (t1 := 0) (t2 := 1) (o1 := [.int 3]) (o2 := []) rfl (by
  intro i hi
  have e0 : (gd [D.int (i : Int)] 0).i.toNat = i := by simp
  have e1 : (gd [D.int (i : Int)] 0).i = i := rfl
  rw [e0, e1, z0N hi hsm]
  refine z01 (by simpa using hi) (z01 (by simpa using z0B hi) (z0x (r := (0, [.bool (z6V xs i)])) ?_ (sel0 (by cases z6V xs i <;> simp))))
  unfold z6V
  by_cases h0 : 0 < i
  ·have w : IntKind.wrap .i64 ((i : Int) - 1) = ((i - 1 : Nat) : Int) := by rw [z0p] at hsm; rw [z0c] <;> omega
   have hi1 : i - 1 < xs.length := by omega
   rw [w, Int.toNat_natCast, z4E hi, z4E hi1, z0J hi, z0J hi1]
   refine z01 (decide_eq_true (by omega)) (z01 (z0B hi1) ?_)
   have d0 : decide (0 < i) = true := decide_eq_true h0
   rw [d0, Bool.true_and]
   have g0 : ∀ r : Rec, (r.d.fld 0).s = r.name := fun _ => rfl
   have g1 : ∀ r : Rec, (r.d.fld 1).i = r.type := fun _ => rfl
   have g2 : ∀ r : Rec, (r.d.fld 2).i = r.ttl := fun _ => rfl
   have g3 : ∀ r : Rec, (r.d.fld 3).s = r.data := fun _ => rfl
   simp only [g0, g1, g2, g3]
   by_cases h1 : xs[i - 1].name = xs[i].name
   ·refine z01 (by simpa using h1) ?_
    by_cases h2 : xs[i - 1].type = xs[i].type
    ·refine z01 (by simpa using h2) ?_
     by_cases h3 : xs[i - 1].ttl = xs[i].ttl
     ·exact z00 (by simp [h3]) (by simp [h1, h2, h3])
     ·exact z01 (by simpa using h3) (by simp [h1, h2, h3])
    ·exact z00 (by simpa using h2) (by simp [h2])
   ·exact z00 (by simpa using h1) (by simp [h1])
  ·refine z00 (fun h => h0 (by have h' : (i : Int) > 0 := of_decide_eq_true h; omega)) ?_
   have d0 : decide (0 < i) = false := decide_eq_false h0
   rw [d0]; rfl) (by exact z00 (by simp) rfl)
 cases c3 : allN xs.length (fun i => !(z6V xs i)) with
 | false =>
   rw [c3] at loop2
   exact ⟨3, z0K loop1 (z04 (by simp [c2]) (z0K loop2 rfl)), by
    constructor
    ·intro h; cases h
    ·intro h
     have : allN xs.length (fun i => !(z6V xs i)) = true := z1s.2 fun i hi => by rw [h.s3 i hi]; rfl
     rw [c3] at this; cases this⟩
 | true =>
 rw [c3] at loop2
 have s3 : ∀ i, i < xs.length → z6V xs i = false := fun i hi => by have := z1s.1 c3 i hi; simpa using this
 -- the third loop
 have inner : ∀ i (hi : i < xs.length), z0a (fun l4 =>
  if (decide ((gd l4 0).i < ((((xs.map Rec.d).take i).drop 0).length : Int))) then
   if (inb (gd l4 0).i (((xs.map Rec.d).take i).drop 0).length) then
   (if (((gd (D.lst (((xs.map Rec.d).take i).drop 0)).l (gd l4 0).i.toNat).fld 0).s == (xs[i].d.fld 0).s) then
       if (((gd (D.lst (((xs.map Rec.d).take i).drop 0)).l (gd l4 0).i.toNat).fld 1).i == 5) then
        ou 0 [(.bool true)]
       else
        ou 0 [(.bool ((xs[i].d.fld 1).i == 5))]
     else
      ou 0 [(.bool false)]).bind fun o5 =>
   sel2 o5.1 (if (gd o5.2 0).b then
    ou 1 [(.int 4)]
    else
     ou 0 [(.int (IntKind.wrap .i64 ((gd l4 0).i + 1)))]) fun _ => none
   else none
  else
   ou 2 []) [(.int 0)] = some (cond (allN i (fun j => !(z8a (xs.getD j Rec.nul) (xs.getD i Rec.nul)))) (1, []) (0, [.int 4])) := by
  intro i hi
  have hlt : (((xs.map Rec.d).take i).drop 0).length = i := by simp; omega
  rw [hlt]
  refine z3a (fun j => [.int j]) i (fun j => !(z8a (xs.getD j Rec.nul) (xs.getD i Rec.nul))) (t1 := 0) (t2 := 1) (o1 := [.int 4]) (o2 := []) rfl ?_ (by exact z00 (by simp) rfl)
  intro j hj
  have hjl : j < xs.length := by omega
  have e0 : (gd [D.int (j : Int)] 0).i.toNat = j := by simp
  have e1 : (gd [D.int (j : Int)] 0).i = j := rfl
  have hg : gd (D.lst (((xs.map Rec.d).take i).drop 0)).l j = xs[j].d := by
   rw [D.l_lst, List.drop_zero, z9g (by simp; omega)]; simp
  rw [e0, e1, hg, z0N hj (by omega), z0J hjl, z0J hi]
  refine z01 (by simpa using hj) (z01 (by simpa using z0B hj) (z0x (r := (0, [.bool (z8a xs[j] xs[i])])) ?_ (sel0 (by cases z8a xs[j] xs[i] <;> simp))))
  have g0 : ∀ r : Rec, (r.d.fld 0).s = r.name := fun _ => rfl
  have g1 : ∀ r : Rec, (r.d.fld 1).i = r.type := fun _ => rfl
  simp only [g0, g1]
  unfold z8a
  by_cases h1 : xs[j].name = xs[i].name
  ·refine z01 (by simpa using h1) ?_
   by_cases h2 : xs[j].type = 5
   ·exact z01 (by simpa using h2) (by simp [h1, h2])
   ·exact z00 (by simpa using h2) (by simp [h1, h2])
  ·exact z00 (by simpa using h1) (by simp [h1])
 have loop3 := z3a (f := fun l3 =>
  if (decide ((gd l3 0).i < (xs.length : Int))) then
   if (inb (gd l3 0).i xs.length) then
   if (slOk 0 (gd l3 0).i (xs.length : Int)) then
   (z0a (fun l4 =>
     if (decide ((gd l4 0).i < ((((xs.map Rec.d).take (gd l3 0).i.toNat).drop 0).length : Int))) then
      if (inb (gd l4 0).i (((xs.map Rec.d).take (gd l3 0).i.toNat).drop 0).length) then
      (if (((gd (D.lst (((xs.map Rec.d).take (gd l3 0).i.toNat).drop 0)).l (gd l4 0).i.toNat).fld 0).s == ((gd (xs.map Rec.d) (gd l3 0).i.toNat).fld 0).s) then
          if (((gd (D.lst (((xs.map Rec.d).take (gd l3 0).i.toNat).drop 0)).l (gd l4 0).i.toNat).fld 1).i == 5) then
           ou 0 [(.bool true)]
          else
           ou 0 [(.bool (((gd (xs.map Rec.d) (gd l3 0).i.toNat).fld 1).i == 5))]
        else
         ou 0 [(.bool false)]).bind fun o5 =>
      sel2 o5.1 (if (gd o5.2 0).b then
       ou 1 [(.int 4)]
       else
        ou 0 [(.int (IntKind.wrap .i64 ((gd l4 0).i + 1)))]) fun _ => none
      else none
     else
      ou 2 []) [(.int 0)]).bind fun o4 =>
   sel2 o4.1 (ou 1 [(gd o4.2 0)]) fun n14 =>
   sel2 n14 (ou 0 [(.int (IntKind.wrap .i64 ((gd l3 0).i + 1)))]) fun _ => none
   else none
   else none
  else
   ou 2 []) (l := [.int 0]) (fun i => [.int i]) xs.length (fun i => allN i (fun j => !(z8a (xs.getD j Rec.nul) (xs.getD i Rec.nul)))) (t1 := 0) (t2 := 1) (o1 := [.int 4]) (o2 := []) rfl (by
  intro i hi
  have e0 : (gd [D.int (i : Int)] 0).i.toNat = i := by simp
  have e1 : (gd [D.int (i : Int)] 0).i = i := rfl
  rw [e0, e1, z0N hi hsm, z4E hi]
  refine z01 (by simpa using hi) (z01 (by simpa using z0B hi) (z01 (by simp [slOk]; omega) (z0x (inner i hi) ?_)))
  cases allN i (fun j => !(z8a (xs.getD j Rec.nul) (xs.getD i Rec.nul))) <;> rfl) (by exact z00 (by simp) rfl)
 cases c4 : allN xs.length (fun i => allN i (fun j => !(z8a (xs.getD j Rec.nul) (xs.getD i Rec.nul)))) with
 | false =>
   rw [c4] at loop3
   exact ⟨4, z0K loop1 (z04 (by simp [c2]) (z0K loop2 (z0K loop3 rfl))), by
    constructor
    ·intro h; cases h
    ·intro h
     have : allN xs.length (fun i => allN i (fun j => !(z8a (xs.getD j Rec.nul) (xs.getD i Rec.nul)))) = true := z1s.2 fun i hi => z1s.2 fun j hj => by rw [h.s4 i hi j hj]; rfl
     rw [c4] at this; cases this⟩
 | true =>
 rw [c4] at loop3
 have s4 : ∀ i, i < xs.length → ∀ j, j < i → z8a (xs.getD j Rec.nul) (xs.getD i Rec.nul) = false := fun i hi j hj => by
  have := z1s.1 (z1s.1 c4 i hi) j hj; simpa using this
 have h5 := zGt (xs := xs) (n := apex) (k := 5) hl
 cases c5 : z5a xs apex 5 with
 | true =>
   rw [c5] at h5
   exact ⟨5, z0K loop1 (z04 (by simp [c2]) (z0K loop2 (z0K loop3 (z02 h5 (z0U rfl rfl))))), by
    constructor
    ·intro h; cases h
    ·intro h; have := h.s5; rw [c5] at this; cases this⟩
 | false =>
 rw [c5] at h5
 -- the last loop
 have loop4 := z3a (f := fun l4 =>
               if (decide ((gd l4 0).i < (xs.length : Int))) then
                if (inb (gd l4 0).i xs.length) then
                (z50.F [(.str apex), (.lst (xs.map Rec.d)), ((gd (xs.map Rec.d) (gd l4 0).i.toNat).fld 0)]).bind fun r5 =>
                (if (r5.fld 1).b then
                    if (((gd (xs.map Rec.d) (gd l4 0).i.toNat).fld 1).i != 1) then
                     if (((gd (xs.map Rec.d) (gd l4 0).i.toNat).fld 1).i != 2) then
                      ou 0 [(.bool true)]
                     else
                      ou 0 [(.bool (!(((gd (xs.map Rec.d) (gd l4 0).i.toNat).fld 0).s == (r5.fld 0).s)))]
                    else
                     ou 0 [(.bool false)]
                  else
                   ou 0 [(.bool false)]).bind fun o6 =>
                sel2 o6.1 (if (gd o6.2 0).b then
                 ou 1 [(.int 6)]
                 else
                  ou 0 [(.int (IntKind.wrap .i64 ((gd l4 0).i + 1)))]) fun _ => none
                else none
               else
                ou 2 []) (l := [.int 0]) (fun i => [.int i]) xs.length (fun i => !(z6J apex xs (xs.getD i Rec.nul))) (t1 := 0) (t2 := 1) (o1 := [.int 6]) (o2 := []) rfl (by
  intro i hi
  have e0 : (gd [D.int (i : Int)] 0).i.toNat = i := by simp
  have e1 : (gd [D.int (i : Int)] 0).i = i := rfl
  have g0 : (xs[i].d.fld 0) = .str xs[i].name := rfl
  have g1 : (xs[i].d.fld 1).i = xs[i].type := rfl
  have hc := zQG (apex := apex) (xs := xs) (s := xs[i].name) ha hl (hx _ (List.getElem_mem hi)).name
  rw [e0, e1, z0N hi hsm, z4E hi, z0J hi, g0, g1]
  refine z01 (by simpa using hi) (z01 (by simpa using z0B hi) (z05 hc (z0x (r := (0, [.bool (z6J apex xs xs[i])])) ?_ (sel0 (by cases z6J apex xs xs[i] <;> simp)))))
  unfold z6J
  cases zF8 apex xs xs[i].name with
  | none => exact z00 (by simp [z8w, D.fld]) rfl
  | some c =>
    refine z01 rfl ?_
    by_cases h1 : xs[i].type = 1
    ·exact z00 (by simp [h1]) (by simp [h1])
    ·refine z01 (by simpa using h1) ?_
     by_cases h2 : xs[i].type = 2
     ·exact z00 (by simp [h2]) (by simp [h2, z8w, D.fld])
     ·exact z01 (by simpa using h2) (by simp [h1, h2])) (by exact z00 (by simp) rfl)
 have hall : allN xs.length (fun i => !(z6J apex xs (xs.getD i Rec.nul))) = xs.all (fun r => !(z6J apex xs r)) := z5h xs (fun r => !(z6J apex xs r)) Rec.nul
 rw [hall] at loop4
 cases c6 : xs.all (fun r => !(z6J apex xs r)) with
 | false =>
   rw [c6] at loop4
   exact ⟨6, z0K loop1 (z04 (by simp [c2]) (z0K loop2 (z0K loop3 (z02 h5 (z04 (by simp) (z0K loop4 rfl)))))), by
    constructor
    ·intro h; cases h
    ·intro h
     have : xs.all (fun r => !(z6J apex xs r)) = true := List.all_eq_true.2 fun r hr => by rw [h.s6 r hr]; rfl
     rw [c6] at this; cases this⟩
 | true =>
   rw [c6] at loop4
   refine ⟨0, z0K loop1 (z04 (by simp [c2]) (z0K loop2 (z0K loop3 (z02 h5 (z04 (by simp) (z0K loop4 rfl)))))), ?_⟩
   simp only [true_iff]
   exact ⟨s1, c2, s3, s4, c5, fun r hr => by have := List.all_eq_true.1 c6 r hr; simpa using this⟩
end Go.Proofs.YtllbponcjpcbnaaGreatDoor
namespace Go.Own
open Go
theorem Cmp.prod {α β : Type} {c : α → α → Int} {d : β → β → Int} (hc : Cmp c) (hd : Cmp d) : Cmp (fun p q : α × β => if c p.1 q.1 = 0 then d p.2 q.2 else c p.1 q.1) where
 refl := by intro x; simp [hc.refl, hd.refl]
 eq := by
  rintro ⟨a, b⟩ ⟨a', b'⟩ h
  simp only at h
  split at h
  ·rename_i h1; rw [hc.eq _ _ h1, hd.eq _ _ h]
  ·rename_i h1; exact absurd h h1
 trans := by
  rintro ⟨a, b⟩ ⟨a', b'⟩ ⟨a'', b''⟩ h1 h2
  simp only at h1 h2 ⊢
  by_cases e1 : c a a' = 0
  ·have := hc.eq _ _ e1; subst this
   rw [if_pos e1] at h1
   by_cases e2 : c a a'' = 0
   ·rw [if_pos e2] at h2 ⊢; exact hd.trans _ _ _ h1 h2
   ·rw [if_neg e2] at h2 ⊢; exact h2
  ·rw [if_neg e1] at h1
   by_cases e2 : c a' a'' = 0
   ·have := hc.eq _ _ e2; subst this
    rw [if_neg e1]; exact h1
   ·rw [if_neg e2] at h2
    have := hc.lt h1 h2 (.inl e1)
    rw [if_neg (by omega)]; omega
 anti := by
  rintro ⟨a, b⟩ ⟨a', b'⟩ h1 h2
  simp only at h1 h2 ⊢
  by_cases e1 : c a a' = 0
  ·have := hc.eq _ _ e1; subst this
   rw [if_pos e1] at h1 h2 ⊢; exact hd.anti _ _ h1 h2
  ·rw [if_neg e1] at h1
   by_cases e2 : c a' a = 0
   ·have := hc.eq _ _ e2; subst this; exact absurd e2 e1
   ·rw [if_neg e2] at h2; exact absurd (hc.anti _ _ h1 h2) e1
theorem zGG {α : Type} {p : α → Bool} {xs : List α} {i j : Nat} (hi : i < xs.length) (hji : j < i) (h1 : p xs[j] = true) (h2 : p xs[i] = true) : 2 ≤ (xs.filter p).length := by
 conv => rhs; rw [← List.take_append_drop i xs]
 rw [List.filter_append, List.length_append]
 have a : 0 < ((xs.take i).filter p).length := by
  apply List.length_pos_of_mem (a := xs[j])
  rw [List.mem_filter]
  refine ⟨?_, h1⟩
  rw [List.mem_take_iff_getElem]
  exact ⟨j, by omega, rfl⟩
 have b : 0 < ((xs.drop i).filter p).length := by
  apply List.length_pos_of_mem (a := xs[i])
  rw [List.mem_filter]
  refine ⟨?_, h2⟩
  exact List.mem_drop_iff_getElem.2 ⟨0, by omega, by simp⟩
 omega
theorem zMM {α : Type} {p : α → Bool} {xs : List α} {i : Nat} (hi : i < xs.length) (h : ∀ j (hj : j < xs.length), j ≠ i → p xs[j] = false) : (xs.filter p).length ≤ 1 := by
 have e : xs = xs.take i ++ xs[i] :: xs.drop (i + 1) := by rw [← List.drop_eq_getElem_cons hi, List.take_append_drop]
 have a : (xs.take i).filter p = [] := by
  rw [List.filter_eq_nil_iff]
  intro x hx
  rw [List.mem_take_iff_getElem] at hx
  obtain ⟨j, hj, rfl⟩ := hx
  rw [h j (by omega) (by omega)]; simp
 have b : (xs.drop (i + 1)).filter p = [] := by
  rw [List.filter_eq_nil_iff]
  intro x hx
  rw [List.mem_drop_iff_getElem] at hx
  obtain ⟨j, hj, rfl⟩ := hx
  rw [h (i + 1 + j) (by omega) (by omega)]; simp
 rw [e, List.filter_append, List.filter_cons, a, b]
 split <;> simp
end Go.Own
namespace Go.Proofs.YtllbponcjpcbnaaGreatDoor
open Go Go.Own
def zNj (b : UInt8) : List (List UInt8) → List UInt8
 | [] => []
 | [p] => p
 | p :: q :: ps => p ++ b :: zNj b (q :: ps)
theorem z6t (b : UInt8) : ∀ s : List UInt8, zNj b (splB b s) = s
 | [] => rfl
 | c :: s => by
   have ih := z6t b s
   unfold splB
   split
   ·rename_i h
    subst h
    cases hq : splB c s with
    | nil => exact absurd hq (z8I c s)
    | cons q ps => rw [hq] at ih; simp only [zNj, List.nil_append]; rw [ih]
   ·split
    ·rename_i p ps hq
     rw [hq] at ih
     cases ps with
     | nil => simp only [zNj] at ih ⊢; rw [ih]
     | cons q ps => simp only [zNj, List.cons_append] at ih ⊢; rw [ih]
    ·rename_i hq
     exact absurd hq (z8I b s)
theorem zEO {a b : List UInt8} (h : z1X a = z1X b) : a = b := by
 unfold z1X at h
 by_cases ha : a = []
 ·subst ha
  by_cases hb : b = []
  ·exact hb.symm
  ·have : b.isEmpty = false := by cases b <;> simp_all
   rw [this] at h
   simp only [List.isEmpty_nil, if_true, Bool.false_eq_true, if_false] at h
   exact absurd h.symm (z8I 46 b)
 ·have ea : a.isEmpty = false := by cases a <;> simp_all
  rw [ea] at h
  by_cases hb : b = []
  ·subst hb
   simp only [List.isEmpty_nil, if_true, Bool.false_eq_true, if_false] at h
   exact absurd h (z8I 46 a)
  ·have eb : b.isEmpty = false := by cases b <;> simp_all
   rw [eb] at h
   simp only [Bool.false_eq_true, if_false] at h
   rw [← z6t 46 a, h, z6t]
theorem zLE : Cmp cmpN where
 refl := fun x => zCj.refl _
 eq := fun x y h => zEO (List.reverse_inj.1 (zCj.eq _ _ h))
 trans := fun x y z => zCj.trans _ _ _
 anti := fun x y => zCj.anti _ _
def cmpP (p q : List UInt8 × Int) : Int := if cmpN p.1 q.1 = 0 then intC p.2 q.2 else cmpN p.1 q.1
theorem z6X : Cmp cmpP := zLE.prod z4s
def Rec.key (r : Rec) : List UInt8 × Int := (r.name, r.type)
theorem z6G (a b : Rec) : cmpK a b = cmpP a.key b.key := orL2 _ _
theorem zQl {a b : Rec} (h : cmpR a b < 0) : cmpK a b ≤ 0 := by
 unfold cmpR at h
 rw [orL3] at h
 split at h <;> omega
theorem zIH (a : Rec) : cmpR a a = 0 := by
 unfold cmpR
 rw [orL3, z6G, z6X.refl, if_pos rfl, zCi.refl, if_pos rfl, z4s.refl]
theorem zHr {x r : Rec} : D.beq x.d r.d = true ↔ x = r := by
 obtain ⟨a, b, c, d⟩ := x
 obtain ⟨a', b', c', d'⟩ := r
 simp [Rec.d, D.beq]
structure Rises (xs : List Rec) : Prop where
 ok : ∀ r ∈ xs, r.ok = true
 up : ∀ i (h : i + 1 < xs.length), cmpR xs[i] xs[i + 1] < 0
theorem zHt {xs : List Rec} (h : z6h xs = true) : Rises xs := by
 have h' := z1s.1 h
 constructor
 ·intro r hr
  obtain ⟨i, hi, rfl⟩ := List.getElem_of_mem hr
  have := h' i hi
  unfold upAt at this
  simp only [Bool.and_eq_true, z0J hi] at this
  exact this.1
 ·intro i hi
  have := h' (i + 1) hi
  unfold upAt at this
  simp only [Bool.and_eq_true, z0J hi, Nat.add_sub_cancel, z0J (show i < xs.length by omega), Bool.or_eq_true, beq_iff_eq, decide_eq_true_eq] at this
  rcases this.2 with h1 | h1
  ·omega
  ·exact h1
theorem Rises.le {xs : List Rec} (h : Rises xs) {i : Nat} (hi : i < xs.length) : ∀ (m : Nat) (hm : i + m < xs.length), cmpP xs[i].key xs[i + m].key ≤ 0
 | 0, hm => by rw [show cmpP xs[i].key xs[i + 0].key = 0 from z6X.refl _]; omega
 | m + 1, hm => by
   have h1 := h.le hi m (by omega)
   have h2 := zQl (h.up (i + m) (by omega))
   rw [z6G] at h2
   exact z6X.trans _ _ _ h1 h2
theorem Rises.between {xs : List Rec} (h : Rises xs) {i m n : Nat} (hn : i + (m + n) < xs.length) (he : xs[i].key = xs[i + (m + n)].key) : xs[i].key = xs[i + m].key := by
 have h1 := h.le (i := i) (by omega) m (by omega)
 have h2 := h.le (i := i + m) (by omega) n (by omega)
 have e : xs[i + m + n] = xs[i + (m + n)] := by congr 1; omega
 rw [e, ← he] at h2
 exact z6X.eq _ _ (z6X.anti _ _ h1 h2)
theorem Rises.ttl {xs : List Rec} (h : Rises xs) (h3 : ∀ i, i < xs.length → z6V xs i = false) {i : Nat} : ∀ (m : Nat) (hm : i + m < xs.length), xs[i].key = xs[i + m].key → xs[i].ttl = xs[i + m].ttl
 | 0, hm, _ => rfl
 | m + 1, hm, he => by
   have hb := h.between (i := i) (m := m) (n := 1) hm he
   have ih := h.ttl h3 m (by omega) hb
   have ha := h3 (i + (m + 1)) hm
   have hi0 : i + (m + 1) - 1 = i + m := by omega
   unfold z6V at ha
   rw [z0J hm, hi0, z0J (show i + m < xs.length by omega)] at ha
   have hk : xs[i + m].key = xs[i + (m + 1)].key := hb.symm.trans he
   have hk1 : xs[i + m].name = xs[i + (m + 1)].name := congrArg Prod.fst hk
   have hk2 : xs[i + m].type = xs[i + (m + 1)].type := congrArg Prod.snd hk
   rw [ih]
   by_cases ht : xs[i + m].ttl = xs[i + (m + 1)].ttl
   ·exact ht
   ·simp [hk1, hk2, ht] at ha
theorem zOk {r : Rec} (h : r.ok = true) : r.type ≠ 0 := by
 intro h0
 unfold Rec.ok z3r at h
 simp [h0] at h
theorem zR9 {xs : List Rec} (h : Rises xs) : (∀ r ∈ xs, (xs.filter (isAt r.name r.type)).any (brk3 r) = false) ↔ (∀ i, i < xs.length → z6V xs i = false) := by
 constructor
 ·intro hk i hi
  unfold z6V
  by_cases h0 : 0 < i
  ·have hi1 : i - 1 < xs.length := by omega
   rw [z0J hi, z0J hi1]
   by_cases hn : xs[i - 1].name = xs[i].name
   ·by_cases ht : xs[i - 1].type = xs[i].type
    ·have := hk xs[i - 1] (List.getElem_mem hi1)
     rw [List.any_eq_false] at this
     have hb := this xs[i] (by
      rw [List.mem_filter]
      exact ⟨List.getElem_mem hi, by unfold isAt; simp [hn, ht]⟩)
     unfold brk3 at hb
     simp only [Bool.or_eq_true, Bool.and_eq_true, not_or, not_and] at hb
     obtain ⟨hb1, hb2⟩ := hb
     have e1 : xs[i].ttl = xs[i - 1].ttl := by simpa using hb1
     by_cases hd : xs[i - 1].data = xs[i].data
     ·have := hb2 (by simp [hd])
      have hx : D.beq xs[i].d xs[i - 1].d = true := by simpa using this
      have heq := zHr.1 hx
      have hup := h.up (i - 1) (by omega)
      have e : xs[i - 1 + 1]'(by omega) = xs[i] := by congr 1; omega
      rw [e, heq, zIH] at hup
      omega
     ·simp [e1, hd]
    ·simp [ht]
   ·simp [hn]
  ·have : decide (0 < i) = false := decide_eq_false h0
   rw [this]; rfl
 ·intro h3 r hr
  rw [List.any_eq_false]
  intro x hx
  rw [List.mem_filter] at hx
  obtain ⟨hx, hat⟩ := hx
  unfold isAt at hat
  simp only [Bool.and_eq_true, beq_iff_eq, Bool.or_eq_true] at hat
  have htp : x.type = r.type := by
   rcases hat.2 with h1 | h1
   ·exact absurd h1 (zOk (h.ok r hr))
   ·exact h1
  have hkey : x.key = r.key := by unfold Rec.key; rw [hat.1, htp]
  have httl : x.ttl = r.ttl := by
   obtain ⟨i, hi, rfl⟩ := List.getElem_of_mem hx
   obtain ⟨j, hj, rfl⟩ := List.getElem_of_mem hr
   rcases Nat.le_total i j with hij | hij
   ·obtain ⟨m, rfl⟩ := Nat.exists_eq_add_of_le hij
    exact h.ttl h3 m hj hkey
   ·obtain ⟨m, rfl⟩ := Nat.exists_eq_add_of_le hij
    exact (h.ttl h3 m hi hkey.symm).symm
  unfold brk3
  by_cases hd : x.data = r.data
  ·have : x = r := by
    obtain ⟨a, b, c, d⟩ := x
    obtain ⟨a', b', c', d'⟩ := r
    simp only at hat htp httl hd
    rw [hat.1, htp, httl, hd]
   have := zHr.2 this
   simp [httl, this]
  ·simp [httl, hd]
def zBi (apex : List UInt8) (r : Rec) : Bool := r.type == 6 && !(r.name == apex)
theorem zOT (apex : List UInt8) : ∀ xs : List Rec, soaS apex xs = ((xs.filter (isAt apex 6)).length : Int) + 2 * ((xs.filter (zBi apex)).length : Int)
 | [] => rfl
 | r :: xs => by
   have ih := zOT apex xs
   rw [soaS, ih, List.filter_cons, List.filter_cons]
   unfold soaW zBi isAt
   by_cases h6 : r.type = 6
   ·by_cases hn : r.name = apex
    ·simp [h6, hn]; omega
    ·simp [h6, hn]; omega
   ·simp [h6]
theorem zPX {apex : List UInt8} {xs : List Rec} : (xs.any (zBi apex) = false ∧ (xs.filter (isAt apex 6)).length = 1) ↔ soaS apex xs = 1 := by
 rw [zOT]
 constructor
 ·rintro ⟨h1, h2⟩
  have : xs.filter (zBi apex) = [] := by
   rw [List.filter_eq_nil_iff]
   rw [List.any_eq_false] at h1
   exact h1
  rw [this, h2]; rfl
 ·intro h
  have h0 : (xs.filter (zBi apex)).length = 0 := by omega
  refine ⟨?_, by omega⟩
  rw [List.any_eq_false]
  exact List.filter_eq_nil_iff.1 (List.length_eq_zero_iff.1 h0)
theorem zRA {xs : List Rec} : (∀ r ∈ xs, r.type = 5 → (xs.filter (isAt r.name 0)).length ≤ 1) ↔ (∀ i, i < xs.length → ∀ j, j < i → z8a (xs.getD j Rec.nul) (xs.getD i Rec.nul) = false) := by
 constructor
 ·intro h i hi j hj
  have hjl : j < xs.length := by omega
  rw [z0J hi, z0J hjl]
  unfold z8a
  by_cases hn : xs[j].name = xs[i].name
  ·by_cases h1 : xs[j].type = 5
   ·have := h _ (List.getElem_mem hjl) h1
    have := zGG (p := isAt xs[j].name 0) hi hj (by simp [isAt]) (by simp [isAt, hn])
    omega
   ·by_cases h2 : xs[i].type = 5
    ·have := h _ (List.getElem_mem hi) h2
     have := zGG (p := isAt xs[i].name 0) hi hj (by simp [isAt, hn]) (by simp [isAt])
     omega
    ·simp [h1, h2]
  ·simp [hn]
 ·intro h r hr h5
  obtain ⟨i, hi, rfl⟩ := List.getElem_of_mem hr
  refine zMM hi fun j hj hne => ?_
  unfold isAt
  by_cases hn : xs[j].name = xs[i].name
  ·exfalso
   rcases Nat.lt_or_ge j i with hlt | hge
   ·have := h i hi j hlt
    rw [z0J hi, z0J hj] at this
    unfold z8a at this
    simp [hn, h5] at this
   ·have := h j hj i (by omega)
    rw [z0J hi, z0J hj] at this
    unfold z8a at this
    simp [hn, h5] at this
  ·simp [hn]
theorem zRB {apex : List UInt8} {xs : List Rec} (h1 : ∀ r ∈ xs, bel r.name apex = true) : ∀ r ∈ xs, xs.any (brk6 apex r) = z6J apex xs r := by
 intro r hr
 rw [Bool.eq_iff_iff, List.any_eq_true]
 constructor
 ·rintro ⟨c, hc, hb⟩
  unfold brk6 at hb
  simp only [Bool.and_eq_true, beq_iff_eq, Bool.not_eq_true', bne_iff_ne, ne_eq] at hb
  obtain ⟨⟨hct, hca, hcb⟩, hrt, hrn⟩ := hb
  have hca' : c.name ≠ apex := by simpa using hca
  obtain ⟨x, hx, hup⟩ := zOl (m := fun n => z5a xs n 2) (c := c.name) (apex := apex) (by
   unfold z5a; rw [List.any_eq_true]; exact ⟨c, hc, by simp [hct]⟩) hca' (h1 c hc) (z8v.1 hcb) (r.name.length + 1) none (by omega)
  unfold z6J zF8
  rw [hx]
  simp only [Bool.and_eq_true, bne_iff_ne, ne_eq, Bool.or_eq_true, Bool.not_eq_true']
  refine ⟨hrt, ?_⟩
  by_cases h2 : r.type = 2
  ·right
   have hne : r.name ≠ c.name := by simpa [h2] using hrn
   have : r.name ≠ x := by
    rintro rfl
    exact hne (Up.anti (z8v.1 hcb) hup)
   simpa using this
  ·exact .inl h2
 ·intro hb
  unfold z6J zF8 at hb
  split at hb
  ·cases hb
  rename_i x hx
  simp only [Bool.and_eq_true, bne_iff_ne, ne_eq, Bool.or_eq_true, Bool.not_eq_true'] at hb
  obtain ⟨hm, hup, hne, hbl⟩ := zGe (s0 := r.name) (r.name.length + 1) r.name none (.refl _) (fun x h => by cases h) x hx
  unfold z5a at hm
  rw [List.any_eq_true] at hm
  obtain ⟨c, hc, hcc⟩ := hm
  simp only [Bool.and_eq_true, beq_iff_eq] at hcc
  obtain ⟨rfl, hct⟩ := hcc
  refine ⟨c, hc, ?_⟩
  unfold brk6
  have hbr := z8v.2 hup
  simp only [hct, hbr, Bool.and_eq_true, beq_iff_eq, Bool.not_eq_true', bne_iff_ne, ne_eq]
  refine ⟨⟨trivial, by simpa using hne, trivial⟩, hb.1, ?_⟩
  rcases hb.2 with h2 | h2
  ·simp [h2]
  ·simp only [beq_eq_false_iff_ne, ne_eq] at h2; simp [h2]
theorem zCr {apex : List UInt8} {xs : List Rec} (h : Rises xs) : (∀ k, 1 ≤ k → k ≤ 6 → zHL apex xs k = true) ↔ RuleS apex xs := by
 have hb : ∀ k, zHL apex xs k = true ↔ (∀ r ∈ xs, brk apex xs r k = false) ∧ (k = 2 → (xs.filter (isAt apex 6)).length = 1) := by
  intro k
  unfold zHL
  simp only [Bool.and_eq_true, Bool.not_eq_true', List.any_eq_false, Bool.or_eq_true, decide_eq_true_eq, decide_eq_false_iff_not]
  constructor
  ·rintro ⟨h1, h2⟩
   exact ⟨fun r hr => by simpa using h1 r hr, fun e => by rcases h2 with h2 | h2; exact absurd e h2; exact h2⟩
  ·rintro ⟨h1, h2⟩
   refine ⟨fun r hr => by simp [h1 r hr], ?_⟩
   by_cases e : k = 2
   ·exact .inr (h2 e)
   ·exact .inl e
 have b1 : ∀ r, brk apex xs r 1 = !bel r.name apex := fun r => rfl
 have b2 : ∀ r, brk apex xs r 2 = zBi apex r := fun r => rfl
 have b3 : ∀ r, brk apex xs r 3 = (xs.filter (isAt r.name r.type)).any (brk3 r) := fun r => rfl
 have b4 : ∀ r, brk apex xs r 4 = (r.type == 5 && decide (1 < (xs.filter (isAt r.name 0)).length)) := fun r => rfl
 have b5 : ∀ r, brk apex xs r 5 = (r.type == 5 && r.name == apex) := fun r => rfl
 have b6 : ∀ r, brk apex xs r 6 = xs.any (brk6 apex r) := fun r => rfl
 constructor
 ·intro hk
  have k1 := ((hb 1).1 (hk 1 (by omega) (by omega))).1
  have k2 := (hb 2).1 (hk 2 (by omega) (by omega))
  have k3 := ((hb 3).1 (hk 3 (by omega) (by omega))).1
  have k4 := ((hb 4).1 (hk 4 (by omega) (by omega))).1
  have k5 := ((hb 5).1 (hk 5 (by omega) (by omega))).1
  have k6 := ((hb 6).1 (hk 6 (by omega) (by omega))).1
  have s1 : ∀ r ∈ xs, bel r.name apex = true := fun r hr => by have := k1 r hr; rw [b1] at this; simpa using this
  refine ⟨s1, ?_, (zR9 h).1 (fun r hr => by have := k3 r hr; rwa [b3] at this), ?_, ?_, ?_⟩
  ·refine zPX.1 ⟨?_, k2.2 rfl⟩
   rw [List.any_eq_false]
   intro r hr
   have := k2.1 r hr
   rw [b2] at this; simp [this]
  ·refine zRA.1 fun r hr h5 => ?_
   have := k4 r hr
   rw [b4] at this
   simp [h5] at this
   exact this
  ·unfold z5a
   rw [List.any_eq_false]
   intro r hr
   have := k5 r hr
   rw [b5] at this
   simp only [Bool.and_eq_true, beq_iff_eq, Bool.and_eq_false_iff, beq_eq_false_iff_ne, ne_eq, not_and] at this ⊢
   intro hn ht
   rcases this with h1 | h1
   ·exact h1 ht
   ·exact h1 hn
  ·intro r hr
   rw [← zRB s1 r hr]
   have := k6 r hr
   rwa [b6] at this
 ·intro hs k h1 h6
  rw [hb]
  have e2 := zPX.2 hs.s2
  match k, h1, h6 with
  | 1, _, _ => exact ⟨fun r hr => by rw [b1, hs.s1 r hr]; rfl, by omega⟩
  | 2, _, _ =>
    refine ⟨fun r hr => ?_, fun _ => e2.2⟩
    rw [b2]
    have := e2.1
    rw [List.any_eq_false] at this
    simpa using this r hr
  | 3, _, _ => exact ⟨fun r hr => by rw [b3]; exact (zR9 h).2 hs.s3 r hr, by omega⟩
  | 4, _, _ =>
    refine ⟨fun r hr => ?_, by omega⟩
    rw [b4]
    by_cases h5 : r.type = 5
    ·have := zRA.2 hs.s4 r hr h5
     simp [h5]; exact this
    ·simp [h5]
  | 5, _, _ =>
    refine ⟨fun r hr => ?_, by omega⟩
    rw [b5]
    have := hs.s5
    unfold z5a at this
    rw [List.any_eq_false] at this
    have := this r hr
    simp only [Bool.and_eq_true, beq_iff_eq, not_and] at this
    by_cases h5 : r.type = 5
    ·by_cases hn : r.name = apex
     ·exact absurd h5 (this hn)
     ·simp [hn]
    ·simp [h5]
  | 6, _, _ =>
    refine ⟨fun r hr => ?_, by omega⟩
    rw [b6, zRB hs.s1 r hr]
    exact hs.s6 r hr
end Go.Proofs.YtllbponcjpcbnaaGreatDoor
namespace Go.Proofs.YtllbponcjpcbnaaGreatDoor
open Go Go.Own
structure Zn where
 apex : List UInt8
 counter : Int
 recs : List Rec
def Zn.d (z : Zn) : D := .pair (.str z.apex) (.pair (.int z.counter) (.pair (.lst (z.recs.map Rec.d)) .unit))
structure Zn.In (B : Nat) (z : Zn) : Prop where
 apex : z.apex.length ≤ B
 len : z.recs.length ≤ B
 all : ∀ r ∈ z.recs, r.In B
structure Zn.Good (z : Zn) : Prop where
 cnt : inP z.counter 0 1152921504606846976 = true
 apx : z6L z.apex = true
 n40 : z.recs.length ≤ 40
 ris : z6h z.recs = true
 rul : RuleS z.apex z.recs
 soa : ∀ r ∈ z.recs, r.type = 6 → r.data = Lib.itoa (z.counter % 4294967296)
open Classical in
noncomputable def Zn.good (z : Zn) : Bool := decide z.Good
open Classical in
theorem Zn.good_iff {z : Zn} : z.good = true ↔ z.Good := by unfold Zn.good; exact decide_eq_true_iff
theorem zLv {c : Int} (h : inP c 0 1152921504606846976 = true) : c.tmod 4294967296 = c % 4294967296 ∧ 0 ≤ c % 4294967296 ∧ c % 4294967296 < 10 ^ 18 := by
 have hp18 : (10 : Int) ^ 18 = 1000000000000000000 := by decide
 simp only [inP, Bool.and_eq_true, decide_eq_true_eq] at h
 refine ⟨Int.tmod_eq_emod_of_nonneg h.1, by omega, by omega⟩
theorem zBY {c : Int} (h : inP c 0 1152921504606846976 = true) : z29.F [.int c] = some (.str (Lib.itoa (c % 4294967296))) := by
 obtain ⟨h1, h2, h3⟩ := zLv h
 rw [zBG]
 refine z0U rfl ?_
 rw [D.i_int, h1]
 exact z02 (zNU h2 h3) rfl
theorem zNX {z : Zn} (h : inP z.counter 0 1152921504606846976 = true) : z3f.F [z.d] = some (.str (Lib.itoa (z.counter % 4294967296))) := by
 obtain ⟨h1, h2, h3⟩ := zLv h
 rw [zJT]
 refine z0U rfl ?_
 have f1 : (z.d.fld 1).i = z.counter := rfl
 rw [f1, h1]
 exact z02 (zRI h2 h3) rfl
theorem zKO (c : Int) : z3t.F [.int c] = some (.bool (inP c 0 1152921504606846976)) := by
 rw [zCU]
 exact z02 (z7j c 0 1152921504606846976) rfl
theorem z9Y {apex : List UInt8} {xs : List Rec} : zFZ apex xs = true ↔ z6L apex = true ∧ xs.length ≤ 40 ∧ z6h xs = true := by
 unfold zFZ; simp
theorem zQc {apex : List UInt8} {xs : List Rec} (h : RuleS apex xs) : ∃ r, r ∈ xs ∧ xs.filter (isAt apex 6) = [r] ∧ r.type = 6 ∧ r.name = apex ∧ ∀ x ∈ xs, x.type = 6 → x = r := by
 have h2 := zPX.2 h.s2
 obtain ⟨r, hr⟩ := List.length_eq_one_iff.1 h2.2
 have hm : r ∈ xs.filter (isAt apex 6) := by rw [hr]; simp
 rw [List.mem_filter] at hm
 have hat := hm.2
 unfold isAt at hat
 simp at hat
 refine ⟨r, hm.1, hr, hat.2, hat.1, fun x hx h6 => ?_⟩
 have hoff := h2.1
 rw [List.any_eq_false] at hoff
 have hxo := hoff x hx
 unfold zBi at hxo
 have hxn : x.name = apex := by simpa [h6] using hxo
 have : x ∈ xs.filter (isAt apex 6) := by
  rw [List.mem_filter]; exact ⟨hx, by unfold isAt; simp [hxn, h6]⟩
 rw [hr] at this
 simpa using this
theorem zM4 {z : Zn} (hz : z.In lim) : z4I.F [z.d] = some (.bool z.good) := by
 rw [zER]
 have f0 : z.d.fld 0 = .str z.apex := rfl
 have f1 : z.d.fld 1 = .int z.counter := rfl
 have f2 : z.d.fld 2 = .lst (z.recs.map Rec.d) := rfl
 rw [f0, f1, f2]
 refine z06 (l := [.bool z.good]) ?_ rfl
 have hc := zKO z.counter
 obtain ⟨n, hn, hnz⟩ := zLI hz.apex hz.len hz.all
 cases k1 : inP z.counter 0 1152921504606846976 with
 | false =>
   rw [k1] at hc
   have : z.good = false := by
    cases hg : z.good with
    | false => rfl
    | true => have := (Zn.good_iff.1 hg).cnt; rw [k1] at this; cases this
   rw [this]
   exact z05 hc (z00 (by simp) rfl)
 | true =>
   rw [k1] at hc
   refine z05 hc (z01 rfl (z05 hn ?_))
   by_cases h0 : n = 0
   ·refine z01 (by simp [h0]) ?_
    obtain ⟨hw, hk⟩ := hnz.1 h0
    rw [z9Y] at hw
    have hR := (zCr (apex := z.apex) (zHt hw.2.2)).1 hk
    obtain ⟨r, hr, hf, h6, hna, huniq⟩ := zQc hR
    have hat := f_at (xs := z.recs) (n := z.apex) (k := 6) hz.len
    rw [hf] at hat
    refine z05 hat (z01 rfl (z05 (zBY k1) ?_))
    have : z.good = (r.data == Lib.itoa (z.counter % 4294967296)) := by
     rw [Bool.eq_iff_iff, Zn.good_iff, beq_iff_eq]
     constructor
     ·intro hg; exact hg.soa r hr h6
     ·intro hd
      exact ⟨k1, hw.1, hw.2.1, hw.2.2, hR, fun x hx hx6 => by rw [huniq x hx hx6]; exact hd⟩
    rw [this]; rfl
   ·refine z00 (by simpa using h0) ?_
    have : z.good = false := by
     cases hg : z.good with
     | false => rfl
     | true =>
       have hG := Zn.good_iff.1 hg
       exact absurd (hnz.2 ⟨z9Y.2 ⟨hG.apx, hG.n40, hG.ris⟩, (zCr (zHt hG.ris)).2 hG.rul⟩) h0
    rw [this]
theorem zIf {apex : List UInt8} {xs : List Rec} (ha : apex.length ≤ lim) (hl : xs.length ≤ lim) (hx : ∀ x ∈ xs, x.In lim) :
 ∃ n : Int, z5I.F [.str apex, .lst (xs.map Rec.d)] = some (.int n) ∧ (n = 0 ↔ zFZ apex xs = true ∧ RuleS apex xs) := by
 rw [zHj]
 have h1 := zLL ha
 have h2 := zP8 hl hx
 obtain ⟨n, hn, hnz⟩ := zLM ha hl hx
 cases k1 : z6L apex with
 | false =>
   rw [k1] at h1
   refine ⟨9, z06 (l := [.bool true]) (z05 h1 (z01 rfl rfl)) (z0U rfl rfl), ?_⟩
   constructor
   ·intro h; cases h
   ·intro h; have := (z9Y.1 h.1).1; rw [k1] at this; cases this
 | true =>
   rw [k1] at h1
   cases k2 : (z6h xs && decide (xs.length ≤ 40)) with
   | false =>
     rw [k2] at h2
     refine ⟨9, z06 (l := [.bool true]) (z05 h1 (z00 (by simp) (z05 h2 rfl))) (z0U rfl rfl), ?_⟩
     constructor
     ·intro h; cases h
     ·intro h
      have := z9Y.1 h.1
      rw [this.2.2] at k2; simp at k2; omega
   | true =>
     rw [k2] at h2
     refine ⟨n, z06 (l := [.bool false]) (z05 h1 (z00 (by simp) (z05 h2 rfl))) (z04 (by simp) (z02 hn rfl)), ?_⟩
     rw [hnz]
     simp only [Bool.and_eq_true, decide_eq_true_eq] at k2
     exact ⟨fun h => ⟨z9Y.2 ⟨k1, k2.2, k2.1⟩, h⟩, fun h => h.2⟩
theorem zFE {z : Zn} (hz : z.In lim) : z4R.F [z.d] = some (.bool z.good) := by
 rw [zEm]
 have f0 : z.d.fld 0 = .str z.apex := rfl
 have f1 : z.d.fld 1 = .int z.counter := rfl
 have f2 : z.d.fld 2 = .lst (z.recs.map Rec.d) := rfl
 have hll : (D.lst (z.recs.map Rec.d)).l = z.recs.map Rec.d := rfl
 rw [f0, f1, f2]
 simp only [hll, List.length_map]
 have hsm := Nat.le_trans hz.len z1A
 have hc := zD4 z.counter 0 1152921504606846976
 obtain ⟨n, hn, hnz⟩ := zIf hz.apex hz.len hz.all
 cases k1 : inP z.counter 0 1152921504606846976 with
 | false =>
   rw [k1] at hc
   have : z.good = false := by
    cases hg : z.good with
    | false => rfl
    | true => have := (Zn.good_iff.1 hg).cnt; rw [k1] at this; cases this
   rw [this]
   exact z06 (l := [.bool true]) (z05 hc (z01 rfl rfl)) (z0U rfl rfl)
 | true =>
   rw [k1] at hc
   by_cases h0 : n = 0
   ·obtain ⟨hw, hR⟩ := hnz.1 h0
    rw [z9Y] at hw
    have hs := zNX (z := z) k1
    have hloop := z3a (f := fun l2 =>
     if (decide ((gd l2 0).i < (z.recs.length : Int))) then
      if (inb (gd l2 0).i z.recs.length) then
      (if (((gd (z.recs.map Rec.d) (gd l2 0).i.toNat).fld 1).i == 6) then
          (z3f.F [z.d]).bind fun r3 =>
          ou 0 [(.bool (!(((gd (z.recs.map Rec.d) (gd l2 0).i.toNat).fld 3).s == r3.s)))]
        else
         ou 0 [(.bool false)]).bind fun o3 =>
      sel2 o3.1 (if (gd o3.2 0).b then
       ou 1 [(.bool false)]
       else
        ou 0 [(.int (IntKind.wrap .i64 ((gd l2 0).i + 1)))]) fun _ => none
      else none
     else
      ou 2 []) (l := [.int 0]) (fun i => [.int i]) z.recs.length (fun i => !((z.recs.getD i Rec.nul).type == 6 && !((z.recs.getD i Rec.nul).data == Lib.itoa (z.counter % 4294967296)))) (t1 := 0) (t2 := 1) (o1 := [.bool false]) (o2 := []) rfl (by
     intro i hi
     have e0 : (gd [D.int (i : Int)] 0).i.toNat = i := by simp
     have e1 : (gd [D.int (i : Int)] 0).i = i := rfl
     have g1 : (z.recs[i].d.fld 1).i = z.recs[i].type := rfl
     have g3 : (z.recs[i].d.fld 3).s = z.recs[i].data := rfl
     rw [e0, e1, z0N hi hsm, z4E hi, z0J hi, g1, g3]
     refine z01 (by simpa using hi) (z01 (by simpa using z0B hi) (z0x (r := (0, [.bool (z.recs[i].type == 6 && !(z.recs[i].data == Lib.itoa (z.counter % 4294967296)))])) ?_ (sel0 ?_)))
     ·by_cases h6 : z.recs[i].type = 6
      ·exact z01 (by simpa using h6) (z05 hs (by simp [h6]))
      ·exact z00 (by simpa using h6) (by simp [h6])
     ·cases (z.recs[i].type == 6 && !(z.recs[i].data == Lib.itoa (z.counter % 4294967296))) <;> simp) (by exact z00 (by simp) rfl)
    have hall : allN z.recs.length (fun i => !((z.recs.getD i Rec.nul).type == 6 && !((z.recs.getD i Rec.nul).data == Lib.itoa (z.counter % 4294967296)))) = z.good := by
     rw [z5h z.recs (fun r => !(r.type == 6 && !(r.data == Lib.itoa (z.counter % 4294967296)))) Rec.nul, Bool.eq_iff_iff, Zn.good_iff, List.all_eq_true]
     constructor
     ·intro h
      refine ⟨k1, hw.1, hw.2.1, hw.2.2, hR, fun r hr h6 => ?_⟩
      have := h r hr
      simpa [h6] using this
     ·intro h r hr
      by_cases h6 : r.type = 6
      ·simp [h6, h.soa r hr h6]
      ·simp [h6]
    rw [hall] at hloop
    refine z06 (l := [.bool false]) (z05 hc (z00 (by simp) (z05 hn (by simp [h0])))) (z04 (by simp) (z0K hloop ?_))
    cases z.good <;> rfl
   ·have : z.good = false := by
     cases hg : z.good with
     | false => rfl
     | true =>
       have hG := Zn.good_iff.1 hg
       exact absurd (hnz.2 ⟨z9Y.2 ⟨hG.apx, hG.n40, hG.ris⟩, hG.rul⟩) h0
    rw [this]
    refine z06 (l := [.bool true]) (z05 hc (z00 (by simp) (z05 hn ?_))) (z0U rfl rfl)
    simp only [zRL, D.i_int]
    have : (n != 0) = true := by simpa using h0
    rw [this]
def zGb (apex : List UInt8) : Rec := ⟨apex, 6, 60, [48]⟩
def newZ (apex : List UInt8) : Zn := ⟨apex, 0, [zGb apex]⟩
theorem zJ8 {apex : List UInt8} : (newZ apex).good = z6L apex := by
 rw [Bool.eq_iff_iff, Zn.good_iff]
 constructor
 ·intro h; exact h.apx
 ·intro h
  have hn : z16 apex = true := by unfold z6L at h; simp only [Bool.and_eq_true] at h; exact h.1
  have hok : (zGb apex).ok = true := by
   have h1 : z3r 6 [48] = true := by decide
   unfold Rec.ok
   show (z3r 6 [48] && (z16 apex && inP 60 0 100000)) = true
   rw [h1, hn]; rfl
  refine ⟨show inP 0 0 1152921504606846976 = true from rfl, h, by simp [newZ], ?_, ?_, ?_⟩
  ·unfold z6h
   rw [z1s]
   intro i hi
   have : i = 0 := by simp [newZ] at hi; exact hi
   subst this
   unfold upAt
   show ((zGb apex).ok && _) = true
   rw [hok]; rfl
  ·have hb : bel apex apex = true := z8v.2 (.refl _)
   refine ⟨?_, ?_, ?_, ?_, ?_, ?_⟩
   ·intro r hr
    simp only [newZ, List.mem_singleton] at hr
    subst hr; exact hb
   ·simp [newZ, soaS, soaW, zGb]
   ·intro i hi
    have : i = 0 := by simp [newZ] at hi; exact hi
    subst this; rfl
   ·intro i hi j hj
    have : i = 0 := by simp [newZ] at hi; exact hi
    omega
   ·simp [newZ, z5a, zGb]
   ·intro r hr
    simp only [newZ, List.mem_singleton] at hr
    subst hr
    unfold z6J zF8
    show (match z6m apex _ (apex.length + 1) apex none with | none => false | some c => _) = false
    unfold z6m
    rw [if_neg (by simp)]
  ·intro r hr _
   simp only [newZ, List.mem_singleton] at hr
   subst hr
   show [48] = Lib.itoa ((0 : Nat) : Int)
   rw [z9q, Lib.decDigits_one (by omega)]; rfl
def zNul : D := .pair (.str []) (.pair (.int 0) (.pair (D.lst []) .unit))
def zMg (apex : List UInt8) : D := if z6L apex = true then .pair (newZ apex).d (.pair (.bool true) .unit) else .pair zNul (.pair (.bool false) .unit)
theorem zNz {apex : List UInt8} (h : apex.length ≤ lim) : (newZ apex).In lim := by
 have hlim : lim = 1048576 := rfl
 refine ⟨h, by simp [newZ]; omega, ?_⟩
 intro r hr
 simp only [newZ, List.mem_singleton] at hr
 subst hr
 exact ⟨h, by simp [zGb]; omega⟩
theorem zNL {apex : List UInt8} (h : apex.length ≤ lim) : z4e.F [.str apex] = some (zMg apex) := by
 rw [zFo]
 have hg := zM4 (zNz h)
 rw [zJ8] at hg
 refine z02 hg ?_
 unfold zMg
 cases z6L apex with
 | false => exact z0U rfl rfl
 | true => exact z04 (by simp) rfl
theorem zGv {apex : List UInt8} (h : apex.length ≤ lim) : z4k.F [.str apex] = some (zMg apex) := by
 rw [zG0]
 refine z02 (zLL h) ?_
 unfold zMg
 cases z6L apex with
 | false => exact z0U rfl rfl
 | true => exact z04 (by simp) rfl
end Go.Proofs.YtllbponcjpcbnaaGreatDoor
namespace Go.Own
variable [Glb]
open Go
theorem zKq {α : Type} {g : α → D} {c : Prop} [Decidable c] {a b : Outc} (h : ¬ c) (hk : ∃ s, rn b = some (g s)) : ∃ s, rn (if c then a else b) = some (g s) := by rw [if_neg h]; exact hk
theorem zIN {f : List D → Outc} {c : Nat × List D → Outc} {k : Int} (h0 : 0 ≤ k) (h1 : k < 10 ^ 18)
 (hs : ∀ (n : Int) (s : List UInt8), 0 < n → n < 10 ^ 18 → s.length ≤ 30 → ∃ c : List UInt8, c.length = 1 ∧ f [.int n, .str s] = some (0, [.int (n.tdiv 10), .str (c ++ s)]))
 (he : ∀ (n : Int) (s : List UInt8), n ≤ 0 → f [.int n, .str s] = some (1, [.str s])) (hc : ∀ s : List UInt8, s.length ≤ 30 → ∃ s', rn (c (0, [.str s])) = some (.str s')) :
 ∃ s, rn ((z0a f [.int k, .str []]).bind c) = some (.str s) := by
 have key : ∀ (fuel : Nat), fuel ≤ 18 → ∀ (n : Int) (s : List UInt8), 0 ≤ n → n < 10 ^ fuel → s.length + fuel ≤ 30 → ∃ s', z0a f [.int n, .str s] = some (0, [.str s']) ∧ s'.length ≤ 30 := by
  intro fuel
  induction fuel with
  | zero =>
    intro _ n s h0 h1 h2
    exact ⟨s, z11 (he n s (by simp at h1; omega)), by omega⟩
  | succ m ih =>
    intro hm n s h0 h1 h2
    by_cases hn : n ≤ 0
    ·exact ⟨s, z11 (he n s hn), by omega⟩
    ·have hp : (10 : Int) ^ (m + 1) = 10 ^ m * 10 := Int.pow_succ 10 m
     have hp2 : (10 : Int) ^ (m + 1) ≤ 10 ^ 18 := by
      have := Nat.pow_le_pow_right (n := 10) (by omega) hm
      exact_mod_cast this
     obtain ⟨c, hc, hstep⟩ := hs n s (by omega) (by omega) (by omega)
     rw [z1Y hstep]
     have h3 : n.tdiv 10 = n / 10 := Int.tdiv_eq_ediv_of_nonneg (by omega)
     refine ih (by omega) (n.tdiv 10) (c ++ s) (by omega) ?_ (by simp; omega)
     rw [h3]
     omega
 obtain ⟨s, h2, h3⟩ := key 18 (Nat.le_refl _) k [] h0 h1 (by simp)
 rw [h2]
 exact hc s h3
end Go.Own
namespace Go.Proofs.YtllbponcjpcbnaaGreatDoor
open Go Go.Own
abbrev tRec : T := .pair .str (.pair (.int .i64) (.pair (.int .i64) (.pair .str .unit)))
theorem zBg : (10 : Int) ^ 18 = 1000000000000000000 := by decide
theorem zR8 {B : Nat} {d : D} (h : Sm B tRec d) : ∃ x : Rec, d = x.d ∧ x.In B := by
 obtain ⟨_, _, rfl, ⟨s, rfl, hs⟩, _, _, rfl, ⟨n, rfl, _⟩, _, _, rfl, ⟨m, rfl, _⟩, _, _, rfl, ⟨t, rfl, ht⟩, rfl⟩ := h
 exact ⟨⟨s, n, m, t⟩, rfl, hs, ht⟩
theorem zKe {α : Type} {g : α → D} {Q : α → Prop} : ∀ {xs : List D}, (∀ x ∈ xs, ∃ y : α, x = g y ∧ Q y) → ∃ ys : List α, xs = ys.map g ∧ ∀ y ∈ ys, Q y
 | [], _ => ⟨[], rfl, by simp⟩
 | x :: xs, h => by
   obtain ⟨y, rfl, hy⟩ := h x (by simp)
   obtain ⟨ys, rfl, hys⟩ := zKe (xs := xs) (fun z hz => h z (by simp [hz]))
   exact ⟨y :: ys, rfl, by simpa using ⟨hy, hys⟩⟩
theorem zGC (x : Rec) : z2s.F [x.d, x.d] = some (.bool true) := by
 rw [zEb]; simp [Rec.d]
theorem zKM {xs : List Rec} (hl : xs.length ≤ smax) : z3v.F [.lst (xs.map Rec.d), .lst (xs.map Rec.d)] = some (.bool true) := by
 rw [zCX, if_neg (by simp)]
 refine z0K (z1R (fun i (_ : Unit) => [.int i]) xs.length (fun _ => ()) (t := 1) (o := []) rfl ?_ ?_) rfl
 ·intro i hi
  simp [hi, z4E hi, z0B hi, z0N hi hl, zGC]
 ·simp
theorem zP3 {z : Zn} (hl : z.recs.length ≤ smax) : z5H.F [z.d, z.d] = some (.bool true) := by
 rw [zHi, if_neg (by simp), if_neg (by simp)]
 exact z02 (zKM hl) rfl
theorem zMI (x : Rec) : z4P.F [x.d] = some x.d := by rw [zEk]; rfl
theorem zDl {left : Int} {n : Nat} (h0 : 0 ≤ left) (h1 : left ≤ lim) (hn : n ≤ smax) : IntKind.wrap .i64 (left - (n : Int)) = left - n := by
 have hlim : (lim : Int) = 1048576 := rfl
 have hsm : (smax : Int) = 9223372036854775807 := rfl
 exact z0c (by omega) (by omega)
def zJs (s : Int) (x : D) : Int := if s - (x.fld 0).s.length < 0 then -1 else if s - (x.fld 0).s.length - (x.fld 3).s.length < 0 then -1 else s - (x.fld 0).s.length - (x.fld 3).s.length
theorem zMF {x : Rec} {left : Int} (hx : x.In smax) (h0 : 0 ≤ left) (h1 : left ≤ lim) : z4O.F [x.d, .int left] = some (.int (zJs left x.d)) := by
 rw [zEh]
 have hw := zDl h0 h1 hx.name
 have hd : (x.d.fld 0).s = x.name := rfl
 have hd1 : (x.d.fld 3).s = x.data := rfl
 simp only [hd, hd1, D.i_int, hw, zJs]
 by_cases h : left - (x.name.length : Int) < 0
 ·rw [if_pos h]; exact z0U (decide_eq_true h) rfl
 ·rw [if_neg h]
  have hw2 := zDl (left := left - x.name.length) (by omega) (by omega) hx.data
  rw [hw2]
  refine z04 (fun hc => h (of_decide_eq_true hc)) ?_
  by_cases h2 : left - (x.name.length : Int) - (x.data.length : Int) < 0
  ·rw [if_pos h2]; exact z0U (decide_eq_true h2) rfl
  ·rw [if_neg h2]; exact z04 (fun hc => h2 (of_decide_eq_true hc)) rfl
theorem zMs {x : Rec} (s : Int) (h0 : 0 ≤ s) (h1 : s ≤ lim) : zJs s x.d ≤ s ∧ (0 ≤ zJs s x.d → x.In lim) := by
 have hd : (x.d.fld 0).s = x.name := rfl
 have hd1 : (x.d.fld 3).s = x.data := rfl
 simp only [zJs, hd, hd1]
 by_cases h : s - (x.name.length : Int) < 0
 ·rw [if_pos h]; omega
 ·rw [if_neg h]
  by_cases h2 : s - (x.name.length : Int) - (x.data.length : Int) < 0
  ·rw [if_pos h2]; omega
  ·rw [if_neg h2]; exact ⟨by omega, fun _ => ⟨by omega, by omega⟩⟩
theorem Rec.d_inj {x y : Rec} (h : x.d = y.d) : x = y := by
 obtain ⟨a, b, c, d⟩ := x
 obtain ⟨a', b', c', d'⟩ := y
 simp only [Rec.d, D.pair.injEq, D.str.injEq, D.int.injEq] at h
 obtain ⟨h2, h3, h4, h5, _⟩ := h
 subst h2; subst h3; subst h4; subst h5; rfl
theorem zGF {k : Int} (h0 : 0 ≤ k) (h1 : k < 10 ^ 18) : ∃ s, z0k.F [.int k] = some (.str s) := by
 rw [zEd]
 by_cases hk : k ≤ 0
 ·exact ⟨_, z0U (decide_eq_true hk) rfl⟩
 refine zKq (g := D.str) (fun h => hk (of_decide_eq_true h)) (zIN h0 h1 ?_ ?_ ?_)
 ·intro n s hn hn2 hs
  refine ⟨_, z1D [.int (IntKind.wrap .u8 (IntKind.wrap .i64 (48 + (n.tmod 10))))], ?_⟩
  have hc : catOk (z0e [.int (IntKind.wrap .u8 (IntKind.wrap .i64 (48 + (n.tmod 10))))]) s = true := by
   unfold catOk
   rw [z1D]
   simp [smax]; omega
  have h3 : n.tdiv 10 = n / 10 := Int.tdiv_eq_ediv_of_nonneg (by omega)
  have hw : IntKind.wrap .i64 (n.tdiv 10) = n.tdiv 10 := by rw [h3]; exact z0c (by omega) (by omega)
  refine z01 (decide_eq_true hn) (z01 (by decide) (z01 hc ?_))
  simp only [z14, D.i_int, hw]
  rfl
 ·intro n s hn
  exact z00 (fun h => absurd (of_decide_eq_true h) (Int.not_lt.2 hn)) rfl
 ·intro s hs
  refine ⟨_, z0U (by simp [catOk, smax]; omega) rfl⟩
noncomputable def mtA (k : Int) : List UInt8 := if h : 0 ≤ k ∧ k < 10 ^ 18 then (zGF h.1 h.2).choose else []
theorem zGK {k : Int} (h0 : 0 ≤ k) (h1 : k < 10 ^ 18) : z0k.F [.int k] = some (.str (mtA k)) := by
 unfold mtA
 rw [dif_pos ⟨h0, h1⟩]
 exact (zGF h0 h1).choose_spec
noncomputable def rmk (k : Int) : Rec := ⟨mtA k, k + 1, k + 2, mtA (k + 3)⟩
noncomputable def rmk4 (k : Int) (i : Nat) : D := (rmk (k + 4 * i)).d
noncomputable def z3m (k : Int) (n : Nat) : List Rec := (List.range n).map fun i : Nat => rmk (k + 4 * i)
theorem zNv (k : Int) (n : Nat) : (List.range n).map (rmk4 k) = (z3m k n).map Rec.d := by
 simp only [z3m, List.map_map]
 rfl
theorem zDq (k : Int) (n : Nat) : (z3m k n).length = n := by simp [z3m]
theorem zGu {xs : List Rec} {k : Int} (h0 : 0 ≤ k) (h1 : k + 4 * xs.length < 10 ^ 18) :
 z3A.F [.lst (xs.map Rec.d), .int k] = some (.pair (.int (k + 4 * xs.length)) (.pair (.lst ((z3m k xs.length).map Rec.d)) .unit)) := by
 have h10 := zBg
 have hl : xs.length ≤ smax := by simp [smax]; omega
 have hml : (xs.map Rec.d).length = xs.length := by simp
 rw [zAI]
 refine z0K (z1R (fun i (zs : List D) => [.lst zs, .int (k + 4 * i), .int i]) xs.length (over (rmk4 k) (xs.map Rec.d)) (t := 0) (o := [.lst ((z3m k xs.length).map Rec.d), .int (k + 4 * xs.length)]) (by simp [zJK]) ?_ ?_) rfl
 ·intro i hi
  have hi' : i < (xs.map Rec.d).length := by simpa using hi
  have w1 : IntKind.wrap .i64 (k + 4 * (i : Int) + 1) = k + 4 * i + 1 := by rw [z0c] <;> omega
  have w2 : IntKind.wrap .i64 (k + 4 * (i : Int) + 1 + 1) = k + 4 * i + 2 := by rw [z0c] <;> omega
  have w3 : IntKind.wrap .i64 (k + 4 * (i : Int) + 2 + 1) = k + 4 * i + 3 := by rw [z0c] <;> omega
  have w4 : IntKind.wrap .i64 (k + 4 * (i : Int) + 3 + 1) = k + 4 * ((i + 1 : Nat) : Int) := by rw [z0c] <;> omega
  have hm := zGK (k := k + 4 * i) (by omega) (by omega)
  have hm2 := zGK (k := k + 4 * i + 3) (by omega) (by omega)
  have hol : (over (rmk4 k) (xs.map Rec.d) i).length = xs.length := by rw [zEM (Nat.le_of_lt hi'), hml]
  have hol' : i < (over (rmk4 k) (xs.map Rec.d) i).length := by rw [hol]; exact hi
  have hg : gd (over (rmk4 k) (xs.map Rec.d) i) i = xs[i].d := (zO8 hi').trans (z4E hi)
  refine z01 (by simp [hol]; omega) (z05 hm (z01 ?_ (z05 (r := .str (mtA (k + 4 * i + 3))) ?_ ?_)))
  ·simp only [z14, z7m, D.l_lst, D.i_int, hol]; exact z0B hi
  ·simp only [z4d, D.i_int, w1, w2, w3]; exact hm2
  ·simp only [upd, z14, z4d, z7m, D.l_lst, D.i_int, Int.toNat_natCast, List.set_set, zNa hol', hg, w1, w2, w3, w4, z0N hi hl]
   rw [zJJ hi']
   all_goals rfl
 ·have := zLh (ys := rmk4 k) (xs := xs.map Rec.d)
  have h2 : (z3m k xs.length).length = xs.length := zDq _ _
  rw [hml, zNv] at this
  simp [this, h2]
theorem zGs {n : Nat} {k : Int} (h0 : 0 ≤ k) (h1 : k + 4 * n < 10 ^ 18) : z38.F [.lst ((z3m k n).map Rec.d), .int k] = some (.int (k + 4 * n)) := by
 have h10 := zBg
 have hl : n ≤ smax := by simp [smax]; omega
 have hml : (z3m k n).length = n := zDq _ _
 have hlen : (D.lst ((z3m k n).map Rec.d)).l.length = n := by simp [hml]
 rw [zAF, hlen]
 refine z0K (z1R (fun i (_ : Unit) => [.int (k + 4 * i), .int i]) n (fun _ => ()) (t := 1) (o := [.int (k + 4 * n)]) (by simp) ?_ ?_) rfl
 ·intro i hi
  have w1 : IntKind.wrap .i64 (k + 4 * (i : Int) + 1) = k + 4 * i + 1 := by rw [z0c] <;> omega
  have w2 : IntKind.wrap .i64 (k + 4 * (i : Int) + 1 + 1) = k + 4 * i + 2 := by rw [z0c] <;> omega
  have w3 : IntKind.wrap .i64 (k + 4 * (i : Int) + 2 + 1) = k + 4 * i + 3 := by rw [z0c] <;> omega
  have w4 : IntKind.wrap .i64 (k + 4 * (i : Int) + 3 + 1) = k + 4 * ((i + 1 : Nat) : Int) := by rw [z0c] <;> omega
  have hm := zGK (k := k + 4 * i) (by omega) (by omega)
  have hm2 := zGK (k := k + 4 * i + 3) (by omega) (by omega)
  have hg : gd ((z3m k n).map Rec.d) i = (rmk (k + 4 * i)).d := by
   rw [z4E (by rw [hml]; exact hi)]; simp [z3m]
  refine z01 (by simpa using hi) (z01 (by simpa using z0B hi) ?_)
  simp only [z14, z4d, D.l_lst, D.i_int, Int.toNat_natCast, hg, w1, w2, w3, w4, z0N hi hl]
  have f0 : (rmk (k + 4 * i)).d.fld 0 = .str (mtA (k + 4 * i)) := rfl
  have f1 : (rmk (k + 4 * i)).d.fld 1 = .int (k + 4 * i + 1) := rfl
  have f2 : (rmk (k + 4 * i)).d.fld 2 = .int (k + 4 * i + 2) := rfl
  have f3 : (rmk (k + 4 * i)).d.fld 3 = .str (mtA (k + 4 * i + 3)) := rfl
  rw [f0, f1, f2, f3]
  exact z05 hm (z00 (by simp) (z00 (by simp) (z00 (by simp) (z05 hm2 (z00 (by simp) rfl)))))
 ·simp
theorem Zn.In.smax {z : Zn} (h : z.In lim) : z.In smax := ⟨Nat.le_trans h.apex z1A, Nat.le_trans h.len z1A, fun r hr => ⟨Nat.le_trans (h.all r hr).name z1A, Nat.le_trans (h.all r hr).data z1A⟩⟩
end Go.Proofs.YtllbponcjpcbnaaGreatDoor
