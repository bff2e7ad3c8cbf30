/- What the functions compute, in plain words. -/
import Derived.Test.YtkogmjbmbpcbeaaGreatDoorP4
set_option linter.unusedSectionVars false
set_option linter.unusedVariables false
set_option linter.unusedSimpArgs false
namespace Go.Proofs.YtkogmjbmbpcbeaaGreatDoor
open Go Go.Own
noncomputable def Ety.ok (now : Int) (e : Ety) : Bool :=
 z0p e.name && (z8w e.type && (inP e.till (IntKind.wrap .i64 (now + 1)) (IntKind.wrap .i64 (now + 100000)) && (inP e.used 1 now && (if e.none then e.recs.isEmpty else zEU e.recs e.name e.type))))
theorem zJA {c : Cch} {e : Ety} (he : e.In lim) : z3c.F [c.d, e.d] = some (.bool (e.ok c.now)) := by
 have g0 : c.d.fld 0 = .int c.now := rfl
 have f0 : e.d.fld 0 = .str e.name := rfl
 have f1 : e.d.fld 1 = .int e.type := rfl
 have f2 : e.d.fld 2 = .bool e.none := rfl
 have f3 : e.d.fld 3 = .lst (e.recs.map Rec.d) := rfl
 have f4 : e.d.fld 4 = .int e.till := rfl
 have f5 : e.d.fld 5 = .int e.used := rfl
 rw [zDD, g0, f0, f1, f2, f3, f4, f5]
 have h1 := z70 e.name
 have h2 := zHW e.type
 have h3 := z5T e.till (IntKind.wrap .i64 (c.now + 1)) (IntKind.wrap .i64 (c.now + 100000))
 have h4 := z5T e.used 1 c.now
 have h5 := zHU he.recs e.name e.type
 unfold Ety.ok
 simp only [D.i_int]
 cases k1 : z0p e.name with
 | false => rw [k1] at h1; exact z06 (l := [.bool true]) (z01 h1 (z04 rfl rfl)) (z0K rfl (by simp))
 | true =>
   rw [k1] at h1
   cases k2 : z8w e.type with
   | false => rw [k2] at h2; exact z06 (l := [.bool true]) (z01 h1 (z00 (by simp) (z01 h2 (z04 rfl rfl)))) (z0K rfl (by simp))
   | true =>
     rw [k2] at h2
     cases k3 : inP e.till (IntKind.wrap .i64 (c.now + 1)) (IntKind.wrap .i64 (c.now + 100000)) with
     | false => rw [k3] at h3; exact z06 (l := [.bool true]) (z01 h1 (z00 (by simp) (z01 h2 (z00 (by simp) (z01 h3 (z04 rfl rfl)))))) (z0K rfl (by simp))
     | true =>
       rw [k3] at h3
       cases k4 : inP e.used 1 c.now with
       | false => rw [k4] at h4; exact z06 (l := [.bool true]) (z01 h1 (z00 (by simp) (z01 h2 (z00 (by simp) (z01 h3 (z00 (by simp) (z01 h4 rfl))))))) (z0K rfl (by simp))
       | true =>
         rw [k4] at h4
         refine z06 (l := [.bool false]) (z01 h1 (z00 (by simp) (z01 h2 (z00 (by simp) (z01 h3 (z00 (by simp) (z01 h4 rfl))))))) (z03 (by simp) ?_)
         cases k5 : e.none with
         | true =>
           refine z0K rfl ?_
           have : (((D.lst (e.recs.map Rec.d)).l.length : Int) == 0) = e.recs.isEmpty := by
            cases e.recs <;> simp
            omega
           simp only [this]
           simp
         | false =>
           refine z03 (by simp) (z02 h5 ?_)
           simp
noncomputable def cmpE (e : Ety) (n : List UInt8) (t : Int) : Int := cmpP (e.name, e.type) (n, t)
theorem z7R {e : Ety} (he : e.name.length ≤ lim) {n : List UInt8} (hn : n.length ≤ lim) (t : Int) : z1D.F [e.d, .str n, .int t] = some (.int (cmpE e n t)) := by
 have f0 : e.d.fld 0 = .str e.name := rfl
 have f1 : e.d.fld 1 = .int e.type := rfl
 rw [z7w, f0, f1]
 have h := zGe (xs := [cmpN e.name n, intC e.type t]) (show 2 ≤ lim by decide)
 rw [orL2] at h
 exact z02 (z7S he hn) (z02 (zE4 e.type t) (z02 h rfl))
def Ety.nul : Ety := ⟨[], 0, false, [], 0, 0⟩
theorem z5U {es : List Ety} {i : Nat} (hi : i < es.length) : gd (es.map Ety.d) i = (es[i]).d := z40 hi
noncomputable def z92 (c : Cch) (i : Nat) : Bool := (c.es.getD i Ety.nul).ok c.now && (i == 0 || decide (cmpE (c.es.getD (i - 1) Ety.nul) (c.es.getD i Ety.nul).name (c.es.getD i Ety.nul).type < 0))
noncomputable def Cch.good (c : Cch) : Bool := inP c.now 1 1000000000 && (decide (c.es.length ≤ 20) && allN c.es.length (z92 c))
theorem z6Q {c : Cch} (hc : c.In lim) : z1k.F [c.d] = some (.bool c.good) := by
 have hsm := Nat.le_trans hc.len z0u
 have g0 : c.d.fld 0 = .int c.now := rfl
 have g1 : c.d.fld 1 = .lst (c.es.map Ety.d) := rfl
 have hlen : (D.lst (c.es.map Ety.d)).l.length = c.es.length := by simp
 rw [zAY, g0, g1, hlen]
 have h1 := z5T c.now 1 1000000000
 unfold Cch.good
 cases k1 : inP c.now 1 1000000000 with
 | false => rw [k1] at h1; exact z06 (l := [.bool true]) (z01 h1 (z04 rfl rfl)) (z0K rfl (by simp))
 | true =>
   rw [k1] at h1
   by_cases k2 : c.es.length ≤ 20
   ·refine z06 (l := [.bool false]) (z01 h1 (z00 (by simp) ?_)) (z03 (by simp) ?_)
    ·have : ¬ ((c.es.length : Int) > 20) := by omega
     simp [this]
    ·rw [decide_eq_true k2, Bool.true_and, Bool.true_and]
     refine z0N (z3v (fun i => [.int i]) c.es.length (z92 c) (t1 := 0) (t2 := 1) (o1 := [.bool false]) (o2 := []) rfl ?_ (by exact z00 (by simp) rfl)) ?_
     ·intro i hi
      have hin := hc.all _ (List.getElem_mem hi)
      have hE := zJA (c := c) hin
      have e0 : (gd [D.int (i : Int)] 0).i.toNat = i := by simp
      have e1 : (gd [D.int (i : Int)] 0).i = i := rfl
      rw [e0, e1, D.l_lst, z5U hi, z0O hi hsm]
      refine z04 (by simpa using hi) (z04 (z0D hi) (z1V (l := [.bool !(z92 c i)]) ?_ ?_))
      ·unfold z92
       rw [z0J hi]
       cases k : (c.es[i]).ok c.now with
       | false => rw [k] at hE; exact z01 hE (z04 rfl (by simp))
       | true =>
         rw [k] at hE
         refine z01 hE (z00 (by simp) ?_)
         by_cases h0 : i = 0
         ·subst h0; exact z00 (by simp) (by simp)
         ·have w : IntKind.wrap .i64 ((i : Int) - 1) = ((i - 1 : Nat) : Int) := by rw [z19] at hsm; rw [z0S] <;> omega
          have hi1 : i - 1 < c.es.length := by omega
          have f0 : (c.es[i]).d.fld 0 = .str (c.es[i]).name := rfl
          have f1 : (c.es[i]).d.fld 1 = .int (c.es[i]).type := rfl
          refine z04 (decide_eq_true (by omega)) (z04 (by rw [w]; exact z0D hi1) ?_)
          rw [w, Int.toNat_natCast, z5U hi1, f0, f1, z0J hi1]
          refine z01 (z7R (hc.all _ (List.getElem_mem hi1)).name hin.name _) ?_
          have : decide ((D.int (cmpE c.es[i - 1] (c.es[i]).name (c.es[i]).type)).i ≥ 0) = !(decide (cmpE c.es[i - 1] (c.es[i]).name (c.es[i]).type < 0)) := by
           rw [Bool.eq_iff_iff]; simp
          rw [this]
          have : (i == 0) = false := by simpa using h0
          rw [this]; simp
      ·cases z92 c i <;> simp
     ·cases allN c.es.length (z92 c) <;> rfl
   ·refine z06 (l := [.bool true]) (z01 h1 (z00 (by simp) ?_)) (z0K rfl ?_)
    ·have : ((c.es.length : Int) > 20) := by omega
     simp [this]
    ·rw [decide_eq_false k2]; simp
end Go.Proofs.YtkogmjbmbpcbeaaGreatDoor
namespace Go.Proofs.YtkogmjbmbpcbeaaGreatDoor
open Go Go.Own
theorem zKt (l : List Rec) (n : List UInt8) (t : Int) : (z8n l && ((l.getD 0 Rec.nul).name == n && (l.getD 0 Rec.nul).type == t)) = zEU l n t := by
 unfold z8n zEU
 cases k1 : inP l.length 1 12 with
 | false => simp
 | true =>
   have hpos : 0 < l.length := by simp [inP] at k1; omega
   cases k2 : z8m l with
   | false => simp
   | true =>
     simp only [Bool.true_and]
     cases a1 : (l.getD 0 Rec.nul).name == n with
     | false =>
       rw [Bool.false_and, Bool.and_false, z43 (k := 0) hpos]
       unfold zC5; rw [a1]; rfl
     | true =>
       cases a2 : (l.getD 0 Rec.nul).type == t with
       | false =>
         rw [Bool.and_false, Bool.and_false, z43 (k := 0) hpos]
         unfold zC5; rw [a2]; simp
       | true =>
         rw [Bool.and_true, Bool.and_true, eq_of_beq a1, eq_of_beq a2]
theorem zLi (a b : Int) : intC a b < 0 ↔ a < b := by
 unfold intC
 repeat' split
 all_goals omega
theorem zFE {a b : Ety} (ha : a.name.length ≤ lim) (hb : b.name.length ≤ lim) : ∃ r : Bool, z0q.F [a.d, b.d] = some (.bool r) ∧ (z0p a.name = true → z0p b.name = true → r = decide (cmpE a b.name b.type < 0)) := by
 obtain ⟨n, h1, h2⟩ := zB7 ha hb
 have f0 : ∀ e : Ety, e.d.fld 0 = .str e.name := fun _ => rfl
 have f1 : ∀ e : Ety, (e.d.fld 1).i = e.type := fun _ => rfl
 rw [zDL, f0, f0, f1, f1]
 refine ⟨decide (n < 0) || (n == 0 && decide (a.type < b.type)), z02 h1 (z06 (l := [.bool (decide (n < 0) || (n == 0 && decide (a.type < b.type)))]) ?_ rfl), fun g1 g2 => ?_⟩
 ·simp only [D.i_int]
  by_cases k1 : n < 0
  ·exact z04 (decide_eq_true k1) (by simp [k1])
  ·refine z00 (fun h => k1 (of_decide_eq_true h)) ?_
   by_cases k2 : n = 0
   ·exact z04 (by simp [k2]) (by simp [k2])
   ·exact z00 (by simp [k2]) (by simp [k1, k2])
 ·have := h2 g1 g2
  subst this
  unfold cmpE cmpP
  simp only
  by_cases k : cmpN a.name b.name = 0
  ·rw [if_pos k, k]
   simp [zLi]
  ·rw [if_neg k]
   simp [k]
theorem z6S {c : Cch} (hc : c.In lim) : z1m.F [c.d] = some (.bool c.good) := by
 have hsm := Nat.le_trans hc.len z0u
 have g0 : c.d.fld 0 = .int c.now := rfl
 have g1 : c.d.fld 1 = .lst (c.es.map Ety.d) := rfl
 have hlen : (D.lst (c.es.map Ety.d)).l.length = c.es.length := by simp
 rw [zAg, g0, g1, hlen]
 have h1 := z94 c.now 1 1000000000
 have hcs : ∀ i, i < c.es.length → ∃ r : Bool, z0q.F [(c.es.getD (i - 1) Ety.nul).d, (c.es.getD i Ety.nul).d] = some (.bool r) ∧ (z0p (c.es.getD (i - 1) Ety.nul).name = true → z0p (c.es.getD i Ety.nul).name = true → r = decide (cmpE (c.es.getD (i - 1) Ety.nul) (c.es.getD i Ety.nul).name (c.es.getD i Ety.nul).type < 0)) := by
  intro i hi
  have hi1 : i - 1 < c.es.length := by omega
  rw [z0J hi, z0J hi1]
  exact zFE (hc.all _ (List.getElem_mem hi1)).name (hc.all _ (List.getElem_mem hi)).name
 let cS : Nat → Bool := fun i => match z0q.F [(c.es.getD (i - 1) Ety.nul).d, (c.es.getD i Ety.nul).d] with
  | some (.bool r) => r
  | _ => false
 have hcS : ∀ i, i < c.es.length → z0q.F [(c.es.getD (i - 1) Ety.nul).d, (c.es.getD i Ety.nul).d] = some (.bool (cS i)) ∧ (z0p (c.es.getD (i - 1) Ety.nul).name = true → z0p (c.es.getD i Ety.nul).name = true → cS i = decide (cmpE (c.es.getD (i - 1) Ety.nul) (c.es.getD i Ety.nul).name (c.es.getD i Ety.nul).type < 0)) := by
  intro i hi
  obtain ⟨n, k1, k2⟩ := hcs i hi
  have : cS i = n := by simp only [cS, k1]
  rw [this]; exact ⟨k1, k2⟩
 let up : Nat → Bool := fun i => (c.es.getD i Ety.nul).ok c.now && (i == 0 || cS i)
 have hup : allN c.es.length up = allN c.es.length (z92 c) := by
  have hname : ∀ e : Ety, e.ok c.now = true → z0p e.name = true := by
   intro e h
   unfold Ety.ok at h
   simp only [Bool.and_eq_true] at h
   exact h.1
  rw [Bool.eq_iff_iff, z1S, z1S]
  constructor
  ·intro h i hi
   have k1 := h i hi
   simp only [up, z92, Bool.and_eq_true, Bool.or_eq_true, beq_iff_eq] at k1 ⊢
   refine ⟨k1.1, k1.2.imp id fun k2 => ?_⟩
   by_cases h0 : i = 0
   ·subst h0
    rw [← (hcS 0 hi).2 (hname _ k1.1) (hname _ k1.1)]; exact k2
   ·have h3 := h (i - 1) (by omega)
    simp only [up, Bool.and_eq_true] at h3
    rw [← (hcS i hi).2 (hname _ h3.1) (hname _ k1.1)]; exact k2
  ·intro h i hi
   have k1 := h i hi
   simp only [up, z92, Bool.and_eq_true, Bool.or_eq_true, beq_iff_eq] at k1 ⊢
   refine ⟨k1.1, k1.2.imp id fun k2 => ?_⟩
   by_cases h0 : i = 0
   ·subst h0
    rw [(hcS 0 hi).2 (hname _ k1.1) (hname _ k1.1)]; exact k2
   ·have h3 := h (i - 1) (by omega)
    simp only [z92, Bool.and_eq_true] at h3
    rw [(hcS i hi).2 (hname _ h3.1) (hname _ k1.1)]; exact k2
 unfold Cch.good
 cases k1 : inP c.now 1 1000000000 with
 | false => rw [k1] at h1; exact z06 (l := [.bool true]) (z01 h1 (z04 rfl rfl)) (z0K rfl (by simp))
 | true =>
   rw [k1] at h1
   by_cases k2 : c.es.length ≤ 20
   ·refine z06 (l := [.bool false]) (z01 h1 (z00 (by simp) ?_)) (z03 (by simp) ?_)
    ·have : ¬ ((c.es.length : Int) > 20) := by omega
     simp [this]
    ·rw [decide_eq_true k2, Bool.true_and, Bool.true_and, ← hup]
     refine z0N (z3v (fun i => [.int i]) c.es.length up (t1 := 0) (t2 := 1) (o1 := [.bool false]) (o2 := []) rfl ?_ (by exact z00 (by simp) rfl)) ?_
     ·intro i hi
      have hin := hc.all _ (List.getElem_mem hi)
      have hL := (hcS i hi).1
      have e0 : (gd [D.int (i : Int)] 0).i.toNat = i := by simp
      have e1 : (gd [D.int (i : Int)] 0).i = i := rfl
      rw [e0, e1, D.l_lst, z5U hi, z0O hi hsm]
      refine z04 (by simpa using hi) ?_
      refine z2Z (r := cond (up i) (0, []) (1, [.bool false])) (z04 (z0D hi) ?_) (by cases up i <;> rfl)
      simp only [up]
      rw [z0J hi] at hL ⊢
      generalize c.es[i] = e at hin hL
      have f0 : e.d.fld 0 = .str e.name := rfl
      have f1 : e.d.fld 1 = .int e.type := rfl
      have f2 : e.d.fld 2 = .bool e.none := rfl
      have f3 : e.d.fld 3 = .lst (e.recs.map Rec.d) := rfl
      have f4 : e.d.fld 4 = .int e.till := rfl
      have f5 : e.d.fld 5 = .int e.used := rfl
      rw [f0, f1, f2, f3, f4, f5]
      have q1 := z5K e.name hin.name
      have q2 := zHZ e.type
      have q3 := z94 e.till (IntKind.wrap .i64 (c.now + 1)) (IntKind.wrap .i64 (c.now + 100000))
      have q4 := z94 e.used 1 c.now
      have q5 := zFF hin.recs
      unfold Ety.ok
      simp only [D.i_int]
      cases r1 : z0p e.name with
      | false => rw [r1] at q1; exact z1V (l := [.bool true]) (z01 q1 (z04 rfl rfl)) (z04 rfl (by simp))
      | true =>
        rw [r1] at q1
        cases r2 : z8w e.type with
        | false => rw [r2] at q2; exact z1V (l := [.bool true]) (z01 q1 (z00 (by simp) (z01 q2 (z04 rfl rfl)))) (z04 rfl (by simp))
        | true =>
          rw [r2] at q2
          cases r3 : inP e.till (IntKind.wrap .i64 (c.now + 1)) (IntKind.wrap .i64 (c.now + 100000)) with
          | false => rw [r3] at q3; exact z1V (l := [.bool true]) (z01 q1 (z00 (by simp) (z01 q2 (z00 (by simp) (z01 q3 (z04 rfl rfl)))))) (z04 rfl (by simp))
          | true =>
            rw [r3] at q3
            cases r4 : inP e.used 1 c.now with
            | false => rw [r4] at q4; exact z1V (l := [.bool true]) (z01 q1 (z00 (by simp) (z01 q2 (z00 (by simp) (z01 q3 (z00 (by simp) (z01 q4 (z04 rfl rfl)))))))) (z04 rfl (by simp))
            | true =>
              rw [r4] at q4
              refine z1V (l := [.bool !(i == 0 || cS i)]) (z01 q1 (z00 (by simp) (z01 q2 (z00 (by simp) (z01 q3 (z00 (by simp) (z01 q4 (z00 (by simp) ?_)))))))) ?_
              ·by_cases h0 : i = 0
               ·subst h0; exact z00 (by simp) (by simp)
               ·have w : IntKind.wrap .i64 ((i : Int) - 1) = ((i - 1 : Nat) : Int) := by rw [z19] at hsm; rw [z0S] <;> omega
                have hi1 : i - 1 < c.es.length := by omega
                rw [z0J hi1] at hL
                refine z04 (decide_eq_true (by omega)) (z04 (by rw [w]; exact z0D hi1) ?_)
                rw [w, Int.toNat_natCast, z5U hi1]
                refine z01 hL ?_
                have : (i == 0) = false := by simpa using h0
                rw [this]; simp
              ·cases r5 : (i == 0 || cS i) with
               | false => exact z04 rfl (by simp)
               | true =>
                 refine z00 (by simp) ?_
                 cases r6 : e.none with
                 | true =>
                   refine z04 rfl ?_
                   cases hr : e.recs with
                   | nil => exact z00 (by simp) rfl
                   | cons x xs => exact z04 (decide_eq_true (by simp)) rfl
                 | false =>
                   refine z00 (by simp) ?_
                   simp only [Bool.false_eq_true, if_false, Bool.true_and, Bool.and_true]
                   rw [← zKt]
                   cases r7 : z8n e.recs with
                   | false => rw [r7] at q5; exact z1V (l := [.bool true]) (z01 q5 (z04 rfl rfl)) (z04 rfl (by simp))
                   | true =>
                     rw [r7] at q5
                     have hpos : 0 < e.recs.length := by
                      unfold z8n at r7
                      simp only [Bool.and_eq_true, inP, decide_eq_true_eq] at r7
                      omega
                     have hg0 : gd (D.lst (e.recs.map Rec.d)).l 0 = (e.recs[0]).d := z57 hpos
                     have j0 : ((e.recs[0]).d.fld 0).s = (e.recs[0]).name := rfl
                     have j1 : ((e.recs[0]).d.fld 1).i = (e.recs[0]).type := rfl
                     rw [hg0, j0, j1, z0J hpos]
                     refine z1V (l := [.bool !((e.recs[0]).name == e.name && (e.recs[0]).type == e.type)]) (z01 q5 (z00 (by simp) (z04 (z0D (i := 0) (by simpa using hpos)) ?_))) ?_
                     ·cases a1 : (e.recs[0]).name == e.name with
                      | false => exact z04 (by simpa using a1) (by simp)
                      | true => exact z00 (by simpa using a1) (by simp [bne])
                     ·cases a1 : ((e.recs[0]).name == e.name && (e.recs[0]).type == e.type) with
                      | false => exact z04 rfl rfl
                      | true => exact z00 (by simp) rfl
     ·cases allN c.es.length up <;> rfl
   ·refine z06 (l := [.bool true]) (z01 h1 (z00 (by simp) ?_)) (z0K rfl ?_)
    ·have : ((c.es.length : Int) > 20) := by omega
     simp [this]
    ·rw [decide_eq_false k2]; simp
end Go.Proofs.YtkogmjbmbpcbeaaGreatDoor
namespace Go.Proofs.YtkogmjbmbpcbeaaGreatDoor
open Go Go.Own
theorem z2P {e n : Nat} {l m : List D} (hl : l.length ≤ lim) (hm : m.length ≤ lim) (he : e ≤ 100) : appOk e l m = true := by
 have h2 : (lim : Nat) = 1048576 := rfl
 have : (l.length + m.length) * e ≤ (lim + lim) * 100 := Nat.mul_le_mul (by omega) he
 unfold appOk
 rw [Bool.and_eq_true, decide_eq_true_eq, decide_eq_true_eq, z19]
 refine ⟨by omega, Nat.le_trans this ?_⟩
 rw [h2]; decide
theorem zB3 {xs : List D} (h : xs.length ≤ lim) : z0G.F [.lst xs] = some (.lst xs) := by
 rw [z3X]
 have ha : appOk 48 ([] : List D) (D.lst xs).l = true := z2P (n := 0) (by simp) h (by decide)
 rw [zMZ]
 ·refine z0K ha rfl
 ·intro h
  rw [if_pos ha]
  have : xs = [] := by simpa using h
  subst this
  rfl
theorem zIG {e : Ety} (he : e.In lim) : z3E.F [e.d] = some e.d := by
 have f3 : e.d.fld 3 = .lst (e.recs.map Rec.d) := rfl
 rw [zCM, f3]
 exact z02 (zB3 (by simpa using he.recs.len)) rfl
theorem z8C {e : Ety} (he : e.In lim) : z1h.F [e.d] = some e.d := by
 have f3 : e.d.fld 3 = .lst (e.recs.map Rec.d) := rfl
 rw [z8l, f3]
 exact z0K (z2P (n := 0) (by simp) (by simpa using he.recs.len) (by decide)) rfl
theorem z8u {es : List Ety} {i : Nat} (hi : i < es.length) : (es.map Ety.d).take (i + 1) = (es.map Ety.d).take i ++ [(es[i]).d] := by
 rw [List.take_add_one]; simp [hi]
theorem zIF {c : Cch} (hc : c.In lim) : z3D.F [c.d] = some c.d := by
 have hsm := Nat.le_trans hc.len z0u
 have g0 : c.d.fld 0 = .int c.now := rfl
 have g1 : c.d.fld 1 = .lst (c.es.map Ety.d) := rfl
 have hlen : (D.lst (c.es.map Ety.d)).l.length = c.es.length := by simp
 rw [zCL, g0, g1, hlen]
 refine z06 (z1o (fun i (s : List D) => [.pair (.int c.now) (.pair (.lst s) .unit), .int i]) c.es.length (fun i => (c.es.map Ety.d).take i) (t := 0) (o := [c.d]) (by simp) ?_ ?_) rfl
 ·intro i hi
  rw [z8u hi]
  have hl : ((c.es.map Ety.d).take i).length ≤ lim := by have := hc.len; simp; omega
  generalize (c.es.map Ety.d).take i = L at hl
  have e1 : (gd [D.pair (.int c.now) (.pair (.lst L) .unit), D.int (i : Int)] 1).i = i := rfl
  have e0 : gd [D.pair (.int c.now) (.pair (.lst L) .unit), D.int (i : Int)] 0 = .pair (.int c.now) (.pair (.lst L) .unit) := rfl
  rw [e1, e0, Int.toNat_natCast, D.l_lst, z5U hi, z0O hi hsm]
  exact z04 (by simpa using hi) (z04 (z0D hi) (z01 (zIG (hc.all _ (List.getElem_mem hi))) (z04 (z2P (n := 0) hl (show 1 ≤ lim by decide) (by decide)) rfl)))
 ·rw [List.take_of_length_le (by simp)]
  exact z00 (by simp) rfl
theorem zHX {c : Cch} (hc : c.In lim) : z3P.F [c.d] = some c.d := by
 have hsm := Nat.le_trans hc.len z0u
 have g1 : c.d.fld 1 = .lst (c.es.map Ety.d) := rfl
 have hlen : (D.lst (c.es.map Ety.d)).l.length = c.es.length := by simp
 rw [zEe, g1, hlen]
 refine z06 (z1o (fun i (s : List D) => [.lst s, .int i]) c.es.length (fun i => (c.es.map Ety.d).take i) (t := 0) (o := [.lst (c.es.map Ety.d)]) (by simp) ?_ ?_) rfl
 ·intro i hi
  rw [z8u hi]
  have hl : ((c.es.map Ety.d).take i).length ≤ lim := by have := hc.len; simp; omega
  generalize (c.es.map Ety.d).take i = L at hl
  have e1 : (gd [D.lst L, D.int (i : Int)] 1).i = i := rfl
  have e0 : gd [D.lst L, D.int (i : Int)] 0 = .lst L := rfl
  rw [e1, e0, Int.toNat_natCast, D.l_lst, D.l_lst, z5U hi, z0O hi hsm]
  exact z04 (by simpa using hi) (z04 (z0D hi) (z01 (z8C (hc.all _ (List.getElem_mem hi))) (z04 (z2P (n := 0) hl (show 1 ≤ lim by decide) (by decide)) rfl)))
 ·rw [List.take_of_length_le (by simp)]
  exact z00 (by simp) rfl
theorem Cch.lt {c : Cch} (hg : c.good = true) {i : Nat} (hi : i < c.es.length) : ∀ (m : Nat) (hm : i + (m + 1) < c.es.length), cmpP ((c.es[i]).name, (c.es[i]).type) ((c.es[i + (m + 1)]).name, (c.es[i + (m + 1)]).type) < 0 := by
 have hall : ∀ i, i < c.es.length → z92 c i = true := by
  unfold Cch.good at hg
  simp only [Bool.and_eq_true] at hg
  exact z1S.1 hg.2.2
 have one : ∀ j (hj : j + 1 < c.es.length), cmpP ((c.es[j]).name, (c.es[j]).type) ((c.es[j + 1]).name, (c.es[j + 1]).type) < 0 := by
  intro j hj
  have := hall (j + 1) hj
  unfold z92 at this
  simp only [Bool.and_eq_true, z0J hj, Nat.add_sub_cancel, z0J (show j < c.es.length by omega), Bool.or_eq_true, beq_iff_eq, decide_eq_true_eq] at this
  rcases this.2 with h | h
  ·omega
  ·exact h
 intro m
 induction m with
 | zero => intro hm; exact one i hm
 | succ m ih =>
   intro hm
   have h1 := ih (by omega)
   have h2 := one (i + (m + 1)) hm
   exact z89.lt (by omega) (Int.le_of_lt h2) (.inl (by omega))
end Go.Proofs.YtkogmjbmbpcbeaaGreatDoor
namespace Go.Proofs.YtkogmjbmbpcbeaaGreatDoor
open Go Go.Own
theorem zMe (c : Cch) (x : D) : D.mix (.pair (.int .i64) (.pair (.lst true (.pair .str (.pair (.int .i64) (.pair .bool (.pair (.lst true (.pair .str (.pair (.int .i64) (.pair (.int .i64) (.pair .str .unit))))) (.pair (.int .i64) (.pair (.int .i64) .unit))))))) .unit)) c.d (c.d.setFld 1 x) = c.d.setFld 1 x := by
 unfold D.mix
 split
 ·rfl
 ·rfl
theorem z5r {c : Cch} {k : Int} {B : Nat} (hB : ∀ e ∈ c.es, e.recs.length ≤ B) (hl : c.es.length ≤ lim) (h0 : 0 ≤ k) (h1 : k + c.es.length * (5 + 4 * B : Nat) < 10 ^ 17) :
 z1A.F [c.d, .int k] = some (.pair (.int (mkEs k c.es).2) (.pair (c.d.setFld 1 (.lst ((mkEs k c.es).1.map Ety.d))) .unit)) := by
 have g1 : c.d.fld 1 = .lst (c.es.map Ety.d) := rfl
 rw [zAd, g1]
 refine z02 (zFI hB hl h0 h1) ?_
 have e1 : (D.pair (.int (mkEs k c.es).2) (.pair (.lst ((mkEs k c.es).1.map Ety.d)) .unit)).fld 1 = .lst ((mkEs k c.es).1.map Ety.d) := rfl
 rw [e1, zMe]; rfl
def Ris (es : List Ety) : Prop := ∀ i j (hi : i < es.length) (hj : j < es.length), i < j → cmpP ((es[i]).name, (es[i]).type) ((es[j]).name, (es[j]).type) < 0
theorem Cch.ris {c : Cch} (hg : c.good = true) : Ris c.es := by
 intro i j hi hj hij
 obtain ⟨m, rfl⟩ : ∃ m, j = i + (m + 1) := ⟨j - i - 1, by omega⟩
 exact Cch.lt hg hi m hj
theorem zIy {e : Ety} {n : List UInt8} {t : Int} : cmpE e n t = 0 ↔ e.name = n ∧ e.type = t := by
 unfold cmpE
 constructor
 ·intro h
  have := z89.eq _ _ h
  simpa using this
 ·rintro ⟨rfl, rfl⟩; exact z89.refl _
theorem Ris.erase {es : List Ety} (h : Ris es) (m : Nat) : Ris (es.eraseIdx m) := by
 intro i j hi hj hij
 have gi : ∀ q (hq : q < (es.eraseIdx m).length), ∃ h2 : (if q < m then q else q + 1) < es.length, (es.eraseIdx m)[q] = es[if q < m then q else q + 1] := by
  intro q hq
  have e1 := List.getElem?_eraseIdx (l := es) (i := m) (j := q)
  have e2 : (es.eraseIdx m)[q]? = some (es.eraseIdx m)[q] := List.getElem?_eq_getElem hq
  rw [e2] at e1
  have e3 : es[if q < m then q else q + 1]? = some (es.eraseIdx m)[q] := by
   rw [e1]; split <;> rfl
  obtain ⟨h3, h4⟩ := List.getElem?_eq_some_iff.1 e3
  exact ⟨h3, h4.symm⟩
 obtain ⟨a1, a2⟩ := gi i hi
 obtain ⟨b1, b2⟩ := gi j hj
 rw [a2, b2]
 refine h _ _ a1 b1 ?_
 split <;> split <;> omega
structure Pos (es : List Ety) (n : List UInt8) (t : Int) (k : Nat) (b : Bool) : Prop where
 le : k ≤ es.length
 lo : ∀ i (h : i < es.length), i < k → cmpE es[i] n t < 0
 hi : ∀ i (h : i < es.length), k ≤ i → 0 ≤ cmpE es[i] n t
 eq : b = true ↔ ∃ h : k < es.length, cmpE es[k] n t = 0
theorem Pos.uniq {es : List Ety} {n : List UInt8} {t : Int} {k k' : Nat} {b b' : Bool} (h : Pos es n t k b) (h' : Pos es n t k' b') : k = k' ∧ b = b' := by
 have hk : k = k' := by
  rcases Nat.lt_trichotomy k k' with hl | hl | hl
  ·have hlt : k < es.length := by have := h'.le; omega
   have := h'.lo k hlt hl
   have := h.hi k hlt (Nat.le_refl _)
   omega
  ·exact hl
  ·have hlt : k' < es.length := by have := h.le; omega
   have := h.lo k' hlt hl
   have := h'.hi k' hlt (Nat.le_refl _)
   omega
 subst hk
 refine ⟨rfl, ?_⟩
 have := h.eq.trans h'.eq.symm
 cases b <;> cases b' <;> simp_all
theorem zLJ {c : Cch} (hc : c.In lim) (hg : Ris c.es) {n : List UInt8} (hn : n.length ≤ lim) (t : Int) : ∃ (k : Nat) (b : Bool), z1x.F [c.d, .str n, .int t] = some (.pair (.int k) (.pair (.bool b) .unit)) ∧ Pos c.es n t k b := by
 have g1 : c.d.fld 1 = .lst (c.es.map Ety.d) := rfl
 have mono : ∀ i j (hi : i < c.es.length) (hj : j < c.es.length), i ≤ j → cmpE c.es[j] n t < 0 → cmpE c.es[i] n t < 0 := by
  intro i j hi hj hij h
  by_cases he : i = j
  ·subst he; exact h
  ·have := hg i j hi hj (by omega)
   exact z89.lt (Int.le_of_lt this) (Int.le_of_lt h) (.inl (by omega))
 have hcmp : ∀ x ∈ c.es, (fun d => z0v.F [d, .int t, .str n]) x.d = some (.int (cmpE x n t)) := by
  intro x hx
  show z0v.F [x.d, .int t, .str n] = _
  rw [z7v]
  exact z02 (z7R (hc.all x hx).name hn t) rfl
 obtain ⟨k, hk, hlo, hhi, b, hb, hbs⟩ := zMA (f := Ety.d) (c := fun d => z0v.F [d, .int t, .str n]) (cv := fun e => cmpE e n t) hc.len hcmp mono
 refine ⟨k, b, ?_, hk, hlo, hhi, hb⟩
 rw [z9Z, g1]
 have : z07.F [.lst (c.es.map Ety.d), .int t, .pair (.str n) .unit] = some (.pair (.int k) (.pair (.bool b) .unit)) := by
  rw [z16]
  exact hbs
 exact z02 this rfl
theorem Pos.erase {es : List Ety} {n : List UInt8} {t : Int} {k : Nat} (h : Pos es n t k false) {m : Nat} (hm : m < es.length) {k' : Nat} {b' : Bool} (h' : Pos (es.eraseIdx m) n t k' b') : k' = if m < k then k - 1 else k := by
 have hl : (es.eraseIdx m).length = es.length - 1 := by rw [List.length_eraseIdx, if_pos hm]
 have gi : ∀ q (hq : q < (es.eraseIdx m).length), ∃ h2 : (if q < m then q else q + 1) < es.length, (es.eraseIdx m)[q] = es[if q < m then q else q + 1] := by
  intro q hq
  have e1 := List.getElem?_eraseIdx (l := es) (i := m) (j := q)
  have e2 : (es.eraseIdx m)[q]? = some (es.eraseIdx m)[q] := List.getElem?_eq_getElem hq
  rw [e2] at e1
  have e3 : es[if q < m then q else q + 1]? = some (es.eraseIdx m)[q] := by
   rw [e1]; split <;> rfl
  obtain ⟨h3, h4⟩ := List.getElem?_eq_some_iff.1 e3
  exact ⟨h3, h4.symm⟩
 have hkl := h.le
 rcases Nat.lt_trichotomy k' (if m < k then k - 1 else k) with hlt | he | hgt
 ·exfalso
  have hq : k' < (es.eraseIdx m).length := by rw [hl]; split at hlt <;> omega
  obtain ⟨h1, h2⟩ := gi k' hq
  have h3 := h'.hi k' hq (Nat.le_refl _)
  rw [h2] at h3
  have h4 := h.lo _ h1 (by split at hlt <;> split <;> omega)
  omega
 ·exact he
 ·exfalso
  have hk2 := h'.le
  generalize hK : (if m < k then k - 1 else k) = K at hgt
  have hq : K < (es.eraseIdx m).length := by omega
  obtain ⟨h1, h2⟩ := gi K hq
  have h3 := h'.lo K hq hgt
  rw [h2] at h3
  have h4 := h.hi _ h1 (by rw [← hK]; split <;> split <;> omega)
  omega
end Go.Proofs.YtkogmjbmbpcbeaaGreatDoor
namespace Go.Proofs.YtkogmjbmbpcbeaaGreatDoor
open Go Go.Own
def minI (es : List Ety) : Nat → Nat
 | 0 => 0
 | i + 1 => if (es.getD i Ety.nul).used < (es.getD (minI es i) Ety.nul).used then i else minI es i
theorem z5W (es : List Ety) (i : Nat) : minI es (i + 1) = if (es.getD i Ety.nul).used < (es.getD (minI es i) Ety.nul).used then i else minI es i := rfl
theorem zBm (es : List Ety) : ∀ n, minI es n ≤ n - 1
 | 0 => Nat.le_refl _
 | n + 1 => by
   have := zBm es n
   rw [z5W]
   split <;> omega
theorem zGu {es : List Ety} {n : Nat} (h : n ≤ es.length) (h0 : 0 < n) : minI es n < es.length := by have := zBm es n; omega
def z5u (es : List Ety) (k : Nat) (e : Ety) : List Ety := es.take k ++ e :: es.drop k
def putL (es : List Ety) (e : Ety) (k : Nat) (b : Bool) : List Ety :=
 if b = true then es.set k e else if es.length = 20 then z5u (es.eraseIdx (minI es es.length)) (if minI es es.length < k then k - 1 else k) e else z5u es k e
theorem zMG {es : List Ety} (hl : es.length ≤ lim) {k : Nat} (hk : k ≤ es.length) (e : Ety) : z0j.F [.lst (es.map Ety.d), .int k, .lst [e.d]] = some (.lst ((z5u es k e).map Ety.d)) := by
 show insF 72 [.lst (es.map Ety.d), .int k, .lst [e.d]] = _
 have ha : appOk 72 (es.map Ety.d) [e.d] = true := z2P (n := 0) (by simpa using hl) (show 1 ≤ lim by decide) (by decide)
 have : (0 ≤ (D.int (k : Int)).i ∧ (D.int (k : Int)).i ≤ (D.lst (es.map Ety.d)).l.length) ∧ (D.lst [e.d]).l ≠ [] ∧ appOk 72 (D.lst (es.map Ety.d)).l (D.lst [e.d]).l = true := by
  refine ⟨⟨?_, ?_⟩, by simp, ha⟩
  ·rw [D.i_int]; omega
  ·rw [D.i_int, D.l_lst, List.length_map]; omega
 refine Eq.trans (if_pos this) ?_
 simp [z5u, List.map_take, List.map_drop]
theorem zMc {es : List Ety} {m : Nat} (hm : m < es.length) {j : Int} (hj : j = (m : Int) + 1) : z0i.F [.lst (es.map Ety.d), .int m, .int j] = some (.lst ((es.eraseIdx m).map Ety.d)) := by
 subst hj
 show delF [.lst (es.map Ety.d), .int m, .int ((m : Int) + 1)] = _
 have : 0 ≤ (D.int (m : Int)).i ∧ (D.int (m : Int)).i < (D.int ((m : Int) + 1)).i ∧ (D.int ((m : Int) + 1)).i ≤ (D.lst (es.map Ety.d)).l.length := by
  rw [D.i_int, D.i_int, D.l_lst, List.length_map]; omega
 refine Eq.trans (if_pos this) ?_
 have h1 : ((m : Int) + 1).toNat = m + 1 := by omega
 simp only [D.i_int, D.l_lst, Int.toNat_natCast, h1]
 rw [List.eraseIdx_eq_take_drop_succ, List.map_append, List.map_take, List.map_drop]
theorem zFX {es : List Ety} {k : Nat} {e x : Ety} (h : x ∈ z5u es k e) : x = e ∨ x ∈ es := by
 unfold z5u at h
 rcases List.mem_append.1 h with h | h
 ·exact .inr (List.mem_of_mem_take h)
 ·rcases List.mem_cons.1 h with h | h
  ·exact .inl h
  ·exact .inr (List.mem_of_mem_drop h)
theorem zKz {es : List Ety} {e x : Ety} {k : Nat} {b : Bool} (h : x ∈ putL es e k b) : x = e ∨ x ∈ es := by
 unfold putL at h
 split at h
 ·rcases List.mem_or_eq_of_mem_set h with h | h
  ·exact .inr h
  ·exact .inl h
 ·split at h
  ·rcases zFX h with h | h
   ·exact .inl h
   ·exact .inr (List.mem_of_mem_eraseIdx h)
  ·exact zFX h
theorem zFW {es : List Ety} {k : Nat} {e : Ety} (hk : k ≤ es.length) : (z5u es k e).length = es.length + 1 := by
 simp [z5u]; omega
theorem zDU {c : Cch} (hc : c.In lim) (hr : Ris c.es) (hl : c.es.length ≤ 20) {e : Ety} (he : e.In lim) {k : Nat} {b : Bool} (hp : Pos c.es e.name e.type k b) : z28.F [c.d, e.d] = some (Cch.d ⟨c.now, putL c.es e k b⟩) := by
 have hsm := Nat.le_trans hc.len z0u
 have hlim : lim = 1048576 := rfl
 have g1 : c.d.fld 1 = .lst (c.es.map Ety.d) := rfl
 have f0 : e.d.fld 0 = .str e.name := rfl
 have f1 : e.d.fld 1 = .int e.type := rfl
 have hlen : (D.lst (c.es.map Ety.d)).l.length = c.es.length := by simp
 have own := zIF hc
 obtain ⟨k2, b2, hf, hp2⟩ := zLJ hc hr he.name e.type
 obtain ⟨rfl, rfl⟩ := hp.uniq hp2
 have hk := hp.le
 have r0 : (D.pair (.int (k : Int)) (.pair (.bool b) .unit)).fld 0 = .int k := rfl
 have r1 : ((D.pair (.int (k : Int)) (.pair (.bool b) .unit)).fld 1).b = b := rfl
 rw [zCN, f0, f1]
 refine z02 own (z02 hf ?_)
 rw [r0, r1, g1, hlen]
 cases b with
 | true =>
   obtain ⟨hk1, _⟩ := hp.eq.1 rfl
   refine z0K rfl (z0K (z0D hk1) ?_)
   rw [D.i_int, Int.toNat_natCast, D.l_lst, ← List.map_set]
   rfl
 | false =>
   refine z03 (by simp) ?_
   by_cases h20 : c.es.length = 20
   ·have hm := zGu (Nat.le_refl c.es.length) (by omega)
    have hloop : z0f (fun l4 =>
     if (decide ((gd l4 1).i < (c.es.length : Int))) then
      (if (inb (gd l4 1).i c.es.length) then
        if (inb (gd l4 0).i c.es.length) then
        if (decide (((gd (D.lst (c.es.map Ety.d)).l (gd l4 1).i.toNat).fld 5).i < ((gd (D.lst (c.es.map Ety.d)).l (gd l4 0).i.toNat).fld 5).i)) then
         ou 0 [(gd l4 1)]
        else
         ou 0 [(gd l4 0)]
        else none
        else none).bind fun o6 =>
      sel2 o6.1 (ou 0 [(gd o6.2 0), (.int (IntKind.wrap .i64 ((gd l4 1).i + 1)))]) fun _ => none
     else
      ou 1 [(gd l4 0)]) [(.int 0), (.int 0)] = some (0, [.int (minI c.es c.es.length)]) := by
     refine z1o (fun i (s : Nat) => [.int s, .int i]) c.es.length (fun i => minI c.es i) (t := 0) rfl ?_ ?_
     ·intro i hi
      have hmi : minI c.es i < c.es.length := by have := zBm c.es i; omega
      have e0 : (gd [D.int (minI c.es i : Int), D.int (i : Int)] 0).i = (minI c.es i : Nat) := rfl
      have e1 : (gd [D.int (minI c.es i : Int), D.int (i : Int)] 1).i = i := rfl
      have e2 : gd [D.int (minI c.es i : Int), D.int (i : Int)] 0 = .int (minI c.es i : Nat) := rfl
      have e3 : gd [D.int (minI c.es i : Int), D.int (i : Int)] 1 = .int i := rfl
      have u : ∀ x : Ety, (x.d.fld 5).i = x.used := fun _ => rfl
      rw [e0, e1, e2, e3, Int.toNat_natCast, Int.toNat_natCast, D.l_lst, z5U hi, z5U hmi, u, u, z0O hi hsm]
      refine z04 (by simpa using hi) (z1V (l := [.int (minI c.es (i + 1))]) (z04 (z0D hi) (z04 (z0D hmi) ?_)) rfl)
      rw [z5W, z0J hi, z0J hmi]
      by_cases h : (c.es[i]).used < (c.es[minI c.es i]).used
      ·rw [if_pos h]; exact z04 (decide_eq_true h) rfl
      ·rw [if_neg h]; exact z00 (fun h2 => h (of_decide_eq_true h2)) rfl
     ·exact z00 (by simp) rfl
    have hc2 : (⟨c.now, c.es.eraseIdx (minI c.es c.es.length)⟩ : Cch).In lim := ⟨by rw [List.length_eraseIdx, if_pos hm]; have := hc.len; show c.es.length - 1 ≤ lim; omega, fun x hx => hc.all x (List.mem_of_mem_eraseIdx hx)⟩
    obtain ⟨k3, b3, hf3, hp3⟩ := zLJ hc2 (hr.erase _) he.name e.type
    have hk3 := hp.erase hm hp3
    have hl2 : (c.es.eraseIdx (minI c.es c.es.length)).length = 19 := by rw [List.length_eraseIdx, if_pos hm]; omega
    have hins := zMG (es := c.es.eraseIdx (minI c.es c.es.length)) (by omega) hp3.le e
    refine z06 (l := [Cch.d ⟨c.now, c.es.eraseIdx (minI c.es c.es.length)⟩, .int k3]) (z04 (by simp [h20]) (z1V (l := [.int (minI c.es c.es.length)]) hloop ?_)) ?_
    ·refine z01 (zMc hm ?_) (z01 hf3 rfl)
     show IntKind.wrap .i64 (((minI c.es c.es.length : Nat) : Int) + 1) = _
     rw [z0S] <;> omega
    ·refine z02 hins ?_
     unfold putL
     rw [if_neg (by simp), if_pos h20, ← hk3]
     rfl
   ·refine z06 (l := [c.d, .int k]) (z00 (by simp; omega) rfl) (z02 (zMG hc.len hk e) ?_)
    unfold putL
    rw [if_neg (by simp), if_neg h20]
    rfl
end Go.Proofs.YtkogmjbmbpcbeaaGreatDoor
