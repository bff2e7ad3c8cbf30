/- What the functions compute, in plain words. -/
import Derived.Test.YtkogmjbmbpcbeaaGreatDoorP3
set_option linter.unusedSectionVars false
set_option linter.unusedVariables false
set_option linter.unusedSimpArgs false
namespace Go.Proofs.YtkogmjbmbpcbeaaGreatDoor
open Go Go.Own
theorem zLb {α : Type} {f : α → D} {c : List D → Option D} {xs : List α} (hl : xs.length ≤ smax) (hc : ∀ x ∈ xs, c [f x, f x] = some (.bool true)) : rn (
 if (((D.lst (xs.map f)).l.length : Int) != ((D.lst (xs.map f)).l.length : Int)) then
  ou 0 [(.bool false)]
 else
  (z0f (fun l2 =>
    if (decide ((gd l2 0).i < ((D.lst (xs.map f)).l.length : Int))) then
     if (inb (gd l2 0).i (D.lst (xs.map f)).l.length) then
     if (inb (gd l2 0).i (D.lst (xs.map f)).l.length) then
     (c [(gd (D.lst (xs.map f)).l (gd l2 0).i.toNat), (gd (D.lst (xs.map f)).l (gd l2 0).i.toNat)]).bind fun r3 =>
     if (!r3.b) then
      ou 1 []
     else
      ou 0 [(.int (IntKind.wrap .i64 ((gd l2 0).i + 1)))]
     else none
     else none
    else
     ou 2 []) [(.int 0)]).bind fun o2 =>
  sel2 o2.1 (ou 0 [(.bool false)]) fun n4 =>
  sel2 n4 (ou 0 [(.bool true)]) fun _ => none) = some (.bool true) := by
 rw [if_neg (by simp)]
 refine z0N (z1o (fun i (_ : Unit) => [.int i]) xs.length (fun _ => ()) (t := 1) (o := []) rfl ?_ ?_) rfl
 ·intro i hi
  have := hc _ (List.getElem_mem hi)
  simp [hi, z40 hi, z0D hi, z0O hi hl, this]
 ·simp
theorem zM7 {α : Type} {f : α → D} {c : List D → Option D} {xs : List α} {z : D} {eb : Nat} (he : eb ≤ 16777216) (hl : xs.length ≤ lim) (hc : ∀ x ∈ xs, c [f x] = some (f x)) : rn (
 if (makeOk eb ((D.lst (xs.map f)).l.length : Int)) then
 (z0f (fun l1 =>
   if (decide ((gd l1 1).i < ((D.lst (xs.map f)).l.length : Int))) then
    if (inb (gd l1 1).i (D.lst (xs.map f)).l.length) then
    (c [(gd (D.lst (xs.map f)).l (gd l1 1).i.toNat)]).bind fun r3 =>
    if (inb (gd l1 1).i (gd l1 0).l.length) then
    ou 0 [(D.lst ((gd l1 0).l.set (gd l1 1).i.toNat r3)), (.int (IntKind.wrap .i64 ((gd l1 1).i + 1)))]
    else none
    else none
   else
    ou 1 [(gd l1 0)]) [(D.lst (List.replicate ((D.lst (xs.map f)).l.length : Int).toNat z)), (.int 0)]).bind fun o1 =>
 sel2 o1.1 (ou 0 [(gd o1.2 0)]) fun _ => none
 else none) = some (.lst (xs.map f)) := by
 have hlen : (D.lst (xs.map f)).l.length = xs.length := by simp
 rw [hlen]; refine z0K (z7C hl he) ?_
 refine z0N (z1o (fun i (zs : List D) => [.lst zs, .int i]) xs.length (z6U (xs.map f) z) (t := 0) (o := [.lst (xs.map f)]) (by simp [zBC]) ?_ ?_) rfl
 ·intro i hi
  have hm : i < (xs.map f).length := by simpa using hi
  have hf := zDX (z := z) hm
  have ht := hc _ (List.getElem_mem hi)
  rw [List.getElem_map] at hf
  simp [hi, z40 hi, z0D hi, z0O hi (Nat.le_trans hl z0u), z8F (Nat.le_of_lt hm), hf, ht]
 ·have := zDW (xs := xs.map f) (z := z)
  rw [List.length_map] at this
  simp [this]
def SzOk {α : Type} (f : α → D) (c : Int → D → Int) (Q : α → Prop) : Prop := ∀ (x : α) (s : Int), 0 ≤ s → s ≤ lim → c s (f x) ≤ s ∧ (0 ≤ c s (f x) → Q x)
theorem zM6 {α : Type} {f : α → D} {c : Int → D → Int} {e : List D → Option D} {Q : α → Prop} {xs : List α} {left : Int} (hQ : SzOk f c Q) (hl : xs.length ≤ smax) (h0 : 0 ≤ left) (h1 : left ≤ lim)
 (hc : ∀ x ∈ xs, ∀ s : Int, 0 ≤ s → s ≤ lim → e [f x, .int s] = some (.int (c s (f x)))) : rn (
 if (decide ((IntKind.wrap .i64 ((D.int left).i - ((D.lst (xs.map f)).l.length : Int))) < 0)) then
  ou 0 [(.int (-1))]
 else
  (z0f (fun l2 =>
    if (decide ((gd l2 1).i < ((D.lst (xs.map f)).l.length : Int))) then
     if (inb (gd l2 1).i (D.lst (xs.map f)).l.length) then
     (e [(gd (D.lst (xs.map f)).l (gd l2 1).i.toNat), (gd l2 0)]).bind fun r4 =>
     if (decide (r4.i < 0)) then
      ou 1 [(.int (-1))]
     else
      ou 0 [r4, (.int (IntKind.wrap .i64 ((gd l2 1).i + 1)))]
     else none
    else
     ou 2 [(gd l2 0)]) [(.int (IntKind.wrap .i64 ((D.int left).i - ((D.lst (xs.map f)).l.length : Int)))), (.int 0)]).bind fun o2 =>
  sel2 o2.1 (ou 0 [(gd o2.2 0)]) fun n4 =>
  sel2 n4 (ou 0 [(gd o2.2 0)]) fun _ => none) = some (.int (szL c (xs.map f) left)) := by
 have hw := z6a h0 h1 hl
 have hlen : (D.lst (xs.map f)).l.length = (xs.map f).length := rfl
 have hlen' : (xs.map f).length = xs.length := by simp
 rw [hlen]
 have hw' : IntKind.wrap .i64 (left - ((xs.map f).length : Int)) = left - (xs.map f).length := by rw [hlen']; exact hw
 by_cases hlt : left - ((xs.map f).length : Int) < 0
 ·refine z0K (by rw [D.i_int, hw']; exact decide_eq_true hlt) ?_
  unfold szL
  rw [if_pos hlt]; rfl
 ·refine z03 (by rw [D.i_int, hw']; exact fun hc => hlt (of_decide_eq_true hc)) ?_
  simp only [D.l_lst, D.i_int, hw']
  refine z0N (zI1 (c := c) hlt h1 ?_ ?_ ?_) ?_
  ·intro x hx' s h1 h2
   obtain ⟨y, hy, rfl⟩ := List.mem_map.1 hx'
   exact (hQ y s h1 h2).1
  ·intro i s hi h1 h2
   have hi' : i < xs.length := by simpa using hi
   have hg : (xs.map f)[i] = f xs[i] := by simp
   have hz := hc _ (List.getElem_mem hi') s h1 h2
   rw [hg]
   constructor <;> intro hc <;> simp [hi', z40 hi', z0D hi', z0O hi' hl, hz, hc]
  ·intro s; simp
  ·rcases zGG c (xs.map f) left with h | h <;> simp [h]
theorem zKG {α : Type} {f : α → D} {c : Int → D → Int} {Q : α → Prop} (hinj : ∀ x y : α, f x = f y → x = y) (hQ : SzOk f c Q) (xs : List α) {left : Int} (h0 : 0 ≤ left) (h1 : left ≤ lim) :
 szL c (xs.map f) left ≤ left ∧ (0 ≤ szL c (xs.map f) left → xs.length ≤ lim ∧ ∀ x ∈ xs, Q x) := by
 have hs := zI2 (c := c) (Q := fun d => ∃ y : α, d = f y ∧ Q y) (xs := xs.map f) (left := left) h1 (by
  intro x hx' s h1 h2
  obtain ⟨y, hy, rfl⟩ := List.mem_map.1 hx'
  exact ⟨(hQ y s h1 h2).1, fun h => ⟨y, rfl, (hQ y s h1 h2).2 h⟩⟩) h0
 refine ⟨hs.1, fun hp => ?_⟩
 have := hs.2 hp
 refine ⟨by simpa using this.1, fun x hx => ?_⟩
 obtain ⟨y, hy, hyl⟩ := this.2 (f x) (List.mem_map.2 ⟨x, hx, rfl⟩)
 rw [hinj _ _ hy]; exact hyl
theorem rn_two {a b : Int} {e : Int → Option D} {k : D → Outc} (he : 0 ≤ a → e a = some (.int b)) (hk : k = fun r3 => if decide (r3.i < 0) then ou 0 [.int (-1)] else ou 0 [r3]) :
 rn (if decide ((D.int a).i < 0) then ou 0 [.int (-1)] else (e a).bind k) = some (.int (if a < 0 then -1 else if b < 0 then -1 else b)) := by
 subst hk
 by_cases h : a < 0
 ·rw [if_pos h]; exact z0K (decide_eq_true h) rfl
 ·rw [if_neg h]
  refine z03 (fun h' => h (of_decide_eq_true h')) (z02 (he (by omega)) ?_)
  by_cases h2 : b < 0
  ·rw [if_pos h2]; exact z0K (decide_eq_true h2) rfl
  ·rw [if_neg h2]; exact z03 (fun h' => h2 (of_decide_eq_true h')) rfl
end Go.Proofs.YtkogmjbmbpcbeaaGreatDoor
namespace Go.Own
variable [Glb]
open Go
theorem loop_inv {σ : Type} {f : List D → Outc} {l : List D} (enc : Nat → σ → List D) (Inv : Nat → σ → Prop) (n : Nat) {t : Nat} {out : σ → List D} (s0 : σ) (hl : l = enc 0 s0) (h0 : Inv 0 s0)
 (h : ∀ i s, i < n → Inv i s → ∃ s', f (enc i s) = some (0, enc (i + 1) s') ∧ Inv (i + 1) s') (hn : ∀ s, Inv n s → f (enc n s) = some (t + 1, out s)) : ∃ s, Inv n s ∧ z0f f l = some (t, out s) := by
 subst hl
 have key : ∀ m k s, m + k = n → Inv k s → ∃ s', Inv n s' ∧ z0f f (enc k s) = some (t, out s') := by
  intro m
  induction m with
  | zero =>
    intro k s hk hi
    have : k = n := by omega
    subst this
    exact ⟨s, hi, z1F (hn s hi)⟩
  | succ m ih =>
    intro k s hk hi
    obtain ⟨s', h1, h2⟩ := h k s (by omega) hi
    obtain ⟨s'', h3, h4⟩ := ih (k + 1) s' (by omega) h2
    exact ⟨s'', h3, by rw [z1j h1]; exact h4⟩
 exact key n 0 s0 (by omega) h0
theorem zFR {l : List D} {i j : Nat} {x : D} (h : i ≠ j) : gd (l.set i x) j = gd l j := by
 unfold gd
 rw [List.getD_eq_getElem?_getD, List.getD_eq_getElem?_getD, List.getElem?_set_ne h]
theorem upd_len {l : List D} {i j : Nat} {v : D} : (upd l i j v).length = l.length := by simp [upd]
theorem upd2_len {l : List D} {i j k : Nat} {v : D} : (upd2 l i j k v).length = l.length := by simp [upd2]
theorem upd_ne {l : List D} {i j m : Nat} {v : D} (h : i ≠ m) : gd (upd l i j v) m = gd l m := by unfold upd; exact zFR h
theorem upd2_ne {l : List D} {i j k m : Nat} {v : D} (h : i ≠ m) : gd (upd2 l i j k v) m = gd l m := by unfold upd2; exact zFR h
theorem gd_upd {l : List D} {i j : Nat} {v : D} (h : i < l.length) : gd (upd l i j v) i = (gd l i).setFld j v := by unfold upd; exact zFQ h
theorem gd_upd2 {l : List D} {i j k : Nat} {v : D} (h : i < l.length) : gd (upd2 l i j k v) i = (gd l i).setFld j (((gd l i).fld j).setFld k v) := by unfold upd2; exact zFQ h
end Go.Own
namespace Go.Proofs.YtkogmjbmbpcbeaaGreatDoor
open Go Go.Own
theorem w_succ {k : Int} (h0 : 0 ≤ k) (h1 : k ≤ 100000000000000000) : IntKind.wrap .i64 (k + 1) = k + 1 := z0S (by omega) (by omega)
end Go.Proofs.YtkogmjbmbpcbeaaGreatDoor
namespace Go.Proofs.YtkogmjbmbpcbeaaGreatDoor
open Go Go.Own
theorem zL3 {o : Outc} {l : List D} {A : Nat × List D → Outc} {B : Nat × List D → Nat → Outc} {R : Option D} (h : o = some (1, l)) (hk : rn (B (1, l) 0) = R) : rn (o.bind fun o => sel2 o.1 (A o) (B o)) = R := by
 rw [h]; exact hk
theorem zLu {A : Outc} {B : Nat → Outc} {R : Option D} (hk : rn A = R) : rn (sel2 0 A B) = R := hk
theorem z1V {o : Outc} {l : List D} {A : Nat × List D → Outc} {B : Nat × List D → Nat → Outc} {R : Option (Nat × List D)} (h : o = some (0, l)) (hk : A (0, l) = R) : (o.bind fun o => sel2 o.1 (A o) (B o)) = R := by
 rw [h]; exact hk
theorem out_bind1 {o : Outc} {l : List D} {A : Nat × List D → Outc} {B : Nat × List D → Nat → Outc} {R : Outc} (h : o = some (1, l)) (hk : B (1, l) 0 = R) : (o.bind fun o => sel2 o.1 (A o) (B o)) = R := by
 rw [h]; exact hk
end Go.Proofs.YtkogmjbmbpcbeaaGreatDoor
namespace Go.Proofs.YtkogmjbmbpcbeaaGreatDoor
open Go Go.Own
structure RIn (B : Nat) (l : List Rec) : Prop where
 len : l.length ≤ B
 all : ∀ r ∈ l, r.In B
structure Ety where
 name : List UInt8
 type : Int
 none : Bool
 recs : List Rec
 till : Int
 used : Int
def Ety.d (e : Ety) : D := .pair (.str e.name) (.pair (.int e.type) (.pair (.bool e.none) (.pair (.lst (e.recs.map Rec.d)) (.pair (.int e.till) (.pair (.int e.used) .unit)))))
structure Ety.In (B : Nat) (e : Ety) : Prop where
 name : e.name.length ≤ B
 recs : RIn B e.recs
structure Cch where
 now : Int
 es : List Ety
def Cch.d (c : Cch) : D := .pair (.int c.now) (.pair (.lst (c.es.map Ety.d)) .unit)
structure Cch.In (B : Nat) (c : Cch) : Prop where
 len : c.es.length ≤ B
 all : ∀ e ∈ c.es, e.In B
theorem RIn.smax {l : List Rec} (h : RIn lim l) : RIn smax l := ⟨Nat.le_trans h.len z0u, fun r hr => ⟨Nat.le_trans (h.all r hr).name z0u, Nat.le_trans (h.all r hr).data z0u⟩⟩
theorem Ety.In.smax {e : Ety} (h : e.In lim) : e.In smax := ⟨Nat.le_trans h.name z0u, h.recs.smax⟩
abbrev tEty : T := .pair .str (.pair (.int .i64) (.pair .bool (.pair (.lst false tRec) (.pair (.int .i64) (.pair (.int .i64) .unit)))))
abbrev tCch : T := .pair (.int .i64) (.pair (.lst false tEty) .unit)
theorem zJu {B : Nat} {o : Bool} {d : D} (h : Sm B (.lst o tRec) d) : ∃ l : List Rec, d = .lst (l.map Rec.d) ∧ RIn B l := by
 obtain ⟨xs, rfl, hl, hc⟩ := h
 obtain ⟨ys, rfl, hys⟩ := zGr (g := Rec.d) (Q := fun r => r.In B) (fun x hx => zMW (hc x hx))
 exact ⟨ys, rfl, by simpa using hl, hys⟩
theorem zMC {B : Nat} {d : D} (h : Sm B tEty d) : ∃ x : Ety, d = x.d ∧ x.In B := by
 obtain ⟨_, _, rfl, ⟨s, rfl, hs⟩, _, _, rfl, ⟨n, rfl, _⟩, _, _, rfl, ⟨b, rfl⟩, _, _, rfl, h1, _, _, rfl, ⟨t, rfl, _⟩, _, _, rfl, ⟨u, rfl, _⟩, rfl⟩ := h
 obtain ⟨l, rfl, hl⟩ := zJu h1
 exact ⟨⟨s, n, b, l, t, u⟩, rfl, hs, hl⟩
theorem zLG {B : Nat} {d : D} (h : Sm B tCch d) : ∃ x : Cch, d = x.d ∧ x.In B := by
 obtain ⟨_, _, rfl, ⟨n, rfl, _⟩, _, _, rfl, ⟨xs, rfl, hl, hc⟩, rfl⟩ := h
 obtain ⟨ys, rfl, hys⟩ := zGr (g := Ety.d) (Q := fun r => r.In B) (fun x hx => zMC (hc x hx))
 exact ⟨⟨n, ys⟩, rfl, by simpa using hl, hys⟩
theorem zL0 {a b : List Rec} (h : a.map Rec.d = b.map Rec.d) : a = b := (List.map_inj_right (fun _ _ => Rec.d_inj)).1 h
theorem Ety.d_inj {x y : Ety} (h : x.d = y.d) : x = y := by
 obtain ⟨a, b, c, e, f, g⟩ := x
 obtain ⟨a', b', c', e', f', g'⟩ := y
 simp only [Ety.d, D.pair.injEq, D.int.injEq, D.bool.injEq, D.str.injEq, D.lst.injEq] at h
 obtain ⟨h1, h2, h3, h4, h5, h6, _⟩ := h
 have h4 := zL0 h4
 subst h1; subst h2; subst h3; subst h4; subst h5; subst h6; rfl
theorem zJ8 {x : Ety} (hx : x.In smax) : z30.F [x.d, x.d] = some (.bool true) := by
 have f3 : x.d.fld 3 = .lst (x.recs.map Rec.d) := rfl
 rw [zDG, f3]
 exact z03 (by simp) (z03 (by simp) (z03 (by simp) (z02 (zB6 hx.recs.len) (z03 (by simp) (z03 (by simp) (z03 (by simp) rfl))))))
theorem zIB {xs : List Ety} (hl : xs.length ≤ smax) (hx : ∀ x ∈ xs, x.In smax) : z3G.F [.lst (xs.map Ety.d), .lst (xs.map Ety.d)] = some (.bool true) := by
 rw [zCO]; exact zLb (c := z30.F) hl fun x h => zJ8 (hx x h)
theorem z8B {c : Cch} (hc : c.In smax) : z0e.F [c.d, c.d] = some (.bool true) := by
 have f1 : c.d.fld 1 = .lst (c.es.map Ety.d) := rfl
 rw [zDF, f1]
 exact z03 (by simp) (z02 (zIB hc.len hc.all) (z03 (by simp) rfl))
theorem zJF {x : Ety} (hx : x.In lim) : z33.F [x.d] = some x.d := by
 have f3 : x.d.fld 3 = .lst (x.recs.map Rec.d) := rfl
 rw [zDJ, f3]
 exact z02 (zB9 hx.recs.len) rfl
theorem zIJ {xs : List Ety} (hl : xs.length ≤ lim) (hx : ∀ x ∈ xs, x.In lim) : z3K.F [.lst (xs.map Ety.d)] = some (.lst (xs.map Ety.d)) := by
 rw [zCT]; exact zM7 (c := z33.F) (by decide) hl fun x h => zJF (hx x h)
theorem zFL {c : Cch} (hc : c.In lim) : z0n.F [c.d] = some c.d := by
 have f1 : c.d.fld 1 = .lst (c.es.map Ety.d) := rfl
 rw [zDI, f1]
 exact z02 (zIJ hc.len hc.all) rfl
def zIi (s : Int) (x : D) : Int := if s - (x.fld 0).s.length < 0 then -1 else if szL z66 (x.fld 3).l (s - (x.fld 0).s.length) < 0 then -1 else szL z66 (x.fld 3).l (s - (x.fld 0).s.length)
theorem zKF (left : Int) (x : Ety) : zIi left x.d = if left - (x.name.length : Int) < 0 then -1 else if szL z66 (x.recs.map Rec.d) (left - (x.name.length : Int)) < 0 then -1 else szL z66 (x.recs.map Rec.d) (left - (x.name.length : Int)) := rfl
theorem zJE {x : Ety} {left : Int} (hx : x.In smax) (h0 : 0 ≤ left) (h1 : left ≤ lim) : z32.F [x.d, .int left] = some (.int (zIi left x.d)) := by
 rw [zDH]
 have f0 : (x.d.fld 0).s = x.name := rfl
 have f3 : x.d.fld 3 = .lst (x.recs.map Rec.d) := rfl
 rw [zKF, f0, f3, D.i_int, z6a h0 h1 hx.name]
 by_cases h : left - (x.name.length : Int) < 0
 ·rw [if_pos h]; exact z0K (decide_eq_true h) rfl
 ·rw [if_neg h]
  refine z03 (fun h' => h (of_decide_eq_true h')) (z02 (zB8 hx.recs.len hx.recs.all (by omega) (by omega)) ?_)
  by_cases h2 : szL z66 (x.recs.map Rec.d) (left - (x.name.length : Int)) < 0
  ·rw [if_pos h2]; exact z0K (decide_eq_true h2) rfl
  ·rw [if_neg h2]; exact z03 (fun h' => h2 (of_decide_eq_true h')) rfl
theorem zEr : SzOk Ety.d zIi (fun x => x.In lim) := by
 intro x s h0 h1
 rw [zKF]
 by_cases h : s - (x.name.length : Int) < 0
 ·rw [if_pos h]; exact ⟨by omega, fun h => by omega⟩
 ·rw [if_neg h]
  have hr := zHG (xs := x.recs) (left := s - (x.name.length : Int)) (by omega) (by omega)
  by_cases h2 : szL z66 (x.recs.map Rec.d) (s - (x.name.length : Int)) < 0
  ·rw [if_pos h2]; exact ⟨by omega, fun h => by omega⟩
  ·rw [if_neg h2]
   exact ⟨by omega, fun hp => ⟨by omega, (hr.2 hp).1, (hr.2 hp).2⟩⟩
theorem zDV {xs : List Ety} {left : Int} (hl : xs.length ≤ smax) (hx : ∀ x ∈ xs, x.In smax) (h0 : 0 ≤ left) (h1 : left ≤ lim) : z3I.F [.lst (xs.map Ety.d), .int left] = some (.int (szL zIi (xs.map Ety.d) left)) := by
 rw [zCR]; exact zM6 (e := z32.F) zEr hl h0 h1 fun x h s a b => zJE (hx x h) a b
theorem zJD {c : Cch} {left : Int} (hc : c.In smax) (h0 : 0 ≤ left) (h1 : left ≤ lim) : ∃ r, z1u.F [c.d, .int left] = some (.int r) ∧ (0 ≤ r → c.In lim) := by
 rw [z7Y]
 have f1 : c.d.fld 1 = .lst (c.es.map Ety.d) := rfl
 rw [f1]
 have hs := zDV (left := left) hc.len hc.all h0 h1
 have hss := zKG (f := Ety.d) (fun _ _ => Ety.d_inj) zEr c.es (left := left) h0 h1
 by_cases h : szL zIi (c.es.map Ety.d) left < 0
 ·exact ⟨-1, z02 hs (z0K (decide_eq_true h) rfl), by omega⟩
 ·exact ⟨_, z02 hs (z03 (fun h' => h (of_decide_eq_true h')) rfl), fun hp => ⟨(hss.2 hp).1, (hss.2 hp).2⟩⟩
end Go.Proofs.YtkogmjbmbpcbeaaGreatDoor
namespace Go.Proofs.YtkogmjbmbpcbeaaGreatDoor
open Go Go.Own
noncomputable def z4Y (k : Int) (e : Ety) : Ety := ⟨mtA k, k + 1, ((k + 2).tmod 3 == 0), z39 (k + 3) e.recs.length, k + 3 + 4 * e.recs.length, k + 3 + 4 * e.recs.length + 1⟩
noncomputable def mkEs : Int → List Ety → List Ety × Int
 | k, [] => ([], k)
 | k, e :: l => (z4Y k e :: (mkEs (k + 5 + 4 * e.recs.length) l).1, (mkEs (k + 5 + 4 * e.recs.length) l).2)
theorem z5B : ∀ (l : List Ety) (k : Int), (mkEs k l).1.length = l.length
 | [], _ => rfl
 | e :: l, k => by simp [mkEs, z5B l]
theorem zBp : ∀ (l : List Ety) (k : Int) (e : Ety), mkEs k (l ++ [e]) = ((mkEs k l).1 ++ [z4Y (mkEs k l).2 e], (mkEs k l).2 + 5 + 4 * e.recs.length)
 | [], k, e => rfl
 | x :: l, k, e => by simp only [List.cons_append, mkEs, zBp l]
theorem zHj : ∀ (l : List Ety) (k : Int) (i : Nat) (h : i < l.length) (h' : i < (mkEs k l).1.length), (mkEs k l).1[i] = z4Y (mkEs k (l.take i)).2 l[i]
 | e :: l, k, 0, _, _ => rfl
 | e :: l, k, i + 1, h, h' => by
   simp only [mkEs, List.getElem_cons_succ, List.take_succ_cons]
   exact zHj l _ i (by simpa using h) _
theorem z3T {B : Nat} : ∀ {l : List Ety} {k : Int}, (∀ e ∈ l, e.recs.length ≤ B) → k ≤ (mkEs k l).2 ∧ (mkEs k l).2 ≤ k + l.length * (5 + 4 * B : Nat)
 | [], k, _ => by simp [mkEs]
 | e :: l, k, h => by
   have h1 := h e (by simp)
   have h2 := z3T (k := k + 5 + 4 * e.recs.length) (l := l) fun x hx => h x (by simp [hx])
   simp only [mkEs, List.length_cons]
   rw [Int.natCast_add, Int.add_mul, Int.natCast_one, Int.one_mul]
   omega
theorem zM1 {α : Type} {A B : List α} {x y : α} {i : Nat} (h : i = A.length) : (A ++ x :: B).set i y = A ++ y :: B := by
 subst h; simp
theorem zML {A B : List D} {x : D} {i : Nat} (h : i = A.length) : gd (A ++ x :: B) i = x := by
 subst h; unfold gd; simp
noncomputable def midE (k : Int) (es : List Ety) (i : Nat) : List D := (mkEs k (es.take i)).1.map Ety.d ++ (es.drop i).map Ety.d
theorem zKn {k : Int} {es : List Ety} {i : Nat} (h : i ≤ es.length) : (midE k es i).length = es.length := by simp [midE, z5B]; omega
theorem zFI {es : List Ety} {k : Int} {B : Nat} (hB : ∀ e ∈ es, e.recs.length ≤ B) (hl : es.length ≤ lim) (h0 : 0 ≤ k) (h1 : k + es.length * (5 + 4 * B : Nat) < 10 ^ 17) :
 z2g.F [.lst (es.map Ety.d), .int k] = some (.pair (.int (mkEs k es).2) (.pair (.lst ((mkEs k es).1.map Ety.d)) .unit)) := by
 have h10 := zDn
 have h17 : (10 : Int) ^ 17 = 100000000000000000 := by decide
 have hsm := Nat.le_trans hl z0u
 rw [z9e]
 refine z06 (z1o (fun i (s : List D × Int) => [.lst s.1, .int s.2, .int i]) es.length (fun i => (midE k es i, (mkEs k (es.take i)).2)) (t := 0) (o := [.lst ((mkEs k es).1.map Ety.d), .int (mkEs k es).2]) (by simp [midE, mkEs]) ?_ ?_) rfl
 ·intro i hi
  have hkb := z3T (B := B) (k := k) (l := es.take i) fun e he => hB e (List.mem_of_mem_take he)
  have hkb2 := z3T (B := B) (k := k) (l := es.take (i + 1)) fun e he => hB e (List.mem_of_mem_take he)
  have hbb : ((es.take (i + 1)).length : Int) * (5 + 4 * B : Nat) ≤ es.length * (5 + 4 * B : Nat) := Int.mul_le_mul_of_nonneg_right (by simp; omega) (by omega)
  have htk : es.take (i + 1) = es.take i ++ [es[i]] := by rw [List.take_add_one]; simp [hi]
  have hsn := zBp (es.take i) k es[i]
  rw [← htk] at hsn
  rw [hsn] at hkb2 ⊢
  simp only at hkb2
  have hml := z5B (es.take i) k
  have hti : (es.take i).length = i := by simp; omega
  rw [hti] at hml
  generalize hK : (mkEs k (es.take i)).2 = K at hkb hkb2
  generalize hn : (es[i]).recs.length = n at hkb2
  have hdrop : es.drop i = es[i] :: es.drop (i + 1) := (List.drop_eq_getElem_cons hi)
  have hmid : midE k es i = (mkEs k (es.take i)).1.map Ety.d ++ (es[i]).d :: (es.drop (i + 1)).map Ety.d := by unfold midE; rw [hdrop]; rfl
  have hnext : midE k es (i + 1) = (mkEs k (es.take i)).1.map Ety.d ++ (z4Y K es[i]).d :: (es.drop (i + 1)).map Ety.d := by
   unfold midE; rw [hsn, hK]; simp
  have hL := zKn (k := k) (es := es) (i := i) (Nat.le_of_lt hi)
  have hg : gd (midE k es i) i = (es[i]).d := by rw [hmid]; exact zML (by simp [hml])
  have hset : ∀ y : Ety, (midE k es i).set i y.d = (mkEs k (es.take i)).1.map Ety.d ++ y.d :: (es.drop (i + 1)).map Ety.d := fun y => by rw [hmid]; exact zM1 (by simp [hml])
  have hLi : i < (midE k es i).length := by rw [hL]; exact hi
  have w1 : IntKind.wrap .i64 (K + 1) = K + 1 := by rw [z0S] <;> omega
  have w2 : IntKind.wrap .i64 (K + 1 + 1) = K + 2 := by rw [z0S] <;> omega
  have w3 : IntKind.wrap .i64 (K + 2 + 1) = K + 3 := by rw [z0S] <;> omega
  have w4 : IntKind.wrap .i64 (K + 3 + 4 * (n : Int) + 1) = K + 3 + 4 * n + 1 := by rw [z0S] <;> omega
  have w5 : IntKind.wrap .i64 (K + 3 + 4 * (n : Int) + 1 + 1) = K + 5 + 4 * n := by rw [z0S] <;> omega
  have hm := zDc (k := K) (by omega) (by omega)
  have hr := z8E (xs := (es[i]).recs) (k := K + 3) (by omega) (by omega)
  rw [hn] at hr
  refine z04 (by simp [hL]; omega) (z01 hm (z04 ?_ (z04 rfl (z01 (r := .pair (.int (K + 3 + 4 * n)) (.pair (.lst ((z39 (K + 3) n).map Rec.d)) .unit)) ?_ ?_))))
  ·simp only [z1G, z69, D.l_lst, D.i_int, hL]; exact z0D hi
  ·simp only [upd, z1G, z3Z, z69, D.l_lst, D.i_int, Int.toNat_natCast, List.set_set, zFQ hLi, hg, w1, w2, w3]
   exact hr
  ·have e0 : (D.pair (.int (K + 3 + 4 * (n : Int))) (.pair (.lst ((z39 (K + 3) n).map Rec.d)) .unit)).fld 0 = .int (K + 3 + 4 * n) := rfl
   have e1 : (D.pair (.int (K + 3 + 4 * (n : Int))) (.pair (.lst ((z39 (K + 3) n).map Rec.d)) .unit)).fld 1 = .lst ((z39 (K + 3) n).map Rec.d) := rfl
   simp only [upd, z1G, z3Z, z69, D.l_lst, D.i_int, Int.toNat_natCast, List.set_set, zFQ hLi, hg, w1, w2, w3, e0, e1, w4, w5, z0O hi hsm]
   rw [hnext, ← hset]
   unfold z4Y
   rw [hn]
   rfl
 ·have hd : midE k es es.length = (mkEs k es).1.map Ety.d := by simp [midE]
  rw [List.take_length]
  simp only [hd]
  exact z00 (by simp [z5B]) rfl
theorem z9s {es : List Ety} {k : Int} {B : Nat} (hB : ∀ e ∈ es, e.recs.length ≤ B) (hl : es.length ≤ lim) (h0 : 0 ≤ k) (h1 : k + es.length * (5 + 4 * B : Nat) < 10 ^ 17) :
 z2f.F [.lst ((mkEs k es).1.map Ety.d), .int k] = some (.int (mkEs k es).2) := by
 have h10 := zDn
 have h17 : (10 : Int) ^ 17 = 100000000000000000 := by decide
 have hsm := Nat.le_trans hl z0u
 have hlen : (D.lst ((mkEs k es).1.map Ety.d)).l.length = es.length := by simp [z5B]
 rw [z9d, hlen]
 refine zL3 (z1o (fun i (s : Int) => [.int s, .int i]) es.length (fun i => (mkEs k (es.take i)).2) (t := 1) (o := [.int (mkEs k es).2]) (by simp [mkEs]) ?_ ?_) (zLu rfl)
 ·intro i hi
  have hkb := z3T (B := B) (k := k) (l := es.take i) fun e he => hB e (List.mem_of_mem_take he)
  have hkb2 := z3T (B := B) (k := k) (l := es.take (i + 1)) fun e he => hB e (List.mem_of_mem_take he)
  have hbb : ((es.take (i + 1)).length : Int) * (5 + 4 * B : Nat) ≤ es.length * (5 + 4 * B : Nat) := Int.mul_le_mul_of_nonneg_right (by simp; omega) (by omega)
  have htk : es.take (i + 1) = es.take i ++ [es[i]] := by rw [List.take_add_one]; simp [hi]
  have hsn := zBp (es.take i) k es[i]
  rw [← htk] at hsn
  rw [hsn] at hkb2 ⊢
  simp only at hkb2
  have hi' : i < (mkEs k es).1.length := by rw [z5B]; exact hi
  have hget := zHj es k i hi hi'
  generalize hK : (mkEs k (es.take i)).2 = K at hkb hkb2 hget
  have hg : gd ((mkEs k es).1.map Ety.d) i = (z4Y K es[i]).d := by rw [z40 hi', hget]
  generalize hn : (es[i]).recs.length = n at hkb2
  have w1 : IntKind.wrap .i64 (K + 1) = K + 1 := by rw [z0S] <;> omega
  have w2 : IntKind.wrap .i64 (K + 1 + 1) = K + 2 := by rw [z0S] <;> omega
  have w3 : IntKind.wrap .i64 (K + 2 + 1) = K + 3 := by rw [z0S] <;> omega
  have w4 : IntKind.wrap .i64 (K + 3 + 4 * (n : Int) + 1) = K + 3 + 4 * n + 1 := by rw [z0S] <;> omega
  have w5 : IntKind.wrap .i64 (K + 3 + 4 * (n : Int) + 1 + 1) = K + 5 + 4 * n := by rw [z0S] <;> omega
  have hm := zDc (k := K) (by omega) (by omega)
  have hr := zE7 (n := n) (k := K + 3) (by omega) (by omega)
  have f0 : ((z4Y K es[i]).d.fld 0).s = mtA K := rfl
  have f1 : ((z4Y K es[i]).d.fld 1).i = K + 1 := rfl
  have f2 : ((z4Y K es[i]).d.fld 2).b = ((K + 2).tmod 3 == 0) := rfl
  have f3 : (z4Y K es[i]).d.fld 3 = .lst ((z39 (K + 3) n).map Rec.d) := by rw [← hn]; rfl
  have f4 : ((z4Y K es[i]).d.fld 4).i = K + 3 + 4 * n := by rw [← hn]; rfl
  have f5 : ((z4Y K es[i]).d.fld 5).i = K + 3 + 4 * n + 1 := by rw [← hn]; rfl
  refine z04 (decide_eq_true (by simp; omega)) (z04 (by rw [z5B] at hi'; simpa [z5B] using z0D hi) (z01 hm ?_))
  simp only [z1G, z3Z, D.l_lst, D.i_int, Int.toNat_natCast, hg, f0, f1, f2, f3, f4, f5, w1, w2, w3]
  refine z00 (by simp) (z00 (by simp) (z04 rfl (z00 (by simp) (z01 hr ?_))))
  simp only [D.i_int, w4, w5, z0O hi hsm]
  exact z00 (fun h => absurd (of_decide_eq_true h) (by omega)) (z00 (by simp) (z00 (by simp) rfl))
 ·rw [List.take_length]
  exact z00 (by simp) rfl
end Go.Proofs.YtkogmjbmbpcbeaaGreatDoor
namespace Go.Own
open Go
theorem Cmp.prod {α β : Type} {c : α → α → Int} {d : β → β → Int} (hc : Cmp c) (hd : Cmp d) : Cmp (fun p q : α × β => if c p.1 q.1 = 0 then d p.2 q.2 else c p.1 q.1) where
 refl := by intro x; simp [hc.refl, hd.refl]
 eq := by
  rintro ⟨a, b⟩ ⟨a', b'⟩ h
  simp only at h
  split at h
  ·rename_i h1; rw [hc.eq _ _ h1, hd.eq _ _ h]
  ·rename_i h1; exact absurd h h1
 trans := by
  rintro ⟨a, b⟩ ⟨a', b'⟩ ⟨a'', b''⟩ h1 h2
  simp only at h1 h2 ⊢
  by_cases e1 : c a a' = 0
  ·have := hc.eq _ _ e1; subst this
   rw [if_pos e1] at h1
   by_cases e2 : c a a'' = 0
   ·rw [if_pos e2] at h2 ⊢; exact hd.trans _ _ _ h1 h2
   ·rw [if_neg e2] at h2 ⊢; exact h2
  ·rw [if_neg e1] at h1
   by_cases e2 : c a' a'' = 0
   ·have := hc.eq _ _ e2; subst this
    rw [if_neg e1]; exact h1
   ·rw [if_neg e2] at h2
    have := hc.lt h1 h2 (.inl e1)
    rw [if_neg (by omega)]; omega
 anti := by
  rintro ⟨a, b⟩ ⟨a', b'⟩ h1 h2
  simp only at h1 h2 ⊢
  by_cases e1 : c a a' = 0
  ·have := hc.eq _ _ e1; subst this
   rw [if_pos e1] at h1 h2 ⊢; exact hd.anti _ _ h1 h2
  ·rw [if_neg e1] at h1
   by_cases e2 : c a' a = 0
   ·have := hc.eq _ _ e2; subst this; exact absurd e2 e1
   ·rw [if_neg e2] at h2; exact absurd (hc.anti _ _ h1 h2) e1
end Go.Own
namespace Go.Proofs.YtkogmjbmbpcbeaaGreatDoor
open Go Go.Own
def zJP (b : UInt8) : List (List UInt8) → List UInt8
 | [] => []
 | [p] => p
 | p :: q :: ps => p ++ b :: zJP b (q :: ps)
theorem z9H (b : UInt8) : ∀ s : List UInt8, zJP b (splB b s) = s
 | [] => rfl
 | c :: s => by
   have ih := z9H b s
   unfold splB
   split
   ·rename_i h
    subst h
    cases hq : splB c s with
    | nil => exact absurd hq (z6y c s)
    | cons q ps => rw [hq] at ih; simp only [zJP, List.nil_append]; rw [ih]
   ·split
    ·rename_i p ps hq
     rw [hq] at ih
     cases ps with
     | nil => simp only [zJP] at ih ⊢; rw [ih]
     | cons q ps => simp only [zJP, List.cons_append] at ih ⊢; rw [ih]
    ·rename_i hq
     exact absurd hq (z6y b s)
theorem zJs {a b : List UInt8} (h : z1N a = z1N b) : a = b := by
 unfold z1N at h
 by_cases ha : a = []
 ·subst ha
  by_cases hb : b = []
  ·exact hb.symm
  ·have : b.isEmpty = false := by cases b <;> simp_all
   rw [this] at h
   simp only [List.isEmpty_nil, if_true, Bool.false_eq_true, if_false] at h
   exact absurd h.symm (z6y 46 b)
 ·have ea : a.isEmpty = false := by cases a <;> simp_all
  rw [ea] at h
  by_cases hb : b = []
  ·subst hb
   simp only [List.isEmpty_nil, if_true, Bool.false_eq_true, if_false] at h
   exact absurd h (z6y 46 a)
  ·have eb : b.isEmpty = false := by cases b <;> simp_all
   rw [eb] at h
   simp only [Bool.false_eq_true, if_false] at h
   rw [← z9H 46 a, h, z9H]
theorem zKX : Cmp cmpN where
 refl := fun x => zAo.refl _
 eq := fun x y h => zJs (List.reverse_inj.1 (zAo.eq _ _ h))
 trans := fun x y z => zAo.trans _ _ _
 anti := fun x y => zAo.anti _ _
def cmpP (p q : List UInt8 × Int) : Int := if cmpN p.1 q.1 = 0 then intC p.2 q.2 else cmpN p.1 q.1
theorem z89 : Cmp cmpP := zKX.prod z58
theorem zKo {a b : Nat} (h : a + b ≤ 4 * lim) : IntKind.wrap .i64 ((IntKind.wrap .u64 (IntKind.wrap .i64 ((a : Int) + (b : Int)))).fdiv (2 ^ min 1 (IntKind.bits .u64))) = (((a + b) / 2 : Nat) : Int) := by
 have hlim : lim = 1048576 := rfl
 have w1 : IntKind.wrap .i64 ((a : Int) + (b : Int)) = ((a + b : Nat) : Int) := by rw [z0S] <;> omega
 have w2 : IntKind.wrap .u64 ((a + b : Nat) : Int) = ((a + b : Nat) : Int) := by
  have : IntKind.wrap .u64 ((a + b : Nat) : Int) = ((a + b : Nat) : Int) % 2 ^ 64 := by simp [IntKind.wrap, IntKind.bits, IntKind.signed]
  rw [this]; omega
 have e : min 1 (IntKind.bits .u64) = 1 := rfl
 rw [w1, w2, e, zE8, show (2 : Nat) ^ 1 = 2 from rfl, z0S] <;> omega
theorem zMA {α : Type} {f : α → D} {c : D → Option D} {xs : List α} {cv : α → Int} (hl : xs.length ≤ lim) (hc : ∀ x ∈ xs, c (f x) = some (.int (cv x)))
 (mono : ∀ i j (hi : i < xs.length) (hj : j < xs.length), i ≤ j → cv xs[j] < 0 → cv xs[i] < 0) :
 ∃ k : Nat, k ≤ xs.length ∧ (∀ i (hi : i < xs.length), i < k → cv xs[i] < 0) ∧ (∀ i (hi : i < xs.length), k ≤ i → 0 ≤ cv xs[i]) ∧ ∃ b : Bool, (b = true ↔ ∃ h : k < xs.length, cv xs[k] = 0) ∧ rn ((z0f (fun l3 =>
  if (decide ((gd l3 0).i < (gd l3 1).i)) then
   if (decide (0 ≤ 1)) then
   if (inb (IntKind.wrap .i64 ((IntKind.wrap .u64 (IntKind.wrap .i64 ((gd l3 0).i + (gd l3 1).i))).fdiv (2 ^ min 1 (IntKind.bits .u64)))) (D.lst (xs.map f)).l.length) then
   (c (gd (D.lst (xs.map f)).l (IntKind.wrap .i64 ((IntKind.wrap .u64 (IntKind.wrap .i64 ((gd l3 0).i + (gd l3 1).i))).fdiv (2 ^ min 1 (IntKind.bits .u64)))).toNat)).bind fun r5 =>
   if (decide (r5.i < 0)) then
    ou 0 [(.int (IntKind.wrap .i64 ((IntKind.wrap .i64 ((IntKind.wrap .u64 (IntKind.wrap .i64 ((gd l3 0).i + (gd l3 1).i))).fdiv (2 ^ min 1 (IntKind.bits .u64)))) + 1))), (gd l3 1)]
   else
    ou 0 [(gd l3 0), (.int (IntKind.wrap .i64 ((IntKind.wrap .u64 (IntKind.wrap .i64 ((gd l3 0).i + (gd l3 1).i))).fdiv (2 ^ min 1 (IntKind.bits .u64)))))]
   else none
   else none
  else
   ou 1 [(gd l3 0)]) [(.int 0), (.int ((D.lst (xs.map f)).l.length : Int))]).bind fun o3 =>
 sel2 o3.1 ((if (decide ((gd o3.2 0).i < ((D.lst (xs.map f)).l.length : Int))) then
  if (inb (gd o3.2 0).i (D.lst (xs.map f)).l.length) then
  (c (gd (D.lst (xs.map f)).l (gd o3.2 0).i.toNat)).bind fun r4 =>
  ou 0 [(gd o3.2 0), (.bool (r4.i == 0))]
  else none
  else
   ou 0 [(gd o3.2 0), (.bool false)]).bind fun o4 =>
  sel2 o4.1 (ou 0 [(.pair (gd o4.2 0) (.pair (gd o4.2 1) .unit))]) fun _ => none) fun _ => none) = some (.pair (.int k) (.pair (.bool b) .unit)) := by
 have hlim : lim = 1048576 := rfl
 have hlen : (D.lst (xs.map f)).l.length = xs.length := by simp
 rw [hlen]
 have key : ∀ (m lo hi : Nat), hi - lo ≤ m → lo ≤ hi → hi ≤ xs.length → (∀ i (h : i < xs.length), i < lo → cv xs[i] < 0) → (∀ i (h : i < xs.length), hi ≤ i → 0 ≤ cv xs[i]) →
  ∃ k : Nat, k ≤ xs.length ∧ (∀ i (hi : i < xs.length), i < k → cv xs[i] < 0) ∧ (∀ i (hi : i < xs.length), k ≤ i → 0 ≤ cv xs[i]) ∧ z0f (fun l3 =>
  if (decide ((gd l3 0).i < (gd l3 1).i)) then
   if (decide (0 ≤ 1)) then
   if (inb (IntKind.wrap .i64 ((IntKind.wrap .u64 (IntKind.wrap .i64 ((gd l3 0).i + (gd l3 1).i))).fdiv (2 ^ min 1 (IntKind.bits .u64)))) xs.length) then
   (c (gd (D.lst (xs.map f)).l (IntKind.wrap .i64 ((IntKind.wrap .u64 (IntKind.wrap .i64 ((gd l3 0).i + (gd l3 1).i))).fdiv (2 ^ min 1 (IntKind.bits .u64)))).toNat)).bind fun r5 =>
   if (decide (r5.i < 0)) then
    ou 0 [(.int (IntKind.wrap .i64 ((IntKind.wrap .i64 ((IntKind.wrap .u64 (IntKind.wrap .i64 ((gd l3 0).i + (gd l3 1).i))).fdiv (2 ^ min 1 (IntKind.bits .u64)))) + 1))), (gd l3 1)]
   else
    ou 0 [(gd l3 0), (.int (IntKind.wrap .i64 ((IntKind.wrap .u64 (IntKind.wrap .i64 ((gd l3 0).i + (gd l3 1).i))).fdiv (2 ^ min 1 (IntKind.bits .u64)))))]
   else none
   else none
  else
   ou 1 [(gd l3 0)]) [.int lo, .int hi] = some (0, [.int k]) := by
  intro m
  induction m with
  | zero =>
    intro lo hi h1 h2 h3 h4 h5
    have : lo = hi := by omega
    subst this
    exact ⟨lo, h3, h4, h5, z1F (z00 (by simp) rfl)⟩
  | succ m ih =>
    intro lo hi h1 h2 h3 h4 h5
    by_cases hlt : lo < hi
    ·have hm := zKo (a := lo) (b := hi) (by omega)
     have hmid : (lo + hi) / 2 < xs.length := by omega
     have g0 : (gd [D.int (lo : Int), D.int (hi : Int)] 0).i = (lo : Int) := rfl
     have g1 : (gd [D.int (lo : Int), D.int (hi : Int)] 1).i = (hi : Int) := rfl
     have hcm := hc _ (List.getElem_mem hmid)
     by_cases hneg : cv xs[(lo + hi) / 2] < 0
     ·obtain ⟨k, k1, k2, k3, k4⟩ := ih ((lo + hi) / 2 + 1) hi (by omega) (by omega) h3 (fun i h hi' => mono i _ h hmid (by omega) hneg) h5
      refine ⟨k, k1, k2, k3, ?_⟩
      rw [z1j (l' := [.int (((lo + hi) / 2 + 1 : Nat) : Int), .int hi]) ?_]
      ·exact k4
      ·have w : IntKind.wrap .i64 ((((lo + hi) / 2 : Nat) : Int) + 1) = (((lo + hi) / 2 + 1 : Nat) : Int) := by rw [z0S] <;> omega
       rw [g0, g1, hm, w]
       refine z04 (decide_eq_true (by omega)) (z04 (by decide) (z04 (z0D hmid) ?_))
       rw [Int.toNat_natCast, D.l_lst, z40 hmid]
       exact z01 hcm (z04 (decide_eq_true hneg) rfl)
     ·obtain ⟨k, k1, k2, k3, k4⟩ := ih lo ((lo + hi) / 2) (by omega) (by omega) (by omega) h4 (fun i h hi' => by
       by_cases hn : cv xs[i] < 0
       ·exact absurd (mono _ i hmid h hi' hn) hneg
       ·omega)
      refine ⟨k, k1, k2, k3, ?_⟩
      rw [z1j (l' := [.int lo, .int (((lo + hi) / 2 : Nat) : Int)]) ?_]
      ·exact k4
      ·rw [g0, g1, hm]
       refine z04 (decide_eq_true (by omega)) (z04 (by decide) (z04 (z0D hmid) ?_))
       rw [Int.toNat_natCast, D.l_lst, z40 hmid]
       exact z01 hcm (z00 (fun h => hneg (of_decide_eq_true h)) rfl)
    ·have : lo = hi := by omega
     subst this
     exact ⟨lo, h3, h4, h5, z1F (z00 (by simp) rfl)⟩
 obtain ⟨k, k1, k2, k3, k4⟩ := key xs.length 0 xs.length (by omega) (by omega) (Nat.le_refl _) (fun i h hi => by omega) (fun i h hi => by omega)
 by_cases hk : k < xs.length
 ·refine ⟨k, k1, k2, k3, (cv xs[k] == 0), ?_, z0N k4 (z06 (l := [.int k, .bool (cv xs[k] == 0)]) (z04 (decide_eq_true (by simp; omega)) (z04 (z0D hk) ?_)) rfl)⟩
  ·simp only [beq_iff_eq]
   exact ⟨fun h => ⟨hk, h⟩, fun ⟨_, h⟩ => h⟩
  ·simp only [z1G, D.i_int, Int.toNat_natCast, D.l_lst, z40 hk]
   exact z01 (hc _ (List.getElem_mem hk)) rfl
 ·refine ⟨k, k1, k2, k3, false, ?_, z0N k4 (z06 (l := [.int k, .bool false]) (z00 (fun h => hk ?_) rfl) rfl)⟩
  ·constructor
   ·intro h; cases h
   ·rintro ⟨h, _⟩; exact absurd h hk
  ·have h' : (k : Int) < (xs.length : Int) := of_decide_eq_true h
   omega
def z8w (k : Int) : Bool := k == 1 || (k == 2 || (k == 5 || (k == 6 || (k == 15 || k == 16))))
def z3B : List Int := [1, 2, 5, 6, 15, 16]
theorem z9m (k : Int) : z3B.any (fun x => k == x) = z8w k := by
 simp [z3B, z8w]
theorem zHW (k : Int) : z2o.F [.int k] = some (.bool (z8w k)) := by
 rw [zEc]
 have hidx : ∃ n : Int, z1T.F [.lst (z3B.map .int), .int k] = some (.int n) ∧ decide (n ≥ 0) = z8w k := by
  rw [z6J]
  have hlen : (D.lst (z3B.map D.int)).l.length = z3B.length := by simp
  rw [hlen]
  rcases z4M (l := [.int 0]) (fun i => [.int i]) z3B.length (fun i => !(k == z3B.getD i 0)) (t1 := 0) (t2 := 1) (o1 := fun i => [.int i]) (o2 := []) (f := fun l2 =>
   if (decide ((gd l2 0).i < (z3B.length : Int))) then
    if (inb (gd l2 0).i z3B.length) then
    if ((D.int k).i == (gd (D.lst (z3B.map D.int)).l (gd l2 0).i.toNat).i) then
     ou 1 [(gd l2 0)]
    else
     ou 0 [(.int (IntKind.wrap .i64 ((gd l2 0).i + 1)))]
    else none
   else
    ou 2 []) rfl (by
    intro i hi hp
    rw [z0J hi] at hp
    have e0 : (gd [D.int (i : Int)] 0).i.toNat = i := by simp
    have e1 : (gd [D.int (i : Int)] 0).i = i := rfl
    rw [e0, e1, D.l_lst, z40 hi, z0O hi (by rw [z19]; simp [z3B])]
    exact z04 (by simpa using hi) (z04 (by simpa using z0D hi) (z00 (by simpa using hp) rfl))) (by
    intro i hi hp
    rw [z0J hi] at hp
    have e0 : (gd [D.int (i : Int)] 0).i.toNat = i := by simp
    rw [e0, D.l_lst, z40 hi]
    exact z04 (by simpa using hi) (z04 (by simpa using z0D hi) (z04 (by simpa using hp) rfl))) (by exact z00 (by simp) rfl) with ⟨hall, hloop⟩ | ⟨j, hj, hpj, _, hloop⟩
  ·refine ⟨-1, z0N hloop rfl, ?_⟩
   rw [← z9m]
   have : z3B.any (fun x => k == x) = false := by
    rw [List.any_eq_false]
    intro x hx
    obtain ⟨i, hi, rfl⟩ := List.getElem_of_mem hx
    have := hall i hi
    rw [z0J hi] at this
    simpa using this
   rw [this]; rfl
  ·refine ⟨j, z0N hloop rfl, ?_⟩
   rw [← z9m]
   rw [z0J hj] at hpj
   have : z3B.any (fun x => k == x) = true := by
    rw [List.any_eq_true]
    exact ⟨_, List.getElem_mem hj, by simpa using hpj⟩
   rw [this]; simp
 obtain ⟨n, h1, h2⟩ := hidx
 have h3 : z18.F [.lst (z3B.map .int), .int k] = some (.bool (z8w k)) := by
  rw [z5O]
  refine z02 h1 ?_
  rw [← h2]; rfl
 exact z02 h3 rfl
theorem zHZ (k : Int) : z2r.F [.int k] = some (.bool (z8w k)) := by
 rw [zEh]
 have h3 : z4I.F [.lst (z3B.map .int), .int k] = some (.bool (z8w k)) := by
  rw [zFt]
  have hlen : (D.lst (z3B.map D.int)).l.length = z3B.length := by simp
  rw [hlen]
  refine z0N (z3v (fun i => [.int i]) z3B.length (fun i => !(z3B.getD i 0 == k)) (t1 := 0) (t2 := 1) (o1 := [.bool true]) (o2 := []) rfl ?_ (by exact z00 (by simp) rfl)) ?_
  ·intro i hi
   rw [z0J hi]
   have e0 : (gd [D.int (i : Int)] 0).i.toNat = i := by simp
   have e1 : (gd [D.int (i : Int)] 0).i = i := rfl
   rw [e0, e1, D.l_lst, z40 hi, z0O hi (by rw [z19]; simp [z3B])]
   refine z04 (by simpa using hi) (z04 (by simpa using z0D hi) ?_)
   cases hq : z3B[i] == k with
   | true => exact z04 (by simpa using hq) rfl
   | false => exact z00 (by simpa using hq) rfl
  ·have : allN z3B.length (fun i => !(z3B.getD i 0 == k)) = !(z8w k) := by
    rw [z5m z3B (fun x => !(x == k)) 0, ← z9m, List.not_any_eq_all_not]
    congr 1
    funext x
    rw [Bool.beq_comm (a := x)] <;> rfl
   rw [this]
   cases z8w k <;> rfl
 exact z02 h3 rfl
theorem typeB_ne {k : Int} (h : z8w k = true) : k ≠ 0 := by
 rintro rfl; exact absurd h (by decide)
end Go.Proofs.YtkogmjbmbpcbeaaGreatDoor
namespace Go.Proofs.YtkogmjbmbpcbeaaGreatDoor
open Go Go.Own
def zC5 (l : List Rec) (n : List UInt8) (t : Int) (i : Nat) : Bool := (l.getD i Rec.nul).name == n && ((l.getD i Rec.nul).type == t && (l.getD i Rec.nul).ttl == (l.getD 0 Rec.nul).ttl)
noncomputable def zEU (l : List Rec) (n : List UInt8) (t : Int) : Bool := inP l.length 1 12 && (z8m l && allN l.length (zC5 l n t))
theorem zHU {l : List Rec} (hr : RIn lim l) (n : List UInt8) (t : Int) : z2n.F [.lst (l.map Rec.d), .str n, .int t] = some (.bool (zEU l n t)) := by
 have hsm := Nat.le_trans hr.len z0u
 have h1 := z5T l.length 1 12
 have h2 := zGd hr.len hr.all
 have hlen : (D.lst (l.map Rec.d)).l.length = l.length := by simp
 rw [zEb, hlen]
 refine z06 (l := [.bool (zEU l n t)]) ?_ rfl
 unfold zEU
 cases k1 : inP l.length 1 12 with
 | false => rw [k1] at h1; exact z01 h1 (z00 (by simp) rfl)
 | true =>
   rw [k1] at h1
   refine z01 h1 (z04 rfl ?_)
   cases k2 : z8m l with
   | false => rw [k2] at h2; exact z01 h2 (z00 (by simp) rfl)
   | true =>
     rw [k2] at h2
     refine z01 h2 (z04 rfl ?_)
     have hpos : 0 < l.length := by simp [inP] at k1; omega
     have hone : ∀ i (hi : i < l.length), z2d.F [(l[i]).d, .str n, .int t, .lst (l.map Rec.d)] = some (.bool (!(zC5 l n t i))) := by
      intro i hi
      rw [zCH]
      unfold zC5
      rw [z0J hi, z0J hpos]
      have f0 : ((l[i]).d.fld 0).s = (l[i]).name := rfl
      have f1 : ((l[i]).d.fld 1).i = (l[i]).type := rfl
      have f2 : ((l[i]).d.fld 2).i = (l[i]).ttl := rfl
      have g2 : ((gd (D.lst (l.map Rec.d)).l 0).fld 2).i = (l[0]).ttl := by rw [D.l_lst, z57 hpos]; rfl
      rw [f0, f1, f2, g2, hlen]
      refine z06 (l := [.bool (!((l[i]).name == n && ((l[i]).type == t && (l[i]).ttl == (l[0]).ttl)))]) ?_ rfl
      cases a1 : (l[i]).name == n with
      | false => exact z04 (by simpa using a1) (by simp)
      | true =>
        refine z00 (by simpa using a1) ?_
        cases a2 : (l[i]).type == t with
        | false => exact z04 (by simpa using a2) (by simp)
        | true =>
          refine z00 (by simpa using a2) (z04 (z0D (i := 0) hpos) ?_)
          simp [bne]
     have hidx : ∃ m : Int, z0B.F [.lst (l.map Rec.d), .pair (.str n) (.pair (.int t) (.pair (.lst (l.map Rec.d)) .unit))] = some (.int m) ∧ decide (m ≥ 0) = !(allN l.length (zC5 l n t)) := by
      rw [z1e, hlen]
      have p0 : (D.pair (.str n) (.pair (.int t) (.pair (.lst (l.map Rec.d)) .unit))).fld 0 = .str n := rfl
      have p1 : (D.pair (.str n) (.pair (.int t) (.pair (.lst (l.map Rec.d)) .unit))).fld 1 = .int t := rfl
      have p2 : (D.pair (.str n) (.pair (.int t) (.pair (.lst (l.map Rec.d)) .unit))).fld 2 = .lst (l.map Rec.d) := rfl
      rw [p0, p1, p2]
      rcases z4M (l := [.int 0]) (fun i => [.int i]) l.length (zC5 l n t) (t1 := 0) (t2 := 1) (o1 := fun i => [.int i]) (o2 := []) (f := fun l2 =>
       if (decide ((gd l2 0).i < (l.length : Int))) then
        if (inb (gd l2 0).i l.length) then
        (z2d.F [(gd (D.lst (l.map Rec.d)).l (gd l2 0).i.toNat), .str n, .int t, .lst (l.map Rec.d)]).bind fun r3 =>
        if r3.b then
         ou 1 [(gd l2 0)]
        else
         ou 0 [(.int (IntKind.wrap .i64 ((gd l2 0).i + 1)))]
        else none
       else
        ou 2 []) rfl (by
        intro i hi hp
        have hh := hone i hi
        rw [hp] at hh
        have e0 : (gd [D.int (i : Int)] 0).i.toNat = i := by simp
        have e1 : (gd [D.int (i : Int)] 0).i = i := rfl
        rw [e0, e1, D.l_lst, z57 hi, z0O hi hsm]
        exact z04 (by simpa using hi) (z04 (z0D hi) (z01 hh (z00 (by simp) rfl)))) (by
        intro i hi hp
        have hh := hone i hi
        rw [hp] at hh
        have e0 : (gd [D.int (i : Int)] 0).i.toNat = i := by simp
        have e1 : (gd [D.int (i : Int)] 0).i = i := rfl
        rw [e0, e1, D.l_lst, z57 hi]
        exact z04 (by simpa using hi) (z04 (z0D hi) (z01 hh (z04 rfl rfl)))) (by exact z00 (by simp) rfl) with ⟨hall, hloop⟩ | ⟨j, hj, hpj, _, hloop⟩
      ·refine ⟨-1, z0N hloop rfl, ?_⟩
       rw [z1S.2 hall]; rfl
      ·refine ⟨j, z0N hloop rfl, ?_⟩
       rw [z43 hj hpj]; simp
     obtain ⟨m, hm, hd⟩ := hidx
     have hc : z0A.F [.lst (l.map Rec.d), .pair (.str n) (.pair (.int t) (.pair (.lst (l.map Rec.d)) .unit))] = some (.bool (!(allN l.length (zC5 l n t)))) := by
      rw [z1W]
      refine z02 hm ?_
      rw [← hd]; rfl
     exact z01 hc (by simp)
noncomputable def z8n (l : List Rec) : Bool := inP l.length 1 12 && (z8m l && allN l.length (zC5 l (l.getD 0 Rec.nul).name (l.getD 0 Rec.nul).type))
theorem zFF {l : List Rec} (hr : RIn lim l) : z2Q.F [.lst (l.map Rec.d)] = some (.bool (z8n l)) := by
 have hsm := Nat.le_trans hr.len z0u
 have hx := hr.all
 rw [zDM]
 have hlen : (D.lst (l.map Rec.d)).l.length = l.length := by simp
 rw [hlen]
 have hcs : ∀ i, i < l.length → ∃ n : Int, z1P.F [(l.getD (i - 1) Rec.nul).d, (l.getD i Rec.nul).d] = some (.int n) ∧ ((l.getD (i - 1) Rec.nul).ok = true → (l.getD i Rec.nul).ok = true → n = cmpR (l.getD (i - 1) Rec.nul) (l.getD i Rec.nul)) := by
  intro i hi
  have hi1 : i - 1 < l.length := by omega
  rw [z0J hi, z0J hi1]
  exact zGh (hx _ (List.getElem_mem hi1)) (hx _ (List.getElem_mem hi))
 let cS : Nat → Int := fun i => match z1P.F [(l.getD (i - 1) Rec.nul).d, (l.getD i Rec.nul).d] with
  | some (.int n) => n
  | _ => 0
 have hcS : ∀ i, i < l.length → z1P.F [(l.getD (i - 1) Rec.nul).d, (l.getD i Rec.nul).d] = some (.int (cS i)) ∧ ((l.getD (i - 1) Rec.nul).ok = true → (l.getD i Rec.nul).ok = true → cS i = cmpR (l.getD (i - 1) Rec.nul) (l.getD i Rec.nul)) := by
  intro i hi
  obtain ⟨n, h1, h2⟩ := hcs i hi
  have : cS i = n := by simp only [cS, h1]
  rw [this]; exact ⟨h1, h2⟩
 let one : Nat → Bool := zC5 l (l.getD 0 Rec.nul).name (l.getD 0 Rec.nul).type
 let up : Nat → Bool := fun i => (l.getD i Rec.nul).ok && (one i && (i == 0 || decide (cS i < 0)))
 have hup : allN l.length up = (z8m l && allN l.length one) := by
  unfold z8m
  rw [Bool.eq_iff_iff, Bool.and_eq_true, z1S, z1S, z1S]
  constructor
  ·intro h
   refine ⟨fun i hi => ?_, fun i hi => ?_⟩
   ·have h1 := h i hi
    simp only [up, upAt, Bool.and_eq_true, Bool.or_eq_true, beq_iff_eq, decide_eq_true_eq] at h1 ⊢
    refine ⟨h1.1, h1.2.2.imp id fun h2 => ?_⟩
    by_cases h0 : i = 0
    ·subst h0
     rw [← (hcS 0 hi).2 h1.1 h1.1]; exact h2
    ·have h3 := h (i - 1) (by omega)
     simp only [up, Bool.and_eq_true] at h3
     rw [← (hcS i hi).2 h3.1 h1.1]; exact h2
   ·have h1 := h i hi
    simp only [up, Bool.and_eq_true] at h1
    exact h1.2.1
  ·rintro ⟨h, ho⟩ i hi
   have h1 := h i hi
   simp only [up, upAt, Bool.and_eq_true, Bool.or_eq_true, beq_iff_eq, decide_eq_true_eq] at h1 ⊢
   refine ⟨h1.1, ho i hi, h1.2.imp id fun h2 => ?_⟩
   by_cases h0 : i = 0
   ·subst h0
    rw [(hcS 0 hi).2 h1.1 h1.1]; exact h2
   ·have h3 := h (i - 1) (by omega)
    simp only [upAt, Bool.and_eq_true] at h3
    rw [(hcS i hi).2 h3.1 h1.1]; exact h2
 refine z0N (z3v (fun i => [.int i]) l.length up (t1 := 0) (t2 := 1) (o1 := []) (o2 := []) rfl ?_ ?_) ?_
 ·intro i hi
  have hpos : 0 < l.length := by omega
  have hg : gd (D.lst (l.map Rec.d)).l i = (l[i]).d := z57 hi
  have hg0 : gd (D.lst (l.map Rec.d)).l 0 = (l[0]).d := z57 hpos
  have h1 := zID (hx _ (List.getElem_mem hi))
  refine z04 (by simpa using hi) (z04 (by simpa using z0D hi) ?_)
  have e0 : (gd [D.int (i : Int)] 0).i.toNat = i := by simp
  have e1 : (gd [D.int (i : Int)] 0).i = i := rfl
  have f0 : ∀ r : Rec, (r.d.fld 0).s = r.name := fun _ => rfl
  have f1 : ∀ r : Rec, (r.d.fld 1).i = r.type := fun _ => rfl
  have f2 : ∀ r : Rec, (r.d.fld 2).i = r.ttl := fun _ => rfl
  rw [e0, e1, hg, hg0, z0O hi hsm, f0, f0, f1, f1, f2, f2]
  refine z1V (l := [.bool !(up i)]) ?_ ?_
  ·simp only [up, one, zC5]
   have hc := (hcS i hi).1
   rw [z0J hi, z0J hpos] at *
   cases hk : (l[i]).ok with
   | false => rw [hk] at h1; exact z01 h1 (z04 rfl (by simp))
   | true =>
     rw [hk] at h1
     refine z01 h1 (z00 (by simp) (z04 (z0D (i := 0) hpos) ?_))
     cases a1 : (l[i]).name == (l[0]).name with
     | false => exact z04 (by simp) (by simp)
     | true =>
       refine z00 (by simp) ?_
       cases a2 : (l[i]).type == (l[0]).type with
       | false => exact z04 (by simpa using a2) (by simp)
       | true =>
         refine z00 (by simpa using a2) ?_
         cases a3 : (l[i]).ttl == (l[0]).ttl with
         | false => exact z04 (by simpa using a3) (by simp)
         | true =>
           refine z00 (by simpa using a3) ?_
           by_cases h0 : i = 0
           ·subst h0; exact z00 (by simp) (by simp)
           ·have w : IntKind.wrap .i64 ((i : Int) - 1) = ((i - 1 : Nat) : Int) := by rw [z19] at hsm; rw [z0S] <;> omega
            have hi1 : i - 1 < l.length := by omega
            rw [z0J hi1] at hc
            refine z04 (decide_eq_true (by omega)) (z04 (by rw [w]; exact z0D hi1) ?_)
            rw [w, Int.toNat_natCast, D.l_lst, z57 hi1]
            refine z01 hc ?_
            have : decide ((D.int (cS i)).i ≥ 0) = !(decide (cS i < 0)) := by
             rw [Bool.eq_iff_iff]; simp
            rw [this]
            have : (i == 0) = false := by simpa using h0
            rw [this]; simp
  ·cases up i <;> simp
 ·exact z00 (by simp) rfl
 ·rw [hup]
  have h1 := z94 l.length 1 12
  unfold z8n
  show rn (sel2 _ _ _) = _
  cases k2 : (z8m l && allN l.length one) with
  | false => rw [Bool.and_false]; rfl
  | true =>
    rw [Bool.and_true]
    exact z02 h1 rfl
end Go.Proofs.YtkogmjbmbpcbeaaGreatDoor
