/- A layer over the walk: what lies in memory as plain data, each operation by what it does to data; part 23. -/
import Derived.Test.YtkogmjbmbpcbeaaGreatDoorD1
set_option linter.unusedSectionVars false
set_option linter.unusedVariables false
set_option linter.unusedSimpArgs false
namespace Go.Own
variable [Glb]
noncomputable section
open Go
variable {P : Program} {cs : List Ent} {ρ : List D} {Γ : Env} {S : List SC}
theorem z2v (ρ : List D) (s : Nat) (c : SC) : z1r ρ [(s, c)] = [(s, c.conc ρ)] := rfl
theorem z5V (ρ : List D) (a : SV) (v : Ver) : SC.conc ρ ⟨a, v⟩ = ⟨a.conc ρ, v⟩ := rfl
def tB (b : Bool) : SV := .val .bool (.b b)
section
variable (Γ : Env) (S : List SC)
def zLz (dst : Option Nat) (x : Operand) : OR :=
 match x with
 | .tmp t => askS S t fun c => match c.av with
   | .tup u d => match dst with
     | none => none
     | some s => askS S s fun c' => z0Y (z7N Γ s && !Nat.beq t s) [] (retS [(t, ⟨.undef, c.v.kill⟩), (s, ⟨.tup u d, c'.v.kill⟩)])
   | _ => sout Γ S dst (z3n t c)
 | _ => sopd S x (sout Γ S dst)
def zFz (dst : Option Nat) (ty : TypeId) : OR :=
 match Γ.ty ty with
 | .lst true e => sout Γ S dst (.val (.lst true e) .nil)
 | _ => none
def zH7 (dst : Option Nat) (ty : TypeId) (x : Operand) : OR :=
 match dst with
 | none => none
 | some s => match x with
   | .tmp t => askS S t fun c => match c.av with
     | .val u d => askS S s fun c' => z0Y (z7N Γ s) [] (if u.plain then retS [(s, ⟨.val u d, c'.v.kill⟩)] else z0Y (!Nat.beq t s) [] (retS [(t, ⟨.undef, c.v.kill⟩), (s, ⟨.val u d, c'.v.kill⟩)]))
     | .nil => zFz Γ S (some s) ty
     | .ref r _ _ ty _ => if inN Γ.fr s || decide (r = s) then z0Y (z7N Γ s) [] (z5l S [] ty (.tmp t) fun ty' d' ws => zEm S ws s fun c' => retS (ws ++ [(s, ⟨.val ty' d', c'.v.kill⟩)])) else sout Γ S (some s) (z3n t c)
     | .win r _ _ e _ _ => if inN Γ.fr s || decide (r = s) then z0Y (z7N Γ s) [] (z5l S [] (.lst true e) (.tmp t) fun ty' d' ws => zEm S ws s fun c' => retS (ws ++ [(s, ⟨.val ty' d', c'.v.kill⟩)])) else sout Γ S (some s) (z3n t c)
     | _ => sout Γ S (some s) (z3n t c)
   | _ => sopd S x fun a => match a with
     | .nil => zFz Γ S (some s) ty
     | a => sout Γ S (some s) a
def zK5 (dst : Option Nat) (t : TypeId) (x : Operand) : OR := sopd S x fun a => match a with
 | .ptr r v p => z3A S r fun cr tr dr bx => match okX tr dr p with
    | none => none
    | some as => z0Y (z3u v cr.v (z1X p) && ((bx || !Nat.beq (z1X p) 0) && (decide ((sAt tr p).view = (Γ.ty t).view) && (Γ.ty t).ok))) as
      (if (sAt tr p).plain then sout Γ S dst (.val (sAt tr p) (getX dr p)) else sout Γ S dst (.ref r cr.v p (sAt tr p) (getX dr p)))
 | .val (.ptr e) d => z0Y (decide (e.view = (Γ.ty t).view) && (Γ.ty t).ok) [] (sout Γ S dst (.val e d))
 | _ => none
def zCc (t : TypeId) (x y : Operand) : OR := sopd S x fun a => match a with
 | .ptr r v p => z3A S r fun cr tr dr bx => match okX tr dr p with
    | none => none
    | some as => z0Y (z3u v cr.v (z1X p) && (bx || !Nat.beq (z1X p) 0)) as
      (z5l S [] (Γ.ty t) y fun ty d ws =>
        z0Y (decide (ty.view = (Γ.ty t).view) && ((Γ.ty t).ok && (!Nat.beq ty.size 0 && !inN (ws.map (·.1)) r))) []
         (if ty.plain && decide (sAt tr p = ty) then retS (ws ++ [(r, cr.setRoot tr (setX dr p d) cr.v)])
          else if Nat.beq (z1X p) 0 then z0Y (decide ((sAt tr p).shape = ty.shape)) [] (retS (ws ++ [(r, cr.setRoot (z82 tr p ty) (setX dr p d) cr.v.head)]))
          else z0Y (decide (sAt tr p = ty)) [] (retS (ws ++ [(r, cr.setRoot tr (setX dr p d) cr.v.cont)]))))
 | _ => none
def zDr (dst : Option Nat) (t : TypeId) (x : Operand) : OR :=
 match x with
 | .tmp s => askS S s fun c => match c.av with
   | .bref ty d r v p => if ty.plain then zK5 Γ S dst t x else askS S r fun cr => match cr.root with
     | some (tr, dr, _) => match okX tr dr p with
       | none => none
       | some as => z0Y (z1M v cr.v (z1X p) && (decide (sAt tr p = ty) && (decide (ty.view = (Γ.ty t).view) && (Γ.ty t).ok))) as (sout Γ S dst (.ref r v p ty d))
     | none => none
   | _ => zK5 Γ S dst t x
 | _ => zK5 Γ S dst t x
def zK6 (dst : Option Nat) (t : TypeId) (x : Operand) : OR :=
 match x with
 | .tmp s => askS S s fun c => match c.av with
   | .ptr r0 v0 q => askS S r0 fun c0 => match c0.av with
     | .bref ty d r v p => if !zCb ty q || (sAt ty q).plain then zDr Γ S dst t x else askS S r fun cr => match cr.root with
       | some (tr, dr, _) => match okX tr dr p with
         | none => none
         | some as => z0Y (z3u v0 c0.v 0 && (z1M v cr.v (z1X p) && (decide (sAt tr p = ty) && (decide ((sAt ty q).view = (Γ.ty t).view) && (Γ.ty t).ok)))) as (sout Γ S dst (.ref r v (p ++ q) (sAt ty q) (getX d q)))
       | none => none
     | _ => zDr Γ S dst t x
   | _ => zDr Γ S dst t x
 | _ => zDr Γ S dst t x
def z9j (t : TypeId) (x y : Operand) : OR :=
 match x, y with
 | .tmp s, .tmp u => askS S s fun c => match c.root with
   | some (tb, _, true) => askS S u fun cu => match cu.av with
     | .ref r v p ty d => askS S r fun cr => match cr.root with
       | some (tr, dr, _) => if !zCb tr p || inN Γ.fr u then (match okX tr dr p with
         | none => none
         | some as => z0Y (z1M v cr.v (z1X p) && (decide (sAt tr p = ty) && (ty.agg && (decide (tb.shape = ty.shape) && (decide (ty.view = (Γ.ty t).view) && ((Γ.ty t).ok && (!Nat.beq ty.size 0 && (!Nat.beq r s && Nat.blt s Γ.n)))))))) as (retS [(s, ⟨.bref ty d r v p, c.v.head⟩)]))
         else zCc Γ S t x y
       | none => zCc Γ S t x y
     | _ => zCc Γ S t x y
   | _ => zCc Γ S t x y
 | _, _ => zCc Γ S t x y
def zH8 (t : TypeId) (x y : Operand) : OR :=
 match x, y with
 | .tmp s, .tmp u => askS S u fun cu => match cu.av with
   | .win r0 _ _ _ _ _ => askS S s fun c => match z3n s c with
     | .ptr r _ _ => if Nat.beq r r0 then z5l S [] (Γ.ty t) y fun ty d ws => zEm S ws s fun c' => match z3n s c' with
        | .ptr r' v' p' => zEm S ws r' fun cr => match cr.root with
          | some (tr, dr, bx) => match okX tr dr p' with
            | none => none
            | some as => z0Y (z3u v' cr.v (z1X p') && (bx && (Nat.beq (z1X p') 0 && (decide (ty.view = (Γ.ty t).view) && ((Γ.ty t).ok && (!Nat.beq ty.size 0 && decide ((sAt tr p').shape = ty.shape))))))) as
              (retS (ws ++ [(r', cr.setRoot (z82 tr p' ty) (setX dr p' d) cr.v.head)]))
          | none => none
        | _ => none
       else z9j Γ S t x y
     | _ => z9j Γ S t x y
   | _ => z9j Γ S t x y
 | _, _ => z9j Γ S t x y
def zK3 (dst : Option Nat) (t : TypeId) (x : Operand) (j : Nat) : OR := sopd S x fun a => match a with
 | .val ty d => z0Y (ty.plain && (decide (ty.view = (Γ.ty t).view) && ty.has j)) [] (sout Γ S dst (.val (ty.fld j) (z3y d j)))
 | .ref r v p ty d => z3A S r fun cr tr dr _ => match okX tr dr p with
    | none => none
    | some as => z0Y (z1M v cr.v (z1X p) && (decide (sAt tr p = ty) && (decide (ty.view = (Γ.ty t).view) && ty.has j))) as
      (if (ty.fld j).plain then sout Γ S dst (.val (ty.fld j) (z3y d j)) else sout Γ S dst (.ref r v (p ++ [.f j]) (ty.fld j) (z3y d j)))
 | _ => none
def z9g (dst : Option Nat) (t : TypeId) (x : Operand) (j : Nat) : OR := sopd S x fun a => match a with
 | .ptr r v p => z3A S r fun cr tr dr bx => match okX tr dr p with
    | none => none
    | some as => z0Y (z3u v cr.v (z1X p) && ((bx || !Nat.beq (z1X p) 0) && (decide ((sAt tr p).shape = (Γ.ty t).shape) && ((Γ.ty t).has j && !Nat.beq ((Γ.ty t).fld j).size 0)))) as (sout Γ S dst (.ptr r (nvp cr.v (z1X p)) (p ++ [.f j])))
 | .val (.ptr e) d => z0Y (decide (e.view = (Γ.ty t).view) && (e.has j && !Nat.beq (e.fld j).size 0)) [] (sout Γ S dst (.val (.ptr (e.fld j)) (z3y d j)))
 | _ => none
def z9h (dst : Option Nat) (t : TypeId) (x y : Operand) : OR := sopd S x fun a => sopd S y fun b => match b with
 | .val (.int _) n => match a with
   | .ref r v p (.lst true e) _ => z3A S r fun cr tr dr _ => match okX tr dr p with
     | none => none
     | some as => z0Y (z1M v cr.v (z1X p) && (decide (sAt tr p = .lst true e) && (decide (e.view = (Γ.ty t).elem.view) && (Γ.ty t).lsts))) (as ++ [zD8 n (getX dr p)]) (sout Γ S dst (.ptr r cr.v (p ++ [.i n])))
   | .val (.lst false e) d => z0Y (decide (e.view = (Γ.ty t).elem.view) && (Γ.ty t).lsts) [zD8 n d] (sout Γ S dst (.val (.ptr e) (zEQ d n)))
   | _ => none
 | _ => none
end
theorem Sim.move {dst : Option Nat} {x : Operand} : Sim P cs ρ S (zLz Γ S dst x) (z7X Γ dst x) := by
 unfold zLz z7X
 split
 ·rename_i t
  refine Sim.ask ?_
  have hc := z3q ρ t (sget S t)
  generalize sget S t = c at hc
  obtain ⟨a, v⟩ := c
  cases a with
  | tup u d =>
    cases dst with
    | none => exact Sim.nope
    | some s =>
      refine Sim.ask (Sim.needB (fun hb => ?_) fun _ => Sim.ret)
      simp only [Bool.and_eq_true, Bool.not_eq_true'] at hb
      exact ⟨(z0r hb.1).1, (z0r hb.1).2, z2D hb.2⟩
  | _ => exact Sim.out' hc
 ·rename_i hx
  cases x with
  | tmp t => exact (hx t rfl).elim
  | _ => exact Sim.opd fun a => Sim.out
theorem Sim.nilTo {dst : Option Nat} {ty : TypeId} : Sim P cs ρ S (zFz Γ S dst ty) (nilTo Γ dst ty) := by
 unfold zFz Own.nilTo
 split
 ·rename_i e h; rw [h]; exact Sim.out
 ·exact Sim.nope
theorem z5R (ρ : List D) (a : SWr) : (z1r ρ a).map (·.1) = a.map (·.1) := by simp [z1r]
theorem z0a (ρ : List D) (a b : SWr) : z1r ρ (a ++ b) = z1r ρ a ++ z1r ρ b := by simp [z1r]
theorem zHk {ws : SWr} {d : Nat} (h : inN (ws.map (·.1)) d = false) : d ∉ (z1r ρ ws).map (·.1) := by
 rw [z5R]
 intro hm
 have := z3S.2 hm
 rw [h] at this; cases this
theorem Sim.assign {dst : Option Nat} {ty : TypeId} {x : Operand} : Sim P cs ρ S (zH7 Γ S dst ty x) (z8e Γ dst ty x) := by
 unfold zH7 z8e
 cases dst with
 | none => exact Sim.nope
 | some s =>
   simp only
   split
   ·rename_i t
    refine Sim.ask ?_
    have hc := z3q ρ t (sget S t)
    generalize sget S t = c at hc
    obtain ⟨a, v⟩ := c
    cases a with
    | val u d =>
      refine Sim.ask (Sim.needB (fun hb => z0r hb) fun _ => ?_)
      refine Sim.ite Iff.rfl (fun _ => Sim.ret) fun _ => Sim.needB (fun hb => ?_) fun _ => Sim.ret
      simp only [Bool.not_eq_true'] at hb
      exact z2D hb
    | nil => exact Sim.nilTo
    | ref r v p u x =>
      refine Sim.ite (by rw [Bool.or_eq_true, z3S, decide_eq_true_eq]) (fun _ => ?_) fun _ => Sim.out' hc
      refine Sim.needB (fun hb => z0r hb) fun _ => ?_
      refine Sim.takeW (ws := []) fun ty' d' ws => Sim.askW fun c' => ?_
      refine Sim.ret' ?_
      rw [z0a, z2v]; rfl
    | win r v p e lo n =>
      refine Sim.ite (by rw [Bool.or_eq_true, z3S, decide_eq_true_eq]) (fun _ => ?_) fun _ => Sim.out' hc
      refine Sim.needB (fun hb => z0r hb) fun _ => ?_
      refine Sim.takeW (ws := []) fun ty' d' ws => Sim.askW fun c' => ?_
      refine Sim.ret' ?_
      rw [z0a, z2v]; rfl
    | _ => exact Sim.out' hc
   ·rename_i hx
    have key : Sim P cs ρ S (sopd S x fun a => match a with
     | .nil => zFz Γ S (some s) ty
     | a => sout Γ S (some s) a) (Own.opd x fun a => match a with
     | .nil => Own.nilTo Γ (some s) ty
     | a => Own.out Γ (some s) a) := by
     refine Sim.opd fun a => ?_
     cases a with
     | nil => exact Sim.nilTo
     | _ => exact Sim.out
    cases x with
    | tmp t => exact (hx t rfl).elim
    | _ => exact key
theorem zB0 {bx : Bool} {p : z0L} (h : (bx || !Nat.beq (z1X p) 0) = true) : bx = true ∨ depth (z0L.conc ρ p) ≠ 0 := by
 rw [z0T]
 simp only [Bool.or_eq_true, Bool.not_eq_true'] at h
 exact h.imp id z2D
theorem Sim.load {dst : Option Nat} {t : TypeId} {x : Operand} : Sim P cs ρ S (zK5 Γ S dst t x) (zDg Γ dst t x) := by
 unfold zK5 zDg
 refine Sim.opd fun a => ?_
 cases a with
 | ptr r v p =>
   refine Sim.rootOf fun c tr dr bx _ _ => ?_
   cases hok : okX tr dr p with
   | none => exact Sim.nope
   | some as =>
     refine Sim.need (fun hb ha => ?_) fun hb ha => ?_
     ·simp only [Bool.and_eq_true, decide_eq_true_eq] at hb
      exact ⟨by rw [z0T]; exact z1s hb.1, z3g ρ p hok ha, zB0 hb.2.1, by rw [z10]; exact hb.2.2.1, hb.2.2.2⟩
     ·refine Sim.ite (by rw [z10]) (fun _ => Sim.out' ?_) (fun _ => Sim.out' ?_)
      ·simp only [SV.conc, z1L, z10]
      ·simp only [SV.conc, z1L, z10]; rfl
 | val ty d =>
   cases ty with
   | ptr e =>
     refine Sim.needB (fun hb => ?_) fun _ => Sim.out' rfl
     simp only [Bool.and_eq_true, decide_eq_true_eq] at hb
     exact hb
   | _ => exact Sim.nope
 | _ => exact Sim.nope
theorem Sim.store {t : TypeId} {x y : Operand} : Sim P cs ρ S (zCc Γ S t x y) (z6o Γ t x y) := by
 unfold zCc z6o
 refine Sim.opd fun a => ?_
 cases a with
 | ptr r v p =>
   refine Sim.rootOf fun c tr dr bx _ _ => ?_
   cases hok : okX tr dr p with
   | none => exact Sim.nope
   | some as =>
     refine Sim.need (fun hb ha => ?_) fun hb ha => ?_
     ·simp only [Bool.and_eq_true, decide_eq_true_eq] at hb
      exact ⟨by rw [z0T]; exact z1s hb.1, z3g ρ p hok ha, zB0 hb.2⟩
     ·refine Sim.takeW (ws := []) fun ty d ws => ?_
      refine Sim.needB (fun hb => ?_) fun hb => ?_
      ·simp only [Bool.and_eq_true, decide_eq_true_eq, Bool.not_eq_true'] at hb
       refine ⟨hb.1, hb.2.1, z2D hb.2.2.1, fun hm => ?_⟩
       rw [z5R] at hm
       have := z3S.2 hm
       rw [hb.2.2.2] at this; cases this
      ·refine Sim.ite (by simp [z10]) (fun _ => Sim.ret' ?_) fun _ => Sim.ite (by rw [z0T]; simp) (fun _ => Sim.needB (fun hb => ?_) fun _ => Sim.ret' ?_) fun _ => Sim.needB (fun hb => ?_) fun _ => Sim.ret' ?_
       ·rw [z0a, z2v, SC.setRoot_conc, z5H]; rfl
       ·rw [z10]; simpa using hb
       ·rw [z0a, z2v, SC.setRoot_conc, z5H, z4R]; rfl
       ·rw [z10]; simpa using hb
       ·rw [z0a, z2v, SC.setRoot_conc, z5H]; rfl
 | _ => exact Sim.nope
theorem Sim.loadB {dst : Option Nat} {t : TypeId} {x : Operand} : Sim P cs ρ S (zDr Γ S dst t x) (z6n Γ dst t x) := by
 unfold zDr z6n
 split
 ·rename_i s
  refine Sim.ask ?_
  generalize sget S s = c
  obtain ⟨a, v⟩ := c
  cases a with
  | bref ty d r v p =>
    refine Sim.ite Iff.rfl (fun _ => Sim.load) fun _ => Sim.ask ?_
    rw [SC.root_conc]
    cases hr : (sget S r).root with
    | none => exact Sim.nope
    | some q =>
      obtain ⟨tr, dr, bx⟩ := q
      dsimp only [Option.map_some]
      cases hok : okX tr dr p with
      | none => exact Sim.nope
      | some as =>
        refine Sim.need (fun hb ha => ?_) fun hb ha => Sim.out' rfl
        simp only [Bool.and_eq_true, decide_eq_true_eq] at hb
        exact ⟨by rw [z0T]; exact z0R hb.1, by rw [z10]; exact hb.2.1, z3g ρ p hok ha, hb.2.2.1, hb.2.2.2⟩
  | _ => exact Sim.load
 ·rename_i hx
  cases x with
  | tmp t => exact (hx t rfl).elim
  | _ => exact Sim.load
theorem Sim.loadD {dst : Option Nat} {t : TypeId} {x : Operand} : Sim P cs ρ S (zK6 Γ S dst t x) (zCA Γ dst t x) := by
 unfold zK6 zCA
 split
 ·rename_i s
  refine Sim.ask ?_
  generalize sget S s = c
  obtain ⟨a, v⟩ := c
  cases a with
  | ptr r0 v0 q =>
    refine Sim.ask ?_
    generalize sget S r0 = c0
    obtain ⟨a0, w0⟩ := c0
    cases a0 with
    | bref ty d r v p =>
      refine Sim.ite (by rw [Bool.or_eq_true, Bool.not_eq_true', z4J, z10]) (fun _ => Sim.loadB) fun _ => Sim.ask ?_
      rw [SC.root_conc]
      cases hr : (sget S r).root with
      | none => exact Sim.nope
      | some q1 =>
        obtain ⟨tr, dr, bx⟩ := q1
        dsimp only [Option.map_some]
        cases hok : okX tr dr p with
        | none => exact Sim.nope
        | some as =>
          refine Sim.need (fun hb ha => ?_) fun hb ha => Sim.out' ?_
          ·simp only [Bool.and_eq_true, decide_eq_true_eq] at hb
           exact ⟨z1s hb.1, by rw [z0T]; exact z0R hb.2.1, by rw [z10]; exact hb.2.2.1, z3g ρ p hok ha, by rw [z10]; exact hb.2.2.2.1, hb.2.2.2.2⟩
          ·have e1 : sAt ty q = ty.at (z0L.conc ρ q) := (z10 ρ q ty).symm
           have e2 : z0L.conc ρ (p ++ q) = z0L.conc ρ p ++ z0L.conc ρ q := by simp [z0L.conc]
           simp only [SV.conc, e1, e2, z1L]
    | _ => exact Sim.loadB
  | _ => exact Sim.loadB
 ·rename_i hx
  cases x with
  | tmp t => exact (hx t rfl).elim
  | _ => exact Sim.loadB
theorem Sim.storeB {t : TypeId} {x y : Operand} : Sim P cs ρ S (z9j Γ S t x y) (z5D Γ t x y) := by
 unfold z9j z5D
 split
 ·rename_i s u
  refine Sim.ask ?_
  rw [SC.root_conc]
  cases hr0 : (sget S s).root with
  | none => exact Sim.store
  | some q0 =>
    obtain ⟨tb, db, bx0⟩ := q0
    dsimp only [Option.map_some]
    cases bx0 with
    | false => exact Sim.store
    | true =>
      refine Sim.ask ?_
      generalize sget S u = c
      obtain ⟨a, vu⟩ := c
      cases a with
      | ref r v p ty d =>
        refine Sim.ask ?_
        rw [SC.root_conc]
        cases hr : (sget S r).root with
        | none => exact Sim.store
        | some q =>
          obtain ⟨tr, dr, bx⟩ := q
          dsimp only [Option.map_some]
          refine Sim.ite (by rw [Bool.or_eq_true, z3S, Bool.not_eq_true', z4J]) (fun _ => ?_) fun _ => Sim.store
          cases hok : okX tr dr p with
          | none => exact Sim.nope
          | some as =>
            refine Sim.need (fun hb ha => ?_) fun hb ha => Sim.ret' rfl
            simp only [Bool.and_eq_true, decide_eq_true_eq, Bool.not_eq_true'] at hb
            exact ⟨by rw [z0T]; exact z0R hb.1, by rw [z10]; exact hb.2.1, z3g ρ p hok ha, hb.2.2.1, hb.2.2.2.1, hb.2.2.2.2.1, hb.2.2.2.2.2.1, z2D hb.2.2.2.2.2.2.1, z2D hb.2.2.2.2.2.2.2.1, Nat.lt_of_lt_of_le (by simpa using hb.2.2.2.2.2.2.2.2) (Nat.le_refl _)⟩
      | _ => exact Sim.store
 ·rename_i hx
  cases x with
  | tmp s =>
    cases y with
    | tmp u => exact (hx s u rfl rfl).elim
    | _ => exact Sim.store
  | _ => exact Sim.store
theorem Sim.storeC {t : TypeId} {x y : Operand} : Sim P cs ρ S (zH8 Γ S t x y) (z8f Γ t x y) := by
 unfold zH8 z8f
 split
 ·rename_i s u
  refine Sim.ask ?_
  generalize sget S u = cu
  obtain ⟨a, vu⟩ := cu
  cases a with
  | win r0 v0 p0 e lo n =>
    refine Sim.ask ?_
    rw [← z3q]
    generalize z3n s (sget S s) = a
    cases a with
    | ptr r v p =>
      refine Sim.ite (by simp) (fun _ => ?_) fun _ => Sim.storeB
      refine Sim.takeW (ws := []) fun ty d ws => Sim.askW fun c' => ?_
      rw [← z3q]
      generalize z3n s c' = a'
      cases a' with
      | ptr r' v' p' =>
        refine Sim.askW fun cr => ?_
        rw [SC.root_conc]
        cases hr : cr.root with
        | none => exact Sim.nope
        | some q =>
          obtain ⟨tr, dr, bx⟩ := q
          dsimp only [Option.map_some]
          cases hok : okX tr dr p' with
          | none => exact Sim.nope
          | some as =>
            refine Sim.need (fun hb ha => ?_) fun hb ha => Sim.ret' ?_
            ·simp only [Bool.and_eq_true, decide_eq_true_eq, Bool.not_eq_true'] at hb
             exact ⟨by rw [z0T]; exact z1s hb.1, z3g ρ p' hok ha, hb.2.1, by rw [z0T]; exact Nat.eq_of_beq_eq_true hb.2.2.1, hb.2.2.2.1, hb.2.2.2.2.1, z2D hb.2.2.2.2.2.1, by rw [z10]; exact hb.2.2.2.2.2.2⟩
            ·rw [z0a, z2v, SC.setRoot_conc, z5H, z4R]; rfl
      | _ => exact Sim.nope
    | _ => exact Sim.storeB
  | _ => exact Sim.storeB
 ·rename_i hx
  cases x with
  | tmp s =>
    cases y with
    | tmp u => exact (hx s u rfl rfl).elim
    | _ => exact Sim.storeB
  | _ => exact Sim.storeB
theorem zB1 (ρ : List D) (p : z0L) (s : SStep) : z0L.conc ρ (p ++ [s]) = z0L.conc ρ p ++ [s.conc ρ] := by simp [z0L.conc]
theorem Sim.field {dst : Option Nat} {t : TypeId} {x : Operand} {j : Nat} : Sim P cs ρ S (zK3 Γ S dst t x j) (zEX Γ dst t x j) := by
 unfold zK3 zEX
 refine Sim.opd fun a => ?_
 cases a with
 | val ty d =>
   refine Sim.needB (fun hb => ?_) fun _ => Sim.out' (by simp only [SV.conc, z1p])
   simp only [Bool.and_eq_true, decide_eq_true_eq] at hb
   exact hb
 | ref r v p ty d =>
   refine Sim.rootOf fun c tr dr bx _ _ => ?_
   cases hok : okX tr dr p with
   | none => exact Sim.nope
   | some as =>
     refine Sim.need (fun hb ha => ?_) fun hb ha => ?_
     ·simp only [Bool.and_eq_true, decide_eq_true_eq] at hb
      exact ⟨by rw [z0T]; exact z0R hb.1, by rw [z10]; exact hb.2.1, z3g ρ p hok ha, hb.2.2.1, hb.2.2.2⟩
     ·refine Sim.ite Iff.rfl (fun _ => Sim.out' ?_) (fun _ => Sim.out' ?_)
      ·simp only [SV.conc, z1p]
      ·simp only [SV.conc, z1p, zB1]; rfl
 | _ => exact Sim.nope
theorem Sim.fieldAddr {dst : Option Nat} {t : TypeId} {x : Operand} {j : Nat} : Sim P cs ρ S (z9g Γ S dst t x j) (z2t Γ dst t x j) := by
 unfold z9g z2t
 refine Sim.opd fun a => ?_
 cases a with
 | ptr r v p =>
   refine Sim.rootOf fun c tr dr bx _ _ => ?_
   cases hok : okX tr dr p with
   | none => exact Sim.nope
   | some as =>
     refine Sim.need (fun hb ha => ?_) fun hb ha => Sim.out' ?_
     ·simp only [Bool.and_eq_true, decide_eq_true_eq, Bool.not_eq_true'] at hb
      exact ⟨by rw [z0T]; exact z1s hb.1, z3g ρ p hok ha, zB0 hb.2.1, by rw [z10]; exact hb.2.2.1, hb.2.2.2.1, z2D hb.2.2.2.2⟩
     ·simp only [SV.conc, zB1, z0T]; rfl
 | val ty d =>
   cases ty with
   | ptr e =>
     refine Sim.needB (fun hb => ?_) fun _ => Sim.out' (by simp only [SV.conc, z1p])
     simp only [Bool.and_eq_true, decide_eq_true_eq, Bool.not_eq_true'] at hb
     exact ⟨hb.1, hb.2.1, z2D hb.2.2⟩
   | _ => exact Sim.nope
 | _ => exact Sim.nope
theorem zHd {n x : X} (h : ((zD8 n x).den ρ).b = true) : 0 ≤ (n.den ρ).i ∧ (n.den ρ).i < (x.den ρ).l.length := by
 rw [zFg] at h
 simpa using h
theorem Sim.indexAddr {dst : Option Nat} {t : TypeId} {x y : Operand} : Sim P cs ρ S (z9h Γ S dst t x y) (z60 Γ dst t x y) := by
 unfold z9h z60
 refine Sim.opd fun a => Sim.opd fun b => ?_
 cases b with
 | val tn n =>
   cases tn with
   | int k =>
     cases a with
     | ref r v p ty d =>
       cases ty with
       | lst o e =>
         cases o with
         | true =>
           refine Sim.rootOf fun c tr dr bx _ _ => ?_
           cases hok : okX tr dr p with
           | none => exact Sim.nope
           | some as =>
             refine Sim.need (fun hb ha => ?_) fun hb ha => Sim.out' ?_
             ·simp only [Bool.and_eq_true, decide_eq_true_eq] at hb
              have h1 := zHd (ha _ (by simp : zD8 n (getX dr p) ∈ as ++ [zD8 n (getX dr p)]))
              rw [z1L] at h1
              exact ⟨by rw [z0T]; exact z0R hb.1, by rw [z10]; exact hb.2.1, z3g ρ p hok (fun a hm => ha a (by simp [hm])), hb.2.2.1, hb.2.2.2, h1.1, h1.2⟩
             ·simp only [SV.conc, zB1]; rfl
         | false => exact Sim.nope
       | _ => exact Sim.nope
     | val ty d =>
       cases ty with
       | lst o e =>
         cases o with
         | true => exact Sim.nope
         | false =>
           refine Sim.need (fun hb ha => ?_) fun hb ha => Sim.out' rfl
           simp only [Bool.and_eq_true, decide_eq_true_eq] at hb
           have h1 := zHd (ha (zD8 n d) (by simp))
           exact ⟨hb.1, hb.2, h1.1, h1.2⟩
       | _ => exact Sim.nope
     | win r v p e lo m => exact Sim.nope
     | _ => exact Sim.nope
   | _ => exact Sim.nope
 | _ => exact Sim.nope
end
end Go.Own
namespace Go.Own
variable [Glb]
noncomputable section
open Go
variable {P : Program} {cs : List Ent} {ρ : List D} {Γ : Env} {S : List SC}
section
variable (Γ : Env) (S : List SC)
def sLen (dst : Option Nat) (t : TypeId) (x : Operand) : OR := sopd S x fun a => match a with
 | .val .str d => z0Y (decide (Γ.ty t = .str)) [] (sout Γ S dst (.val (.int .i64) (.un .slen d)))
 | .val (.lst _ _) d => z0Y ((Γ.ty t).lsts) [] (sout Γ S dst (.val (.int .i64) (z6G d)))
 | .ref r v p (.lst true e) _ => z3A S r fun cr tr dr _ => match okX tr dr p with
    | none => none
    | some as => z0Y (z1M v cr.v (z1X p) && (decide (sAt tr p = .lst true e) && (Γ.ty t).lsts)) as (sout Γ S dst (.val (.int .i64) (z6G (getX dr p))))
 | .nil => z0Y ((Γ.ty t).lsts) [] (sout Γ S dst (.val (.int .i64) (.i 0)))
 | _ => none
def zK4 (dst : Option Nat) (t : TypeId) (x y : Operand) : OR := sopd S x fun a => sopd S y fun b => match a, b with
 | .val .str d, .val (.int _) n => z0Y (decide (Γ.ty t = .str)) [.bi .sinb n d] (sout Γ S dst (.val (.int .u8) (.bi .byteAt d n)))
 | _, _ => none
def sNil (dst : Option Nat) (x : Operand) : OR := sopd S x fun a => match a with
 | .ptr r v p => z3A S r fun cr tr dr bx => match okX tr dr p with
    | none => none
    | some as => z0Y (z3u v cr.v (z1X p) && (bx || !Nat.beq (z1X p) 0)) as (sout Γ S dst (.ptr r cr.v p))
 | .val (.ptr e) d => sout Γ S dst (.val (.ptr e) d)
 | _ => none
def zBf (f : List (X × Bool)) (x : X) : Option Bool :=
 match x with
 | .b b => some b
 | x => match f with
   | [] => none
   | (y, b) :: f => if y.beq x then some b else zBf f x
def zM0 (f : List (X × Bool)) (dst : Option Nat) (c x y : Operand) : OR := sopd S c fun c => match c with
 | .val .bool d => match zBf f d with
   | some b => sopd S x fun a => sopd S y fun a' => if b then sout Γ S dst a else sout Γ S dst a'
   | none => sopd S x fun a => sopd S y fun b => match a, b with
     | .val t d1, .val u d2 => z0Y (decide (t = u)) [] (sout Γ S dst (.val t (.tri .ite d d1 d2)))
     | _, _ => none
 | _ => none
def sUn (dst : Option Nat) (op : UnOp) (x : Operand) : OR := sopd S x fun a => match op, a with
 | .not, .val .bool d => sout Γ S dst (.val .bool (.un .bnot d))
 | .neg, .val (.int k) d => sout Γ S dst (.val (.int k) (.un (.neg k) d))
 | _, _ => none
def zEn (op : BinOp) (k : IntKind) (x y : X) : Option (List X × T × X) :=
 match op with
 | .add | .sub | .mul | .and | .or | .xor | .andNot => some ([], .int k, .bi (.ib op k) x y)
 | .quo | .rem => some ([.bi (.ib .neq k) y (.i 0)], .int k, .bi (.ib op k) x y)
 | .eql | .neq | .lss | .leq | .gtr | .geq => some ([], .bool, .bi (.ib op k) x y)
 | _ => none
def zEo (op : BinOp) (x y : X) : Option (List X × T × X) :=
 match op with
 | .add => some ([.bi .catOk x y], .str, .bi (.sb op) x y)
 | .eql | .neq | .lss | .leq | .gtr | .geq => some ([], .bool, .bi (.sb op) x y)
 | _ => none
def sBin (dst : Option Nat) (op : BinOp) (t : TypeId) (x y : Operand) : OR := sopd S x fun a => sopd S y fun b => match a, b with
 | .val (.int k) m, .val (.int k') n =>
   if decide (op = .shl) then z0Y true [.un .ge0 n] (sout Γ S dst (.val (.int k) (.bi (.shl k) m n)))
   else if decide (op = .shr) then z0Y true [.un .ge0 n] (sout Γ S dst (.val (.int k) (.bi (.shr k) m n)))
   else z0Y (decide (k = k')) [] (match zEn op k m n with
    | some (p, t, d) => z0Y true p (sout Γ S dst (.val t d))
    | none => none)
 | .val .str m, .val .str n => match zEo op m n with
    | some (p, t, d) => z0Y true p (sout Γ S dst (.val t d))
    | none => none
 | .val .bool m, .val .bool n => match op with
    | .eql => z0Y (decide (Γ.ty t = .bool)) [] (sout Γ S dst (.val .bool (.bi .beq m n)))
    | .neq => z0Y (decide (Γ.ty t = .bool)) [] (sout Γ S dst (.val .bool (.bi .bne m n)))
    | _ => none
 | .val .err m, .val .err _ => match op, y with
    | .eql, .const .nilIface => z0Y (decide (Γ.ty t = .err)) [] (sout Γ S dst (.val .bool (.un .bnot m)))
    | .neq, .const .nilIface => z0Y (decide (Γ.ty t = .err)) [] (sout Γ S dst (.val .bool (.un .bnot (.un .bnot m))))
    | _, _ => none
 | _, _ => none
def sEqS (dst : Option Nat) (op : BinOp) (t : TypeId) (x y : Operand) : OR := sopd S x fun a => sopd S y fun b => match a, b with
 | .val τ m, .val u n => match op with
   | .eql => z0Y (decide (τ = Γ.ty t) && (decide (u = Γ.ty t) && (Γ.ty t).eqsOk)) [] (sout Γ S dst (.val .bool (.bi .deq m n)))
   | .neq => z0Y (decide (τ = Γ.ty t) && (decide (u = Γ.ty t) && (Γ.ty t).eqsOk)) [] (sout Γ S dst (.val .bool (.un .bnot (.bi .deq m n))))
   | _ => none
 | _, _ => none
def zEk (dst : Option Nat) (x : Operand) (j : Nat) : OR :=
 match x, dst with
 | .tmp t, some s => askS S t fun c => match c.av with
   | .tup ty d => z0Y (ty.has j) [] (if (ty.fld j).plain then sout Γ S (some s) (.val (ty.fld j) (z3y d j))
      else askS S s fun c' => z0Y (z7N Γ s && !Nat.beq t s) [] (retS [(t, ⟨.tup (z82 ty [.f j] (ty.fld j).moved) d, c.v.kill⟩), (s, ⟨.val (ty.fld j) (z3y d j), c'.v.kill⟩)]))
   | _ => none
 | _, _ => none
def zLU (dst : Option Nat) (t : TypeId) : OR := z0Y ((Γ.ty t).ok) [] (sout Γ S dst (.box (Γ.ty t) (.z (Γ.ty t))))
def sBox (dst : Option Nat) (t : TypeId) (x : Operand) : OR :=
 match dst with
 | none => none
 | some d => askS S d fun cd => z0Y (z7N Γ d && (Γ.ty t).ok) [] (match x with
   | .tmp s => askS S s fun c => match c.av with
     | .val ty dd => z0Y (decide (ty.view = (Γ.ty t).view) && !Nat.beq s d) []
        (if ty.plain then retS [(d, ⟨.box ty dd, cd.v.kill⟩)] else retS [(s, ⟨.undef, c.v.kill⟩), (d, ⟨.box ty dd, cd.v.kill⟩), (s, ⟨.ref d cd.v.kill [] ty dd, c.v.kill.kill⟩)])
     | _ => z5l S [] (Γ.ty t) x fun ty dd ws => z0Y (decide (ty.view = (Γ.ty t).view) && !inN (ws.map (·.1)) d) [] (retS (ws ++ [(d, ⟨.box ty dd, cd.v.kill⟩)]))
   | _ => z5l S [] (Γ.ty t) x fun ty dd ws => z0Y (decide (ty.view = (Γ.ty t).view) && !inN (ws.map (·.1)) d) [] (retS (ws ++ [(d, ⟨.box ty dd, cd.v.kill⟩)])))
def zHz (T0 : T) : List (Nat × Operand) → T → X → SWr → (T → X → SWr → OR) → OR
 | [], t, d, ws, k => k t d ws
 | (j, x) :: ps, t, d, ws, k => z5l S ws (T0.fld j) x fun ty dd ws' =>
     z0Y (T0.has j && (decide (ty.view = (T0.fld j).view) && (T0.fld j).sound)) [] (zHz T0 ps (t.setFld j ty) (z7D d j dd) (ws ++ ws') k)
def zJy (dst : Option Nat) (t : TypeId) (z1N : List (Nat × Operand)) : OR :=
 match dst with
 | none => none
 | some d => askS S d fun cd => z0Y (z7N Γ d && (Γ.ty t).agg) [] (zHz S (Γ.ty t) z1N (Γ.ty t) (.z (Γ.ty t)) [] fun ty dd ws =>
    z0Y (!inN (ws.map (·.1)) d) [] (retS (ws ++ [(d, ⟨.val ty dd, cd.v.kill⟩)])))
def zJX : List X → X
 | [] => .nil
 | x :: l => .bi .cons x (zJX l)
def zAv (e0 : T) : List (Nat × Operand) → Nat → Option T → List X → SWr → (T → List X → SWr → OR) → OR
 | [], _, e, xs, ws, k => k (e.getD e0) xs ws
 | (j, x) :: ps, i, e, xs, ws, k => z5l S ws e0 x fun ty dd ws' =>
     z0Y (Nat.beq j i && ((match e with | none => true | some u => decide (ty = u)) && decide (ty.view = e0.view))) [] (zAv e0 ps (i + 1) (some ty) (xs ++ [dd]) (ws ++ ws') k)
def z81 (dst : Option Nat) (t : TypeId) (len : Nat) (z1N : List (Nat × Operand)) : OR :=
 match dst with
 | none => none
 | some d => askS S d fun cd => z0Y (z7N Γ d && ((Γ.ty t).lsts && (Nat.beq len z1N.length && (!Nat.beq (Γ.ty t).elem.size 0 && Nat.ble (len * (Γ.ty t).elem.size) 16777216)))) [] (zAv S (Γ.ty t).elem z1N 0 none [] [] fun e xs ws =>
    z0Y (!inN (ws.map (·.1)) d) [] (if inN Γ.fr d then z0Y e.plain [] (retS (ws ++ [(d, ⟨.val (.lst false e) (zJX xs), cd.v.kill⟩)])) else retS (ws ++ [(d, ⟨.val (.lst true e) (zJX xs), cd.v.kill⟩)])))
def z9i (dst : Option Nat) (t : TypeId) (x y : Operand) : OR := sopd S x fun a => sopd S y fun b => match a, b with
 | .val (.int _) m, .val (.int _) n =>
   z0Y (m.beq n && (Γ.ty t).lsts) [.un (.makeOk (Γ.eb t)) n] (sout Γ S dst (.val (.lst true (Γ.ty t).elem) (.bi .rep n (.z (Γ.ty t).elem))))
 | _, _ => none
def zK2 (dst : Option Nat) (src tgt : TypeId) (x : Operand) : OR := sopd S x fun a => match a with
 | .val .str d => z0Y (decide (Γ.ty src = .str) && decide (Γ.ty tgt = .lst true (.int .u8))) [] (sout Γ S dst (.val (.lst true (.int .u8)) (.un .sbytes d)))
 | _ => none
def zLy (dst : Option Nat) (src tgt : TypeId) (x : Operand) : OR := sopd S x fun a => match a with
 | .val (.int _) d => match Γ.ty tgt with
   | .int k => z0Y ((Γ.ty src).ok) [] (sout Γ S dst (.val (.int k) (.un (.conv k) d)))
   | _ => none
 | .val (.lst false (.int .u8)) d => z0Y (decide (Γ.ty src = .lst true (.int .u8)) && decide (Γ.ty tgt = .str)) [] (sout Γ S dst (.val .str (.un .bstr d)))
 | .ref r v p (.lst true (.int .u8)) _ => z3A S r fun cr tr dr _ => match okX tr dr p with
    | none => none
    | some as => z0Y (z1M v cr.v (z1X p) && (decide (sAt tr p = .lst true (.int .u8)) && (decide (Γ.ty src = .lst true (.int .u8)) && decide (Γ.ty tgt = .str)))) as (sout Γ S dst (.val .str (.un .bstr (getX dr p))))
 | _ => none
end
theorem Sim.len {dst : Option Nat} {t : TypeId} {x : Operand} : Sim P cs ρ S (sLen Γ S dst t x) (zKv Γ dst t x) := by
 unfold sLen zKv
 refine Sim.opd fun a => ?_
 cases a with
 | val ty d =>
   cases ty with
   | str => exact Sim.needB (fun hb => by simpa using hb) fun _ => Sim.out' rfl
   | lst o e => exact Sim.needB (fun hb => hb) fun _ => Sim.out' (by simp only [SV.conc, z6d])
   | _ => exact Sim.nope
 | ref r v p ty d =>
   cases ty with
   | lst o e =>
     cases o with
     | true =>
       refine Sim.rootOf fun c tr dr bx _ _ => ?_
       cases hok : okX tr dr p with
       | none => exact Sim.nope
       | some as =>
         refine Sim.need (fun hb ha => ?_) fun hb ha => Sim.out' (by simp only [SV.conc, z6d, z1L])
         simp only [Bool.and_eq_true, decide_eq_true_eq] at hb
         exact ⟨by rw [z0T]; exact z0R hb.1, by rw [z10]; exact hb.2.1, z3g ρ p hok ha, hb.2.2⟩
     | false => exact Sim.nope
   | _ => exact Sim.nope
 | nil => exact Sim.needB (fun hb => hb) fun _ => Sim.out' rfl
 | win r v p e lo n => exact Sim.nope
 | _ => exact Sim.nope
theorem Sim.index {dst : Option Nat} {t : TypeId} {x y : Operand} : Sim P cs ρ S (zK4 Γ S dst t x y) (zEY Γ dst t x y) := by
 unfold zK4 zEY
 refine Sim.opd fun a => Sim.opd fun b => ?_
 cases a with
 | val ty d =>
   cases ty with
   | str =>
     cases b with
     | val tn n =>
       cases tn with
       | int k =>
         refine Sim.need (fun hb ha => ?_) fun hb ha => Sim.out' rfl
         have h1 := ha (.bi .sinb n d) (by simp)
         simp only [X.den, Bi.sem, D.b_bool, Bool.and_eq_true, decide_eq_true_eq] at h1
         exact ⟨by simpa using hb, h1.1, h1.2⟩
       | _ => exact Sim.nope
     | _ => exact Sim.nope
   | _ => cases b <;> exact Sim.nope
 | _ => cases b <;> exact Sim.nope
theorem Sim.nilc {dst : Option Nat} {x : Operand} : Sim P cs ρ S (sNil Γ S dst x) (zKw Γ dst x) := by
 unfold sNil zKw
 refine Sim.opd fun a => ?_
 cases a with
 | ptr r v p =>
   refine Sim.rootOf fun c tr dr bx _ _ => ?_
   cases hok : okX tr dr p with
   | none => exact Sim.nope
   | some as =>
     refine Sim.need (fun hb ha => ?_) fun hb ha => Sim.out' rfl
     simp only [Bool.and_eq_true] at hb
     exact ⟨by rw [z0T]; exact z1s hb.1, z3g ρ p hok ha, zB0 hb.2⟩
 | val ty d =>
   cases ty with
   | ptr e => exact Sim.out' rfl
   | _ => exact Sim.nope
 | _ => exact Sim.nope
def zA0 (ρ : List D) (f : List (X × Bool)) : Prop := ∀ x b, (x, b) ∈ f → (x.den ρ).b = b
theorem z7A {f : List (X × Bool)} (hf : zA0 ρ f) {x : X} {b : Bool} (h : zBf f x = some b) : (x.den ρ).b = b := by
 induction f with
 | nil =>
   unfold zBf at h
   split at h
   ·cases h; rfl
   ·cases h
 | cons a f ih =>
   obtain ⟨y, c⟩ := a
   unfold zBf at h
   split at h
   ·cases h; rfl
   ·simp only at h
    split at h
    ·rename_i hb
     cases h
     rw [← X.eq_of_beq hb]; exact hf y b (by simp)
    ·exact ih (fun x b hm => hf x b (by simp [hm])) h
theorem Sim.pick {f : List (X × Bool)} (hf : zA0 ρ f) {dst : Option Nat} {c x y : Operand} : Sim P cs ρ S (zM0 Γ S f dst c x y) (zHn Γ dst c x y) := by
 unfold zM0 zHn
 refine Sim.opd fun c => ?_
 cases c with
 | val ty d =>
   cases ty with
   | bool =>
     dsimp only [SV.conc]
     cases hk : zBf f d with
     | some b =>
       have hd := z7A hf hk
       refine Sim.opd fun a => Sim.opd fun a' => ?_
       have gen : ∀ (q q' : AV), a.conc ρ = q → a'.conc ρ = q' → Sim P cs ρ S (if b = true then sout Γ S dst a else sout Γ S dst a') (if (d.den ρ).b then Own.out Γ dst q else Own.out Γ dst q') := by
        intro q q' h1 h2
        rw [hd]
        exact Sim.ite Iff.rfl (fun _ => Sim.out' h1) (fun _ => Sim.out' h2)
       cases a with
       | val t d1 =>
         cases a' with
         | val u d2 =>
           simp only [SV.conc]
           by_cases htu : t = u
           ·subst htu
            rw [if_pos rfl, hd]
            cases b
            ·exact Sim.out' rfl
            ·exact Sim.out' rfl
           ·rw [if_neg htu]; exact gen _ _ rfl rfl
         | _ => exact gen _ _ rfl rfl
       | _ => cases a' <;> exact gen _ _ rfl rfl
     | none =>
       refine Sim.opd fun a => Sim.opd fun b => ?_
       cases a with
       | val t d1 =>
         cases b with
         | val u d2 =>
           refine Sim.guard fun hb _ => ?_
           have htu : t = u := by simpa using hb
           subst htu
           dsimp only [SV.conc]
           rw [if_pos rfl]
           exact Sim.out' rfl
         | _ => exact Sim.nope
       | _ => cases b <;> exact Sim.nope
   | _ =>
     intro r h; cases h
 | _ => intro r h; cases h
theorem Sim.un {dst : Option Nat} {op : UnOp} {x : Operand} : Sim P cs ρ S (sUn Γ S dst op x) (opUn Γ dst op x) := by
 unfold sUn opUn
 refine Sim.opd fun a => ?_
 cases op with
 | not =>
   cases a with
   | val ty d => cases ty <;> first | exact Sim.nope | exact Sim.out' rfl
   | _ => exact Sim.nope
 | neg =>
   cases a with
   | val ty d => cases ty <;> first | exact Sim.nope | exact Sim.out' rfl
   | _ => exact Sim.nope
 | _ => exact Sim.nope
theorem zG0 {op : BinOp} {k : IntKind} {x y : X} {as : List X} {t : T} {d : X} (h : zEn op k x y = some (as, t, d)) :
 ∃ p, zEz op k (x.den ρ).i (y.den ρ).i = some (p, t, d.den ρ) ∧ ((∀ a ∈ as, (a.den ρ).b = true) → p) := by
 cases op <;> simp only [zEn, Option.some.injEq, Prod.mk.injEq, reduceCtorEq] at h
 all_goals
  obtain ⟨rfl, rfl, rfl⟩ := h
  refine ⟨_, rfl, fun ha => ?_⟩
 all_goals first
  | trivial
  | (have h1 := ha _ (List.mem_singleton.2 rfl)
     simpa [X.den, Bi.sem, D.ofBin] using h1)
theorem zG1 {op : BinOp} {x y : X} {as : List X} {t : T} {d : X} (h : zEo op x y = some (as, t, d)) :
 ∃ p, zHL op (x.den ρ).s (y.den ρ).s = some (p, t, d.den ρ) ∧ ((∀ a ∈ as, (a.den ρ).b = true) → p) := by
 cases op <;> simp only [zEo, Option.some.injEq, Prod.mk.injEq, reduceCtorEq] at h
 all_goals
  obtain ⟨rfl, rfl, rfl⟩ := h
  refine ⟨_, rfl, fun ha => ?_⟩
 all_goals first
  | trivial
  | (have h1 := ha _ (List.mem_singleton.2 rfl)
     simp only [X.den, Bi.sem, D.b_bool, decide_eq_true_eq] at h1
     exact h1)
theorem Sim.bin {dst : Option Nat} {op : BinOp} {t : TypeId} {x y : Operand} : Sim P cs ρ S (sBin Γ S dst op t x y) (zIb Γ dst op t x y) := by
 unfold sBin zIb
 refine Sim.opd fun a => Sim.opd fun b => ?_
 cases a with
 | val ta m =>
   cases b with
   | val tb n =>
     cases ta <;> cases tb <;> first | exact Sim.nope | skip
     ·rename_i k k'
      simp only [SV.conc]
      refine Sim.ite (by simp) (fun _ => Sim.need (fun _ ha => ?_) fun _ _ => Sim.out' rfl) fun _ => Sim.ite (by simp) (fun _ => Sim.need (fun _ ha => ?_) fun _ _ => Sim.out' rfl) fun _ => ?_
      ·have h1 := ha _ (List.mem_singleton.2 rfl)
       simpa [X.den, Un.sem] using h1
      ·have h1 := ha _ (List.mem_singleton.2 rfl)
       simpa [X.den, Un.sem] using h1
      ·refine Sim.needB (fun hb => by simpa using hb) fun hb => ?_
       cases hs : zEn op k m n with
       | none => exact Sim.nope
       | some q =>
         obtain ⟨as, t', d⟩ := q
         obtain ⟨p, h1, h2⟩ := zG0 (ρ := ρ) hs
         rw [h1]
         exact Sim.need (fun _ ha => h2 ha) fun _ _ => Sim.out' rfl
     ·simp only [SV.conc]
      cases op <;> first
       | exact Sim.nope
       | exact Sim.needB (fun hb => by simpa using hb) fun _ => Sim.out' rfl
     ·simp only [SV.conc]
      cases hs : zEo op m n with
      | none => exact Sim.nope
      | some q =>
        obtain ⟨as, t', d⟩ := q
        obtain ⟨p, h1, h2⟩ := zG1 (ρ := ρ) hs
        rw [h1]
        exact Sim.need (fun _ ha => h2 ha) fun _ _ => Sim.out' rfl
     ·simp only [SV.conc]
      split
      ·exact Sim.needB (fun hb => by simpa using hb) fun _ => Sim.out' rfl
      ·exact Sim.needB (fun hb => by simpa using hb) fun _ => Sim.out' (by simp [SV.conc, X.den, Un.sem])
      ·exact Sim.nope
   | _ => cases ta <;> exact Sim.nope
 | _ => cases b <;> exact Sim.nope
theorem Sim.eqS {dst : Option Nat} {op : BinOp} {t : TypeId} {x y : Operand} : Sim P cs ρ S (sEqS Γ S dst op t x y) (zKu Γ dst op t x y) := by
 unfold sEqS zKu
 refine Sim.opd fun a => Sim.opd fun b => ?_
 cases a with
 | val ta m =>
   cases b with
   | val tb n =>
     simp only [SV.conc]
     cases op <;> first
      | exact Sim.nope
      | exact Sim.needB (fun hb => by simpa using hb) fun _ => Sim.out' rfl
   | _ => exact Sim.nope
 | _ => cases b <;> exact Sim.nope
theorem Sim.extract {dst : Option Nat} {x : Operand} {j : Nat} : Sim P cs ρ S (zEk Γ S dst x j) (z1q Γ dst x j) := by
 unfold zEk z1q
 split
 ·rename_i t s
  refine Sim.ask ?_
  generalize sget S t = c
  obtain ⟨a, v⟩ := c
  cases a with
  | tup ty d =>
    refine Sim.needB (fun hb => hb) fun _ => Sim.ite Iff.rfl (fun _ => Sim.out' (by simp only [SV.conc, z1p])) fun _ => Sim.ask (Sim.needB (fun hb => ?_) fun _ => Sim.ret' ?_)
    ·simp only [Bool.and_eq_true, Bool.not_eq_true'] at hb
     exact ⟨(z0r hb.1).1, (z0r hb.1).2, z2D hb.2⟩
    ·simp [z1r, SC.conc, SV.conc, z1p, z82]
  | _ => exact Sim.nope
 ·rename_i h
  cases x with
  | tmp t =>
    cases dst with
    | some s => exact (h t s rfl rfl).elim
    | none => exact Sim.nope
  | _ => exact Sim.nope
theorem Sim.alloc {dst : Option Nat} {t : TypeId} : Sim P cs ρ S (zLU Γ S dst t) (zEV Γ dst t) :=
 Sim.needB (fun hb => hb) fun _ => Sim.out' rfl
theorem Sim.box {dst : Option Nat} {t : TypeId} {x : Operand} : Sim P cs ρ S (sBox Γ S dst t x) (zJk Γ dst t x) := by
 unfold sBox zJk
 cases dst with
 | none => exact Sim.nope
 | some d =>
   simp only
   refine Sim.ask (Sim.needB (fun hb => ?_) fun _ => ?_)
   ·simp only [Bool.and_eq_true] at hb
    exact ⟨(z0r hb.1).1, (z0r hb.1).2, hb.2⟩
   have key : ∀ x : Operand, Sim P cs ρ S (z5l S [] (Γ.ty t) x fun ty dd ws => z0Y (decide (ty.view = (Γ.ty t).view) && !inN (ws.map (·.1)) d) [] (retS (ws ++ [(d, ⟨.box ty dd, (sget S d).v.kill⟩)])))
    (Own.take (Γ.ty t) x fun ty dd ws => .need (ty.view = (Γ.ty t).view ∧ d ∉ ws.map (·.1)) (.ret (ws ++ [(d, ⟨.box ty dd, (sget S d).v.kill⟩)]))) := by
    intro x
    refine Sim.takeW (ws := []) fun ty dd ws => Sim.needB (fun hb => ?_) fun _ => Sim.ret' ?_
    ·simp only [Bool.and_eq_true, decide_eq_true_eq, Bool.not_eq_true'] at hb
     exact ⟨hb.1, zHk hb.2⟩
    ·rw [z0a]; rfl
   split
   ·rename_i s
    refine Sim.ask ?_
    have hkey := key (.tmp s)
    generalize sget S s = c at *
    obtain ⟨a, v⟩ := c
    cases a with
    | val ty dd =>
      refine Sim.needB (fun hb => ?_) fun _ => Sim.ite Iff.rfl (fun _ => Sim.ret) (fun _ => Sim.ret' rfl)
      simp only [Bool.and_eq_true, decide_eq_true_eq, Bool.not_eq_true'] at hb
      exact ⟨hb.1, z2D hb.2⟩
    | _ => exact hkey
   ·rename_i hx
    cases x with
    | tmp s => exact (hx s rfl).elim
    | _ => exact key _
theorem Sim.takes {T0 : T} : ∀ (ps : List (Nat × Operand)) {t : T} {d : X} {ws : SWr} {k : T → X → SWr → OR} {k' : T → D → Wr → A}, (∀ t x w, Sim P cs ρ S (k t x w) (k' t (x.den ρ) (z1r ρ w))) →
 Sim P cs ρ S (zHz S T0 ps t d ws k) (Own.takes T0 ps t (d.den ρ) (z1r ρ ws) k')
 | [], t, d, ws, k, k', h => h t d ws
 | (j, x) :: ps, t, d, ws, k, k', h => by
   unfold zHz Own.takes
   refine Sim.takeW fun ty dd ws' => Sim.needB (fun hb => ?_) fun _ => ?_
   ·simp only [Bool.and_eq_true, decide_eq_true_eq] at hb
    exact hb
   ·have := Sim.takes (T0 := T0) ps (t := t.setFld j ty) (d := z7D d j dd) (ws := ws ++ ws') h
    rw [z9x, z0a] at this
    exact this
theorem Sim.build {dst : Option Nat} {t : TypeId} {z1N : List (Nat × Operand)} : Sim P cs ρ S (zJy Γ S dst t z1N) (zC6 Γ dst t z1N) := by
 unfold zJy zC6
 cases dst with
 | none => exact Sim.nope
 | some d =>
   refine Sim.ask (Sim.needB (fun hb => ?_) fun _ => ?_)
   ·simp only [Bool.and_eq_true] at hb
    exact ⟨(z0r hb.1).1, (z0r hb.1).2, hb.2⟩
   ·refine Sim.takes z1N (d := .z (Γ.ty t)) (ws := []) fun ty dd ws => Sim.needB (fun hb => ?_) fun _ => Sim.ret' ?_
    ·simp only [Bool.not_eq_true'] at hb
     exact zHk hb
    ·rw [z0a]; rfl
theorem zBi (ρ : List D) : ∀ (l : List X), (zJX l).den ρ = .lst (l.map (X.den ρ))
 | [] => rfl
 | x :: l => by simp [zJX, X.den, Bi.sem, zBi ρ l]
theorem Sim.takeEls {e0 : T} : ∀ (ps : List (Nat × Operand)) {i : Nat} {e : Option T} {xs : List X} {ws : SWr} {k : T → List X → SWr → OR} {k' : T → List D → Wr → A}, (∀ t x w, Sim P cs ρ S (k t x w) (k' t (x.map (X.den ρ)) (z1r ρ w))) →
 Sim P cs ρ S (zAv S e0 ps i e xs ws k) (Own.takeEls e0 ps i e (xs.map (X.den ρ)) (z1r ρ ws) k')
 | [], i, e, xs, ws, k, k', h => h _ xs ws
 | (j, x) :: ps, i, e, xs, ws, k, k', h => by
   unfold zAv Own.takeEls
   refine Sim.takeW fun ty dd ws' => Sim.needB (fun hb => ?_) fun _ => ?_
   ·simp only [Bool.and_eq_true, decide_eq_true_eq] at hb
    refine ⟨Nat.eq_of_beq_eq_true hb.1, ?_, hb.2.2⟩
    rintro u rfl
    simpa using hb.2.1
   ·have := Sim.takeEls (e0 := e0) ps (i := i + 1) (e := some ty) (xs := xs ++ [dd]) (ws := ws ++ ws') h
    rw [z0a, List.map_append] at this
    exact this
theorem Sim.buildSlice {dst : Option Nat} {t : TypeId} {len : Nat} {z1N : List (Nat × Operand)} : Sim P cs ρ S (z81 Γ S dst t len z1N) (z4O Γ dst t len z1N) := by
 unfold z81 z4O
 cases dst with
 | none => exact Sim.nope
 | some d =>
   refine Sim.ask (Sim.needB (fun hb => ?_) fun _ => ?_)
   ·simp only [Bool.and_eq_true, Bool.not_eq_true'] at hb
    have h2 := Nat.le_of_ble_eq_true hb.2.2.2.2
    have h3 := z2D hb.2.2.2.1
    refine ⟨(z0r hb.1).1, (z0r hb.1).2, hb.2.1, Nat.eq_of_beq_eq_true hb.2.2.1, h3, h2, ?_⟩
    have h4 : len * 1 ≤ len * (Γ.ty t).elem.size := Nat.mul_le_mul_left _ (by omega)
    unfold smax; omega
   ·refine Sim.takeEls z1N (xs := []) (ws := []) fun ty xs ws => Sim.needB (fun hb => ?_) fun _ => ?_
    ·simp only [Bool.not_eq_true'] at hb
     exact zHk hb
    ·refine Sim.ite z3S (fun _ => Sim.needB (fun h => h) fun _ => Sim.ret' ?_) fun _ => Sim.ret' ?_
     ·rw [z0a, z2v, z5V, SV.conc, zBi]; rfl
     ·rw [z0a, z2v, z5V, SV.conc, zBi]; rfl
theorem Sim.makeSlice {dst : Option Nat} {t : TypeId} {x y : Operand} : Sim P cs ρ S (z9i Γ S dst t x y) (z61 Γ dst t x y) := by
 unfold z9i z61
 refine Sim.opd fun a => Sim.opd fun b => ?_
 cases a with
 | val ta m =>
   cases b with
   | val tb n =>
     cases ta <;> cases tb <;> first | exact Sim.nope | skip
     refine Sim.need (fun hb ha => ?_) fun _ _ => Sim.out' rfl
     simp only [Bool.and_eq_true] at hb
     have h1 := ha _ (List.mem_singleton.2 rfl)
     simp only [X.den, Un.sem, D.b_bool, Bool.and_eq_true, decide_eq_true_eq] at h1
     rw [X.eq_of_beq hb.1]
     exact ⟨rfl, h1.1, hb.2, h1.2.1, h1.2.2⟩
   | _ => cases ta <;> exact Sim.nope
 | _ => cases b <;> exact Sim.nope
theorem Sim.convB {dst : Option Nat} {src tgt : TypeId} {x : Operand} : Sim P cs ρ S (zK2 Γ S dst src tgt x) (zEW Γ dst src tgt x) := by
 unfold zK2 zEW
 refine Sim.opd fun a => ?_
 cases a with
 | val ty d =>
   cases ty with
   | str => exact Sim.needB (fun hb => by simpa using hb) fun _ => Sim.out' rfl
   | _ => exact Sim.nope
 | _ => exact Sim.nope
theorem Sim.conv {dst : Option Nat} {src tgt : TypeId} {x : Operand} : Sim P cs ρ S (zLy Γ S dst src tgt x) (zHm Γ dst src tgt x) := by
 unfold zLy zHm
 refine Sim.opd fun a => ?_
 cases a with
 | val ty d =>
   cases ty with
   | int k =>
     dsimp only [SV.conc]
     cases Γ.ty tgt with
     | int k => exact Sim.needB (fun hb => hb) fun _ => Sim.out' rfl
     | _ => exact Sim.nope
   | lst o e =>
     cases o with
     | true => exact Sim.nope
     | false =>
       cases e with
       | int k =>
         cases k <;> first
          | exact Sim.nope
          | exact Sim.needB (fun hb => by simpa using hb) fun _ => Sim.out' rfl
       | _ => exact Sim.nope
   | _ => exact Sim.nope
 | ref r v p ty d =>
   cases ty with
   | lst o e =>
     cases o with
     | false => exact Sim.nope
     | true =>
       cases e with
       | int k =>
         cases k <;> first
          | exact Sim.nope
          | skip
         refine Sim.rootOf fun c tr dr bx _ _ => ?_
         cases hok : okX tr dr p with
         | none => exact Sim.nope
         | some as =>
           refine Sim.need (fun hb ha => ?_) fun hb ha => Sim.out' (by simp only [SV.conc, X.den, Un.sem, z1L])
           simp only [Bool.and_eq_true, decide_eq_true_eq] at hb
           exact ⟨by rw [z0T]; exact z0R hb.1, by rw [z10]; exact hb.2.1, z3g ρ p hok ha, hb.2.2.1, hb.2.2.2⟩
       | _ => exact Sim.nope
   | _ => exact Sim.nope
 | _ => exact Sim.nope
end
end Go.Own
namespace Go.Own
variable [Glb]
noncomputable section
open Go
variable {P : Program} {cs : List Ent} {ρ : List D} {Γ : Env} {S : List SC}
section
variable (Γ : Env) (S : List SC)
def sbnd (x : Option Operand) (k : Option X → OR) : OR := match x with
 | none => k none
 | some x => sopd S x fun a => match a with
   | .val (.int _) n => k (some n)
   | _ => none
def loX : Option X → X
 | none => .i 0
 | some n => n
def hiX (len : X) : Option X → X
 | none => len
 | some n => n
def zK7 (dst : Option Nat) (t : TypeId) (x : Operand) (lo hi mx : Option Operand) : OR := match mx with
 | some _ => none
 | none => sopd S x fun a => sbnd S lo fun l => sbnd S hi fun h => match a with
   | .val .str d => z0Y (decide (Γ.ty t = .str)) [.tri .slOk (loX l) (hiX (.un .slen d) h) (.un .slen d)] (sout Γ S dst (.val .str (.tri .ssub d (loX l) (hiX (.un .slen d) h))))
   | .val (.lst false e) d => z0Y ((Γ.ty t).lsts && decide (e.view = (Γ.ty t).elem.view)) [.tri .slOk (loX l) (hiX (z6G d) h) (z6G d)] (sout Γ S dst (.val (.lst false e) (.tri .sub d (loX l) (hiX (z6G d) h))))
   | .ref r v p (.lst true e) _ => z3A S r fun cr tr dr _ => match okX tr dr p with
     | none => none
     | some as => z0Y (z1M v cr.v (z1X p) && (decide (sAt tr p = .lst true e) && ((Γ.ty t).lsts && decide (e.view = (Γ.ty t).elem.view)))) (as ++ [.tri .slOk (loX l) (hiX (z6G (getX dr p)) h) (z6G (getX dr p))])
        (sout Γ S dst (.win r cr.v p e (loX l) (.bi .monus (hiX (z6G (getX dr p)) h) (loX l))))
   | _ => none
def zLn : SV → Bool
 | .bref .. => false
 | _ => true
def clrX (L lo n z : X) : X := .bi .app (.bi .app (.tri .part L (.i 0) lo) (.bi .rep n z)) (.tri .part (.tri .part L lo (z6G L)) n (z6G L))
def zK1 (dst : Option Nat) (t : TypeId) (x : Operand) : OR := match dst, x with
 | none, .tmp s => askS S s fun c => match c.av with
   | .win r v p e lo n => z3A S r fun cr tr dr _ => match okX tr dr p with
     | none => none
     | some as => z0Y (z1M v cr.v (z1X p) && (decide (sAt tr p = .lst true e) && (e.plain && ((Γ.ty t).lsts && (decide (e = (Γ.ty t).elem) && (!Nat.beq e.size 0 && zLn cr.av)))))) (as ++ [.tri .winOk lo n (getX dr p)])
        (retS [(r, cr.setRoot tr (setX dr p (clrX (getX dr p) lo n (.z e))) cr.v)])
   | _ => none
 | _, _ => none
def zEl (mx : Bool) (dst : Option Nat) (xs : List Operand) : OR := match xs with
 | [x, y] => sopd S x fun a => sopd S y fun b => match a, b with
   | .val (.int k) m, .val (.int k') n => z0Y (decide (k = k')) [] (sout Γ S dst (.val (.int k) (if mx then .bi .greater m n else .bi .lesser m n)))
   | _, _ => none
 | [x, y, w] => sopd S x fun a => sopd S y fun b => sopd S w fun c => match a, b, c with
   | .val (.int k) m, .val (.int k') n, .val (.int k'') q => z0Y (decide (k = k') && decide (k = k'')) [] (sout Γ S dst (.val (.int k) (if mx then .bi .greater (.bi .greater m n) q else .bi .lesser (.bi .lesser m n) q)))
   | _, _, _ => none
 | _ => none
def zM5 (y : Operand) (k : Option T → X → SWr → OR) : OR :=
 match y with
 | .tmp q => askS S q fun c => match c.av with
   | .val (.lst true e) d => k (some e) d [(q, ⟨.undef, c.v.kill⟩)]
   | .val (.lst false e) d => z0Y e.plain [] (k (some e) d [])
   | .ref r v p (.lst true e) _ => z3A S r fun cr tr dr _ => match okX tr dr p with
     | none => none
     | some as => z0Y (z1M v cr.v (z1X p) && (decide (sAt tr p = .lst true e) && e.plain)) as (k (some e) (getX dr p) [])
   | .win r v p e lo n => z3A S r fun cr tr dr _ => match okX tr dr p with
     | none => none
     | some as => z0Y (z1M v cr.v (z1X p) && (decide (sAt tr p = .lst true e) && e.plain)) as (k (some e) (.tri .part (getX dr p) lo n) [])
   | .nil => k none .nil []
   | _ => none
 | .const (.slice none 0 0) => k none .nil []
 | _ => none
def zH6 (dst : Option Nat) (t u : TypeId) (x y : Operand) : OR := match dst with
 | none => none
 | some s => askS S s fun cd => z0Y (z7N Γ s && ((Γ.ty t).lsts && (Γ.ty u).lsts)) [] (zM5 S y fun e2 ys ws => z5l S ws (Γ.ty t) x fun ty d ws' =>
    match ty with
    | .lst true e0 => z0Y (decide ((e2.getD e0).view = (Γ.ty t).elem.view) && ((decide (e2.getD e0 = e0) || (d.beq .nil && decide (e0.view = (e2.getD e0).view))) && (!Nat.beq (e2.getD e0).size 0 && ((e2.getD e0).sound && !inN ((ws ++ ws').map (·.1)) s)))) [.bi (.appOk (Γ.eb t)) d ys]
       (retS (ws ++ ws' ++ [(s, ⟨.val (.lst true (e2.getD e0)) (.bi .app d ys), cd.v.kill⟩)]))
    | _ => none)
end
theorem z9L (l : Option X) : ((loX l).den ρ).i = loOf (l.map (X.den ρ)) := by cases l <;> rfl
theorem z9G {len : X} {n : Nat} (hl : (len.den ρ).i = n) (h : Option X) : ((hiX len h).den ρ).i = hiOf n (h.map (X.den ρ)) := by cases h <;> simp [hiX, hiOf, hl]
theorem Sim.bnd {x : Option Operand} {k : Option X → OR} {k' : Option D → A} (h : ∀ d, Sim P cs ρ S (k d) (k' (d.map (X.den ρ)))) : Sim P cs ρ S (sbnd S x k) (bnd x k') := by
 unfold sbnd Own.bnd
 cases x with
 | none => exact h none
 | some o =>
   refine Sim.opd fun a => ?_
   cases a with
   | val t d =>
     cases t with
     | int k => exact h (some d)
     | _ => exact Sim.nope
   | _ => exact Sim.nope
theorem zCg {lo hi n : X} (h : ((X.tri .slOk lo hi n).den ρ).b = true) : 0 ≤ (lo.den ρ).i ∧ (lo.den ρ).i ≤ (hi.den ρ).i ∧ (hi.den ρ).i ≤ (n.den ρ).i := by
 simpa [X.den, Tri.sem] using h
theorem Sim.slice {dst : Option Nat} {t : TypeId} {x : Operand} {lo hi mx : Option Operand} : Sim P cs ρ S (zK7 Γ S dst t x lo hi mx) (zCB Γ dst t x lo hi mx) := by
 unfold zK7 zCB
 cases mx with
 | some _ => exact Sim.nope
 | none =>
   refine Sim.opd fun a => Sim.bnd fun l => Sim.bnd fun h => ?_
   cases a with
   | val ty d =>
     cases ty with
     | str =>
       have hn : ((X.un .slen d).den ρ).i = (d.den ρ).s.length := rfl
       refine Sim.need (fun hb ha => ?_) fun _ _ => Sim.out' ?_
       ·have h1 := zCg (ha _ (List.mem_singleton.2 rfl))
        rw [z9L, z9G hn, hn] at h1
        exact ⟨by simpa using hb, h1⟩
       ·simp only [SV.conc, X.den, Tri.sem]
        rw [z9L, z9G hn]
     | lst o e =>
       cases o with
       | true => exact Sim.nope
       | false =>
         have hn : ((z6G d).den ρ).i = (d.den ρ).l.length := by rw [z6d]; rfl
         refine Sim.need (fun hb ha => ?_) fun _ _ => Sim.out' ?_
         ·have h1 := zCg (ha _ (List.mem_singleton.2 rfl))
          rw [z9L, z9G hn, hn] at h1
          simp only [Bool.and_eq_true, decide_eq_true_eq] at hb
          exact ⟨hb.1, hb.2, h1⟩
         ·simp only [SV.conc, X.den, Tri.sem]
          rw [z9L, z9G hn]
     | _ => exact Sim.nope
   | ref r v p ty d =>
     cases ty with
     | lst o e =>
       cases o with
       | false => exact Sim.nope
       | true =>
         refine Sim.rootOf fun c tr dr bx _ _ => ?_
         cases hok : okX tr dr p with
         | none => exact Sim.nope
         | some as =>
           have hn : ((z6G (getX dr p)).den ρ).i = ((dr.den ρ).get (z0L.conc ρ p)).l.length := by rw [z6d, z1L]; rfl
           refine Sim.need (fun hb ha => ?_) fun _ _ => Sim.out' ?_
           ·have h1 := zCg (ha (.tri .slOk (loX l) (hiX (z6G (getX dr p)) h) (z6G (getX dr p))) (by simp))
            rw [z9L, z9G hn, hn] at h1
            simp only [Bool.and_eq_true, decide_eq_true_eq] at hb
            exact ⟨by rw [z0T]; exact z0R hb.1, by rw [z10]; exact hb.2.1, z3g ρ p hok (fun a hm => ha a (by simp [hm])), hb.2.2.1, hb.2.2.2, h1⟩
           ·simp only [SV.conc, X.den, Bi.sem]
            rw [z9L, z9G hn]
            simp only [D.i_int, Int.toNat_natCast, SC.conc]
     | _ => exact Sim.nope
   | _ => exact Sim.nope
theorem Sim.minMax {mx : Bool} {dst : Option Nat} {xs : List Operand} : Sim P cs ρ S (zEl Γ S mx dst xs) (z7F Γ mx dst xs) := by
 unfold zEl z7F
 split
 ·refine Sim.opd fun a => Sim.opd fun b => ?_
  cases a with
  | val t m =>
    cases b with
    | val t2 n =>
      cases t <;> cases t2 <;> first | exact Sim.nope | skip
      refine Sim.needB (fun hb => by simpa using hb) fun _ => Sim.out' ?_
      cases mx <;> rfl
    | _ => cases t <;> exact Sim.nope
  | _ => exact Sim.nope
 ·refine Sim.opd fun a => Sim.opd fun b => Sim.opd fun c => ?_
  cases a with
  | val t m =>
    cases b with
    | val t2 n =>
      cases c with
      | val t3 q =>
        cases t <;> cases t2 <;> first | exact Sim.nope | skip
        cases t3 <;> first | exact Sim.nope | skip
        refine Sim.needB (fun hb => by simpa using hb) fun _ => Sim.out' ?_
        cases mx <;> rfl
      | _ => cases t <;> cases t2 <;> exact Sim.nope
    | _ => cases t <;> exact Sim.nope
  | _ => exact Sim.nope
 ·exact Sim.nope
theorem zKT (L lo n z : X) : (clrX L lo n z).den ρ = .lst ((L.den ρ).l.take (lo.den ρ).i.toNat ++ List.replicate (n.den ρ).i.toNat (z.den ρ) ++ (L.den ρ).l.drop ((lo.den ρ).i.toNat + (n.den ρ).i.toNat)) := by
 unfold clrX
 have h : ((z6G L).den ρ).i.toNat = (L.den ρ).l.length := by rw [z6d]; simp
 simp only [X.den, Bi.sem, Tri.sem, D.l_lst, h, D.i_int, Int.toNat_zero, List.drop_zero]
 congr 2
 rw [List.take_of_length_le (l := List.drop (lo.den ρ).i.toNat (L.den ρ).l) (by simp), List.drop_drop, List.take_of_length_le (by simp)]
theorem Sim.clear {dst : Option Nat} {t : TypeId} {x : Operand} : Sim P cs ρ S (zK1 Γ S dst t x) (zC9 Γ dst t x) := by
 unfold zK1 zC9
 split
 ·rename_i s
  refine Sim.ask ?_
  generalize sget S s = c
  obtain ⟨a, v⟩ := c
  cases a with
  | win r v p e lo n =>
    refine Sim.rootOf fun c tr dr bx _ hr => ?_
    cases hok : okX tr dr p with
    | none => exact Sim.nope
    | some as =>
      refine Sim.need (fun hb ha => ?_) fun hb ha => Sim.ret' ?_
      ·simp only [Bool.and_eq_true, decide_eq_true_eq, Bool.not_eq_true'] at hb
       obtain ⟨h1, h2, h3, h4, h5, h6, h7⟩ := hb
       have hw := ha _ (List.mem_append_right _ (List.mem_singleton.2 rfl))
       simp only [X.den, Tri.sem, z1L, D.b_bool, decide_eq_true_eq] at hw
       refine ⟨by rw [z0T]; exact z0R h1, by rw [z10]; exact h2, z3g ρ p hok fun a h => ha a (List.mem_append_left _ h), h3, h4, h5, z2D h6, hw, ?_⟩
       obtain ⟨a, v'⟩ := c
       cases a <;> simp only [SC.root, Option.some.injEq, Prod.mk.injEq, reduceCtorEq] at hr
       ·obtain ⟨rfl, rfl, rfl⟩ := hr; rfl
       ·obtain ⟨rfl, rfl, rfl⟩ := hr; rfl
       ·obtain ⟨rfl, rfl, rfl⟩ := hr; rfl
       ·cases h7
      ·rw [z2v, SC.setRoot_conc, z5H, zKT, z1L]; rfl
  | _ => exact Sim.nope
 ·exact Sim.nope
theorem Sim.srcW {y : Operand} {k : Option T → X → SWr → OR} {k' : Option T → List D → Wr → A} (h : ∀ e x w, Sim P cs ρ S (k e x w) (k' e (x.den ρ).l (z1r ρ w))) : Sim P cs ρ S (zM5 S y k) (srcW y k') := by
 unfold zM5 Own.srcW
 split
 ·rename_i q
  refine Sim.ask ?_
  generalize sget S q = c
  obtain ⟨a, v⟩ := c
  cases a with
  | val ty d =>
    cases ty with
    | lst o e =>
      cases o with
      | true => exact h (some e) d _
      | false => exact Sim.needB (fun hb => hb) fun _ => h (some e) d []
    | _ => exact Sim.nope
  | ref r v p ty d =>
    cases ty with
    | lst o e =>
      cases o with
      | false => exact Sim.nope
      | true =>
        refine Sim.rootOf fun c tr dr bx _ _ => ?_
        cases hok : okX tr dr p with
        | none => exact Sim.nope
        | some as =>
          refine Sim.need (fun hb ha => ?_) fun _ _ => ?_
          ·simp only [Bool.and_eq_true, decide_eq_true_eq] at hb
           exact ⟨by rw [z0T]; exact z0R hb.1, by rw [z10]; exact hb.2.1, z3g ρ p hok ha, hb.2.2⟩
          ·have := h (some e) (getX dr p) []
           rwa [z1L] at this
    | _ => exact Sim.nope
  | win r v p e lo n =>
    refine Sim.rootOf fun c tr dr bx _ _ => ?_
    cases hok : okX tr dr p with
    | none => exact Sim.nope
    | some as =>
      refine Sim.need (fun hb ha => ?_) fun _ _ => ?_
      ·simp only [Bool.and_eq_true, decide_eq_true_eq] at hb
       exact ⟨by rw [z0T]; exact z0R hb.1, by rw [z10]; exact hb.2.1, z3g ρ p hok ha, hb.2.2⟩
      ·have := h (some e) (.tri .part (getX dr p) lo n) []
       simp only [X.den, Tri.sem, D.l_lst, z1L] at this
       exact this
  | nil => exact h none .nil []
  | _ => exact Sim.nope
 ·exact h none .nil []
 ·exact Sim.nope
theorem Sim.append {dst : Option Nat} {t u : TypeId} {x y : Operand} : Sim P cs ρ S (zH6 Γ S dst t u x y) (z8d Γ dst t u x y) := by
 unfold zH6 z8d
 cases dst with
 | none => exact Sim.nope
 | some s =>
   refine Sim.ask (Sim.needB (fun hb => ?_) fun _ => Sim.srcW fun e2 ys ws => Sim.takeW fun ty d ws' => ?_)
   ·simp only [Bool.and_eq_true] at hb
    exact ⟨(z0r hb.1).1, (z0r hb.1).2, hb.2.1, hb.2.2⟩
   ·cases ty with
    | lst o e =>
      cases o with
      | false => exact Sim.nope
      | true =>
        refine Sim.need (fun hb ha => ?_) fun _ _ => Sim.ret' ?_
        ·simp only [Bool.and_eq_true, decide_eq_true_eq, Bool.not_eq_true'] at hb
         have h1 := ha _ (List.mem_singleton.2 rfl)
         simp only [X.den, Bi.sem, D.b_bool, Bool.and_eq_true, decide_eq_true_eq] at h1
         refine ⟨hb.1, ?_, z2D hb.2.2.1, hb.2.2.2.1, ?_, h1.1, h1.2⟩
         ·have h2 := hb.2.1
          simp only [Bool.or_eq_true, Bool.and_eq_true, decide_eq_true_eq] at h2
          rcases h2 with h2 | ⟨h2, h3⟩
          ·exact .inl h2
          ·exact .inr ⟨by rw [X.eq_of_beq h2]; rfl, h3⟩
         ·rw [← z0a]; exact zHk hb.2.2.2.2
        ·rw [z0a, z0a, z2v, z5V]; rfl
    | _ => exact Sim.nope
end
end Go.Own
namespace Go.Own
variable [Glb]
noncomputable section
open Go
variable {P : Program} {cs : List Ent} {ρ : List D} {Γ : Env} {S : List SC}
def SCap.lt (d : Nat) : SCap → Bool
 | .val _ x => x.lt d
 | .ptr _ _ p => z0L.lt d p
def SV.lt (d : Nat) : SV → Bool
 | .val _ x => x.lt d
 | .tup _ x => x.lt d
 | .box _ x => x.lt d
 | .ref _ _ p _ x => z0L.lt d p && x.lt d
 | .win _ _ p _ lo n => z0L.lt d p && (lo.lt d && n.lt d)
 | .ptr _ _ p => z0L.lt d p
 | .clo _ l => l.all (SCap.lt d)
 | .bref _ x _ _ p => z0L.lt d p && x.lt d
 | _ => true
theorem SV.conc_append {l : List D} {a : SV} (h : a.lt ρ.length = true) : a.conc (ρ ++ l) = a.conc ρ := by
 cases a <;> simp only [SV.lt, Bool.and_eq_true] at h <;> simp only [SV.conc]
 case val => rw [X.den_append l h]
 case tup => rw [X.den_append l h]
 case box => rw [X.den_append l h]
 case ref => rw [X.den_append l h.2, z0L.conc_append l h.1]
 case win => rw [X.den_append l h.2.1, X.den_append l h.2.2, z0L.conc_append l h.1]
 case ptr => rw [z0L.conc_append l h]
 case bref => rw [X.den_append l h.2, z0L.conc_append l h.1]
 case clo f q =>
  congr 1
  apply List.map_congr_left
  intro c hc
  have := List.all_eq_true.1 h c hc
  cases c <;> simp only [SCap.lt] at this <;> simp only [SCap.conc]
  ·rw [X.den_append l this]
  ·rw [z0L.conc_append l this]
def ltL (d : Nat) (l : List SC) : Bool := l.all fun c => c.av.lt d
theorem SC.conc_append {l : List D} {c : SC} (h : c.av.lt ρ.length = true) : c.conc (ρ ++ l) = c.conc ρ := by
 unfold SC.conc; rw [SV.conc_append h]
theorem z6v {d : Nat} : ∀ {l : List SC} (h : ltL d l = true) (s : Nat), (sget l s).av.lt d = true
 | [], _, _ => rfl
 | c :: l, h, 0 => by simp [ltL] at h; exact h.1
 | c :: l, h, s + 1 => by simp [ltL] at h; exact z6v (l := l) (by simp [ltL]; exact h.2) s
theorem zF6 {l : List D} (h : ltL ρ.length S = true) : z0s (ρ ++ l) S = z0s ρ S := by
 unfold z0s
 congr 1
 apply List.map_congr_left
 intro c hc
 exact SC.conc_append (by simp only [ltL, List.all_eq_true] at h; exact h c hc)
theorem zId {d t : Nat} {c : SC} (h : c.av.lt d = true) : (z3n t c).lt d = true := by
 obtain ⟨a, v⟩ := c
 cases a with
 | val ty x =>
   simp only [z3n]
   split
   ·exact h
   ·unfold zLV
    split
    ·rfl
    ·simp [SV.lt, z0L.lt]; exact h
 | box => simp [z3n, SV.lt, z0L.lt]
 | bref => simp [z3n, SV.lt, z0L.lt]
 | tup => rfl
 | _ => exact h
theorem Sim.opd_lt (hS : ltL ρ.length S = true) {x : Operand} {k : SV → OR} {k' : AV → A} (h : ∀ a, a.lt ρ.length = true → Sim P cs ρ S (k a) (k' (a.conc ρ))) : Sim P cs ρ S (sopd S x k) (Own.opd x k') := by
 unfold sopd Own.opd
 split
 ·refine Sim.ask ?_
  rw [← z3q]; exact h _ (zId (z6v hS _))
 ·exact Sim.needB (fun hb => by simpa using hb) fun _ => h _ rfl
 ·exact h _ rfl
 ·exact Sim.needB (fun hb => Nat.le_of_ble_eq_true hb) fun _ => h _ rfl
 ·exact h _ rfl
 ·exact h _ rfl
 ·exact h _ rfl
 ·exact Sim.nope
structure SArg where
 m : Mode
 t : T
 x : X
def SArg.conc (ρ : List D) (a : SArg) : Arg := ⟨a.m, a.t, a.x.den ρ⟩
structure SIo where
 r : Nat
 p : z0L
 c : SC
 t : T
 x : X
def SIo.conc (ρ : List D) (i : SIo) : Io := ⟨i.r, z0L.conc ρ i.p, i.c.conc ρ, i.t, i.x.den ρ⟩
def SIo.lt (d : Nat) (i : SIo) : Bool := z0L.lt d i.p && (i.c.av.lt d && i.x.lt d)
section
variable (Γ : Env) (S : List SC)
def z6u : List SCap → (T → X → List Nat → OR) → OR
 | [], k => k .unit .u []
 | .val t x :: l, k => z6u l fun T' X' br => k (.pair t T') (.bi .pair x X') br
 | .ptr r v p :: l, k => z3A S r fun cr tr dr bx => match okX tr dr p with
   | none => none
   | some as => z0Y (z3u v cr.v (z1X p) && (bx || !Nat.beq (z1X p) 0)) as (z6u l fun T' X' br => k (.pair (.ptr (sAt tr p).view) T') (.bi .pair (getX dr p) X') (r :: br))
def z8r (m : Mode) (ty : TypeId) (x : Operand) (k : SArg → List Nat → Option SIo → OR) : OR := sopd S x fun a =>
 match m with
 | .vw => match a with
   | .val t d => k ⟨.vw, t, d⟩ [] none
   | .ref r v p t d => z3A S r fun cr tr dr _ => match okX tr dr p with
     | none => none
     | some as => z0Y (z1M v cr.v (z1X p) && decide (sAt tr p = t)) as (k ⟨.vw, t.view, smix t d (getX dr p)⟩ [r] none)
   | .nil => match Γ.ty ty with
     | .lst _ e => k ⟨.vw, .lst false e.view, .nil⟩ [] none
     | _ => none
   | .clo f l => z6u S l fun T' X' br => k ⟨.vw, .fn f T', X'⟩ br none
   | _ => none
 | .io => match a with
   | .ref r v p t d => z3A S r fun cr tr dr _ => match okX tr dr p with
     | none => none
     | some as => z0Y (z1M v cr.v (z1X p) && decide (sAt tr p = t)) as (k ⟨.io, t, smix t d (getX dr p)⟩ [] (some ⟨r, p, cr, tr, dr⟩))
   | _ => none
 | .iop => match a with
   | .ptr r v [] => z3A S r fun cr tr dr bx => z0Y (z3u v cr.v 0 && bx) [] (k ⟨.iop, tr, dr⟩ [] (some ⟨r, [], cr, tr, dr⟩))
   | _ => none
 | .own => none
def z5k : List (Mode × TypeId × Operand) → List SArg → List Nat → Option (Nat × SIo) → (List SArg → List Nat → Option (Nat × SIo) → OR) → OR
 | [], as, br, io, k => k as br io
 | (m, ty, x) :: xs, as, br, io, k => z8r Γ S m ty x fun a b i => match i with
   | none => z5k xs (as ++ [a]) (br ++ b) io k
   | some i => match io with
     | none => z5k xs (as ++ [a]) (br ++ b) (some (as.length, i)) k
     | some _ => none
def z7f (fz : Bool) (g : FuncId) (as : List (Mode × T)) : List Ent → Nat → Option (Nat × Ent)
 | [], _ => none
 | e :: es, n => if (Nat.beq e.g g && decide (e.as = as)) && (!fz || e.res.plain) then some (n, e) else z7f fz g as es (n + 1)
def callS (n : Nat) (xs : List X) (W : SWr) : OR := some ⟨[], [], some (n, xs), W⟩
def zFq : List (Mode × T) → X → List X
 | [], _ => []
 | (.io, _) :: as, x => z3y x 0 :: zFq as (mkTl x)
 | (.iop, _) :: as, x => z3y x 0 :: zFq as (mkTl x)
 | _ :: as, x => .u :: zFq as x
def Ent.sv (e : Ent) (x : X) : SV := if e.one then .val e.res x else .tup e.res x
def zHK (as : List SArg) (j : Nat) : Bool := match as[j]? with | some a => decide (a.m = .iop) | none => false
def zM9 (as : List SArg) (j : Nat) : Bool := match as[j]? with | some a => a.t.noview | none => false
def zHu (fz : Bool) (cs : List Ent) (d s : Nat) (g : FuncId) (v : Ver) (as : List SArg) (br : List Nat) (io : Option (Nat × SIo)) : OR :=
    match z7f fz g (as.map fun a => (a.m, a.t)) cs 0 with
    | none => none
    | some (n, e) => z0Y (br.isEmpty || e.res.noview) [] (match io with
      | none => z0Y (!z4W e.as) [] (callS n (as.map (·.x)) [(s, ⟨e.sv (.v d), v.kill⟩)])
      | some (j, i) => z0Y (z4W e.as) [] (z0Y (!inN br i.r && (!Nat.beq i.r s && (br.isEmpty || zM9 as j))) []
        (callS n (as.map (·.x)) [(i.r, if zHK as j then i.c.setRoot i.t ((zFq e.as (mkTl (.v d))).getD j .u) i.c.v.head
          else i.c.setRoot i.t (setX i.x i.p (zK9 (sAt i.t i.p) (getX i.x i.p) ((zFq e.as (mkTl (.v d))).getD j .u))) i.c.v.cont), (s, ⟨e.sv (z3y (.v d) 0), v.kill⟩)])))
def z8s : List (Mode × TypeId × Operand) → List SArg → List Nat → SWr → (List SArg → List Nat → SWr → OR) → OR
 | [], as, br, ws, k => k as br ws
 | (.own, ty, x) :: xs, as, br, ws, k => z5l S ws (Γ.ty ty) x fun t y ws' => z8s xs (as ++ [⟨.own, t, y⟩]) br (ws ++ ws') k
 | (m, ty, x) :: xs, as, br, ws, k => z8r Γ S m ty x fun a b i => match i with
   | none => z8s xs (as ++ [a]) (br ++ b) ws k
   | some _ => none
def zJz (cs : List Ent) (d : Nat) (dst : Option Nat) (g : FuncId) (xs : List (Mode × TypeId × Operand)) : OR :=
 match dst with
 | none => none
 | some s => askS S s fun cd => z0Y (z7N Γ s) [] (z8s Γ S xs [] [] [] fun as br ws =>
    z0Y (!inN (ws.map (·.1)) s && br.all (fun r => !inN (ws.map (·.1)) r)) [] (if ws.all (fun x => x.2.av.lt d) then
     match z7f (inN Γ.fr s) g (as.map fun a => (a.m, a.t)) cs 0 with
     | none => none
     | some (n, e) => z0Y ((br.isEmpty || e.res.noview) && !z4W e.as) [] (callS n (as.map (·.x)) (ws ++ [(s, ⟨e.sv (.v d), cd.v.kill⟩)]))
    else none))
def zLx (cs : List Ent) (d : Nat) (dst : Option Nat) (g : FuncId) (xs : List (Mode × TypeId × Operand)) : OR := if zJr xs then zJz Γ S cs d dst g xs else match dst with
 | none => none
 | some s => askS S s fun cd => z0Y (z7N Γ s) [] (z5k Γ S xs [] [] none fun as br io => zHu (inN Γ.fr s) cs d s g cd.v as br io)
def z8p : T → X → List SArg
 | .pair t T', d => ⟨.vw, t, z3y d 0⟩ :: z8p T' (mkTl d)
 | _, _ => []
def zK0 (cs : List Ent) (d : Nat) (dst : Option Nat) (q : Nat) (xs : List (TypeId × Operand)) : OR :=
 match dst with
 | none => none
 | some s => askS S s fun cd => z0Y (z7N Γ s) [] (z5k Γ S (xs.map fun x => (.vw, x.1, x.2)) [] [] none fun as br io => match io with
   | some _ => none
   | none => askS S q fun c => match c.av with
     | .val (.fn f T') x => z0Y (zF4 T') [] (zHu (inN Γ.fr s) cs d s f cd.v (as ++ z8p T' x) br none)
     | _ => none)
def zCd : List Operand → (List SCap → OR) → OR
 | [], k => k []
 | x :: xs, k => sopd S x fun a => match a with
   | .val t d => z0Y (t.plain && !t.agg) [] (zCd xs fun l => k (.val t d :: l))
   | .ptr r v p => zCd xs fun l => k (.ptr r v p :: l)
   | _ => none
def zFy (dst : Option Nat) (f : FuncId) (caps : List Operand) : OR := zCd S caps fun l => sout Γ S dst (.clo f l)
end
theorem z6V {fz : Bool} {g : FuncId} {as : List (Mode × T)} : ∀ {l : List Ent} {k n : Nat} {e : Ent}, z7f fz g as l k = some (n, e) → k ≤ n ∧ l[n - k]? = some e ∧ e.g = g ∧ e.as = as
 | [], _, _, _, h => by cases h
 | a :: l, k, n, e, h => by
   unfold z7f at h
   split at h
   ·rename_i hb
    simp only [Option.some.injEq, Prod.mk.injEq] at h
    obtain ⟨rfl, rfl⟩ := h
    rw [Bool.and_eq_true, Bool.and_eq_true, decide_eq_true_eq] at hb
    exact ⟨Nat.le_refl _, by simp, Nat.eq_of_beq_eq_true hb.1.1, hb.1.2⟩
   ·obtain ⟨h1, h2, h3⟩ := z6V h
    refine ⟨by omega, ?_, h3⟩
    rw [show n - k = (n - (k + 1)) + 1 by omega]
    simpa using h2
theorem zFr : ∀ (as : List (Mode × T)) (x : X), (zFq as x).map (X.den ρ) = z3f as (x.den ρ)
 | [], _ => rfl
 | (m, t) :: as, x => by
   cases m <;> simp [zFq, z3f, zFr as, z1p, zAu, X.den]
theorem z7l : ∀ (as : List SArg), z14 (as.map fun a => (a.m, a.t)) (as.map fun a => a.x.den ρ) = as.map (SArg.conc ρ)
 | [] => rfl
 | a :: as => by simp [z14, z7l as, SArg.conc]
theorem zJx {d : Nat} {c : SC} {t : T} {x : X} {bx : Bool} (h : c.av.lt d = true) (hr : c.root = some (t, x, bx)) : x.lt d = true := by
 obtain ⟨a, v⟩ := c
 cases a <;> simp [SC.root] at hr
 ·obtain ⟨_, rfl, _⟩ := hr; exact h
 ·obtain ⟨_, rfl, _⟩ := hr; exact h
 ·obtain ⟨_, rfl, _⟩ := hr; exact h
 ·obtain ⟨_, rfl, _⟩ := hr; simp only [SV.lt, Bool.and_eq_true] at h; exact h.2
theorem Sim.evalCaps : ∀ (l : List SCap) {k : T → X → List Nat → OR} {k' : T → D → List Nat → A}, (∀ t x br, Sim P cs ρ S (k t x br) (k' t (x.den ρ) br)) → Sim P cs ρ S (z6u S l k) (evalCaps (l.map (SCap.conc ρ)) k')
 | [], k, k', h => h .unit .u []
 | .val t x :: l, k, k', h => Sim.evalCaps l fun T' X' br => h (.pair t T') (.bi .pair x X') br
 | .ptr r v p :: l, k, k', h => by
   unfold z6u
   simp only [List.map_cons, SCap.conc, Own.evalCaps]
   refine Sim.rootOf fun c tr dr bx _ _ => ?_
   cases hok : okX tr dr p with
   | none => exact Sim.nope
   | some as =>
     refine Sim.need (fun hb ha => ?_) fun hb ha => Sim.evalCaps l fun T' X' br => ?_
     ·simp only [Bool.and_eq_true] at hb
      exact ⟨by rw [z0T]; exact z1s hb.1, z3g ρ p hok ha, zB0 hb.2⟩
     ·have := h (.pair (.ptr (sAt tr p).view) T') (.bi .pair (getX dr p) X') (r :: br)
      simp only [X.den, Bi.sem, z1L] at this
      rw [z10]; exact this
theorem Sim.evalArg (hS : ltL ρ.length S = true) {m : Mode} {ty : TypeId} {x : Operand} {k : SArg → List Nat → Option SIo → OR} {k' : Arg → List Nat → Option Io → A}
 (h : ∀ a b i, a.m = m → (∀ q, i = some q → q.lt ρ.length = true) → (i.isSome = true → m = .io ∨ m = .iop) → (i = none → m = .vw) → Sim P cs ρ S (k a b i) (k' (a.conc ρ) b (i.map (SIo.conc ρ)))) :
 Sim P cs ρ S (z8r Γ S m ty x k) (evalArg Γ m ty x k') := by
 unfold z8r Own.evalArg
 refine Sim.opd_lt hS fun a ha => ?_
 cases m with
 | vw =>
   cases a with
   | val t d => exact h ⟨.vw, t, d⟩ [] none rfl (by simp) (by simp) (fun _ => rfl)
   | ref r v p t d =>
     refine Sim.rootOf fun c tr dr bx hc hr => ?_
     cases hok : okX tr dr p with
     | none => exact Sim.nope
     | some as =>
       refine Sim.need (fun hb ha => ?_) fun hb ha => ?_
       ·simp only [Bool.and_eq_true, decide_eq_true_eq] at hb
        exact ⟨by rw [z0T]; exact z0R hb.1, by rw [z10]; exact hb.2, z3g ρ p hok ha⟩
       ·have := h ⟨.vw, t.view, smix t d (getX dr p)⟩ [r] none rfl (by simp) (by simp) (fun _ => rfl)
        simpa only [SArg.conc, z7G, z1L, Option.map_none] using this
   | nil =>
     dsimp only [SV.conc]
     cases Γ.ty ty with
     | lst o e => exact h ⟨.vw, .lst false e.view, .nil⟩ [] none rfl (by simp) (by simp) (fun _ => rfl)
     | _ => exact Sim.nope
   | clo f l => exact Sim.evalCaps l fun T' X' br => h ⟨.vw, .fn f T', X'⟩ br none rfl (by simp) (by simp) (fun _ => rfl)
   | _ => exact Sim.nope
 | io =>
   cases a with
   | ref r v p t d =>
     refine Sim.rootOf fun c tr dr bx hc hr => ?_
     cases hok : okX tr dr p with
     | none => exact Sim.nope
     | some as =>
       refine Sim.need (fun hb ha => ?_) fun hb ha' => ?_
       ·simp only [Bool.and_eq_true, decide_eq_true_eq] at hb
        exact ⟨by rw [z0T]; exact z0R hb.1, by rw [z10]; exact hb.2, z3g ρ p hok ha⟩
       ·have hlc := z6v hS r
        rw [← hc] at hlc
        simp only [SV.lt, Bool.and_eq_true] at ha
        have := h ⟨.io, t, smix t d (getX dr p)⟩ [] (some ⟨r, p, c, tr, dr⟩) rfl (by
         intro q hq; cases hq
         simp only [SIo.lt, Bool.and_eq_true]
         exact ⟨ha.1, hlc, zJx hlc hr⟩) (fun _ => .inl rfl) (by simp)
        simpa only [SArg.conc, z7G, z1L, Option.map_some, SIo.conc] using this
   | _ => exact Sim.nope
 | iop =>
   cases a with
   | ptr r v p =>
     cases p with
     | cons _ _ => exact Sim.nope
     | nil =>
       refine Sim.rootOf fun c tr dr bx hc hr => ?_
       refine Sim.needB (fun hb => ?_) fun hb => ?_
       ·simp only [Bool.and_eq_true] at hb
        exact ⟨z1s hb.1, hb.2⟩
       ·have hlc := z6v hS r
        rw [← hc] at hlc
        exact h ⟨.iop, tr, dr⟩ [] (some ⟨r, [], c, tr, dr⟩) rfl (by
         intro q hq; cases hq
         simp only [SIo.lt, Bool.and_eq_true]
         exact ⟨rfl, hlc, zJx hlc hr⟩) (fun _ => .inr rfl) (by simp)
   | _ => exact Sim.nope
 | own => cases a <;> exact Sim.nope
def zFZ (ρ : List D) (io : Option (Nat × SIo)) : Option (Nat × Io) := io.map fun x => (x.1, x.2.conc ρ)
theorem Sim.evalArgs (hS : ltL ρ.length S = true) : ∀ (xs : List (Mode × TypeId × Operand)) {as : List SArg} {br : List Nat} {io : Option (Nat × SIo)} {k : List SArg → List Nat → Option (Nat × SIo) → OR} {k' : List Arg → List Nat → Option (Nat × Io) → A},
 (∀ as br io, (∀ q, io = some q → q.2.lt ρ.length = true) → Sim P cs ρ S (k as br io) (k' (as.map (SArg.conc ρ)) br (zFZ ρ io))) →
 (∀ q, io = some q → q.2.lt ρ.length = true) → Sim P cs ρ S (z5k Γ S xs as br io k) (evalArgs Γ xs (as.map (SArg.conc ρ)) br (zFZ ρ io) k')
 | [], as, br, io, k, k', h, hio => h as br io hio
 | (m, ty, x) :: xs, as, br, io, k, k', h, hio => by
   unfold z5k Own.evalArgs
   refine Sim.evalArg hS fun a b i hm hi _ _ => ?_
   have e : as.map (SArg.conc ρ) ++ [a.conc ρ] = (as ++ [a]).map (SArg.conc ρ) := by simp
   cases i with
   | none =>
     simp only [Option.map_none]
     rw [e]
     exact Sim.evalArgs hS xs h hio
   | some i =>
     cases io with
     | some q => exact Sim.nope
     | none =>
       simp only [Option.map_some, zFZ, Option.map_none]
       rw [e]
       have := Sim.evalArgs hS xs (as := as ++ [a]) (br := br ++ b) (io := some (as.length, i)) h (by intro q hq; cases hq; exact hi i rfl)
       simpa only [zFZ, Option.map_some, List.length_map] using this
theorem Sim.callS {n : Nat} {xs : List X} {W : SWr} {g : FuncId} {as : List Arg} {dom : List Nat} {nv : Bool} {k : Res → List D → Wr}
 (h : ∀ out, zCY cs n (xs.map (X.den ρ)) = some out → ∃ r o, VX P g as (fun r' o' => r' = r ∧ o' = o) ∧ (nv = true → r.noview = true) ∧ (k r o).map (·.1) = dom ∧ k r o = z1r (ρ ++ [out]) W) :
 Sim P cs ρ S (callS n xs W) (.call g as dom nv k) := by
 intro r hr R0 K hg
 cases hr
 obtain ⟨out, ho, hK⟩ := hg.2
 obtain ⟨r, o, h1, h2, h3, h4⟩ := h out ho
 exact ⟨r, o, h1, h2, h3, by rw [h4]; exact hK R0 (fun s hs => .inl hs)⟩
theorem zLD (ρ : List D) (out : D) : (X.v ρ.length).den (ρ ++ [out]) = out := by simp [X.den]
theorem Ent.sv_conc {e : Ent} {x : X} {ρ : List D} : (e.sv x).conc ρ = (if e.one then Res.one e.res (x.den ρ) else Res.many e.res (x.den ρ)).av := by
 unfold Ent.sv
 by_cases h : e.one = true <;> simp [h, SV.conc]
theorem Ent.noview {e : Ent} {out : D} (h : e.res.noview = true) : (e.mkRes out).noview = true := by
 unfold Ent.mkRes
 by_cases h1 : e.one = true <;> simp [h1, h]
theorem zFS (ρ : List D) (l : List X) (j : Nat) : ((l.getD j .u).den ρ) = (l.map (X.den ρ)).getD j .unit := by
 simp only [List.getD_eq_getElem?_getD, List.getElem?_map]
 cases l[j]? <;> rfl
theorem Sim.callA (hcs : ∀ e ∈ cs, e.Ok P) {fz : Bool} {s : Nat} {g : FuncId} {v : Ver} {as : List SArg} {br : List Nat} {io : Option (Nat × SIo)} (hio : ∀ q, io = some q → q.2.lt ρ.length = true) :
 Sim P cs ρ S (zHu fz cs ρ.length s g v as br io) (callA s g v (as.map (SArg.conc ρ)) br (zFZ ρ io)) := by
 unfold zHu Own.callA
 cases hf : z7f fz g (as.map fun a => (a.m, a.t)) cs 0 with
 | none => exact Sim.nope
 | some q =>
   obtain ⟨n, e⟩ := q
   obtain ⟨_, he, hg, hty⟩ := z6V hf
   rw [Nat.sub_zero] at he
   have hok := hcs e (List.mem_of_getElem? he)
   have hval : ∀ out, zCY cs n ((as.map (·.x)).map (X.den ρ)) = some out → VX P g (as.map (SArg.conc ρ)) (fun r' o' => r' = e.mkRes out ∧ o' = z3f e.as (if z4W e.as then out.snd else .unit)) := by
    intro out ho
    unfold zCY at ho
    rw [he] at ho
    have h1 := hok.valid _ out (by rw [hty]; simp) ho
    rw [hty] at h1
    simp only [List.map_map] at h1
    have e2 : z14 (as.map fun a => (a.m, a.t)) (as.map (X.den ρ ∘ fun a => a.x)) = as.map (SArg.conc ρ) := z7l as
    rw [e2, hg] at h1
    refine ⟨by rw [← hg]; exact hok.callable, ?_⟩
    rw [hty]; exact h1
   refine Sim.guard fun hnv _ => ?_
   have hnv' : ∀ out, (!br.isEmpty) = true → (e.mkRes out).noview = true := by
    intro out hbr
    simp only [Bool.or_eq_true] at hnv
    rcases hnv with h | h
    ·rw [h] at hbr; cases hbr
    ·exact Ent.noview h
   cases io with
   | none =>
     refine Sim.guard fun hio' _ => ?_
     simp only [Bool.not_eq_true'] at hio'
     refine Sim.callS fun out ho => ⟨_, _, hval out ho, hnv' out, rfl, ?_⟩
     have h1 : (⟨e.sv (.v ρ.length), v.kill⟩ : SC).conc (ρ ++ [out]) = ⟨(e.mkRes out).av, v.kill⟩ := by
      rw [z5V, Ent.sv_conc, zLD]
      simp only [Ent.mkRes, hio', Bool.false_eq_true, if_false]
     rw [z2v, h1]
   | some ji =>
     obtain ⟨j, i⟩ := ji
     have hlt := hio _ rfl
     simp only [SIo.lt, Bool.and_eq_true] at hlt
     refine Sim.guard fun hio' _ => ?_
     have hj : ((as.map (SArg.conc ρ)).getD j default).m = .iop ↔ zHK as j = true := by
      simp only [zHK, List.getD_eq_getElem?_getD, List.getElem?_map]
      cases as[j]? with
      | none => simp [default, instInhabitedArg.default, instInhabitedMode.default]
      | some a => simp [SArg.conc]
     refine Sim.needB (fun hb => ?_) fun _ => ?_
     ·simp only [Bool.and_eq_true, Bool.not_eq_true', Bool.or_eq_true] at hb
      refine ⟨fun hm => ?_, z2D hb.2.1, ?_⟩
      ·have := z3S.2 hm
       have h1 := hb.1
       change inN br (SIo.conc ρ i).r = false at h1
       rw [this] at h1; cases h1
      ·rcases hb.2.2 with h | h
       ·left; simpa using h
       ·right
        simp only [zM9] at h
        simp only [List.getD_eq_getElem?_getD, List.getElem?_map]
        cases ha : as[j]? with
        | none => rw [ha] at h; cases h
        | some a => rw [ha] at h; simpa [SArg.conc] using h
     ·refine Sim.callS fun out ho => ⟨_, _, hval out ho, hnv' out, rfl, ?_⟩
      have hout : ((zFq e.as (mkTl (.v ρ.length))).getD j .u).den (ρ ++ [out]) = (z3f e.as out.snd).getD j .unit := by
       rw [zFS, zFr, zAu, zLD]
      simp only [hio', if_true]
      have h1 : (⟨e.sv (z3y (.v ρ.length) 0), v.kill⟩ : SC).conc (ρ ++ [out]) = ⟨(e.mkRes out).av, v.kill⟩ := by
       rw [z5V, Ent.sv_conc, z1p, zLD]
       simp only [Ent.mkRes, hio', if_true]
       rfl
      have hic : i.c.conc (ρ ++ [out]) = i.c.conc ρ := SC.conc_append hlt.2.1
      have hix : i.x.den (ρ ++ [out]) = i.x.den ρ := X.den_append _ hlt.2.2
      have hip : z0L.conc (ρ ++ [out]) i.p = z0L.conc ρ i.p := z0L.conc_append _ hlt.1
      unfold z1r
      simp only [List.map_cons, List.map_nil, h1]
      congr 2
      by_cases hm : zHK as j = true
      ·rw [if_pos (hj.2 hm), if_pos hm, SC.setRoot_conc, hout, hic]; rfl
      ·rw [if_neg (fun h => hm (hj.1 h)), if_neg hm, SC.setRoot_conc, z5H, zCh, hout, hic, z1L, hix, hip]
       simp only [SIo.conc, z10]
       rfl
theorem zJ1 (hcs : ∀ e ∈ cs, e.Ok P) {fz : Bool} {g : FuncId} {as : List SArg} {n : Nat} {e : Ent} (hf : z7f fz g (as.map fun a => (a.m, a.t)) cs 0 = some (n, e)) :
 ∀ out, zCY cs n ((as.map (·.x)).map (X.den ρ)) = some out → VX P g (as.map (SArg.conc ρ)) (fun r' o' => r' = e.mkRes out ∧ o' = z3f e.as (if z4W e.as then out.snd else .unit)) := by
 intro out ho
 obtain ⟨_, he, hg, hty⟩ := z6V hf
 rw [Nat.sub_zero] at he
 have hok := hcs e (List.mem_of_getElem? he)
 unfold zCY at ho
 rw [he] at ho
 have h1 := hok.valid _ out (by rw [hty]; simp) ho
 rw [hty] at h1
 simp only [List.map_map] at h1
 have e2 : z14 (as.map fun a => (a.m, a.t)) (as.map (X.den ρ ∘ fun a => a.x)) = as.map (SArg.conc ρ) := z7l as
 rw [e2, hg] at h1
 refine ⟨by rw [← hg]; exact hok.callable, ?_⟩
 rw [hty]; exact h1
theorem zKY {ws : SWr} {out : D} (h : (ws.all fun x => x.2.av.lt ρ.length) = true) : z1r (ρ ++ [out]) ws = z1r ρ ws := by
 unfold z1r
 refine List.map_congr_left fun x hx => ?_
 rw [List.all_eq_true] at h
 rw [SC.conc_append (h x hx)]
theorem Sim.evalG (hS : ltL ρ.length S = true) : ∀ (xs : List (Mode × TypeId × Operand)) {as : List SArg} {br : List Nat} {ws : SWr} {k : List SArg → List Nat → SWr → OR} {k' : List Arg → List Nat → Wr → A},
 (∀ as br ws, Sim P cs ρ S (k as br ws) (k' (as.map (SArg.conc ρ)) br (z1r ρ ws))) → Sim P cs ρ S (z8s Γ S xs as br ws k) (evalG Γ xs (as.map (SArg.conc ρ)) br (z1r ρ ws) k')
 | [], as, br, ws, k, k', h => h as br ws
 | (m, ty, x) :: xs, as, br, ws, k, k', h => by
   have e : ∀ a : SArg, as.map (SArg.conc ρ) ++ [a.conc ρ] = (as ++ [a]).map (SArg.conc ρ) := fun a => by simp
   have other : ∀ m : Mode, Sim P cs ρ S (z8r Γ S m ty x fun a b i => match i with
    | none => z8s Γ S xs (as ++ [a]) (br ++ b) ws k
    | some _ => none) (Own.evalArg Γ m ty x fun a b i => match i with
    | none => Own.evalG Γ xs (as.map (SArg.conc ρ) ++ [a]) (br ++ b) (z1r ρ ws) k'
    | some _ => .fail) := by
    intro m
    refine Sim.evalArg hS fun a b i hm hi _ _ => ?_
    cases i with
    | none =>
      simp only [Option.map_none]
      rw [e]
      exact Sim.evalG hS xs h
    | some i => exact Sim.nope
   cases m with
   | own =>
     unfold z8s Own.evalG
     refine Sim.takeW fun t y ws' => ?_
     have := Sim.evalG hS xs (as := as ++ [⟨.own, t, y⟩]) (br := br) (ws := ws ++ ws') h
     rw [← e, z0a] at this
     exact this
   | vw => unfold z8s Own.evalG; exact other _
   | io => unfold z8s Own.evalG; exact other _
   | iop => unfold z8s Own.evalG; exact other _
theorem Sim.callO (hcs : ∀ e ∈ cs, e.Ok P) (hS : ltL ρ.length S = true) {dst : Option Nat} {g : FuncId} {xs : List (Mode × TypeId × Operand)} :
 Sim P cs ρ S (zJz Γ S cs ρ.length dst g xs) (zC7 Γ dst g xs) := by
 unfold zJz zC7
 cases dst with
 | none => exact Sim.nope
 | some s =>
   refine Sim.ask (Sim.needB (fun hb => z0r hb) fun _ => ?_)
   refine Sim.evalG hS xs (as := []) (br := []) (ws := []) fun as br ws => ?_
   have hfst : (z1r ρ ws).map (·.1) = ws.map (·.1) := z5R ρ ws
   refine Sim.needB (fun hb => ?_) fun _ => ?_
   ·simp only [Bool.and_eq_true, Bool.not_eq_true', List.all_eq_true] at hb
    rw [hfst]
    refine ⟨fun hm => ?_, fun r hr hm => ?_⟩
    ·have := z3S.2 hm; rw [hb.1] at this; cases this
    ·have := z3S.2 hm; rw [hb.2 r hr] at this; cases this
   ·split
    case isFalse => exact Sim.nope
    rename_i hlt
    split
    ·exact Sim.nope
    rename_i n e hf
    refine Sim.guard fun hnv _ => ?_
    simp only [Bool.and_eq_true, Bool.or_eq_true, Bool.not_eq_true'] at hnv
    refine Sim.callS fun out ho => ⟨_, _, zJ1 hcs hf out ho, fun hbr => ?_, ?_, ?_⟩
    ·rcases hnv.1 with h | h
     ·rw [h] at hbr; cases hbr
     ·exact Ent.noview h
    ·simp [hfst]
    ·have h1 : (⟨e.sv (.v ρ.length), (sget S s).v.kill⟩ : SC).conc (ρ ++ [out]) = ⟨(e.mkRes out).av, (sget S s).v.kill⟩ := by
      rw [z5V, Ent.sv_conc, zLD]
      simp only [Ent.mkRes, hnv.2, Bool.false_eq_true, if_false]
     rw [z0a, zKY hlt, z2v, h1]
     rfl
theorem Sim.call (hcs : ∀ e ∈ cs, e.Ok P) (hS : ltL ρ.length S = true) {dst : Option Nat} {g : FuncId} {xs : List (Mode × TypeId × Operand)} :
 Sim P cs ρ S (zLx Γ S cs ρ.length dst g xs) (zFk Γ dst g xs) := by
 unfold zLx zFk
 split
 ·exact Sim.callO hcs hS
 cases dst with
 | none => exact Sim.nope
 | some s =>
   refine Sim.ask (Sim.needB (fun hb => z0r hb) fun _ => ?_)
   exact Sim.evalArgs hS xs (as := []) (br := []) (io := none) (fun as br io hio => Sim.callA hcs hio) (by simp)
theorem z8q : ∀ (T' : T) (x : X), (z8p T' x).map (SArg.conc ρ) = z6L T' (x.den ρ)
 | .pair t T', x => by
   simp only [z8p, List.map_cons, z6L, z8q T', zAu]
   congr 1
   simp [SArg.conc, z1p]
 | .unit, _ | .int _, _ | .bool, _ | .str, _ | .lst _ _, _ | .ptr _, _ | .fn _ _, _ | .err, _ | .gone, _ => rfl
theorem Sim.callV (hcs : ∀ e ∈ cs, e.Ok P) (hS : ltL ρ.length S = true) {dst : Option Nat} {q : Nat} {xs : List (TypeId × Operand)} :
 Sim P cs ρ S (zK0 Γ S cs ρ.length dst q xs) (zC8 Γ dst q xs) := by
 unfold zK0 zC8
 cases dst with
 | none => exact Sim.nope
 | some s =>
   refine Sim.ask (Sim.needB (fun hb => z0r hb) fun _ => ?_)
   refine Sim.evalArgs hS _ (as := []) (br := []) (io := none) (fun as br io hio => ?_) (by simp)
   cases io with
   | some _ => exact Sim.nope
   | none =>
     refine Sim.ask ?_
     generalize sget S q = c
     obtain ⟨a, v⟩ := c
     cases a with
     | val ty x =>
       cases ty with
       | fn f T' =>
         refine Sim.needB (fun hb => hb) fun _ => ?_
         have := Sim.callA (P := P) (S := S) (ρ := ρ) hcs (fz := inN Γ.fr s) (s := s) (g := f) (v := (sget S s).v) (as := as ++ z8p T' x) (br := br) (io := none) (by simp)
         rw [List.map_append, z8q] at this
         exact this
       | _ => exact Sim.nope
     | _ => exact Sim.nope
theorem Sim.capsOf : ∀ (xs : List Operand) {k : List SCap → OR} {k' : List Cap → A}, (∀ l, Sim P cs ρ S (k l) (k' (l.map (SCap.conc ρ)))) → Sim P cs ρ S (zCd S xs k) (capsOf xs k')
 | [], k, k', h => h []
 | x :: xs, k, k', h => by
   unfold zCd Own.capsOf
   refine Sim.opd fun a => ?_
   cases a with
   | val t d =>
     refine Sim.needB (fun hb => by simpa using hb) fun _ => Sim.capsOf xs fun l => h (.val t d :: l)
   | ptr r v p => exact Sim.capsOf xs fun l => h (.ptr r v p :: l)
   | _ => exact Sim.nope
theorem Sim.makeFunc {dst : Option Nat} {f : FuncId} {caps : List Operand} : Sim P cs ρ S (zFy Γ S dst f caps) (z9X Γ dst f caps) :=
 Sim.capsOf caps fun l => Sim.out' rfl
def zMg : List Mode → List TypeId → List Operand → List (Mode × TypeId × Operand)
 | m :: ms, t :: ts, x :: xs => (m, t, x) :: zMg ms ts xs
 | _, _, _ => []
def sopA (Γ : Env) (cs : List Ent) (S : List SC) (f : List (X × Bool)) (d : Nat) (o : Oper) : OR :=
 match o.op with
 | .move x => zLz Γ S o.dst x
 | .assign x => zH7 Γ S o.dst o.type x
 | .pick c a b => zM0 Γ S f o.dst c a b
 | .alloc t => zLU Γ S o.dst t
 | .box t x => sBox Γ S o.dst t x
 | .build t ps => zJy Γ S o.dst t ps.toList
 | .buildSlice t n ps => z81 Γ S o.dst t n ps.toList
 | .load t x => zK6 Γ S o.dst t x
 | .store t x y => match o.dst with
   | none => zH8 Γ S t x y
   | some _ => none
 | .nilCheck x => sNil Γ S o.dst x
 | .binOp op t x y _ => if (Γ.ty t).agg then sEqS Γ S o.dst op t x y else sBin Γ S o.dst op t x y
 | .unOp op _ x => sUn Γ S o.dst op x
 | .convert s t x => if (Γ.ty t).lsts then zK2 Γ S o.dst s t x else zLy Γ S o.dst s t x
 | .makeSlice t l c => z9i Γ S o.dst t l c
 | .fieldAddr t x j => z9g Γ S o.dst t x j
 | .field t x j => zK3 Γ S o.dst t x j
 | .indexAddr t x i => z9h Γ S o.dst t x i
 | .index t x i => zK4 Γ S o.dst t x i
 | .slice t x lo hi mx => zK7 Γ S o.dst t x lo hi mx
 | .extract x j => zEk Γ S o.dst x j
 | .makeFunc fn first caps => match fn with
   | .func f => z0Y (Nat.beq first.size 0) [] (zFy Γ S o.dst f caps.toList)
   | _ => none
 | .call c => match c.callee with
   | .builtin .len => match c.args.toList, c.argTypes.toList with
     | [x], t :: _ => sLen Γ S o.dst t x
     | _, _ => none
   | .builtin .append => match c.args.toList, c.argTypes.toList with
     | [x, y], [t, u] => zH6 Γ S o.dst t u x y
     | _, _ => none
   | .builtin .min => zEl Γ S false o.dst c.args.toList
   | .builtin .max => zEl Γ S true o.dst c.args.toList
   | .builtin .clear => match c.args.toList, c.argTypes.toList with
     | [x], [t] => zK1 Γ S o.dst t x
     | _, _ => none
   | .value (.tmp q) => z0Y (Nat.beq c.argTypes.size c.args.size) [] (zK0 Γ S cs d o.dst q (c.argTypes.toList.zip c.args.toList))
   | .value (.func g) => z0Y (Nat.beq (Γ.sig g).length c.args.size && Nat.beq c.argTypes.size c.args.size) [] (zLx Γ S cs d o.dst g (zip3 (Γ.sig g) c.argTypes.toList c.args.toList))
   | _ => none
 | _ => none
theorem Sim.opA (hcs : ∀ e ∈ cs, e.Ok P) (hS : ltL ρ.length S = true) {f : List (X × Bool)} (hf : zA0 ρ f) {o : Oper} : Sim P cs ρ S (sopA Γ cs S f ρ.length o) (opA Γ o) := by
 obtain ⟨dst, op, ty, pos, aft, grd⟩ := o
 unfold sopA Own.opA
 cases op with
 | move x => exact Sim.move
 | assign x => exact Sim.assign
 | pick c x y => exact Sim.pick hf
 | alloc t => exact Sim.alloc
 | box t x => exact Sim.box
 | build t ps => exact Sim.build
 | buildSlice t n ps => exact Sim.buildSlice
 | load t x => exact Sim.loadD
 | store t x y =>
   cases dst with
   | none => exact Sim.storeC
   | some _ => exact Sim.nope
 | nilCheck x => exact Sim.nilc
 | binOp op t x y u =>
   refine Sim.ite Iff.rfl (fun _ => Sim.eqS) fun _ => Sim.bin
 | unOp op t x => exact Sim.un
 | convert s t x => exact Sim.ite Iff.rfl (fun _ => Sim.convB) fun _ => Sim.conv
 | makeSlice t l c => exact Sim.makeSlice
 | fieldAddr t x j => exact Sim.fieldAddr
 | field t x j => exact Sim.field
 | indexAddr t x i => exact Sim.indexAddr
 | index t x i => exact Sim.index
 | slice t x lo hi mx => exact Sim.slice
 | extract x j => exact Sim.extract
 | makeFunc fn first caps =>
   cases fn with
   | func f => exact Sim.needB (fun hb => Nat.eq_of_beq_eq_true hb) fun _ => Sim.makeFunc
   | _ => exact Sim.nope
 | call c =>
   obtain ⟨callee, args, ats⟩ := c
   dsimp only
   cases callee with
   | builtin b =>
     cases b <;> first | exact Sim.nope | skip
     ·dsimp only
      split
      ·rename_i h1 h2
       simp only [h1, h2]
       exact Sim.append
      ·exact Sim.nope
     ·dsimp only
      split
      ·rename_i h1 h2
       simp only [h1, h2]
       exact Sim.clear
      ·exact Sim.nope
     ·dsimp only
      split
      ·rename_i h1 h2
       simp only [h1, h2]
       exact Sim.len
      ·exact Sim.nope
     ·exact Sim.minMax
     ·exact Sim.minMax
   | value v =>
     cases v with
     | func g =>
       refine Sim.needB (fun hb => ?_) fun _ => Sim.call hcs hS
       simp only [Bool.and_eq_true] at hb
       exact ⟨Nat.eq_of_beq_eq_true hb.1, Nat.eq_of_beq_eq_true hb.2⟩
     | tmp q => exact Sim.needB (fun hb => Nat.eq_of_beq_eq_true hb) fun _ => Sim.callV hcs hS
     | _ => exact Sim.nope
   | invoke _ _ => exact Sim.nope
 | _ => exact Sim.nope
end
end Go.Own
