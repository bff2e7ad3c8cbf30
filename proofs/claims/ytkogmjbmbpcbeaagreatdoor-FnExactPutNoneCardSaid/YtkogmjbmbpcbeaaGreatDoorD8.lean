/- A layer over the walk: what lies in memory as plain data, each operation by what it does to data; part 25. -/
import Derived.Test.YtkogmjbmbpcbeaaGreatDoorD6
set_option linter.unusedSectionVars false
set_option linter.unusedVariables false
set_option linter.unusedSimpArgs false
namespace Go.Own
variable [Glb]
noncomputable section
open Go
def z4f (S : List SC) (ws : SWr) (s : Nat) : SC := match zG5 ws s with
 | some c => c
 | none => sget S s
theorem zDw {Xc : Ctr} {ρ : List D} {S : List SC} {ws : SWr} {s : Nat} {k' : Cl → A} {K : Wr → Prop} (h : (k' ((z4f S ws s).conc ρ)).wp Xc (z0s ρ S) K) : (askW (z1r ρ ws) s k').wp Xc (z0s ρ S) K := by
 unfold askW
 rw [z9l]
 unfold z4f at h
 cases hs : zG5 ws s with
 | some c => rw [hs] at h; exact h
 | none =>
   rw [hs] at h
   simp only [Option.map_none, A.wp]
   rw [z0g]; exact h
def zHy (S : List SC) (ws : SWr) (want : T) (s : Nat) : Option (T × X × SWr) :=
 match (z4f S ws s).av with
 | .val ty x => if ty.plain then some (ty, x, []) else some (ty, x, [(s, ⟨.undef, (z4f S ws s).v.kill⟩)])
 | .ref r v p ty x => match (z4f S ws r).root with
   | some (tr, xr, _) => if z1M v (z4f S ws r).v 0 && (zCb tr p && decide (sAt tr p = ty)) then
      some (ty, smix ty x (getX xr p), [(r, (z4f S ws r).setRoot (z82 tr p ty.moved) xr (z4f S ws r).v.head)]) else none
   | none => none
 | .nil => match want with
   | .lst _ e => some (.lst true e, .nil, [])
   | _ => none
 | _ => none
theorem zG9 {Xc : Ctr} {ρ : List D} {S : List SC} {ws : SWr} {want : T} {s : Nat} {t : T} {x : X} {w : SWr} {k' : T → D → Wr → A} {K : Wr → Prop} (h : zHy S ws want s = some (t, x, w)) (hk : (k' t (x.den ρ) (z1r ρ w)).wp Xc (z0s ρ S) K) :
 (takeW (z1r ρ ws) want (.tmp s) k').wp Xc (z0s ρ S) K := by
 unfold zHy at h
 unfold takeW
 refine zDw ?_
 generalize hc : z4f S ws s = c at h
 obtain ⟨a, v⟩ := c
 simp only at h
 cases a with
 | val ty y =>
   simp only [SC.conc, SV.conc]
   simp only at h
   by_cases hp : ty.plain = true
   ·rw [if_pos hp] at h ⊢
    cases h; exact hk
   ·rw [if_neg hp] at h ⊢
    cases h; exact hk
 | ref r v p ty y =>
   simp only [SC.conc, SV.conc]
   refine zDw ?_
   simp only at h
   generalize z4f S ws r = cr at h
   rw [SC.root_conc]
   cases hr : cr.root with
   | none => rw [hr] at h; cases h
   | some q =>
     obtain ⟨tr, xr, bx⟩ := q
     rw [hr] at h
     simp only at h
     split at h
     case isFalse => cases h
     rename_i hb
     cases h
     simp only [Bool.and_eq_true, decide_eq_true_eq] at hb
     simp only [Option.map_some, A.wp]
     refine ⟨⟨z0R hb.1, by rw [z4J]; exact hb.2.1, by rw [z10]; exact hb.2.2⟩, ?_⟩
     rw [z7G, z1L] at hk
     simp only [z1r, List.map_cons, List.map_nil, SC.setRoot_conc] at hk
     rw [z4R]
     exact hk
 | nil =>
   simp only [SC.conc, SV.conc]
   simp only at h
   cases want <;> first | (cases h; done) | (cases h; exact hk)
 | _ => cases h
def zKD (Γ : Env) (S : List SC) (ws : SWr) (r : ResultVar) (want : TypeId) : Option (T × X × SWr) :=
 match r with
 | .tmp s => zHy S ws (Γ.ty want) s
 | .cell a t => match (z4f S ws a).av with
   | .box tr dr => if decide (tr.view = (Γ.ty t).view) && (Γ.ty t).ok then some (tr, dr, [(a, ⟨.undef, (z4f S ws a).v.kill⟩)]) else none
   | _ => none
theorem zKE {Γ : Env} {Xc : Ctr} {ρ : List D} {S : List SC} {ws : SWr} {r : ResultVar} {want : TypeId} {t : T} {x : X} {w : SWr} {k' : T → D → Wr → A} {K : Wr → Prop} (h : zKD Γ S ws r want = some (t, x, w)) (hk : (k' t (x.den ρ) (z1r ρ w)).wp Xc (z0s ρ S) K) :
 (zKH Γ (z1r ρ ws) r want k').wp Xc (z0s ρ S) K := by
 cases r with
 | tmp s => exact zG9 h hk
 | cell a ty =>
   simp only [zKD] at h
   unfold zKH
   refine zDw ?_
   generalize z4f S ws a = c at h
   obtain ⟨av, v⟩ := c
   cases av with
   | box tr dr =>
     simp only at h
     split at h
     case isFalse => cases h
     rename_i hb
     cases h
     simp only [Bool.and_eq_true, decide_eq_true_eq] at hb
     exact ⟨hb, hk⟩
   | _ => cases h
def zL5 (Γ : Env) (S : List SC) : List ResultVar → List TypeId → SWr → Option (T × X × SWr)
 | r :: rs, t :: ts, ws => match zKD Γ S ws r t with
   | some (t1, x1, w1) => match zL5 Γ S rs ts (ws ++ w1) with
     | some (t2, x2, w2) => some (.pair t1 t2, .bi .pair x1 x2, w2)
     | none => none
   | none => none
 | [], _, ws => some (.unit, .u, ws)
 | _ :: _, [], _ => none
theorem zHx {Γ : Env} {Xc : Ctr} {ρ : List D} {S : List SC} {K : Wr → Prop} : ∀ {rs : List ResultVar} {ts : List TypeId} {ws : SWr} {t : T} {x : X} {w : SWr} {k' : T → D → Wr → A}, zL5 Γ S rs ts ws = some (t, x, w) → (k' t (x.den ρ) (z1r ρ w)).wp Xc (z0s ρ S) K →
 (resT Γ rs ts (z1r ρ ws) k').wp Xc (z0s ρ S) K
 | r :: rs, ty :: ts, ws, t, x, w, k', h, hk => by
   unfold zL5 at h
   split at h
   case h_2 => cases h
   rename_i t1 x1 w1 h1
   split at h
   case h_2 => cases h
   rename_i t2 x2 w2 h2
   cases h
   unfold resT
   refine zKE h1 ?_
   rw [← z0a]
   exact zHx h2 hk
 | [], _, ws, t, x, w, k', h, hk => by
   cases h
   unfold resT
   exact hk
 | _ :: _, [], _, _, _, _, _, h, _ => by cases h
def z4U (S : List SC) : Nat → List (Mode × T) → SWr → Option (List X)
 | _, [], _ => some []
 | i, (.io, t) :: as, ws => match zHy S ws t i with
   | some (t1, x1, w1) => if decide (t1 = t) then (z4U S (i + 1) as (ws ++ w1)).map (x1 :: ·) else none
   | none => none
 | i, (.iop, t) :: as, ws => match (z4f S ws i).av with
   | .box t1 x1 => if decide (t1 = t) then (z4U S (i + 1) as (ws ++ [(i, ⟨.undef, (z4f S ws i).v.kill⟩)])).map (x1 :: ·) else none
   | _ => none
 | i, _ :: as, ws => (z4U S (i + 1) as ws).map (.u :: ·)
theorem z6x {Xc : Ctr} {ρ : List D} {S : List SC} {K : Wr → Prop} : ∀ {as : List (Mode × T)} {ds : List D} {i : Nat} {ws : SWr} {xs : List X} {k' : List D → Wr → A}, ds.length = as.length → z4U S i as ws = some xs → (∀ ws', (k' (xs.map (X.den ρ)) ws').wp Xc (z0s ρ S) K) →
 (zEa i (z14 as ds) (z1r ρ ws) k').wp Xc (z0s ρ S) K
 | [], [], i, ws, xs, k', _, h, hk => by cases h; exact hk _
 | [], _ :: _, _, _, _, _, hl, _, _ => by simp at hl
 | _ :: _, [], _, _, _, _, hl, _, _ => by simp at hl
 | (m, t) :: as, d :: ds, i, ws, xs, k', hl, h, hk => by
   simp only [List.length_cons, Nat.succ.injEq] at hl
   unfold z14 zEa
   cases m with
   | io =>
     unfold z4U at h
     simp only at h ⊢
     split at h
     case h_2 => cases h
     rename_i t1 x1 w1 h1
     split at h
     case isFalse => cases h
     rename_i ht
     simp only [Option.map_eq_some_iff] at h
     obtain ⟨ys, hy, rfl⟩ := h
     refine zG9 h1 ?_
     simp only [A.wp]
     refine ⟨by simpa using ht, ?_⟩
     rw [← z0a]
     exact z6x hl hy fun ws' => by simpa using hk ws'
   | iop =>
     unfold z4U at h
     simp only at h ⊢
     refine zDw ?_
     generalize hcc : z4f S ws i = c at h
     obtain ⟨av, v⟩ := c
     cases av with
     | box t1 x1 =>
       simp only at h
       split at h
       case isFalse => cases h
       rename_i ht
       simp only [Option.map_eq_some_iff] at h
       obtain ⟨ys, hy, rfl⟩ := h
       simp only [SC.conc, SV.conc, A.wp]
       refine ⟨by simpa using ht, ?_⟩
       have := z6x (Xc := Xc) (K := K) (ρ := ρ) (k' := fun ds ws'' => k' (x1.den ρ :: ds) ws'') hl hy fun ws' => by simpa using hk ws'
       rw [z0a] at this
       exact this
     | _ => cases h
   | vw =>
     unfold z4U at h
     simp only [Option.map_eq_some_iff] at h
     obtain ⟨ys, hy, rfl⟩ := h
     exact z6x hl hy fun ws' => by simpa [X.den] using hk ws'
   | own =>
     unfold z4U at h
     simp only [Option.map_eq_some_iff] at h
     obtain ⟨ys, hy, rfl⟩ := h
     exact z6x hl hy fun ws' => by simpa [X.den] using hk ws'
def zAX : List (Mode × T) → List X → X
 | (.io, _) :: as, o :: os => .bi .pair o (zAX as os)
 | (.iop, _) :: as, o :: os => .bi .pair o (zAX as os)
 | _ :: as, _ :: os => zAX as os
 | _, _ => .u
theorem z6p {ρ : List D} {S : List SC} : ∀ {as : List (Mode × T)} {i : Nat} {ws : SWr} {xs : List X}, z4U S i as ws = some xs → z3f as ((zAX as xs).den ρ) = xs.map (X.den ρ)
 | [], i, ws, xs, h => by cases h; rfl
 | (m, t) :: as, i, ws, xs, h => by
   cases m with
   | io =>
     unfold z4U at h
     split at h
     case h_2 => cases h
     split at h
     case isFalse => cases h
     simp only [Option.map_eq_some_iff] at h
     obtain ⟨ys, hy, rfl⟩ := h
     simp [zAX, z3f, X.den, Bi.sem, z6p hy]
   | iop =>
     unfold z4U at h
     split at h
     case h_2 => cases h
     split at h
     case isFalse => cases h
     simp only [Option.map_eq_some_iff] at h
     obtain ⟨ys, hy, rfl⟩ := h
     simp [zAX, z3f, X.den, Bi.sem, z6p hy]
   | vw =>
     unfold z4U at h
     simp only [Option.map_eq_some_iff] at h
     obtain ⟨ys, hy, rfl⟩ := h
     simp [zAX, z3f, X.den, z6p hy]
   | own =>
     unfold z4U at h
     simp only [Option.map_eq_some_iff] at h
     obtain ⟨ys, hy, rfl⟩ := h
     simp [zAX, z3f, X.den, z6p hy]
theorem z7m : ∀ {as : List (Mode × T)} {S : List SC} {i : Nat} {ws : SWr} {xs : List X} {ρ : List D} (d : D), z4W as = false → z4U S i as ws = some xs → z3f as d = xs.map (X.den ρ)
 | [], S, i, ws, xs, ρ, d, _, h => by cases h; rfl
 | (m, t) :: as, S, i, ws, xs, ρ, d, hn, h => by
   simp only [z4W, List.any_cons, Bool.or_eq_false_iff, decide_eq_false_iff_not] at hn
   cases m with
   | io => simp at hn
   | iop => simp at hn
   | vw =>
     unfold z4U at h
     simp only [Option.map_eq_some_iff] at h
     obtain ⟨ys, hy, rfl⟩ := h
     simp [z3f, X.den, z7m (ρ := ρ) d (by simpa [z4W] using hn.2) hy]
   | own =>
     unfold z4U at h
     simp only [Option.map_eq_some_iff] at h
     obtain ⟨ys, hy, rfl⟩ := h
     simp [z3f, X.den, z7m (ρ := ρ) d (by simpa [z4W] using hn.2) hy]
def zFc : T → Bool
 | .pair _ .unit => true
 | _ => false
def zLk : T → T → Bool
 | .lst true e, .lst true e' => decide (e.view = e'.view)
 | _, _ => false
theorem zIT {t u : T} (h : zLk t u = true) : ∃ e e', t = .lst true e ∧ u = .lst true e' ∧ e.view = e'.view := by
 unfold zLk at h
 split at h
 ·exact ⟨_, _, rfl, rfl, of_decide_eq_true h⟩
 ·cases h
def sfin (Γ : Env) (fn : Func) (as : List (Mode × T)) (one : Bool) (res : T) (S : List SC) : Option X :=
 match zL5 Γ S fn.results.toList fn.resultTypes.toList [] with
 | none => none
 | some (t, x, ws) => match z4U S 0 as ws with
   | none => none
   | some os =>
     if one then
      (if zFc t && decide (t.fld 0 = res) then some (if z4W as then .bi .pair (z3y x 0) (zAX as os) else z3y x 0)
       else if zFc t && (zLk (t.fld 0) res && (z3y x 0).beq .nil) then some (if z4W as then .bi .pair .nil (zAX as os) else .nil) else none)
     else
      (if !zFc t && decide (t = res) then some (if z4W as then .bi .pair x (zAX as os) else x) else none)
def zDv : List (Mode × T) → Nat → List SC
 | [], _ => []
 | (m, t) :: as, i => ⟨if decide (m = .iop) then .box t (.v i) else .val t (.v i), ⟨0, 0, 0⟩⟩ :: zDv as (i + 1)
def zFa : List (Mode × T) → Nat → List Nat
 | [], _ => []
 | (m, _) :: as, i => if decide (m = .io) || decide (m = .iop) then i :: zFa as (i + 1) else zFa as (i + 1)
def zMX (cs : List Ent) (g : FuncId) : List Mode := match cs with
 | [] => []
 | e :: cs => if Nat.beq e.g g then e.as.map (·.1) else zMX cs g
def tyOf : List (TypeId × T × Nat) → TypeId → T
 | [], _ => .gone
 | (n, t, _) :: l, m => if Nat.beq n m then t else tyOf l m
def ebOf : List (TypeId × T × Nat) → TypeId → Nat
 | [], _ => 0
 | (n, _, e) :: l, m => if Nat.beq n m then e else ebOf l m
def zJ2 (tys : List (TypeId × T × Nat)) (cs : List Ent) (fn : Func) (as : List (Mode × T)) (hs : List (Nat × Hint)) : Env := ⟨tyOf tys, ebOf tys, zMX cs, fn.ntmps, zFa as 0, zMK hs⟩
def kfin (Γ : Env) (fn : Func) (as : List (Mode × T)) (one : Bool) (res : T) : Kont := fun e S _ _ => match e with
 | .normal => (sfin Γ fn as one res (z64 fn.results.toList S)).map fun x => .out 0 [x]
 | .ret => (sfin Γ fn as one res (z64 fn.results.toList S)).map fun x => .out 0 [x]
 | _ => none
def comp (tys : List (TypeId × T × Nat)) (cs : List Ent) (hs : List (Nat × Hint)) (fn : Func) (as : List (Mode × T)) (one : Bool) (res : T) : Option PE :=
 match fn.body with
 | none => none
 | some c => if Nat.ble as.length fn.ntmps then sx (zJ2 tys cs fn as hs) cs hs c 1 (zDv as 0) [] as.length (kfin (zJ2 tys cs fn as hs) fn as one res) else none
def zLv (cs : List Ent) (pe : PE) (ds : List D) : Option D := (den cs pe ds 0 []).bind fun o => o.2.head?
variable {P : Program} {cs : List Ent}
theorem zM2 {Γ : Env} {fn : Func} {as : List (Mode × T)} {one : Bool} {res : T} {S : List SC} {x : X} {ρ ds : List D} {e : Ent} (hl : ds.length = as.length) (he : e.as = as) (ho : e.one = one) (hr : e.res = res) (h : sfin Γ fn as one res S = some x) :
 fin Γ fn (z14 as ds) (fun R O => R = e.mkRes (x.den ρ) ∧ O = z3f e.as (if z4W e.as then (x.den ρ).snd else .unit)) (z0s ρ S) := by
 subst he ho hr
 unfold sfin at h
 split at h
 ·cases h
 rename_i t y ws h1
 split at h
 ·cases h
 rename_i os h2
 unfold fin
 refine zHx (ws := []) h1 ?_
 refine z6x hl h2 fun ws' => ?_
 simp only [A.wp, and_true]
 have hO : ∀ {d : D}, (z4W e.as = true → d.snd = (zAX e.as os).den ρ) → os.map (X.den ρ) = z3f e.as (if z4W e.as then d.snd else .unit) := by
  intro d hd
  by_cases hi : z4W e.as = true
  ·rw [if_pos hi, hd hi, z6p h2]
  ·rw [if_neg hi, z7m .unit (by simpa using hi) h2]
 split at h
 ·rename_i hone
  split at h
  case isFalse =>
   split at h
   case isFalse => cases h
   rename_i hb
   simp only [Bool.and_eq_true] at hb
   obtain ⟨hb1, hb2, hb3⟩ := hb
   obtain ⟨e0, e', ht0, hr0, hv⟩ := zIT hb2
   have ht : t = .pair (.lst true e0) .unit := by
    cases t with
    | pair a b => cases b <;> simp [zFc] at hb1 ht0 ⊢; exact ht0
    | _ => simp [zFc] at hb1
   subst ht
   cases h
   have hd : (y.den ρ).fst = .lst [] := by
    have h5 := X.eq_of_beq hb3
    have h6 : ((z3y y 0).den ρ) = (X.nil).den ρ := by rw [h5]
    rw [z1p] at h6
    exact h6
   refine ⟨_, .inr ⟨e0, e', rfl, hd, hv, rfl⟩, ?_, hO (d := _) ?_⟩
   ·unfold Ent.mkRes
    rw [if_pos hone, hr0]
    congr 1
    by_cases hi : z4W e.as = true
    ·rw [if_pos hi, if_pos hi]; rfl
    ·rw [if_neg hi, if_neg hi]; rfl
   ·intro hi; rw [if_pos hi]; rfl
  rename_i hb
  simp only [Bool.and_eq_true, decide_eq_true_eq] at hb
  have ht : t = .pair e.res .unit := by
   cases t with
   | pair a b => cases b <;> simp [zFc] at hb ⊢; exact hb
   | _ => simp [zFc] at hb
  subst ht
  cases h
  refine ⟨_, .inl rfl, ?_, hO (d := _) ?_⟩
  ·unfold Ent.mkRes
   rw [if_pos hone]
   simp only [zFv]
   congr 1
   by_cases hi : z4W e.as = true
   ·rw [if_pos hi, if_pos hi]; simp [X.den, Bi.sem, z1p]
   ·rw [if_neg hi, if_neg hi]; simp [z1p]
  ·intro hi; rw [if_pos hi]; rfl
 ·rename_i hone
  split at h
  case isFalse => cases h
  rename_i hb
  simp only [Bool.and_eq_true, decide_eq_true_eq, Bool.not_eq_true'] at hb
  obtain ⟨hb, rfl⟩ := hb
  cases h
  refine ⟨_, .inl rfl, ?_, hO (d := _) ?_⟩
  ·unfold Ent.mkRes
   rw [if_neg hone]
   have : zFv e.res (y.den ρ) = .many e.res (y.den ρ) := by
    generalize e.res = t at hb
    cases t with
    | pair a b => cases b <;> first | rfl | (simp [zFc] at hb)
    | _ => rfl
   rw [this]
   congr 1
   by_cases hi : z4W e.as = true
   ·rw [if_pos hi, if_pos hi]; simp [X.den, Bi.sem]
   ·rw [if_neg hi, if_neg hi]
  ·intro hi; rw [if_pos hi]; rfl
theorem zCj {ρ : List D} : ∀ (as : List (Mode × T)) (ds : List D) (i : Nat), ds.length = as.length → (∀ j, ds[j]? = ρ[i + j]?) → (zDv as i).map (SC.conc ρ) = zI0 (z14 as ds)
 | [], [], _, _, _ => rfl
 | [], _ :: _, _, h, _ => by simp at h
 | _ :: _, [], _, h, _ => by simp at h
 | (m, t) :: as, d :: ds, i, h, hd => by
   simp only [List.length_cons, Nat.succ.injEq] at h
   have h0 := hd 0
   simp only [List.getElem?_cons_zero, Nat.add_zero] at h0
   have hv : (X.v i).den ρ = d := by simp [X.den, ← h0]
   have ih := zCj as ds (i + 1) h (fun j => by
    have := hd (j + 1)
    simp only [List.getElem?_cons_succ] at this
    rw [this]; congr 1; omega)
   simp only [zDv, List.map_cons, z14, zI0, ih]
   congr 1
   by_cases hm : m = .iop
   ·simp [hm, SC.conc, SV.conc, hv]
   ·simp [hm, SC.conc, SV.conc, hv]
theorem zGB : ∀ (as : List (Mode × T)) (i : Nat), ltL (i + as.length) (zDv as i) = true
 | [], _ => rfl
 | (m, t) :: as, i => by
   have := zGB as (i + 1)
   rw [show i + 1 + as.length = i + ((m, t) :: as).length by simp; omega] at this
   simp only [zDv, ltL, List.all_cons, Bool.and_eq_true]
   refine ⟨?_, this⟩
   split <;> simp [SV.lt, X.lt]
theorem Ex.down {Γ : Env} {E : Entry} {c : Code} {Q : Exit → St → Prop} {S : St} (h : Ex P Γ E c (fun e S => ∃ S', Wk Γ E S S' ∧ Q e S') S) : Ex P Γ E c Q S := by
 intro act w hi
 refine wp_mono (h act w hi) ?_
 rintro e a w' ⟨S', ⟨S2, h1, h2⟩, hi'⟩
 exact ⟨S2, h2, h1 _ _ hi'⟩
theorem zBd : ∀ (as : List (Mode × T)) (k i : Nat), i ∈ zFa as k → k ≤ i ∧ i < k + as.length
 | [], k, i, h => by simp [zFa] at h
 | (m, t) :: as, k, i, h => by
   unfold zFa at h
   split at h
   ·simp only [List.mem_cons] at h
    rcases h with rfl | h
    ·simp
    ·have := zBd as (k + 1) i h; simp; omega
   ·have := zBd as (k + 1) i h; simp; omega
theorem zHe : ∀ (as : List (Mode × T)) (ds : List D) (k i : Nat) (a : Arg), (z14 as ds)[i]? = some a → a.m = .io ∨ a.m = .iop → k + i ∈ zFa as k
 | [], ds, k, i, a, h, _ => by cases ds <;> simp [z14] at h
 | _ :: _, [], k, i, a, h, _ => by simp [z14] at h
 | (m, t) :: as, d :: ds, k, i, a, h, ha => by
   unfold zFa
   cases i with
   | zero =>
     simp [z14] at h
     subst h
     simp only at ha
     rw [if_pos (by simpa using ha)]
     simp
   | succ i =>
     simp only [z14, List.getElem?_cons_succ] at h
     have := zHe as ds (k + 1) i a h ha
     rw [show k + 1 + i = k + (i + 1) by omega] at this
     split
     ·simp [this]
     ·exact this
theorem z9Q : ∀ {as : List (Mode × T)} {ds : List D}, ds.length = as.length → (z14 as ds).length = as.length
 | [], [], _ => rfl
 | [], _ :: _, h => by simp at h
 | _ :: _, [], h => by simp at h
 | (m, t) :: as, d :: ds, h => by
   simp only [List.length_cons, Nat.succ.injEq] at h
   simp [z14, z9Q h]
theorem Ent.ok_of {tys : List (TypeId × T × Nat)} {hs : List (Nat × Hint)} {e : Ent} {fn : Func} {pe : PE} (okE : ∀ sig n fx fr, EnvOk P ⟨tyOf tys, ebOf tys, sig, n, fx, fr⟩) (hcs : ∀ c ∈ cs, c.Ok P) (hf : P.funcs[e.g]? = some fn)
 (hng : (fn.name == "runtime.NumGoroutine") = false) (hc : comp tys cs hs fn e.as e.one e.res = some pe) (hF : e.F = zLv cs pe) : e.Ok P := by
 unfold comp at hc
 split at hc
 ·cases hc
 rename_i c hb
 split at hc
 case isFalse => cases hc
 rename_i hle
 have hle' := Nat.le_of_ble_eq_true hle
 refine ⟨⟨fn, hf, hng, by rw [hb]; rfl⟩, fun ds out hl ho => ?_⟩
 rw [hF] at ho
 unfold zLv at ho
 simp only [Option.bind_eq_some_iff] at ho
 obtain ⟨o, hd, ho⟩ := ho
 refine z87.of (okE _ _ _ _) (Γ := zJ2 tys cs fn e.as hs) hf hb rfl (by rw [z9Q hl]; exact hle') ?_ ?_ fun E => ?_
 ·intro i hi
  have := zBd e.as 0 i hi
  rw [z9Q hl]; omega
 ·intro i a ha hm
  have := zHe e.as ds 0 i a ha hm
  rwa [Nat.zero_add] at this
 ·rw [zL6, ← zCj (ρ := ds) e.as ds 0 hl (by simp)]
  refine Ex.down ?_
  refine zL7 (okE _ _ _ _) hcs c (ρ := ds) hc ⟨hl, by have := zGB e.as 0; rwa [Nat.zero_add] at this, (by intro x b hm; cases hm), rfl⟩ hd ?_ ?_
  ·rintro ex S S' hW ⟨S2, h1, h2⟩
   exact ⟨S2, hW.trans h1, h2⟩
  ·intro ex S' f' d' pe' l h1 h2 h3
   refine ⟨_, z83 fn.results.toList _, ?_⟩
   have key : ∀ x, sfin (zJ2 tys cs fn e.as hs) fn e.as e.one e.res (z64 fn.results.toList S') = some x → pe' = .out 0 [x] → fin (zJ2 tys cs fn e.as hs) fn (z14 e.as ds) (fun R O => R = e.mkRes out ∧ O = z3f e.as (if z4W e.as then out.snd else .unit)) (z0s (ds ++ l) (z64 fn.results.toList S')) := by
    intro x hx hp
    subst hp
    simp only [den, Option.some.injEq] at h3
    subst h3
    simp at ho
    subst ho
    exact zM2 hl rfl rfl rfl hx
   unfold kfin at h1
   cases ex with
   | normal =>
     simp only [Option.map_eq_some_iff] at h1
     obtain ⟨x, hx, rfl⟩ := h1
     exact key x hx rfl
   | ret =>
     simp only [Option.map_eq_some_iff] at h1
     obtain ⟨x, hx, rfl⟩ := h1
     exact key x hx rfl
   | _ => cases h1
end
end Go.Own
namespace Go.Own
variable [Glb]
open Go
def inb (i : Int) (n : Nat) : Bool := decide (0 ≤ i) && decide (i < n)
def makeOk (eb : Nat) (n : Int) : Bool := decide (0 ≤ n) && (decide (n.toNat ≤ smax) && decide (n.toNat * eb ≤ 140737488355328))
def catOk (a b : List UInt8) : Bool := decide (a.length + b.length ≤ smax)
def appOk (eb : Nat) (a b : List D) : Bool := decide (a.length + b.length ≤ smax) && decide ((a.length + b.length) * eb ≤ 140737488355328)
def winOk (lo n : Nat) (l : List D) : Bool := decide (lo + n ≤ l.length)
def slOk (lo hi n : Int) : Bool := decide (0 ≤ lo) && (decide (lo ≤ hi) && decide (hi ≤ n))
def rn (o : Outc) : Option D := o.bind fun o => o.2.head?
def gd (l : List D) (i : Nat) : D := l.getD i .unit
abbrev ou (n : Nat) (l : List D) : Outc := some (n, l)
theorem zI3 : ∀ {l : List (TypeId × T × Nat)} {t : TypeId}, (tyOf l t).ok = true → t ∈ l.map (·.1)
 | [], t, h => by simp [tyOf] at h
 | (n, T, e) :: l, t, h => by
   unfold tyOf at h
   split at h
   ·rename_i hb
    simp [Nat.eq_of_beq_eq_true hb]
   ·have := zI3 h
    simp only [List.map_cons, List.mem_cons]
    exact .inr this
theorem EnvOk.ofL {P : Program} {tys : List (TypeId × T × Nat)} (h : ∀ sig n fx fr, ∀ t, t ∈ tys.map (·.1) → zIo P ⟨tyOf tys, ebOf tys, sig, n, fx, fr⟩ t) (hm : P.follows .mixedOrders = true) : ∀ sig n fx fr, EnvOk P ⟨tyOf tys, ebOf tys, sig, n, fx, fr⟩ :=
 fun sig n fx fr => EnvOk.of (tys.map (·.1)) (fun _ ht => zI3 ht) (h sig n fx fr) hm
theorem z0F {P : Program} : ∀ c ∈ ([] : List Ent), c.Ok P := by simp
theorem z05 {P : Program} {e : Ent} {cs : List Ent} (h1 : e.Ok P) (h2 : ∀ c ∈ cs, c.Ok P) : ∀ c ∈ e :: cs, c.Ok P := by
 intro c hc
 simp only [List.mem_cons] at hc
 rcases hc with rfl | hc
 ·exact h1
 ·exact h2 c hc
theorem zKA {α : Type} {o : Option α} {d : α} (h : o.isSome = true) : o = some (o.getD d) := by
 cases o with
 | none => cases h
 | some a => rfl
end Go.Own
namespace Go.Own
open Go
abbrev Glb.at (gs : List (Nat × (Obj → Prop))) : Glb where
 ok h V := ∀ p ∈ gs, V p.1 ∧ ∃ o, h[p.1]? = some o ∧ p.2 o
 stable h hs hV p hp := by
  obtain ⟨h1, o, h2, h3⟩ := h p hp
  exact ⟨hV _ h1, o, by rw [hs _ h1]; exact h2, h3⟩
def zKe (k : IntKind) (o : Obj) : Prop := ∃ m arr ty fz, o = .cells arr ty fz ∧ arr[0]? = some (.int k m)
theorem zIQ {w : World} {g : Nat} {k : IntKind} (h : ∃ m, w.cell? ⟨g, 0, none⟩ = some (.int k m)) : ∃ o, w.heap[g]? = some o ∧ zKe k o := by
 obtain ⟨m, h⟩ := h
 unfold World.cell? at h
 split at h
 ·rename_i c ty fz hc
  exact ⟨_, hc, m, c, ty, fz, rfl, by simpa using h⟩
 ·cases h
theorem zJM {h : Heap} {g : Nat} {k : IntKind} (ho : ∃ o, h[g]? = some o ∧ zKe k o) : ∃ m arr ty fz, h[g]? = some (.cells arr ty fz) ∧ arr[0]? = some (.int k m) := by
 obtain ⟨o, h1, m, arr, ty, fz, rfl, h2⟩ := ho
 exact ⟨m, arr, ty, fz, h1, h2⟩
end Go.Own
namespace Go.Own
open Go
def zIP (o : Obj) : Prop := ∃ ev arr ty fz, o = .cells arr ty fz ∧ arr[0]? = some ev ∧ (ev = .nilIface ∨ ∃ te pe, ev = .iface te pe)
def zKd (a : Array Value) (o : Obj) : Prop := ∃ ty fz, o = .cells a ty fz
theorem zFb {h : Heap} {g : Nat} (ho : ∃ o, h[g]? = some o ∧ zIP o) : ∃ ev arr ty fz, h[g]? = some (.cells arr ty fz) ∧ arr[0]? = some ev ∧ (ev = .nilIface ∨ ∃ te pe, ev = .iface te pe) := by
 obtain ⟨o, h1, ev, arr, ty, fz, rfl, h2⟩ := ho
 exact ⟨ev, arr, ty, fz, h1, h2⟩
theorem zJL {h : Heap} {g : Nat} {a : Array Value} (ho : ∃ o, h[g]? = some o ∧ zKd a o) : ∃ ty fz, h[g]? = some (.cells a ty fz) := by
 obtain ⟨o, h1, ty, fz, rfl⟩ := ho
 exact ⟨ty, fz, h1⟩
end Go.Own
namespace Go.Own
variable [Glb]
open Go
noncomputable def mkE (tys : List (TypeId × T × Nat)) (g : FuncId) (cs : List Ent) (hs : List (Nat × Hint)) (fn : Func) (as : List (Mode × T)) (one : Bool) (res : T) : Ent :=
 ⟨g, as, one, res, zLv cs ((comp tys cs hs fn as one res).getD PE.bot)⟩
theorem z0E {P : Program} {tys : List (TypeId × T × Nat)} {g : FuncId} {cs : List Ent} {hs : List (Nat × Hint)} {fn : Func} {as : List (Mode × T)} {one : Bool} {res : T}
 (okE : ∀ sig n fx fr, EnvOk P ⟨tyOf tys, ebOf tys, sig, n, fx, fr⟩) (hcs : ∀ c ∈ cs, c.Ok P) (hf : P.funcs[g]? = some fn) (hng : (fn.name == "runtime.NumGoroutine") = false)
 (h : (comp tys cs hs fn as one res).isSome = true) : (mkE tys g cs hs fn as one res).Ok P :=
 Ent.ok_of (pe := (comp tys cs hs fn as one res).getD PE.bot) (hs := hs) okE hcs hf hng (zKA h) rfl
end Go.Own
namespace Go.Own
def upd (l : List D) (i j : Nat) (v : D) : List D := l.set i ((gd l i).setFld j v)
def upd2 (l : List D) (i j k : Nat) (v : D) : List D := l.set i ((gd l i).setFld j (((gd l i).fld j).setFld k v))
end Go.Own
