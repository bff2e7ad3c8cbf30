/- A layer over the walk: what lies in memory as plain data, each operation by what it does to data; part 25. -/
import Derived.Test.YtilejnnnkfjmmaaGreatDoorD6
set_option linter.unusedSectionVars false
set_option linter.unusedVariables false
set_option linter.unusedSimpArgs false
namespace Go.Own
variable [Glb]
noncomputable section
open Go
def z5x (S : List SC) (ws : SWr) (s : Nat) : SC := match zHj ws s with
 | some c => c
 | none => sget S s
theorem zFW {Xc : Ctr} {ρ : List D} {S : List SC} {ws : SWr} {s : Nat} {k' : Cl → A} {K : Wr → Prop} (h : (k' ((z5x S ws s).conc ρ)).wp Xc (z12 ρ S) K) : (askW (z2c ρ ws) s k').wp Xc (z12 ρ S) K := by
 unfold askW
 rw [zBO]
 unfold z5x at h
 cases hs : zHj ws s with
 | some c => rw [hs] at h; exact h
 | none =>
   rw [hs] at h
   simp only [Option.map_none, A.wp]
   rw [z0o]; exact h
def zJN (S : List SC) (ws : SWr) (want : T) (s : Nat) : Option (T × X × SWr) :=
 match (z5x S ws s).av with
 | .val ty x => if ty.plain then some (ty, x, []) else some (ty, x, [(s, ⟨.undef, (z5x S ws s).v.kill⟩)])
 | .ref r v p ty x => match (z5x S ws r).root with
   | some (tr, xr, _) => if z1b v (z5x S ws r).v 0 && (zE1 tr p && decide (sAt tr p = ty)) then
      some (ty, smix ty x (getX xr p), [(r, (z5x S ws r).setRoot (z9X tr p ty.moved) xr (z5x S ws r).v.head)]) else none
   | none => none
 | .nil => match want with
   | .lst _ e => some (.lst true e, .nil, [])
   | _ => none
 | _ => none
theorem zHk {Xc : Ctr} {ρ : List D} {S : List SC} {ws : SWr} {want : T} {s : Nat} {t : T} {x : X} {w : SWr} {k' : T → D → Wr → A} {K : Wr → Prop} (h : zJN S ws want s = some (t, x, w)) (hk : (k' t (x.den ρ) (z2c ρ w)).wp Xc (z12 ρ S) K) :
 (takeW (z2c ρ ws) want (.tmp s) k').wp Xc (z12 ρ S) K := by
 unfold zJN at h
 unfold takeW
 refine zFW ?_
 generalize hc : z5x S ws s = c at h
 obtain ⟨a, v⟩ := c
 simp only at h
 cases a with
 | val ty y =>
   simp only [SC.conc, SV.conc]
   simp only at h
   by_cases hp : ty.plain = true
   ·rw [if_pos hp] at h ⊢
    cases h; exact hk
   ·rw [if_neg hp] at h ⊢
    cases h; exact hk
 | ref r v p ty y =>
   simp only [SC.conc, SV.conc]
   refine zFW ?_
   simp only at h
   generalize z5x S ws r = cr at h
   rw [SC.root_conc]
   cases hr : cr.root with
   | none => rw [hr] at h; cases h
   | some q =>
     obtain ⟨tr, xr, bx⟩ := q
     rw [hr] at h
     simp only at h
     split at h
     case isFalse => cases h
     rename_i hb
     cases h
     simp only [Bool.and_eq_true, decide_eq_true_eq] at hb
     simp only [Option.map_some, A.wp]
     refine ⟨⟨z0Z hb.1, by rw [z5c]; exact hb.2.1, by rw [z18]; exact hb.2.2⟩, ?_⟩
     rw [z8b, z1a] at hk
     simp only [z2c, List.map_cons, List.map_nil, SC.setRoot_conc] at hk
     rw [z5h]
     exact hk
 | nil =>
   simp only [SC.conc, SV.conc]
   simp only at h
   cases want <;> first | (cases h; done) | (cases h; exact hk)
 | _ => cases h
def zLQ (Γ : Env) (S : List SC) (ws : SWr) (r : ResultVar) (want : TypeId) : Option (T × X × SWr) :=
 match r with
 | .tmp s => zJN S ws (Γ.ty want) s
 | .cell a t => match (z5x S ws a).av with
   | .box tr dr => if decide (tr.view = (Γ.ty t).view) && (Γ.ty t).ok then some (tr, dr, [(a, ⟨.undef, (z5x S ws a).v.kill⟩)]) else none
   | _ => none
theorem zLR {Γ : Env} {Xc : Ctr} {ρ : List D} {S : List SC} {ws : SWr} {r : ResultVar} {want : TypeId} {t : T} {x : X} {w : SWr} {k' : T → D → Wr → A} {K : Wr → Prop} (h : zLQ Γ S ws r want = some (t, x, w)) (hk : (k' t (x.den ρ) (z2c ρ w)).wp Xc (z12 ρ S) K) :
 (zLS Γ (z2c ρ ws) r want k').wp Xc (z12 ρ S) K := by
 cases r with
 | tmp s => exact zHk h hk
 | cell a ty =>
   simp only [zLQ] at h
   unfold zLS
   refine zFW ?_
   generalize z5x S ws a = c at h
   obtain ⟨av, v⟩ := c
   cases av with
   | box tr dr =>
     simp only at h
     split at h
     case isFalse => cases h
     rename_i hb
     cases h
     simp only [Bool.and_eq_true, decide_eq_true_eq] at hb
     exact ⟨hb, hk⟩
   | _ => cases h
def zMC (Γ : Env) (S : List SC) : List ResultVar → List TypeId → SWr → Option (T × X × SWr)
 | r :: rs, t :: ts, ws => match zLQ Γ S ws r t with
   | some (t1, x1, w1) => match zMC Γ S rs ts (ws ++ w1) with
     | some (t2, x2, w2) => some (.pair t1 t2, .bi .pair x1 x2, w2)
     | none => none
   | none => none
 | [], _, ws => some (.unit, .u, ws)
 | _ :: _, [], _ => none
theorem zJM {Γ : Env} {Xc : Ctr} {ρ : List D} {S : List SC} {K : Wr → Prop} : ∀ {rs : List ResultVar} {ts : List TypeId} {ws : SWr} {t : T} {x : X} {w : SWr} {k' : T → D → Wr → A}, zMC Γ S rs ts ws = some (t, x, w) → (k' t (x.den ρ) (z2c ρ w)).wp Xc (z12 ρ S) K →
 (resT Γ rs ts (z2c ρ ws) k').wp Xc (z12 ρ S) K
 | r :: rs, ty :: ts, ws, t, x, w, k', h, hk => by
   unfold zMC at h
   split at h
   case h_2 => cases h
   rename_i t1 x1 w1 h1
   split at h
   case h_2 => cases h
   rename_i t2 x2 w2 h2
   cases h
   unfold resT
   refine zLR h1 ?_
   rw [← z0m]
   exact zJM h2 hk
 | [], _, ws, t, x, w, k', h, hk => by
   cases h
   unfold resT
   exact hk
 | _ :: _, [], _, _, _, _, _, h, _ => by cases h
def z5l (S : List SC) : Nat → List (Mode × T) → SWr → Option (List X)
 | _, [], _ => some []
 | i, (.io, t) :: as, ws => match zJN S ws t i with
   | some (t1, x1, w1) => if decide (t1 = t) then (z5l S (i + 1) as (ws ++ w1)).map (x1 :: ·) else none
   | none => none
 | i, (.iop, t) :: as, ws => match (z5x S ws i).av with
   | .box t1 x1 => if decide (t1 = t) then (z5l S (i + 1) as (ws ++ [(i, ⟨.undef, (z5x S ws i).v.kill⟩)])).map (x1 :: ·) else none
   | _ => none
 | i, _ :: as, ws => (z5l S (i + 1) as ws).map (.u :: ·)
theorem z8Q {Xc : Ctr} {ρ : List D} {S : List SC} {K : Wr → Prop} : ∀ {as : List (Mode × T)} {ds : List D} {i : Nat} {ws : SWr} {xs : List X} {k' : List D → Wr → A}, ds.length = as.length → z5l S i as ws = some xs → (∀ ws', (k' (xs.map (X.den ρ)) ws').wp Xc (z12 ρ S) K) →
 (zGH i (z1c as ds) (z2c ρ ws) k').wp Xc (z12 ρ S) K
 | [], [], i, ws, xs, k', _, h, hk => by cases h; exact hk _
 | [], _ :: _, _, _, _, _, hl, _, _ => by simp at hl
 | _ :: _, [], _, _, _, _, hl, _, _ => by simp at hl
 | (m, t) :: as, d :: ds, i, ws, xs, k', hl, h, hk => by
   simp only [List.length_cons, Nat.succ.injEq] at hl
   unfold z1c zGH
   cases m with
   | io =>
     unfold z5l at h
     simp only at h ⊢
     split at h
     case h_2 => cases h
     rename_i t1 x1 w1 h1
     split at h
     case isFalse => cases h
     rename_i ht
     simp only [Option.map_eq_some_iff] at h
     obtain ⟨ys, hy, rfl⟩ := h
     refine zHk h1 ?_
     simp only [A.wp]
     refine ⟨by simpa using ht, ?_⟩
     rw [← z0m]
     exact z8Q hl hy fun ws' => by simpa using hk ws'
   | iop =>
     unfold z5l at h
     simp only at h ⊢
     refine zFW ?_
     generalize hcc : z5x S ws i = c at h
     obtain ⟨av, v⟩ := c
     cases av with
     | box t1 x1 =>
       simp only at h
       split at h
       case isFalse => cases h
       rename_i ht
       simp only [Option.map_eq_some_iff] at h
       obtain ⟨ys, hy, rfl⟩ := h
       simp only [SC.conc, SV.conc, A.wp]
       refine ⟨by simpa using ht, ?_⟩
       have := z8Q (Xc := Xc) (K := K) (ρ := ρ) (k' := fun ds ws'' => k' (x1.den ρ :: ds) ws'') hl hy fun ws' => by simpa using hk ws'
       rw [z0m] at this
       exact this
     | _ => cases h
   | vw =>
     unfold z5l at h
     simp only [Option.map_eq_some_iff] at h
     obtain ⟨ys, hy, rfl⟩ := h
     exact z8Q hl hy fun ws' => by simpa [X.den] using hk ws'
   | own =>
     unfold z5l at h
     simp only [Option.map_eq_some_iff] at h
     obtain ⟨ys, hy, rfl⟩ := h
     exact z8Q hl hy fun ws' => by simpa [X.den] using hk ws'
def zCK : List (Mode × T) → List X → X
 | (.io, _) :: as, o :: os => .bi .pair o (zCK as os)
 | (.iop, _) :: as, o :: os => .bi .pair o (zCK as os)
 | _ :: as, _ :: os => zCK as os
 | _, _ => .u
theorem z8I {ρ : List D} {S : List SC} : ∀ {as : List (Mode × T)} {i : Nat} {ws : SWr} {xs : List X}, z5l S i as ws = some xs → z4R as ((zCK as xs).den ρ) = xs.map (X.den ρ)
 | [], i, ws, xs, h => by cases h; rfl
 | (m, t) :: as, i, ws, xs, h => by
   cases m with
   | io =>
     unfold z5l at h
     split at h
     case h_2 => cases h
     split at h
     case isFalse => cases h
     simp only [Option.map_eq_some_iff] at h
     obtain ⟨ys, hy, rfl⟩ := h
     simp [zCK, z4R, X.den, Bi.sem, z8I hy]
   | iop =>
     unfold z5l at h
     split at h
     case h_2 => cases h
     split at h
     case isFalse => cases h
     simp only [Option.map_eq_some_iff] at h
     obtain ⟨ys, hy, rfl⟩ := h
     simp [zCK, z4R, X.den, Bi.sem, z8I hy]
   | vw =>
     unfold z5l at h
     simp only [Option.map_eq_some_iff] at h
     obtain ⟨ys, hy, rfl⟩ := h
     simp [zCK, z4R, X.den, z8I hy]
   | own =>
     unfold z5l at h
     simp only [Option.map_eq_some_iff] at h
     obtain ⟨ys, hy, rfl⟩ := h
     simp [zCK, z4R, X.den, z8I hy]
theorem z9K : ∀ {as : List (Mode × T)} {S : List SC} {i : Nat} {ws : SWr} {xs : List X} {ρ : List D} (d : D), z5o as = false → z5l S i as ws = some xs → z4R as d = xs.map (X.den ρ)
 | [], S, i, ws, xs, ρ, d, _, h => by cases h; rfl
 | (m, t) :: as, S, i, ws, xs, ρ, d, hn, h => by
   simp only [z5o, List.any_cons, Bool.or_eq_false_iff, decide_eq_false_iff_not] at hn
   cases m with
   | io => simp at hn
   | iop => simp at hn
   | vw =>
     unfold z5l at h
     simp only [Option.map_eq_some_iff] at h
     obtain ⟨ys, hy, rfl⟩ := h
     simp [z4R, X.den, z9K (ρ := ρ) d (by simpa [z5o] using hn.2) hy]
   | own =>
     unfold z5l at h
     simp only [Option.map_eq_some_iff] at h
     obtain ⟨ys, hy, rfl⟩ := h
     simp [z4R, X.den, z9K (ρ := ρ) d (by simpa [z5o] using hn.2) hy]
def zHB : T → Bool
 | .pair _ .unit => true
 | _ => false
def zMi : T → T → Bool
 | .lst true e, .lst true e' => decide (e.view = e'.view)
 | _, _ => false
theorem zJl {t u : T} (h : zMi t u = true) : ∃ e e', t = .lst true e ∧ u = .lst true e' ∧ e.view = e'.view := by
 unfold zMi at h
 split at h
 ·exact ⟨_, _, rfl, rfl, of_decide_eq_true h⟩
 ·cases h
def sfin (Γ : Env) (fn : Func) (as : List (Mode × T)) (one : Bool) (res : T) (S : List SC) : Option X :=
 match zMC Γ S fn.results.toList fn.resultTypes.toList [] with
 | none => none
 | some (t, x, ws) => match z5l S 0 as ws with
   | none => none
   | some os =>
     if one then
      (if zHB t && decide (t.fld 0 = res) then some (if z5o as then .bi .pair (z5G x 0) (zCK as os) else z5G x 0)
       else if zHB t && (zMi (t.fld 0) res && (z5G x 0).beq .nil) then some (if z5o as then .bi .pair .nil (zCK as os) else .nil) else none)
     else
      (if !zHB t && decide (t = res) then some (if z5o as then .bi .pair x (zCK as os) else x) else none)
def zFV : List (Mode × T) → Nat → List SC
 | [], _ => []
 | (m, t) :: as, i => ⟨if decide (m = .iop) then .box t (.v i) else .val t (.v i), ⟨0, 0, 0⟩⟩ :: zFV as (i + 1)
def zH9 : List (Mode × T) → Nat → List Nat
 | [], _ => []
 | (m, _) :: as, i => if decide (m = .io) || decide (m = .iop) then i :: zH9 as (i + 1) else zH9 as (i + 1)
def zNN (cs : List Ent) (g : FuncId) : List Mode := match cs with
 | [] => []
 | e :: cs => if Nat.beq e.g g then e.as.map (·.1) else zNN cs g
def tyOf : List (TypeId × T × Nat) → TypeId → T
 | [], _ => .gone
 | (n, t, _) :: l, m => if Nat.beq n m then t else tyOf l m
def ebOf : List (TypeId × T × Nat) → TypeId → Nat
 | [], _ => 0
 | (n, _, e) :: l, m => if Nat.beq n m then e else ebOf l m
def zKI (tys : List (TypeId × T × Nat)) (cs : List Ent) (fn : Func) (as : List (Mode × T)) (hs : List (Nat × Hint)) : Env := ⟨tyOf tys, ebOf tys, zNN cs, fn.ntmps, zH9 as 0, zN6 hs⟩
def kfin (Γ : Env) (fn : Func) (as : List (Mode × T)) (one : Bool) (res : T) : Kont := fun e S _ _ => match e with
 | .normal => (sfin Γ fn as one res (z7W fn.results.toList S)).map fun x => .out 0 [x]
 | .ret => (sfin Γ fn as one res (z7W fn.results.toList S)).map fun x => .out 0 [x]
 | _ => none
def comp (tys : List (TypeId × T × Nat)) (cs : List Ent) (hs : List (Nat × Hint)) (fn : Func) (as : List (Mode × T)) (one : Bool) (res : T) : Option PE :=
 match fn.body with
 | none => none
 | some c => if Nat.ble as.length fn.ntmps then sx (zKI tys cs fn as hs) cs hs c 1 (zFV as 0) [] as.length (kfin (zKI tys cs fn as hs) fn as one res) else none
def zMA (cs : List Ent) (pe : PE) (ds : List D) : Option D := (den cs pe ds 0 []).bind fun o => o.2.head?
variable {P : Program} {cs : List Ent}
theorem zMt {Γ : Env} {fn : Func} {as : List (Mode × T)} {one : Bool} {res : T} {S : List SC} {x : X} {ρ ds : List D} {e : Ent} (hl : ds.length = as.length) (he : e.as = as) (ho : e.one = one) (hr : e.res = res) (h : sfin Γ fn as one res S = some x) :
 fin Γ fn (z1c as ds) (fun R O => R = e.mkRes (x.den ρ) ∧ O = z4R e.as (if z5o e.as then (x.den ρ).snd else .unit)) (z12 ρ S) := by
 subst he ho hr
 unfold sfin at h
 split at h
 ·cases h
 rename_i t y ws h1
 split at h
 ·cases h
 rename_i os h2
 unfold fin
 refine zJM (ws := []) h1 ?_
 refine z8Q hl h2 fun ws' => ?_
 simp only [A.wp, and_true]
 have hO : ∀ {d : D}, (z5o e.as = true → d.snd = (zCK e.as os).den ρ) → os.map (X.den ρ) = z4R e.as (if z5o e.as then d.snd else .unit) := by
  intro d hd
  by_cases hi : z5o e.as = true
  ·rw [if_pos hi, hd hi, z8I h2]
  ·rw [if_neg hi, z9K .unit (by simpa using hi) h2]
 split at h
 ·rename_i hone
  split at h
  case isFalse =>
   split at h
   case isFalse => cases h
   rename_i hb
   simp only [Bool.and_eq_true] at hb
   obtain ⟨hb1, hb2, hb3⟩ := hb
   obtain ⟨e0, e', ht0, hr0, hv⟩ := zJl hb2
   have ht : t = .pair (.lst true e0) .unit := by
    cases t with
    | pair a b => cases b <;> simp [zHB] at hb1 ht0 ⊢; exact ht0
    | _ => simp [zHB] at hb1
   subst ht
   cases h
   have hd : (y.den ρ).fst = .lst [] := by
    have h5 := X.eq_of_beq hb3
    have h6 : ((z5G y 0).den ρ) = (X.nil).den ρ := by rw [h5]
    rw [z2N] at h6
    exact h6
   refine ⟨_, .inr ⟨e0, e', rfl, hd, hv, rfl⟩, ?_, hO (d := _) ?_⟩
   ·unfold Ent.mkRes
    rw [if_pos hone, hr0]
    congr 1
    by_cases hi : z5o e.as = true
    ·rw [if_pos hi, if_pos hi]; rfl
    ·rw [if_neg hi, if_neg hi]; rfl
   ·intro hi; rw [if_pos hi]; rfl
  rename_i hb
  simp only [Bool.and_eq_true, decide_eq_true_eq] at hb
  have ht : t = .pair e.res .unit := by
   cases t with
   | pair a b => cases b <;> simp [zHB] at hb ⊢; exact hb
   | _ => simp [zHB] at hb
  subst ht
  cases h
  refine ⟨_, .inl rfl, ?_, hO (d := _) ?_⟩
  ·unfold Ent.mkRes
   rw [if_pos hone]
   simp only [zHX]
   congr 1
   by_cases hi : z5o e.as = true
   ·rw [if_pos hi, if_pos hi]; simp [X.den, Bi.sem, z2N]
   ·rw [if_neg hi, if_neg hi]; simp [z2N]
  ·intro hi; rw [if_pos hi]; rfl
 ·rename_i hone
  split at h
  case isFalse => cases h
  rename_i hb
  simp only [Bool.and_eq_true, decide_eq_true_eq, Bool.not_eq_true'] at hb
  obtain ⟨hb, rfl⟩ := hb
  cases h
  refine ⟨_, .inl rfl, ?_, hO (d := _) ?_⟩
  ·unfold Ent.mkRes
   rw [if_neg hone]
   have : zHX e.res (y.den ρ) = .many e.res (y.den ρ) := by
    generalize e.res = t at hb
    cases t with
    | pair a b => cases b <;> first | rfl | (simp [zHB] at hb)
    | _ => rfl
   rw [this]
   congr 1
   by_cases hi : z5o e.as = true
   ·rw [if_pos hi, if_pos hi]; simp [X.den, Bi.sem]
   ·rw [if_neg hi, if_neg hi]
  ·intro hi; rw [if_pos hi]; rfl
theorem zEB {ρ : List D} : ∀ (as : List (Mode × T)) (ds : List D) (i : Nat), ds.length = as.length → (∀ j, ds[j]? = ρ[i + j]?) → (zFV as i).map (SC.conc ρ) = zJP (z1c as ds)
 | [], [], _, _, _ => rfl
 | [], _ :: _, _, h, _ => by simp at h
 | _ :: _, [], _, h, _ => by simp at h
 | (m, t) :: as, d :: ds, i, h, hd => by
   simp only [List.length_cons, Nat.succ.injEq] at h
   have h0 := hd 0
   simp only [List.getElem?_cons_zero, Nat.add_zero] at h0
   have hv : (X.v i).den ρ = d := by simp [X.den, ← h0]
   have ih := zEB as ds (i + 1) h (fun j => by
    have := hd (j + 1)
    simp only [List.getElem?_cons_succ] at this
    rw [this]; congr 1; omega)
   simp only [zFV, List.map_cons, z1c, zJP, ih]
   congr 1
   by_cases hm : m = .iop
   ·simp [hm, SC.conc, SV.conc, hv]
   ·simp [hm, SC.conc, SV.conc, hv]
theorem zHm : ∀ (as : List (Mode × T)) (i : Nat), ltL (i + as.length) (zFV as i) = true
 | [], _ => rfl
 | (m, t) :: as, i => by
   have := zHm as (i + 1)
   rw [show i + 1 + as.length = i + ((m, t) :: as).length by simp; omega] at this
   simp only [zFV, ltL, List.all_cons, Bool.and_eq_true]
   refine ⟨?_, this⟩
   split <;> simp [SV.lt, X.lt]
theorem Ex.down {Γ : Env} {E : Entry} {c : Code} {Q : Exit → St → Prop} {S : St} (h : Ex P Γ E c (fun e S => ∃ S', Wk Γ E S S' ∧ Q e S') S) : Ex P Γ E c Q S := by
 intro act w hi
 refine wp_mono (h act w hi) ?_
 rintro e a w' ⟨S', ⟨S2, h1, h2⟩, hi'⟩
 exact ⟨S2, h2, h1 _ _ hi'⟩
theorem zDF : ∀ (as : List (Mode × T)) (k i : Nat), i ∈ zH9 as k → k ≤ i ∧ i < k + as.length
 | [], k, i, h => by simp [zH9] at h
 | (m, t) :: as, k, i, h => by
   unfold zH9 at h
   split at h
   ·simp only [List.mem_cons] at h
    rcases h with rfl | h
    ·simp
    ·have := zDF as (k + 1) i h; simp; omega
   ·have := zDF as (k + 1) i h; simp; omega
theorem zJ3 : ∀ (as : List (Mode × T)) (ds : List D) (k i : Nat) (a : Arg), (z1c as ds)[i]? = some a → a.m = .io ∨ a.m = .iop → k + i ∈ zH9 as k
 | [], ds, k, i, a, h, _ => by cases ds <;> simp [z1c] at h
 | _ :: _, [], k, i, a, h, _ => by simp [z1c] at h
 | (m, t) :: as, d :: ds, k, i, a, h, ha => by
   unfold zH9
   cases i with
   | zero =>
     simp [z1c] at h
     subst h
     simp only at ha
     rw [if_pos (by simpa using ha)]
     simp
   | succ i =>
     simp only [z1c, List.getElem?_cons_succ] at h
     have := zJ3 as ds (k + 1) i a h ha
     rw [show k + 1 + i = k + (i + 1) by omega] at this
     split
     ·simp [this]
     ·exact this
theorem zAt : ∀ {as : List (Mode × T)} {ds : List D}, ds.length = as.length → (z1c as ds).length = as.length
 | [], [], _ => rfl
 | [], _ :: _, h => by simp at h
 | _ :: _, [], h => by simp at h
 | (m, t) :: as, d :: ds, h => by
   simp only [List.length_cons, Nat.succ.injEq] at h
   simp [z1c, zAt h]
theorem Ent.ok_of {tys : List (TypeId × T × Nat)} {hs : List (Nat × Hint)} {e : Ent} {fn : Func} {pe : PE} (okE : ∀ sig n fx fr, EnvOk P ⟨tyOf tys, ebOf tys, sig, n, fx, fr⟩) (hcs : ∀ c ∈ cs, c.Ok P) (hf : P.funcs[e.g]? = some fn)
 (hng : (fn.name == "runtime.NumGoroutine") = false) (hc : comp tys cs hs fn e.as e.one e.res = some pe) (hF : e.F = zMA cs pe) : e.Ok P := by
 unfold comp at hc
 split at hc
 ·cases hc
 rename_i c hb
 split at hc
 case isFalse => cases hc
 rename_i hle
 have hle' := Nat.le_of_ble_eq_true hle
 refine ⟨⟨fn, hf, hng, by rw [hb]; rfl⟩, fun ds out hl ho => ?_⟩
 rw [hF] at ho
 unfold zMA at ho
 simp only [Option.bind_eq_some_iff] at ho
 obtain ⟨o, hd, ho⟩ := ho
 refine z9a.of (okE _ _ _ _) (Γ := zKI tys cs fn e.as hs) hf hb rfl (by rw [zAt hl]; exact hle') ?_ ?_ fun E => ?_
 ·intro i hi
  have := zDF e.as 0 i hi
  rw [zAt hl]; omega
 ·intro i a ha hm
  have := zJ3 e.as ds 0 i a ha hm
  rwa [Nat.zero_add] at this
 ·rw [zMD, ← zEB (ρ := ds) e.as ds 0 hl (by simp)]
  refine Ex.down ?_
  refine zME (okE _ _ _ _) hcs c (ρ := ds) hc ⟨hl, by have := zHm e.as 0; rwa [Nat.zero_add] at this, (by intro x b hm; cases hm), rfl⟩ hd ?_ ?_
  ·rintro ex S S' hW ⟨S2, h1, h2⟩
   exact ⟨S2, hW.trans h1, h2⟩
  ·intro ex S' f' d' pe' l h1 h2 h3
   refine ⟨_, z9Y fn.results.toList _, ?_⟩
   have key : ∀ x, sfin (zKI tys cs fn e.as hs) fn e.as e.one e.res (z7W fn.results.toList S') = some x → pe' = .out 0 [x] → fin (zKI tys cs fn e.as hs) fn (z1c e.as ds) (fun R O => R = e.mkRes out ∧ O = z4R e.as (if z5o e.as then out.snd else .unit)) (z12 (ds ++ l) (z7W fn.results.toList S')) := by
    intro x hx hp
    subst hp
    simp only [den, Option.some.injEq] at h3
    subst h3
    simp at ho
    subst ho
    exact zMt hl rfl rfl rfl hx
   unfold kfin at h1
   cases ex with
   | normal =>
     simp only [Option.map_eq_some_iff] at h1
     obtain ⟨x, hx, rfl⟩ := h1
     exact key x hx rfl
   | ret =>
     simp only [Option.map_eq_some_iff] at h1
     obtain ⟨x, hx, rfl⟩ := h1
     exact key x hx rfl
   | _ => cases h1
end
end Go.Own
namespace Go.Own
variable [Glb]
open Go
def inb (i : Int) (n : Nat) : Bool := decide (0 ≤ i) && decide (i < n)
def makeOk (eb : Nat) (n : Int) : Bool := decide (0 ≤ n) && (decide (n.toNat ≤ smax) && decide (n.toNat * eb ≤ 140737488355328))
def catOk (a b : List UInt8) : Bool := decide (a.length + b.length ≤ smax)
def appOk (eb : Nat) (a b : List D) : Bool := decide (a.length + b.length ≤ smax) && decide ((a.length + b.length) * eb ≤ 140737488355328)
def winOk (lo n : Nat) (l : List D) : Bool := decide (lo + n ≤ l.length)
def slOk (lo hi n : Int) : Bool := decide (0 ≤ lo) && (decide (lo ≤ hi) && decide (hi ≤ n))
def rn (o : Outc) : Option D := o.bind fun o => o.2.head?
def gd (l : List D) (i : Nat) : D := l.getD i .unit
abbrev ou (n : Nat) (l : List D) : Outc := some (n, l)
theorem zJQ : ∀ {l : List (TypeId × T × Nat)} {t : TypeId}, (tyOf l t).ok = true → t ∈ l.map (·.1)
 | [], t, h => by simp [tyOf] at h
 | (n, T, e) :: l, t, h => by
   unfold tyOf at h
   split at h
   ·rename_i hb
    simp [Nat.eq_of_beq_eq_true hb]
   ·have := zJQ h
    simp only [List.map_cons, List.mem_cons]
    exact .inr this
theorem EnvOk.ofL {P : Program} {tys : List (TypeId × T × Nat)} (h : ∀ sig n fx fr, ∀ t, t ∈ tys.map (·.1) → zK6 P ⟨tyOf tys, ebOf tys, sig, n, fx, fr⟩ t) (hm : P.follows .mixedOrders = true) : ∀ sig n fx fr, EnvOk P ⟨tyOf tys, ebOf tys, sig, n, fx, fr⟩ :=
 fun sig n fx fr => EnvOk.of (tys.map (·.1)) (fun _ ht => zJQ ht) (h sig n fx fr) hm
theorem z01 {P : Program} : ∀ c ∈ ([] : List Ent), c.Ok P := by simp
theorem z00 {P : Program} {e : Ent} {cs : List Ent} (h1 : e.Ok P) (h2 : ∀ c ∈ cs, c.Ok P) : ∀ c ∈ e :: cs, c.Ok P := by
 intro c hc
 simp only [List.mem_cons] at hc
 rcases hc with rfl | hc
 ·exact h1
 ·exact h2 c hc
theorem zLM {α : Type} {o : Option α} {d : α} (h : o.isSome = true) : o = some (o.getD d) := by
 cases o with
 | none => cases h
 | some a => rfl
end Go.Own
namespace Go.Own
open Go
abbrev Glb.at (gs : List (Nat × (Obj → Prop))) : Glb where
 ok h V := ∀ p ∈ gs, V p.1 ∧ ∃ o, h[p.1]? = some o ∧ p.2 o
 stable h hs hV p hp := by
  obtain ⟨h1, o, h2, h3⟩ := h p hp
  exact ⟨hV _ h1, o, by rw [hs _ h1]; exact h2, h3⟩
def zLr (k : IntKind) (o : Obj) : Prop := ∃ m arr ty fz, o = .cells arr ty fz ∧ arr[0]? = some (.int k m)
theorem zJh {w : World} {g : Nat} {k : IntKind} (h : ∃ m, w.cell? ⟨g, 0, none⟩ = some (.int k m)) : ∃ o, w.heap[g]? = some o ∧ zLr k o := by
 obtain ⟨m, h⟩ := h
 unfold World.cell? at h
 split at h
 ·rename_i c ty fz hc
  exact ⟨_, hc, m, c, ty, fz, rfl, by simpa using h⟩
 ·cases h
theorem zKa {h : Heap} {g : Nat} {k : IntKind} (ho : ∃ o, h[g]? = some o ∧ zLr k o) : ∃ m arr ty fz, h[g]? = some (.cells arr ty fz) ∧ arr[0]? = some (.int k m) := by
 obtain ⟨o, h1, m, arr, ty, fz, rfl, h2⟩ := ho
 exact ⟨m, arr, ty, fz, h1, h2⟩
end Go.Own
namespace Go.Own
open Go
def zJg (o : Obj) : Prop := ∃ ev arr ty fz, o = .cells arr ty fz ∧ arr[0]? = some ev ∧ (ev = .nilIface ∨ ∃ te pe, ev = .iface te pe)
def zLq (a : Array Value) (o : Obj) : Prop := ∃ ty fz, o = .cells a ty fz
theorem zHA {h : Heap} {g : Nat} (ho : ∃ o, h[g]? = some o ∧ zJg o) : ∃ ev arr ty fz, h[g]? = some (.cells arr ty fz) ∧ arr[0]? = some ev ∧ (ev = .nilIface ∨ ∃ te pe, ev = .iface te pe) := by
 obtain ⟨o, h1, ev, arr, ty, fz, rfl, h2⟩ := ho
 exact ⟨ev, arr, ty, fz, h1, h2⟩
theorem zKZ {h : Heap} {g : Nat} {a : Array Value} (ho : ∃ o, h[g]? = some o ∧ zLq a o) : ∃ ty fz, h[g]? = some (.cells a ty fz) := by
 obtain ⟨o, h1, ty, fz, rfl⟩ := ho
 exact ⟨ty, fz, h1⟩
end Go.Own
namespace Go.Own
variable [Glb]
open Go
noncomputable def mkE (tys : List (TypeId × T × Nat)) (g : FuncId) (cs : List Ent) (hs : List (Nat × Hint)) (fn : Func) (as : List (Mode × T)) (one : Bool) (res : T) : Ent :=
 ⟨g, as, one, res, zMA cs ((comp tys cs hs fn as one res).getD PE.bot)⟩
theorem z02 {P : Program} {tys : List (TypeId × T × Nat)} {g : FuncId} {cs : List Ent} {hs : List (Nat × Hint)} {fn : Func} {as : List (Mode × T)} {one : Bool} {res : T}
 (okE : ∀ sig n fx fr, EnvOk P ⟨tyOf tys, ebOf tys, sig, n, fx, fr⟩) (hcs : ∀ c ∈ cs, c.Ok P) (hf : P.funcs[g]? = some fn) (hng : (fn.name == "runtime.NumGoroutine") = false)
 (h : (comp tys cs hs fn as one res).isSome = true) : (mkE tys g cs hs fn as one res).Ok P :=
 Ent.ok_of (pe := (comp tys cs hs fn as one res).getD PE.bot) (hs := hs) okE hcs hf hng (zLM h) rfl
end Go.Own
namespace Go.Own
def upd (l : List D) (i j : Nat) (v : D) : List D := l.set i ((gd l i).setFld j v)
def upd2 (l : List D) (i j k : Nat) (v : D) : List D := l.set i ((gd l i).setFld j (((gd l i).fld j).setFld k v))
end Go.Own
