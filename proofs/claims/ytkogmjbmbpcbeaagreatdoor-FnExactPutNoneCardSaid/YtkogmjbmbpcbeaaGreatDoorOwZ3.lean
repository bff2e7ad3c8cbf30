/- A layer over the walk: what lies in memory as plain data, each operation by what it does to data; part 17. -/
import Derived.Test.YtkogmjbmbpcbeaaGreatDoorOwZ1
set_option linter.unusedSectionVars false
set_option linter.unusedVariables false
set_option linter.unusedSimpArgs false
namespace Go.Own
variable [Glb]
noncomputable section
open Go
def A.wpD (X : Ctr) : A → List Nat → St → (List Nat → Wr → Prop) → Prop
 | .ret w, R, _, K => K R w
 | .ask s k, R, S, K => (k (S s)).wpD X (s :: R) S K
 | .need p k, R, S, K => p ∧ k.wpD X R S K
 | .call g as dom nv k, R, _, K => ∃ r o, X g as (fun r' o' => r' = r ∧ o' = o) ∧ (nv = true → r.noview = true) ∧ (k r o).map (·.1) = dom ∧ K R (k r o)
 | .two _ _, _, _, _ => False
 | .fail, _, _, _ => False
theorem A.wpD_wp {X : Ctr} {a : A} {S : St} : ∀ {R : List Nat} {K : List Nat → Wr → Prop} {K' : Wr → Prop}, a.wpD X R S K → (∀ R w, K R w → K' w) → a.wp X S K' := by
 induction a with
 | ret _ => intro R K K' h hk; exact hk _ _ h
 | ask s k ih => intro R K K' h hk; exact ih _ h hk
 | need p k ih => intro R K K' h hk; exact ⟨h.1, ih h.2 hk⟩
 | call g as dom nv k =>
   intro R K K' h hk
   obtain ⟨r, o, h1, h2, h3, h4⟩ := h
   refine ⟨_, h1, ⟨r, o, rfl, rfl⟩, ?_⟩
   rintro r' o' ⟨rfl, rfl⟩
   exact ⟨h2, h3, hk _ _ h4⟩
 | two p k => intro R K K' h; exact h.elim
 | fail => intro R K K' h; exact h.elim
theorem A.wpD_out {X : Ctr} {a : A} {S : St} : ∀ {R : List Nat} {K : List Nat → Wr → Prop}, a.wpD X R S K →
 ∃ R' w, K R' w ∧ (∀ s, s ∈ R → s ∈ R') ∧ ∀ S', (∀ s, s ∈ R' → S' s = S s) → ∀ K', K' R' w → a.wpD X R S' K' := by
 induction a with
 | ret w => intro R K h; exact ⟨R, w, h, fun _ h => h, fun _ _ K' h' => h'⟩
 | ask s k ih =>
   intro R K h
   obtain ⟨R', w, h1, h2, h3⟩ := ih _ h
   refine ⟨R', w, h1, fun s' hs => h2 s' (by simp [hs]), fun S' hS K' hK' => ?_⟩
   simp only [A.wpD]
   rw [hS s (h2 s (by simp))]
   exact h3 S' hS K' hK'
 | need p k ih =>
   intro R K h
   obtain ⟨R', w, h1, h2, h3⟩ := ih h.2
   exact ⟨R', w, h1, h2, fun S' hS K' hK' => ⟨h.1, h3 S' hS K' hK'⟩⟩
 | call g as dom nv k =>
   intro R K h
   obtain ⟨r, o, h1, h2, h3, h4⟩ := h
   exact ⟨R, k r o, h4, fun _ h => h, fun S' _ K' hK' => ⟨r, o, h1, h2, h3, hK'⟩⟩
 | two p k => intro R K h; exact h.elim
 | fail => intro R K h; exact h.elim
structure Tr where
 i : Nat
 R : List Nat
 W : List Nat
 x : Option (Nat × Nat × Nat)
 m : Option (Nat × Nat)
 g : List Nat
def exOf (o : Oper) : Option (Nat × Nat × Nat) := match o.op, o.dst, o.guard with
 | .extract (.tmp t) j, some s, none => some (t, j, s)
 | _, _, _ => none
def z9r : Option (Nat × Nat × Nat) → Option (Nat × Nat × Nat) → Bool
 | some (t, j, s), some (t', j', s') => decide (t = t') && (!decide (j = j') && (!decide (s = s') && (!decide (s = t) && !decide (s' = t))))
 | _, _ => false
theorem zGa : ∀ {a b}, z9r a b = true → z9r b a = true
 | some (t, j, s), some (t', j', s'), h => by
   simp only [z9r, Bool.and_eq_true, Bool.not_eq_true', decide_eq_true_eq, decide_eq_false_iff_not] at h ⊢
   obtain ⟨rfl, h2, h3, h4, h5⟩ := h
   exact ⟨rfl, Ne.symm h2, Ne.symm h3, h5, h4⟩
def tb (m x : Nat) : Bool := Nat.beq (Nat.land (Nat.shiftRight m x) 1) 1
theorem zMY (m x : Nat) : tb m x = m.testBit x := by
 have h : Nat.land (Nat.shiftRight m x) 1 = (m >>> x) % 2 := Nat.and_one_is_mod (m >>> x)
 unfold tb
 rw [h]
 rw [Nat.testBit_eq_decide_div_mod_eq, Nat.shiftRight_eq_div_pow, Bool.eq_iff_iff]
 simp
def ancM (md : Region.Mode) (acc : List Nat) (o : Oper) : Nat :=
 (o.after.toList.filter (Region.binds md)).foldl (fun m e => Nat.lor m (Nat.lor (Nat.shiftLeft 1 e.on) (acc.getD e.on 0))) 0
def zIr (md : Region.Mode) (ops : List Oper) : List Nat := ops.foldl (fun acc o => acc ++ [ancM md acc o]) []
def ancs (md : Region.Mode) (ops : List Oper) : List (List Nat) := (zIr md ops).map fun m => (List.range ops.length).filter (tb m)
def mvOf (o : Oper) : Option (Nat × Nat) := match o.op, o.dst, o.guard with
 | .move (.tmp t), some s, none => some (t, s)
 | .fieldAddr _ (.tmp t) _, some s, none => some (t, s)
 | _, _, _ => none
def z8H (c c' : Cl) : Bool := match c.av, c'.av with
 | .val (.lst true e) _, .val (.lst true e') _ => decide (e = e') && (decide (c.v.id = c'.v.id) && decide (c.v.v0 = c'.v.v0))
 | .box t _, .box t' _ => decide (t.shape = t'.shape) && decide (c.v.id = c'.v.id)
 | _, _ => false
theorem z7g {c c' : Cl} (h : z8H c c' = true) : (∃ e d d', c.av = .val (.lst true e) d ∧ c'.av = .val (.lst true e) d' ∧ c.v.id = c'.v.id ∧ c.v.v0 = c'.v.v0) ∨
 (∃ t t' d d', c.av = .box t d ∧ c'.av = .box t' d' ∧ t.shape = t'.shape ∧ c.v.id = c'.v.id) := by
 unfold z8H at h
 split at h
 ·rename_i e d e' d' h1 h2
  simp only [Bool.and_eq_true, decide_eq_true_eq] at h
  obtain ⟨rfl, h3, h4⟩ := h
  exact .inl ⟨_, d, d', h1, h2, h3, h4⟩
 ·rename_i t d t' d' h1 h2
  simp only [Bool.and_eq_true, decide_eq_true_eq] at h
  exact .inr ⟨t, t', d, d', h1, h2, h.1, h.2⟩
 ·cases h
theorem zGl {c c' : Cl} (h : z8H c c' = true) : z8H c' c = true := by
 rcases z7g h with ⟨e, d, d', h1, h2, h3, h4⟩ | ⟨t, t', d, d', h1, h2, h3, h4⟩
 ·unfold z8H
  rw [h1, h2]
  simp [h3, h4]
 ·unfold z8H
  rw [h1, h2]
  simp [h3, h4]
def gOf (S : St) (ws : Wr) : List Nat := (ws.map (·.1)).filter fun s => z8H (S s) ((S.apply ws) s)
@[simp] def dis (a b : List Nat) : Bool := a.all fun s => !b.contains s
def zBq (a b : Tr) : Bool := match a.m with
 | some (t, s) => dis a.W b.R && (dis a.W b.W && (!decide (t = s) && b.g.contains t))
 | none => false
def z7L (bef : List (List Nat)) (a b : Tr) : Bool := (bef.getD b.i []).contains a.i || ((dis a.W b.R && dis a.W b.W && dis b.W a.R) || (z9r a.x b.x || (zBq a b || zBq b a)))
def z1H (bef : List (List Nat)) : List Tr → Bool
 | [] => true
 | a :: l => l.all (z7L bef a) && z1H bef l
def opsD (X : Ctr) (Γ : Env) (ops : Array Oper) (bef : List (List Nat)) : List Tr → List Nat → St → (St → Prop) → Prop
 | tr, [], S, K => z1H bef tr = true ∧ K S
 | tr, i :: is, S, K => match ops[i]? with
   | none => False
   | some o => (opG Γ ops o).wpD X [] S fun R ws => opsD X Γ ops bef (tr ++ [⟨i, R, ws.map (·.1), exOf o, mvOf o, if (exOf o).isSome then [] else gOf S ws⟩]) is (S.apply ws) K
variable {P : Program} {Γ : Env} {E : Entry} {S : St} {act : Act} {w : World} {X : Ctr} {ops : Array Oper} {bef : List (List Nat)} {K : St → Prop}
theorem A.wpD_mono {a : A} {S : St} {R : List Nat} {K K' : List Nat → Wr → Prop} (h : a.wpD X R S K) (hk : ∀ R w, K R w → K' R w) : a.wpD X R S K' := by
 obtain ⟨R', w, h1, _, h3⟩ := A.wpD_out h
 exact h3 S (fun _ _ => rfl) _ (hk _ _ h1)
theorem zCC : ∀ {l : List Nat} {tr tr' : List Tr} {S : St}, opsD X Γ ops bef tr l S K → (∀ t, z1H bef (tr ++ t) = true → z1H bef (tr' ++ t) = true) → opsD X Γ ops bef tr' l S K
 | [], tr, tr', S, h, ht => ⟨by simpa using ht [] (by simpa using h.1), h.2⟩
 | i :: is, tr, tr', S, h, ht => by
   simp only [opsD] at h ⊢
   split at h
   ·exact h.elim
   ·refine A.wpD_mono h fun R ws h => zCC h fun t h1 => ?_
    rw [List.append_assoc] at h1 ⊢
    exact ht _ h1
theorem zDh : ∀ {l : List Nat} {tr : List Tr} {S : St}, opsD X Γ ops bef tr l S K → ∃ t, z1H bef (tr ++ t) = true
 | [], tr, S, h => ⟨[], by simpa using h.1⟩
 | i :: is, tr, S, h => by
   simp only [opsD] at h
   split at h
   ·exact h.elim
   ·obtain ⟨R, w, h1, _, _⟩ := A.wpD_out h
    obtain ⟨t, ht⟩ := zDh h1
    exact ⟨_, by rw [List.append_assoc] at ht; exact ht⟩
theorem z6K {l1 l2 : List Tr} : z1H bef (l1 ++ l2) = true ↔ z1H bef l1 = true ∧ z1H bef l2 = true ∧ ∀ a, a ∈ l1 → ∀ b, b ∈ l2 → z7L bef a b = true := by
 induction l1 with
 | nil => simp [z1H]
 | cons x l ih =>
   simp only [List.cons_append, z1H, Bool.and_eq_true, List.all_eq_true, List.mem_append, ih, List.mem_cons, forall_eq_or_imp]
   constructor
   ·rintro ⟨h1, h2, h3, h4⟩
    exact ⟨⟨fun y hy => h1 y (.inl hy), h2⟩, h3, fun y hy => h1 y (.inr hy), h4⟩
   ·rintro ⟨⟨h1, h2⟩, h3, h4, h5⟩
    exact ⟨fun y hy => hy.elim (h1 y) (h4 y), h2, h3, h5⟩
theorem z0P : ∀ {ws : Wr} {S : St} {s : Nat}, s ∉ ws.map (·.1) → S.apply ws s = S s
 | [], _, _, _ => rfl
 | (d, c) :: ws, S, s, h => by
   simp at h
   simp only [St.apply]
   rw [z0P (by simpa using h.2)]
   exact if_neg h.1
theorem z2a : ∀ {ws : Wr} {S S' : St} {s : Nat}, s ∈ ws.map (·.1) → S.apply ws s = S'.apply ws s
 | (d, c) :: ws, S, S', s, h => by
   simp only [St.apply]
   by_cases hs : s ∈ ws.map (·.1)
   ·exact z2a hs
   ·rw [z0P hs, z0P hs]
    simp at h
    rcases h with rfl | h
    ·simp [St.put]
    ·exact absurd (by simpa using h) hs
theorem zFP {S S' : St} {ws : Wr} (h : ∀ s, s ∈ ws.map (·.1) → S' s = S s) : gOf S' ws = gOf S ws := by
 unfold gOf
 refine List.filter_congr fun s hs => ?_
 rw [h s hs, z2a (S := S') (S' := S) hs]
theorem z3s {a b : List Nat} (h : dis a b = true) : ∀ s, s ∈ a → s ∉ b := by
 intro s h1 h2
 simp only [dis, List.all_eq_true] at h
 have := h s h1
 simp at this
 exact this h2
theorem z8y {S : St} {w1 w2 : Wr} (h : dis (w1.map (·.1)) (w2.map (·.1)) = true) : (S.apply w1).apply w2 = (S.apply w2).apply w1 := by
 funext s
 have hd := z3s h
 by_cases h1 : s ∈ w1.map (·.1)
 ·rw [z0P (hd s h1)]
  exact z2a h1
 ·rw [z0P h1]
  by_cases h2 : s ∈ w2.map (·.1)
  ·exact z2a h2
  ·rw [z0P h2, z0P h2, z0P h1]
theorem T.has_setFld : ∀ (j k : Nat) (t x : T), (t.setFld j x).has k = t.has k
 | 0, k, t, x => by cases t <;> cases k <;> rfl
 | j + 1, 0, t, x => by cases t <;> rfl
 | j + 1, k + 1, t, x => by
   cases t with
   | pair a b => exact T.has_setFld j k b x
   | _ => rfl
theorem T.fld_setFld_ne : ∀ (j k : Nat) (t x : T), j ≠ k → (t.setFld j x).fld k = t.fld k
 | 0, 0, t, x, h => absurd rfl h
 | 0, k + 1, t, x, _ => by cases t <;> rfl
 | j + 1, 0, t, x, _ => by cases t <;> rfl
 | j + 1, k + 1, t, x, h => by
   cases t with
   | pair a b => exact T.fld_setFld_ne j k b x (by omega)
   | _ => rfl
theorem T.setFld_comm : ∀ (j k : Nat) (t x y : T), j ≠ k → (t.setFld j x).setFld k y = (t.setFld k y).setFld j x
 | 0, 0, t, x, y, h => absurd rfl h
 | 0, k + 1, t, x, y, _ => by cases t <;> rfl
 | j + 1, 0, t, x, y, _ => by cases t <;> rfl
 | j + 1, k + 1, t, x, y, h => by
   cases t with
   | pair a b => simp only [T.setFld]; rw [T.setFld_comm j k b x y (by omega)]
   | _ => rfl
theorem z7d {X : Ctr} {S : St} {t j s : Nat} {K : List Nat → Wr → Prop} (h : (z1q Γ (some s) (.tmp t) j).wpD X [] S K) :
 ∃ ty d, (S t).av = .tup ty d ∧ ty.has j = true ∧ s < Γ.n ∧ s ∉ Γ.fx ∧
  (((ty.fld j).plain = true ∧ K [s, t] [(s, ⟨.val (ty.fld j) (d.fld j), (S s).v.kill⟩)]) ∨
   ((ty.fld j).plain = false ∧ t ≠ s ∧ K [s, t] [(t, ⟨.tup (ty.setFld j (ty.fld j).moved) d, (S t).v.kill⟩), (s, ⟨.val (ty.fld j) (d.fld j), (S s).v.kill⟩)])) := by
 simp only [z1q, A.wpD] at h
 generalize hS : S t = c at h ⊢
 obtain ⟨a, v⟩ := c
 cases a with
 | tup ty d =>
   simp only [A.wpD] at h
   obtain ⟨hh, h⟩ := h
   refine ⟨ty, d, rfl, hh, ?_⟩
   by_cases hp : (ty.fld j).plain = true
   ·rw [if_pos hp] at h
    simp only [out, A.wpD] at h
    exact ⟨h.1.1, h.1.2.1, .inl ⟨hp, h.2⟩⟩
   ·rw [if_neg hp] at h
    simp only [A.wpD] at h
    exact ⟨h.1.1, h.1.2.1, .inr ⟨by simpa using hp, h.1.2.2, by simpa using h.2⟩⟩
 | _ => exact h.elim
theorem z3p {X : Ctr} {S : St} {t j s : Nat} {K : List Nat → Wr → Prop} {ty : T} {d : D} (h1 : (S t).av = .tup ty d) (h2 : ty.has j = true) (h3 : s < Γ.n) (h4 : s ∉ Γ.fx)
 (h : ((ty.fld j).plain = true ∧ K [s, t] [(s, ⟨.val (ty.fld j) (d.fld j), (S s).v.kill⟩)]) ∨
   ((ty.fld j).plain = false ∧ t ≠ s ∧ K [s, t] [(t, ⟨.tup (ty.setFld j (ty.fld j).moved) d, (S t).v.kill⟩), (s, ⟨.val (ty.fld j) (d.fld j), (S s).v.kill⟩)])) :
 (z1q Γ (some s) (.tmp t) j).wpD X [] S K := by
 simp only [z1q, A.wpD]
 generalize hS : S t = c at h h1 ⊢
 obtain ⟨a, v⟩ := c
 simp only at h1
 subst h1
 simp only [A.wpD]
 refine ⟨h2, ?_⟩
 rcases h with ⟨hp, hk⟩ | ⟨hp, hne, hk⟩
 ·rw [if_pos hp]
  simp only [out, A.wpD]
  exact ⟨⟨h3, h4, trivial⟩, hk⟩
 ·rw [if_neg (by simp [hp])]
  simp only [A.wpD]
  exact ⟨⟨h3, h4, hne⟩, by simpa using hk⟩
theorem z5E {S : St} {a b : Nat} {x y : Cl} (h : a ≠ b) : (S.put a x).put b y = (S.put b y).put a x := by
 funext q; simp only [St.put]
 by_cases h1 : q = a
 ·have h2 : q ≠ b := fun e => h (h1.symm.trans e)
  rw [if_neg h2, if_pos h1, if_pos h1]
 ·rw [if_neg h1, if_neg h1]
theorem zJt {S : St} {a : Nat} {x y : Cl} : (S.put a x).put a y = S.put a y := by
 funext q; simp only [St.put]; split <;> rfl
theorem zFD {X : Ctr} {S : St} {t j s j' s' : Nat} (hj : j ≠ j') (hs : s ≠ s') (hst : s ≠ t) (hst' : s' ≠ t) {F : List Nat → List Nat → List Nat → List Nat → St → Prop}
 (h : (z1q Γ (some s) (.tmp t) j).wpD X [] S fun R w => (z1q Γ (some s') (.tmp t) j').wpD X [] (S.apply w) fun R' w' => F R (w.map (·.1)) R' (w'.map (·.1)) ((S.apply w).apply w')) :
 (z1q Γ (some s') (.tmp t) j').wpD X [] S fun R' w' => (z1q Γ (some s) (.tmp t) j).wpD X [] (S.apply w') fun R w => F R (w.map (·.1)) R' (w'.map (·.1)) ((S.apply w').apply w) := by
 obtain ⟨ty, d, h1, h2, h3, h4, h5⟩ := z7d h
 have put : ∀ {S : St} {a b : Nat} {c : Cl}, a ≠ b → (S.put b c) a = S a := fun h => St.put_other _ _ h
 rcases h5 with ⟨hp, h5⟩ | ⟨hp, _, h5⟩
 ·obtain ⟨ty', d', g1, g2, g3, g4, g5⟩ := z7d h5
  simp only [St.apply] at g1 g5
  rw [put (Ne.symm hst)] at g1 g5
  rw [h1] at g1; cases g1
  rw [put (Ne.symm hs)] at g5
  rcases g5 with ⟨hp', g5⟩ | ⟨hp', hne', g5⟩
  ·refine z3p h1 g2 g3 g4 (.inl ⟨hp', z3p (ty := ty) (d := d) ?_ h2 h3 h4 (.inl ⟨hp, ?_⟩)⟩)
   ·simp only [St.apply]; rw [put (Ne.symm hst')]; exact h1
   ·simp only [St.apply] at g5 ⊢
    rw [put hs]
    rw [z5E hs] at g5; exact g5
  ·refine z3p h1 g2 g3 g4 (.inr ⟨hp', hne', z3p (ty := ty.setFld j' (ty.fld j').moved) (d := d) ?_ (by rw [T.has_setFld]; exact h2) h3 h4 (.inl ⟨by rw [T.fld_setFld_ne _ _ _ _ (Ne.symm hj)]; exact hp, ?_⟩)⟩)
   ·simp only [St.apply]; rw [put (Ne.symm hst')]; simp
   ·simp only [St.apply] at g5 ⊢
    rw [put hs, put hst, T.fld_setFld_ne _ _ _ _ (Ne.symm hj)]
    rw [z5E hst, z5E hs] at g5; exact g5
 ·obtain ⟨ty', d', g1, g2, g3, g4, g5⟩ := z7d h5
  simp only [St.apply] at g1 g5
  rw [put (Ne.symm hst), St.put_same] at g1 g5
  simp only [AV.tup.injEq] at g1
  obtain ⟨rfl, rfl⟩ := g1
  rw [T.has_setFld] at g2
  rw [put (Ne.symm hs), put hst'] at g5
  rw [T.fld_setFld_ne _ _ _ _ hj] at g5
  rcases g5 with ⟨hp', g5⟩ | ⟨hp', hne', g5⟩
  ·refine z3p h1 g2 g3 g4 (.inl ⟨hp', z3p (ty := ty) (d := d) ?_ h2 h3 h4 (.inr ⟨hp, Ne.symm hst, ?_⟩)⟩)
   ·simp only [St.apply]; rw [put (Ne.symm hst')]; exact h1
   ·simp only [St.apply] at g5 ⊢
    rw [put hs, put (Ne.symm hst')]
    rw [z5E hs, z5E (Ne.symm hst')] at g5; exact g5
  ·refine z3p h1 g2 g3 g4 (.inr ⟨hp', hne', z3p (ty := ty.setFld j' (ty.fld j').moved) (d := d) ?_ (by rw [T.has_setFld]; exact h2) h3 h4 (.inr ⟨by rw [T.fld_setFld_ne _ _ _ _ (Ne.symm hj)]; exact hp, Ne.symm hst, ?_⟩)⟩)
   ·simp only [St.apply]; rw [put (Ne.symm hst')]; simp
   ·simp only [St.apply] at g5 ⊢
    rw [put hs, put hst, put (Ne.symm hst'), St.put_same, T.fld_setFld_ne _ _ _ _ (Ne.symm hj), T.setFld_comm _ _ _ _ _ (Ne.symm hj)]
    rw [z5E (S := S.put t _) hst, zJt, z5E hs] at g5
    rw [z5E (S := S.put t _) hst', zJt]
    exact g5
theorem zLm {o : Oper} {t s : Nat} (h : mvOf o = some (t, s)) : opG Γ ops o = z7X Γ (some s) (.tmp t) ∨ ∃ ty j, opG Γ ops o = z2t Γ (some s) ty (.tmp t) j := by
 unfold mvOf at h
 split at h
 ·rename_i h1 h2 h3
  cases h
  unfold opG
  rw [h3]
  left
  simp only [opA, h1, h2]
 ·rename_i h1 h2 h3
  cases h
  unfold opG
  rw [h3]
  right
  exact ⟨_, _, by simp only [opA, h1, h2]; rfl⟩
 ·cases h
theorem zLN {S : St} {t s : Nat} {e : T} {d : D} {K : List Nat → Wr → Prop} (h : (S t).av = .val (.lst true e) d) :
 (z7X Γ (some s) (.tmp t)).wpD X [] S K ↔ (s < Γ.n ∧ s ∉ Γ.fx ∧ (AV.ref t ⟨(S t).v.id, (S t).v.v0, 0⟩ [] (.lst true e) (.lst [])).off s) ∧ K [s, t] [(s, ⟨.ref t ⟨(S t).v.id, (S t).v.v0, 0⟩ [] (.lst true e) (.lst []), (S s).v.kill⟩)] := by
 simp only [z7X, A.wpD]
 generalize hS : S t = c at h ⊢
 obtain ⟨a, v⟩ := c
 simp only at h
 subst h
 simp [A.wpD, T.plain]
theorem zLM {S : St} {t s : Nat} {u : T} {d : D} {K : List Nat → Wr → Prop} (h : (S t).av = .box u d) :
 (z7X Γ (some s) (.tmp t)).wpD X [] S K ↔ (s < Γ.n ∧ s ∉ Γ.fx ∧ (AV.ptr t ⟨(S t).v.id, 0, 0⟩ []).off s) ∧ K [s, t] [(s, ⟨.ptr t ⟨(S t).v.id, 0, 0⟩ [], (S s).v.kill⟩)] := by
 simp only [z7X, A.wpD]
 generalize hS : S t = c at h ⊢
 obtain ⟨a, v⟩ := c
 simp only at h
 subst h
 simp [A.wpD]
theorem zLL {S : St} {t s j : Nat} {ty : TypeId} {u : T} {d : D} {K : List Nat → Wr → Prop} (h : (S t).av = .box u d) :
 (z2t Γ (some s) ty (.tmp t) j).wpD X [] S K ↔ (u.shape = (Γ.ty ty).shape ∧ (Γ.ty ty).has j = true ∧ ((Γ.ty ty).fld j).size ≠ 0) ∧ (s < Γ.n ∧ s ∉ Γ.fx ∧ (AV.ptr t ⟨(S t).v.id, 0, 0⟩ [.f j]).off s) ∧
   K [s, t, t] [(s, ⟨.ptr t ⟨(S t).v.id, 0, 0⟩ [.f j], (S s).v.kill⟩)] := by
 simp only [z2t, opd, A.wpD]
 generalize hS : S t = c at h ⊢
 obtain ⟨a, v⟩ := c
 simp only at h
 subst h
 simp [A.wpD, hS, Cl.root, z3t, depth, nvp, Ok]
theorem zMJ {S : St} {t s j : Nat} {ty : TypeId} {e : T} {d : D} {K : List Nat → Wr → Prop} (h : (S t).av = .val (.lst true e) d) :
 ¬ (z2t Γ (some s) ty (.tmp t) j).wpD X [] S K := by
 simp only [z2t, opd, A.wpD]
 generalize hS : S t = c at h ⊢
 obtain ⟨a, v⟩ := c
 simp only at h
 subst h
 simp [A.wpD, T.plain]
theorem zJd {S S' : St} {o : Oper} {t s : Nat} {R : List Nat} {w : Wr} (hm : mvOf o = some (t, s)) (hg : z8H (S t) (S' t) = true)
 (h : (opG Γ ops o).wpD X [] S fun R' w' => R' = R ∧ w' = w) :
 w.map (·.1) = [s] ∧ (S' s = S s → ∀ K' : List Nat → Wr → Prop, K' R w → (opG Γ ops o).wpD X [] S' K') := by
 rcases zLm (Γ := Γ) (ops := ops) hm with hf | ⟨ty, j, hf⟩
 ·rw [hf] at h ⊢
  rcases z7g hg with ⟨e, d, d', h1, h2, h3, h4⟩ | ⟨u, u', d, d', h1, h2, h3, h4⟩
  ·rw [zLN h1] at h
   obtain ⟨h5, rfl, rfl⟩ := h
   refine ⟨rfl, fun hs K' hk => ?_⟩
   rw [zLN h2, ← h3, ← h4, hs]
   exact ⟨h5, hk⟩
  ·rw [zLM h1] at h
   obtain ⟨h5, rfl, rfl⟩ := h
   refine ⟨rfl, fun hs K' hk => ?_⟩
   rw [zLM h2, ← h4, hs]
   exact ⟨h5, hk⟩
 ·rw [hf] at h ⊢
  rcases z7g hg with ⟨e, d, d', h1, h2, h3, h4⟩ | ⟨u, u', d, d', h1, h2, h3, h4⟩
  ·exact (zMJ h1 h).elim
  ·rw [zLL h1] at h
   obtain ⟨h5, h6, rfl, rfl⟩ := h
   refine ⟨rfl, fun hs K' hk => ?_⟩
   rw [zLL h2, ← h3, ← h4, hs]
   exact ⟨h5, h6, hk⟩
theorem zJn {tr : List Tr} {j i : Nat} {l : List Nat} {S : St} (h : opsD X Γ ops bef tr (j :: i :: l) S K) (hji : (bef.getD i []).contains j = false) : opsD X Γ ops bef tr (i :: j :: l) S K := by
 have dc : ∀ {a b : List Nat}, dis a b = true → dis b a = true := by
  intro a b hd
  simp only [dis, List.all_eq_true]
  intro s hs
  simp
  exact fun h => z3s hd s h hs
 have turn : ∀ {a b : Tr}, (bef.getD b.i []).contains a.i = false → z7L bef a b = true → z7L bef b a = true := by
  intro a b hn h
  simp only [z7L, hn, Bool.false_or, Bool.or_eq_true, Bool.and_eq_true] at h ⊢
  rcases h with ⟨⟨d1, d2⟩, d3⟩ | h | h | h
  ·exact .inr (.inl ⟨⟨d3, dc d2⟩, d1⟩)
  ·exact .inr (.inr (.inl (zGa h)))
  ·exact .inr (.inr (.inr (.inr h)))
  ·exact .inr (.inr (.inr (.inl h)))
 have trs : ∀ {a b : Tr}, (bef.getD b.i []).contains a.i = false → ∀ t, z1H bef ((tr ++ [a] ++ [b]) ++ t) = true → z1H bef ((tr ++ [b] ++ [a]) ++ t) = true := by
  intro a b hn t ht
  rw [List.append_assoc, List.append_assoc, z6K] at ht ⊢
  refine ⟨ht.1, ?_, ?_⟩
  ·have h2 := ht.2.1
   simp only [List.cons_append, List.nil_append, z1H, Bool.and_eq_true, List.all_eq_true, List.mem_cons, forall_eq_or_imp] at h2 ⊢
   exact ⟨⟨turn hn h2.1.1, h2.2.1⟩, h2.1.2, h2.2.2⟩
  ·intro a' ha b' hb
   refine ht.2.2 a' ha b' ?_
   simp only [List.cons_append, List.nil_append, List.mem_cons] at hb ⊢
   rcases hb with h | h | h <;> simp [h]
 simp only [opsD] at h
 split at h
 ·exact h.elim
 ·rename_i oj hoj
  by_cases hex : ∃ oi, ops[i]? = some oi ∧ z9r (exOf oj) (exOf oi) = true
  ·obtain ⟨oi, hoi, hx⟩ := hex
   cases hxj : exOf oj with
   | none => rw [hxj] at hx; cases hx
   | some pj =>
     cases hxi : exOf oi with
     | none => rw [hxj, hxi] at hx; cases hx
     | some pi =>
       obtain ⟨t, j1, s⟩ := pj
       obtain ⟨t', j2, s'⟩ := pi
       rw [hxj, hxi] at hx
       simp only [z9r, Bool.and_eq_true, Bool.not_eq_true', decide_eq_true_eq, decide_eq_false_iff_not] at hx
       obtain ⟨rfl, e2, e3, e4, e5⟩ := hx
       have form : ∀ {o : Oper} {t j s : Nat}, exOf o = some (t, j, s) → opG Γ ops o = z1q Γ (some s) (.tmp t) j := by
        intro o t j s h
        unfold exOf at h
        split at h
        ·rename_i h1 h2 h3
         cases h
         unfold opG
         rw [h3]
         simp only [opA, h1, h2]
        ·cases h
       rw [form hxj] at h
       have h2 : (z1q Γ (some s) (.tmp t) j1).wpD X [] S fun R w => (z1q Γ (some s') (.tmp t) j2).wpD X [] (S.apply w) fun R' w' =>
        opsD X Γ ops bef ((tr ++ [⟨j, R, w.map (·.1), exOf oj, mvOf oj, []⟩]) ++ [⟨i, R', w'.map (·.1), exOf oi, mvOf oi, []⟩]) l ((S.apply w).apply w') K := by
        refine A.wpD_mono h fun R w h => ?_
        simp only [hoi, hxj, hxi, Option.isSome_some, if_true] at h ⊢
        rw [form hxi] at h
        exact h
       have h3 := zFD (F := fun R w R' w' S => opsD X Γ ops bef ((tr ++ [⟨j, R, w, exOf oj, mvOf oj, []⟩]) ++ [⟨i, R', w', exOf oi, mvOf oi, []⟩]) l S K) e2 e3 e4 e5 h2
       simp only [opsD, hoi, hoj, hxj, hxi, Option.isSome_some, if_true] at h3 ⊢
       rw [form hxi]
       refine A.wpD_mono h3 fun R w h => ?_
       rw [form hxj]
       refine A.wpD_mono h fun R' w' h => zCC h (trs hji)
  obtain ⟨Rj, wj, h1, _, h3⟩ := A.wpD_out h
  split at h1
  ·exact h1.elim
  ·rename_i oi hoi
   obtain ⟨Ri, wi, g1, _, g3⟩ := A.wpD_out h1
   obtain ⟨t, ht⟩ := zDh g1
   rw [List.append_assoc, List.append_assoc, z6K] at ht
   have hj0 : (if (exOf oj).isSome then [] else gOf S wj) = (if (exOf oj).isSome then [] else gOf S wj) := rfl
   have hap : z7L bef ⟨j, Rj, wj.map (·.1), exOf oj, mvOf oj, if (exOf oj).isSome then [] else gOf S wj⟩ ⟨i, Ri, wi.map (·.1), exOf oi, mvOf oi, if (exOf oi).isSome then [] else gOf (S.apply wj) wi⟩ = true := by
    have := ht.2.1
    simp only [List.cons_append, List.nil_append, z1H, Bool.and_eq_true, List.all_eq_true] at this
    exact this.1 _ (by simp)
   have hnx : z9r (exOf oj) (exOf oi) = false := by
    cases h : z9r (exOf oj) (exOf oi) with
    | false => rfl
    | true => exact absurd ⟨oi, hoi, h⟩ hex
   simp only [z7L, hji, hnx, Bool.false_or, Bool.or_eq_true] at hap
   -- what is written is the same in either order
   have same : dis (wj.map (·.1)) (wi.map (·.1)) = true → ∀ {K' : List Tr → Prop}, K' (tr ++ [⟨i, Ri, wi.map (·.1), exOf oi, mvOf oi, if (exOf oi).isSome then [] else gOf (S.apply wj) wi⟩] ++ [⟨j, Rj, wj.map (·.1), exOf oj, mvOf oj, if (exOf oj).isSome then [] else gOf S wj⟩]) →
    K' (tr ++ [⟨i, Ri, wi.map (·.1), exOf oi, mvOf oi, if (exOf oi).isSome then [] else gOf S wi⟩] ++ [⟨j, Rj, wj.map (·.1), exOf oj, mvOf oj, if (exOf oj).isSome then [] else gOf (S.apply wi) wj⟩]) := by
    intro d2 K' hk
    rw [zFP (S' := S.apply wj) (fun s hs => z0P fun hm => z3s d2 s hm hs), zFP (S' := S.apply wi) (ws := wj) (S := S) (fun s hs => z0P fun hm => z3s d2 s hs hm)] at *
    exact hk
   rcases hap with hap | hap | hap
   ·simp only [Bool.and_eq_true] at hap
    obtain ⟨⟨d1, d2⟩, d3⟩ := hap
    simp only [opsD, hoj, hoi]
    refine g3 S (fun s hs => ?_) _ (h3 _ (fun s hs => ?_) _ ?_)
    ·rw [z0P]; intro hm; exact z3s d1 s hm hs
    ·rw [z0P]; intro hm; exact z3s d3 s hm hs
    ·rw [← z8y d2]
     exact same d2 (K' := fun tr => opsD X Γ ops bef tr l _ K) (zCC g1 (trs hji))
   ·unfold zBq at hap
    cases hm : mvOf oj with
    | none => rw [hm] at hap; cases hap
    | some p =>
      obtain ⟨t0, s0⟩ := p
      simp only [hm, Bool.and_eq_true] at hap
      obtain ⟨d1, d2, _, hg⟩ := hap
      have hg : t0 ∈ gOf (S.apply wj) wi := by
       split at hg
       ·simp at hg
       ·simpa using hg
      obtain ⟨hg1, hg2⟩ := List.mem_filter.mp hg
      have e1 : (S.apply wj) t0 = S t0 := z0P fun hm => z3s d2 _ hm hg1
      rw [e1, z2a (S' := S) hg1] at hg2
      obtain ⟨k1, k2⟩ := zJd hm hg2 (h3 S (fun _ _ => rfl) _ ⟨rfl, rfl⟩)
      simp only [opsD, hoj, hoi]
      refine g3 S (fun s hs => ?_) _ (k2 (z0P (z3s d2 s0 (by rw [k1]; simp))) _ ?_)
      ·rw [z0P]; intro hm; exact z3s d1 s hm hs
      ·rw [← z8y d2]
       exact same d2 (K' := fun tr => opsD X Γ ops bef tr l _ K) (zCC g1 (trs hji))
   ·unfold zBq at hap
    cases hm : mvOf oi with
    | none => rw [hm] at hap; cases hap
    | some p =>
      obtain ⟨t0, s0⟩ := p
      simp only [hm, Bool.and_eq_true] at hap
      obtain ⟨d1, d2, _, hg⟩ := hap
      have hg : t0 ∈ gOf S wj := by
       split at hg
       ·simp at hg
       ·simpa using hg
      obtain ⟨hg1, hg2⟩ := List.mem_filter.mp hg
      obtain ⟨k1, k2⟩ := zJd hm (zGl hg2) (g3 (S.apply wj) (fun _ _ => rfl) _ ⟨rfl, rfl⟩)
      simp only [opsD, hoj, hoi]
      refine k2 (z0P (z3s d2 s0 (by rw [k1]; simp))).symm _ (h3 _ (fun s hs => ?_) _ ?_)
      ·rw [z0P]; intro hm; exact z3s d1 s hm hs
      ·rw [← z8y (dc d2)]
       exact same (dc d2) (K' := fun tr => opsD X Γ ops bef tr l _ K) (zCC g1 (trs hji))
theorem zJm {tr : List Tr} {i : Nat} {l l' : List Nat} {S : St} (h : opsD X Γ ops bef tr (i :: l) S K) (hl : ∀ tr S, opsD X Γ ops bef tr l S K → opsD X Γ ops bef tr l' S K) : opsD X Γ ops bef tr (i :: l') S K := by
 simp only [opsD] at h ⊢
 split at h
 ·exact h.elim
 ·exact A.wpD_mono h fun R ws h => hl _ _ h
theorem zDi : ∀ {l1 : List Nat} {tr : List Tr} {i : Nat} {l2 : List Nat} {S : St}, opsD X Γ ops bef tr (l1 ++ i :: l2) S K → (∀ j, j ∈ l1 → (bef.getD i []).contains j = false) → opsD X Γ ops bef tr (i :: (l1 ++ l2)) S K
 | [], _, _, _, _, h, _ => h
 | j :: l1, tr, i, l2, S, h, hb => by
   have h2 : opsD X Γ ops bef tr (j :: i :: (l1 ++ l2)) S K := zJm h fun tr S h => zDi h fun j hj => hb j (by simp [hj])
   exact zJn h2 (hb j (by simp))
end
end Go.Own
namespace Go.Own
variable [Glb]
noncomputable section
open Go
variable {P : Program} {Γ : Env} {E : Entry} {S : St} {act : Act} {w : World} {X : Ctr} {ops : Array Oper} {K : St → Prop} {md : Region.Mode} {Q : Exit → Act → World → Prop}
theorem zKN {md : Region.Mode} {acc : List Nat} {o : Oper} {x : Nat} (h : tb (ancM md acc o) x = true) : ∃ e, e ∈ o.after ∧ Region.binds md e = true ∧ (x = e.on ∨ tb (acc.getD e.on 0) x = true) := by
 have key : ∀ (l : List _) (m : Nat), (l.foldl (fun m (e : Edge) => Nat.lor m (Nat.lor (Nat.shiftLeft 1 e.on) (acc.getD e.on 0))) m).testBit x = true → m.testBit x = true ∨ ∃ e ∈ l, x = e.on ∨ (acc.getD e.on 0).testBit x = true := by
  intro l
  induction l with
  | nil => intro m hm; exact .inl hm
  | cons e l ih =>
    intro m hm
    rcases ih _ hm with h1 | ⟨e', h1, h2⟩
    ·have h2 : (m ||| (1 <<< e.on ||| acc.getD e.on 0)).testBit x = true := h1
     rw [Nat.testBit_or, Nat.testBit_or, Bool.or_eq_true, Bool.or_eq_true] at h2
     rcases h2 with h2 | h2 | h2
     ·exact .inl h2
     ·refine .inr ⟨e, by simp, .inl ?_⟩
      rw [Nat.one_shiftLeft, Nat.testBit_two_pow] at h2
      have := of_decide_eq_true h2; omega
     ·exact .inr ⟨e, by simp, .inr h2⟩
    ·exact .inr ⟨e', by simp [h1], h2⟩
 rw [zMY] at h
 rcases key _ _ h with h1 | ⟨e, h1, h2⟩
 ·simp at h1
 ·simp only [List.mem_filter] at h1
  refine ⟨e, by simpa using h1.1, h1.2, h2.imp id fun h => ?_⟩
  rw [zMY]; exact h
theorem zDQ : ∀ (l : List Oper) (acc : List Nat),
 let r := l.foldl (fun acc o => acc ++ [ancM md acc o]) acc
 r.take acc.length = acc ∧ ∀ i o, l[i]? = some o → r[acc.length + i]? = some (ancM md (r.take (acc.length + i)) o)
 | [], acc => by simp
 | o :: l, acc => by
   simp only [List.foldl_cons]
   obtain ⟨h1, h2⟩ := zDQ l (acc ++ [ancM md acc o])
   generalize hr : l.foldl (fun acc o => acc ++ [ancM md acc o]) (acc ++ [ancM md acc o]) = r at h1 h2 ⊢
   simp only [List.length_append, List.length_cons, List.length_nil, Nat.zero_add] at h1 h2
   have ht : r.take acc.length = acc := by
    have := congrArg (List.take acc.length) h1
    rw [List.take_take, Nat.min_eq_left (by omega)] at this
    simpa using this
   refine ⟨ht, fun i o' hi => ?_⟩
   cases i with
   | zero =>
     simp at hi; subst hi
     rw [Nat.add_zero, ht]
     have := congrArg (fun l : List Nat => l[acc.length]?) h1
     simpa [List.getElem?_take] using this
   | succ i =>
     simp at hi
     have := h2 i o' hi
     rw [show acc.length + (i + 1) = acc.length + 1 + i by omega]
     exact this
theorem zHJ {md : Region.Mode} {l : List Oper} {i x : Nat} : x ∈ (ancs md l).getD i [] ↔ x < l.length ∧ tb ((zIr md l).getD i 0) x = true := by
 unfold ancs
 rw [List.getD_eq_getElem?_getD, List.getElem?_map, List.getD_eq_getElem?_getD]
 cases h : (zIr md l)[i]? with
 | none => simp [tb]
 | some m => simp [List.mem_filter]
theorem zIs {i : Nat} {o : Oper} (ho : ops[i]? = some o) : ∀ x, x ∈ (ancs md ops.toList).getD i [] → ∃ e, e ∈ o.after ∧ Region.binds md e = true ∧ (x = e.on ∨ (e.on < i ∧ x ∈ (ancs md ops.toList).getD e.on [])) := by
 intro x hx
 obtain ⟨hxl, hb⟩ := zHJ.1 hx
 obtain ⟨_, h⟩ := zDQ (md := md) ops.toList []
 have h2 := h i o (by simpa using ho)
 simp only [List.length_nil, Nat.zero_add] at h2
 change (zIr md ops.toList)[i]? = some (ancM md ((zIr md ops.toList).take i) o) at h2
 rw [List.getD_eq_getElem?_getD, h2, Option.getD_some] at hb
 obtain ⟨e, h1, h3, h4⟩ := zKN hb
 refine ⟨e, h1, h3, h4.imp id fun h5 => ?_⟩
 by_cases hl : e.on < i
 ·refine ⟨hl, zHJ.2 ⟨hxl, ?_⟩⟩
  rw [List.getD_eq_getElem?_getD, List.getElem?_take, if_pos hl, ← List.getD_eq_getElem?_getD] at h5
  exact h5
 ·rw [List.getD_eq_getElem?_getD, List.getElem?_take, if_neg hl] at h5
  simp [tb] at h5
def Down (md : Region.Mode) (ops : Array Oper) (listed : Array Bool) : Prop :=
 ∀ x o, listed.getD x false = true → ops[x]? = some o → ∀ e, e ∈ o.after → Region.binds md e = true → listed.getD e.on false = true
theorem Down.anc {listed : Array Bool} (hd : Down md ops listed) : ∀ (i : Nat) o, ops[i]? = some o → (∀ e, e ∈ o.after → Region.binds md e = true → listed.getD e.on false = true) → ∀ x, x ∈ (ancs md ops.toList).getD i [] → listed.getD x false = true := by
 intro i
 induction i using Nat.strongRecOn with
 | ind i ih =>
   intro o ho he x hx
   obtain ⟨e, h1, h2, rfl | ⟨hl, h3⟩⟩ := zIs ho x hx
   ·exact he e h1 h2
   ·have hon := he e h1 h2
    have hlt : e.on < ops.size := Nat.lt_trans hl (Array.getElem?_eq_some_iff.1 ho).1
    exact ih e.on hl ops[e.on] (by simp [hlt]) (fun e' h4 h5 => hd e.on _ hon (by simp [hlt]) e' h4 h5) x h3
def zI8 (md : Region.Mode) (ops : Array Oper) : Bool := (List.range ops.size).all fun i => match ops[i]? with
 | none => true
 | some o => o.after.all fun e => !Region.binds md e || decide (e.on < i)
theorem zI9 (h : zI8 md ops = true) {i : Nat} {o : Oper} (ho : ops[i]? = some o) : ∀ e, e ∈ o.after → Region.binds md e = true → e.on < i := by
 intro e he hb
 simp only [zI8, List.all_eq_true, List.mem_range] at h
 have := h i (Array.getElem?_eq_some_iff.1 ho).1
 simp only [ho, Array.all_eq_true_iff_forall_mem] at this
 have := this e he
 simpa [hb] using this
theorem zEv (ok : EnvOk P Γ) (hdn : zI8 md ops = true) : ∀ (fuel : Nat) (listed : Array Bool) (l : List Nat) (S : St) (act : Act) (w : World) (tr : List Tr),
 opsD (VX P) Γ ops (ancs md ops.toList) tr l S K → listed.size = ops.size → (∀ i, i ∈ l ↔ i < ops.size ∧ listed.getD i true = false) → l.Nodup → l.length = fuel → Down md ops listed → Inv Γ E S act w →
 (∀ S act w, K S → Inv Γ E S act w → Q .normal act w) → wpAny P md ops Q fuel listed act w
 | 0, listed, l, S, act, w, tr, h, hsz, hl, hnd, hlen, hd, hi, hn => by
   cases l with
   | cons _ _ => simp at hlen
   | nil =>
     refine wpAny_done ?_ (hn _ _ _ h.2 hi) 0
     refine List.eq_nil_iff_forall_not_mem.2 fun i hr => ?_
     obtain ⟨h0, o, ho, _⟩ := mem_ready.1 hr
     have := (hl i).2 ⟨(Array.getElem?_eq_some_iff.1 ho).1, h0⟩
     simp at this
 | fuel + 1, listed, l, S, act, w, tr, h, hsz, hl, hnd, hlen, hd, hi, hn => by
   refine ⟨fun hr => ?_, fun i hr => ?_⟩
   ·-- the first that is not listed is ready
    exfalso
    have hex : ∃ i, i ∈ l := by cases l with | nil => simp at hlen | cons a _ => exact ⟨a, by simp⟩
    have key : ∀ i, i ∈ l → False := by
     intro i
     induction i using Nat.strongRecOn with
     | ind i ih =>
       intro hm
       obtain ⟨hlt, h0⟩ := (hl i).1 hm
       have : i ∈ Region.ready md ops listed := by
        refine mem_ready.2 ⟨h0, ops[i], by simp [hlt], fun e he hb => ?_⟩
        have hon := zI9 hdn (i := i) (o := ops[i]) (by simp [hlt]) e he hb
        by_cases h1 : listed.getD e.on true = false
        ·exact (ih e.on hon ((hl e.on).2 ⟨by omega, h1⟩)).elim
        ·have hlt2 : e.on < listed.size := by omega
         simp [hlt2] at h1 ⊢
         exact h1
       rw [hr] at this
       simp at this
    obtain ⟨i, hm⟩ := hex
    exact key i hm
   ·obtain ⟨h0, o, ho, hall⟩ := mem_ready.1 hr
    have hlt := (Array.getElem?_eq_some_iff.1 ho).1
    have hm := (hl i).2 ⟨hlt, h0⟩
    obtain ⟨l1, l2, rfl⟩ := List.append_of_mem hm
    have hfr := zDi h fun j hj => by
     cases hc : ((ancs md ops.toList).getD i []).contains j with
     | false => rfl
     | true =>
       exfalso
       have h1 := hd.anc i o ho hall j (by simpa using hc)
       have h2 := ((hl j).1 (by simp [hj])).2
       have hjs : j < listed.size := by rw [hsz]; exact ((hl j).1 (by simp [hj])).1
       simp [hjs] at h1 h2
       rw [h1] at h2; cases h2
    simp only [opsD] at hfr
    simp only [ho] at hfr
    refine zFl ok ho (A.wpD_wp hfr (K' := fun ws => ∃ tr, opsD (VX P) Γ ops (ancs md ops.toList) tr (l1 ++ l2) (S.apply ws) K) fun R ws h => ⟨_, h⟩) hi ?_
    rintro ws act' w' ⟨tr', htr⟩ hi'
    have hnd' := hnd
    rw [List.nodup_append, List.nodup_cons] at hnd
    refine zEv ok hdn fuel _ (l1 ++ l2) _ act' w' tr' htr (by simp [hsz]) ?_ ?_ (by simp at hlen ⊢; omega) ?_ hi' hn
    ·intro j
     by_cases hji : j = i
     ·subst hji
      constructor
      ·intro hm'
       simp only [List.mem_append] at hm'
       exact (hm'.elim (fun h => hnd.2.2 _ h _ (by simp) rfl) (fun h => hnd.2.1.1 h)).elim
      ·rintro ⟨h1, h2⟩
       rw [← hsz] at h1
       simp [h1] at h2
     ·rw [getD_set_ne true (Ne.symm hji), ← hl j]
      simp [hji]
    ·refine hnd'.sublist ?_
     simp
    ·intro x o' hx ho' e he hb
     refine getD_set_true ?_
     by_cases hxi : x = i
     ·subst hxi
      rw [ho] at ho'; cases ho'
      exact hall e he hb
     ·rw [getD_set_ne false (Ne.symm hxi)] at hx
      exact hd x o' hx ho' e he hb
theorem Inv.drawn (hi : Inv Γ E S act w) : Inv Γ E S act { w with drawn := w.drawn + 1 } :=
 ⟨⟨⟨hi.fr.same.os, hi.fr.same.tape, hi.fr.same.output⟩, hi.fr.frame, hi.fr.size, hi.fr.n, hi.fr.fx, hi.fr.df⟩, hi.ex⟩
theorem Ex.draw (ok : EnvOk P Γ) {Q : Exit → St → Prop} {id : Nat} (hdn : zI8 .any ops = true) (h : opsD (VX P) Γ ops (ancs .any ops.toList) [] (List.range ops.size) S (Q .normal)) : Ex P Γ E (.region id ops true) Q S := by
 intro act w hi
 refine wp_region_any ok.mixed (zEv ok hdn ops.size _ (List.range ops.size) S _ _ [] h (by simp) ?_ List.nodup_range (by simp) ?_ hi.drawn fun S' _ _ h1 h2 => ⟨S', h1, h2⟩)
 ·intro i
  simp only [List.mem_range]
  constructor
  ·intro h; exact ⟨h, by simp [h]⟩
  ·exact fun h => h.1
 ·intro x o hx ho
  have := (Array.getElem?_eq_some_iff.1 ho).1
  simp [this] at hx
end
end Go.Own
