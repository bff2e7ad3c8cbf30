/- A layer over the walk: what lies in memory as plain data, each operation by what it does to data; part 16. -/
import Derived.Test.YtkogmjbmbpcbeaaGreatDoorOwY
set_option linter.unusedSectionVars false
set_option linter.unusedVariables false
set_option linter.unusedSimpArgs false
namespace Go.Own
variable [Glb]
noncomputable section
open Go
@[simp] def opG (Γ : Env) (ops : Array Oper) (o : Oper) : A :=
 match o.guard with
 | none => opA Γ o
 | some (j, want) => match (ops[j]?).bind (·.dst) with
   | none => .fail
   | some s => .ask s fun c => match c.av with
     | .val .bool d => if d.b = want then opA Γ o else out Γ o.dst (.tup .unit .unit)
     | .tup .unit _ => out Γ o.dst (.tup .unit .unit)
     | _ => .fail
def opsW (X : Ctr) (Γ : Env) (ops : Array Oper) : List Nat → St → (St → Prop) → Prop
 | [], S, K => K S
 | i :: is, S, K => match ops[i]? with
   | none => False
   | some o => (opG Γ ops o).wp X S fun ws => opsW X Γ ops is (S.apply ws) K
variable {P : Program} {Γ : Env} {E : Entry} {S : St} {act : Act} {w : World} {Kt : Wr → Prop} {next : Act → World → Prop} {Q : Exit → Act → World → Prop}
theorem zIn (ops : Array Oper) {j s : Nat} (h : (ops[j]?).bind (·.dst) = some s) : yielded ops act.tmps j = match tmOf act s with | .bool b => some b | _ => none := by
 unfold yielded tmOf
 rw [h]
 simp only [Option.bind_some, Array.getD_eq_getD_getElem?]
 cases h : act.tmps[s]? with
 | none => rfl
 | some v => cases v <;> rfl
theorem zDY {dst : Option Nat} (h : (out Γ dst (.tup .unit .unit)).wp (VX P) S Kt) (hi : Inv Γ E S act w) (hn : z2V Γ E S Kt next) : next (act.put dst undef) w := by
 obtain ⟨hf, κ, V, hc, hb⟩ := hi
 refine zEZ (k := .leaf) h hf hc hb (fun d _ => ⟨[], ⟨rfl, by simp, rfl⟩, #[], rfl, fun j hj => ?_⟩) (by simp [K.blocks]) (by simp [K.blocks]) (by simp [K.blocks]) (by simp [K.blocks]) (by simp [K.blocks]) hn
 simp at hj
theorem zFl (ok : EnvOk P Γ) {ops : Array Oper} {i : Nat} {o : Oper} (ho : ops[i]? = some o) (h : (opG Γ ops o).wp (VX P) S Kt) (hi : Inv Γ E S act w) (hn : z2V Γ E S Kt next) : wpOp P ops Q i next act w := by
 unfold wpOp
 simp only [ho]
 unfold opG at h
 split at h
 ·rename_i hg
  rw [if_pos (by simp [Region.wanted, hg])]
  exact .inl (zHo ok h hi hn)
 ·rename_i j want hg
  split at h
  ·exact h.elim
  ·rename_i s hs
   have hw : Region.wanted o (yielded ops act.tmps) = ((match tmOf act s with | .bool b => some b | _ => none) == some want) := by
    simp only [Region.wanted, hg]
    rw [zIn ops hs]
   obtain ⟨hf, κ, V, hc, hb⟩ := id hi
   have hcv := hc.cv s
   simp only [A.wp] at h
   generalize hS : S s = c at h hcv
   obtain ⟨a, v⟩ := c
   simp only at h
   split at h
   ·rename_i d
    obtain ⟨cs, ⟨b, rfl, _, rfl⟩, e⟩ := hcv
    have e' : tmOf act s = .bool b := e
    rw [hw, e']
    split at h
    ·rename_i hd
     simp only [D.b_bool] at hd
     rw [if_pos (by simp [hd])]
     exact .inl (zHo ok h hi hn)
    ·rename_i hd
     simp only [D.b_bool] at hd
     rw [if_neg (by simp [hd])]
     exact zDY h hi hn
   ·obtain ⟨cs, _, vs, e, _⟩ := hcv
    have e' : tmOf act s = .tuple vs := e
    rw [hw, e', if_neg (by simp)]
    exact zDY h hi hn
   ·exact h.elim
theorem zDj (ok : EnvOk P Γ) {ops : Array Oper} {K : St → Prop} : ∀ (l : List Nat) {S act w}, opsW (VX P) Γ ops l S K → Inv Γ E S act w → (∀ S act w, K S → Inv Γ E S act w → Q .normal act w) → wpOps P ops Q l act w
 | [], _, _, _, h, hi, hn => hn _ _ _ h hi
 | i :: is, S, act, w, h, hi, hn => by
   rw [wpOps_cons]
   simp only [opsW] at h
   split at h
   ·exact h.elim
   ·rename_i o ho
    exact zFl ok ho h hi fun ws act' w' h1 h2 => zDj ok is h1 h2 hn
theorem A.wp_mono {X : Ctr} {a : A} {S : St} {K K' : Wr → Prop} (hk : ∀ ws, K ws → K' ws) (h : a.wp X S K) : a.wp X S K' := by
 induction a with
 | ret _ => exact hk _ h
 | ask s k ih => exact ih _ h
 | need p k ih => exact ⟨h.1, ih h.2⟩
 | call g as dom nv k =>
   obtain ⟨Post, h1, h2, h3⟩ := h
   exact ⟨Post, h1, h2, fun r o hp => ⟨(h3 r o hp).1, (h3 r o hp).2.1, hk _ (h3 r o hp).2.2⟩⟩
 | two p k ih => exact ⟨fun hp => ih true (h.1 hp), ih false h.2⟩
 | fail => exact h.elim
theorem zJo {X : Ctr} {ops : Array Oper} {K K' : St → Prop} (hk : ∀ S, K S → K' S) : ∀ (l : List Nat) {S}, opsW X Γ ops l S K → opsW X Γ ops l S K'
 | [], _, h => hk _ h
 | i :: is, S, h => by
   simp only [opsW] at h ⊢
   split at h
   ·exact h.elim
   ·exact A.wp_mono (fun ws => zJo hk is) h
end
end Go.Own
namespace Go.Own
variable [Glb]
noncomputable section
open Go
def Ex (P : Program) (Γ : Env) (E : Entry) (c : Code) (Q : Exit → St → Prop) (S : St) : Prop :=
 ∀ act w, Inv Γ E S act w → c.wp P (fun e a w => ∃ S', Q e S' ∧ Inv Γ E S' a w) act w
def zGI (next : St → Prop) (Q : Exit → St → Prop) : Exit → St → Prop
 | .normal, S => next S
 | e, S => Q e S
def zF0 (id : Nat) (Q : Exit → St → Prop) : Exit → St → Prop
 | .exit id', S => if id' = id then Q .normal S else Q (.exit id') S
 | e, S => Q e S
@[simp] theorem thenS_normal (n Q S) : zGI n Q .normal S = n S := rfl
@[simp] theorem thenS_exit (n Q S) (id : Nat) : zGI n Q (.exit id) S = Q (.exit id) S := rfl
@[simp] theorem thenS_ret (n Q S) : zGI n Q .ret S = Q .ret S := rfl
@[simp] theorem blockS_normal (id : Nat) (Q S) : zF0 id Q .normal S = Q .normal S := rfl
@[simp] theorem blockS_ret (id : Nat) (Q S) : zF0 id Q .ret S = Q .ret S := rfl
@[simp] theorem zAz (id id' : Nat) (Q S) : zF0 id Q (.exit id') S = if id' = id then Q .normal S else Q (.exit id') S := rfl
variable {P : Program} {Γ : Env} {E : Entry} {S : St} {Q : Exit → St → Prop}
theorem Ex.mono {c : Code} {Q' : Exit → St → Prop} (h : Ex P Γ E c Q S) (hq : ∀ e S, Q e S → Q' e S) : Ex P Γ E c Q' S :=
 fun act w hi => wp_mono (h act w hi) fun _ _ _ ⟨S', h1, h2⟩ => ⟨S', hq _ _ h1, h2⟩
theorem Ex.skip (h : Q .normal S) : Ex P Γ E .skip Q S := fun _ _ hi => wp_skip ⟨S, h, hi⟩
theorem Ex.label {l : Nat} (h : Q .normal S) : Ex P Γ E (.label l) Q S := fun _ _ hi => wp_label ⟨S, h, hi⟩
theorem Ex.exit {id : Nat} (h : Q (.exit id) S) : Ex P Γ E (.exit id) Q S := fun _ _ hi => wp_exit ⟨S, h, hi⟩
theorem Ex.ret (h : Q .ret S) : Ex P Γ E .ret Q S := fun _ _ hi => wp_ret ⟨S, h, hi⟩
theorem Ex.seq {x y : Code} (h : Ex P Γ E x (zGI (Ex P Γ E y Q) Q) S) : Ex P Γ E (.seq x y) Q S := by
 intro act w hi
 refine wp_seq (wp_mono (h act w hi) ?_)
 rintro e a w' ⟨S', hq, hi'⟩
 cases e with
 | normal => exact hq a w' hi'
 | _ => exact ⟨S', hq, hi'⟩
theorem Ex.block {id : Nat} {c : Code} (h : Ex P Γ E c (zF0 id Q) S) : Ex P Γ E (.block id c) Q S := by
 intro act w hi
 refine wp_block (wp_mono (h act w hi) ?_)
 rintro e a w' ⟨S', hq, hi'⟩
 cases e with
 | exit id' =>
   simp only [zF0] at hq
   simp only [Exit.inBlock]
   split
   ·rename_i h; rw [if_pos h] at hq; exact ⟨S', hq, hi'⟩
   ·rename_i h; rw [if_neg h] at hq; exact ⟨S', hq, hi'⟩
 | _ => exact ⟨S', hq, hi'⟩
@[simp] def zKZ (x : Operand) (S : St) (kt kf : Prop) : Prop :=
 match x with
 | .tmp s => match (S s).av with
   | .val .bool d => (d.b = true → kt) ∧ (d.b = false → kf)
   | _ => False
 | .const (.bool b) => (b = true → kt) ∧ (b = false → kf)
 | _ => False
theorem Ex.cond {x : Operand} {c d : Code} (h : zKZ x S (Ex P Γ E c Q S) (Ex P Γ E d Q S)) : Ex P Γ E (.cond x c d) Q S := by
 intro act w hi
 unfold zKZ at h
 split at h
 ·rename_i s
  obtain ⟨hf, κ, V, hc, hb⟩ := id hi
  have hcv := hc.cv s
  generalize hS : S s = cl at hcv h
  obtain ⟨a, v⟩ := cl
  simp only at h
  split at h
  ·obtain ⟨cs, ⟨b, rfl, _, rfl⟩, e⟩ := hcv
   have e' : act.eval (.tmp s) = .bool b := e
   refine wp_cond e' ?_
   cases b
   ·exact h.2 rfl act w hi
   ·exact h.1 rfl act w hi
  ·exact h.elim
 ·rename_i b
  refine wp_cond (t := b) rfl ?_
  cases b
  ·exact h.2 rfl act w hi
  ·exact h.1 rfl act w hi
 ·exact h.elim
theorem Ex.loop {c : Code} (I : Nat → St → Prop) {n : Nat} (h0 : I n S) (round : ∀ n S, I n S → Ex P Γ E c (zGI (fun S' => ∃ m, m < n ∧ I m S') Q) S) : Ex P Γ E (.loop c) Q S := by
 intro act w hi
 let R : Act → World → Nat → Prop := fun a w n => ∃ S, I n S ∧ Inv Γ E S a w
 have least : ∀ {a w n}, R a w n → ∃ m, R a w m ∧ ∀ k, R a w k → m ≤ k := by
  intro a w n
  induction n using Nat.strongRecOn with
  | ind n ih =>
    intro hn
    by_cases h : ∃ m, m < n ∧ R a w m
    ·obtain ⟨m, hm, hr⟩ := h; exact ih m hm hr
    ·exact ⟨n, hn, fun k hk => by
      by_cases hkn : n ≤ k
      ·exact hkn
      ·exact absurd ⟨k, by omega, hk⟩ h⟩
 open Classical in
 let μ : Act → World → Nat := fun a w => if h : ∃ m, R a w m ∧ ∀ k, R a w k → m ≤ k then h.choose else 0
 have hμ : ∀ {a w n}, R a w n → R a w (μ a w) ∧ μ a w ≤ n := by
  intro a w n hn
  have h := least hn
  show R a w (if h : ∃ m, R a w m ∧ ∀ k, R a w k → m ≤ k then h.choose else 0) ∧ (if h : ∃ m, R a w m ∧ ∀ k, R a w k → m ≤ k then h.choose else 0) ≤ n
  rw [dif_pos h]
  exact ⟨h.choose_spec.1, h.choose_spec.2 _ hn⟩
 refine wp_loop (fun a w => ∃ n, R a w n) μ ⟨n, S, h0, hi⟩ ?_
 rintro a w ⟨n, hn⟩
 obtain ⟨⟨S1, h1, hi1⟩, _⟩ := hμ hn
 refine wp_mono (round _ S1 h1 a w hi1) ?_
 rintro e a' w' ⟨S', hq, hi'⟩
 cases e with
 | normal =>
   obtain ⟨m, hm, hI⟩ := hq
   exact ⟨⟨m, S', hI, hi'⟩, Nat.lt_of_le_of_lt (hμ ⟨S', hI, hi'⟩).2 hm⟩
 | _ => exact ⟨S', hq, hi'⟩
theorem Ex.region (ok : EnvOk P Γ) {id : Nat} {ops : Array Oper} (h : opsW (VX P) Γ ops (List.range ops.size) S (Q .normal)) : Ex P Γ E (.region id ops false) Q S :=
 fun _ _ hi => wp_region (zDj ok _ h hi fun S' _ _ h1 h2 => ⟨S', h1, h2⟩)
end
end Go.Own
