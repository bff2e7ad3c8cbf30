/- A layer over the walk: what lies in memory as plain data, each operation by what it does to data; part 34. -/
import Derived.Test.YtajcjfickmmjcaaOwZ
set_option linter.unusedVariables false
set_option linter.unusedSimpArgs false
namespace Go.Own
noncomputable section
open Go

/-- one operation of a region, under its guard -/
@[simp] def opG (Γ : Env) (ops : Array Oper) (o : Oper) : A :=
  match o.guard with
  | none => opA Γ o
  | some (j, want) => match (ops[j]?).bind (·.dst) with
    | none => .fail
    | some s => .ask s fun c => match c.av with
      | .val .bool d => if d.b = want then opA Γ o else out Γ o.dst (.tup .unit .unit)
      | .tup .unit _ => out Γ o.dst (.tup .unit .unit)
      | _ => .fail

/-- operations, one behind the other -/
def opsW (X : Ctr) (Γ : Env) (ops : Array Oper) : List Nat → St → (St → Prop) → Prop
  | [], S, K => K S
  | i :: is, S, K => match ops[i]? with
    | none => False
    | some o => (opG Γ ops o).wp X S fun ws => opsW X Γ ops is (S.apply ws) K

variable {P : Program} {Γ : Env} {E : Entry} {S : St} {act : Act} {w : World} {Kt : Wr → Prop} {next : Act → World → Prop} {Q : Exit → Act → World → Prop}

theorem yielded_eq (ops : Array Oper) {j s : Nat} (h : (ops[j]?).bind (·.dst) = some s) : yielded ops act.tmps j = match tmOf act s with | .bool b => some b | _ => none := by
  unfold yielded tmOf
  rw [h]
  simp only [Option.bind_some, Array.getD_eq_getD_getElem?]
  cases h : act.tmps[s]? with
  | none => rfl
  | some v => cases v <;> rfl

theorem hole_sound {dst : Option Nat} (h : (out Γ dst (.tup .unit .unit)).wp (VX P) S Kt) (hi : Inv Γ E S act w) (hn : Next' Γ E S Kt next) : next (act.put dst undef) w := by
  obtain ⟨hf, κ, V, hc, hb⟩ := hi
  refine out_own (k := .leaf) h hf hc hb (fun d _ => ⟨[], ⟨rfl, by simp, rfl⟩, #[], rfl, fun j hj => ?_⟩) (by simp [K.blocks]) (by simp [K.blocks]) (by simp [K.blocks]) (by simp [K.blocks]) (by simp [K.blocks]) hn
  simp at hj

theorem opG_sound (ok : EnvOk P Γ) {ops : Array Oper} {i : Nat} {o : Oper} (ho : ops[i]? = some o) (h : (opG Γ ops o).wp (VX P) S Kt) (hi : Inv Γ E S act w) (hn : Next' Γ E S Kt next) : wpOp P ops Q i next act w := by
  unfold wpOp
  simp only [ho]
  unfold opG at h
  split at h
  · rename_i hg
    rw [if_pos (by simp [Region.wanted, hg])]
    exact .inl (op_sound ok h hi hn)
  · rename_i j want hg
    split at h
    · exact h.elim
    · rename_i s hs
      have hw : Region.wanted o (yielded ops act.tmps) = ((match tmOf act s with | .bool b => some b | _ => none) == some want) := by
        simp only [Region.wanted, hg]
        rw [yielded_eq ops hs]
      obtain ⟨hf, κ, V, hc, hb⟩ := id hi
      have hcv := hc.cv s
      simp only [A.wp] at h
      generalize hS : S s = c at h hcv
      obtain ⟨a, v⟩ := c
      simp only at h
      split at h
      · rename_i d
        obtain ⟨cs, ⟨b, rfl, _, rfl⟩, e⟩ := hcv
        have e' : tmOf act s = .bool b := e
        rw [hw, e']
        split at h
        · rename_i hd
          simp only [D.b_bool] at hd
          rw [if_pos (by simp [hd])]
          exact .inl (op_sound ok h hi hn)
        · rename_i hd
          simp only [D.b_bool] at hd
          rw [if_neg (by simp [hd])]
          exact hole_sound h hi hn
      · obtain ⟨cs, _, vs, e, _⟩ := hcv
        have e' : tmOf act s = .tuple vs := e
        rw [hw, e', if_neg (by simp)]
        exact hole_sound h hi hn
      · exact h.elim

theorem opsW_sound (ok : EnvOk P Γ) {ops : Array Oper} {K : St → Prop} : ∀ (l : List Nat) {S act w}, opsW (VX P) Γ ops l S K → Inv Γ E S act w → (∀ S act w, K S → Inv Γ E S act w → Q .normal act w) → wpOps P ops Q l act w
  | [], _, _, _, h, hi, hn => hn _ _ _ h hi
  | i :: is, S, act, w, h, hi, hn => by
    rw [wpOps_cons]
    simp only [opsW] at h
    split at h
    · exact h.elim
    · rename_i o ho
      exact opG_sound ok ho h hi fun ws act' w' h1 h2 => opsW_sound ok is h1 h2 hn

theorem A.wp_mono {X : Ctr} {a : A} {S : St} {K K' : Wr → Prop} (hk : ∀ ws, K ws → K' ws) (h : a.wp X S K) : a.wp X S K' := by
  induction a with
  | ret _ => exact hk _ h
  | ask s k ih => exact ih _ h
  | need p k ih => exact ⟨h.1, ih h.2⟩
  | call g as dom nv k =>
    obtain ⟨Post, h1, h2, h3⟩ := h
    exact ⟨Post, h1, h2, fun r o hp => ⟨(h3 r o hp).1, (h3 r o hp).2.1, hk _ (h3 r o hp).2.2⟩⟩
  | two p k ih => exact ⟨fun hp => ih true (h.1 hp), ih false h.2⟩
  | fail => exact h.elim

theorem opsW_mono {X : Ctr} {ops : Array Oper} {K K' : St → Prop} (hk : ∀ S, K S → K' S) : ∀ (l : List Nat) {S}, opsW X Γ ops l S K → opsW X Γ ops l S K'
  | [], _, h => hk _ h
  | i :: is, S, h => by
    simp only [opsW] at h ⊢
    split at h
    · exact h.elim
    · exact A.wp_mono (fun ws => opsW_mono hk is) h

end
end Go.Own
