/- A layer over the walk: what lies in memory as plain data, each operation by what it does to data; part 21. -/
import Derived.Test.YtajcjfickmmjcaaOwP
set_option linter.unusedVariables false
set_option linter.unusedSimpArgs false
namespace Go.Own
open Go

variable {P : Program} {Γ : Env} {E : Entry} {S : St} {act : Act} {w : World} {X : Ctr} {Kt : Wr → Prop} {next : Act → World → Prop}

theorem evalTmp (t : Nat) : act.eval (.tmp t) = tmOf act t := rfl

/-- a slot is written, for whoever goes on with what it writes -/
theorem out_own {dst : Option Nat} {a : AV} {v : Value} (h : (out Γ dst a).wp X S Kt) (hf : Fr Γ E act w) {κ V} (hc : Conc w.heap (tmOf act) V S κ) (hb : Bnd E V κ) {k : K}
    (hcv : ∀ d, dst = some d → CV w.heap V (S.put d ⟨a, (S d).v.kill⟩) (updK κ d k) d v a) (hnd : k.blocks.Nodup) (hdj : ∀ s b, b ∈ k.blocks → b ∉ (κ s).blocks) (hdv : ∀ b, b ∈ k.blocks → ¬ V b)
    (hbl : ∀ b, b ∈ k.blocks → b < w.heap.size) (hk : ∀ b, b ∈ k.blocks → b ∈ E.t ∨ E.w.heap.size ≤ b) (hn : Next' Γ E S Kt next) : next (act.put dst v) w := by
  unfold out at h
  cases dst with
  | none => exact hn [] _ _ h ⟨hf, κ, V, hc, hb⟩
  | some d =>
    simp only [A.wp] at h
    exact hn _ _ _ h.2 (Inv.set hf hc hb h.1.1 h.1.2.1 (hcv d rfl) hnd (fun s _ => hdj s) hdv hbl hk)

theorem nilTo_sound {dst : Option Nat} {ty : TypeId} {v : Value} (h : (nilTo Γ dst ty).wp X S Kt) (hf : Fr Γ E act w) {κ V} (hc : Conc w.heap (tmOf act) V S κ) (hb : Bnd E V κ) (hv : v = .slice none 0 0) (hn : Next' Γ E S Kt next) :
    next (act.put dst v) w := by
  unfold nilTo at h
  split at h
  · exact out_own h hf hc hb (k := .leaf) (fun d _ => ⟨_, ⟨[], rfl, .inl ⟨rfl, by simp, none, rfl, fun _ => rfl⟩⟩, hv⟩) (by simp [K.blocks]) (by simp [K.blocks]) (by simp [K.blocks]) (by simp [K.blocks]) (by simp [K.blocks]) hn
  · exact h.elim

theorem move_sound {dst : Option Nat} {x : Operand} (h : (opMove Γ dst x).wp X S Kt) (hi : Inv Γ E S act w) (hn : Next' Γ E S Kt next) : next (act.put dst (act.eval x)) w := by
  obtain ⟨hf, κ, V, hc, hb⟩ := hi
  unfold opMove at h
  split at h
  · rename_i t
    simp only [A.wp] at h
    have hcopy := hc.copy t
    have hcv := hc.cv t
    generalize hS : S t = c at h hcopy hcv
    obtain ⟨a, ver⟩ := c
    cases a with
    | tup u d =>
      cases dst with
      | none => exact h.elim
      | some s =>
        simp only [A.wp] at h
        obtain ⟨⟨hs, hfx, hne⟩, h⟩ := h
        have hcc := hc.set t (a := .undef) (k := .leaf) (v := tmOf act t) (by simp [CV]) (by simp [K.blocks]) (by simp [K.blocks]) (by simp [K.blocks]) (by simp [K.blocks])
        rw [updV_self] at hcc
        have hb' : Bnd E V (updK κ t .leaf) := ⟨hb.v0, hb.v1, fun s' b hm => by
          by_cases hst : s' = t
          · subst hst; simp [K.blocks] at hm
          · rw [updK_other _ _ hst] at hm; exact hb.k s' b hm⟩
        have hcv' : CV w.heap V ((S.put t ⟨.undef, (S t).v.kill⟩).put s ⟨.tup u d, ((S.put t ⟨.undef, (S t).v.kill⟩) s).v.kill⟩) (updK (updK κ t .leaf) s (κ t)) s (tmOf act t) (.tup u d) := by
          obtain ⟨cs, hr, vs, e1, e2⟩ := hcv
          exact ⟨cs, by simpa using hr, vs, e1, e2⟩
        have hset := Inv.set (d := s) (a := .tup u d) (k := κ t) (v := tmOf act t) hf hcc hb' hs hfx hcv' (hc.nd t)
          (by
            intro s' hs' b hm
            by_cases hst : s' = t
            · subst hst; simp [K.blocks]
            · rw [updK_other _ _ hst]; exact hc.dj t s' (Ne.symm hst) b hm)
          (hc.dv t) (hc.bl t) (hb.k t)
        refine hn _ _ _ h ?_
        rw [St.put_other _ _ (Ne.symm hne), hS] at hset
        rw [evalTmp]; simpa [St.apply] using hset
    | _ => exact out_sound h hf hc hb hcopy hn
  · obtain ⟨a, hk, ho⟩ := opd_sound h hc
    exact out_sound hk hf hc hb ho hn

theorem assign_sound {dst : Option Nat} {ty : TypeId} {x : Operand} (h : (opAssign Γ dst ty x).wp X S Kt) (hi : Inv Γ E S act w) (hn : Next' Γ E S Kt next) : next (act.put dst (act.eval x)) w := by
  obtain ⟨hf, κ, V, hc, hb⟩ := hi
  cases dst with
  | none => exact h.elim
  | some s =>
    unfold opAssign at h
    simp only at h
    split at h
    · rename_i t
      simp only [A.wp] at h
      have hcopy := hc.copy t
      have hcv := hc.cv t
      generalize hS : S t = c at h hcopy hcv
      obtain ⟨a, ver⟩ := c
      cases a with
      | val u d =>
        simp only [A.wp] at h
        obtain ⟨⟨hs, hfx⟩, h⟩ := h
        by_cases hp : u.plain = true
        · rw [if_pos hp] at h
          have ho : OV w.heap V S κ (act.eval (.tmp t)) (.val u d) := by rw [evalTmp]; simpa [copyOf, hp] using hcopy
          exact hn _ _ _ h (Inv.plain hf hc hb hs hfx ho trivial)
        · rw [if_neg hp] at h
          simp only [A.wp] at h
          obtain ⟨hne, h⟩ := h
          obtain ⟨cs, hr, e⟩ := hcv
          have hcc := hc.set t (a := .undef) (k := .leaf) (v := tmOf act t) (by simp [CV]) (by simp [K.blocks]) (by simp [K.blocks]) (by simp [K.blocks]) (by simp [K.blocks])
          rw [updV_self] at hcc
          have hb' : Bnd E V (updK κ t .leaf) := ⟨hb.v0, hb.v1, fun s' b hm => by
            by_cases hst : s' = t
            · subst hst; simp [K.blocks] at hm
            · rw [updK_other _ _ hst] at hm; exact hb.k s' b hm⟩
          have hset := Inv.set (d := s) (a := .val u d) (k := κ t) (v := tmOf act t) hf hcc hb' hs hfx ⟨cs, by simpa using hr, e⟩ (hc.nd t)
            (by
              intro s' hs' b hm
              by_cases hst : s' = t
              · subst hst; simp [K.blocks]
              · rw [updK_other _ _ hst]; exact hc.dj t s' (Ne.symm hst) b hm)
            (hc.dv t) (hc.bl t) (hb.k t)
          refine hn _ _ _ h ?_
          rw [St.put_other _ _ (Ne.symm hne), hS] at hset
          rw [evalTmp]; simpa [St.apply] using hset
      | nil =>
        exact nilTo_sound h hf hc hb hcopy hn
      | undef => exact out_sound h hf hc hb hcopy hn
      | tup _ _ => exact out_sound h hf hc hb hcopy hn
      | box _ _ => exact out_sound h hf hc hb hcopy hn
      | ref _ _ _ _ _ => exact out_sound h hf hc hb hcopy hn
      | win _ _ _ _ _ _ => exact out_sound h hf hc hb hcopy hn
      | ptr _ _ _ => exact out_sound h hf hc hb hcopy hn
      | clo _ _ => exact out_sound h hf hc hb hcopy hn
    · obtain ⟨a, hk, ho⟩ := opd_sound h hc
      cases a with
      | nil => exact nilTo_sound hk hf hc hb ho hn
      | _ => exact out_sound hk hf hc hb ho hn

end Go.Own
