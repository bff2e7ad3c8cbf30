/- A layer over the walk: what lies in memory as plain data, each operation by what it does to data; part 16. -/
import Derived.Test.YtajcjfickmmjcaaOwK
set_option linter.unusedVariables false
set_option linter.unusedSimpArgs false
namespace Go.Own
open Go

variable {P : Program} {Γ : Env} {E : Entry} {S : St} {act : Act} {w : World} {X : Ctr} {Kt : Wr → Prop}

theorem St.apply_other : ∀ (ws : Wr) (S : St) {r : Nat}, r ∉ ws.map (·.1) → (S.apply ws) r = S r := by
  intro ws
  induction ws with
  | nil => intro S r _; rfl
  | cons x ws ih =>
    intro S r h
    obtain ⟨s, c⟩ := x
    simp at h
    rw [St.apply, ih _ (by simpa using h.2), St.put_other _ _ h.1]

theorem St.apply_append : ∀ (ws ws' : Wr) (S : St), S.apply (ws ++ ws') = (S.apply ws).apply ws' := by
  intro ws
  induction ws with
  | nil => intros; rfl
  | cons x ws ih => intro ws' S; exact ih ws' _

theorem look_apply : ∀ (ws : Wr) (S : St) (s : Nat), (S.apply ws) s = (match look ws s with | some c => c | none => S s) := by
  intro ws
  induction ws with
  | nil => intros; rfl
  | cons x ws ih =>
    intro S s
    obtain ⟨r, c⟩ := x
    rw [St.apply, ih]
    simp only [look]
    cases h : look ws s with
    | some c' => rfl
    | none =>
      simp only
      by_cases hr : r = s
      · subst hr; simp
      · simp [hr, St.put_other S c (Ne.symm hr)]

theorem askW_sound {ws : Wr} {s : Nat} {k : Cl → A} (h : (askW ws s k).wp X S Kt) : (k ((S.apply ws) s)).wp X S Kt := by
  rw [look_apply]
  unfold askW at h
  split at h
  · rename_i c hc; rw [hc]; exact h
  · rename_i hc; rw [hc]; exact h

theorem Conc.addr_box {h : Heap} {tm V S κ} (hc : Conc h tm V S κ) {r : Nat} {t d bx} (hr : (S r).root = some (t, d, bx)) (hbx : bx = true) : ∃ b κ0, κ r = .lst b 0 1 1 (fun _ => κ0) := by
  obtain ⟨cs, _, _, _, _, _, ⟨h, _⟩ | ⟨_, _, b, κ0, _, _, hk, _⟩⟩ := hc.root hr
  · subst hbx; cases h
  · exact ⟨b, κ0, hk⟩

theorem T.moved_agg : ∀ (p : Path) {t : T}, t.flat p = true → (t.set p (t.at p).moved).agg = t.agg := by
  intro p t hf
  cases p with
  | nil =>
    cases t with
    | lst o e => cases o <;> rfl
    | _ => rfl
  | cons s p =>
    cases s with
    | i n => simp at hf
    | f j => cases t <;> simp at hf ⊢; cases j <;> rfl

/-- a taken value -/
structure Taken (w : World) (tm : Nat → Value) (V : Nat → Prop) (S : St) (κ : Nat → K) (ws : Wr) (ty : T) (d : D) (v : Value) (κ' : Nat → K) (k : K) : Prop where
  conc : Conc w.heap tm V (S.apply ws) κ'
  rep : ∃ cs, Rep w.heap V ty d k cs ∧ v = toVal ty cs
  nd : k.blocks.Nodup
  dj : ∀ s b, b ∈ k.blocks → b ∉ (κ' s).blocks
  dv : ∀ b, b ∈ k.blocks → ¬ V b
  sub : ∀ s b, b ∈ (κ' s).blocks → b ∈ (κ s).blocks
  src : ∀ b, b ∈ k.blocks → ∃ s, b ∈ (κ s).blocks
  oth : ∀ s, s ∉ ws.map (·.1) → κ' s = κ s

/-- an operand that is no slot -/
theorem opd_const {x : Operand} {k : AV → A} (h : (opd x k).wp X S Kt) (hx : ∀ t, x ≠ .tmp t) {h0 : Heap} {V : Nat → Prop} {S' : St} {κ : Nat → K} :
    ∃ a, (k a).wp X S Kt ∧ OV h0 V S' κ (act.eval x) a := by
  unfold opd at h
  split at h
  · exact absurd rfl (hx _)
  · rename_i kd n
    exact ⟨_, h.2, rfl, _, ⟨n, rfl, rfl, rfl, h.1⟩, rfl⟩
  · rename_i b
    exact ⟨_, h, rfl, _, ⟨b, rfl, rfl, rfl⟩, rfl⟩
  · rename_i s
    exact ⟨_, h.2, rfl, _, ⟨s.data.toList, rfl, rfl, rfl, by have := h.1; rwa [ByteArray.size, ← Array.length_toList] at this⟩, by simp [toVal, Act.eval]⟩
  · exact ⟨_, h, rfl⟩
  · rename_i f
    exact ⟨_, h, #[], rfl, rfl, fun i c hi => by simp at hi⟩
  · exact h.elim

theorem takeW_sound {ws0 : Wr} {want : T} {x : Operand} {k : T → D → Wr → A} (h : (takeW ws0 want x k).wp X S Kt) {κ V} (hc : Conc w.heap (tmOf act) V (S.apply ws0) κ) :
    ∃ ty d ws κ' kx, (k ty d ws).wp X S Kt ∧ Taken w (tmOf act) V (S.apply ws0) κ ws ty d (act.eval x) κ' kx := by
  have plain : ∀ {ty d}, OV w.heap V (S.apply ws0) κ (act.eval x) (.val ty d) → Taken w (tmOf act) V (S.apply ws0) κ [] ty d (act.eval x) κ ty.k0 := by
    intro ty d ⟨hp, cs, hr, e⟩
    exact ⟨hc, ⟨cs, hr, e⟩, by simp, by simp, by simp, fun _ _ h => h, by simp, fun _ _ => rfl⟩
  have nil : ∀ {e}, OV w.heap V (S.apply ws0) κ (act.eval x) .nil → Taken w (tmOf act) V (S.apply ws0) κ [] (.lst true e) (.lst []) (act.eval x) κ .leaf := by
    intro e he
    exact ⟨hc, ⟨[.slice none 0 0], ⟨[], rfl, .inl ⟨rfl, rfl, none, rfl, fun _ => rfl⟩⟩, he⟩, by simp [K.blocks], by simp [K.blocks], by simp [K.blocks], fun _ _ h => h, by simp [K.blocks], fun _ _ => rfl⟩
  unfold takeW at h
  split at h
  · rename_i t
    replace h := askW_sound h
    have hcopy := hc.copy t
    have hcv := hc.cv t
    generalize hS : (S.apply ws0) t = c at h hcopy hcv
    obtain ⟨a, ver⟩ := c
    cases a with
    | val ty d =>
      simp only at h
      by_cases hp : ty.plain = true
      · rw [if_pos hp] at h
        simp only [copyOf, hp, if_true] at hcopy
        exact ⟨_, _, _, _, _, h, plain hcopy⟩
      · rw [if_neg hp] at h
        obtain ⟨cs, hr, e⟩ := hcv
        have hcc := hc.set t (a := .undef) (k := .leaf) (v := tmOf act t) (by simp [CV]) (by simp [K.blocks]) (by simp [K.blocks]) (by simp [K.blocks]) (by simp [K.blocks])
        rw [updV_self] at hcc
        refine ⟨_, _, _, _, κ t, h, ⟨by simpa [St.apply, hS] using hcc, ⟨cs, hr, e⟩, hc.nd t, ?_, hc.dv t, ?_, fun b hb => ⟨t, hb⟩, ?_⟩⟩
        · intro s b hb
          by_cases hs : s = t
          · subst hs; simp [K.blocks]
          · rw [updK_other _ _ hs]; exact hc.dj t s (Ne.symm hs) b hb
        · intro s b hb
          by_cases hs : s = t
          · subst hs; simp [K.blocks] at hb
          · rwa [updK_other _ _ hs] at hb
        · intro s hs
          simp at hs
          exact updK_other _ _ hs
    | ref r v p ty d =>
      simp only at h
      replace h := askW_sound h
      split at h
      case h_2 => exact h.elim
      rename_i tr dr bx hroot
      simp only [A.wp] at h
      obtain ⟨⟨hl, hf, hat⟩, h⟩ := h
      have hd := flat_depth p hf
      obtain ⟨_, hx⟩ : RefC w.heap V (S.apply ws0) κ r v p ty d (tmOf act t) := hcopy
      obtain ⟨cs, href, e⟩ := hx tr dr bx hroot (by rw [hd]; exact hl) hat (flat_ok p hf)
      obtain ⟨cr, hrep, hm, hnd, hab, hbin, hcase⟩ := hc.root hroot
      obtain ⟨c1, c0, c2, hcs, hlen, hrep0, hin0, hnd0, hre⟩ := Rep.flat p hrep hf
      subst hat
      have hmix := RefRep.mix href hrep0
      have hmv := hrep0.moved
      obtain ⟨hR, hN, hM⟩ := hre (h' := w.heap) (V' := V) hmv hnd (fun _ _ _ => rfl) (fun _ _ => rfl) (fun _ h => h)
      rw [hrep.set_get p hf, ← hcs] at hR
      have hN' := hN (by simp) (by simp)
      have hkeep : Keeps w.heap V (S.apply ws0) ((S.apply ws0).put r (((S.apply ws0) r).setRoot (tr.set p (tr.at p).moved) dr ((S.apply ws0) r).v.head)) κ (updK κ r (rebase bx (κ r) ((base bx (κ r)).set p (tr.at p).k0))) r :=
        Keeps.head (Cl.setRoot_root hroot).2 hroot (Cl.setRoot_root hroot).1 (T.set_shape p hf (T.moved_shape _)) (addr_rebase _ _ _)
      have hsub : ∀ b, b ∈ ((base bx (κ r)).set p (tr.at p).k0).blocks → b ∈ (base bx (κ r)).blocks ∧ b ∉ ((base bx (κ r)).get p).blocks := by
        intro b hb
        rcases hM b hb with h | h
        · simp at h
        · exact h
      have hcc := hc.reroot hroot (t' := tr.set p (tr.at p).moved) (d' := dr) (v := ((S.apply ws0) r).v.head) (k0 := (base bx (κ r)).set p (tr.at p).k0) (h' := w.heap) hkeep
        (by
          intro hbx cs' hr' htm
          rcases hcase with ⟨_, _, htm', _⟩ | ⟨hb2, _⟩
          · refine ⟨cr, hR, ?_⟩
            rw [htm']
            unfold toVal
            have := T.moved_agg p hf
            rw [this]
          · rw [hbx] at hb2; cases hb2)
        (by
          intro hbx b κ0 arr ty hk hh
          rcases hcase with ⟨hb2, _⟩ | ⟨_, _, b', κ0', arr', ty', hk', _, hh', hcr⟩
          · rw [hbx] at hb2; cases hb2
          · rw [hk'] at hk; simp only [K.lst.injEq] at hk; obtain ⟨rfl, _⟩ := hk
            rw [hh'] at hh; cases hh
            exact ⟨arr, ty, hh', by rw [← hcr]; exact hR⟩)
        hN' (fun b hb => .inl (hsub b hb).1) (fun _ _ _ _ => rfl) (fun _ _ => rfl) (Nat.le_refl _)
      have hbase : ∀ b, b ∈ (rebase bx (κ r) ((base bx (κ r)).set p (tr.at p).k0)).blocks → b ∈ (κ r).blocks ∧ b ∉ ((base bx (κ r)).get p).blocks := by
        intro b hb
        rcases hcase with ⟨rfl, _⟩ | ⟨rfl, _, b', κ0', arr', ty', hk', _, hh', hcr⟩
        · simp only [rebase] at hb
          exact ⟨hbin b (hsub b hb).1, (hsub b hb).2⟩
        · simp only [rebase, hk', if_true, K.blocks, List.mem_cons, List.mem_flatMap, List.mem_range] at hb
          rcases hb with rfl | ⟨_, _, hb⟩
          · refine ⟨by rw [hk']; simp [K.blocks], fun hm' => ?_⟩
            have := (hab b 0 (by simp [addr, hk'])).1
            exact this (hin0 b hm')
          · have hb2 : b ∈ ((base true (κ r)).set p (tr.at p).k0).blocks := by simpa [hk'] using hb
            exact ⟨hbin b (hsub b hb2).1, (hsub b hb2).2⟩
      refine ⟨_, _, _, _, (base bx (κ r)).get p, h, ⟨by simpa [St.apply] using hcc, ⟨cs, hmix, e⟩, hnd0 hnd, ?_, fun b hb => hc.dv r b (hbin b (hin0 b hb)), ?_, fun b hb => ⟨r, hbin b (hin0 b hb)⟩, ?_⟩⟩
      · intro s b hb
        by_cases hs : s = r
        · subst hs; rw [updK_same]; intro hb'; exact (hbase b hb').2 hb
        · rw [updK_other _ _ hs]; exact hc.dj r s (Ne.symm hs) b (hbin b (hin0 b hb))
      · intro s b hb
        by_cases hs : s = r
        · subst hs; rw [updK_same] at hb; exact (hbase b hb).1
        · rwa [updK_other _ _ hs] at hb
      · intro s hs
        simp at hs
        exact updK_other _ _ hs
    | nil =>
      simp only at h
      cases want with
      | lst o e => exact ⟨_, _, _, _, _, h, nil hcopy⟩
      | _ => exact h.elim
    | _ => exact h.elim
  · obtain ⟨a, hk, ho⟩ := opd_const h (by rintro t rfl; simp_all)
    cases a with
    | val ty d => exact ⟨_, _, _, _, _, hk, plain ho⟩
    | nil =>
      cases want with
      | lst o e => exact ⟨_, _, _, _, _, hk, nil ho⟩
      | _ => exact hk.elim
    | _ => exact hk.elim

theorem take_sound {want : T} {x : Operand} {k : T → D → Wr → A} (h : (take want x k).wp X S Kt) {κ V} (hc : Conc w.heap (tmOf act) V S κ) :
    ∃ ty d ws κ' kx, (k ty d ws).wp X S Kt ∧ Taken w (tmOf act) V S κ ws ty d (act.eval x) κ' kx := takeW_sound (ws0 := []) h hc

end Go.Own
