/- A layer over the walk: what lies in memory as plain data, each operation by what it does to data; part 38. -/
import Derived.Test.YtajcjfickmmjcaaOwZ4
import Derived.Laws.Sem
set_option linter.unusedVariables false
set_option linter.unusedSimpArgs false
namespace Go.Own
noncomputable section
open Go

/-- one result is read -/
@[simp] def takeR (Γ : Env) (ws : Wr) (r : ResultVar) (want : TypeId) (k : T → D → Wr → A) : A :=
  match r with
  | .tmp s => takeW ws (Γ.ty want) (.tmp s) k
  | .cell a t => askW ws a fun c => match c.av with
    | .box tr dr => .need (tr.view = (Γ.ty t).view ∧ (Γ.ty t).ok = true) (k tr dr [(a, ⟨.undef, c.v.kill⟩)])
    | _ => .fail

@[simp] def resT (Γ : Env) : List ResultVar → List TypeId → Wr → (T → D → Wr → A) → A
  | r :: rs, t :: ts, ws, k => takeR Γ ws r t fun t d ws' => resT Γ rs ts (ws ++ ws') fun t' d' ws'' => k (.pair t t') (.pair d d') ws''
  | [], _, ws, k => k .unit .unit ws
  | _ :: _, [], _, _ => .fail

def readR (P : Program) (tmps : Array Value) : ResultVar → Sem Value
  | .tmp t => pure (tmps.getD t undef)
  | .cell a t => do loadVar t (← asAddr (tmps.getD a undef))

variable {P : Program} {Γ : Env} {E : Entry} {S : St} {act : Act} {w : World} {X : Ctr} {Kt : Wr → Prop}

theorem takeR_sound (ok : EnvOk P Γ) {ws0 : Wr} {r : ResultVar} {want : TypeId} {k : T → D → Wr → A} (h : (takeR Γ ws0 r want k).wp X S Kt) {κ V} (hc : Conc w.heap (tmOf act) V (S.apply ws0) κ) :
    ∃ ty d ws κ' kx v, (k ty d ws).wp X S Kt ∧ Taken w (tmOf act) V (S.apply ws0) κ ws ty d v κ' kx ∧ (readR P act.tmps r).run P w = .ok v w := by
  cases r with
  | tmp s =>
    simp only [takeR] at h
    obtain ⟨ty, d, ws, κ', kx, h1, h2⟩ := takeW_sound h hc
    exact ⟨ty, d, ws, κ', kx, _, h1, h2, rfl⟩
  | cell a t =>
    replace h := askW_sound h
    have hcv := hc.cv a
    have hnd := hc.nd a
    generalize hS : (S.apply ws0) a = c at h hcv
    obtain ⟨av, ver⟩ := c
    cases av with
    | box tr dr =>
      simp only [A.wp] at h
      obtain ⟨⟨hv, ht⟩, h⟩ := h
      obtain ⟨b, κ0, arr, ty', hk, e, hh, hr⟩ := hcv
      have hcc := hc.set a (a := .undef) (k := .leaf) (v := tmOf act a) (by simp [CV]) (by simp [K.blocks]) (by simp [K.blocks]) (by simp [K.blocks]) (by simp [K.blocks])
      rw [updV_self] at hcc
      rw [hk] at hnd
      have hnd' := K.nodup_lst.1 hnd
      have hsub : ∀ b', b' ∈ κ0.blocks → b' ∈ (κ a).blocks := fun b' hb' => by rw [hk]; exact K.mem_nth (n := 0) (ks := fun _ => κ0) (by omega) hb'
      refine ⟨tr, dr, _, _, κ0, toVal tr arr.toList, h, ⟨by simpa [St.apply, hS] using hcc, ⟨_, hr, rfl⟩, hnd'.2.1 0 (by omega), ?_, fun b' hb' => hc.dv a b' (hsub b' hb'), ?_, fun b' hb' => ⟨a, hsub b' hb'⟩, ?_⟩, ?_⟩
      · intro s b' hb'
        by_cases hs : s = a
        · subst hs; simp [K.blocks]
        · rw [updK_other _ _ hs]; exact hc.dj a s (Ne.symm hs) b' (hsub b' hb')
      · intro s b' hb'
        by_cases hs : s = a
        · subst hs; simp [K.blocks] at hb'
        · rwa [updK_other _ _ hs] at hb'
      · intro s hs
        simp at hs
        exact updK_other _ _ hs
      · have e' : act.tmps.getD a undef = .pointer (some ⟨b, 0, none⟩) := e
        simp only [readR, e', asAddr, Sem.run_bind, Sem.run_pure, Result.andThen_ok]
        refine run_loadVar ok ht hr ?_ hv
        intro j v hj
        have hadd : (⟨b, 0, none⟩ : Addr).add j = ⟨b, 0 + j, none⟩ := by unfold Addr.add; split <;> simp_all
        rw [hadd]
        simp only [World.cell?, hh, Nat.zero_add]
        simpa using hj
    | _ => exact h.elim

structure Ress (w : World) (tm : Nat → Value) (V : Nat → Prop) (S : St) (κ : Nat → K) (t : T) (d : D) (vs : List Value) (κ' : Nat → K) (k : K) : Prop where
  conc : Conc w.heap tm V S κ'
  rep : ∃ cs, Rep w.heap V t d k cs ∧ ∀ j, t.has j = true → vs[j]? = some (toVal (t.fld j) ((cs.drop (t.off j)).take (t.fld j).size))
  nd : k.blocks.Nodup
  dj : ∀ s b, b ∈ k.blocks → b ∉ (κ' s).blocks
  dv : ∀ b, b ∈ k.blocks → ¬ V b
  sub : ∀ s b, b ∈ (κ' s).blocks → b ∈ (κ s).blocks
  src : ∀ b, b ∈ k.blocks → ∃ s, b ∈ (κ s).blocks

/-- a row of results -/
@[simp] def T.tup : T → Nat → Prop
  | .unit, 0 => True
  | .pair _ b, n + 1 => b.tup n
  | _, _ => False

theorem resT_sound (ok : EnvOk P Γ) : ∀ (rs : List ResultVar) (ts : List TypeId) {ws0 : Wr} {k : T → D → Wr → A} {κ V}, (resT Γ rs ts ws0 k).wp X S Kt → Conc w.heap (tmOf act) V (S.apply ws0) κ →
    ∃ t d ws κ' kx vs, (k t d ws).wp X S Kt ∧ Ress w (tmOf act) V (S.apply ws) κ t d vs κ' kx ∧ (rs.mapM (readR P act.tmps)).run P w = .ok vs w ∧ vs.length = rs.length ∧ t.tup rs.length
  | [], ts, ws0, k, κ, V, h, hc => by
    simp only [resT] at h
    exact ⟨_, _, _, κ, .leaf, [], h, ⟨hc, ⟨[], ⟨rfl, by simp, rfl⟩, fun j hj => by simp at hj⟩, by simp [K.blocks], by simp [K.blocks], by simp [K.blocks], fun _ _ h => h, by simp [K.blocks]⟩, by simp, rfl, trivial⟩
  | _ :: _, [], _, _, _, _, h, _ => h.elim
  | r :: rs, ty :: ts, ws0, k, κ, V, h, hc => by
    simp only [resT] at h
    obtain ⟨t, d, ws, κ', kx, v, h1, ht, hv⟩ := takeR_sound ok h hc
    have hc1 := ht.conc
    rw [← St.apply_append] at hc1
    obtain ⟨t', d', ws', κ2, ky, vs, h2, hr, hvs, hlen, htup⟩ := resT_sound ok rs ts h1 hc1
    obtain ⟨c1, hr1, e1⟩ := ht.rep
    obtain ⟨c2, hr2, e2⟩ := hr.rep
    have hl := hr1.length
    refine ⟨_, _, _, κ2, .pair kx ky, v :: vs, h2, ⟨hr.conc, ⟨c1 ++ c2, ⟨_, _, _, _, c1, c2, rfl, rfl, rfl, hr1, hr2⟩, ?_⟩, ?_, ?_, ?_, fun s b hb => ht.sub s b (hr.sub s b hb), ?_⟩, ?_, by simp [hlen], by simpa using htup⟩
    · intro j hj
      cases j with
      | zero => simp [e1, ← hl]
      | succ j =>
        simp only [T.has, T.fld, T.off, List.getElem?_cons_succ] at hj ⊢
        rw [e2 j hj, ← hl, List.drop_append, List.drop_eq_nil_of_le (show c1.length ≤ c1.length + t'.off j by omega), List.nil_append, show c1.length + t'.off j - c1.length = t'.off j by omega]
    · simp only [K.blocks, List.nodup_append]
      refine ⟨ht.nd, hr.nd, fun a ha b hb hab => ?_⟩
      subst hab
      obtain ⟨s, hs⟩ := hr.src a hb
      exact ht.dj s a ha hs
    · intro s b hb hm
      simp only [K.blocks, List.mem_append] at hb
      exact hb.elim (fun h => ht.dj s b h (hr.sub s b hm)) (fun h => hr.dj s b h hm)
    · intro b hb
      simp only [K.blocks, List.mem_append] at hb
      exact hb.elim (ht.dv b) (hr.dv b)
    · intro b hb
      simp only [K.blocks, List.mem_append] at hb
      refine hb.elim (ht.src b) fun h => ?_
      obtain ⟨s, hs⟩ := hr.src b h
      exact ⟨s, ht.sub s b hs⟩
    · simp [List.mapM_cons, hv, hvs]

end
end Go.Own
