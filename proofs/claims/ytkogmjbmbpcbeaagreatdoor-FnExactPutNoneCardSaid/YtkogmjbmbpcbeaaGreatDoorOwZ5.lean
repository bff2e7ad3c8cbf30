/- A layer over the walk: what lies in memory as plain data, each operation by what it does to data; part 18. -/
import Derived.Test.YtkogmjbmbpcbeaaGreatDoorOwZ3
import Derived.Laws.Sem
set_option linter.unusedSectionVars false
set_option linter.unusedVariables false
set_option linter.unusedSimpArgs false
namespace Go.Own
variable [Glb]
noncomputable section
open Go
@[simp] def zKH (Γ : Env) (ws : Wr) (r : ResultVar) (want : TypeId) (k : T → D → Wr → A) : A :=
 match r with
 | .tmp s => takeW ws (Γ.ty want) (.tmp s) k
 | .cell a t => askW ws a fun c => match c.av with
   | .box tr dr => .need (tr.view = (Γ.ty t).view ∧ (Γ.ty t).ok = true) (k tr dr [(a, ⟨.undef, c.v.kill⟩)])
   | _ => .fail
@[simp] def resT (Γ : Env) : List ResultVar → List TypeId → Wr → (T → D → Wr → A) → A
 | r :: rs, t :: ts, ws, k => zKH Γ ws r t fun t d ws' => resT Γ rs ts (ws ++ ws') fun t' d' ws'' => k (.pair t t') (.pair d d') ws''
 | [], _, ws, k => k .unit .unit ws
 | _ :: _, [], _, _ => .fail
def zLr (P : Program) (tmps : Array Value) : ResultVar → Sem Value
 | .tmp t => pure (tmps.getD t undef)
 | .cell a t => do loadVar t (← asAddr (tmps.getD a undef))
variable {P : Program} {Γ : Env} {E : Entry} {S : St} {act : Act} {w : World} {X : Ctr} {Kt : Wr → Prop}
theorem zHH (ok : EnvOk P Γ) {ws0 : Wr} {r : ResultVar} {want : TypeId} {k : T → D → Wr → A} (h : (zKH Γ ws0 r want k).wp X S Kt) {κ V} (hc : Conc w.heap (tmOf act) V (S.apply ws0) κ) :
 ∃ ty d ws κ' kx v, (k ty d ws).wp X S Kt ∧ Taken w (tmOf act) V (S.apply ws0) κ ws ty d v κ' kx ∧ (zLr P act.tmps r).run P w = .ok v w := by
 cases r with
 | tmp s =>
   simp only [zKH] at h
   obtain ⟨ty, d, ws, κ', kx, h1, h2⟩ := z3o h hc
   exact ⟨ty, d, ws, κ', kx, _, h1, h2, rfl⟩
 | cell a t =>
   replace h := z3O h
   have hcv := hc.cv a
   have hnd := hc.nd a
   generalize hS : (S.apply ws0) a = c at h hcv
   obtain ⟨av, ver⟩ := c
   cases av with
   | box tr dr =>
     simp only [A.wp] at h
     obtain ⟨⟨hv, ht⟩, h⟩ := h
     obtain ⟨b, κ0, arr, ty', hk, e, hh, hr⟩ := hcv
     have hcc := hc.set a (a := .undef) (k := .leaf) (v := tmOf act a) (by simp [CV]) (by simp [K.blocks]) (by simp [K.blocks]) (by simp [K.blocks]) (by simp [K.blocks])
     rw [z2l] at hcc
     rw [hk] at hnd
     have hnd' := K.nodup_lst.1 hnd
     have hsub : ∀ b', b' ∈ κ0.blocks → b' ∈ (κ a).blocks := fun b' hb' => by rw [hk]; exact K.mem_nth (n := 0) (ks := fun _ => κ0) (by omega) hb'
     refine ⟨tr, dr, _, _, κ0, z0Q tr arr.toList, h, ⟨by simpa [St.apply, hS] using hcc, ⟨_, hr, rfl⟩, hnd'.2.1 0 (by omega), ?_, fun b' hb' => hc.dv a b' (hsub b' hb'), ?_, fun b' hb' => ⟨a, hsub b' hb'⟩, ?_⟩, ?_⟩
     ·intro s b' hb'
      by_cases hs : s = a
      ·subst hs; simp [K.blocks]
      ·rw [z09 _ _ hs]; exact hc.dj a s (Ne.symm hs) b' (hsub b' hb')
     ·intro s b' hb'
      by_cases hs : s = a
      ·subst hs; simp [K.blocks] at hb'
      ·rwa [z09 _ _ hs] at hb'
     ·intro s hs
      simp at hs
      exact z09 _ _ hs
     ·have e' : act.tmps.getD a undef = .pointer (some ⟨b, 0, none⟩) := e
      simp only [zLr, e', asAddr, Sem.run_bind, Sem.run_pure, Result.andThen_ok]
      refine z7z ok ht hr ?_ hv
      intro j v hj
      have hadd : (⟨b, 0, none⟩ : Addr).add j = ⟨b, 0 + j, none⟩ := by unfold Addr.add; split <;> simp_all
      rw [hadd]
      simp only [World.cell?, hh, Nat.zero_add]
      simpa using hj
   | _ => exact h.elim
structure Ress (w : World) (tm : Nat → Value) (V : Nat → Prop) (S : St) (κ : Nat → K) (t : T) (d : D) (vs : List Value) (κ' : Nat → K) (k : K) : Prop where
 conc : Conc w.heap tm V S κ'
 rep : ∃ cs, Rep w.heap V t d k cs ∧ ∀ j, t.has j = true → vs[j]? = some (z0Q (t.fld j) ((cs.drop (t.off j)).take (t.fld j).size))
 nd : k.blocks.Nodup
 dj : ∀ s b, b ∈ k.blocks → b ∉ (κ' s).blocks
 dv : ∀ b, b ∈ k.blocks → ¬ V b
 sub : ∀ s b, b ∈ (κ' s).blocks → b ∈ (κ s).blocks
 src : ∀ b, b ∈ k.blocks → ∃ s, b ∈ (κ s).blocks
@[simp] def T.tup : T → Nat → Prop
 | .unit, 0 => True
 | .pair _ b, n + 1 => b.tup n
 | _, _ => False
theorem zDp (ok : EnvOk P Γ) : ∀ (rs : List ResultVar) (ts : List TypeId) {ws0 : Wr} {k : T → D → Wr → A} {κ V}, (resT Γ rs ts ws0 k).wp X S Kt → Conc w.heap (tmOf act) V (S.apply ws0) κ →
 ∃ t d ws κ' kx vs, (k t d ws).wp X S Kt ∧ Ress w (tmOf act) V (S.apply ws) κ t d vs κ' kx ∧ (rs.mapM (zLr P act.tmps)).run P w = .ok vs w ∧ vs.length = rs.length ∧ t.tup rs.length
 | [], ts, ws0, k, κ, V, h, hc => by
   simp only [resT] at h
   exact ⟨_, _, _, κ, .leaf, [], h, ⟨hc, ⟨[], ⟨rfl, by simp, rfl⟩, fun j hj => by simp at hj⟩, by simp [K.blocks], by simp [K.blocks], by simp [K.blocks], fun _ _ h => h, by simp [K.blocks]⟩, by simp, rfl, trivial⟩
 | _ :: _, [], _, _, _, _, h, _ => h.elim
 | r :: rs, ty :: ts, ws0, k, κ, V, h, hc => by
   simp only [resT] at h
   obtain ⟨t, d, ws, κ', kx, v, h1, ht, hv⟩ := zHH ok h hc
   have hc1 := ht.conc
   rw [← St.apply_append] at hc1
   obtain ⟨t', d', ws', κ2, ky, vs, h2, hr, hvs, hlen, htup⟩ := zDp ok rs ts h1 hc1
   obtain ⟨c1, hr1, e1⟩ := ht.rep
   obtain ⟨c2, hr2, e2⟩ := hr.rep
   have hl := hr1.length
   refine ⟨_, _, _, κ2, .pair kx ky, v :: vs, h2, ⟨hr.conc, ⟨c1 ++ c2, ⟨_, _, _, _, c1, c2, rfl, rfl, rfl, hr1, hr2⟩, ?_⟩, ?_, ?_, ?_, fun s b hb => ht.sub s b (hr.sub s b hb), ?_⟩, ?_, by simp [hlen], by simpa using htup⟩
   ·intro j hj
    cases j with
    | zero => simp [e1, ← hl]
    | succ j =>
      simp only [T.has, T.fld, T.off, List.getElem?_cons_succ] at hj ⊢
      rw [e2 j hj, ← hl, List.drop_append, List.drop_eq_nil_of_le (show c1.length ≤ c1.length + t'.off j by omega), List.nil_append, show c1.length + t'.off j - c1.length = t'.off j by omega]
   ·simp only [K.blocks, List.nodup_append]
    refine ⟨ht.nd, hr.nd, fun a ha b hb hab => ?_⟩
    subst hab
    obtain ⟨s, hs⟩ := hr.src a hb
    exact ht.dj s a ha hs
   ·intro s b hb hm
    simp only [K.blocks, List.mem_append] at hb
    exact hb.elim (fun h => ht.dj s b h (hr.sub s b hm)) (fun h => hr.dj s b h hm)
   ·intro b hb
    simp only [K.blocks, List.mem_append] at hb
    exact hb.elim (ht.dv b) (hr.dv b)
   ·intro b hb
    simp only [K.blocks, List.mem_append] at hb
    refine hb.elim (ht.src b) fun h => ?_
    obtain ⟨s, hs⟩ := hr.src b h
    exact ⟨s, ht.sub s b hs⟩
   ·simp [List.mapM_cons, hv, hvs]
end
end Go.Own
namespace Go.Own
variable [Glb]
noncomputable section
open Go
def zGA (as : List Arg) : St := fun s => match as[s]? with
 | some a => ⟨if a.m = .iop then .box a.t a.d else .val a.t a.d, ⟨0, 0, 0⟩⟩
 | none => ⟨.undef, ⟨0, 0, 0⟩⟩
@[simp] def zFv : T → D → Res
 | .pair t .unit, d => .one t d.fst
 | t, d => .many t d
@[simp] def zEa : Nat → List Arg → Wr → (List D → Wr → A) → A
 | _, [], ws, k => k [] ws
 | i, a :: as, ws, k => match a.m with
   | .io => takeW ws a.t (.tmp i) fun t d ws' => .need (t = a.t) (zEa (i + 1) as (ws ++ ws') fun ds ws'' => k (d :: ds) ws'')
   | .iop => askW ws i fun c => match c.av with
     | .box t d => .need (t = a.t) (zEa (i + 1) as (ws ++ [(i, ⟨.undef, c.v.kill⟩)]) fun ds ws'' => k (d :: ds) ws'')
     | _ => .fail
   | _ => zEa (i + 1) as ws fun ds ws'' => k (.unit :: ds) ws''
def zJv (t : T) (d : D) (R : Res) : Prop := R = zFv t d ∨ ∃ e e', t = .pair (.lst true e) .unit ∧ d.fst = .lst [] ∧ e.view = e'.view ∧ R = .one (.lst true e') (.lst [])
theorem ResV.like {h : Heap} {V : Nat → Prop} {κ : K} {v : Value} {t : T} {d : D} {R : Res} (hl : zJv t d R) (hr : ResV h V κ v (zFv t d)) : ResV h V κ v R := by
 rcases hl with rfl | ⟨e, e', rfl, hd, hv, rfl⟩
 ·exact hr
 ·simp only [zFv] at hr
  rw [hd] at hr
  obtain ⟨cs, h1, h2⟩ := hr
  exact ⟨cs, h1.rekind hv, h2⟩
def fin (Γ : Env) (fn : Func) (as : List Arg) (Post : Res → List D → Prop) (S : St) : Prop :=
 (resT Γ fn.results.toList fn.resultTypes.toList [] fun t d ws => zEa 0 as ws fun ds _ => .need (∃ R, zJv t d R ∧ Post R ds) (.ret [])).wp (fun _ _ _ => False) S (fun _ => True)
def done (Γ : Env) (fn : Func) (as : List Arg) (Post : Res → List D → Prop) : Exit → St → Prop
 | .normal, S => fin Γ fn as Post S
 | .ret, S => fin Γ fn as Post S
 | _, _ => False
variable {P : Program} {Γ : Env}
variable {X : Ctr} {Kt : Wr → Prop} {S : St} {act : Act} {w : World}
structure Outs (w : World) (tm : Nat → Value) (V : Nat → Prop) (κ : Nat → K) (i : Nat) (as : List Arg) (ds : List D) (κo : Nat → K) : Prop where
 out : ∀ (j : Nat) a, as[j]? = some a → a.m = .io ∨ a.m = .iop → ArgV w.heap V { a with d := ds.getD j .unit } (κo j) (tm (i + j))
 nd : ∀ j, (κo j).blocks.Nodup
 dv : ∀ j b, b ∈ (κo j).blocks → ¬ V b
 src : ∀ j b, b ∈ (κo j).blocks → ∃ s, b ∈ (κ s).blocks
theorem Outs.cons {tm : Nat → Value} {V : Nat → Prop} {κ κ1 : Nat → K} {i : Nat} {a : Arg} {as : List Arg} {d : D} {ds : List D} {κo : Nat → K} {k : K} (ho : Outs w tm V κ1 (i + 1) as ds κo)
 (ha : a.m = .io ∨ a.m = .iop → ArgV w.heap V { a with d := d } k (tm i)) (hnd : k.blocks.Nodup) (hdv : ∀ b, b ∈ k.blocks → ¬ V b) (hsrc : ∀ b, b ∈ k.blocks → ∃ s, b ∈ (κ s).blocks)
 (hsub : ∀ s b, b ∈ (κ1 s).blocks → b ∈ (κ s).blocks) : ∃ κo', Outs w tm V κ i (a :: as) (d :: ds) κo' := by
 refine ⟨fun j => match j with | 0 => k | j + 1 => κo j, fun j => ?_, fun j => ?_, fun j => ?_, fun j => ?_⟩
 ·cases j with
  | zero => intro b hb hm; simp at hb; subst hb; exact ha hm
  | succ j =>
    intro b hb hm
    have := ho.out j b (by simpa using hb) hm
    rw [show i + (j + 1) = i + 1 + j by omega]
    simpa using this
 ·cases j with
  | zero => exact hnd
  | succ j => exact ho.nd j
 ·cases j with
  | zero => exact hdv
  | succ j => exact ho.dv j
 ·cases j with
  | zero => exact hsrc
  | succ j => intro b hb; obtain ⟨s, hs⟩ := ho.src j b hb; exact ⟨s, hsub s b hs⟩
theorem z62 : ∀ (as : List Arg) (i : Nat) {ws0 : Wr} {k : List D → Wr → A} {κ V}, (zEa i as ws0 k).wp X S Kt → Conc w.heap (tmOf act) V (S.apply ws0) κ →
 ∃ ds ws κo, (k ds ws).wp X S Kt ∧ Outs w (tmOf act) V κ i as ds κo
 | [], i, ws0, k, κ, V, h, hc => ⟨[], _, fun _ => .leaf, h, by simp, by simp [K.blocks], by simp [K.blocks], by simp [K.blocks]⟩
 | a :: as, i, ws0, k, κ, V, h, hc => by
   have other : a.m ≠ .io → a.m ≠ .iop → (zEa (i + 1) as ws0 fun ds ws'' => k (.unit :: ds) ws'').wp X S Kt → ∃ ds ws κo, (k ds ws).wp X S Kt ∧ Outs w (tmOf act) V κ i (a :: as) ds κo := by
    intro h1 h2 h
    obtain ⟨ds, ws, κo, g1, g2⟩ := z62 as (i + 1) h hc
    obtain ⟨κo', g3⟩ := g2.cons (κ := κ) (a := a) (d := .unit) (k := .leaf) (by rintro (h | h) <;> contradiction) (by simp [K.blocks]) (by simp [K.blocks]) (by simp [K.blocks]) (fun _ _ h => h)
    exact ⟨_, ws, κo', g1, g3⟩
   unfold zEa at h
   split at h
   ·rename_i hm
    obtain ⟨t, d, ws, κ', kx, h1, ht⟩ := z3o h hc
    simp only [A.wp] at h1
    obtain ⟨rfl, h1⟩ := h1
    have hc1 := ht.conc
    rw [← St.apply_append] at hc1
    obtain ⟨ds, ws', κo, g1, g2⟩ := z62 as (i + 1) h1 hc1
    obtain ⟨κo', g3⟩ := g2.cons (κ := κ) (a := a) (d := d) (k := kx) (fun _ => by unfold ArgV; simp only [hm]; exact ht.rep) ht.nd ht.dv ht.src ht.sub
    exact ⟨_, ws', κo', g1, g3⟩
   ·rename_i hm
    replace h := z3O h
    have hcv := hc.cv i
    have hnd := hc.nd i
    have hdv := hc.dv i
    generalize hS : (S.apply ws0) i = c at h hcv
    obtain ⟨av, ver⟩ := c
    cases av with
    | box tr dr =>
      simp only [A.wp] at h
      obtain ⟨rfl, h⟩ := h
      have hcc := hc.set i (a := .undef) (k := .leaf) (v := tmOf act i) (by simp [CV]) (by simp [K.blocks]) (by simp [K.blocks]) (by simp [K.blocks]) (by simp [K.blocks])
      rw [z2l] at hcc
      have hc1 : Conc w.heap (tmOf act) V (S.apply (ws0 ++ [(i, ⟨.undef, ver.kill⟩)])) (updK κ i .leaf) := by
       rw [St.apply_append]; simpa [St.apply, hS] using hcc
      obtain ⟨ds, ws', κo, g1, g2⟩ := z62 as (i + 1) h hc1
      obtain ⟨κo', g3⟩ := g2.cons (κ := κ) (a := a) (d := dr) (k := κ i) (fun _ => by unfold ArgV; simp only [hm]; exact hcv) hnd hdv (fun b hb => ⟨i, hb⟩) (fun s b hb => by
       by_cases hs : s = i
       ·subst hs; simp [K.blocks] at hb
       ·rwa [z09 _ _ hs] at hb)
      exact ⟨_, ws', κo', g1, g3⟩
    | _ => exact h.elim
   ·rename_i h1 h2
    exact other h1 h2 h
theorem z87.of (ok : EnvOk P Γ) {f : FuncId} {fn : Func} {c : Code} {as : List Arg} {Post : Res → List D → Prop} (hf : P.funcs[f]? = some fn) (hb : fn.body = some c) (hn : fn.ntmps = Γ.n) (hle : as.length ≤ fn.ntmps)
 (hfx : ∀ i, i ∈ Γ.fx → i < as.length) (hio : ∀ (i : Nat) a, as[i]? = some a → a.m = .io ∨ a.m = .iop → i ∈ Γ.fx)
 (h : ∀ E, Ex P Γ E c (done Γ fn as Post) (zGA as)) : z87 P f as Post := by
 intro w V κs vs hp hg
 let E : Entry := ⟨w, V, (List.range as.length).flatMap fun i => (κs i).blocks, vs.toArray, hg, hp.lt, fun b hb => by
  simp only [List.mem_flatMap, List.mem_range] at hb
  obtain ⟨i, hi, hb⟩ := hb
  exact hp.dv i hi b hb⟩
 have hEt : ∀ b, b ∈ E.t ↔ ∃ i, i < as.length ∧ b ∈ (κs i).blocks := by
  intro b; simp [E, List.mem_flatMap]
 refine calls_of_wp hf hb ?_
 let act : Act := { tmps := vs.toArray ++ Array.replicate (fn.ntmps - vs.toArray.size) undef, defers := [] }
 let κ : Nat → K := fun s => if s < as.length then κs s else .leaf
 have hvl := hp.len
 have htm : ∀ i, i < as.length → ∃ v, vs[i]? = some v ∧ tmOf act i = v := by
  intro i hi
  refine ⟨vs[i], by simp [hvl, hi], ?_⟩
  have h1 : i < vs.length := by omega
  have h2 : i < act.tmps.size := by simp [act]; omega
  have h3 : i < (vs.toArray ++ Array.replicate (fn.ntmps - vs.toArray.size) undef).size := h2
  simp only [tmOf]
  rw [Array.getD_eq_getD_getElem?, Array.getElem?_eq_getElem h2, Option.getD_some]
  show (vs.toArray ++ Array.replicate (fn.ntmps - vs.toArray.size) undef)[i] = _
  rw [Array.getElem_append_left (by simpa using h1)]
  simp
 have hκl : ∀ i b, b ∈ (κ i).blocks → i < as.length ∧ b ∈ (κs i).blocks := by
  intro i b hb
  by_cases hi : i < as.length
  ·simp only [κ, if_pos hi] at hb; exact ⟨hi, hb⟩
  ·simp only [κ, if_neg hi, K.blocks] at hb; simp at hb
 have hblt : ∀ i, i < as.length → ∀ b, b ∈ (κs i).blocks → b < w.heap.size := by
  intro i hi b hb
  obtain ⟨v, hv, _⟩ := htm i hi
  have ha := hp.arg i as[i] v (by simp [hi]) hv
  unfold ArgV at ha
  split at ha
  ·obtain ⟨b0, κ0, arr, ty, hk, _, hh, hr⟩ := ha
   rw [hk] at hb
   simp only [K.blocks, List.mem_cons, List.mem_flatMap, List.mem_range] at hb
   rcases hb with rfl | ⟨_, _, hb⟩
   ·exact (Array.getElem?_eq_some_iff.1 hh).1
   ·exact Rep.blocks_lt hr b hb
  ·obtain ⟨_, cs, hr, _⟩ := ha; exact Rep.blocks_lt hr b hb
  ·obtain ⟨cs, hr, _⟩ := ha; exact Rep.blocks_lt hr b hb
 have hinv : Inv Γ E (zGA as) act w := by
  refine ⟨⟨⟨rfl, rfl, rfl⟩, fun _ _ _ => rfl, Nat.le_refl _, by simp [act]; omega, fun i hi => ?_, rfl⟩, κ, V, ⟨fun s => ?_, fun s => ?_, fun s s' hss b hb hm => ?_, fun s b hb => ?_, hp.lt, fun s b hb => ?_⟩, ⟨fun _ h => h, fun _ h => .inl h, fun s b hb => ?_⟩⟩
  ·have hi' := hfx i hi
   simp only [act, E]
   rw [Array.getElem?_append_left (by simp; omega)]
  ·by_cases hs : s < as.length
   ·obtain ⟨v, hv, htv⟩ := htm s hs
    have ha := hp.arg s as[s] v (by simp [hs]) hv
    have hst : zGA as s = ⟨if as[s].m = .iop then .box as[s].t as[s].d else .val as[s].t as[s].d, ⟨0, 0, 0⟩⟩ := by simp [zGA, hs]
    rw [hst, htv]
    have hk : κ s = κs s := by simp [κ, hs]
    unfold ArgV at ha
    split at ha
    ·rename_i hm
     rw [if_pos hm]
     obtain ⟨b, κ0, arr, ty, h1, h2, h3, h4⟩ := ha
     exact ⟨b, κ0, arr, ty, by rw [hk]; exact h1, h2, h3, h4⟩
    ·rename_i hm
     rw [if_neg (by rw [hm]; simp)]
     obtain ⟨_, cs, hr, e⟩ := ha
     exact ⟨cs, by rw [hk]; exact hr, e⟩
    ·rename_i hm _
     rw [if_neg hm]
     obtain ⟨cs, hr, e⟩ := ha
     exact ⟨cs, by rw [hk]; exact hr, e⟩
   ·have hst : zGA as s = ⟨.undef, ⟨0, 0, 0⟩⟩ := by simp [zGA, hs]
    have hk : κ s = .leaf := by simp [κ, hs]
    rw [hst]
    simp [CV, hk]
  ·by_cases hs : s < as.length
   ·simp only [κ, if_pos hs]; exact hp.nd s hs
   ·simp only [κ, if_neg hs, K.blocks]; simp
  ·obtain ⟨h1, h2⟩ := hκl s b hb
   obtain ⟨h3, h4⟩ := hκl s' b hm
   exact hp.dj s s' h1 h3 hss b h2 h4
  ·obtain ⟨h1, h2⟩ := hκl s b hb
   exact hp.dv s h1 b h2
  ·obtain ⟨h1, h2⟩ := hκl s b hb
   exact hblt s h1 b h2
  ·obtain ⟨h1, h2⟩ := hκl s b hb
   exact .inl ((hEt b).2 ⟨s, h1, h2⟩)
 refine wp_mono (h E act w hinv) ?_
 rintro e a w' ⟨S', hd, hi⟩
 have key : fin Γ fn as Post S' → a.defers = [] ∧ ∃ v, (results fn a.tmps).run P w' = .ok v w' ∧ ∃ res outs κr κo V' v', Post res outs ∧ Ending.returned v = .returned v' ∧ Post' w w' V V' as κs vs res outs κr κo v' := by
  intro hfin
  obtain ⟨hfr, κ1, V1, hc, hbd⟩ := hi
  obtain ⟨t, d, ws, κ2, kx, us, h1, hr, hus, hul, htup⟩ := zDp ok _ _ hfin (κ := κ1) (V := V1) (by simpa [St.apply] using hc)
  obtain ⟨ds, ws2, κo, h1, hoo⟩ := z62 as 0 h1 hr.conc
  simp only [A.wp] at h1
  obtain ⟨⟨R, hlk, hpo⟩, _⟩ := h1
  obtain ⟨kr, hkb, hres0⟩ : ∃ kr : K, kr.blocks = kx.blocks ∧ ResV w'.heap V1 kr (if hsz : us.toArray.size = 1 then us.toArray[0] else .tuple us.toArray) (zFv t d) := by
   obtain ⟨cs, hrep, hj⟩ := hr.rep
   have many : us.length ≠ 1 → zFv t d = .many t d → ∃ kr : K, kr.blocks = kx.blocks ∧ ResV w'.heap V1 kr (if hsz : us.toArray.size = 1 then us.toArray[0] else .tuple us.toArray) (zFv t d) := by
    intro h1 h2
    rw [h2, dif_neg (by simpa using h1)]
    exact ⟨kx, rfl, cs, hrep, _, rfl, fun j h => by simpa using hj j h⟩
   rw [← hul] at htup
   cases t with
   | unit =>
     refine many ?_ rfl
     intro h1; rw [h1] at htup; exact htup
   | pair a b =>
     cases b with
     | unit =>
       have h1 : us.length = 1 := by
        match us, htup with
        | [_], _ => rfl
       rw [dif_pos (by simpa using h1)]
       have h0 := hj 0 rfl
       obtain ⟨d1, d2, k1, k2, c1, c2, rfl, rfl, rfl, g1, g2⟩ := hrep
       obtain ⟨_, rfl, rfl⟩ := g2
       refine ⟨k1, by simp [K.blocks], c1, g1, ?_⟩
       have hl := g1.length
       have h2 : us[0]? = some (us[0]'(by omega)) := by simp
       rw [h2] at h0
       simpa [← hl] using h0
     | pair b1 b2 =>
       refine many ?_ rfl
       intro h1; rw [h1] at htup; exact htup
     | _ =>
       refine many ?_ rfl
       intro h1; rw [h1] at htup; exact htup
   | _ =>
     exfalso
     revert htup
     cases us <;> exact id
  have hres := ResV.like hlk hres0
  refine ⟨hfr.df, if hsz : us.toArray.size = 1 then us.toArray[0] else .tuple us.toArray, ?_, R, _, kr, κo, V1, _, hpo, rfl, ?_⟩
  ·unfold results
   rw [Sem.run_bind, Array.mapM_eq_mapM_toList, map_eq_pure_bind, Sem.run_bind]
   refine (congrArg (fun r => ((r : Result (List Value)).andThen _).andThen _) hus).trans ?_
   rfl
  ·have hcap : ∀ b, b ∈ E.t ∨ E.w.heap.size ≤ b → (∃ i, i < as.length ∧ b ∈ (κs i).blocks) ∨ w.heap.size ≤ b := fun b hb => hb.imp (hEt b).1 id
   refine ⟨hfr.same, hfr.size, fun b h1 h2 => hfr.frame b h1 (fun hm => ?_), hbd.v0, fun b hb => ?_, hr.conc.lt, hres, by rw [hkb]; exact hr.nd, fun b hb => ?_, fun b hb => hr.dv b (by rw [← hkb]; exact hb), fun i a' u ha hu hm => ?_, fun i _ => hoo.nd i, fun i hi' b hb => ?_, fun i _ b hb => hoo.dv i b hb, fun i _ b hb hm => ?_⟩
   ·obtain ⟨i, hi1, hi2⟩ := (hEt b).1 hm
    exact h2 i hi1 hi2
   ·rcases hbd.v1 b hb with h | h | h
    ·exact .inl h
    ·exact .inr (.inl ((hEt b).1 h))
    ·exact .inr (.inr h)
   ·obtain ⟨s, hs⟩ := hr.src b (by rw [← hkb]; exact hb)
    exact hcap b (hbd.k s b hs)
   ·have hout := hoo.out i a' ha hm
    have hu' : tmOf a i = u := by
     have h1 := hfr.fx i (hio i a' ha hm)
     simp only [E, List.getElem?_toArray, hu] at h1
     simp [tmOf, h1]
    rw [Nat.zero_add, hu'] at hout
    exact hout
   ·obtain ⟨s, hs⟩ := hoo.src i b hb
    exact hcap b (hbd.k s b (hr.sub s b hs))
   ·obtain ⟨s, hs⟩ := hoo.src i b hb
    exact hr.dj s b (by rw [← hkb]; exact hm) hs
 cases e with
 | normal => exact key hd
 | ret => exact key hd
 | _ => exact hd.elim
end
end Go.Own
