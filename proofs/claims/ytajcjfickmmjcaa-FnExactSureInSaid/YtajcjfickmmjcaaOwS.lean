/- A layer over the walk: what lies in memory as plain data, each operation by what it does to data; part 23. -/
import Derived.Test.YtajcjfickmmjcaaOwR
set_option linter.unusedVariables false
set_option linter.unusedSimpArgs false
namespace Go.Own
open Go

variable {P : Program} {Γ : Env} {E : Entry} {S : St} {act : Act} {w : World} {X : Ctr} {Kt : Wr → Prop} {next : Act → World → Prop}

theorem alloc_old (w : World) (o : Obj) {b : Nat} (h : b < w.heap.size) : (w.alloc o).heap[b]? = w.heap[b]? := by
  simp only [World.alloc]; rw [Array.getElem?_push, if_neg (by omega)]
theorem alloc_new (w : World) (o : Obj) : (w.alloc o).heap[w.heap.size]? = some o := by show (w.heap.push o)[w.heap.size]? = some o; simp
theorem alloc_size (w : World) (o : Obj) : (w.alloc o).heap.size = w.heap.size + 1 := by show (w.heap.push o).size = _; simp

theorem Conc.alloc {tm V κ} (hc : Conc w.heap tm V S κ) (o : Obj) : Conc (w.alloc o).heap tm V S κ :=
  hc.frame (fun s b hb => alloc_old w o (hc.bl s b hb)) (fun b hb => alloc_old w o (hc.lt b hb)) (fun _ h => h) hc.dv
    (fun b hb => by rw [alloc_size]; have := hc.lt b hb; omega) (by rw [alloc_size]; omega)

theorem Fr.alloc (hf : Fr Γ E act w) (o : Obj) : Fr Γ E act (w.alloc o) :=
  ⟨⟨hf.same.os, hf.same.tape, hf.same.output⟩, fun b h1 h2 => by rw [alloc_old w o (by have := hf.size; omega)]; exact hf.frame b h1 h2, by rw [alloc_size]; have := hf.size; omega, hf.n, hf.fx, hf.df⟩

theorem Rep.alloc {V t d k cs} (hr : Rep w.heap V t d k cs) (hV : ∀ b, V b → b < w.heap.size) (o : Obj) : Rep (w.alloc o).heap V t d k cs :=
  hr.frame (fun b hb => alloc_old w o (hr.blocks_lt b hb)) (fun b hb => alloc_old w o (hV b hb)) (fun _ h => h)

/-- a new row -/
theorem new_sound {dst : Option Nat} {a : AV} {v : Value} {cells : Array Value} {ty : TypeId} (h : (out Γ dst a).wp X S Kt) (hf : Fr Γ E act w) {κ V} (hc : Conc w.heap (tmOf act) V S κ) (hb : Bnd E V κ) {k : K}
    (hcv : ∀ d, dst = some d → CV (w.alloc (.cells cells ty)).heap V (S.put d ⟨a, (S d).v.kill⟩) (updK κ d k) d v a) (hk : ∀ b, b ∈ k.blocks → b = w.heap.size) (hnd : k.blocks.Nodup) (hn : Next' Γ E S Kt next) :
    next (act.put dst v) (w.alloc (.cells cells ty)) := by
  refine out_own (k := k) h (hf.alloc _) (hc.alloc _) hb hcv hnd ?_ ?_ ?_ ?_ hn
  · intro s b hb' hm; rw [hk b hb'] at hm; have := hc.bl s _ hm; omega
  · intro b hb' hV; rw [hk b hb'] at hV; have := hc.lt _ hV; omega
  · intro b hb'; rw [hk b hb', alloc_size]; omega
  · intro b hb'; right; rw [hk b hb']; exact hf.size

theorem alloc_sound (ok : EnvOk P Γ) {dst : Option Nat} {t : TypeId} (h : (opAlloc Γ dst t).wp X S Kt) (hi : Inv Γ E S act w) (hn : Next' Γ E S Kt next) :
    ∃ v w', (Instr.alloc t true (.tuple #[])).run P w = .ok v w' ∧ next (act.put dst v) w' := by
  obtain ⟨hf, κ, V, hc, hb⟩ := hi
  simp only [opAlloc, A.wp] at h
  obtain ⟨hty, h⟩ := h
  obtain ⟨i, hi, hs, z, hz, hl, hrep⟩ := ok.info t hty
  obtain ⟨κz, hκz, hr, _⟩ := hrep (w.alloc (.cells z.cells t)).heap V
  refine ⟨.pointer (some ⟨w.heap.size, 0, none⟩), w.alloc (.cells z.cells t), ?_, ?_⟩
  · have hzv : (zeroValue t).run P w = .ok z w := by
      simp only [zeroValue, typeInfo, program, Sem.run_bind, Sem.run, Result.andThen_ok, hi, hz, Sem.run_pure]
    simp only [Instr.alloc, Sem.run_bind, hzv, Result.andThen_ok, newVar, newRow, run_newObj_alloc, Sem.run_pure]
  · refine new_sound (k := .lst w.heap.size 0 1 1 (fun _ => κz)) h hf hc hb ?_ ?_ ?_ hn
    · intro d _
      exact ⟨w.heap.size, κz, z.cells, t, by simp, rfl, alloc_new w _, hr⟩
    · intro b hb'; simp [K.blocks, hκz] at hb'; exact hb'
    · simp [K.blocks, hκz]

theorem run_box {t : TypeId} {v : Value} : (Instr.box t v).run P w = .ok (.pointer (some ⟨w.heap.size, 0, none⟩)) (w.alloc (.cells v.cells t)) := by
  simp only [Instr.box, Sem.run_bind, newVar, newRow, run_newObj_alloc, Result.andThen_ok, Sem.run_pure]

/-- a new variable with what is taken -/
theorem Taken.box {ws ty d v κ V κ' k} {t : TypeId} (ht : Taken w (tmOf act) V S κ ws ty d v κ' k) (hs : ty.sound = true) (hf : Fr Γ E act w) (hc : Conc w.heap (tmOf act) V S κ) (hb : Bnd E V κ) {s : Nat} (hsn : s < Γ.n) (hfx : s ∉ Γ.fx)
    (hsw : s ∉ ws.map (·.1)) : Inv Γ E (S.apply (ws ++ [(s, ⟨.box ty d, (S s).v.kill⟩)])) (act.put (some s) (.pointer (some ⟨w.heap.size, 0, none⟩))) (w.alloc (.cells v.cells t)) ∧
      ∃ κ2, Conc (w.alloc (.cells v.cells t)).heap (tmOf (act.put (some s) (.pointer (some ⟨w.heap.size, 0, none⟩)))) V (S.apply (ws ++ [(s, ⟨.box ty d, (S s).v.kill⟩)])) κ2 ∧ Bnd E V κ2 ∧ κ2 s = .lst w.heap.size 0 1 1 (fun _ => k) := by
  obtain ⟨cs, hrep, hval⟩ := ht.rep
  have hb' := hb.taken ht
  have hlt : ∀ b, b ∈ k.blocks → b < w.heap.size := hrep.blocks_lt
  have hcells : v.cells.toList = cs := by rw [hval]; exact toVal_size hrep hs
  have hS : (S.apply ws) s = S s := St.apply_other ws S hsw
  have hkb : ∀ b, b ∈ (K.lst w.heap.size 0 1 1 (fun _ => k)).blocks → b = w.heap.size ∨ b ∈ k.blocks := by
    intro b hm
    simp only [K.blocks, List.mem_cons, List.mem_flatMap, List.mem_range] at hm
    exact hm.imp id (fun ⟨_, _, h⟩ => h)
  have hcv : CV (w.alloc (.cells v.cells t)).heap V ((S.apply ws).put s ⟨.box ty d, (S s).v.kill⟩) (updK κ' s (.lst w.heap.size 0 1 1 (fun _ => k))) s (.pointer (some ⟨w.heap.size, 0, none⟩)) (.box ty d) :=
    ⟨w.heap.size, k, v.cells, t, by simp, rfl, alloc_new w _, by rw [hcells]; exact hrep.alloc hc.lt _⟩
  have hnd : (K.lst w.heap.size 0 1 1 (fun _ => k)).blocks.Nodup := by
    rw [K.nodup_lst]
    exact ⟨fun _ _ hm => by have := hlt _ hm; omega, fun _ _ => ht.nd, fun i j hi hj hij => by omega⟩
  have hdj : ∀ s' : Nat, ∀ b, b ∈ (K.lst w.heap.size 0 1 1 (fun _ => k)).blocks → b ∉ (κ' s').blocks := by
    intro s' b hm
    rcases hkb b hm with rfl | h
    · intro hm'; have := ht.conc.bl s' _ hm'; omega
    · exact ht.dj s' b h
  have hdv : ∀ b, b ∈ (K.lst w.heap.size 0 1 1 (fun _ => k)).blocks → ¬ V b := by
    intro b hm
    rcases hkb b hm with rfl | h
    · intro hm'; have := hc.lt _ hm'; omega
    · exact ht.dv b h
  have hbl : ∀ b, b ∈ (K.lst w.heap.size 0 1 1 (fun _ => k)).blocks → b < (w.alloc (.cells v.cells t)).heap.size := by
    intro b hm
    rw [alloc_size]
    rcases hkb b hm with rfl | h
    · omega
    · have := hlt b h; omega
  have hbnd : ∀ b, b ∈ (K.lst w.heap.size 0 1 1 (fun _ => k)).blocks → b ∈ E.t ∨ E.w.heap.size ≤ b := by
    intro b hm
    rcases hkb b hm with rfl | h
    · exact .inr hf.size
    · exact hb'.2 b h
  have hsz : s < act.tmps.size := by rw [hf.n]; exact hsn
  have happ : S.apply (ws ++ [(s, ⟨.box ty d, (S s).v.kill⟩)]) = (S.apply ws).put s ⟨.box ty d, (S s).v.kill⟩ := by rw [St.apply_append]; rfl
  rw [happ]
  rw [← hS] at hcv ⊢
  refine ⟨Inv.set (hf.alloc _) (ht.conc.alloc _) hb'.1 hsn hfx hcv hnd (fun s' _ => hdj s') hdv hbl hbnd, updK κ' s (.lst w.heap.size 0 1 1 (fun _ => k)), ?_, ?_, by simp⟩
  · rw [tmOf_put hsz]
    exact (ht.conc.alloc _).set s hcv hnd (fun s' _ => hdj s') hdv hbl
  · refine ⟨hb'.1.v0, hb'.1.v1, fun s' b hm => ?_⟩
    by_cases hs' : s' = s
    · subst hs'; rw [updK_same] at hm; exact hbnd b hm
    · rw [updK_other _ _ hs'] at hm; exact hb'.1.k s' b hm

theorem box_sound (ok : EnvOk P Γ) {dst : Option Nat} {t : TypeId} {x : Operand} (h : (opBox Γ dst t x).wp X S Kt) (hi : Inv Γ E S act w) (hn : Next' Γ E S Kt next) :
    ∃ v w', (Instr.box t (act.eval x)).run P w = .ok v w' ∧ next (act.put dst v) w' := by
  obtain ⟨hf, κ, V, hc, hb⟩ := hi
  refine ⟨_, _, run_box, ?_⟩
  cases dst with
  | none => exact h.elim
  | some s =>
    simp only [opBox, A.wp] at h
    obtain ⟨⟨hsn, hfx, hty⟩, h⟩ := h
    have gen : (take (Γ.ty t) x fun ty dd ws => .need (ty.view = (Γ.ty t).view ∧ s ∉ ws.map (·.1)) (.ret (ws ++ [(s, ⟨.box ty dd, (S s).v.kill⟩)]))).wp X S Kt → next (act.put (some s) (.pointer (some ⟨w.heap.size, 0, none⟩))) (w.alloc (.cells (act.eval x).cells t)) := by
      intro hk
      obtain ⟨ty, d, ws, κ', kx, hk, ht⟩ := take_sound hk hc
      simp only [A.wp] at hk
      obtain ⟨⟨hview, hsw⟩, hk⟩ := hk
      have hsound : ty.sound = true := by rw [← T.view_sound, hview, T.view_sound]; exact ok.sound t hty
      exact hn _ _ _ hk (ht.box hsound hf hc hb hsn hfx hsw).1
    cases x with
    | tmp r =>
      simp only at h
      simp only [A.wp] at h
      generalize hS : S r = c at h
      obtain ⟨a, ver⟩ := c
      cases a with
      | val ty dd =>
        simp only [A.wp] at h
        obtain ⟨⟨hview, hne⟩, h⟩ := h
        have hsound : ty.sound = true := by rw [← T.view_sound, hview, T.view_sound]; exact ok.sound t hty
        by_cases hp : ty.plain = true
        · rw [if_pos hp] at h
          refine gen ?_
          simp only [take, takeW, askW, look, A.wp, hS]
          rw [if_pos hp]
          exact ⟨⟨hview, by simp⟩, by simpa using h⟩
        · rw [if_neg hp] at h
          obtain ⟨ty', d', ws, κ', kx, hws, ht⟩ := take_sound (k := fun ty' dd' ws => .need (ty' = ty ∧ dd' = dd) (.ret ws)) (Kt := fun ws => ws = [(r, ⟨.undef, ver.kill⟩)]) (x := .tmp r) (want := Γ.ty t) (X := X) (by
            simp only [take, takeW, askW, look, A.wp, hS]
            rw [if_neg hp]
            simp [A.wp]) hc
          simp only [A.wp] at hws
          obtain ⟨⟨rfl, rfl⟩, rfl⟩ := hws
          obtain ⟨hinv, κ2, hc2, hb2, hk2⟩ := ht.box (t := t) hsound hf hc hb hsn hfx (by simpa using Ne.symm hne)
          refine hn _ _ _ h ?_
          have happ : S.apply [(r, ⟨.undef, ver.kill⟩), (s, ⟨.box ty' d', (S s).v.kill⟩), (r, ⟨.ref s (S s).v.kill [] ty' d', ver.kill.kill⟩)] =
              (S.apply ([(r, ⟨.undef, ver.kill⟩)] ++ [(s, ⟨.box ty' d', (S s).v.kill⟩)])).put r ⟨.ref s (S s).v.kill [] ty' d', ver.kill.kill⟩ := rfl
          rw [happ]
          obtain ⟨cs, hrep, hval⟩ := ht.rep
          have hcr := hc2.set r (a := .ref s (S s).v.kill [] ty' d') (k := .leaf) (v := tmOf (act.put (some s) (.pointer (some ⟨w.heap.size, 0, none⟩))) r) ?_ (by simp [K.blocks]) (by simp [K.blocks]) (by simp [K.blocks]) (by simp [K.blocks])
          · rw [updV_self] at hcr
            have hver : ((S.apply ([(r, ⟨.undef, ver.kill⟩)] ++ [(s, ⟨.box ty' d', (S s).v.kill⟩)])) r).v = ver.kill := by
              simp only [List.cons_append, List.nil_append, St.apply]
              rw [St.put_other _ _ hne, St.put_same]
            rw [hver] at hcr
            refine ⟨hinv.fr, _, V, hcr, hb2.v0, hb2.v1, fun s' b hm => ?_⟩
            by_cases hs' : s' = r
            · subst hs'; simp [K.blocks] at hm
            · rw [updK_other _ _ hs'] at hm; exact hb2.k s' b hm
          · refine ⟨by simp, Ne.symm hne, ?_⟩
            have hSs : ((S.apply ([(r, ⟨.undef, ver.kill⟩)] ++ [(s, ⟨.box ty' d', (S s).v.kill⟩)])).put r ⟨.ref s (S s).v.kill [] ty' d', ((S.apply ([(r, ⟨.undef, ver.kill⟩)] ++ [(s, ⟨.box ty' d', (S s).v.kill⟩)])) r).v.kill⟩) s = ⟨.box ty' d', (S s).v.kill⟩ := by
              rw [St.put_other _ _ (Ne.symm hne)]
              simp only [List.cons_append, List.nil_append, St.apply, St.put_same]
            refine ⟨by rw [hSs]; exact Ver.le_refl _, fun tr dr bx hr' _ _ _ => ?_⟩
            rw [hSs] at hr'
            cases hr'
            refine ⟨cs, ?_, ?_⟩
            · rw [updK_other _ _ (Ne.symm hne), hk2]
              simp only [base, if_true, K.nth, K.get]
              exact (hrep.alloc hc.lt _).toRef
            · rw [← hval]
              have hsz : s < act.tmps.size := by rw [hf.n]; exact hsn
              rw [tmOf_put hsz, updV_other _ _ hne]; rfl
      | _ => exact gen h
    | _ => exact gen h

end Go.Own
