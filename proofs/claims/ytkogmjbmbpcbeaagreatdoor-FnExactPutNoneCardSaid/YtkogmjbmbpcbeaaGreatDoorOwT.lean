/- A layer over the walk: what lies in memory as plain data, each operation by what it does to data; part 11. -/
import Derived.Test.YtkogmjbmbpcbeaaGreatDoorOwR
import Derived.Great.BuildSlice
import Derived.Great.FillDense
import Derived.Laws.Tables
import Derived.Laws.MakeOwn
set_option linter.unusedSectionVars false
set_option linter.unusedVariables false
set_option linter.unusedSimpArgs false
namespace Go.Own
variable [Glb]
open Go
variable {P : Program} {Γ : Env} {E : Entry} {S : St} {act : Act} {w : World} {X : Ctr} {Kt : Wr → Prop} {next : Act → World → Prop}
theorem zFO (off : Nat) : ∀ (l : List Value) (k : Nat) (arr : Array Value), off + k + l.length ≤ arr.size →
 ((l.zipIdx k).foldl (fun cs (x : Value × Nat) => cs.setIfInBounds (off + x.2) x.1) arr).toList = spl arr.toList (off + k) l
 | [], k, arr, _ => by simp [spl]
 | v :: l, k, arr, h => by
   simp only [List.length_cons] at h
   simp only [List.zipIdx_cons, List.foldl_cons]
   rw [zFO off l (k + 1) _ (by simp; omega)]
   apply List.ext_getElem?
   intro i
   rw [z4x (show off + (k + 1) + l.length ≤ (arr.setIfInBounds (off + k) v).toList.length by simp; omega), z4x (show off + k + (v :: l).length ≤ arr.toList.length by simp; omega)]
   simp only [Array.toList_setIfInBounds, List.getElem?_set, List.length_cons, Array.length_toList]
   by_cases h2 : i < off + k
   ·rw [if_pos (by omega), if_neg (by omega), if_pos h2]
   ·by_cases h3 : i = off + k
    ·subst h3
     rw [if_pos (by omega), if_pos rfl, if_pos (by omega), if_neg (by omega), if_pos (by omega)]
     simp
    ·rw [if_neg h2]
     by_cases h4 : i < off + k + (l.length + 1)
     ·rw [if_neg (show ¬ i < off + (k + 1) by omega), if_pos (show i < off + (k + 1) + l.length by omega), if_pos h4, show i - (off + k) = (i - (off + (k + 1))) + 1 by omega, List.getElem?_cons_succ]
     ·rw [if_neg (show ¬ i < off + (k + 1) by omega), if_neg (show ¬ i < off + (k + 1) + l.length by omega), if_neg h4, if_neg (show ¬ off + k = i by omega)]
structure Made (w : World) (tm : Nat → Value) (V : Nat → Prop) (S : St) (κ0 : Nat → K) (ws : Wr) (κ : Nat → K) (k : K) : Prop where
 conc : Conc w.heap tm V (S.apply ws) κ
 nd : k.blocks.Nodup
 dj : ∀ s b, b ∈ k.blocks → b ∉ (κ s).blocks
 dv : ∀ b, b ∈ k.blocks → ¬ V b
 sub : ∀ s b, b ∈ (κ s).blocks → b ∈ (κ0 s).blocks
 src : ∀ b, b ∈ k.blocks → ∃ s, b ∈ (κ0 s).blocks
 oth : ∀ s, s ∉ ws.map (·.1) → κ s = κ0 s
theorem zCl {T0 : T} {place : Nat → Option (Nat × Nat)} (hpl : ∀ j, T0.has j = true → place j = some (T0.off j, (T0.fld j).size)) : ∀ (ps : List (Nat × Operand)) {t d ws} {k : T → D → Wr → A} {κ0 κ V kc} {cells : Array Value},
 (takes T0 ps t d ws k).wp X S Kt → Made w (tmOf act) V S κ0 ws κ kc → Rep w.heap V t d kc cells.toList → t.shape = T0.shape →
 ∃ t' d' ws' κ' kc' cells', (k t' d' ws').wp X S Kt ∧ Made w (tmOf act) V S κ0 ws' κ' kc' ∧ Rep w.heap V t' d' kc' (cells' : Array Value).toList ∧ t'.shape = T0.shape ∧
  Instr.fill place cells (ps.map fun x => (x.1, act.eval x.2)) = some cells'
 | [], t, d, ws, k, κ0, κ, V, kc, cells, h, hm, hr, hs => ⟨t, d, ws, κ, kc, cells, h, hm, hr, hs, rfl⟩
 | (j, x) :: ps, t, d, ws, k, κ0, κ, V, kc, cells, h, hm, hr, hs => by
   simp only [takes] at h
   obtain ⟨ty, dd, ws', κ', kx, hk, ht⟩ := z3o h hm.conc
   simp only [A.wp] at hk
   obtain ⟨⟨hh, hview, hsnd⟩, hk⟩ := hk
   have hsh := T.shape_has j hs
   obtain ⟨cs, hrep, hval⟩ := ht.rep
   have hsound : ty.sound = true := by rw [← T.view_sound, hview, T.view_sound]; exact hsnd
   have hcells := z7K hrep hsound
   obtain ⟨c1, cj, c2, hcs, hlen, hj, hin, hndj, hre⟩ := Rep.fld j hr (by rw [hsh.1]; exact hh)
   have hsz : ty.shape = (t.fld j).shape := by rw [hsh.2.2, ← T.view_shape ty, hview, T.view_shape]
   have hlj : cs.length = cj.length := by rw [hrep.length, hj.length]; exact T.shape_size hsz
   obtain ⟨hR, hN, hM⟩ := hre (h' := w.heap) (V' := V) hrep hm.nd (fun _ _ _ => rfl) (fun _ _ => rfl) (fun _ h => h)
   have hkx : ∀ b, b ∈ kx.blocks → b ∉ kc.blocks := by
    intro b hb hb'
    obtain ⟨s, hs'⟩ := ht.src b hb
    exact hm.dj s b hb' hs'
   have hspl : spl cells.toList (t.off j) cs = c1 ++ (cs ++ c2) := by
    rw [hcs, ← hlen]; unfold spl
    rw [List.take_left, List.drop_append, List.drop_eq_nil_of_le (by omega), hlj]
    simp
   have hfit : t.off j + cs.length ≤ cells.size := by
    have := congrArg List.length hcs
    simp at this; omega
   have hfold := zFO (t.off j) cs 0 cells (by omega)
   rw [Nat.add_zero, hspl] at hfold
   obtain ⟨t2, d2, ws2, κ2, kc2, cells2, hk2, hm2, hr2, hs2, hf2⟩ := zCl hpl ps (κ0 := κ0) hk (κ := κ') (kc := kc.setFld j kx) (V := V)
    (cells := (cs.zipIdx.foldl (fun cs (x : Value × Nat) => cs.setIfInBounds (t.off j + x.2) x.1) cells))
    ⟨by rw [St.apply_append]; exact ht.conc, hN (fun b hb => .inl (hkx b hb)) ht.nd,
     fun s b hb => (hM b hb).elim (ht.dj s b) (fun h hm' => hm.dj s b h.1 (ht.sub s b hm')), fun b hb => (hM b hb).elim (ht.dv b) (fun h => hm.dv b h.1), fun s b hb => hm.sub s b (ht.sub s b hb),
     fun b hb => (hM b hb).elim (fun h => let ⟨s, hs⟩ := ht.src b h; ⟨s, hm.sub s b hs⟩) (fun h => hm.src b h.1),
     fun s hs' => by
      simp at hs'
      rw [ht.oth s (by simpa using hs'.2), hm.oth s (by simpa using hs'.1)]⟩
    (by rw [hfold]; exact hR) (by
      have := T.set_shape [.f j] (t := t) (x := ty) (by simp [hsh.1, hh]) (by simpa using hsz)
      simp at this; rw [this]; exact hs)
   refine ⟨t2, d2, ws2, κ2, kc2, cells2, hk2, hm2, hr2, hs2, ?_⟩
   rw [List.map_cons]
   unfold Instr.fill
   simp only [hpl j hh]
   have hvc : (act.eval x).cells.toList = cs := by rw [hval]; exact hcells
   have hvs : (act.eval x).cells.size = cs.length := by rw [← hvc]; simp
   rw [hvs, if_neg (by
    have h1 : cs.length = (T0.fld j).size := by rw [hlj, hj.length]; exact T.shape_size hsh.2.2
    rw [← hsh.2.1]
    simp [h1]; omega), ← hf2]
   congr 1
   rw [← hsh.2.1]
   apply Array.ext'
   rw [← Array.foldl_toList]
   simp only [Array.toList_zipIdx, hvc]
theorem zGR (ok : EnvOk P Γ) {dst : Option Nat} {t : TypeId} {z1N : Array (Nat × Operand)} (h : (zC6 Γ dst t z1N.toList).wp X S Kt) (hi : Inv Γ E S act w) (hn : z2V Γ E S Kt next) :
 ∃ v, (Instr.build t (z1N.map fun (i, x) => (i, act.eval x))).run P w = .ok v w ∧ next (act.put dst v) w := by
 obtain ⟨hf, κ, V, hc, hb⟩ := hi
 cases dst with
 | none => exact h.elim
 | some s =>
   simp only [zC6, A.wp] at h
   obtain ⟨⟨hsn, hfx, hagg⟩, h⟩ := h
   have hty : (Γ.ty t).ok = true := by revert hagg; cases Γ.ty t <;> simp
   obtain ⟨i, hi, hs, z, hz, hl, hrep⟩ := ok.info t hty
   obtain ⟨κz, hκz, hr, _⟩ := hrep w.heap V
   have hfits := ok.fits t hty
   have hu : ∃ fs, P.underlying t = some (.struct fs) ∧ (∀ j, (Γ.ty t).has j = true → ∃ f, fs[j]? = some f ∧ f.offset = (Γ.ty t).off j ∧ Γ.ty f.type = (Γ.ty t).fld j ∧ ((Γ.ty t).fld j).ok = true) ∧ ∀ j, j < fs.size → (Γ.ty t).has j = true := by
    generalize Γ.ty t = T at hfits hagg
    cases T <;> simp at hagg
    ·exact ⟨#[], hfits, by simp, by simp⟩
    ·exact hfits
   obtain ⟨fs, hu, hj, hall⟩ := hu
   have hplaces : fs.toList.mapM (fun f => (P.info? f.type).map fun i => (f.offset, i.size)) = some (fs.toList.map fun f => (f.offset, (Γ.ty f.type).size)) := by
    have : ∀ (l : List Field), (∀ f ∈ l, ∃ i, P.info? f.type = some i ∧ i.size = (Γ.ty f.type).size) → l.mapM (fun f => (P.info? f.type).map fun i => (f.offset, i.size)) = some (l.map fun f => (f.offset, (Γ.ty f.type).size)) := by
     intro l
     induction l with
     | nil => intro _; rfl
     | cons f l ih =>
       intro hl
       obtain ⟨i, h1, h2⟩ := hl f (by simp)
       simp [List.mapM_cons, h1, h2, ih (fun g hg => hl g (by simp [hg]))]
    refine this _ (fun f hf' => ?_)
    obtain ⟨j, hjl, rfl⟩ := List.getElem_of_mem hf'
    obtain ⟨f', h1, h2, h3, h4⟩ := hj j (hall j (by simpa using hjl))
    have : f' = fs.toList[j] := by
     have := Array.getElem?_toList (xs := fs) (i := j)
     rw [h1, List.getElem?_eq_getElem hjl] at this
     exact (Option.some.inj this).symm
    subst this
    obtain ⟨i', hi', hs', _⟩ := ok.info fs.toList[j].type (by rw [h3]; exact h4)
    exact ⟨i', hi', hs'⟩
   obtain ⟨t', d', ws, κ', kc, cells, hk, hm, hr', hsh, hfill⟩ := zCl (T0 := Γ.ty t) (place := fun j => (fs.toList.map fun f => (f.offset, (Γ.ty f.type).size)).toArray[j]?) (by
    intro j hh
    obtain ⟨f', h1, h2, h3, h4⟩ := hj j hh
    simp [h1, h2, h3]) z1N.toList h (κ0 := κ) (κ := κ) (V := V) (kc := κz) (cells := z.cells)
    ⟨hc, by simp [hκz], by simp [hκz], by simp [hκz], fun _ _ h => h, by simp [hκz], fun _ _ => rfl⟩ hr rfl
   simp only [A.wp] at hk
   obtain ⟨hsw, hk⟩ := hk
   refine ⟨.agg cells, ?_, ?_⟩
   ·apply run_build
    unfold Program.built
    simp only [hi, hu, hz]
    rw [hplaces]
    simp only
    rw [← hfill]
    congr 1
    simp
   ·refine hn _ _ _ hk ?_
    have hS : (S.apply ws) s = S s := St.apply_other ws S hsw
    have hb' : Bnd E V κ' := ⟨hb.v0, hb.v1, fun s b h => hb.k s b (hm.sub s b h)⟩
    have hagg' : t'.agg = true := by rw [T.shape_agg hsh]; exact hagg
    have := Inv.set (d := s) (a := .val t' d') (k := kc) (v := .agg cells) hf hm.conc hb' hsn hfx ⟨cells.toList, by simpa using hr', by simp [z0Q, hagg']⟩ hm.nd (fun s' _ => hm.dj s') hm.dv
     (fun b hb => let ⟨s', hs'⟩ := hm.src b hb; hc.bl s' b hs') (fun b hm' => let ⟨s', hs'⟩ := hm.src b hm'; hb.k s' b hs')
    rw [hS] at this
    rw [St.apply_append]; exact this
theorem zEB {n : Nat} : ∀ (L : List (List Value)) (i : Nat) (c : List Value), (∀ c ∈ L, c.length = n) → L[i]? = some c → ((L.flatten).drop (i * n)).take n = c
 | [], i, c, _, h => by simp at h
 | x :: L, 0, c, hl, h => by
   simp at h; subst h
   have := hl x (by simp)
   simp [← this]
 | x :: L, i + 1, c, hl, h => by
   have hx := hl x (by simp)
   rw [List.flatten_cons, List.drop_append, List.drop_eq_nil_of_le (by rw [hx, Nat.add_mul]; omega), List.nil_append, hx, show (i + 1) * n - n = i * n by rw [Nat.add_mul]; omega]
   exact zEB L i c (fun c hc => hl c (by simp [hc])) (by simpa using h)
theorem zEC {n : Nat} : ∀ (L : List (List Value)), (∀ c ∈ L, c.length = n) → L.flatten.length = L.length * n
 | [], _ => by simp
 | x :: L, hl => by
   rw [List.flatten_cons, List.length_append, zEC L (fun c hc => hl c (by simp [hc])), hl x (by simp), List.length_cons, Nat.add_mul]; omega
structure Els (w : World) (tm : Nat → Value) (V : Nat → Prop) (S : St) (κ0 : Nat → K) (ws : Wr) (κ : Nat → K) (e : T) (xs : List D) (ks : Nat → K) (L : List (List Value)) : Prop where
 conc : Conc w.heap tm V (S.apply ws) κ
 len : L.length = xs.length
 el : ∀ (i : Nat) x, xs[i]? = some x → ∃ c, L[i]? = some c ∧ c.length = e.size ∧ Rep w.heap V e x (ks i) c
 nd : ∀ i, i < xs.length → (ks i).blocks.Nodup
 dd : ∀ i j, i < xs.length → j < xs.length → i ≠ j → ∀ b, b ∈ (ks i).blocks → b ∉ (ks j).blocks
 dj : ∀ i, i < xs.length → ∀ s b, b ∈ (ks i).blocks → b ∉ (κ s).blocks
 dv : ∀ i, i < xs.length → ∀ b, b ∈ (ks i).blocks → ¬ V b
 sub : ∀ s b, b ∈ (κ s).blocks → b ∈ (κ0 s).blocks
 src : ∀ i, i < xs.length → ∀ b, b ∈ (ks i).blocks → ∃ s, b ∈ (κ0 s).blocks
 oth : ∀ s, s ∉ ws.map (·.1) → κ s = κ0 s
theorem z8t {e0 : T} (hs0 : e0.sound = true) : ∀ (ps : List (Nat × Operand)) {eo xs ws} {k : T → List D → Wr → A} {κ0 κ V} {ks : Nat → K} {L : List (List Value)},
 (takeEls e0 ps xs.length eo xs ws k).wp X S Kt → (eo = none → xs = []) → (∀ e, eo = some e → e.view = e0.view) → Els w (tmOf act) V S κ0 ws κ (eo.getD e0) xs ks L →
 ∃ e' xs' ws' κ' ks' L', (k e' xs' ws').wp X S Kt ∧ e'.view = e0.view ∧ Els w (tmOf act) V S κ0 ws' κ' e' xs' ks' (L ++ L') ∧ xs'.length = xs.length + ps.length ∧
  (ps.map fun x => (act.eval x.2).cells.toList) = L' ∧ ps.map (·.1) = (List.range ps.length).map (· + xs.length)
 | [], eo, xs, ws, k, κ0, κ, V, ks, L, h, h0, he, hm => ⟨_, xs, ws, κ, ks, [], h, by cases eo with | none => rfl | some e => exact he e rfl, by simpa using hm, rfl, rfl, rfl⟩
 | (j, x) :: ps, eo, xs, ws, k, κ0, κ, V, ks, L, h, h0, he, hm => by
   simp only [takeEls] at h
   obtain ⟨ty, dd, ws', κ', kx, hk, ht⟩ := z3o h hm.conc
   simp only [A.wp] at hk
   obtain ⟨⟨rfl, heq, hview⟩, hk⟩ := hk
   obtain ⟨cs, hrep, hval⟩ := ht.rep
   have hsound : ty.sound = true := by rw [← T.view_sound, hview, T.view_sound]; exact hs0
   have hcells := z7K hrep hsound
   have hel : ∀ (i : Nat) y, xs[i]? = some y → ∃ c, L[i]? = some c ∧ c.length = ty.size ∧ Rep w.heap V ty y (ks i) c := by
    cases eo with
    | none => rw [h0 rfl]; intro i y hy; simp at hy
    | some e => rw [heq e rfl]; exact hm.el
   have hkn : ∀ i, i < xs.length → ∀ b, b ∈ kx.blocks → b ∉ (ks i).blocks := by
    intro i hi b hb hb'
    obtain ⟨s, hs'⟩ := ht.src b hb
    exact hm.dj i hi s b hb' hs'
   have hk' : (takeEls e0 ps (xs ++ [dd]).length (some ty) (xs ++ [dd]) (ws ++ ws') k).wp X S Kt := by simpa using hk
   have hlt : ∀ {i}, i < (xs ++ [dd]).length → i ≠ xs.length → i < xs.length := by intro i h1 h2; simp at h1; omega
   obtain ⟨e', xs', ws2, κ2, ks2, L2, hk2, hv2, hE2, hl2, hL2, hp2⟩ := z8t hs0 ps (κ0 := κ0) (κ := κ') (V := V) (ks := fun i => if i = xs.length then kx else ks i) (L := L ++ [cs]) hk' (by simp) (by intro e h; cases h; exact hview)
    ⟨by rw [St.apply_append]; exact ht.conc, by simp [hm.len], by
     intro i y hy
     by_cases hi : i = xs.length
     ·subst hi
      rw [List.getElem?_append_right (by omega)] at hy
      simp at hy; subst hy
      refine ⟨cs, by rw [List.getElem?_append_right (by rw [hm.len]; omega)]; simp [hm.len], hrep.length, by simpa using hrep⟩
     ·have hil : i < xs.length := by
       have := (List.getElem?_eq_some_iff.1 hy).1
       exact hlt this hi
      rw [List.getElem?_append_left hil] at hy
      obtain ⟨c, h1, h2, h3⟩ := hel i y hy
      exact ⟨c, by rw [List.getElem?_append_left (by rw [hm.len]; exact hil)]; exact h1, h2, by simpa [hi] using h3⟩,
     by
     intro i hi
     by_cases h : i = xs.length
     ·simp [h]; exact ht.nd
     ·simp [h]; exact hm.nd i (hlt hi h),
     by
     intro i j hi hj hij b hb hb'
     by_cases h : i = xs.length
     ·simp only [h, if_true] at hb
      have h' : j ≠ xs.length := by omega
      simp only [if_neg h'] at hb'
      exact hkn j (hlt hj h') b hb hb'
     ·simp only [if_neg h] at hb
      by_cases h' : j = xs.length
      ·simp only [h', if_true] at hb'
       exact hkn i (hlt hi h) b hb' hb
      ·simp only [if_neg h'] at hb'
       exact hm.dd i j (hlt hi h) (hlt hj h') hij b hb hb',
     by
     intro i hi s b hb
     by_cases h : i = xs.length
     ·simp only [h, if_true] at hb; exact ht.dj s b hb
     ·simp only [if_neg h] at hb; exact fun hm' => hm.dj i (hlt hi h) s b hb (ht.sub s b hm'),
     by
     intro i hi b hb
     by_cases h : i = xs.length
     ·simp only [h, if_true] at hb; exact ht.dv b hb
     ·simp only [if_neg h] at hb; exact hm.dv i (hlt hi h) b hb,
     fun s b hb => hm.sub s b (ht.sub s b hb),
     by
     intro i hi b hb
     by_cases h : i = xs.length
     ·simp only [h, if_true] at hb
      obtain ⟨s, hs'⟩ := ht.src b hb
      exact ⟨s, hm.sub s b hs'⟩
     ·simp only [if_neg h] at hb; exact hm.src i (hlt hi h) b hb,
     fun s hs' => by
      simp at hs'
      rw [ht.oth s (by simpa using hs'.2), hm.oth s (by simpa using hs'.1)]⟩
   refine ⟨e', xs', ws2, κ2, ks2, cs :: L2, hk2, hv2, by simpa using hE2, by rw [hl2]; simp; omega, ?_, ?_⟩
   ·rw [List.map_cons, hL2, hval, hcells]
   ·rw [List.map_cons, hp2, List.length_cons, List.range_succ_eq_map]
    simp; intro a _; omega
theorem zA1 (ok : EnvOk P Γ) {dst : Option Nat} {t : TypeId} {len : Nat} {z1N : Array (Nat × Operand)} (h : (z4O Γ dst t len z1N.toList).wp X S Kt) (hi : Inv Γ E S act w) (hn : z2V Γ E S Kt next) :
 ∃ v w', (Instr.buildSlice t len (z1N.map fun (i, x) => (i, act.eval x))).run P w = .ok v w' ∧ next (act.put dst v) w' := by
 obtain ⟨hf, κ, V, hc, hb⟩ := hi
 cases dst with
 | none => exact h.elim
 | some s =>
   simp only [z4O, A.wp] at h
   obtain ⟨⟨hsn, hfx, hls, hlen, hes0, hsml, hsm⟩, h⟩ := h
   obtain ⟨et, hu, he, hok⟩ := Fits.lst ok hls
   obtain ⟨ie, hie, hs, z, hz, hzl, hzrep⟩ := ok.info et hok
   rw [he] at hs hzl hzrep
   have hsnd : (Γ.ty t).elem.sound = true := by rw [← he]; exact ok.sound et hok
   obtain ⟨e', xs, ws, κ', ks, L, hk, hview, hE, hxl, hL, hidx⟩ := z8t (act := act) (w := w) hsnd z1N.toList (xs := []) (L := []) (eo := none) (ks := fun _ => .leaf) (κ0 := κ) (κ := κ) (V := V) h (fun _ => rfl) (by simp)
    ⟨hc, rfl, by simp, by simp, by simp, by simp, by simp, fun _ _ h => h, by simp, fun _ _ => rfl⟩
   simp only [A.wp] at hk
   obtain ⟨hsw, hk⟩ := hk
   simp only [List.length_nil, Nat.zero_add, List.nil_append] at hxl hE
   have hes : e'.size = (Γ.ty t).elem.size := by rw [← T.view_size, hview, T.view_size]
   have hxl' : xs.length = len := by rw [hxl, hlen]
   have hLl : L.length = len := by rw [hE.len, hxl']
   have hLc : ∀ c ∈ L, c.length = e'.size := by
    intro c hcm
    obtain ⟨i, hi, rfl⟩ := List.getElem_of_mem hcm
    obtain ⟨c', h1, h2, _⟩ := hE.el i (xs[i]'(by rw [← hE.len]; exact hi)) (List.getElem?_eq_getElem _)
    rw [List.getElem?_eq_getElem hi] at h1
    cases h1; exact h2
   -- what the machine makes
   have hrun : ∃ cells : Array Value, (Instr.buildSlice t len (z1N.map fun (i, x) => (i, act.eval x))).run P w = .ok (.slice (some ⟨w.heap.size, 0, none⟩) len len) (w.alloc (.cells cells et)) ∧ cells.toList = L.flatten := by
    have hfl := zEC L hLc
    have hvs : ∀ v ∈ z1N.toList.map (fun x => act.eval x.2), v.cells.size = e'.size := by
     intro v hv
     obtain ⟨x, hx, rfl⟩ := List.mem_map.1 hv
     have : (act.eval x.2).cells.toList ∈ L := by rw [← hL]; exact List.mem_map.2 ⟨x, hx, rfl⟩
     have := hLc _ this
     simpa using this
    have hparts : (z1N.map fun (i, x) => (i, act.eval x)).toList = ((z1N.toList.map (fun x => act.eval x.2)).zipIdx 0).map fun x => (x.2, x.1) := by
     rw [Array.toList_map]
     apply List.ext_getElem?
     intro i
     simp only [List.getElem?_map, List.getElem?_zipIdx]
     cases hp : z1N.toList[i]? with
     | none => simp [hp]
     | some x =>
       simp [hp]
       have := congrArg (·[i]?) hidx
       simp only [List.getElem?_map, hp, Option.map_some, List.length_nil, Nat.add_zero] at this
       have hil : i < z1N.toList.length := (List.getElem?_eq_some_iff.1 hp).1
       rw [List.getElem?_range (by simpa using hil)] at this
       simpa using this
    by_cases h0 : len * ie.size = 0
    ·refine ⟨#[], ?_, ?_⟩
     ·have hl0 : len = 0 := by
       rcases Nat.mul_eq_zero.1 h0 with h | h
       ·exact h
       ·rw [hs] at h; exact absurd h hes0
      have hp0 : z1N = #[] := by
       apply Array.eq_empty_of_size_eq_zero
       rw [← Array.length_toList, ← hlen, hl0]
      subst hl0 hp0
      simp [Instr.buildSlice, run_underlying hu, Go.sizeOf, typeInfo, zeroValue, hie, hz, Instr.fill, newRow]
      congr 2
      exact Array.eq_empty_of_size_eq_zero (by simp)
     ·have : L.flatten.length = 0 := by rw [hfl, hLl, hes, ← hs]; exact h0
      simpa using (List.length_eq_zero_iff.1 this).symm
    ·have hpos : 0 < ie.size := by
      rcases Nat.eq_zero_or_pos ie.size with h | h
      ·rw [h] at h0; simp at h0
      ·exact h
     have hvl : (z1N.toList.map (fun x => act.eval x.2)).length = len := by simp [hlen]
     refine ⟨_, run_buildSlice w t et len _ _ ie z hu hie hz (by rw [hs]; omega) h0 (by
      rw [hparts]
      exact Go.Great.fill_whole hpos _ _ (by rw [hs, ← hes]; exact hvs) (by rw [hvl]; simp)), ?_⟩
     rw [← hL]
     simp [List.flatMap_def, Function.comp_def]
   obtain ⟨cells, hrun, hcells⟩ := hrun
   refine ⟨_, _, hrun, ?_⟩
   have hS : (S.apply ws) s = S s := St.apply_other ws S hsw
   have hb' : Bnd E V κ' := ⟨hb.v0, hb.v1, fun s b h => hb.k s b (hE.sub s b h)⟩
   have hksl : ∀ i, i < xs.length → ∀ b, b ∈ (ks i).blocks → b < w.heap.size := fun i hi b hb' => let ⟨s', hs'⟩ := hE.src i hi b hb'; hc.bl s' b hs'
   have hmem : ∀ b, b ∈ (K.lst w.heap.size 0 len xs.length ks).blocks → b = w.heap.size ∨ ∃ i, i < xs.length ∧ b ∈ (ks i).blocks := by
    intro b hm
    simp only [K.blocks, List.mem_cons, List.mem_flatMap, List.mem_range] at hm
    exact hm
   have hcsz : cells.size = len * e'.size := by rw [← Array.length_toList, hcells, zEC L hLc, hLl]
   by_cases hfr : s ∈ Γ.fr
   ·rw [if_pos hfr] at hk
    simp only [A.wp] at hk
    obtain ⟨hpl, hk⟩ := hk
    have hca := hE.conc.alloc (.cells cells et)
    have hcv : Conc (w.alloc (.cells cells et)).heap (tmOf act) (fun b => V b ∨ b = w.heap.size) (S.apply ws) κ' := hca.frame (fun _ _ _ => rfl) (fun _ _ => rfl) (fun _ h => .inl h)
     (fun q b hm hv => hv.elim (hE.conc.dv q b hm) (fun e => by have := hE.conc.bl q b hm; omega)) (fun b hv => by
       rw [z2y]
       rcases hv with hv | rfl
       ·have := hc.lt b hv; omega
       ·omega) (Nat.le_refl _)
    have hbv : Bnd E (fun b => V b ∨ b = w.heap.size) κ' := ⟨fun b h => .inl (hb.v0 b h), fun b hv => hv.elim (hb.v1 b) (fun e => .inr (.inr (e ▸ hf.size))), hb'.k⟩
    have := Inv.set (w := w.alloc (.cells cells et)) (d := s) (a := .val (.lst false e') (.lst xs)) (k := .leaf) (v := .slice (some ⟨w.heap.size, 0, none⟩) len len) (hf.alloc _) hcv hbv hsn hfx
     ⟨[.slice (some ⟨w.heap.size, 0, none⟩) len len], ⟨xs, rfl, .inr ⟨w.heap.size, 0, len, cells, et, (0, 0), ks, by rw [hxl'], ⟨by omega, by omega⟩, z4H w _, by rw [hcsz]; omega, by
      intro i x hx
      obtain ⟨c, h1, h2, h3⟩ := hE.el i x hx
      rw [hcells, Nat.zero_add, zEB L i c hLc h1]
      exact (h3.alloc hc.lt _).frame (fun _ _ => rfl) (fun _ _ => rfl) (fun _ h => .inl h), by
       rw [if_neg (by simp)]
       exact ⟨.inr rfl, by simp, hpl⟩⟩⟩, rfl⟩
     (by simp [K.blocks]) (by simp [K.blocks]) (by simp [K.blocks]) (by simp [K.blocks]) (by simp [K.blocks])
    rw [hS] at this
    refine hn _ _ _ hk ?_
    rw [St.apply_append]; exact this
   rw [if_neg hfr] at hk
   have := Inv.set (w := w.alloc (.cells cells et)) (d := s) (a := .val (.lst true e') (.lst xs)) (k := .lst w.heap.size 0 len xs.length ks) (v := .slice (some ⟨w.heap.size, 0, none⟩) len len) (hf.alloc _) (hE.conc.alloc _) hb' hsn hfx
    ⟨[.slice (some ⟨w.heap.size, 0, none⟩) len len], ⟨xs, rfl, .inr ⟨w.heap.size, 0, len, cells, et, (0, 0), ks, by rw [hxl'], ⟨by omega, by omega⟩, z4H w _, by rw [hcsz]; omega, by
     intro i x hx
     obtain ⟨c, h1, h2, h3⟩ := hE.el i x hx
     rw [hcells, Nat.zero_add, zEB L i c hLc h1]
     exact h3.alloc hc.lt _, by simp [Free]⟩⟩, rfl⟩
    (by
      rw [K.nodup_lst]
      exact ⟨fun i hi hm => by have := hksl i hi _ hm; omega, hE.nd, hE.dd⟩)
    (by
      intro s' _ b hm hm'
      rcases hmem b hm with rfl | ⟨i, hi, h⟩
      ·have := hE.conc.bl s' _ hm'; omega
      ·exact hE.dj i hi s' b h hm')
    (by
      intro b hm hV
      rcases hmem b hm with rfl | ⟨i, hi, h⟩
      ·have := hc.lt _ hV; omega
      ·exact hE.dv i hi b h hV)
    (by
      intro b hm
      rw [z2y]
      rcases hmem b hm with rfl | ⟨i, hi, h⟩
      ·omega
      ·have := hksl i hi b h; omega)
    (by
      intro b hm
      rcases hmem b hm with rfl | ⟨i, hi, h⟩
      ·exact .inr hf.size
      ·obtain ⟨s', hs'⟩ := hE.src i hi b h; exact hb.k s' b hs')
   rw [hS] at this
   refine hn _ _ _ hk ?_
   rw [St.apply_append]; exact this
end Go.Own
namespace Go.Own
variable [Glb]
open Go
variable {P : Program} {Γ : Env} {E : Entry} {S : St} {act : Act} {w : World} {X : Ctr} {Kt : Wr → Prop} {next : Act → World → Prop}
theorem zBk (ok : EnvOk P Γ) {dst : Option Nat} {t : TypeId} {x y : Operand} (h : (z61 Γ dst t x y).wp X S Kt) (hi : Inv Γ E S act w) (hn : z2V Γ E S Kt next) :
 ∃ v w', (Instr.makeSlice t (act.eval x) (act.eval y)).run P w = .ok v w' ∧ next (act.put dst v) w' := by
 obtain ⟨hf, κ, V, hc, hb⟩ := hi
 obtain ⟨a, hk, ho⟩ := z0V h hc
 obtain ⟨b, hk, ho2⟩ := z0V hk hc
 cases a with
 | val τ m =>
   cases τ with
   | int k1 =>
     cases b with
     | val τ2 n =>
       cases τ2 with
       | int k2 =>
         simp only [A.wp] at hk
         obtain ⟨⟨hmn, h0, hls, hsm, hby⟩, hk⟩ := hk
         obtain ⟨hv, _⟩ := z5C ho
         obtain ⟨hv2, _⟩ := z5C ho2
         obtain ⟨et, hu, he, hok⟩ := Fits.lst ok hls
         obtain ⟨i, hi, hs, z, hz, hzl, hzrep⟩ := ok.info et hok
         rw [he] at hs hzl hzrep
         obtain ⟨et', i', hu', hi', heb⟩ := ok.eb t hls
         rw [hu] at hu'; cases hu'
         rw [hi] at hi'; cases hi'
         have hn63 : n.i ≤ 9223372036854775807 := by unfold smax at hsm; omega
         have hrun := Go.run_make (P := P) w t et i z hu hi hz k1 k2 m.i n.i (by omega) (by omega) (by
          rw [heb]
          have : ((n.i.toNat * Γ.eb t : Nat) : Int) ≤ ((140737488355328 : Nat) : Int) := Int.ofNat_le.2 hby
          rw [Int.natCast_mul, Int.toNat_of_nonneg h0, Int.mul_comm] at this
          exact Int.le_trans this (by decide)) hn63
         rw [hv, hv2]
         refine ⟨_, _, hrun, ?_⟩
         obtain ⟨κz, hκz, hr, _⟩ := hzrep (w.alloc (.cells (madeCells z.cells (n.i.toNat * i.size)) et)).heap V
         have hmz : (madeCells z.cells (n.i.toNat * i.size)).size = n.i.toNat * i.size := size_madeCells _ _
         refine zFi (k := .lst w.heap.size 0 n.i.toNat n.i.toNat (fun _ => κz)) hk hf hc hb ?_ ?_ ?_ hn
         ·intro d _
          refine ⟨[.slice (some ⟨w.heap.size, 0, none⟩) n.i.toNat n.i.toNat], ⟨_, rfl, .inr ⟨w.heap.size, 0, n.i.toNat, _, et, (0, 0), fun _ => κz, by rw [List.length_replicate], ⟨by rw [List.length_replicate]; exact Nat.le_refl _, by rw [List.length_replicate]; exact hsm⟩, z4H w _, by rw [hmz, hs]; omega, ?_, by rw [List.length_replicate]; exact ⟨fun o _ => by simp, by rw [z0U]⟩⟩⟩, by rw [hmn]; rfl⟩
          intro j x hx
          rw [List.getElem?_replicate] at hx
          split at hx
          ·rename_i hj
           cases hx
           have : ((madeCells z.cells (n.i.toNat * i.size)).toList.drop (0 + j * (Γ.ty t).elem.size)).take (Γ.ty t).elem.size = z.cells.toList := by
            apply List.ext_getElem?
            intro q
            rw [z0Z]
            by_cases hq : q < (Γ.ty t).elem.size
            ·rw [if_pos hq]
             have hlt : j * (Γ.ty t).elem.size + q < n.i.toNat * i.size := by
              rw [hs]
              have : (j + 1) * (Γ.ty t).elem.size ≤ n.i.toNat * (Γ.ty t).elem.size := Nat.mul_le_mul_right _ (by omega)
              rw [Nat.add_mul, Nat.one_mul] at this; omega
             have hzs : z.cells.size = (Γ.ty t).elem.size := by rw [← hzl]; simp
             simp only [madeCells, Nat.zero_add, Array.toList_map, List.getElem?_map]
             rw [Array.toList_range, List.getElem?_range hlt]
             simp only [Option.map_some, hzs]
             rw [show (j * (Γ.ty t).elem.size + q) % (Γ.ty t).elem.size = q by rw [Nat.mul_comm, Nat.mul_add_mod, Nat.mod_eq_of_lt hq]]
             have hq' : q < z.cells.size := by rw [hzs]; exact hq
             simp [hq']
            ·rw [if_neg hq, List.getElem?_eq_none (by rw [hzl]; omega)]
           rw [this]; exact hr
          ·cases hx
         ·intro b hb'; simp [K.blocks, hκz] at hb'; exact hb'
         ·rw [K.nodup_lst]; simp [hκz]
       | _ => exact hk.elim
     | _ => exact hk.elim
   | _ => exact hk.elim
 | _ => exact hk.elim
theorem zE3 {dst : Option Nat} {x : Operand} {j : Nat} (h : (z1q Γ dst x j).wp X S Kt) (hi : Inv Γ E S act w) (hn : z2V Γ E S Kt next) :
 ∃ v, (Instr.extract (act.eval x) j).run P w = .ok v w ∧ next (act.put dst v) w := by
 obtain ⟨hf, κ, V, hc, hb⟩ := hi
 unfold z1q at h
 split at h
 ·rename_i t s
  simp only [A.wp] at h
  have hcv := hc.cv t
  generalize hS : S t = c at h hcv
  obtain ⟨a, ver⟩ := c
  cases a with
  | tup ty d =>
    simp only [A.wp] at h
    obtain ⟨hh, h⟩ := h
    obtain ⟨cs, hr, vs, htm, hvs⟩ := hcv
    obtain ⟨c1, cj, c2, hcs, hlen, hj, hin, hndj, hre⟩ := Rep.fld j hr hh
    have hcut : (cs.drop (ty.off j)).take (ty.fld j).size = cj := by
     rw [hcs, ← hlen, List.drop_left, ← hj.length, List.take_left]
    have hv := hvs j hh
    rw [hcut] at hv
    refine ⟨z0Q (ty.fld j) cj, by rw [zE2, htm]; simp only [Instr.extract, hv]; rfl, ?_⟩
    by_cases hp : (ty.fld j).plain = true
    ·rw [if_pos hp] at h
     exact z08 h hf hc hb ⟨hp, cj, by rw [← hj.plain_leaf hp]; exact hj, rfl⟩ hn
    ·rw [if_neg hp] at h
     simp only [A.wp] at h
     obtain ⟨⟨hsn, hfx, hne⟩, h⟩ := h
     obtain ⟨hR, hN, hM⟩ := hre (h' := w.heap) (V' := V) hj.moved (hc.nd t) (fun _ _ _ => rfl) (fun _ _ => rfl) (fun _ h => h)
     have hset : d.setFld j (d.fld j) = d := hr.setFld_self j hh
     rw [hset, ← hcs] at hR
     have hm' : ∀ b, b ∈ ((κ t).setFld j (ty.fld j).k0).blocks → b ∈ (κ t).blocks ∧ b ∉ ((κ t).fld j).blocks := by
      intro b hb'
      rcases hM b hb' with h | h
      ·simp at h
      ·exact h
     have hshape : (ty.setFld j (ty.fld j).moved).shape = ty.shape := by
      have := T.set_shape [.f j] (t := ty) (x := (ty.fld j).moved) (by simp [hh]) (by simpa using T.moved_shape _)
      simpa using this
     have hcc := hc.set t (a := .tup (ty.setFld j (ty.fld j).moved) d) (k := (κ t).setFld j (ty.fld j).k0) (v := tmOf act t)
      ⟨cs, by simpa using hR, vs, htm, fun i hi => by
       have hsh := T.shape_has i hshape
       have h1 := hvs i (by rw [← hsh.1]; exact hi)
       rw [hsh.2.1, T.shape_size hsh.2.2, h1]
       unfold z0Q; rw [T.shape_agg hsh.2.2]⟩
      (hN (by simp) (by simp)) (fun s' hs' b hb' => hc.dj t s' (Ne.symm hs') b (hm' b hb').1) (fun b hb' => hc.dv t b (hm' b hb').1) (fun b hb' => hc.bl t b (hm' b hb').1)
     rw [z2l] at hcc
     have hb' : Bnd E V (updK κ t ((κ t).setFld j (ty.fld j).k0)) := ⟨hb.v0, hb.v1, fun s' b hm => by
      by_cases hst : s' = t
      ·subst hst; rw [z0U] at hm; exact hb.k s' b (hm' b hm).1
      ·rw [z09 _ _ hst] at hm; exact hb.k s' b hm⟩
     have := Inv.set (d := s) (a := .val (ty.fld j) (d.fld j)) (k := (κ t).fld j) (v := z0Q (ty.fld j) cj) hf hcc hb' hsn hfx ⟨cj, by simpa using hj, rfl⟩ (hndj (hc.nd t))
      (by
        intro s' hs' b hm
        by_cases hst : s' = t
        ·subst hst; rw [z0U]; exact fun h => (hm' b h).2 hm
        ·rw [z09 _ _ hst]; exact hc.dj t s' (Ne.symm hst) b (hin b hm))
      (fun b hm => hc.dv t b (hin b hm)) (fun b hm => hc.bl t b (hin b hm)) (fun b hm => hb.k t b (hin b hm))
     refine hn _ _ _ h ?_
     rw [St.put_other _ _ (Ne.symm hne), hS] at this
     simpa [St.apply] using this
  | _ => exact h.elim
 ·exact h.elim
end Go.Own
