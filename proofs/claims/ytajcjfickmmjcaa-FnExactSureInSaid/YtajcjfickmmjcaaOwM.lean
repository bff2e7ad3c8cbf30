/- A layer over the walk: what lies in memory as plain data, each operation by what it does to data; part 17. -/
import Derived.Test.YtajcjfickmmjcaaOwL
set_option linter.unusedVariables false
set_option linter.unusedSimpArgs false
namespace Go.Own
open Go

variable {P : Program} {Γ : Env} {E : Entry} {S : St} {act : Act} {w : World} {X : Ctr} {Kt : Wr → Prop}

theorem Bnd.taken {ws ty d v κ V κ' k} {tm : Nat → Value} (hb : Bnd E V κ) (ht : Taken w tm V S κ ws ty d v κ' k) : Bnd E V κ' ∧ ∀ b, b ∈ k.blocks → b ∈ E.t ∨ E.w.heap.size ≤ b :=
  ⟨⟨hb.v0, hb.v1, fun s b h => hb.k s b (ht.sub s b h)⟩, fun b h => let ⟨s, hs⟩ := ht.src b h; hb.k s b hs⟩

theorem toVal_size {h : Heap} {V t d κ cs} (hr : Rep h V t d κ cs) (hs : t.sound = true) : (toVal t cs).cells.toList = cs :=
  toVal_cells (fun h => by subst h; simp at hs) hr

theorem T.view_sound {t : T} : t.view.sound = t.sound := by
  induction t with
  | pair a b iha ihb => simp [iha, ihb]
  | lst o e => rfl
  | _ => rfl

theorem Fr.write (hf : Fr Γ E act w) {b : Nat} {arr : Array Value} (hb : b ∈ E.t ∨ E.w.heap.size ≤ b) : Fr Γ E act (w.setRow b arr) :=
  ⟨⟨hf.same.os, hf.same.tape, hf.same.output⟩, fun b' h1 h2 => by
    rw [setRow_other]
    · exact hf.frame b' h1 h2
    · rintro rfl; exact hb.elim h2 (fun h => by omega), by rw [setRow_size]; exact hf.size, hf.n, hf.fx, hf.df⟩

theorem T.shape_agg {t u : T} (h : t.shape = u.shape) : t.agg = u.agg := by
  cases t <;> cases u <;> first | rfl | (simp at h)

/-- a write at a place, of what is taken -/
theorem Conc.store {κ V} {tm : Nat → Value} (hc : Conc w.heap tm V S κ) {r : Nat} {tr dr bx} (hroot : (S r).root = some (tr, dr, bx)) {p : Path} (hok : Ok tr dr p) {b o : Nat}
    (hloc : loc tr (base bx (κ r)) (addr bx (κ r)) p = some (b, o)) {ty d k cs} (hrep : Rep w.heap V ty d k cs) (hsz : (tr.at p).shape = ty.shape) (hs1 : ty.sound = true) (hs0 : ty.size ≠ 0)
    (hnd : k.blocks.Nodup) (hdj : ∀ s b, b ∈ k.blocks → b ∉ (κ s).blocks) (hdv : ∀ b, b ∈ k.blocks → ¬ V b) (hlt : ∀ b, b ∈ k.blocks → b < w.heap.size) :
    ∃ arr, (storeCells ⟨b, o, none⟩ cs).run P w = .ok () (w.setRow b arr) ∧ b ∈ (κ r).blocks ∧
      ((ty = tr.at p ∧ (depth p ≠ 0 ∨ ty.plain = true)) → ∃ κ', Conc (w.setRow b arr).heap tm V (S.put r ((S r).setRoot tr (dr.set p d) (S r).v.cont)) κ' ∧ ∀ s b, b ∈ (κ' s).blocks → b ∈ k.blocks ∨ ∃ s, b ∈ (κ s).blocks) ∧
      (depth p = 0 → ∃ κ', Conc (w.setRow b arr).heap tm V (S.put r ((S r).setRoot (tr.set p ty) (dr.set p d) (S r).v.head)) κ' ∧ ∀ s b, b ∈ (κ' s).blocks → b ∈ k.blocks ∨ ∃ s, b ∈ (κ s).blocks) := by
  obtain ⟨cr, hrepr, hm, hndr, hab, hbin, hcase⟩ := hc.root hroot
  obtain ⟨cs0, hR0, hM0, hIn0, hNd0, hL0, hW0⟩ := Rep.place p hrepr hm hok hndr (fun b o he => (hab b o he).1)
  rw [hloc] at hM0
  obtain ⟨arr, tya, fz, g1, g2, g3, g4⟩ := hM0
  have hlen : cs.length = cs0.length := by rw [hrep.length, hR0.length]; exact (T.shape_size hsz).symm
  have hbr : b ∈ (κ r).blocks := by
    rcases (hL0 b o hloc).2 with h | ⟨o', h⟩
    · exact hbin b h
    · exact (hab b o' h).2
  have hbk : b ∉ k.blocks := fun h => hdj r b h hbr
  have hbV : ¬ V b := hc.dv r b hbr
  refine ⟨(spl arr.toList o cs).toArray, ?_, hbr, ?_⟩
  · have := run_storeCells_free P b o tya fz cs 0 arr w g1 g2 (by rw [hlen]; simpa using g3) (hrep.one hs1)
    simpa using this
  have hheap : (w.setRow b (spl arr.toList o cs).toArray).heap[b]? = some (.cells (spl arr.toList o cs).toArray tya fz) := setRow_heap w b arr _ tya _ g1
  have hwrote : Wrote w.heap (w.setRow b (spl arr.toList o cs).toArray).heap b o cs := ⟨arr, tya, fz, g1, by rw [hlen]; exact g3, hheap⟩
  have hoth : ∀ b', b' ≠ b → (w.setRow b (spl arr.toList o cs).toArray).heap[b']? = w.heap[b']? := fun b' h => setRow_other _ _ _ h
  have hvk : ∀ b', V b' → (w.setRow b (spl arr.toList o cs).toArray).heap[b']? = w.heap[b']? := fun b' h => hoth b' (fun e => hbV (e ▸ h))
  have hrep' : Rep (w.setRow b (spl arr.toList o cs).toArray).heap V ty d k cs := hrep.frame (fun b' h => hoth b' (fun e => hbk (e ▸ h))) hvk (fun _ h => h)
  have hkr : ∀ b', b' ∈ k.blocks → b' ∉ (base bx (κ r)).blocks := fun b' h h2 => hdj r b' h (hbin b' h2)
  have hslots : ∀ s, s ≠ r → ∀ b', b' ∈ (κ s).blocks → (w.setRow b (spl arr.toList o cs).toArray).heap[b']? = w.heap[b']? :=
    fun s hs b' h => hoth b' (fun e => hc.dj s r hs b' h (e ▸ hbr))
  have hz : w.heap.size ≤ (w.setRow b (spl arr.toList o cs).toArray).heap.size := by rw [setRow_size]; exact Nat.le_refl _
  have fin : ∀ {t' d' v k0}, Keeps w.heap V S (S.put r ((S r).setRoot t' d' v)) κ (updK κ r (rebase bx (κ r) k0)) r →
      (∀ cs2 : List Value, True) → (∃ cs2, Rep (w.setRow b (spl arr.toList o cs).toArray).heap V t' d' k0 cs2 ∧ (∀ b' o', addr bx (κ r) = some (b', o') → Wrote w.heap (w.setRow b (spl arr.toList o cs).toArray).heap b' o' cs2) ∧ (addr bx (κ r) = none → cs2 = cr) ∧ t'.shape = tr.shape) →
      k0.blocks.Nodup → (∀ b', b' ∈ k0.blocks → b' ∈ k.blocks ∨ b' ∈ (base bx (κ r)).blocks) →
      ∃ κ', Conc (w.setRow b (spl arr.toList o cs).toArray).heap tm V (S.put r ((S r).setRoot t' d' v)) κ' ∧ ∀ s b, b ∈ (κ' s).blocks → b ∈ k.blocks ∨ ∃ s, b ∈ (κ s).blocks := by
    intro t' d' v k0 hkeep _ hcs2 hnd0 hmem
    obtain ⟨cs2, hR2, hA2, hA0, hagg⟩ := hcs2
    refine ⟨_, hc.reroot hroot hkeep ?_ ?_ hnd0 ?_ hslots hvk hz, ?_⟩
    · intro hbx cs' hr' htm
      rcases hcase with ⟨_, _, htm', hn⟩ | ⟨hb2, _⟩
      · refine ⟨cs2, hR2, ?_⟩
        rw [htm', hA0 hn]; unfold toVal; rw [T.shape_agg hagg]
      · rw [hbx] at hb2; cases hb2
    · intro hbx b0 κ0 arr0 ty0 hk0 hh0
      have ha : addr bx (κ r) = some (b0, 0) := by subst hbx; simp [addr, hk0]
      obtain ⟨arr1, ty1, fz1, e1, e2, e3⟩ := hA2 b0 0 ha
      rw [hh0] at e1; cases e1
      refine ⟨_, ty0, e3, ?_⟩
      have hl2 : cs2.length = arr0.size := by
        rw [hR2.length]
        rcases hcase with ⟨hb2, _⟩ | ⟨_, _, b', κ0', arr', ty', hk', _, hh', hcr⟩
        · rw [hbx] at hb2; cases hb2
        · rw [hk'] at hk0; simp only [K.lst.injEq] at hk0; obtain ⟨rfl, _⟩ := hk0
          rw [hh'] at hh0; cases hh0
          have := hrepr.length
          rw [hcr] at this
          have hs : t'.size = tr.size := T.shape_size hagg
          rw [hs, ← this]; simp
      have : (spl arr0.toList 0 cs2).toArray.toList = cs2 := by
        simp [spl]; omega
      rw [this]; exact hR2
    · intro b' hb'
      rcases hmem b' hb' with h | h
      · exact .inr ⟨fun s => hdj s b' h, hdv b' h, by rw [setRow_size]; exact hlt b' h⟩
      · exact .inl h
    · intro s b' hb'
      by_cases hs : s = r
      · subst hs
        rw [updK_same] at hb'
        cases bx with
        | false =>
          simp only [rebase] at hb'
          exact (hmem b' hb').imp id (fun h => ⟨s, hbin b' h⟩)
        | true =>
          obtain ⟨b0, κ0, hk0⟩ := hc.addr_box hroot rfl
          simp only [rebase, hk0, if_true, K.blocks, List.mem_cons, List.mem_flatMap, List.mem_range] at hb'
          rcases hb' with rfl | ⟨_, _, hb'⟩
          · exact .inr ⟨s, by rw [hk0]; simp [K.blocks]⟩
          · exact (hmem b' hb').imp id (fun h => ⟨s, hbin b' h⟩)
      · rw [updK_other _ _ hs] at hb'; exact .inr ⟨s, hb'⟩
  refine ⟨?_, ?_⟩
  · rintro ⟨rfl, hpl⟩
    obtain ⟨cs2, hR2, hA2, hn2, hN2, hM2⟩ := hW0 hloc hrep' hwrote (fun b' _ _ hne => hoth b' hne) (fun b' _ _ hne => hoth b' hne) hvk (fun _ h => h)
    refine fin (Keeps.cont (Cl.setRoot_root hroot).2 hroot (Cl.setRoot_root hroot).1 ?_ ?_ (addr_rebase _ _ _)) (fun _ => trivial) ⟨cs2, hR2, hA2, hn2, rfl⟩ (hN2 (fun b' h => .inl (hkr b' h)) hnd) (fun b' h => (hM2 b' h).imp id (fun h => h.1))
    · rw [base_rebase (fun h => hc.addr_box hroot h)]
      exact SimK.set p hok (fun hd => SimK.plain (hpl.resolve_left (fun h => h hd)) _ _)
    · exact SimD.set p hok (fun hd => SimD.plain (hpl.resolve_left (fun h => h hd)) _ _)
  · intro hd
    have hf := ok_flat_of p hd hok
    obtain ⟨c1, c0, c2, hcs, hl1, hrf, hinf, hndf, hre⟩ := Rep.flat p hrepr hf
    rw [loc_flat p hd] at hloc
    rcases hcase with ⟨rfl, _, _, hn⟩ | ⟨rfl, _, b', κ0', arr', ty', hk', _, hh', hcr⟩
    · rw [hn] at hloc; simp at hloc
    · have ha : addr true (κ r) = some (b', 0) := by simp [addr, hk']
      rw [ha] at hloc
      simp at hloc
      obtain ⟨rfl, ho⟩ := hloc
      rw [hh'] at g1; cases g1
      obtain ⟨hR, hN, hM⟩ := hre hrep' hndr (fun x hx hx' => hoth x (fun e => (hab b' 0 ha).1 (e ▸ hx))) hvk (fun _ h => h)
      have hc0 : c0.length = cs.length := by rw [hrf.length, hrep.length]; exact T.shape_size hsz
      have hspl : spl arr.toList o cs = c1 ++ (cs ++ c2) := by
        rw [← hcr, hcs, ← ho, ← hl1]
        unfold spl
        rw [List.take_left, List.drop_append, List.drop_eq_nil_of_le (by omega), ← hc0]
        simp
      refine fin (Keeps.head (Cl.setRoot_root hroot).2 hroot (Cl.setRoot_root hroot).1 (T.set_shape p hf hsz.symm) (addr_rebase _ _ _)) (fun _ => trivial) ⟨c1 ++ (cs ++ c2), hR, ?_, ?_, T.set_shape p hf hsz.symm⟩
        (hN (fun x hx => .inl (hkr x hx)) hnd) (fun x h => (hM x h).imp id (fun h => h.1))
      · intro b2 o2 h2
        rw [ha] at h2; cases h2
        refine ⟨arr, _, _, hh', ?_, ?_⟩
        · have := congrArg List.length hspl
          rw [spl_length (by rw [hlen]; simpa using g3)] at this
          simp at this ⊢; omega
        · rw [hheap, hspl]
          have : spl arr.toList 0 (c1 ++ (cs ++ c2)) = c1 ++ (cs ++ c2) := by
            have h3 := congrArg List.length hspl
            rw [spl_length (by rw [hlen]; simpa using g3)] at h3
            unfold spl
            rw [List.drop_eq_nil_of_le (by omega)]
            simp
          rw [this]
      · intro h2; rw [ha] at h2; cases h2

end Go.Own
