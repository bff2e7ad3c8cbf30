/- A layer over the walk: what lies in memory as plain data, each operation by what it does to data; part 8. -/
import Derived.Test.YtkogmjbmbpcbeaaGreatDoorOwL
import Derived.IntWalk
set_option linter.unusedSectionVars false
set_option linter.unusedVariables false
set_option linter.unusedSimpArgs false
namespace Go.Own
variable [Glb]
open Go
variable {P : Program} {Γ : Env} {E : Entry} {S : St} {act : Act} {w : World} {X : Ctr} {Kt : Wr → Prop}
theorem z5F {P : Program} {Γ : Env} (ok : EnvOk P Γ) {t : TypeId} (ht : (Γ.ty t).ok = true) {h V τ d κ cs b o} {w w' : World} (hr : Rep h V τ d κ cs) (hs : τ.sound = true) (hv : τ.view = (Γ.ty t).view)
 (hst : (storeCells ⟨b, o, none⟩ cs).run P w = .ok () w') : (storeVar t ⟨b, o, none⟩ (z0Q τ cs)).run P w = .ok () w' := by
 have hk := T.view_kind hv
 have hc := z7K hr hs
 unfold storeVar
 rw [Sem.run_bind, ok.sizeOf ht]
 simp only [Result.andThen_ok]
 have hsz : (z0Q τ cs).cells.size = (Γ.ty t).size := by
  rw [← Array.length_toList, hc, hr.length, hk.2]
 rw [if_neg (by simp [hsz]), hc]
 exact hst
theorem z4z (ok : EnvOk P Γ) {t : TypeId} {x y : Operand} (h : (z6o Γ t x y).wp X S Kt) (hi : Inv Γ E S act w) {next : Act → World → Prop} (hn : z2V Γ E S Kt next) :
 ∃ w', (Instr.storeAt t (act.eval x) (act.eval y)).run P w = .ok () w' ∧ next act w' := by
 obtain ⟨hf, κ, V, hc, hb⟩ := hi
 obtain ⟨a, hk, ho⟩ := z0V h hc
 cases a with
 | ptr r ver p =>
   obtain ⟨tr, dr, bx, hroot, hk⟩ := z0h hk
   simp only [A.wp] at hk
   obtain ⟨⟨hl, hok, hbx⟩, hk⟩ := hk
   obtain ⟨b, o, hloc, hv⟩ := ho.2 tr dr bx hroot hl hok
   obtain ⟨ty, d, ws, κ', kx, hk, ht⟩ := z4A hk hc
   simp only [A.wp] at hk
   obtain ⟨⟨hview, hty, hsz, hrw⟩, hk⟩ := hk
   have hb' := hb.taken ht
   obtain ⟨cs, hrep, hval⟩ := ht.rep
   have hS1 : (S.apply ws) r = S r := St.apply_other ws S hrw
   have hK1 : κ' r = κ r := ht.oth r hrw
   have hroot1 : ((S.apply ws) r).root = some (tr, dr, bx) := by rw [hS1]; exact hroot
   have hsound : ty.sound = true := by
    rw [← T.view_sound, hview, T.view_sound]; exact ok.sound t hty
   have hlt : ∀ b, b ∈ kx.blocks → b < w.heap.size := fun b hb => let ⟨s, hs⟩ := ht.src b hb; hc.bl s b hs
   have hshape : ∀ (hs : (tr.at p).shape = ty.shape), _ := fun hs => Conc.store (P := P) ht.conc hroot1 hok (by rw [hK1]; exact hloc) hrep hs hsound hsz ht.nd ht.dj ht.dv hlt
   have fin : ∀ {c' : Cl} {arr}, b ∈ (κ' r).blocks → (∃ κ2, Conc (w.setRow b arr).heap (tmOf act) V ((S.apply ws).put r c') κ2 ∧ ∀ s b, b ∈ (κ2 s).blocks → b ∈ kx.blocks ∨ ∃ s, b ∈ (κ' s).blocks) → Kt (ws ++ [(r, c')]) → next act (w.setRow b arr) := by
    intro c' arr hbr ⟨κ2, hc2, hm2⟩ hK
    refine hn _ _ _ hK ⟨hf.write (hb'.1.k r b hbr), κ2, V, ?_, hb.v0, hb.v1, fun s b h => (hm2 s b h).elim (hb'.2 b) (fun ⟨s, hs⟩ => hb'.1.k s b hs)⟩
    rw [St.apply_append]; exact hc2
   by_cases h1 : ty.plain = true ∧ tr.at p = ty
   ·rw [if_pos h1] at hk
    obtain ⟨arr, hrun, hbr, _, hA, _⟩ := hshape (by rw [h1.2])
    refine ⟨_, by rw [hv, hval]; exact z5F ok hty hrep hsound hview hrun, ?_⟩
    refine fin hbr ⟨κ', ?_, fun s b h => .inr ⟨s, h⟩⟩ (by simpa [A.wp, hS1] using hk)
    have := hA ⟨h1.2.symm, h1.1⟩
    rwa [hS1] at this
   ·rw [if_neg h1] at hk
    by_cases h2 : depth p = 0
    ·rw [if_pos h2] at hk
     simp only [A.wp] at hk
     obtain ⟨arr, hrun, hbr, _, _, hB⟩ := hshape hk.1
     refine ⟨_, by rw [hv, hval]; exact z5F ok hty hrep hsound hview hrun, ?_⟩
     refine fin hbr ?_ (by simpa [hS1] using hk.2)
     have := hB h2
     rwa [hS1] at this
    ·rw [if_neg h2] at hk
     simp only [A.wp] at hk
     obtain ⟨arr, hrun, hbr, hA, _, _⟩ := hshape (by rw [hk.1])
     refine ⟨_, by rw [hv, hval]; exact z5F ok hty hrep hsound hview hrun, ?_⟩
     refine fin hbr ?_ (by simpa [hS1] using hk.2)
     have := hA ⟨hk.1.symm, .inl h2⟩
     rwa [hS1] at this
 | _ => exact hk.elim
end Go.Own
namespace Go.Own
variable [Glb]
open Go
variable {P : Program} {Γ : Env} {E : Entry} {S : St} {act : Act} {w : World} {X : Ctr} {Kt : Wr → Prop}
theorem z1B.moved {h : Heap} {V : Nat → Prop} {t : T} : ∀ {d κ cs}, z1B h V t d κ cs → Rep h V t.moved d t.moved.k0 cs := by
 induction t with
 | pair a b iha ihb =>
   rintro d κ cs ⟨c1, c2, rfl, hd, h1, h2⟩
   exact ⟨_, _, _, _, c1, c2, hd, rfl, rfl, iha h1, ihb h2⟩
 | lst o e ih =>
   intro d κ cs hr
   cases o with
   | false => exact hr
   | true => rcases hr with ⟨_, rfl⟩ | ⟨b, off, c, n, ks, _, rfl⟩ <;> exact ⟨rfl, rfl⟩
 | _ => intro d κ cs hr; exact hr
theorem z1B.len {h : Heap} {V : Nat → Prop} {t : T} {d κ cs} (hr : z1B h V t d κ cs) : cs.length = t.size := by
 rw [hr.moved.length]; exact T.shape_size (T.moved_shape t)
theorem z1B.one {h : Heap} {V : Nat → Prop} {t : T} : ∀ {d κ cs}, z1B h V t d κ cs → t.sound = true → ∀ v ∈ cs, v.oneCell' = true := by
 induction t with
 | pair a b iha ihb =>
   rintro d κ cs ⟨c1, c2, rfl, hd, h1, h2⟩ hs v hv
   simp only [T.sound, Bool.and_eq_true] at hs
   rcases List.mem_append.1 hv with h | h
   ·exact iha h1 hs.1 v h
   ·exact ihb h2 hs.2 v h
 | lst o e ih =>
   intro d κ cs hr hs v hv
   cases o with
   | false => exact Rep.one (t := .lst false e) hr hs v hv
   | true => rcases hr with ⟨_, rfl⟩ | ⟨b, off, c, n, ks, _, rfl⟩ <;> (simp at hv; subst hv; rfl)
 | unit => intro d κ cs hr hs; exact Rep.one (t := .unit) hr hs
 | int k => intro d κ cs hr hs; exact Rep.one (t := .int k) hr hs
 | bool => intro d κ cs hr hs; exact Rep.one (t := .bool) hr hs
 | str => intro d κ cs hr hs; exact Rep.one (t := .str) hr hs
 | ptr e ih => intro d κ cs hr hs; exact Rep.one (t := .ptr e) hr hs
 | fn f c ih => intro d κ cs hr hs; exact Rep.one (t := .fn f c) hr hs
 | err => intro d κ cs hr hs; exact Rep.one (t := .err) hr hs
 | gone => intro d κ cs hr hs; simp at hs
theorem Keeps.same {h : Heap} {V : Nat → Prop} {S : St} {κ : Nat → K} {r : Nat} {c : Cl} (hv : c.v = (S r).v) (hr : c.root = (S r).root) : Keeps h V S (S.put r c) κ (updK κ r (κ r)) r := by
 have e : updK κ r (κ r) = κ := by funext i; unfold updK; split <;> simp_all
 rw [e]
 refine ⟨fun ver p t d v h => ?_, fun ver p e lo n v h => ?_, fun ver p v h => ?_⟩
 ·unfold RefC at *; rw [St.put_same, hv, hr]; exact h
 ·unfold WinC at *; rw [St.put_same, hv, hr]; exact h
 ·unfold PtrC at *; rw [St.put_same, hv, hr]; exact h
theorem Conc.relabel {h : Heap} {tm V S κ} (hc : Conc h tm V S κ) {r : Nat} {c : Cl} (hv : c.v = (S r).v) (hr : c.root = (S r).root) (hcv : CV h V (S.put r c) κ r (tm r) c.av) : Conc h tm V (S.put r c) κ := by
 have e : updK κ r (κ r) = κ := by funext i; unfold updK; split <;> simp_all
 have := hc.turn (c := c) (k := κ r) (v := tm r) (Keeps.same hv hr) (by rw [e]; exact hcv) (hc.nd r) (fun s hs b hb => hc.dj r s (Ne.symm hs) b hb) (hc.dv r) (hc.bl r)
 rwa [z2l, e] at this
theorem z5I (ok : EnvOk P Γ) {t : TypeId} {x y : Operand} (h : (z5D Γ t x y).wp X S Kt) (hi : Inv Γ E S act w) {next : Act → World → Prop} (hn : z2V Γ E S Kt next) :
 ∃ w', (Instr.storeAt t (act.eval x) (act.eval y)).run P w = .ok () w' ∧ next act w' := by
 unfold z5D at h
 split at h
 case h_2 => exact z4z ok h hi hn
 rename_i s u
 simp only [A.wp] at h
 split at h
 case h_2 => exact z4z ok h hi hn
 rename_i tb db hroot0
 simp only [A.wp] at h
 split at h
 case h_2 => exact z4z ok h hi hn
 rename_i r v p ty d hav
 simp only [A.wp] at h
 split at h
 case h_2 => exact z4z ok h hi hn
 rename_i tr dr bx hroot
 split at h
 case isFalse => exact z4z ok h hi hn
 simp only [A.wp] at h
 obtain ⟨⟨hl, hat, hok, hag, hsh, hview, hty, hsz, hrs, hsn⟩, hk⟩ := h
 obtain ⟨hf, κ, V, hc, hb⟩ := hi
 have hcu := hc.cv u
 rw [hav] at hcu
 obtain ⟨hku, hru, hrc⟩ := hcu
 obtain ⟨cs, href, hval⟩ := hrc.2 tr dr bx hroot hl hat hok
 obtain ⟨cs0, hrep0, _, _, _, _, hcase⟩ := hc.root hroot0
 rcases hcase with ⟨hb2, _⟩ | ⟨_, hset, b, κ0, arr, ty0, hks, htm, hh, rfl⟩
 ·cases hb2
 have hsound : ty.sound = true := by
  rw [← T.view_sound, hview, T.view_sound]; exact ok.sound t hty
 have hlen : cs.length = arr.size := by
  have h1 := hrep0.length
  rw [href.len, ← T.shape_size hsh, ← h1]; simp
 have hspl : spl arr.toList 0 cs = cs := by
  unfold spl
  rw [List.drop_eq_nil_of_le (by simp; omega)]; simp
 have hrun : (storeCells ⟨b, 0, none⟩ cs).run P w = .ok () (w.setRow b cs.toArray) := by
  have := z2u P b 0 ty0 (0, 0) cs 0 arr w hh (fun o _ => by simp) (by omega) (href.one hsound)
  rw [Nat.zero_add, hspl] at this
  exact this
 have hcells : (z0Q ty cs).cells.toList = cs := by unfold z0Q; rw [if_pos hag]; rfl
 have hk2 := T.view_kind hview
 have hst : (storeVar t ⟨b, 0, none⟩ (z0Q ty cs)).run P w = .ok () (w.setRow b cs.toArray) := by
  unfold storeVar
  rw [Sem.run_bind, ok.sizeOf hty]
  simp only [Result.andThen_ok]
  have hsz2 : (z0Q ty cs).cells.size = (Γ.ty t).size := by
   rw [← Array.length_toList, hcells, href.len, hk2.2]
  rw [if_neg (by simp [hsz2]), hcells]
  exact hrun
 have e1 : act.eval (.tmp s) = .pointer (some ⟨b, 0, none⟩) := htm
 have e2 : act.eval (.tmp u) = z0Q ty cs := hval
 refine ⟨_, by rw [e1, e2]; exact hst, ?_⟩
 -- the state behind
 have hbs : b ∈ (κ s).blocks := by rw [hks]; simp [K.blocks]
 have hbV : ¬ V b := hc.dv s b hbs
 have hheap : (w.setRow b cs.toArray).heap[b]? = some (.cells cs.toArray ty0 (0, 0)) := setRow_heap w b arr _ ty0 _ hh
 have hoth : ∀ b', b' ≠ b → (w.setRow b cs.toArray).heap[b']? = w.heap[b']? := fun b' h => z5G _ _ _ h
 have hvk : ∀ b', V b' → (w.setRow b cs.toArray).heap[b']? = w.heap[b']? := fun b' h => hoth b' (fun e => hbV (e ▸ h))
 have hmv : Rep (w.setRow b cs.toArray).heap V ty.moved d ty.moved.k0 cs := href.moved.frame (fun b' hb' => by rw [T.k0_blocks] at hb'; simp at hb') hvk (fun _ h => h)
 have hr1 := Cl.setRoot_root (t' := ty.moved) (d' := d) (v := (S s).v.head) hroot0
 have hc1 := hc.reroot (h' := (w.setRow b cs.toArray).heap) (t' := ty.moved) (d' := d) (v := (S s).v.head) (k0 := ty.moved.k0) hroot0
  (Keeps.head hr1.2 hroot0 hr1.1 (by rw [T.moved_shape]; exact hsh.symm) (z3m _ _ _)) (fun h => by cases h)
  (fun _ b1 κ1 arr1 ty1 hk1 hh1 => by
    rw [hks] at hk1
    simp only [K.lst.injEq] at hk1
    obtain ⟨rfl, _⟩ := hk1
    rw [hh] at hh1; cases hh1
    exact ⟨cs.toArray, ty0, hheap, hmv⟩)
  (by simp) (fun b' hb' => by simp at hb') (fun s' hs b' hb' => hoth b' (fun e => hc.dj s' s hs b' hb' (e ▸ hbs))) hvk (by rw [z4v]; exact Nat.le_refl _)
 have hp1 : (S.put s ((S s).setRoot ty.moved d (S s).v.head)) s = ⟨.box ty.moved d, (S s).v.head⟩ := by
  rw [St.put_same]
  have h1 := hset ty.moved d (S s).v.head
  have h2 := hr1.2
  generalize (S s).setRoot ty.moved d (S s).v.head = c at h1 h2
  obtain ⟨a, ver⟩ := c
  simp only at h1 h2
  rw [h1, h2]
 have hpp : (S.put s ((S s).setRoot ty.moved d (S s).v.head)).put s ⟨.bref ty d r v p, (S s).v.head⟩ = S.put s ⟨.bref ty d r v p, (S s).v.head⟩ := by
  funext i; unfold St.put; split <;> rfl
 have hc2 := hc1.relabel (r := s) (c := ⟨.bref ty d r v p, (S s).v.head⟩) (by rw [hp1]) (by rw [hp1]; rfl) (by
  refine ⟨b, ty.moved.k0, cs.toArray, ty0, by rw [z0U]; simp [z1C, hks], htm, hheap, hmv, hag, hrs, ?_⟩
  have hrc' : RefC (w.setRow b cs.toArray).heap V S κ r v p ty d (.agg cs.toArray) := by
   have := hrc.frame (h' := (w.setRow b cs.toArray).heap) hvk (fun _ h => h)
   rw [hval] at this
   unfold z0Q at this
   rw [if_pos hag] at this
   exact this
  unfold RefC at hrc' ⊢
  rw [hpp, St.put_other _ _ hrs, z09 _ _ hrs]; exact hrc')
 rw [hpp] at hc2
 refine hn _ _ _ hk ⟨hf.write (hb.k s b hbs), _, V, hc2, hb.v0, hb.v1, fun s' b' hb' => ?_⟩
 by_cases hs : s' = s
 ·subst hs
  rw [z0U] at hb'
  simp only [z1C, hks, if_true, K.blocks, List.mem_cons, List.mem_flatMap, List.mem_range] at hb'
  rcases hb' with rfl | ⟨_, _, hb'⟩
  ·exact hb.k s' _ hbs
  ·simp at hb'
 ·rw [z09 _ _ hs] at hb'; exact hb.k s' b' hb'
theorem z5w (ok : EnvOk P Γ) {dst : Option Nat} {t : TypeId} {x : Operand} (h : (z6n Γ dst t x).wp X S Kt) (hi : Inv Γ E S act w) {next : Act → World → Prop} (hn : z2V Γ E S Kt next) :
 ∃ v, (Instr.loadAt t (act.eval x)).run P w = .ok v w ∧ next (act.put dst v) w := by
 unfold z6n at h
 split at h
 case h_2 => exact z9M ok h hi hn
 rename_i s
 simp only [A.wp] at h
 split at h
 case h_2 => exact z9M ok h hi hn
 rename_i ty d r v p hav
 split at h
 case isTrue => exact z9M ok h hi hn
 simp only [A.wp] at h
 split at h
 case h_2 => exact h.elim
 rename_i tr dr bx hroot
 simp only [A.wp] at h
 obtain ⟨⟨hl, hat, hok, hview, hty⟩, hk⟩ := h
 obtain ⟨hf, κ, V, hc, hb⟩ := hi
 have hcs := hc.cv s
 rw [hav] at hcs
 obtain ⟨b, κ0, arr, ty0, hks, htm, hh, hmv, hag, hrs, hrc⟩ := hcs
 obtain ⟨cs, href, hval⟩ := hrc.2 tr dr bx hroot hl hat hok
 have hcs2 : cs = arr.toList := by
  unfold z0Q at hval
  rw [if_pos hag] at hval
  have := Value.agg.inj hval
  rw [this]
 subst hcs2
 have e1 : act.eval (.tmp s) = .pointer (some ⟨b, 0, none⟩) := htm
 have hk2 := T.view_kind hview
 refine ⟨.agg arr, ?_, z08 hk hf hc hb (show OV w.heap V S κ _ (.ref r v p ty d) from hrc) hn⟩
 rw [e1]
 simp only [Instr.loadAt, Instr.sureAddr]
 show (loadVar t ⟨b, 0, none⟩).run P w = _
 have hcell : ∀ j v', arr.toList[j]? = some v' → w.cell? ((⟨b, 0, none⟩ : Addr).add j) = some v' := by
  have hm : Mem w.heap b 0 arr.toList := ⟨arr, ty0, (0, 0), hh, fun o _ => by simp, by simp, by rw [List.drop_zero, List.take_of_length_le (Nat.le_refl _)]⟩
  exact Mem.cell hm
 unfold loadVar
 rw [Sem.run_bind, ok.isAgg hty]
 simp only [Result.andThen_ok]
 rw [← hk2.1, if_pos hag, Sem.run_bind, ok.sizeOf hty]
 simp only [Result.andThen_ok]
 rw [← hk2.2, ← href.len, Sem.run_bind, run_loadCells_list w _ _ hcell]
 simp
end Go.Own
namespace Go.Own
variable [Glb]
open Go
variable {P : Program} {Γ : Env} {E : Entry} {S : St} {act : Act} {w : World} {X : Ctr} {Kt : Wr → Prop}
theorem zGC (ok : EnvOk P Γ) {t : TypeId} {x y : Operand} (h : (z8f Γ t x y).wp X S Kt) (hi : Inv Γ E S act w) {next : Act → World → Prop} (hn : z2V Γ E S Kt next) :
 ∃ w', (Instr.storeAt t (act.eval x) (act.eval y)).run P w = .ok () w' ∧ next act w' := by
 unfold z8f at h
 split at h
 case h_2 => exact z5I ok h hi hn
 rename_i s u
 simp only [A.wp] at h
 split at h
 case h_2 => exact z5I ok h hi hn
 simp only [A.wp] at h
 split at h
 case h_2 => exact z5I ok h hi hn
 split at h
 case isFalse => exact z5I ok h hi hn
 obtain ⟨hf, κ, V, hc, hb⟩ := hi
 obtain ⟨ty, d, ws, κ', kx, hk, ht⟩ := z4A h hc
 have hk := z3O hk
 have ho := ht.conc.copy s
 generalize z4n s ((S.apply ws) s) = a at hk ho
 cases a with
 | ptr r ver p =>
   have hk := z3O hk
   split at hk
   case h_2 => exact hk.elim
   rename_i tr dr bx hroot1
   simp only [A.wp] at hk
   obtain ⟨⟨hl, hok, rfl, hdp, hview, hty, hsz, hsh⟩, hk⟩ := hk
   have hb' := hb.taken ht
   obtain ⟨cs, hrep, hval⟩ := ht.rep
   obtain ⟨b, o, hloc, hv⟩ := ho.2 tr dr true hroot1 hl hok
   have hsound : ty.sound = true := by
    rw [← T.view_sound, hview, T.view_sound]; exact ok.sound t hty
   have hlt : ∀ b, b ∈ kx.blocks → b < w.heap.size := fun b hb => let ⟨s, hs⟩ := ht.src b hb; hc.bl s b hs
   obtain ⟨arr, hrun, hbr, _, _, hB⟩ := Conc.store (P := P) ht.conc hroot1 hok hloc hrep hsh hsound hsz ht.nd ht.dj ht.dv hlt
   obtain ⟨κ2, hc2, hm2⟩ := hB hdp
   refine ⟨w.setRow b arr, ?_, ?_⟩
   ·have hv' : act.eval (.tmp s) = .pointer (some ⟨b, o, none⟩) := hv
    rw [hv', hval]
    exact z5F ok hty hrep hsound hview hrun
   ·refine hn _ _ _ hk ⟨hf.write (hb'.1.k r b hbr), κ2, V, ?_, hb.v0, hb.v1, fun s b h => (hm2 s b h).elim (hb'.2 b) (fun ⟨s, hs⟩ => hb'.1.k s b hs)⟩
    rw [St.apply_append]; exact hc2
 | _ => exact hk.elim
end Go.Own
namespace Go.Own
variable [Glb]
open Go
variable {P : Program} {Γ : Env} {E : Entry} {S : St} {act : Act} {w : World} {X : Ctr} {Kt : Wr → Prop} {next : Act → World → Prop}
theorem z4B (k : IntKind) (n : Int) : k.min ≤ k.wrap n ∧ k.wrap n ≤ k.max := by
 cases k <;> simp only [IntKind.wrap, IntKind.min, IntKind.max, IntKind.bits, IntKind.signed] <;> simp <;> (try split) <;> omega
theorem z41 {h V κ} (k : IntKind) (n : Int) (hn : k.min ≤ n ∧ n ≤ k.max) : OV h V S κ (.int k n) (.val (.int k) (.int n)) := ⟨rfl, _, ⟨n, rfl, rfl, rfl, hn⟩, rfl⟩
theorem z4r {h V κ} (b : Bool) : OV h V S κ (.bool b) (.val .bool (.bool b)) := ⟨rfl, _, ⟨b, rfl, rfl, rfl⟩, rfl⟩
theorem zDk {h V κ} (s : List UInt8) (hs : s.length ≤ smax) : OV h V S κ (.string (mkS s)) (.val .str (.str s)) := ⟨rfl, _, ⟨s, rfl, rfl, rfl, hs⟩, rfl⟩
theorem z5C {h V κ v k d} (ho : OV h V S κ v (.val (.int k) d)) : v = .int k d.i ∧ k.min ≤ d.i ∧ d.i ≤ k.max := by
 obtain ⟨_, cs, ⟨n, rfl, _, rfl, hn⟩, rfl⟩ := ho; exact ⟨rfl, hn⟩
theorem zBs {h V κ v d} (ho : OV h V S κ v (.val .bool d)) : v = .bool d.b := by
 obtain ⟨_, cs, ⟨n, rfl, _, rfl⟩, rfl⟩ := ho; rfl
theorem zDf {h V κ v d} (ho : OV h V S κ v (.val .str d)) : v = .string (mkS d.s) ∧ d.s.length ≤ smax := by
 obtain ⟨_, cs, ⟨n, rfl, _, rfl, hn⟩, rfl⟩ := ho; exact ⟨rfl, hn⟩
theorem zEM {n : Nat} (h : n ≤ smax) : IntKind.i64.min ≤ (n : Int) ∧ (n : Int) ≤ IntKind.i64.max := by
 unfold smax at h; simp [IntKind.min, IntKind.max, IntKind.signed, IntKind.bits]; omega
theorem Conc.list {h : Heap} {tm V κ} (hc : Conc h tm V S κ) {r : Nat} {tr dr bx} (hroot : (S r).root = some (tr, dr, bx)) {p : Path} {e : T} (hat : tr.at p = .lst true e) (hok : Ok tr dr p) :
 ∃ cs, Rep h V (.lst true e) (dr.get p) ((base bx (κ r)).get p) cs ∧ (dr.get p).l.length ≤ smax := by
 obtain ⟨cs0, hr, _⟩ := hc.at hroot hok
 rw [hat] at hr
 refine ⟨cs0, hr, ?_⟩
 obtain ⟨xs, h, ⟨rfl, _⟩ | ⟨b, off, c, arr, ty, fz, ks, _, hl, _⟩⟩ := hr
 ·rw [h]; simp [smax]
 ·rw [h]; exact hl.2
theorem Conc.refl_list {h : Heap} {tm V κ} (hc : Conc h tm V S κ) {r : Nat} {tr dr bx} (hroot : (S r).root = some (tr, dr, bx)) {p : Path} {e : T} (hat : tr.at p = .lst true e) (hok : Ok tr dr p) {ver d v}
 (hl : z1Q ver (S r).v (depth p)) (ho : RefC h V S κ r ver p (.lst true e) d v) :
 (v = .slice none 0 0 ∧ (dr.get p).l = [] ∧ (base bx (κ r)).get p = .leaf) ∨ ∃ b off c arr ty fz ks, v = .slice (some ⟨b, off, none⟩) (dr.get p).l.length c ∧ (base bx (κ r)).get p = .lst b off c (dr.get p).l.length ks ∧ zIp (dr.get p).l.length c ∧ h[b]? = some (.cells arr ty fz) ∧ Free fz arr.size ∧ off + c * e.size ≤ arr.size ∧
   (∀ i x, (dr.get p).l[i]? = some x → Rep h V e x (ks i) ((arr.toList.drop (off + i * e.size)).take e.size)) := by
 obtain ⟨cs, hr, _⟩ := hc.list hroot hat hok
 obtain ⟨cs', href, rfl⟩ := ho.2 tr dr bx hroot hl hat hok
 obtain ⟨xs, hx, ⟨rfl, hk, _, rfl, _⟩ | ⟨b, off, c, arr, ty, fz, ks, rfl, hlen, hh, hs, he, hown⟩⟩ := hr
 ·left
  rcases href with ⟨_, rfl⟩ | ⟨b, off, c, n, ks, h1, _⟩
  ·exact ⟨rfl, by rw [hx]; rfl, hk⟩
  ·rw [hk] at h1; cases h1
 ·right
  simp at hown
  rcases href with ⟨h1, _⟩ | ⟨b', off', c', n', ks', h1, rfl⟩
  ·rw [hown.2] at h1; cases h1
  ·rw [hown.2] at h1; simp only [K.lst.injEq] at h1; obtain ⟨rfl, rfl, rfl, rfl, _⟩ := h1
   rw [hx]
   exact ⟨b, off, c, arr, ty, fz, ks, rfl, hown.2, hlen, hh, hown.1.low, hs, he⟩
theorem zLo {h V κ v o e d} (ho : OV h V S κ v (.val (.lst o e) d)) : ∃ A c, v = .slice A d.l.length c ∧ d.l.length ≤ smax := by
 obtain ⟨_, cs, ⟨xs, rfl, ⟨rfl, _, A, rfl, hA⟩ | ⟨b, off, c, arr, ty, fz, ks, rfl, hlen, _⟩⟩, rfl⟩ := ho
 ·exact ⟨A, 0, rfl, by simp [smax]⟩
 ·exact ⟨_, c, rfl, hlen.2⟩
theorem zKs {h V κ v o e d} (ho : OV h V S κ v (.val (.lst o e) d)) : ∃ A c, v = .slice A d.l.length c ∧ (A.isNone = true → d.l = []) := by
 obtain ⟨_, cs, ⟨xs, rfl, ⟨rfl, _, A, rfl, hA⟩ | ⟨b, off, c, arr, ty, fz, ks, rfl, hlen, _⟩⟩, rfl⟩ := ho
 ·exact ⟨A, 0, rfl, fun _ => rfl⟩
 ·exact ⟨_, c, rfl, fun h => by cases h⟩
theorem Fits.lst {t : TypeId} (ok : EnvOk P Γ) (h : (Γ.ty t).lsts = true) : ∃ et, P.underlying t = some (.slice et) ∧ Γ.ty et = (Γ.ty t).elem ∧ (Γ.ty et).ok = true := by
 have hf := ok.fits t (by revert h; cases Γ.ty t <;> simp)
 generalize Γ.ty t = T at hf h
 cases T <;> simp at h
 obtain ⟨_, et, hu, he, hok⟩ := hf
 exact ⟨et, hu, he, by rw [he]; exact hok⟩
theorem zJR (ok : EnvOk P Γ) {dst : Option Nat} {t : TypeId} {ats : Array TypeId} {ty : TypeId} {x : Operand} (ha : ats[0]? = some t) (h : (zKv Γ dst t x).wp X S Kt) (hi : Inv Γ E S act w) (hn : z2V Γ E S Kt next) :
 ∃ v, (Builtin.len_ ats ty #[act.eval x]).run P w = .ok v w ∧ next (act.put dst v) w := by
 obtain ⟨hf, κ, V, hc, hb⟩ := hi
 obtain ⟨a, hk, ho⟩ := z0V h hc
 have slice : ∀ {A n c}, act.eval x = .slice A n c → (Γ.ty t).lsts = true → (Builtin.len_ ats ty #[act.eval x]).run P w = .ok (.int .i64 n) w := by
  intro A n c hv hl
  obtain ⟨et, hu, _⟩ := Fits.lst ok hl
  rw [hv]
  simp only [Builtin.len_, ha, List.getElem?_toArray, List.getElem?_cons_zero, Sem.run_bind, run_underlying hu, Result.andThen_ok]
  rfl
 cases a with
 | val τ d =>
   cases τ with
   | str =>
     simp only [A.wp] at hk
     obtain ⟨hv, hs⟩ := zDf ho
     have hu : P.underlying t = some .string := by have := ok.fits t (by rw [hk.1]; rfl); rw [hk.1] at this; exact this
     refine ⟨_, ?_, z08 hk.2 hf hc hb (z41 _ _ (zEM hs)) hn⟩
     rw [hv]
     simp only [Builtin.len_, ha, List.getElem?_toArray, List.getElem?_cons_zero, Sem.run_bind, run_underlying hu, Result.andThen_ok]
     rfl
   | lst o e =>
     simp only [A.wp] at hk
     obtain ⟨A, c, hv, hs⟩ := zLo ho
     exact ⟨_, slice hv hk.1, z08 hk.2 hf hc hb (z41 _ _ (zEM hs)) hn⟩
   | _ => exact hk.elim
 | ref r ver p τ d =>
   cases τ with
   | lst o e =>
     cases o with
     | true =>
       obtain ⟨tr, dr, bx, hroot, hk⟩ := z0h hk
       simp only [A.wp] at hk
       obtain ⟨⟨hl, hat, hok, hls⟩, hk⟩ := hk
       obtain ⟨cs, _, hs⟩ := hc.list hroot hat hok
       have hv : ∃ A c, act.eval x = .slice A (dr.get p).l.length c := by
        rcases hc.refl_list hroot hat hok hl ho with ⟨h1, h2, _⟩ | ⟨b, off, c, _, _, _, _, h1, _⟩
        ·exact ⟨none, 0, by rw [h2]; exact h1⟩
        ·exact ⟨_, c, h1⟩
       obtain ⟨A, c, hv⟩ := hv
       exact ⟨_, slice hv hls, z08 hk hf hc hb (z41 _ _ (zEM hs)) hn⟩
     | false => exact hk.elim
   | _ => exact hk.elim
 | win r ver p e lo n =>
   obtain ⟨tr, dr, bx, hroot, hk⟩ := z0h hk
   simp only [A.wp] at hk
   obtain ⟨⟨hl, hat, hok, hls, hs⟩, hk⟩ := hk
   have hv : ∃ A c, act.eval x = .slice A n c := by
    rcases ho.2 tr dr bx hroot hl hat hok with ⟨_, _, rfl, h1⟩ | ⟨b, off, c, m, ks, _, _, h1 | ⟨_, rfl, h1⟩⟩
    ·exact ⟨_, _, h1⟩
    ·exact ⟨_, _, h1⟩
    ·exact ⟨_, _, h1⟩
   obtain ⟨A, c, hv⟩ := hv
   exact ⟨_, slice hv hls, z08 hk hf hc hb (z41 _ _ (zEM hs)) hn⟩
 | nil =>
   simp only [A.wp] at hk
   exact ⟨_, slice (n := 0) ho hk.1, z08 hk.2 hf hc hb (z41 _ 0 (by simp [IntKind.min, IntKind.max, IntKind.signed, IntKind.bits])) hn⟩
 | _ => exact hk.elim
end Go.Own
