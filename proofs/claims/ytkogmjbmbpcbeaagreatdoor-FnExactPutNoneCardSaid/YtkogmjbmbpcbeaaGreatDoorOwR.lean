/- A layer over the walk: what lies in memory as plain data, each operation by what it does to data; part 10. -/
import Derived.Test.YtkogmjbmbpcbeaaGreatDoorOwP
set_option linter.unusedSectionVars false
set_option linter.unusedVariables false
set_option linter.unusedSimpArgs false
namespace Go.Own
variable [Glb]
open Go
variable {P : Program} {Γ : Env} {E : Entry} {S : St} {act : Act} {w : World} {X : Ctr} {Kt : Wr → Prop} {next : Act → World → Prop}
theorem T.at_append : ∀ (p q : Path) (t : T), t.at (p ++ q) = (t.at p).at q := by
 intro p
 induction p with
 | nil => intros; rfl
 | cons s p ih => intro q t; cases s <;> simp [ih]
theorem D.get_append : ∀ (p q : Path) (d : D), d.get (p ++ q) = (d.get p).get q := by
 intro p
 induction p with
 | nil => intros; rfl
 | cons s p ih => intro q t; cases s <;> simp [ih]
theorem K.get_append : ∀ (p q : Path) (d : K), d.get (p ++ q) = (d.get p).get q := by
 intro p
 induction p with
 | nil => intros; rfl
 | cons s p ih => intro q t; cases s <;> simp [K.get, ih]
theorem ok_append : ∀ (p q : Path) {t : T} {d : D}, Ok t d (p ++ q) ↔ Ok t d p ∧ Ok (t.at p) (d.get p) q := by
 intro p
 induction p with
 | nil => intros; simp
 | cons s p ih =>
   intro q t d
   cases s <;> simp only [List.cons_append, Ok, T.at, D.get, ih, and_assoc]
theorem depth_append : ∀ (p q : Path), depth (p ++ q) = depth p + depth q := by
 intro p
 induction p with
 | nil => intros; simp
 | cons s p ih => intro q; cases s <;> simp [ih]; omega
theorem zIU : ∀ (p q : Path) {t : T} {κ : K} {A : Pt} {a}, loc t κ A p = some a → loc t κ A (p ++ q) = loc (t.at p) (κ.get p) (some a) q := by
 intro p
 induction p with
 | nil => intro q t κ A a h; simp [loc] at h; simp [K.get, h]
 | cons s p ih =>
   intro q t κ A a h
   cases s with
   | f j => simp only [List.cons_append, loc] at h ⊢; exact ih q h
   | i n =>
     cases κ with
     | lst b off c m ks => simp only [List.cons_append, loc] at h ⊢; exact ih q h
     | _ => simp [loc] at h
theorem zHI (b o n : Nat) : (⟨b, o, none⟩ : Addr).add n = ⟨b, o + n, none⟩ := by unfold Addr.add; split <;> simp_all
theorem Fits.field {t : TypeId} (ok : EnvOk P Γ) {j : Nat} (h : (Γ.ty t).has j = true) : ∃ fs f, P.underlying t = some (.struct fs) ∧ fs[j]? = some f ∧ f.offset = (Γ.ty t).off j ∧ Γ.ty f.type = (Γ.ty t).fld j ∧ ((Γ.ty t).fld j).ok = true := by
 have hf := ok.fits t (by revert h; cases Γ.ty t <;> simp)
 generalize Γ.ty t = T at hf h
 cases T with
 | pair a b =>
   obtain ⟨fs, hu, hj, _⟩ := hf
   obtain ⟨f, h1, h2, h3, h4⟩ := hj j h
   exact ⟨fs, f, hu, h1, h2, h3, h4⟩
 | _ => simp at h
theorem T.view_shape (t : T) : t.view.shape = t.shape := by induction t <;> first | rfl | simp_all
theorem zCa {t : TypeId} (ok : EnvOk P Γ) {j : Nat} (h : (Γ.ty t).has j = true) (hs : ((Γ.ty t).fld j).size ≠ 0) (b o : Nat) :
 (Instr.fieldAt t (.pointer (some ⟨b, o, none⟩)) j).run P w = .ok (.pointer (some ⟨b, o + (Γ.ty t).off j, none⟩)) w := by
 obtain ⟨fs, f, hu, hj, hoff, hty, hok⟩ := Fits.field ok h
 have hsz := ok.sizeOf (t := f.type) (by rw [hty]; exact hok) w
 rw [hty] at hsz
 simp only [Instr.fieldAt, Sem.run_bind, run_underlying hu, Result.andThen_ok, hj, Instr.sureAddr, Sem.run_pure, fieldPlace, hsz, if_neg hs, hoff, zHI]
theorem T.plain_fld : ∀ (j : Nat) {e : T}, e.has j = true → e.plain = true → (e.fld j).plain = true := by
 intro j
 induction j with
 | zero => intro e hh hp; cases e <;> simp at hh ⊢; simp at hp; exact hp.1
 | succ j ih => intro e hh hp; cases e <;> simp at hh ⊢; simp at hp; exact ih hh hp.2
theorem zBB (ok : EnvOk P Γ) {dst : Option Nat} {t : TypeId} {x : Operand} {j : Nat} (h : (z2t Γ dst t x j).wp X S Kt) (hi : Inv Γ E S act w) (hn : z2V Γ E S Kt next) :
 ∃ v, (Instr.fieldAt t (act.eval x) j).run P w = .ok v w ∧ next (act.put dst v) w := by
 obtain ⟨hf, κ, V, hc, hb⟩ := hi
 obtain ⟨a, hk, ho⟩ := z0V h hc
 cases a with
 | ptr r ver p =>
   obtain ⟨tr, dr, bx, hroot, hk⟩ := z0h hk
   simp only [A.wp] at hk
   obtain ⟨⟨hl, hok, hbx, hshape, hhas, hsz⟩, hk⟩ := hk
   obtain ⟨b, o, hloc, hv⟩ := ho.2 tr dr bx hroot hl hok
   have hsh := T.shape_has j hshape
   refine ⟨_, by rw [hv]; exact zCa ok hhas hsz b o, z08 hk hf hc hb ?_ hn⟩
   refine ⟨zMS _ _, fun tr' dr' bx' hr' _ hok' => ?_⟩
   rw [hroot] at hr'; cases hr'
   refine ⟨b, o + (Γ.ty t).off j, ?_, rfl⟩
   rw [zIU p _ hloc]
   simp [loc, hsh.2.1]
 | val τ d =>
   cases τ with
   | ptr e =>
     simp only [A.wp] at hk
     obtain ⟨⟨hview, hhas, hsz⟩, hk⟩ := hk
     obtain ⟨hp, cs, ⟨_, hpe, b, o, arr, tt, fz, ke, rfl, hV, hh, hs, he⟩, hv⟩ := ho
     have hsh := T.shape_has j (t := e) (u := Γ.ty t) (by rw [← T.view_shape e, ← T.view_shape (Γ.ty t), hview])
     have hsz' : ((Γ.ty t).fld j).size ≠ 0 := by rw [← T.shape_size hsh.2.2]; exact hsz
     refine ⟨_, by rw [hv]; exact zCa ok (hsh.1 ▸ hhas) hsz' b o, z08 hk hf hc hb ?_ hn⟩
     obtain ⟨c1, cj, c2, hcs, hlen, hj, _⟩ := Rep.fld j he hhas
     have hel := he.length
     refine ⟨rfl, _, ⟨rfl, ?_, b, o + (Γ.ty t).off j, arr, tt, fz, ke.fld j, rfl, hV, hh, ?_, ?_⟩, rfl⟩
     ·exact T.plain_fld j hhas hpe
     ·rw [hcs] at hel
      have := hj.length
      simp at hel
      rw [← hsh.2.1, ← hlen]; omega
     ·have : (arr.toList.drop (o + (Γ.ty t).off j)).take (e.fld j).size = cj := by
       apply List.ext_getElem?
       intro k
       have h1 := z0Z arr.toList o e.size (e.off j + k)
       rw [hcs] at h1
       rw [z0Z, ← hsh.2.1, show o + e.off j + k = o + (e.off j + k) by omega]
       have h2 := hj.length
       simp [hcs] at hel
       by_cases hk2 : k < (e.fld j).size
       ·rw [if_pos hk2]
        rw [if_pos (by omega), List.getElem?_append_right (by omega), hlen, show e.off j + k - e.off j = k by omega, List.getElem?_append_left (by omega)] at h1
        exact h1.symm
       ·rw [if_neg hk2, List.getElem?_eq_none (by omega)]
      rw [this]; exact hj
   | _ => exact hk.elim
 | _ => exact hk.elim
theorem z7y {t : TypeId} (ok : EnvOk P Γ) (h : (Γ.ty t).lsts = true) {k : IntKind} {i : Int} {b o n c : Nat} (h0 : 0 ≤ i) (h1 : i < n) :
 (Instr.indexAt t (.slice (some ⟨b, o, none⟩) n c) (.int k i)).run P w = .ok (.pointer (some ⟨b, o + i.toNat * (Γ.ty t).elem.size, none⟩)) w := by
 obtain ⟨et, hu, he, hok⟩ := Fits.lst ok h
 have hsz := ok.sizeOf hok w
 rw [he] at hsz
 simp only [Instr.indexAt, asIntOf, Sem.run_bind, Sem.run_pure, run_underlying hu, Result.andThen_ok, if_pos (show 0 ≤ i ∧ i < (n : Int) from ⟨h0, h1⟩), hsz, zHI]
theorem zGt {b off c m : Nat} {ks : Nat → K} {e : T} {n : Nat} : ∀ (q : Path) {t : T} {κ : K} {A : Pt}, κ.get q = .lst b off c m ks → t.at q = .lst true e → loc t κ A (q ++ [.i n]) = some (b, off + n * e.size) := by
 intro q
 induction q with
 | nil => intro t κ A hq ht; simp [K.get] at hq; simp at ht; subst hq ht; simp [loc]
 | cons s q ih =>
   intro t κ A hq ht
   cases s with
   | f j => simp only [List.cons_append, loc]; exact ih hq ht
   | i m =>
     cases κ with
     | lst b' off' c' m' ks' => simp only [List.cons_append, loc]; exact ih hq ht
     | _ =>
       simp only [K.get, K.nth] at hq
       have hleaf : ∀ q, K.leaf.get q = .leaf := by
        intro q; induction q with
        | nil => rfl
        | cons s q ih => cases s <;> simpa [K.get, K.fld, K.nth] using ih
       rw [hleaf] at hq; cases hq
theorem zBa (ok : EnvOk P Γ) {dst : Option Nat} {t : TypeId} {x y : Operand} (h : (z60 Γ dst t x y).wp X S Kt) (hi : Inv Γ E S act w) (hn : z2V Γ E S Kt next) :
 ∃ v, (Instr.indexAt t (act.eval x) (act.eval y)).run P w = .ok v w ∧ next (act.put dst v) w := by
 obtain ⟨hf, κ, V, hc, hb⟩ := hi
 obtain ⟨a, hk, ho⟩ := z0V h hc
 obtain ⟨b, hk, ho2⟩ := z0V hk hc
 cases b with
 | val τ2 n =>
   cases τ2 with
   | int kd =>
     obtain ⟨hv2, _⟩ := z5C ho2
     cases a with
     | ref r ver p τ d =>
       cases τ with
       | lst o e =>
         cases o with
         | false => exact hk.elim
         | true =>
           obtain ⟨tr, dr, bx, hroot, hk⟩ := z0h hk
           simp only [A.wp] at hk
           obtain ⟨⟨hl, hat, hok, hview, hls, h0, h1⟩, hk⟩ := hk
           rcases hc.refl_list hroot hat hok hl ho with ⟨_, h2, _⟩ | ⟨b, off, c, arr, ty, fz, ks, hv, hkk, hlen, _⟩
           ·rw [h2] at h1; simp at h1; omega
           ·have hes : (Γ.ty t).elem.size = e.size := by rw [← T.view_size, ← hview, T.view_size]
            refine ⟨_, by rw [hv, hv2]; exact z7y ok hls h0 h1, z08 hk hf hc hb ?_ hn⟩
            refine ⟨Ver.le_refl _, fun tr' dr' bx' hr' _ hok' => ?_⟩
            rw [hroot] at hr'; cases hr'
            refine ⟨b, _, ?_, rfl⟩
            rw [hes]
            exact zGt p hkk hat
       | _ => exact hk.elim
     | win r ver p e lo m =>
       obtain ⟨tr, dr, bx, hroot, hk⟩ := z0h hk
       simp only [A.wp] at hk
       obtain ⟨⟨hl, hat, hok, hview, hls, h0, h1, h2⟩, hk⟩ := hk
       have hes : (Γ.ty t).elem.size = e.size := by rw [← T.view_size, ← hview, T.view_size]
       rcases ho.2 tr dr bx hroot hl hat hok with ⟨_, _, rfl, _⟩ | ⟨b, off, c, m', ks, hkk, hle, hv | ⟨_, rfl, _⟩⟩
       ·simp at h1; omega
       ·refine ⟨_, by rw [hv, hv2]; exact z7y ok hls h0 h1, z08 hk hf hc hb ?_ hn⟩
        refine ⟨Ver.le_refl _, fun tr' dr' bx' hr' _ hok' => ?_⟩
        rw [hroot] at hr'; cases hr'
        refine ⟨b, _, ?_, rfl⟩
        rw [hes, Nat.add_assoc, ← Nat.add_mul]
        exact zGt p hkk hat
       ·simp at h1; omega
     | val τ d =>
       cases τ with
       | lst o e =>
         cases o with
         | true => exact hk.elim
         | false =>
           simp only [A.wp] at hk
           obtain ⟨⟨hview, hls, h0, h1⟩, hk⟩ := hk
           obtain ⟨hp, cs, ⟨xs, rfl, ⟨rfl, _, A, rfl, hA⟩ | ⟨b, off, c, arr, ty, fz, ks, rfl, hlen, hh, hs, he, hV⟩⟩, hv⟩ := ho
           ·simp at h1; omega
           ·simp at hV h1
            have hes : (Γ.ty t).elem.size = e.size := by rw [← T.view_size, ← hview, T.view_size]
            have hlt : n.i.toNat < xs.length := by omega
            have hx : xs[n.i.toNat]? = some (xs.getD n.i.toNat .unit) := by simp [List.getElem?_eq_getElem hlt]
            have hel := he _ _ hx
            refine ⟨_, by rw [hv, hv2]; exact z7y ok hls h0 h1, z08 hk hf hc hb ?_ hn⟩
            refine ⟨rfl, _, ⟨rfl, hV.2, b, _, arr, ty, fz, ks n.i.toNat, rfl, hV.1, hh, ?_, ?_⟩, rfl⟩
            ·have h3 : (n.i.toNat + 1) * e.size ≤ c * e.size := Nat.mul_le_mul_right _ (by have := hlen.1; omega)
             rw [Nat.add_mul, Nat.one_mul] at h3
             rw [hes]; omega
            ·rw [hes]; simpa [D.nth] using hel
       | _ => exact hk.elim
     | _ => exact hk.elim
   | _ => exact hk.elim
 | _ => cases a <;> exact hk.elim
end Go.Own
namespace Go.Own
variable [Glb]
open Go
variable {P : Program} {Γ : Env} {E : Entry} {S : St} {act : Act} {w : World} {X : Ctr} {Kt : Wr → Prop} {next : Act → World → Prop}
theorem z3r (w : World) (o : Obj) {b : Nat} (h : b < w.heap.size) : (w.alloc o).heap[b]? = w.heap[b]? := by
 simp only [World.alloc]; rw [Array.getElem?_push, if_neg (by omega)]
theorem z4H (w : World) (o : Obj) : (w.alloc o).heap[w.heap.size]? = some o := by show (w.heap.push o)[w.heap.size]? = some o; simp
theorem z2y (w : World) (o : Obj) : (w.alloc o).heap.size = w.heap.size + 1 := by show (w.heap.push o).size = _; simp
theorem Conc.alloc {tm V κ} (hc : Conc w.heap tm V S κ) (o : Obj) : Conc (w.alloc o).heap tm V S κ :=
 hc.frame (fun s b hb => z3r w o (hc.bl s b hb)) (fun b hb => z3r w o (hc.lt b hb)) (fun _ h => h) hc.dv
  (fun b hb => by rw [z2y]; have := hc.lt b hb; omega) (by rw [z2y]; omega)
theorem Fr.alloc (hf : Fr Γ E act w) (o : Obj) : Fr Γ E act (w.alloc o) :=
 ⟨⟨hf.same.os, hf.same.tape, hf.same.output⟩, fun b h1 h2 => by rw [z3r w o (by have := hf.size; omega)]; exact hf.frame b h1 h2, by rw [z2y]; have := hf.size; omega, hf.n, hf.fx, hf.df⟩
theorem Rep.alloc {V t d k cs} (hr : Rep w.heap V t d k cs) (hV : ∀ b, V b → b < w.heap.size) (o : Obj) : Rep (w.alloc o).heap V t d k cs :=
 hr.frame (fun b hb => z3r w o (hr.blocks_lt b hb)) (fun b hb => z3r w o (hV b hb)) (fun _ h => h)
theorem zFi {dst : Option Nat} {a : AV} {v : Value} {cells : Array Value} {ty : TypeId} (h : (out Γ dst a).wp X S Kt) (hf : Fr Γ E act w) {κ V} (hc : Conc w.heap (tmOf act) V S κ) (hb : Bnd E V κ) {k : K}
 (hcv : ∀ d, dst = some d → CV (w.alloc (.cells cells ty)).heap V (S.put d ⟨a, (S d).v.kill⟩) (updK κ d k) d v a) (hk : ∀ b, b ∈ k.blocks → b = w.heap.size) (hnd : k.blocks.Nodup) (hn : z2V Γ E S Kt next) :
 next (act.put dst v) (w.alloc (.cells cells ty)) := by
 refine zEZ (k := k) h (hf.alloc _) (hc.alloc _) hb hcv hnd ?_ ?_ ?_ ?_ hn
 ·intro s b hb' hm; rw [hk b hb'] at hm; have := hc.bl s _ hm; omega
 ·intro b hb' hV; rw [hk b hb'] at hV; have := hc.lt _ hV; omega
 ·intro b hb'; rw [hk b hb', z2y]; omega
 ·intro b hb'; right; rw [hk b hb']; exact hf.size
theorem zGO (ok : EnvOk P Γ) {dst : Option Nat} {t : TypeId} (h : (zEV Γ dst t).wp X S Kt) (hi : Inv Γ E S act w) (hn : z2V Γ E S Kt next) :
 ∃ v w', (Instr.alloc t true (.tuple #[])).run P w = .ok v w' ∧ next (act.put dst v) w' := by
 obtain ⟨hf, κ, V, hc, hb⟩ := hi
 simp only [zEV, A.wp] at h
 obtain ⟨hty, h⟩ := h
 obtain ⟨i, hi, hs, z, hz, hl, hrep⟩ := ok.info t hty
 obtain ⟨κz, hκz, hr, _⟩ := hrep (w.alloc (.cells z.cells t)).heap V
 refine ⟨.pointer (some ⟨w.heap.size, 0, none⟩), w.alloc (.cells z.cells t), ?_, ?_⟩
 ·have hzv : (zeroValue t).run P w = .ok z w := by
   simp only [zeroValue, typeInfo, program, Sem.run_bind, Sem.run, Result.andThen_ok, hi, hz, Sem.run_pure]
  simp only [Instr.alloc, Sem.run_bind, hzv, Result.andThen_ok, newVar, newRow, run_newObj_alloc, Sem.run_pure]
 ·refine zFi (k := .lst w.heap.size 0 1 1 (fun _ => κz)) h hf hc hb ?_ ?_ ?_ hn
  ·intro d _
   exact ⟨w.heap.size, κz, z.cells, t, by simp, rfl, z4H w _, hr⟩
  ·intro b hb'; simp [K.blocks, hκz] at hb'; exact hb'
  ·simp [K.blocks, hκz]
theorem zLw {t : TypeId} {v : Value} : (Instr.box t v).run P w = .ok (.pointer (some ⟨w.heap.size, 0, none⟩)) (w.alloc (.cells v.cells t)) := by
 simp only [Instr.box, Sem.run_bind, newVar, newRow, run_newObj_alloc, Result.andThen_ok, Sem.run_pure]
theorem Taken.box {ws ty d v κ V κ' k} {t : TypeId} (ht : Taken w (tmOf act) V S κ ws ty d v κ' k) (hs : ty.sound = true) (hf : Fr Γ E act w) (hc : Conc w.heap (tmOf act) V S κ) (hb : Bnd E V κ) {s : Nat} (hsn : s < Γ.n) (hfx : s ∉ Γ.fx)
 (hsw : s ∉ ws.map (·.1)) : Inv Γ E (S.apply (ws ++ [(s, ⟨.box ty d, (S s).v.kill⟩)])) (act.put (some s) (.pointer (some ⟨w.heap.size, 0, none⟩))) (w.alloc (.cells v.cells t)) ∧
   ∃ κ2, Conc (w.alloc (.cells v.cells t)).heap (tmOf (act.put (some s) (.pointer (some ⟨w.heap.size, 0, none⟩)))) V (S.apply (ws ++ [(s, ⟨.box ty d, (S s).v.kill⟩)])) κ2 ∧ Bnd E V κ2 ∧ κ2 s = .lst w.heap.size 0 1 1 (fun _ => k) := by
 obtain ⟨cs, hrep, hval⟩ := ht.rep
 have hb' := hb.taken ht
 have hlt : ∀ b, b ∈ k.blocks → b < w.heap.size := hrep.blocks_lt
 have hcells : v.cells.toList = cs := by rw [hval]; exact z7K hrep hs
 have hS : (S.apply ws) s = S s := St.apply_other ws S hsw
 have hkb : ∀ b, b ∈ (K.lst w.heap.size 0 1 1 (fun _ => k)).blocks → b = w.heap.size ∨ b ∈ k.blocks := by
  intro b hm
  simp only [K.blocks, List.mem_cons, List.mem_flatMap, List.mem_range] at hm
  exact hm.imp id (fun ⟨_, _, h⟩ => h)
 have hcv : CV (w.alloc (.cells v.cells t)).heap V ((S.apply ws).put s ⟨.box ty d, (S s).v.kill⟩) (updK κ' s (.lst w.heap.size 0 1 1 (fun _ => k))) s (.pointer (some ⟨w.heap.size, 0, none⟩)) (.box ty d) :=
  ⟨w.heap.size, k, v.cells, t, by simp, rfl, z4H w _, by rw [hcells]; exact hrep.alloc hc.lt _⟩
 have hnd : (K.lst w.heap.size 0 1 1 (fun _ => k)).blocks.Nodup := by
  rw [K.nodup_lst]
  exact ⟨fun _ _ hm => by have := hlt _ hm; omega, fun _ _ => ht.nd, fun i j hi hj hij => by omega⟩
 have hdj : ∀ s' : Nat, ∀ b, b ∈ (K.lst w.heap.size 0 1 1 (fun _ => k)).blocks → b ∉ (κ' s').blocks := by
  intro s' b hm
  rcases hkb b hm with rfl | h
  ·intro hm'; have := ht.conc.bl s' _ hm'; omega
  ·exact ht.dj s' b h
 have hdv : ∀ b, b ∈ (K.lst w.heap.size 0 1 1 (fun _ => k)).blocks → ¬ V b := by
  intro b hm
  rcases hkb b hm with rfl | h
  ·intro hm'; have := hc.lt _ hm'; omega
  ·exact ht.dv b h
 have hbl : ∀ b, b ∈ (K.lst w.heap.size 0 1 1 (fun _ => k)).blocks → b < (w.alloc (.cells v.cells t)).heap.size := by
  intro b hm
  rw [z2y]
  rcases hkb b hm with rfl | h
  ·omega
  ·have := hlt b h; omega
 have hbnd : ∀ b, b ∈ (K.lst w.heap.size 0 1 1 (fun _ => k)).blocks → b ∈ E.t ∨ E.w.heap.size ≤ b := by
  intro b hm
  rcases hkb b hm with rfl | h
  ·exact .inr hf.size
  ·exact hb'.2 b h
 have hsz : s < act.tmps.size := by rw [hf.n]; exact hsn
 have happ : S.apply (ws ++ [(s, ⟨.box ty d, (S s).v.kill⟩)]) = (S.apply ws).put s ⟨.box ty d, (S s).v.kill⟩ := by rw [St.apply_append]; rfl
 rw [happ]
 rw [← hS] at hcv ⊢
 refine ⟨Inv.set (hf.alloc _) (ht.conc.alloc _) hb'.1 hsn hfx hcv hnd (fun s' _ => hdj s') hdv hbl hbnd, updK κ' s (.lst w.heap.size 0 1 1 (fun _ => k)), ?_, ?_, by simp⟩
 ·rw [zEs hsz]
  exact (ht.conc.alloc _).set s hcv hnd (fun s' _ => hdj s') hdv hbl
 ·refine ⟨hb'.1.v0, hb'.1.v1, fun s' b hm => ?_⟩
  by_cases hs' : s' = s
  ·subst hs'; rw [z0U] at hm; exact hbnd b hm
  ·rw [z09 _ _ hs'] at hm; exact hb'.1.k s' b hm
theorem zIv (ok : EnvOk P Γ) {dst : Option Nat} {t : TypeId} {x : Operand} (h : (zJk Γ dst t x).wp X S Kt) (hi : Inv Γ E S act w) (hn : z2V Γ E S Kt next) :
 ∃ v w', (Instr.box t (act.eval x)).run P w = .ok v w' ∧ next (act.put dst v) w' := by
 obtain ⟨hf, κ, V, hc, hb⟩ := hi
 refine ⟨_, _, zLw, ?_⟩
 cases dst with
 | none => exact h.elim
 | some s =>
   simp only [zJk, A.wp] at h
   obtain ⟨⟨hsn, hfx, hty⟩, h⟩ := h
   have gen : (take (Γ.ty t) x fun ty dd ws => .need (ty.view = (Γ.ty t).view ∧ s ∉ ws.map (·.1)) (.ret (ws ++ [(s, ⟨.box ty dd, (S s).v.kill⟩)]))).wp X S Kt → next (act.put (some s) (.pointer (some ⟨w.heap.size, 0, none⟩))) (w.alloc (.cells (act.eval x).cells t)) := by
    intro hk
    obtain ⟨ty, d, ws, κ', kx, hk, ht⟩ := z4A hk hc
    simp only [A.wp] at hk
    obtain ⟨⟨hview, hsw⟩, hk⟩ := hk
    have hsound : ty.sound = true := by rw [← T.view_sound, hview, T.view_sound]; exact ok.sound t hty
    exact hn _ _ _ hk (ht.box hsound hf hc hb hsn hfx hsw).1
   cases x with
   | tmp r =>
     simp only at h
     simp only [A.wp] at h
     generalize hS : S r = c at h
     obtain ⟨a, ver⟩ := c
     cases a with
     | val ty dd =>
       simp only [A.wp] at h
       obtain ⟨⟨hview, hne⟩, h⟩ := h
       have hsound : ty.sound = true := by rw [← T.view_sound, hview, T.view_sound]; exact ok.sound t hty
       by_cases hp : ty.plain = true
       ·rw [if_pos hp] at h
        refine gen ?_
        simp only [take, takeW, askW, look, A.wp, hS]
        rw [if_pos hp]
        exact ⟨⟨hview, by simp⟩, by simpa using h⟩
       ·rw [if_neg hp] at h
        obtain ⟨ty', d', ws, κ', kx, hws, ht⟩ := z4A (k := fun ty' dd' ws => .need (ty' = ty ∧ dd' = dd) (.ret ws)) (Kt := fun ws => ws = [(r, ⟨.undef, ver.kill⟩)]) (x := .tmp r) (want := Γ.ty t) (X := X) (by
         simp only [take, takeW, askW, look, A.wp, hS]
         rw [if_neg hp]
         simp [A.wp]) hc
        simp only [A.wp] at hws
        obtain ⟨⟨rfl, rfl⟩, rfl⟩ := hws
        obtain ⟨hinv, κ2, hc2, hb2, hk2⟩ := ht.box (t := t) hsound hf hc hb hsn hfx (by simpa using Ne.symm hne)
        refine hn _ _ _ h ?_
        have happ : S.apply [(r, ⟨.undef, ver.kill⟩), (s, ⟨.box ty' d', (S s).v.kill⟩), (r, ⟨.ref s (S s).v.kill [] ty' d', ver.kill.kill⟩)] =
         (S.apply ([(r, ⟨.undef, ver.kill⟩)] ++ [(s, ⟨.box ty' d', (S s).v.kill⟩)])).put r ⟨.ref s (S s).v.kill [] ty' d', ver.kill.kill⟩ := rfl
        rw [happ]
        obtain ⟨cs, hrep, hval⟩ := ht.rep
        have hcr := hc2.set r (a := .ref s (S s).v.kill [] ty' d') (k := .leaf) (v := tmOf (act.put (some s) (.pointer (some ⟨w.heap.size, 0, none⟩))) r) ?_ (by simp [K.blocks]) (by simp [K.blocks]) (by simp [K.blocks]) (by simp [K.blocks])
        ·rw [z2l] at hcr
         have hver : ((S.apply ([(r, ⟨.undef, ver.kill⟩)] ++ [(s, ⟨.box ty' d', (S s).v.kill⟩)])) r).v = ver.kill := by
          simp only [List.cons_append, List.nil_append, St.apply]
          rw [St.put_other _ _ hne, St.put_same]
         rw [hver] at hcr
         refine ⟨hinv.fr, _, V, hcr, hb2.v0, hb2.v1, fun s' b hm => ?_⟩
         by_cases hs' : s' = r
         ·subst hs'; simp [K.blocks] at hm
         ·rw [z09 _ _ hs'] at hm; exact hb2.k s' b hm
        ·refine ⟨by simp, Ne.symm hne, ?_⟩
         have hSs : ((S.apply ([(r, ⟨.undef, ver.kill⟩)] ++ [(s, ⟨.box ty' d', (S s).v.kill⟩)])).put r ⟨.ref s (S s).v.kill [] ty' d', ((S.apply ([(r, ⟨.undef, ver.kill⟩)] ++ [(s, ⟨.box ty' d', (S s).v.kill⟩)])) r).v.kill⟩) s = ⟨.box ty' d', (S s).v.kill⟩ := by
          rw [St.put_other _ _ (Ne.symm hne)]
          simp only [List.cons_append, List.nil_append, St.apply, St.put_same]
         refine ⟨by rw [hSs]; exact Ver.le_refl _, fun tr dr bx hr' _ _ _ => ?_⟩
         rw [hSs] at hr'
         cases hr'
         refine ⟨cs, ?_, ?_⟩
         ·rw [z09 _ _ (Ne.symm hne), hk2]
          simp only [base, if_true, K.nth, K.get]
          exact (hrep.alloc hc.lt _).toRef
         ·rw [← hval]
          have hsz : s < act.tmps.size := by rw [hf.n]; exact hsn
          rw [zEs hsz, z9n _ _ hne]; rfl
     | _ => exact gen h
   | _ => exact gen h
end Go.Own
