/- A layer over the walk: what lies in memory as plain data, each operation by what it does to data; part 13. -/
import Derived.Test.YtkogmjbmbpcbeaaGreatDoorOwV
import Derived.Laws.Append
import Derived.Laws.AppendOwn
import Derived.Lib.ConvBytes
set_option linter.unusedSectionVars false
set_option linter.unusedVariables false
set_option linter.unusedSimpArgs false
namespace Go.Own
variable [Glb]
open Go
noncomputable section
section
variable (Γ : Env)
@[simp] def srcW (y : Operand) (k : Option T → List D → Wr → A) : A :=
 match y with
 | .tmp q => .ask q fun c => match c.av with
   | .val (.lst true e) d => k (some e) d.l [(q, ⟨.undef, c.v.kill⟩)]
   | .val (.lst false e) d => .need (e.plain = true) (k (some e) d.l [])
   | .ref r v p (.lst true e) _ => rootOf r fun cr tr dr _ => .need (z1Q v cr.v (depth p) ∧ tr.at p = .lst true e ∧ Ok tr dr p ∧ e.plain = true) (k (some e) (dr.get p).l [])
   | .win r v p e lo n => rootOf r fun cr tr dr _ => .need (z1Q v cr.v (depth p) ∧ tr.at p = .lst true e ∧ Ok tr dr p ∧ e.plain = true) (k (some e) (((dr.get p).l.drop lo).take n) [])
   | .nil => k none [] []
   | _ => .fail
 | .const (.slice none 0 0) => k none [] []
 | _ => .fail
theorem T.view_mk {e u : T} (h : e.view = u.view) : e.mk = u.mk := by
 cases e <;> cases u <;> simp_all [T.mk]
theorem Rep.rekind {h : Heap} {V : Nat → Prop} {e u : T} {κ : K} {cs : List Value} (hv : e.view = u.view) (hr : Rep h V (.lst true e) (.lst []) κ cs) : Rep h V (.lst true u) (.lst []) κ cs := by
 have hs : e.size = u.size := by rw [← T.view_size e, hv, T.view_size]
 obtain ⟨xs, hx, ⟨rfl, h2⟩ | ⟨b, off, c, arr, ty, fz, ks, rfl, hc, hh, ho, he, hown⟩⟩ := hr
 ·exact ⟨[], rfl, .inl ⟨rfl, h2⟩⟩
 ·cases hx
  refine ⟨[], rfl, .inr ⟨b, off, c, arr, ty, fz, ks, rfl, hc, hh, by rw [← hs]; exact ho, by simp, ?_⟩⟩
  simp only [if_true] at hown ⊢
  rw [← T.view_mk hv]; exact hown
@[simp] def joinT (xs : List D) (e : T) : Option T → T
 | none => e
 | some e2 => e2
@[simp] def z8d (dst : Option Nat) (t u : TypeId) (x y : Operand) : A := match dst with
 | none => .fail
 | some s => .ask s fun cd => .need (s < Γ.n ∧ s ∉ Γ.fx ∧ (Γ.ty t).lsts = true ∧ (Γ.ty u).lsts = true) (srcW y fun e2 ys ws => takeW ws (Γ.ty t) x fun ty d ws' =>
    match ty with
    | .lst true e0 => .need ((e2.getD e0).view = (Γ.ty t).elem.view ∧ (e2.getD e0 = e0 ∨ (d = .lst [] ∧ e0.view = (e2.getD e0).view)) ∧ (e2.getD e0).size ≠ 0 ∧ (e2.getD e0).sound = true ∧ s ∉ (ws ++ ws').map (·.1) ∧ d.l.length + ys.length ≤ smax ∧ (d.l.length + ys.length) * Γ.eb t ≤ 140737488355328)
       (.ret (ws ++ ws' ++ [(s, ⟨.val (.lst true (e2.getD e0)) (.lst (d.l ++ ys)), cd.v.kill⟩)]))
    | _ => .fail)
end
variable {P : Program} {Γ : Env} {E : Entry} {S : St} {act : Act} {w : World} {X : Ctr} {Kt : Wr → Prop} {next : Act → World → Prop}
theorem zAk (t u ty e eu : TypeId) (i : TypeInfo) (z : Value) (ht : P.underlying t = some (.slice e)) (hu : P.underlying u = some (.slice eu)) (hi : P.info? e = some i) (hz : i.zero = some z)
 (B A : Option Addr) (sLen sCap n c : Nat) (olds news : List Value) (hfo : ∀ w' : World, w'.heap = w.heap → (Builtin.firstCells i.size sLen (.slice B sLen sCap)).run P w' = .ok olds.toArray w')
 (hf : ∀ w' : World, w'.heap = w.heap → (Builtin.firstCells i.size n (.slice A n c)).run P w' = .ok news.toArray w')
 (hg : sCap < sLen + n) (h63 : ((sLen + n : Nat) : Int) ≤ 9223372036854775807) (hfit : Builtin.nextslicecap (sLen + n) sCap * i.bytes ≤ 281474976710656) :
 (Builtin.append_ #[t, u] ty #[.slice B sLen sCap, .slice A n c]).run P w =
   .ok (.slice (some ⟨w.heap.size, 0, none⟩) (sLen + n) (grownCap w (sLen + n) sCap e))
    (w.drew.alloc (.cells (olds.toArray ++ news.toArray ++ Builtin.zeroCells z.cells (grownCap w (sLen + n) sCap e - (sLen + n))) e)) := by
 have hn : ¬ (sLen + n ≤ sCap) := by omega
 have h63' : ¬ (9223372036854775807 < ((sLen : Int) + (n : Int))) := by omega
 have h48' : ¬ (281474976710656 < Builtin.nextslicecap (sLen + n) sCap * i.bytes) := by omega
 have hf' := hf w.drew rfl
 have hfo' := hfo w.drew rfl
 simp [Builtin.append_, run_underlying ht, run_underlying hu, sizeOf, typeInfo, zeroValue, hi, hz, Builtin.lenOf, hn, h63', h48', Question.forced, hf', hfo', newRow, grownCap]
 congr 2
 apply Array.ext'
 simp [List.append_assoc]
theorem zAl (t u ty e eu : TypeId) (i : TypeInfo) (ht : P.underlying t = some (.slice e)) (hu : P.underlying u = some (.slice eu)) (hi : P.info? e = some i)
 (B A : Option Addr) (sLen sCap n c : Nat) (news : List Value) (hf : (Builtin.firstCells i.size n (.slice A n c)).run P w = .ok news.toArray w) (hroom : sLen + n ≤ sCap) :
 (Builtin.append_ #[t, u] ty #[.slice B sLen sCap, .slice A n c]).run P w = ((match B with | some a => storeCells (a.add (sLen * i.size)) news | none => pure ()).run P w).andThen fun _ w => .ok (.slice B (sLen + n) sCap) w := by
 cases B <;> simp [Builtin.append_, run_underlying ht, run_underlying hu, sizeOf, typeInfo, hi, Builtin.lenOf, hroom, hf]
theorem add_lit (b off k : Nat) : (⟨b, off, none⟩ : Addr).add k = ⟨b, off + k, none⟩ := by
 unfold Addr.add
 split
 ·rename_i h; rw [h, Nat.add_zero]
 ·rfl
theorem z7T {size n c : Nat} {A : Option Addr} {news : List Value} (hl : news.length = n * size) (hc : n = 0 ∨ ∃ a, A = some a ∧ ∀ j v, news[j]? = some v → w.cell? (a.add j) = some v) (w' : World) (hw : w'.heap = w.heap) :
 (Builtin.firstCells size n (.slice A n c)).run P w' = .ok news.toArray w' := by
 have hcell : ∀ p, w'.cell? p = w.cell? p := fun p => by unfold World.cell?; rw [hw]
 rcases hc with rfl | ⟨a, rfl, h⟩
 ·have : news = [] := by simpa using hl
  subst this
  cases A with
  | none => exact run_firstCells_none (P := P) w' size 0 0 c
  | some a => exact run_firstCells_some (P := P) w' size 0 a 0 c [] (by simp) (by simp)
 ·exact run_firstCells_some (P := P) w' size n a n c news hl (fun j v hj => by rw [hcell]; exact h j v hj)
theorem z27 {l r : List Value} {a m : Nat} (h : a + m ≤ l.length) : ((l ++ r).drop a).take m = (l.drop a).take m := by
 apply List.ext_getElem?
 intro k
 rw [z0Z, z0Z]
 split
 ·rw [List.getElem?_append_left (by omega)]
 ·rfl
theorem z2G {l r : List Value} {a m : Nat} (h : l.length ≤ a) : ((l ++ r).drop a).take m = (r.drop (a - l.length)).take m := by
 apply List.ext_getElem?
 intro k
 rw [z0Z, z0Z]
 split
 ·rw [List.getElem?_append_right (by omega)]; congr 1; omega
 ·rfl
theorem zI5 (ok : EnvOk P Γ) {t u ty : TypeId} (ht : (Γ.ty t).lsts = true) (hu : (Γ.ty u).lsts = true) {e : T} (hev : e.view = (Γ.ty t).elem.view) (hsnd : e.sound = true) {V : Nat → Prop} {xs ys : List D} {kx : K} {B A : Option Addr} {n c c2 : Nat} {news : List Value} {ks2 : Nat → K}
 (hr : Rep w.heap V (.lst true e) (.lst xs) kx [.slice B n c]) (hnd : kx.blocks.Nodup) (hnl : news.length = ys.length * e.size) (hcell : ys.length = 0 ∨ ∃ a, A = some a ∧ ∀ j v, news[j]? = some v → w.cell? (a.add j) = some v)
 (hel : ∀ j x, ys[j]? = some x → Rep w.heap V e x (ks2 j) ((news.drop (j * e.size)).take e.size)) (hV : ∀ b, V b → b < w.heap.size) (hVk : ∀ b, b ∈ kx.blocks → ¬ V b)
 (h2nd : ((List.range ys.length).flatMap fun j => (ks2 j).blocks).Nodup) (h2x : ∀ b, b ∈ kx.blocks → ∀ j, j < ys.length → b ∉ (ks2 j).blocks) (h2lt : ∀ j, j < ys.length → ∀ b, b ∈ (ks2 j).blocks → b < w.heap.size)
 (hlen : xs.length + ys.length ≤ smax) (hby : (xs.length + ys.length) * Γ.eb t ≤ 140737488355328) :
 ∃ v' w' k', (Builtin.append_ #[t, u] ty #[.slice B n c, .slice A ys.length c2]).run P w = .ok v' w' ∧ Rep w'.heap V (.lst true e) (.lst (xs ++ ys)) k' [v'] ∧ k'.blocks.Nodup ∧
  (∀ b, b ∈ k'.blocks → b ∈ kx.blocks ∨ (∃ j, j < ys.length ∧ b ∈ (ks2 j).blocks) ∨ w.heap.size ≤ b) ∧ (∀ b, b < w.heap.size → b ∉ kx.blocks → w'.heap[b]? = w.heap[b]?) ∧ w.heap.size ≤ w'.heap.size ∧ Same w w' ∧
  ((∃ cs, w' = { w.drew with heap := w.heap.push cs }) ∨ w' = w ∨ ∃ b arr, b ∈ kx.blocks ∧ w' = w.setRow b arr) := by
 obtain ⟨et, hut, het, hokt⟩ := Fits.lst ok ht
 obtain ⟨eu, huu, _⟩ := Fits.lst ok hu
 obtain ⟨i, hi, hs, z, hz, hzl, hzrep⟩ := ok.info et hokt
 obtain ⟨et', i', hu', hi', heb⟩ := ok.eb t ht
 rw [hut] at hu'; cases hu'
 rw [hi] at hi'; cases hi'
 have hsz : i.size = e.size := by rw [hs, het, ← T.view_size, ← hev, T.view_size]
 have hkn : ∀ {k : Nat → K} {m : Nat} {b off c : Nat}, (K.lst b off c m k).blocks.Nodup ↔ _ := K.nodup_lst
 have hnd2 := z2s.1 h2nd
 have hfirst := z7T (P := P) (w := w) (size := e.size) (c := c2) hnl hcell
 have hnn : n = xs.length := by
  obtain ⟨xs', hx, ⟨rfl, _, hcs⟩ | ⟨_, _, _, _, _, _, _, hcs, _⟩⟩ := id hr
  ·cases hx; simp at hcs; exact hcs.2.1
  ·cases hx; simp at hcs; exact hcs.2.1
 subst hnn
 by_cases hroom : xs.length + ys.length ≤ c
 ·-- there is room
  have hrun := zAl (P := P) (w := w) t u ty et eu i hut huu hi B A xs.length c ys.length c2 news (by rw [hsz]; exact hfirst w rfl) hroom
  obtain ⟨xs', hx, ⟨rfl, rfl, hcs⟩ | ⟨b, off, c', arr, tb, fz, ks, hcs, hl, hh, hs0, he, ho⟩⟩ := id hr
  ·cases hx
   simp at hcs
   obtain ⟨rfl, rfl⟩ := hcs
   have hy : ys = [] := by simp at hroom; exact hroom
   subst hy
   refine ⟨_, w, .leaf, ?_, ⟨[], rfl, .inl ⟨rfl, rfl, none, rfl, fun _ => rfl⟩⟩, by simp [K.blocks], by simp [K.blocks], fun _ _ _ => rfl, Nat.le_refl _, ⟨rfl, rfl, rfl⟩, .inr (.inl rfl)⟩
   rw [hrun]; simp
  ·cases hx
   simp only [List.cons.injEq, Value.slice.injEq, and_true] at hcs
   obtain ⟨rfl, _, rfl⟩ := hcs
   simp at ho
   obtain ⟨hfz, rfl⟩ := ho
   have hnd' := K.nodup_lst.1 hnd
   have hmul : (xs.length + ys.length) * e.size ≤ c * e.size := Nat.mul_le_mul_right _ hroom
   rw [Nat.add_mul] at hmul
   have hone : ∀ v ∈ news, v.oneCell' = true := by
    intro v hv
    obtain ⟨q, hq⟩ := List.getElem?_of_mem hv
    have hql := (List.getElem?_eq_some_iff.1 hq).1
    by_cases h0 : e.size = 0
    ·rw [h0, Nat.mul_zero] at hnl; omega
    ·have hj : q / e.size < ys.length := (Nat.div_lt_iff_lt_mul (by omega)).2 (by rw [← hnl]; exact hql)
     have hrep := hel (q / e.size) ys[q / e.size] (List.getElem?_eq_getElem hj)
     refine hrep.one hsnd v ?_
     refine List.mem_of_getElem? (i := q % e.size) ?_
     rw [z0Z, if_pos (Nat.mod_lt _ (by omega)), Nat.mul_comm, Nat.div_add_mod]; exact hq
   have hst := z2u P b (off + xs.length * e.size) tb fz news 0 arr w hh hfz.low (by omega) hone
   rw [Nat.add_zero] at hst
   have hbn : b < w.heap.size := (Array.getElem?_eq_some_iff.1 hh).1
   have hsl := z4k (l := arr.toList) (o := off + xs.length * e.size) (cs := news) (by simp; omega)
   have hframe : ∀ b', b' ≠ b → (w.setRow b (spl arr.toList (off + xs.length * e.size) news).toArray).heap[b']? = w.heap[b']? := fun b' hb' => z5G w b _ hb'
   refine ⟨.slice (some ⟨b, off, none⟩) (xs.length + ys.length) c, w.setRow b (spl arr.toList (off + xs.length * e.size) news).toArray, .lst b off c (xs.length + ys.length) (fun j => if j < xs.length then ks j else ks2 (j - xs.length)), ?_, ?_, ?_, ?_, ?_, ?_, ⟨rfl, rfl, rfl⟩, .inr (.inr ⟨b, _, by simp [K.blocks], rfl⟩)⟩
   ·rw [hrun, hsz]
    simp only [add_lit]
    rw [hst]; rfl
   ·refine ⟨xs ++ ys, rfl, .inr ⟨b, off, c, _, tb, fz, fun j => if j < xs.length then ks j else ks2 (j - xs.length), by simp, ⟨by simp; exact hroom, by simp; exact hlen⟩, setRow_heap w b arr _ tb fz hh, ?_, ?_, ?_⟩⟩
    ·simp at hsl ⊢; omega
    ·intro j x hx
     simp only
     by_cases hj : j < xs.length
     ·rw [if_pos hj]
      rw [List.getElem?_append_left hj] at hx
      have hmj : (j + 1) * e.size ≤ xs.length * e.size := Nat.mul_le_mul_right _ (by omega)
      rw [Nat.add_mul, Nat.one_mul] at hmj
      have hfar := zKB (l := arr.toList) (o := off + xs.length * e.size) (cs := news) (by simp; omega) (a := off + j * e.size) (m := e.size) (.inl (by omega))
      show Rep _ V e x (ks j) _
      rw [hfar]
      refine (he j x hx).frame (fun b' hb' => hframe b' ?_) (fun b' hb' => hframe b' ?_) (fun _ h => h)
      ·rintro rfl; exact hnd'.1 j hj hb'
      ·rintro rfl; exact hVk _ (by simp [K.blocks]) hb'
     ·rw [if_neg hj]
      rw [List.getElem?_append_right (by omega)] at hx
      have hjl : j - xs.length < ys.length := (List.getElem?_eq_some_iff.1 hx).1
      have hcut : ((spl arr.toList (off + xs.length * e.size) news).drop (off + j * e.size)).take e.size = (news.drop ((j - xs.length) * e.size)).take e.size := by
       apply List.ext_getElem?
       intro q
       rw [z0Z, z0Z]
       split
       ·rename_i hq
        have hmj : (j - xs.length + 1) * e.size ≤ ys.length * e.size := Nat.mul_le_mul_right _ (by omega)
        rw [Nat.add_mul, Nat.one_mul] at hmj
        have hsub : j * e.size = xs.length * e.size + (j - xs.length) * e.size := by rw [← Nat.add_mul]; congr 1; omega
        rw [z4x (by simp; omega), if_neg (by omega), if_pos (by omega)]
        congr 1; omega
       ·rfl
      show Rep _ V e x (ks2 (j - xs.length)) _
      rw [hcut]
      refine (hel _ x hx).frame (fun b' hb' => hframe b' ?_) (fun b' hb' => hframe b' ?_) (fun _ h => h)
      ·rintro rfl; exact h2x _ (by simp [K.blocks]) _ hjl hb'
      ·rintro rfl; exact hVk _ (by simp [K.blocks]) hb'
    ·simp only [if_true, List.length_append]
     refine ⟨?_, trivial⟩
     intro o' ho'
     refine hfz o' ?_
     simp at hsl ho'; omega
   ·rw [K.nodup_lst]
    refine ⟨fun j hj => ?_, fun j hj => ?_, fun j q hj hq hjq x hx hx' => ?_⟩
    ·by_cases h : j < xs.length
     ·simp only [h, if_true]; exact hnd'.1 j h
     ·simp only [h, if_false]; exact h2x b (by simp [K.blocks]) _ (by omega)
    ·by_cases h : j < xs.length
     ·simp only [h, if_true]; exact hnd'.2.1 j h
     ·simp only [h, if_false]; exact hnd2.1 _ (by omega)
    ·by_cases h : j < xs.length <;> by_cases h' : q < xs.length <;> simp only [h, h', if_true, if_false] at hx hx'
     ·exact hnd'.2.2 j q h h' hjq x hx hx'
     ·exact h2x x (K.mem_nth h hx) _ (by omega) hx'
     ·exact h2x x (K.mem_nth h' hx') _ (by omega) hx
     ·rcases Nat.lt_or_gt_of_ne hjq with hlt | hlt
      ·exact hnd2.2 (j - xs.length) (q - xs.length) (by omega) (by omega) x hx hx'
      ·exact hnd2.2 (q - xs.length) (j - xs.length) (by omega) (by omega) x hx' hx
   ·intro b' hb'
    simp only [K.blocks, List.mem_cons, List.mem_flatMap, List.mem_range] at hb'
    rcases hb' with rfl | ⟨j, hj, hb'⟩
    ·exact .inl (by simp [K.blocks])
    ·by_cases h : j < xs.length
     ·simp only [h, if_true] at hb'; exact .inl (K.mem_nth h hb')
     ·simp only [h, if_false] at hb'; exact .inr (.inl ⟨_, by omega, hb'⟩)
   ·intro b' _ hb'
    refine hframe b' ?_
    rintro rfl; exact hb' (by simp [K.blocks])
   ·rw [z4v]; exact Nat.le_refl _
 ·-- a new row
  have hbase : ∃ olds : List Value, olds.length = xs.length * e.size ∧ (xs.length = 0 ∨ ∃ a, B = some a ∧ ∀ j v, olds[j]? = some v → w.cell? (a.add j) = some v) ∧ ∃ ks : Nat → K, (∀ j x, xs[j]? = some x → Rep w.heap V e x (ks j) ((olds.drop (j * e.size)).take e.size)) ∧
   (∀ j, j < xs.length → ∀ b, b ∈ (ks j).blocks → b ∈ kx.blocks) ∧ ((List.range xs.length).flatMap fun j => (ks j).blocks).Nodup := by
   obtain ⟨xs', hx, ⟨rfl, rfl, hcs⟩ | ⟨b, off, c', arr, tb, fz, ks, hcs, hl, hh, hs0, he, ho⟩⟩ := id hr
   ·cases hx
    exact ⟨[], by simp, .inl rfl, fun _ => .leaf, by simp, by simp, by simp⟩
   ·cases hx
    simp only [List.cons.injEq, Value.slice.injEq, and_true] at hcs
    obtain ⟨rfl, _, rfl⟩ := hcs
    simp at ho
    obtain ⟨hfz, rfl⟩ := ho
    have hnd' := K.nodup_lst.1 hnd
    have hmul : xs.length * e.size ≤ c * e.size := Nat.mul_le_mul_right _ hl.1
    have hol : ((arr.toList.drop off).take (xs.length * e.size)).length = xs.length * e.size := by simp; omega
    refine ⟨(arr.toList.drop off).take (xs.length * e.size), hol, .inr ⟨_, rfl, ?_⟩, ks, ?_, fun j hj b' hb' => K.mem_nth hj hb', ?_⟩
    ·exact z5p hh (by rw [hol])
    ·intro j x hx
     have hj := (List.getElem?_eq_some_iff.1 hx).1
     have hmj : (j + 1) * e.size ≤ xs.length * e.size := Nat.mul_le_mul_right _ (by omega)
     rw [Nat.add_mul, Nat.one_mul] at hmj
     have : (((arr.toList.drop off).take (xs.length * e.size)).drop (j * e.size)).take e.size = (arr.toList.drop (off + j * e.size)).take e.size := by
      apply List.ext_getElem?
      intro q
      rw [z0Z ((arr.toList.drop off).take (xs.length * e.size)) (j * e.size) e.size q, z0Z arr.toList (off + j * e.size) e.size q]
      split
      ·rw [z0Z arr.toList off (xs.length * e.size) (j * e.size + q), if_pos (by omega)]; congr 1; omega
      ·rfl
     rw [this]; exact he j x hx
    ·simp only [K.blocks, List.nodup_cons] at hnd
     exact hnd.2
  obtain ⟨olds, hol, hoc, ks, hoe, hok, hond⟩ := hbase
  have hond' := z2s.1 hond
  have hfo := z7T (P := P) (w := w) (size := e.size) (c := c) hol hoc
  have hlen' : xs.length + ys.length ≤ 9223372036854775807 := by unfold smax at hlen; exact hlen
  have hrun := zAk (P := P) (w := w) t u ty et eu i z hut huu hi hz B A xs.length c ys.length c2 olds news (by rw [hsz]; exact hfo) (by rw [hsz]; exact hfirst) (by omega) (by omega) (growslice_fits (by omega) (by rw [heb]; exact hby))
  have hge := grownCap_ge w (xs.length + ys.length) c et
  have hzs : z.cells.size = e.size := by rw [← Array.length_toList, hzl, ← hs, hsz]
  generalize grownCap w (xs.length + ys.length) c et = g at hrun hge
  have hsize : (olds.toArray ++ news.toArray ++ Builtin.zeroCells z.cells (g - (xs.length + ys.length))).size = g * e.size := by
   simp only [Array.size_append, List.size_toArray, size_zeroCells, hzs, hol, hnl]
   rw [← Nat.add_mul, ← Nat.add_mul]; congr 1; omega
  refine ⟨_, _, .lst w.heap.size 0 g (xs.length + ys.length) (fun j => if j < xs.length then ks j else ks2 (j - xs.length)), hrun, ?_, ?_, ?_, ?_, ?_, ⟨rfl, rfl, rfl⟩, .inl ⟨_, rfl⟩⟩
  ·refine ⟨xs ++ ys, rfl, .inr ⟨w.heap.size, 0, g, _, et, (0, 0), fun j => if j < xs.length then ks j else ks2 (j - xs.length), by simp, ⟨by simp; exact hge, by simp; exact hlen⟩, z4H w.drew _, by rw [hsize]; omega, ?_, ?_⟩⟩
   ·intro j x hx
    simp only
    have hfr : ∀ b', b' < w.heap.size → (w.drew.alloc (.cells (olds.toArray ++ news.toArray ++ Builtin.zeroCells z.cells (g - (xs.length + ys.length))) et)).heap[b']? = w.heap[b']? := fun b' hb' => z3r w.drew _ hb'
    rw [Nat.zero_add]
    simp only [Array.toList_append, List.append_assoc]
    by_cases hj : j < xs.length
    ·rw [if_pos hj]
     rw [List.getElem?_append_left hj] at hx
     have hmj : (j + 1) * e.size ≤ xs.length * e.size := Nat.mul_le_mul_right _ (by omega)
     rw [Nat.add_mul, Nat.one_mul] at hmj
     rw [z27 (by omega)]
     have hR := hoe j x hx
     exact hR.frame (fun b' hb' => hfr b' (hR.blocks_lt b' hb')) (fun b' hb' => hfr b' (hV b' hb')) (fun _ h => h)
    ·rw [if_neg hj]
     rw [List.getElem?_append_right (by omega)] at hx
     have hjl : j - xs.length < ys.length := (List.getElem?_eq_some_iff.1 hx).1
     have hmj : (j - xs.length + 1) * e.size ≤ ys.length * e.size := Nat.mul_le_mul_right _ (by omega)
     rw [Nat.add_mul, Nat.one_mul] at hmj
     have hsub : j * e.size = xs.length * e.size + (j - xs.length) * e.size := by rw [← Nat.add_mul]; congr 1; omega
     rw [z2G (by omega), z27 (by omega)]
     have hR := hel _ x hx
     have e2 : j * e.size - olds.length = (j - xs.length) * e.size := by omega
     rw [e2]
     exact hR.frame (fun b' hb' => hfr b' (h2lt _ hjl b' hb')) (fun b' hb' => hfr b' (hV b' hb')) (fun _ h => h)
   ·simp only [if_true, List.length_append]
    exact ⟨fun o _ => by simp, trivial⟩
  ·rw [K.nodup_lst]
   have hklt : ∀ b, b ∈ kx.blocks → b < w.heap.size := hr.blocks_lt
   refine ⟨fun j hj hm => ?_, fun j hj => ?_, fun j q hj hq hjq x hx hx' => ?_⟩
   ·by_cases h : j < xs.length
    ·simp only [h, if_true] at hm; have := hklt _ (hok j h _ hm); omega
    ·simp only [h, if_false] at hm; have := h2lt _ (by omega) _ hm; omega
   ·by_cases h : j < xs.length
    ·simp only [h, if_true]; exact hond'.1 j h
    ·simp only [h, if_false]; exact hnd2.1 _ (by omega)
   ·by_cases h : j < xs.length <;> by_cases h' : q < xs.length <;> simp only [h, h', if_true, if_false] at hx hx'
    ·rcases Nat.lt_or_gt_of_ne hjq with hlt | hlt
     ·exact hond'.2 j q hlt h' x hx hx'
     ·exact hond'.2 q j hlt h x hx' hx
    ·exact h2x x (hok j h x hx) _ (by omega) hx'
    ·exact h2x x (hok q h' x hx') _ (by omega) hx
    ·rcases Nat.lt_or_gt_of_ne hjq with hlt | hlt
     ·exact hnd2.2 (j - xs.length) (q - xs.length) (by omega) (by omega) x hx hx'
     ·exact hnd2.2 (q - xs.length) (j - xs.length) (by omega) (by omega) x hx' hx
  ·intro b' hb'
   simp only [K.blocks, List.mem_cons, List.mem_flatMap, List.mem_range] at hb'
   rcases hb' with rfl | ⟨j, hj, hb'⟩
   ·exact .inr (.inr (Nat.le_refl _))
   ·by_cases h : j < xs.length
    ·simp only [h, if_true] at hb'; exact .inl (hok j h _ hb')
    ·simp only [h, if_false] at hb'; exact .inr (.inl ⟨_, by omega, hb'⟩)
  ·intro b' hb' _
   exact z3r w.drew _ hb'
  ·rw [z2y]; simp
end
end Go.Own
namespace Go.Own
variable [Glb]
open Go
noncomputable section
variable {P : Program} {Γ : Env} {E : Entry} {S : St} {act : Act} {w : World} {X : Ctr} {Kt : Wr → Prop} {next : Act → World → Prop}
structure Src (w : World) (tm : Nat → Value) (V : Nat → Prop) (S : St) (κ : Nat → K) (ws : Wr) (e : T) (ys : List D) (v : Value) (κ' : Nat → K) (ks : Nat → K) (news : List Value) : Prop where
 conc : Conc w.heap tm V (S.apply ws) κ'
 val : ∃ A c, v = .slice A ys.length c ∧ (ys.length = 0 ∨ ∃ a, A = some a ∧ ∀ j u, news[j]? = some u → w.cell? (a.add j) = some u)
 len : news.length = ys.length * e.size
 el : ∀ j x, ys[j]? = some x → Rep w.heap V e x (ks j) ((news.drop (j * e.size)).take e.size)
 nd : ((List.range ys.length).flatMap fun j => (ks j).blocks).Nodup
 dj : ∀ s j, j < ys.length → ∀ b, b ∈ (ks j).blocks → b ∉ (κ' s).blocks
 dv : ∀ j, j < ys.length → ∀ b, b ∈ (ks j).blocks → ¬ V b
 sub : ∀ s b, b ∈ (κ' s).blocks → b ∈ (κ s).blocks
 src : ∀ j, j < ys.length → ∀ b, b ∈ (ks j).blocks → ∃ s, b ∈ (κ s).blocks
 oth : ∀ s, s ∉ ws.map (·.1) → κ' s = κ s
theorem zIz {l : List Value} {o m a q : Nat} (h : a + q ≤ m) : (((l.drop o).take m).drop a).take q = (l.drop (o + a)).take q := by
 apply List.ext_getElem?
 intro k
 rw [z0Z ((l.drop o).take m) a q k, z0Z l (o + a) q k]
 split
 ·rw [z0Z l o m (a + k), if_pos (by omega)]; congr 1; omega
 ·rfl
theorem zKr {m : Nat} {ks : Nat → K} (h : ∀ j, j < m → (ks j).blocks = []) : ((List.range m).flatMap fun j => (ks j).blocks).Nodup := by
 rw [z2s]
 refine ⟨fun i hi => by rw [h i hi]; simp, fun i j hij hj x hx => by rw [h i (by omega)] at hx; simp at hx⟩
theorem Src.copy {κ V} (hc : Conc w.heap (tmOf act) V S κ) {e : T} (hp : e.plain = true) {ys : List D} {b off c lo m : Nat} {arr : Array Value} {tb : TypeId} {fz : Nat × Nat} {v : Value} {ks : Nat → K} {xs : List D}
 (hh : w.heap[b]? = some (.cells arr tb fz)) (hsz : off + xs.length * e.size ≤ arr.size) (hel : ∀ i x, xs[i]? = some x → Rep w.heap V e x (ks i) ((arr.toList.drop (off + i * e.size)).take e.size))
 (hys : ys = (xs.drop lo).take m) (hm : lo + m ≤ xs.length) (hv : (v = .slice (some ⟨b, off + lo * e.size, none⟩) m c) ∨ (m = 0 ∧ ∃ A, v = .slice A 0 c)) :
 ∃ ks2 news, Src w (tmOf act) V S κ [] e ys v κ ks2 news := by
 have hlen : ys.length = m := by rw [hys]; simp; omega
 have hmul : (lo + m) * e.size ≤ xs.length * e.size := Nat.mul_le_mul_right _ hm
 rw [Nat.add_mul] at hmul
 have hnl : ((arr.toList.drop (off + lo * e.size)).take (m * e.size)).length = ys.length * e.size := by rw [hlen]; simp; omega
 refine ⟨fun _ => e.k0, (arr.toList.drop (off + lo * e.size)).take (m * e.size), ⟨hc, ?_, hnl, ?_, zKr (by simp), by simp, by simp, fun _ _ h => h, by simp, fun _ _ => rfl⟩⟩
 ·rcases hv with rfl | ⟨rfl, A, rfl⟩
  ·refine ⟨_, c, by rw [hlen], .inr ⟨_, rfl, ?_⟩⟩
   exact z5p hh (by rw [hnl, hlen])
  ·exact ⟨A, c, by rw [hlen], .inl hlen⟩
 ·intro j x hx
  have hj : j < m := by rw [← hlen]; exact (List.getElem?_eq_some_iff.1 hx).1
  rw [hys, List.getElem?_take, if_pos hj, List.getElem?_drop] at hx
  have hmj : (j + 1) * e.size ≤ m * e.size := Nat.mul_le_mul_right _ (by omega)
  rw [Nat.add_mul, Nat.one_mul] at hmj
  rw [zIz (by omega)]
  have hR := hel (lo + j) x hx
  rw [Nat.add_mul] at hR
  have hk := hR.plain_leaf hp
  rw [hk] at hR
  rwa [show off + lo * e.size + j * e.size = off + (lo * e.size + j * e.size) by omega]
theorem Src.none {κ V} (hc : Conc w.heap (tmOf act) V S κ) (e : T) {v : Value} (hv : ∃ A c, v = .slice A 0 c) : ∃ ks2 news, Src w (tmOf act) V S κ [] e [] v κ ks2 news := by
 obtain ⟨A, c, rfl⟩ := hv
 exact ⟨fun _ => .leaf, [], ⟨hc, ⟨A, c, rfl, .inl rfl⟩, by simp, by simp, by simp, by simp, by simp, fun _ _ h => h, by simp, fun _ _ => rfl⟩⟩
theorem zIh {y : Operand} {k : Option T → List D → Wr → A} (h : (srcW y k).wp X S Kt) {κ V} (hc : Conc w.heap (tmOf act) V S κ) :
 ∃ e2 ys ws, (k e2 ys ws).wp X S Kt ∧ (e2 = none → ys = []) ∧ ∀ e, (∀ e', e2 = some e' → e' = e) → ∃ κ' ks news, Src w (tmOf act) V S κ ws e ys (act.eval y) κ' ks news := by
 unfold srcW at h
 split at h
 ·rename_i q
  simp only [A.wp] at h
  have hcv := hc.cv q
  have hcopy := hc.copy q
  have hnd := hc.nd q
  generalize hS : S q = c at h hcv hcopy
  obtain ⟨av, ver⟩ := c
  cases av with
  | val ty d =>
    cases ty with
    | lst o e =>
      cases o with
      | true =>
        refine ⟨some e, d.l, _, h, by simp, fun e' he' => ?_⟩
        cases he' e rfl
        obtain ⟨cs, hr, ev⟩ := hcv
        have hcc := hc.set q (a := .undef) (k := .leaf) (v := tmOf act q) (by simp [CV]) (by simp [K.blocks]) (by simp [K.blocks]) (by simp [K.blocks]) (by simp [K.blocks])
        rw [z2l] at hcc
        have hcc' : Conc w.heap (tmOf act) V (S.apply [(q, ⟨.undef, ver.kill⟩)]) (updK κ q .leaf) := by simpa [St.apply, hS] using hcc
        obtain ⟨xs, rfl, ⟨rfl, hk, A0, rfl, hA0⟩ | ⟨b, off, c, arr, tb, fz, ks, rfl, hl, hh, hs0, he, ho⟩⟩ := id hr
        ·refine ⟨_, fun _ => .leaf, [], ⟨hcc', ⟨_, _, ev, .inl rfl⟩, by simp, by simp, by simp, by simp, by simp, ?_, by simp, ?_⟩⟩
         ·intro s b hb
          by_cases hs : s = q
          ·subst hs; simp [K.blocks] at hb
          ·rwa [z09 _ _ hs] at hb
         ·intro s hs
          simp at hs
          exact z09 _ _ hs
        ·simp at ho
         obtain ⟨hfz, hk⟩ := ho
         rw [hk] at hnd
         have hnd' := K.nodup_lst.1 hnd
         have hin : ∀ j, j < xs.length → ∀ b', b' ∈ (ks j).blocks → b' ∈ (κ q).blocks := fun j hj b' hb' => by rw [hk]; exact K.mem_nth hj hb'
         have hmul : xs.length * e.size ≤ c * e.size := Nat.mul_le_mul_right _ hl.1
         have hnl : ((arr.toList.drop off).take (xs.length * e.size)).length = xs.length * e.size := by simp; omega
         refine ⟨_, ks, (arr.toList.drop off).take (xs.length * e.size), ⟨hcc', ⟨some ⟨b, off, none⟩, c, ev, .inr ⟨_, rfl, z5p hh (by rw [hnl])⟩⟩, hnl, ?_, ?_, ?_, ?_, ?_, ?_, ?_⟩⟩
         ·intro j x hx
          have hj := (List.getElem?_eq_some_iff.1 hx).1
          have hmj : (j + 1) * e.size ≤ xs.length * e.size := Nat.mul_le_mul_right _ (by simp at hj; omega)
          rw [Nat.add_mul, Nat.one_mul] at hmj
          rw [zIz (by omega)]
          exact he j x hx
         ·simp only [K.blocks, List.nodup_cons] at hnd
          exact hnd.2
         ·intro s j hj b' hb'
          by_cases hs : s = q
          ·subst hs; simp [K.blocks]
          ·rw [z09 _ _ hs]; exact hc.dj q s (Ne.symm hs) b' (hin j hj b' hb')
         ·exact fun j hj b' hb' => hc.dv q b' (hin j hj b' hb')
         ·intro s b' hb'
          by_cases hs : s = q
          ·subst hs; simp [K.blocks] at hb'
          ·rwa [z09 _ _ hs] at hb'
         ·exact fun j hj b' hb' => ⟨q, hin j hj b' hb'⟩
         ·intro s hs
          simp at hs
          exact z09 _ _ hs
      | false =>
        simp only [A.wp] at h
        obtain ⟨hp, h⟩ := h
        refine ⟨some e, d.l, _, h, by simp, fun e' he' => ?_⟩
        cases he' e rfl
        obtain ⟨cs, hr, ev⟩ := hcv
        refine ⟨κ, ?_⟩
        obtain ⟨xs, rfl, ⟨rfl, hk, A0, rfl, hA0⟩ | ⟨b, off, c, arr, tb, fz, ks, rfl, hl, hh, hs0, he, ho⟩⟩ := id hr
        ·exact Src.none hc e ⟨_, _, ev⟩
        ·have hmul : xs.length * e.size ≤ c * e.size := Nat.mul_le_mul_right _ hl.1
         exact Src.copy hc hp (lo := 0) (m := xs.length) hh (by omega) he (by simp) (by omega) (.inl (by rw [Nat.zero_mul, Nat.add_zero]; exact ev))
    | _ => exact h.elim
  | ref r ver' p ty d =>
    cases ty with
    | lst o e =>
      cases o with
      | false => exact h.elim
      | true =>
        obtain ⟨tr, dr, bx, hroot, hk⟩ := z0h h
        simp only [A.wp] at hk
        obtain ⟨⟨hlv, hat, hok, hp⟩, hk⟩ := hk
        refine ⟨some e, _, _, hk, by simp, fun e' he' => ?_⟩
        cases he' e rfl
        refine ⟨κ, ?_⟩
        rcases hc.refl_list hroot hat hok hlv hcopy with ⟨hv, hnil, _⟩ | ⟨b, off, c, arr, tb, fz, ks, hv, hkl, hlen, hh, hfr, hsize, hel⟩
        ·rw [hnil]; exact Src.none hc e ⟨_, _, hv⟩
        ·have hmul : (dr.get p).l.length * e.size ≤ c * e.size := Nat.mul_le_mul_right _ hlen.1
         exact Src.copy hc hp (lo := 0) (m := (dr.get p).l.length) hh (by omega) hel (by simp) (by omega) (.inl (by rw [Nat.zero_mul, Nat.add_zero]; exact hv))
    | _ => exact h.elim
  | win r ver' p e lo n =>
    obtain ⟨tr, dr, bx, hroot, hk⟩ := z0h h
    simp only [A.wp] at hk
    obtain ⟨⟨hlv, hat, hok, hp⟩, hk⟩ := hk
    refine ⟨some e, _, _, hk, by simp, fun e' he' => ?_⟩
    cases he' e rfl
    refine ⟨κ, ?_⟩
    obtain ⟨cs0, hrep, _⟩ := hc.list hroot hat hok
    rcases hcopy.2 tr dr bx hroot hlv hat hok with ⟨hk0, rfl, rfl, hv⟩ | ⟨b, off, c, m, ks, hkl, hlm, hv⟩
    ·simp only [List.take_zero]; exact Src.none hc e ⟨_, _, hv⟩
    ·obtain ⟨xs, hx, ⟨rfl, hk1, _⟩ | ⟨b', off', c', arr, tb, fz, ks', rfl, hl, hh, hs0, he, ho⟩⟩ := id hrep
     ·rw [hkl] at hk1; cases hk1
     ·simp at ho
      rw [hkl] at ho
      obtain ⟨hfz, ho⟩ := ho
      simp only [K.lst.injEq] at ho
      obtain ⟨rfl, rfl, rfl, rfl, rfl⟩ := ho
      have hmul : xs.length * e.size ≤ c * e.size := Nat.mul_le_mul_right _ hl.1
      rw [hx]
      rcases hv with hv | ⟨_, rfl, hv⟩
      ·exact Src.copy hc hp (lo := lo) (m := n) hh (by omega) he rfl (by omega) (.inl hv)
      ·simp only [List.take_zero]; exact Src.none hc e ⟨_, _, hv⟩
  | nil =>
    exact ⟨none, [], _, h, fun _ => rfl, fun e _ => ⟨κ, Src.none hc e ⟨_, _, hcv.2⟩⟩⟩
  | _ => exact h.elim
 ·exact ⟨none, [], _, h, fun _ => rfl, fun e _ => ⟨κ, Src.none hc e ⟨_, _, rfl⟩⟩⟩
 ·exact h.elim
theorem zEw (ok : EnvOk P Γ) {dst : Option Nat} {t u ty : TypeId} {x y : Operand} (h : (z8d Γ dst t u x y).wp X S Kt) (hi : Inv Γ E S act w) (hn : z2V Γ E S Kt next) :
 ∃ v w', (Builtin.append_ #[t, u] ty #[act.eval x, act.eval y]).run P w = .ok v w' ∧ next (act.put dst v) w' := by
 obtain ⟨hf, κ, V, hc, hb⟩ := hi
 cases dst with
 | none => exact h.elim
 | some s =>
   simp only [z8d, A.wp] at h
   obtain ⟨⟨hsn, hfx, hls, hlu⟩, h⟩ := h
   obtain ⟨e2, ys, ws, h, hemp, hsrc⟩ := zIh h hc
   obtain ⟨κ1, ks2, news, hs0⟩ := hsrc (e2.getD .unit) (by rintro e' rfl; rfl)
   obtain ⟨ty0, d, ws', κ2, kx, hk, ht⟩ := z3o h hs0.conc
   clear hsrc h
   cases ty0 with
   | lst o e0 =>
     cases o with
     | false => exact hk.elim
     | true =>
       simp only [A.wp] at hk
       obtain ⟨⟨hev, he2, hsz0, hsnd, hsw, hlen, hby⟩, hk⟩ := hk
       have hs : Src w (tmOf act) V S κ ws (e2.getD e0) ys (act.eval y) κ1 ks2 news := by
        cases e2 with
        | some e' => exact hs0
        | none =>
          have hy := hemp rfl
          subst hy
          have hn0 : news = [] := by simpa using hs0.len
          subst hn0
          exact ⟨hs0.conc, hs0.val, by simp, by simp, by simp, by simp, by simp, hs0.sub, by simp, hs0.oth⟩
       generalize e2.getD e0 = e at hev he2 hsz0 hsnd hs hk
       obtain ⟨cs, hrep0, hvx⟩ := ht.rep
       have hrep : Rep w.heap V (.lst true e) d kx cs := by
        rcases he2 with rfl | ⟨rfl, hv⟩
        ·exact hrep0
        ·exact hrep0.rekind hv
       obtain ⟨xs, hd, _⟩ := id hrep
       subst hd
       simp only [D.l_lst] at hlen hby hk
       have hcs : ∃ B n c, cs = [.slice B n c] := by
        obtain ⟨_, _, ⟨_, _, _, rfl, _⟩ | ⟨_, _, _, _, _, _, _, rfl, _⟩⟩ := id hrep
        ·exact ⟨_, _, _, rfl⟩
        ·exact ⟨_, _, _, rfl⟩
       obtain ⟨B, n, c, rfl⟩ := hcs
       have hvx' : act.eval x = .slice B n c := hvx
       obtain ⟨A, c2, hvy, hcell⟩ := hs.val
       -- rows of what is taken do not meet
       have hkx1 : ∀ b, b ∈ kx.blocks → ∃ s, b ∈ (κ1 s).blocks := ht.src
       have h2x : ∀ b, b ∈ kx.blocks → ∀ j, j < ys.length → b ∉ (ks2 j).blocks := by
        intro b hb1 j hj hb2
        obtain ⟨s', hs'⟩ := hkx1 b hb1
        exact hs.dj s' j hj b hb2 hs'
       have hklt : ∀ b, b ∈ kx.blocks → b < w.heap.size := hrep.blocks_lt
       have h2lt : ∀ j, j < ys.length → ∀ b, b ∈ (ks2 j).blocks → b < w.heap.size := fun j hj b hb2 => (hs.el j _ (List.getElem?_eq_getElem hj)).blocks_lt b hb2
       obtain ⟨v', w', k', hrun, hrep', hnd', hsrc', hfr', hsz', hsame, hshape⟩ := zI5 (P := P) (ty := ty) ok hls hlu hev hsnd hrep ht.nd hs.len hcell hs.el hc.lt ht.dv hs.nd h2x h2lt hlen hby
       refine ⟨v', w', by rw [hvx', hvy]; exact hrun, ?_⟩
       -- where rows come from
       have hcap : ∀ s' b, b ∈ (κ s').blocks → b ∈ E.t ∨ E.w.heap.size ≤ b := hb.k
       have hkxc : ∀ b, b ∈ kx.blocks → b ∈ E.t ∨ E.w.heap.size ≤ b := by
        intro b hb1
        obtain ⟨s', hs'⟩ := hkx1 b hb1
        exact hcap s' b (hs.sub s' b hs')
       have hf' : Fr Γ E act w' := by
        rcases hshape with ⟨cells, rfl⟩ | rfl | ⟨b, arr, hbk, rfl⟩
        ·have h1 : Fr Γ E act w.drew := ⟨⟨hf.same.os, hf.same.tape, hf.same.output⟩, hf.frame, hf.size, hf.n, hf.fx, hf.df⟩
         exact h1.alloc cells
        ·exact hf
        ·exact hf.write (hkxc b hbk)
       have hout : ∀ s' b, b ∈ (κ2 s').blocks → w'.heap[b]? = w.heap[b]? := by
        intro s' b hb1
        refine hfr' b (ht.conc.bl s' b hb1) (fun hm => ht.dj s' b hm hb1)
       have hVout : ∀ b, V b → w'.heap[b]? = w.heap[b]? := fun b hv => hfr' b (hc.lt b hv) (fun hm => ht.dv b hm hv)
       have hc2 : Conc w'.heap (tmOf act) V ((S.apply ws).apply ws') κ2 :=
        ht.conc.frame hout hVout (fun _ h => h) ht.conc.dv (fun b hv => Nat.lt_of_lt_of_le (hc.lt b hv) hsz') hsz'
       have hb2 : Bnd E V κ2 := ⟨hb.v0, hb.v1, fun s' b hb1 => hcap s' b (hs.sub s' b (ht.sub s' b hb1))⟩
       have hSs : ((S.apply ws).apply ws') s = S s := by
        rw [← St.apply_append]; exact St.apply_other _ S hsw
       have happ : S.apply (ws ++ ws' ++ [(s, ⟨.val (.lst true e) (.lst (xs ++ ys)), (S s).v.kill⟩)]) = ((S.apply ws).apply ws').put s ⟨.val (.lst true e) (.lst (xs ++ ys)), (((S.apply ws).apply ws') s).v.kill⟩ := by
        rw [St.apply_append, St.apply_append, hSs]; rfl
       have hdjk : ∀ s' : Nat, ∀ b, b ∈ k'.blocks → b ∉ (κ2 s').blocks := by
        intro s' b hb1 hb3
        rcases hsrc' b hb1 with h | ⟨j, hj, h⟩ | h
        ·exact ht.dj s' b h hb3
        ·exact hs.dj s' j hj b h (ht.sub s' b hb3)
        ·have := ht.conc.bl s' b hb3; omega
       have hdvk : ∀ b, b ∈ k'.blocks → ¬ V b := by
        intro b hb1 hv
        rcases hsrc' b hb1 with h | ⟨j, hj, h⟩ | h
        ·exact ht.dv b h hv
        ·exact hs.dv j hj b h hv
        ·have := hc.lt b hv; omega
       have hkc : ∀ b, b ∈ k'.blocks → b ∈ E.t ∨ E.w.heap.size ≤ b := by
        intro b hb1
        rcases hsrc' b hb1 with h | ⟨j, hj, h⟩ | h
        ·exact hkxc b h
        ·obtain ⟨s', hs'⟩ := hs.src j hj b h
         exact hcap s' b hs'
        ·exact .inr (Nat.le_trans hf.size h)
       refine hn _ _ _ hk ?_
       rw [happ]
       exact Inv.set hf' hc2 hb2 hsn hfx (k := k') ⟨_, by simpa using hrep', rfl⟩ hnd' (fun s' _ => hdjk s') hdvk hrep'.blocks_lt hkc
   | _ => exact hk.elim
end
end Go.Own
namespace Go.Own
variable [Glb]
open Go
noncomputable section
variable {P : Program} {Γ : Env} {E : Entry} {S : St} {act : Act} {w : World} {X : Ctr} {Kt : Wr → Prop} {next : Act → World → Prop}
theorem z6T {P : Program} {t : TypeId} {fs : Array Field} (h : P.underlying t = some (.struct fs)) : P.fieldsOf t = fs := by
 unfold Program.fieldsOf; rw [h]
theorem zFC (ok : EnvOk P Γ) {h : Heap} {V : Nat → Prop} {n : Nat} {xs ys : List Value} : ∀ (fs : List Field) (τ : T) {base : Nat} {p1 p2 q1 q2 : List Value} {d1 d2 : D} {κ1 κ2 : K},
 τ.agg = true → τ.eqs = true → (∀ (f : Field) (a : T), a.eqs = true → a.dep < n → Γ.ty f.type = a → a.ok = true → ∀ {e1 e2 k1 k2 c1 c2}, Rep h V a e1 k1 c1 → Rep h V a e2 k2 c2 → (Op.equalIn n f.type (z0Q a c1) (z0Q a c2)).run P w = .ok (e1.beq e2) w) →
 (∀ j, τ.has j = true → ∃ f, fs[j]? = some f ∧ f.offset = base + τ.off j ∧ Γ.ty f.type = τ.fld j ∧ (τ.fld j).ok = true) → (∀ j, j < fs.length → τ.has j = true) → (∀ f ∈ fs, f.name ≠ "_") →
 xs = p1 ++ q1 → ys = p2 ++ q2 → p1.length = base → p2.length = base → Rep h V τ d1 κ1 q1 → Rep h V τ d2 κ2 q2 → τ.dep ≤ n →
 (Op.eqFields n xs.toArray ys.toArray fs).run P w = .ok (d1.beq d2) w
 | fs, .unit, base, p1, p2, q1, q2, d1, d2, κ1, κ2, _, _, _, _, hl, _, _, _, _, _, h1, h2, _ => by
   have : fs = [] := by
    cases fs with
    | nil => rfl
    | cons f fs => have := hl 0 (by simp); simp at this
   subst this
   obtain ⟨rfl, _⟩ := h1
   obtain ⟨rfl, _⟩ := h2
   rfl
 | fs, .pair a b, base, p1, p2, q1, q2, d1, d2, κ1, κ2, _, he, hrec, hf, hl, hn, hx, hy, hb1, hb2, h1, h2, hd => by
   obtain ⟨f, hf0, hoff, hty, hok⟩ := hf 0 rfl
   cases fs with
   | nil => simp at hf0
   | cons f' fs =>
     simp at hf0
     subst hf0
     simp only [T.eqs, Bool.and_eq_true] at he
     simp only [T.off, T.fld, Nat.add_zero] at hoff hty hok
     obtain ⟨x1, x2, k1, k2, c1, c2, rfl, rfl, rfl, g1, g2⟩ := h1
     obtain ⟨y1, y2, l1, l2, e1, e2, rfl, rfl, rfl, g3, g4⟩ := h2
     have hdep : a.dep < n ∧ b.dep ≤ n := by simp only [T.dep] at hd; omega
     have hp1 := zHt (w := w) ok (ft := f'.type) (by rw [hty]; exact hok) g1 (by rw [hty]) (cs := xs) (c1 := p1) (c2 := c2) hx
     have hp2 := zHt (w := w) ok (ft := f'.type) (by rw [hty]; exact hok) g3 (by rw [hty]) (cs := ys) (c1 := p2) (c2 := e2) hy
     rw [hb1, ← hoff] at hp1
     rw [hb2, ← hoff] at hp2
     have hq := hrec f' a he.1 hdep.1 hty hok g1 g3
     unfold Op.eqFields
     rw [if_pos (hn f' (by simp))]
     simp only [Sem.run_bind, hp1, hp2, hq, Result.andThen_ok]
     have ih := zFC ok (xs := xs) (ys := ys) fs b (base := base + a.size) (p1 := p1 ++ c1) (p2 := p2 ++ e1) (q1 := c2) (q2 := e2) he.2.1 he.2.2 hrec
      (fun j hj => by
        obtain ⟨f, e1, e2, e3, e4⟩ := hf (j + 1) hj
        exact ⟨f, e1, by rw [e2]; simp [Nat.add_assoc], e3, e4⟩)
      (fun j hj => hl (j + 1) (by simpa using hj)) (fun f hm => hn f (by simp [hm])) (by simp [hx]) (by simp [hy]) (by simp [hb1, g1.length]) (by simp [hb2, g3.length]) g2 g4 hdep.2
     show (ite ((!x1.beq y1) = true) (pure false) (Op.eqFields n xs.toArray ys.toArray fs) : Sem Bool).run P w = .ok (x1.beq y1 && x2.beq y2) w
     cases hb : x1.beq y1 with
     | true => simpa using ih
     | false => rfl
 | _, .int _, _, _, _, _, _, _, _, _, _, ha, _, _, _, _, _, _, _, _, _, _, _, _ | _, .bool, _, _, _, _, _, _, _, _, _, ha, _, _, _, _, _, _, _, _, _, _, _, _ | _, .str, _, _, _, _, _, _, _, _, _, ha, _, _, _, _, _, _, _, _, _, _, _, _
 | _, .lst _ _, _, _, _, _, _, _, _, _, _, ha, _, _, _, _, _, _, _, _, _, _, _, _ | _, .ptr _, _, _, _, _, _, _, _, _, _, ha, _, _, _, _, _, _, _, _, _, _, _, _ | _, .fn _ _, _, _, _, _, _, _, _, _, _, ha, _, _, _, _, _, _, _, _, _, _, _, _
 | _, .err, _, _, _, _, _, _, _, _, _, ha, _, _, _, _, _, _, _, _, _, _, _, _ | _, .gone, _, _, _, _, _, _, _, _, _, ha, _, _, _, _, _, _, _, _, _, _, _, _ => by simp at ha
theorem zMB (ok : EnvOk P Γ) {h : Heap} {V : Nat → Prop} : ∀ (n : Nat) {τ : T} {t : TypeId} {d1 d2 : D} {κ1 κ2 : K} {c1 c2 : List Value}, Γ.ty t = τ → τ.eqs = true → τ.dep ≤ n → n < 10000 → Rep h V τ d1 κ1 c1 → Rep h V τ d2 κ2 c2 →
 (Op.equalIn (n + 1) t (z0Q τ c1) (z0Q τ c2)).run P w = .ok (d1.beq d2) w := by
 intro n
 induction n with
 | zero =>
   intro τ t d1 d2 κ1 κ2 c1 c2 hty he hd hlt h1 h2
   have hfit := ok.fits t
   rw [hty] at hfit
   cases τ with
   | unit =>
     obtain ⟨rfl, _, rfl⟩ := h1
     obtain ⟨rfl, _, rfl⟩ := h2
     have hu : P.underlying t = some (.struct #[]) := hfit rfl
     have hc := ok.cmp t (by rw [hty]; rfl)
     have := run_equalIn_struct w 0 t #[] #[] (by rw [hu, z6T hu]) hc.1
     simp only [z0Q, T.agg_unit, if_true]
     rw [this, z6T hu]
     rfl
   | int k =>
     obtain ⟨n1, rfl, _, rfl, _⟩ := h1
     obtain ⟨n2, rfl, _, rfl, _⟩ := h2
     exact run_equalIn_int w 0 t k k n1 n2 (hfit rfl)
   | bool =>
     obtain ⟨n1, rfl, _, rfl⟩ := h1
     obtain ⟨n2, rfl, _, rfl⟩ := h2
     exact run_equalIn_bool' w 0 t n1 n2 (hfit rfl)
   | str =>
     obtain ⟨n1, rfl, _, rfl, _⟩ := h1
     obtain ⟨n2, rfl, _, rfl, _⟩ := h2
     have := run_equalIn_string w 0 t (mkS n1) (mkS n2) (hfit rfl)
     rw [z5X, z5X] at this
     exact this
   | pair a b => simp [T.dep] at hd
   | _ => simp [T.eqs] at he
 | succ n ih =>
   intro τ t d1 d2 κ1 κ2 c1 c2 hty he hd hlt h1 h2
   have hfit := ok.fits t
   rw [hty] at hfit
   cases τ with
   | unit =>
     obtain ⟨rfl, _, rfl⟩ := h1
     obtain ⟨rfl, _, rfl⟩ := h2
     have hu : P.underlying t = some (.struct #[]) := hfit rfl
     have hc := ok.cmp t (by rw [hty]; rfl)
     have := run_equalIn_struct w (n + 1) t #[] #[] (by rw [hu, z6T hu]) hc.1
     simp only [z0Q, T.agg_unit, if_true]
     rw [this, z6T hu]
     rfl
   | int k =>
     obtain ⟨n1, rfl, _, rfl, _⟩ := h1
     obtain ⟨n2, rfl, _, rfl, _⟩ := h2
     exact run_equalIn_int w _ t k k n1 n2 (hfit rfl)
   | bool =>
     obtain ⟨n1, rfl, _, rfl⟩ := h1
     obtain ⟨n2, rfl, _, rfl⟩ := h2
     exact run_equalIn_bool' w _ t n1 n2 (hfit rfl)
   | str =>
     obtain ⟨n1, rfl, _, rfl, _⟩ := h1
     obtain ⟨n2, rfl, _, rfl, _⟩ := h2
     have := run_equalIn_string w (n + 1) t (mkS n1) (mkS n2) (hfit rfl)
     rw [z5X, z5X] at this
     exact this
   | pair a b =>
     obtain ⟨fs, hu, hf, hl⟩ := hfit rfl
     have hc := ok.cmp t (by rw [hty]; simp [T.eqsOk, he]; omega)
     have hfs := z6T hu
     have := run_equalIn_struct w (n + 1) t c1.toArray c2.toArray (by rw [hu, hfs]) hc.1
     simp only [z0Q, T.agg_pair, if_true]
     rw [this, hfs]
     refine zFC ok (h := h) (V := V) (base := 0) (p1 := []) (p2 := []) fs.toList (.pair a b) rfl he ?_ ?_ ?_ ?_ rfl rfl rfl rfl h1 h2 hd
     ·intro f u hu1 hu2 hu3 hu4 e1 e2 k1 k2 c1 c2 r1 r2
      exact ih hu3 hu1 (by omega) (by omega) r1 r2
     ·intro j hj
      obtain ⟨f, g1, g2, g3, g4⟩ := hf j hj
      exact ⟨f, by simpa using g1, by simpa using g2, g3, g4⟩
     ·intro j hj; exact hl j (by simpa using hj)
     ·rw [← hfs]; exact hc.2.2
   | _ => simp [T.eqs] at he
theorem zJ3 (ok : EnvOk P Γ) {dst : Option Nat} {op : BinOp} {t : TypeId} {x y : Operand} (h : (zKu Γ dst op t x y).wp X S Kt) (hi : Inv Γ E S act w) (hn : z2V Γ E S Kt next) :
 ∃ v, (do eqGuard op t x y (act.eval x) (act.eval y); binOp op t (act.eval x) (act.eval y) : Sem Value).run P w = .ok v w ∧ next (act.put dst v) w := by
 obtain ⟨hf, κ, V, hc, hb⟩ := hi
 obtain ⟨a, hk, ho⟩ := z0V h hc
 obtain ⟨b, hk, ho2⟩ := z0V hk hc
 cases a with
 | val τ m =>
   cases b with
   | val u n =>
     obtain ⟨_, cs1, hr1, e1⟩ := ho
     obtain ⟨_, cs2, hr2, e2⟩ := ho2
     have key : τ = Γ.ty t → u = Γ.ty t → (Γ.ty t).eqsOk = true → (eqGuard op t x y (act.eval x) (act.eval y)).run P w = .ok () w ∧ (∃ xs ys, act.eval x = .agg xs ∧ act.eval y = .agg ys) ∧ (Op.equalIn 10000 t (act.eval x) (act.eval y)).run P w = .ok (m.beq n) w := by
      rintro rfl rfl he
      have hc := ok.cmp t he
      simp only [T.eqsOk, Bool.and_eq_true, decide_eq_true_eq] at he
      have h1 : act.eval x = .agg cs1.toArray := by rw [e1]; simp [z0Q, he.2.1]
      have h2 : act.eval y = .agg cs2.toArray := by rw [e2]; simp [z0Q, he.2.1]
      refine ⟨?_, ⟨_, _, h1, h2⟩, ?_⟩
      ·rw [h1, h2]; exact run_eqGuard_agg w op t x y _ _ hc.2.1
      ·rw [e1, e2]
       have hmono : (Γ.ty t).dep ≤ 9999 := by omega
       exact zMB ok 9999 rfl he.1 hmono (by omega) hr1 hr2
     cases op <;> simp only at hk <;> (try exact hk.elim)
     ·simp only [A.wp] at hk
      obtain ⟨⟨h1, h2, h3⟩, hk⟩ := hk
      obtain ⟨g1, ⟨xs, ys, hx, hy⟩, g2⟩ := key h1 h2 h3
      refine ⟨_, ?_, z08 hk hf hc hb (z4r _) hn⟩
      simp only [Sem.run_bind, g1, Result.andThen_ok]
      rw [hx, hy] at g2 ⊢
      rw [run_eql_struct, g2]; rfl
     ·simp only [A.wp] at hk
      obtain ⟨⟨h1, h2, h3⟩, hk⟩ := hk
      obtain ⟨g1, ⟨xs, ys, hx, hy⟩, g2⟩ := key h1 h2 h3
      refine ⟨_, ?_, z08 hk hf hc hb (z4r _) hn⟩
      simp only [Sem.run_bind, g1, Result.andThen_ok]
      rw [hx, hy] at g2 ⊢
      rw [run_neq_struct, g2]; rfl
   | _ => exact hk.elim
 | _ => exact hk.elim
end
end Go.Own
namespace Go.Own
variable [Glb]
open Go
section
variable (Γ : Env)
@[simp] def zEW (dst : Option Nat) (src tgt : TypeId) (x : Operand) : A := opd x fun a => match a with
 | .val .str d => .need (Γ.ty src = .str ∧ Γ.ty tgt = .lst true (.int .u8)) (out Γ dst (.val (.lst true (.int .u8)) (.lst (d.s.map fun c => .int c.toNat))))
 | _ => .fail
end
variable {P : Program} {Γ : Env} {E : Entry} {S : St} {act : Act} {w : World} {X : Ctr} {Kt : Wr → Prop} {next : Act → World → Prop}
theorem z5A (b off c n : Nat) : (K.lst b off c n fun _ => .leaf).blocks = [b] := by
 have : ∀ l : List Nat, l.flatMap (fun _ => ([] : List Nat)) = [] := by intro l; induction l <;> simp_all
 simp only [K.blocks, this]
theorem zGW (ok : EnvOk P Γ) {dst : Option Nat} {src tgt : TypeId} {x : Operand} (h : (zEW Γ dst src tgt x).wp X S Kt) (hi : Inv Γ E S act w) (hn : z2V Γ E S Kt next) :
 ∃ v w', (convert src tgt (act.eval x)).run P w = .ok v w' ∧ next (act.put dst v) w' := by
 obtain ⟨hf, κ, V, hc, hb⟩ := hi
 obtain ⟨a, hk, ho⟩ := z0V h hc
 cases a with
 | val τ d =>
   cases τ with
   | str =>
     simp only [A.wp] at hk
     obtain ⟨⟨hs, ht⟩, hk⟩ := hk
     obtain ⟨hv, hlen⟩ := zDf ho
     obtain ⟨et, hu, he, hok⟩ := Fits.lst ok (t := tgt) (by rw [ht]; rfl)
     have hue : P.underlying et = some (.int .u8) := by
      have := ok.fits et hok
      rw [he, ht] at this; exact this
     have hus : P.underlying src = some .string := by have := ok.fits src (by rw [hs]; rfl); rw [hs] at this; exact this
     have hrun := Lib.run_convert_string_bytes (P := P) w src tgt et (mkS d.s) hus hu hue
     rw [hv]
     refine ⟨_, _, hrun, ?_⟩
     have hge := grownCap_ge w (mkS d.s).size 0 et
     rw [z4E] at hge
     rw [z4E]
     generalize hg : grownCap w d.s.length 0 et = g at hge
     have hcells : (Lib.bytesCells w et (mkS d.s)).size = g := by
      simp only [Lib.bytesCells, z4E, hg, Array.size_append, Array.size_map, Array.size_replicate]
      have : (mkS d.s).data.size = d.s.length := by simp [mkS]
      rw [this]; omega
     have hsz := Lib.bytesWorld_size w et (mkS d.s)
     have hold := Lib.bytesWorld_at_old w et (mkS d.s)
     have hnew := Lib.bytesWorld_at_new w et (mkS d.s)
     rw [hcells] at hnew
     have hf' : Fr Γ E act (Lib.bytesWorld w et (mkS d.s)) :=
      ⟨⟨hf.same.os, hf.same.tape, hf.same.output⟩, fun b h1 h2 => by rw [hold b (by have := hf.size; omega)]; exact hf.frame b h1 h2, by rw [hsz]; have := hf.size; omega, hf.n, hf.fx, hf.df⟩
     have hc' : Conc (Lib.bytesWorld w et (mkS d.s)).heap (tmOf act) V S κ :=
      hc.frame (fun s b hb => hold b (hc.bl s b hb)) (fun b hb => hold b (hc.lt b hb)) (fun _ h => h) hc.dv (fun b hb => by rw [hsz]; have := hc.lt b hb; omega) (by rw [hsz]; omega)
     refine zEZ (k := .lst w.heap.size 0 g d.s.length (fun _ => .leaf)) hk hf' hc' hb ?_ ?_ ?_ ?_ ?_ ?_ hn
     ·intro dd _
      refine ⟨[.slice (some ⟨w.heap.size, 0, none⟩) d.s.length g], ⟨_, rfl, .inr ⟨w.heap.size, 0, g, _, et, (g, g + 1), fun _ => .leaf, by rw [List.length_map], ⟨by rw [List.length_map]; exact hge, by rw [List.length_map]; exact hlen⟩, hnew, by rw [hcells]; simp [T.size], ?_, by rw [List.length_map]; exact ⟨fun o ho => by have ho2 : o < (_ : Array Value).size + 0 := ho; rw [hcells] at ho2; simp; omega, by rw [z0U]⟩⟩⟩, rfl⟩
      intro j y hy
      rw [List.getElem?_map, Option.map_eq_some_iff] at hy
      obtain ⟨c, hc1, rfl⟩ := hy
      have hj := (List.getElem?_eq_some_iff.1 hc1).1
      refine ⟨c.toNat, rfl, rfl, ?_, by simp [IntKind.min, IntKind.signed], by have := c.toNat_lt; simp [IntKind.max, IntKind.signed, IntKind.bits]; omega⟩
      apply List.ext_getElem?
      intro q
      rw [z0Z]
      simp only [T.size, Nat.mul_one, Nat.zero_add]
      by_cases hq : q < 1
      ·obtain rfl : q = 0 := by omega
       rw [if_pos (by omega)]
       have hjd : j < (mkS d.s).data.size := by simpa [mkS] using hj
       simp only [Lib.bytesCells, Array.getElem?_toList, Nat.add_zero]
       rw [Array.getElem?_append_left (by simpa using hjd), Array.getElem?_map]
       have : (mkS d.s).data[j]? = some c := by rw [← Array.getElem?_toList, z2Y]; exact hc1
       rw [this]; rfl
      ·rw [if_neg hq, List.getElem?_eq_none (by simp; omega)]
     ·rw [K.nodup_lst]; simp [K.blocks]
     ·intro s b hb' hm; rw [z5A] at hb'; simp at hb'; subst hb'; have := hc.bl s _ hm; omega
     ·intro b hb' hV; rw [z5A] at hb'; simp at hb'; subst hb'; have := hc.lt _ hV; omega
     ·intro b hb'; rw [z5A] at hb'; simp at hb'; subst hb'; rw [hsz]; omega
     ·intro b hb'; rw [z5A] at hb'; simp at hb'; subst hb'; exact .inr hf.size
   | _ => exact hk.elim
 | _ => exact hk.elim
end Go.Own
namespace Go.Own
variable [Glb]
open Go
variable {P : Program} {Γ : Env} {E : Entry} {S : St} {act : Act} {w : World} {X : Ctr} {Kt : Wr → Prop}
theorem z1B.flat {h : Heap} {V : Nat → Prop} : ∀ (p : Path) {t d κ cs}, z1B h V t d κ cs → t.flat p = true → ∃ c1 c0 c2, cs = c1 ++ (c0 ++ c2) ∧ c1.length = t.offs p ∧ z1B h V (t.at p) (d.get p) (κ.get p) c0
 | [], t, d, κ, cs, hr, _ => ⟨[], cs, [], by simp, rfl, hr⟩
 | .f j :: p, t, d, κ, cs, hr, hf => by
   simp only [T.flat, Bool.and_eq_true] at hf
   obtain ⟨c1, cj, c2, rfl, hl, hj⟩ := z1B.fld j hr hf.1
   obtain ⟨e1, e0, e2, rfl, hl2, h0⟩ := z1B.flat p hj hf.2
   exact ⟨c1 ++ e1, e0, e2 ++ c2, by simp, by simp [hl, hl2], h0⟩
 | .i _ :: _, _, _, _, _, _, hf => by simp at hf
theorem T.moved_fld : ∀ (j : Nat) (t : T), t.moved.has j = t.has j ∧ (t.has j = true → t.moved.fld j = (t.fld j).moved ∧ t.moved.off j = t.off j) := by
 have hsz : ∀ t : T, t.moved.size = t.size := fun t => T.shape_size (T.moved_shape t)
 intro j
 induction j with
 | zero =>
   intro t
   cases t with
   | lst o e => cases o <;> exact ⟨rfl, fun h => by simp at h⟩
   | pair a b => exact ⟨rfl, fun _ => ⟨rfl, rfl⟩⟩
   | _ => exact ⟨rfl, fun h => by simp at h⟩
 | succ j ih =>
   intro t
   cases t with
   | lst o e => cases o <;> exact ⟨rfl, fun h => by simp at h⟩
   | pair a b =>
     obtain ⟨h1, h2⟩ := ih b
     refine ⟨h1, fun h => ?_⟩
     obtain ⟨h3, h4⟩ := h2 h
     exact ⟨h3, by show a.moved.size + b.moved.off j = a.size + b.off j; rw [hsz, h4]⟩
   | _ => exact ⟨rfl, fun h => by simp at h⟩
theorem T.moved_flat : ∀ (p : Path) {t : T}, t.flat p = true → t.moved.flat p = true ∧ t.moved.offs p = t.offs p
 | [], t, _ => ⟨rfl, by simp⟩
 | .f j :: p, t, h => by
   simp only [T.flat, Bool.and_eq_true] at h
   obtain ⟨h1, h2⟩ := T.moved_fld j t
   obtain ⟨h3, h4⟩ := h2 h.1
   obtain ⟨h5, h6⟩ := T.moved_flat p h.2
   simp only [T.flat, T.offs, h1, h3, h4, h5, h6, h.1]
   exact ⟨rfl, trivial⟩
 | .i _ :: _, _, h => by simp at h
theorem zFw {P : Program} {Γ : Env} (ok : EnvOk P Γ) {t : TypeId} (ht : (Γ.ty t).ok = true) {τ : T} {cs : List Value} {b o : Nat} {w : World} (hl : cs.length = τ.size) (hcell : ∀ j v, cs[j]? = some v → w.cell? ((⟨b, o, none⟩ : Addr).add j) = some v) (hv : τ.view = (Γ.ty t).view) :
 (loadVar t ⟨b, o, none⟩).run P w = .ok (z0Q τ cs) w := by
 have hk := T.view_kind hv
 unfold loadVar
 rw [Sem.run_bind, ok.isAgg ht]
 simp only [Result.andThen_ok]
 by_cases ha : τ.agg = true
 ·rw [← hk.1, if_pos ha]
  rw [Sem.run_bind, ok.sizeOf ht]
  simp only [Result.andThen_ok]
  rw [← hk.2, ← hl, Sem.run_bind, run_loadCells_list w _ cs hcell]
  simp [z0Q, ha]
 ·rw [← hk.1, if_neg ha]
  have h1 : cs.length = 1 := by
   rw [hl]; clear hk hv hl; cases τ <;> simp at ha ⊢
  match cs, h1 with
  | [v], _ =>
    have := hcell 0 v rfl
    have e : (⟨b, o, none⟩ : Addr).add 0 = ⟨b, o, none⟩ := rfl
    rw [e] at this
    simp only [Go.load, Sem.run, this, z0Q, ha]
    rfl
theorem zGs (ok : EnvOk P Γ) {dst : Option Nat} {t : TypeId} {x : Operand} (h : (zCA Γ dst t x).wp X S Kt) (hi : Inv Γ E S act w) {next : Act → World → Prop} (hn : z2V Γ E S Kt next) :
 ∃ v, (Instr.loadAt t (act.eval x)).run P w = .ok v w ∧ next (act.put dst v) w := by
 unfold zCA at h
 split at h
 case h_2 => exact z5w ok h hi hn
 rename_i s
 simp only [A.wp] at h
 split at h
 case h_2 => exact z5w ok h hi hn
 rename_i r0 v0 q hav0
 simp only [A.wp] at h
 split at h
 case h_2 => exact z5w ok h hi hn
 rename_i ty d r v p hav
 split at h
 case isTrue => exact z5w ok h hi hn
 rename_i hpl
 simp only [A.wp] at h
 split at h
 case h_2 => exact h.elim
 rename_i tr dr bx hroot
 simp only [A.wp] at h
 obtain ⟨⟨hl0, hl, hat, hok, hview, hty⟩, hk⟩ := h
 have hflat : ty.flat q = true := by
  cases hq : ty.flat q with
  | true => rfl
  | false => exact absurd (.inl hq) hpl
 obtain ⟨hf, κ, V, hc, hb⟩ := hi
 have hcs := hc.cv r0
 rw [hav] at hcs
 obtain ⟨b, κ0, arr, ty0, hks, htm, hh, hmv, hag, hrs, hrc⟩ := hcs
 obtain ⟨cs, href, hval⟩ := hrc.2 tr dr bx hroot hl hat hok
 have hcs2 : cs = arr.toList := by
  unfold z0Q at hval
  rw [if_pos hag] at hval
  have := Value.agg.inj hval
  rw [this]
 subst hcs2
 have hcp := hc.cv s
 rw [hav0] at hcp
 obtain ⟨_, _, hptr⟩ := hcp
 have hd0 := z74 q hflat
 obtain ⟨hmf, hmo⟩ := T.moved_flat q hflat
 have hroot0 : (S r0).root = some (ty.moved, d, true) := by unfold Cl.root; rw [hav]
 obtain ⟨b', o, hloc, hv⟩ := hptr.2 ty.moved d true hroot0 (by rw [hd0]; exact hl0) (zED q hmf)
 rw [z8T q hd0] at hloc
 simp only [addr, if_true, hks, Option.map_some, Option.some.injEq, Prod.mk.injEq] at hloc
 obtain ⟨rfl, rfl⟩ := hloc
 obtain ⟨c1, c0, c2, hcs, hlen, h0⟩ := z1B.flat q href hflat
 have e1 : act.eval (.tmp s) = .pointer (some ⟨b, 0 + ty.moved.offs q, none⟩) := hv
 refine ⟨z0Q (ty.at q) c0, ?_, z08 hk hf hc hb ?_ hn⟩
 ·rw [e1]
  simp only [Instr.loadAt, Instr.sureAddr]
  have hm : Mem w.heap b (0 + ty.moved.offs q) c0 := by
   refine ⟨arr, ty0, (0, 0), hh, fun o _ => by simp, ?_, ?_⟩
   ·have hla : arr.size = c1.length + (c0.length + c2.length) := by
     rw [← Array.length_toList, hcs]; simp
    rw [hmo, ← hlen, hla]; omega
   ·rw [hcs, hmo, ← hlen]; simp
  exact zFw ok hty h0.length (Mem.cell hm) hview
 ·refine ⟨hrc.1, fun tr' dr' bx' hr' _ ht' hok' => ⟨c0, ?_, rfl⟩⟩
  rw [hroot] at hr'; cases hr'
  rw [K.get_append]
  exact h0
end Go.Own
namespace Go.Own
variable [Glb]
open Go
noncomputable section
def D.clr (d : D) (p : Path) (lo n : Nat) (z : D) : D := d.set p (.lst ((d.get p).l.take lo ++ List.replicate n z ++ (d.get p).l.drop (lo + n)))
section
variable (Γ : Env)
@[simp] def zC9 (dst : Option Nat) (t : TypeId) (x : Operand) : A :=
 match dst, x with
 | none, .tmp s => .ask s fun c => match c.av with
   | .win r v p e lo n => rootOf r fun cr tr dr _ =>
      .need (z1Q v cr.v (depth p) ∧ tr.at p = .lst true e ∧ Ok tr dr p ∧ e.plain = true ∧ (Γ.ty t).lsts = true ∧ e = (Γ.ty t).elem ∧ e.size ≠ 0 ∧ lo + n ≤ (dr.get p).l.length ∧ cr.setRoot tr dr cr.v = cr)
       (.ret [(r, cr.setRoot tr (dr.clr p lo n e.zero) cr.v)])
   | _ => .fail
 | _, _ => .fail
end
theorem D.setFld_setFld : ∀ (j : Nat) (d x y : D), (d.setFld j x).setFld j y = d.setFld j y
 | 0, _, _, _ => rfl
 | j + 1, d, x, y => by simp only [D.setFld, D.fst_pair, D.snd_pair]; rw [D.setFld_setFld j]
theorem D.set_idx : ∀ (p : Path) (d : D) (L : List D) (k : Nat) (z : D), (d.set p (.lst L)).set (p ++ [.i k]) z = d.set p (.lst (L.set k z))
 | [], d, L, k, z => rfl
 | .f j :: p, d, L, k, z => by
   simp only [List.cons_append, D.set]
   rw [D.fld_setFld', D.set_idx p, D.setFld_setFld]
 | .i n :: p, d, L, k, z => by
   simp only [List.cons_append, D.set, D.l_lst, D.nth]
   by_cases hn : n < d.l.length
   ·have : (d.l.set n (((d.l.getD n .unit)).set p (.lst L))).getD n .unit = ((d.l.getD n .unit)).set p (.lst L) := by
     rw [List.getD_eq_getElem?_getD, List.getElem?_set_self hn]; rfl
    rw [this, D.set_idx p, List.set_set]
   ·rw [List.set_eq_of_length_le (l := d.l) (by omega), List.set_eq_of_length_le (by omega), List.set_eq_of_length_le (by omega)]
theorem z9U : ∀ (p : Path) {t : T} {d : D} {L : List D} {k : Nat} {e : T}, Ok t d p → t.at p = .lst true e → k < L.length → Ok t (d.set p (.lst L)) (p ++ [.i k])
 | [], t, d, L, k, e, _, h, hk => by
   simp only [T.at] at h
   subst h
   exact ⟨rfl, hk, trivial⟩
 | .f j :: p, t, d, L, k, e, hok, h, hk => by
   simp only [List.cons_append, D.set, Ok, T.at] at hok h ⊢
   rw [D.fld_setFld']
   exact ⟨hok.1, z9U p hok.2 h hk⟩
 | .i n :: p, t, d, L, k, e, hok, h, hk => by
   simp only [List.cons_append, D.set, Ok, T.at, D.l_lst, D.nth, List.length_set] at hok h ⊢
   refine ⟨hok.1, hok.2.1, ?_⟩
   have : (d.l.set n (((d.l.getD n .unit)).set p (.lst L))).getD n .unit = ((d.l.getD n .unit)).set p (.lst L) := by
    rw [List.getD_eq_getElem?_getD, List.getElem?_set_self hok.2.1]; rfl
   rw [this]
   exact z9U p hok.2.2 h hk
theorem Rep.set_self {h : Heap} {V : Nat → Prop} : ∀ (p : Path) {t : T} {d : D} {κ : K} {cs : List Value} {e : T}, Rep h V t d κ cs → Ok t d p → t.at p = .lst true e → d.set p (.lst (d.get p).l) = d
 | [], t, d, κ, cs, e, hr, _, h => by
   simp only [T.at] at h
   subst h
   obtain ⟨xs, rfl, _⟩ := hr
   rfl
 | .f j :: p, t, d, κ, cs, e, hr, hok, h => by
   simp only [D.set, D.get, Ok, T.at] at hok h ⊢
   obtain ⟨_, _, _, _, _, hf, _⟩ := Rep.fld j hr hok.1
   rw [Rep.set_self p hf hok.2 h]
   exact Rep.setFld_self j hok.1 hr
 | .i n :: p, t, d, κ, cs, e, hr, hok, h => by
   simp only [D.set, D.get, Ok, T.at, D.nth] at hok h ⊢
   obtain ⟨e0, rfl⟩ : ∃ e0, t = .lst true e0 := by
    cases t with
    | lst o e0 => cases o with
      | true => exact ⟨e0, rfl⟩
      | false => cases hok.1
    | _ => cases hok.1
   obtain ⟨xs, rfl, hx⟩ := hr
   simp only [D.l_lst] at hok h ⊢
   have hn := hok.2.1
   have hg : xs.getD n .unit = xs[n] := by rw [List.getD_eq_getElem?_getD, List.getElem?_eq_getElem hn]; rfl
   rcases hx with ⟨rfl, _⟩ | ⟨b, off, c, arr, ty, fz, ks, _, _, _, _, hel, _⟩
   ·simp at hn
   ·have he := hel n xs[n] (List.getElem?_eq_getElem hn)
    rw [hg] at hok ⊢
    rw [Rep.set_self p he hok.2.2 h]
    rw [List.set_getElem_self]
theorem Cl.setRoot_setRoot (c : Cl) (t t' : T) (d d' : D) (v v' : Ver) : (c.setRoot t d v).setRoot t' d' v' = c.setRoot t' d' v' := by
 obtain ⟨a, w⟩ := c
 cases a <;> rfl
variable {P : Program} {Γ : Env} {E : Entry} {S : St} {act : Act} {w : World} {X : Ctr} {Kt : Wr → Prop}
theorem z6E {b o : Nat} : ∀ (ys : List Value) (i j : Nat) (w : World), (storeCells ⟨b, o, none⟩ ys (i + j)).run P w = (storeCells ⟨b, o + i, none⟩ ys j).run P w
 | [], _, _, _ => rfl
 | v :: ys, i, j, w => by
   unfold storeCells
   have e : (⟨b, o, none⟩ : Addr).add (i + j) = (⟨b, o + i, none⟩ : Addr).add j := by
    rw [zHI, zHI, Nat.add_assoc]
   rw [e, Sem.run_bind, Sem.run_bind]
   congr 1
   funext u w2
   exact z6E ys i (j + 1) w2
theorem z7b {b o : Nat} : ∀ (xs ys : List Value) (i : Nat) (w w1 : World), (storeCells ⟨b, o, none⟩ xs i).run P w = .ok () w1 →
 (storeCells ⟨b, o, none⟩ (xs ++ ys) i).run P w = (storeCells ⟨b, o + i + xs.length, none⟩ ys 0).run P w1
 | [], ys, i, w, w1, h => by
   cases h
   exact z6E ys i 0 w
 | v :: xs, ys, i, w, w1, h => by
   have e : ∀ l : List Value, (storeCells ⟨b, o, none⟩ (v :: l) i).run P w = ((store ((⟨b, o, none⟩ : Addr).add i) v).run P w).andThen fun _ w2 => (storeCells ⟨b, o, none⟩ l (i + 1)).run P w2 := fun l => by
    rw [← Sem.run_bind]; rfl
   rw [e] at h
   rw [List.cons_append, e]
   cases hs : (store ((⟨b, o, none⟩ : Addr).add i) v).run P w with
   | ok u w2 =>
     rw [hs] at h
     simp only [Result.andThen_ok] at h ⊢
     rw [z7b xs ys (i + 1) w2 w1 h, List.length_cons, show o + (i + 1) + xs.length = o + i + (xs.length + 1) by omega]
   | _ => rw [hs] at h; cases h
theorem zG3 (w : World) (b : Nat) (x y : Array Value) : (w.setRow b x).setRow b y = w.setRow b y := by
 unfold World.setRow
 congr 1
 apply Array.ext_getElem?
 intro i
 simp only [Array.getElem?_modify]
 by_cases h : b = i
 ·subst h
  simp only [if_true]
  cases w.heap[b]? with
  | none => rfl
  | some o => cases o <;> rfl
 ·simp only [if_neg h]
theorem zKU {L : List D} {lo n : Nat} {z : D} (h : lo + n < L.length) : (L.take lo ++ List.replicate n z ++ L.drop (lo + n)).set (lo + n) z = L.take lo ++ List.replicate (n + 1) z ++ L.drop (lo + (n + 1)) := by
 have hl : (L.take lo ++ List.replicate n z).length = lo + n := by simp; omega
 rw [List.set_append, if_neg (by omega), hl, Nat.sub_self, List.drop_eq_getElem_cons h, List.set_cons_zero, List.replicate_succ', ← Nat.add_assoc]
 simp
theorem Conc.clear {κ V} {tm : Nat → Value} (hc : Conc w.heap tm V S κ) {r : Nat} {tr dr bx} (hroot : (S r).root = some (tr, dr, bx)) (hself : (S r).setRoot tr dr (S r).v = S r) {p : Path} (hok : Ok tr dr p) {e : T} (hat : tr.at p = .lst true e)
 (hpl : e.plain = true) (hs1 : e.sound = true) (hs0 : e.size ≠ 0) {b off c m ks} (hk : (base bx (κ r)).get p = .lst b off c m ks) {z : D} {zcs : List Value} (hz : ∀ (h : Heap) (V : Nat → Prop), ∃ kz, kz.blocks = [] ∧ Rep h V e z kz zcs)
 {lo : Nat} : ∀ n, lo + n ≤ (dr.get p).l.length → ∃ w', (storeCells ⟨b, off + lo * e.size, none⟩ (List.replicate n zcs).flatten).run P w = .ok () w' ∧ (w' = w ∨ ∃ arr, b ∈ (κ r).blocks ∧ w' = w.setRow b arr) ∧
  Conc w'.heap tm V (S.put r ((S r).setRoot tr (dr.clr p lo n z) (S r).v)) κ
 | 0, _ => by
   obtain ⟨cr, hrepr, _⟩ := hc.root hroot
   refine ⟨w, rfl, .inl rfl, ?_⟩
   have e1 : dr.clr p lo 0 z = dr := by
    unfold D.clr
    rw [List.replicate_zero, List.append_nil, Nat.add_zero, List.take_append_drop]
    exact Rep.set_self p hrepr hok hat
   have e2 : S.put r (S r) = S := by
    funext i; unfold St.put; split <;> simp_all
   rw [e1, hself, e2]; exact hc
 | n + 1, hn => by
   obtain ⟨w1, h1, h2, h3⟩ := Conc.clear hc hroot hself hok hat hpl hs1 hs0 hk hz (lo := lo) n (by omega)
   have hl1 : ((dr.get p).l.take lo ++ List.replicate n z ++ (dr.get p).l.drop (lo + n)).length = (dr.get p).l.length := by simp; omega
   have hroot1 : ((S.put r ((S r).setRoot tr (dr.clr p lo n z) (S r).v)) r).root = some (tr, dr.clr p lo n z, bx) := by
    rw [St.put_same]; exact (Cl.setRoot_root hroot).1
   have hok1 : Ok tr (dr.clr p lo n z) (p ++ [.i (lo + n)]) := z9U p hok hat (by omega)
   obtain ⟨kz, hkz, hrz⟩ := hz w1.heap V
   have hat1 : tr.at (p ++ [.i (lo + n)]) = e := by rw [T.at_append, hat]; rfl
   obtain ⟨arr, hrun, hbr, _, hA, _⟩ := Conc.store (P := P) h3 hroot1 hok1 (zGt p hk hat) hrz (by rw [hat1]) hs1 hs0 (by rw [hkz]; exact List.nodup_nil) (by rw [hkz]; simp) (by rw [hkz]; simp) (by rw [hkz]; simp)
   have hc2 := hA ⟨hat1.symm, hpl⟩
   have hst : (S.put r ((S r).setRoot tr (dr.clr p lo n z) (S r).v)).put r (((S.put r ((S r).setRoot tr (dr.clr p lo n z) (S r).v)) r).setRoot tr ((dr.clr p lo n z).set (p ++ [.i (lo + n)]) z) ((S.put r ((S r).setRoot tr (dr.clr p lo n z) (S r).v)) r).v) = S.put r ((S r).setRoot tr (dr.clr p lo (n + 1) z) (S r).v) := by
    rw [St.put_same, Cl.setRoot_setRoot, (Cl.setRoot_root hroot).2]
    have : (dr.clr p lo n z).set (p ++ [.i (lo + n)]) z = dr.clr p lo (n + 1) z := by
     unfold D.clr
     rw [D.set_idx, zKU (by omega)]
    rw [this]
    funext i
    unfold St.put
    split <;> rfl
   rw [hst] at hc2
   refine ⟨w1.setRow b arr, ?_, .inr ⟨arr, hbr, ?_⟩, hc2⟩
   ·rw [List.replicate_succ', List.flatten_append, z7b _ _ 0 w w1 h1]
    have hlen : (List.replicate n zcs).flatten.length = n * e.size := by
     rw [List.length_flatten, List.map_replicate, List.sum_replicate_nat, hrz.length]
    rw [hlen]
    simp only [List.flatten_cons, List.flatten_nil, List.append_nil]
    rw [show off + lo * e.size + 0 + n * e.size = off + (lo + n) * e.size by rw [Nat.add_mul]; omega]
    exact hrun
   ·rcases h2 with rfl | ⟨a, _, rfl⟩
    ·rfl
    ·exact zG3 _ _ _ _
theorem zIM {cs : Array Value} : ∀ n, (Builtin.zeroCells cs n).toList = (List.replicate n cs.toList).flatten := by
 intro n
 apply List.ext_getElem?
 intro k
 unfold Builtin.zeroCells
 induction n with
 | zero => simp
 | succ n ih =>
   rw [List.replicate_succ', List.flatten_append]
   have hlen : (List.replicate n cs.toList).flatten.length = n * cs.size := by
    rw [List.length_flatten, List.map_replicate, List.sum_replicate_nat, Array.length_toList]
   by_cases hk : k < n * cs.size
   ·rw [List.getElem?_append_left (by omega), ← ih]
    have h1 : k < (n + 1) * cs.size := by rw [Nat.add_mul]; omega
    simp [hk, h1]
   ·rw [List.getElem?_append_right (by omega), hlen]
    simp only [List.flatten_cons, List.flatten_nil, List.append_nil, Array.toList_map, List.getElem?_map, Array.toList_range]
    by_cases h1 : k < (n + 1) * cs.size
    ·rw [List.getElem?_range h1]
     have h2 : k - n * cs.size < cs.size := by rw [Nat.add_mul] at h1; omega
     have h3 : k % cs.size = k - n * cs.size := by
      obtain ⟨j, rfl⟩ : ∃ j, k = n * cs.size + j := ⟨k - n * cs.size, by omega⟩
      rw [Nat.add_sub_cancel_left] at h2 ⊢
      rw [Nat.mul_comm, Nat.mul_add_mod, Nat.mod_eq_of_lt h2]
     simp [h3, h2]
    ·rw [List.getElem?_eq_none (by simp; omega), List.getElem?_eq_none (by simp; rw [Nat.add_mul] at h1; omega)]
     rfl
theorem zGU (ok : EnvOk P Γ) {dst : Option Nat} {t ty : TypeId} {x : Operand} (h : (zC9 Γ dst t x).wp X S Kt) (hi : Inv Γ E S act w) {next : Act → World → Prop} (hn : z2V Γ E S Kt next) :
 ∃ v w', (Builtin.clear_ #[t] ty #[act.eval x]).run P w = .ok v w' ∧ next (act.put dst v) w' := by
 unfold zC9 at h
 split at h
 case h_2 => exact h.elim
 rename_i s
 simp only [A.wp] at h
 split at h
 case h_2 => exact h.elim
 rename_i r v p e lo n hav
 obtain ⟨tr, dr, bx, hroot, hk⟩ := z0h h
 simp only [A.wp] at hk
 obtain ⟨⟨hl, hat, hok, hpl, hls, rfl, hs0, hln, hself⟩, hK⟩ := hk
 obtain ⟨hf, κ, V, hc, hb⟩ := hi
 have hcv := hc.cv s
 rw [hav] at hcv
 obtain ⟨_, _, _, hw⟩ := hcv
 have hw := hw tr dr bx hroot hl hat hok
 obtain ⟨et, hu, he, hoke⟩ := Fits.lst ok hls
 obtain ⟨i, hi, hs, z, hz, hzl, hzrep⟩ := ok.info et hoke
 rw [he] at hs hzl hzrep
 have hev : act.eval (.tmp s) = tmOf act s := rfl
 have done : ∀ (w' : World), (w' = w ∨ ∃ b arr, b ∈ (κ r).blocks ∧ w' = w.setRow b arr) → Conc w'.heap (tmOf act) V (S.put r ((S r).setRoot tr (dr.clr p lo n (Γ.ty t).elem.zero) (S r).v)) κ → next (act.put none (.tuple #[])) w' := by
  intro w' hw' hc'
  refine hn _ act w' hK ?_
  rcases hw' with rfl | ⟨b, arr, hbr, rfl⟩
  ·exact ⟨hf, κ, V, hc', hb⟩
  ·exact ⟨hf.write (hb.k r b hbr), κ, V, hc', hb.v0, hb.v1, hb.k⟩
 have zero : n = 0 → Conc w.heap (tmOf act) V (S.put r ((S r).setRoot tr (dr.clr p lo n (Γ.ty t).elem.zero) (S r).v)) κ := by
  rintro rfl
  obtain ⟨cr, hrepr, _⟩ := hc.root hroot
  have e1 : dr.clr p lo 0 (Γ.ty t).elem.zero = dr := by
   unfold D.clr
   rw [List.replicate_zero, List.append_nil, Nat.add_zero, List.take_append_drop]
   exact Rep.set_self p hrepr hok hat
  have e2 : S.put r (S r) = S := by
   funext i; unfold St.put; split <;> simp_all
  rw [e1, hself, e2]; exact hc
 rcases hw with ⟨_, _, h0, hv⟩ | ⟨b, off, c, m, ks, hk, _, hv⟩
 ·refine ⟨.tuple #[], w, ?_, done w (.inl rfl) (zero h0)⟩
  rw [hev, hv]
  simp [Builtin.clear_, run_underlying hu]
 ·by_cases hn0 : n = 0
  ·refine ⟨.tuple #[], w, ?_, done w (.inl rfl) (zero hn0)⟩
   rcases hv with hv | ⟨_, _, hv⟩
   ·rw [hev, hv, hn0]
    simp [Builtin.clear_, run_underlying hu]
   ·rw [hev, hv]
    simp [Builtin.clear_, run_underlying hu]
  ·rcases hv with hv | ⟨_, h0, _⟩
   ·obtain ⟨w', h1, h2, h3⟩ := Conc.clear (P := P) hc hroot hself hok hat hpl (by rw [← he]; exact ok.sound et hoke) hs0 hk (z := (Γ.ty t).elem.zero) (zcs := z.cells.toList) (fun h V => let ⟨kz, k1, k2, _⟩ := hzrep h V; ⟨kz, k1, k2⟩) (lo := lo) n hln
    refine ⟨.tuple #[], w', ?_, done w' (h2.imp id fun ⟨a, h⟩ => ⟨b, a, h⟩) h3⟩
    rw [hev, hv]
    obtain ⟨n', rfl⟩ : ∃ n', n = n' + 1 := ⟨n - 1, by omega⟩
    have hzv : (zeroValue et).run P w = .ok z w := by
     simp only [zeroValue, typeInfo, program, Sem.run_bind, Sem.run, Result.andThen_ok, hi, hz, Sem.run_pure]
    simp [Builtin.clear_, run_underlying hu, hzv, zIM, h1]
   ·exact absurd h0 hn0
end
end Go.Own
