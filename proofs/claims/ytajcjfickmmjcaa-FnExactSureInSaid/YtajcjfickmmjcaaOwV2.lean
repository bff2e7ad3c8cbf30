/- A layer over the walk: what lies in memory as plain data, each operation by what it does to data; part 28. -/
import Derived.Test.YtajcjfickmmjcaaOwV1
import Derived.Laws.Append
import Derived.Laws.AppendOwn
set_option linter.unusedVariables false
set_option linter.unusedSimpArgs false
namespace Go.Own
open Go
noncomputable section
section
variable (Γ : Env)

/-- a list that is appended: its kind, its elements, what is taken for it -/
@[simp] def srcW (y : Operand) (k : Option T → List D → Wr → A) : A :=
  match y with
  | .tmp q => .ask q fun c => match c.av with
    | .val (.lst true e) d => k (some e) d.l [(q, ⟨.undef, c.v.kill⟩)]
    | .val (.lst false e) d => .need (e.plain = true) (k (some e) d.l [])
    | .ref r v p (.lst true e) _ => rootOf r fun cr tr dr _ => .need (liveRef v cr.v (depth p) ∧ tr.at p = .lst true e ∧ Ok tr dr p ∧ e.plain = true) (k (some e) (dr.get p).l [])
    | .win r v p e lo n => rootOf r fun cr tr dr _ => .need (liveRef v cr.v (depth p) ∧ tr.at p = .lst true e ∧ Ok tr dr p ∧ e.plain = true) (k (some e) (((dr.get p).l.drop lo).take n) [])
    | .nil => k none [] []
    | _ => .fail
  | .const (.slice none 0 0) => k none [] []
  | _ => .fail

/-- the kind of what comes: an empty list takes the other's -/
@[simp] def joinT (xs : List D) (e : T) : Option T → T
  | none => e
  | some e2 => e2

@[simp] def opAppend (dst : Option Nat) (t u : TypeId) (x y : Operand) : A := match dst with
  | none => .fail
  | some s => .ask s fun cd => .need (s < Γ.n ∧ s ∉ Γ.fx ∧ (Γ.ty t).lsts = true ∧ (Γ.ty u).lsts = true) (srcW y fun e2 ys ws => takeW ws (Γ.ty t) x fun ty d ws' =>
      match ty with
      | .lst true e => .need (e.view = (Γ.ty t).elem.view ∧ (∀ e', e2 = some e' → e' = e) ∧ e.size ≠ 0 ∧ e.sound = true ∧ s ∉ (ws ++ ws').map (·.1) ∧ d.l.length + ys.length ≤ smax ∧ (d.l.length + ys.length) * Γ.eb t ≤ 140737488355328)
          (.ret (ws ++ ws' ++ [(s, ⟨.val (.lst true e) (.lst (d.l ++ ys)), cd.v.kill⟩)]))
      | _ => .fail)
end

variable {P : Program} {Γ : Env} {E : Entry} {S : St} {act : Act} {w : World} {X : Ctr} {Kt : Wr → Prop} {next : Act → World → Prop}

theorem run_append_grow' (t u ty e eu : TypeId) (i : TypeInfo) (z : Value) (ht : P.underlying t = some (.slice e)) (hu : P.underlying u = some (.slice eu)) (hi : P.info? e = some i) (hz : i.zero = some z)
    (B A : Option Addr) (sLen sCap n c : Nat) (olds news : List Value) (hfo : ∀ w' : World, w'.heap = w.heap → (Builtin.firstCells i.size sLen (.slice B sLen sCap)).run P w' = .ok olds.toArray w')
    (hf : ∀ w' : World, w'.heap = w.heap → (Builtin.firstCells i.size n (.slice A n c)).run P w' = .ok news.toArray w')
    (hg : sCap < sLen + n) (h63 : ((sLen + n : Nat) : Int) ≤ 9223372036854775807) (hfit : Builtin.nextslicecap (sLen + n) sCap * i.bytes ≤ 281474976710656) :
    (Builtin.append_ #[t, u] ty #[.slice B sLen sCap, .slice A n c]).run P w =
      .ok (.slice (some ⟨w.heap.size, 0, none⟩) (sLen + n) (grownCap w (sLen + n) sCap e))
        (w.drew.alloc (.cells (olds.toArray ++ news.toArray ++ Builtin.zeroCells z.cells (grownCap w (sLen + n) sCap e - (sLen + n))) e)) := by
  have hn : ¬ (sLen + n ≤ sCap) := by omega
  have h63' : ¬ (9223372036854775807 < ((sLen : Int) + (n : Int))) := by omega
  have h48' : ¬ (281474976710656 < Builtin.nextslicecap (sLen + n) sCap * i.bytes) := by omega
  have hf' := hf w.drew rfl
  have hfo' := hfo w.drew rfl
  simp [Builtin.append_, run_underlying ht, run_underlying hu, sizeOf, typeInfo, zeroValue, hi, hz, Builtin.lenOf, hn, h63', h48', Question.forced, hf', hfo', newRow, grownCap]
  congr 2
  apply Array.ext'
  simp [List.append_assoc]

theorem run_append_room' (t u ty e eu : TypeId) (i : TypeInfo) (ht : P.underlying t = some (.slice e)) (hu : P.underlying u = some (.slice eu)) (hi : P.info? e = some i)
    (B A : Option Addr) (sLen sCap n c : Nat) (news : List Value) (hf : (Builtin.firstCells i.size n (.slice A n c)).run P w = .ok news.toArray w) (hroom : sLen + n ≤ sCap) :
    (Builtin.append_ #[t, u] ty #[.slice B sLen sCap, .slice A n c]).run P w = ((match B with | some a => storeCells (a.add (sLen * i.size)) news | none => pure ()).run P w).andThen fun _ w => .ok (.slice B (sLen + n) sCap) w := by
  cases B <;> simp [Builtin.append_, run_underlying ht, run_underlying hu, sizeOf, typeInfo, hi, Builtin.lenOf, hroom, hf]

theorem add_lit (b off k : Nat) : (⟨b, off, none⟩ : Addr).add k = ⟨b, off + k, none⟩ := by
  unfold Addr.add
  split
  · rename_i h; rw [h, Nat.add_zero]
  · rfl

theorem firstCells_run {size n c : Nat} {A : Option Addr} {news : List Value} (hl : news.length = n * size) (hc : n = 0 ∨ ∃ a, A = some a ∧ ∀ j v, news[j]? = some v → w.cell? (a.add j) = some v) (w' : World) (hw : w'.heap = w.heap) :
    (Builtin.firstCells size n (.slice A n c)).run P w' = .ok news.toArray w' := by
  have hcell : ∀ p, w'.cell? p = w.cell? p := fun p => by unfold World.cell?; rw [hw]
  rcases hc with rfl | ⟨a, rfl, h⟩
  · have : news = [] := by simpa using hl
    subst this
    cases A with
    | none => exact run_firstCells_none (P := P) w' size 0 0 c
    | some a => exact run_firstCells_some (P := P) w' size 0 a 0 c [] (by simp) (by simp)
  · exact run_firstCells_some (P := P) w' size n a n c news hl (fun j v hj => by rw [hcell]; exact h j v hj)

theorem cut_append_left {l r : List Value} {a m : Nat} (h : a + m ≤ l.length) : ((l ++ r).drop a).take m = (l.drop a).take m := by
  apply List.ext_getElem?
  intro k
  rw [cut_get, cut_get]
  split
  · rw [List.getElem?_append_left (by omega)]
  · rfl
theorem cut_append_right {l r : List Value} {a m : Nat} (h : l.length ≤ a) : ((l ++ r).drop a).take m = (r.drop (a - l.length)).take m := by
  apply List.ext_getElem?
  intro k
  rw [cut_get, cut_get]
  split
  · rw [List.getElem?_append_right (by omega)]; congr 1; omega
  · rfl

/-- a list with more behind it -/
theorem append_rep (ok : EnvOk P Γ) {t u ty : TypeId} (ht : (Γ.ty t).lsts = true) (hu : (Γ.ty u).lsts = true) {e : T} (hev : e.view = (Γ.ty t).elem.view) (hsnd : e.sound = true) {V : Nat → Prop} {xs ys : List D} {kx : K} {B A : Option Addr} {n c c2 : Nat} {news : List Value} {ks2 : Nat → K}
    (hr : Rep w.heap V (.lst true e) (.lst xs) kx [.slice B n c]) (hnd : kx.blocks.Nodup) (hnl : news.length = ys.length * e.size) (hcell : ys.length = 0 ∨ ∃ a, A = some a ∧ ∀ j v, news[j]? = some v → w.cell? (a.add j) = some v)
    (hel : ∀ j x, ys[j]? = some x → Rep w.heap V e x (ks2 j) ((news.drop (j * e.size)).take e.size)) (hV : ∀ b, V b → b < w.heap.size) (hVk : ∀ b, b ∈ kx.blocks → ¬ V b)
    (h2nd : ((List.range ys.length).flatMap fun j => (ks2 j).blocks).Nodup) (h2x : ∀ b, b ∈ kx.blocks → ∀ j, j < ys.length → b ∉ (ks2 j).blocks) (h2lt : ∀ j, j < ys.length → ∀ b, b ∈ (ks2 j).blocks → b < w.heap.size)
    (hlen : xs.length + ys.length ≤ smax) (hby : (xs.length + ys.length) * Γ.eb t ≤ 140737488355328) :
    ∃ v' w' k', (Builtin.append_ #[t, u] ty #[.slice B n c, .slice A ys.length c2]).run P w = .ok v' w' ∧ Rep w'.heap V (.lst true e) (.lst (xs ++ ys)) k' [v'] ∧ k'.blocks.Nodup ∧
      (∀ b, b ∈ k'.blocks → b ∈ kx.blocks ∨ (∃ j, j < ys.length ∧ b ∈ (ks2 j).blocks) ∨ w.heap.size ≤ b) ∧ (∀ b, b < w.heap.size → b ∉ kx.blocks → w'.heap[b]? = w.heap[b]?) ∧ w.heap.size ≤ w'.heap.size ∧ Same w w' ∧
      ((∃ cs, w' = { w.drew with heap := w.heap.push cs }) ∨ w' = w ∨ ∃ b arr, b ∈ kx.blocks ∧ w' = w.setRow b arr) := by
  obtain ⟨et, hut, het, hokt⟩ := Fits.lst ok ht
  obtain ⟨eu, huu, _⟩ := Fits.lst ok hu
  obtain ⟨i, hi, hs, z, hz, hzl, hzrep⟩ := ok.info et hokt
  obtain ⟨et', i', hu', hi', heb⟩ := ok.eb t ht
  rw [hut] at hu'; cases hu'
  rw [hi] at hi'; cases hi'
  have hsz : i.size = e.size := by rw [hs, het, ← T.view_size, ← hev, T.view_size]
  have hkn : ∀ {k : Nat → K} {m : Nat} {b off c : Nat}, (K.lst b off c m k).blocks.Nodup ↔ _ := K.nodup_lst
  have hnd2 := nodup_flatMap_range.1 h2nd
  have hfirst := firstCells_run (P := P) (w := w) (size := e.size) (c := c2) hnl hcell
  have hnn : n = xs.length := by
    obtain ⟨xs', hx, ⟨rfl, _, hcs⟩ | ⟨_, _, _, _, _, _, _, hcs, _⟩⟩ := id hr
    · cases hx; simp at hcs; exact hcs.2.1
    · cases hx; simp at hcs; exact hcs.2.1
  subst hnn
  by_cases hroom : xs.length + ys.length ≤ c
  · -- there is room
    have hrun := run_append_room' (P := P) (w := w) t u ty et eu i hut huu hi B A xs.length c ys.length c2 news (by rw [hsz]; exact hfirst w rfl) hroom
    obtain ⟨xs', hx, ⟨rfl, rfl, hcs⟩ | ⟨b, off, c', arr, tb, fz, ks, hcs, hl, hh, hs0, he, ho⟩⟩ := id hr
    · cases hx
      simp at hcs
      obtain ⟨rfl, rfl⟩ := hcs
      have hy : ys = [] := by simp at hroom; exact hroom
      subst hy
      refine ⟨_, w, .leaf, ?_, ⟨[], rfl, .inl ⟨rfl, rfl, none, rfl, fun _ => rfl⟩⟩, by simp [K.blocks], by simp [K.blocks], fun _ _ _ => rfl, Nat.le_refl _, ⟨rfl, rfl, rfl⟩, .inr (.inl rfl)⟩
      rw [hrun]; simp
    · cases hx
      simp only [List.cons.injEq, Value.slice.injEq, and_true] at hcs
      obtain ⟨rfl, _, rfl⟩ := hcs
      simp at ho
      obtain ⟨hfz, rfl⟩ := ho
      have hnd' := K.nodup_lst.1 hnd
      have hmul : (xs.length + ys.length) * e.size ≤ c * e.size := Nat.mul_le_mul_right _ hroom
      rw [Nat.add_mul] at hmul
      have hone : ∀ v ∈ news, v.oneCell' = true := by
        intro v hv
        obtain ⟨q, hq⟩ := List.getElem?_of_mem hv
        have hql := (List.getElem?_eq_some_iff.1 hq).1
        by_cases h0 : e.size = 0
        · rw [h0, Nat.mul_zero] at hnl; omega
        · have hj : q / e.size < ys.length := (Nat.div_lt_iff_lt_mul (by omega)).2 (by rw [← hnl]; exact hql)
          have hrep := hel (q / e.size) ys[q / e.size] (List.getElem?_eq_getElem hj)
          refine hrep.one hsnd v ?_
          refine List.mem_of_getElem? (i := q % e.size) ?_
          rw [cut_get, if_pos (Nat.mod_lt _ (by omega)), Nat.mul_comm, Nat.div_add_mod]; exact hq
      have hst := run_storeCells_free P b (off + xs.length * e.size) tb fz news 0 arr w hh hfz (by omega) hone
      rw [Nat.add_zero] at hst
      have hbn : b < w.heap.size := (Array.getElem?_eq_some_iff.1 hh).1
      have hsl := spl_length (l := arr.toList) (o := off + xs.length * e.size) (cs := news) (by simp; omega)
      have hframe : ∀ b', b' ≠ b → (w.setRow b (spl arr.toList (off + xs.length * e.size) news).toArray).heap[b']? = w.heap[b']? := fun b' hb' => setRow_other w b _ hb'
      refine ⟨.slice (some ⟨b, off, none⟩) (xs.length + ys.length) c, w.setRow b (spl arr.toList (off + xs.length * e.size) news).toArray, .lst b off c (xs.length + ys.length) (fun j => if j < xs.length then ks j else ks2 (j - xs.length)), ?_, ?_, ?_, ?_, ?_, ?_, ⟨rfl, rfl, rfl⟩, .inr (.inr ⟨b, _, by simp [K.blocks], rfl⟩)⟩
      · rw [hrun, hsz]
        simp only [add_lit]
        rw [hst]; rfl
      · refine ⟨xs ++ ys, rfl, .inr ⟨b, off, c, _, tb, fz, fun j => if j < xs.length then ks j else ks2 (j - xs.length), by simp, ⟨by simp; exact hroom, by simp; exact hlen⟩, setRow_heap w b arr _ tb fz hh, ?_, ?_, ?_⟩⟩
        · simp at hsl ⊢; omega
        · intro j x hx
          simp only
          by_cases hj : j < xs.length
          · rw [if_pos hj]
            rw [List.getElem?_append_left hj] at hx
            have hmj : (j + 1) * e.size ≤ xs.length * e.size := Nat.mul_le_mul_right _ (by omega)
            rw [Nat.add_mul, Nat.one_mul] at hmj
            have hfar := spl_far (l := arr.toList) (o := off + xs.length * e.size) (cs := news) (by simp; omega) (a := off + j * e.size) (m := e.size) (.inl (by omega))
            show Rep _ V e x (ks j) _
            rw [hfar]
            refine (he j x hx).frame (fun b' hb' => hframe b' ?_) (fun b' hb' => hframe b' ?_) (fun _ h => h)
            · rintro rfl; exact hnd'.1 j hj hb'
            · rintro rfl; exact hVk _ (by simp [K.blocks]) hb'
          · rw [if_neg hj]
            rw [List.getElem?_append_right (by omega)] at hx
            have hjl : j - xs.length < ys.length := (List.getElem?_eq_some_iff.1 hx).1
            have hcut : ((spl arr.toList (off + xs.length * e.size) news).drop (off + j * e.size)).take e.size = (news.drop ((j - xs.length) * e.size)).take e.size := by
              apply List.ext_getElem?
              intro q
              rw [cut_get, cut_get]
              split
              · rename_i hq
                have hmj : (j - xs.length + 1) * e.size ≤ ys.length * e.size := Nat.mul_le_mul_right _ (by omega)
                rw [Nat.add_mul, Nat.one_mul] at hmj
                have hsub : j * e.size = xs.length * e.size + (j - xs.length) * e.size := by rw [← Nat.add_mul]; congr 1; omega
                rw [spl_get (by simp; omega), if_neg (by omega), if_pos (by omega)]
                congr 1; omega
              · rfl
            show Rep _ V e x (ks2 (j - xs.length)) _
            rw [hcut]
            refine (hel _ x hx).frame (fun b' hb' => hframe b' ?_) (fun b' hb' => hframe b' ?_) (fun _ h => h)
            · rintro rfl; exact h2x _ (by simp [K.blocks]) _ hjl hb'
            · rintro rfl; exact hVk _ (by simp [K.blocks]) hb'
        · simp only [if_true, List.length_append]
          refine ⟨?_, trivial⟩
          intro o' ho'
          refine hfz o' ?_
          simp at hsl ho'; omega
      · rw [K.nodup_lst]
        refine ⟨fun j hj => ?_, fun j hj => ?_, fun j q hj hq hjq x hx hx' => ?_⟩
        · by_cases h : j < xs.length
          · simp only [h, if_true]; exact hnd'.1 j h
          · simp only [h, if_false]; exact h2x b (by simp [K.blocks]) _ (by omega)
        · by_cases h : j < xs.length
          · simp only [h, if_true]; exact hnd'.2.1 j h
          · simp only [h, if_false]; exact hnd2.1 _ (by omega)
        · by_cases h : j < xs.length <;> by_cases h' : q < xs.length <;> simp only [h, h', if_true, if_false] at hx hx'
          · exact hnd'.2.2 j q h h' hjq x hx hx'
          · exact h2x x (K.mem_nth h hx) _ (by omega) hx'
          · exact h2x x (K.mem_nth h' hx') _ (by omega) hx
          · rcases Nat.lt_or_gt_of_ne hjq with hlt | hlt
            · exact hnd2.2 (j - xs.length) (q - xs.length) (by omega) (by omega) x hx hx'
            · exact hnd2.2 (q - xs.length) (j - xs.length) (by omega) (by omega) x hx' hx
      · intro b' hb'
        simp only [K.blocks, List.mem_cons, List.mem_flatMap, List.mem_range] at hb'
        rcases hb' with rfl | ⟨j, hj, hb'⟩
        · exact .inl (by simp [K.blocks])
        · by_cases h : j < xs.length
          · simp only [h, if_true] at hb'; exact .inl (K.mem_nth h hb')
          · simp only [h, if_false] at hb'; exact .inr (.inl ⟨_, by omega, hb'⟩)
      · intro b' _ hb'
        refine hframe b' ?_
        rintro rfl; exact hb' (by simp [K.blocks])
      · rw [setRow_size]; exact Nat.le_refl _
  · -- a new row
    have hbase : ∃ olds : List Value, olds.length = xs.length * e.size ∧ (xs.length = 0 ∨ ∃ a, B = some a ∧ ∀ j v, olds[j]? = some v → w.cell? (a.add j) = some v) ∧ ∃ ks : Nat → K, (∀ j x, xs[j]? = some x → Rep w.heap V e x (ks j) ((olds.drop (j * e.size)).take e.size)) ∧
        (∀ j, j < xs.length → ∀ b, b ∈ (ks j).blocks → b ∈ kx.blocks) ∧ ((List.range xs.length).flatMap fun j => (ks j).blocks).Nodup := by
      obtain ⟨xs', hx, ⟨rfl, rfl, hcs⟩ | ⟨b, off, c', arr, tb, fz, ks, hcs, hl, hh, hs0, he, ho⟩⟩ := id hr
      · cases hx
        exact ⟨[], by simp, .inl rfl, fun _ => .leaf, by simp, by simp, by simp⟩
      · cases hx
        simp only [List.cons.injEq, Value.slice.injEq, and_true] at hcs
        obtain ⟨rfl, _, rfl⟩ := hcs
        simp at ho
        obtain ⟨hfz, rfl⟩ := ho
        have hnd' := K.nodup_lst.1 hnd
        have hmul : xs.length * e.size ≤ c * e.size := Nat.mul_le_mul_right _ hl.1
        have hol : ((arr.toList.drop off).take (xs.length * e.size)).length = xs.length * e.size := by simp; omega
        refine ⟨(arr.toList.drop off).take (xs.length * e.size), hol, .inr ⟨_, rfl, ?_⟩, ks, ?_, fun j hj b' hb' => K.mem_nth hj hb', ?_⟩
        · exact cut_cell hh (by rw [hol])
        · intro j x hx
          have hj := (List.getElem?_eq_some_iff.1 hx).1
          have hmj : (j + 1) * e.size ≤ xs.length * e.size := Nat.mul_le_mul_right _ (by omega)
          rw [Nat.add_mul, Nat.one_mul] at hmj
          have : (((arr.toList.drop off).take (xs.length * e.size)).drop (j * e.size)).take e.size = (arr.toList.drop (off + j * e.size)).take e.size := by
            apply List.ext_getElem?
            intro q
            rw [cut_get ((arr.toList.drop off).take (xs.length * e.size)) (j * e.size) e.size q, cut_get arr.toList (off + j * e.size) e.size q]
            split
            · rw [cut_get arr.toList off (xs.length * e.size) (j * e.size + q), if_pos (by omega)]; congr 1; omega
            · rfl
          rw [this]; exact he j x hx
        · simp only [K.blocks, List.nodup_cons] at hnd
          exact hnd.2
    obtain ⟨olds, hol, hoc, ks, hoe, hok, hond⟩ := hbase
    have hond' := nodup_flatMap_range.1 hond
    have hfo := firstCells_run (P := P) (w := w) (size := e.size) (c := c) hol hoc
    have hlen' : xs.length + ys.length ≤ 9223372036854775807 := by unfold smax at hlen; exact hlen
    have hrun := run_append_grow' (P := P) (w := w) t u ty et eu i z hut huu hi hz B A xs.length c ys.length c2 olds news (by rw [hsz]; exact hfo) (by rw [hsz]; exact hfirst) (by omega) (by omega) (growslice_fits (by omega) (by rw [heb]; exact hby))
    have hge := grownCap_ge w (xs.length + ys.length) c et
    have hzs : z.cells.size = e.size := by rw [← Array.length_toList, hzl, ← hs, hsz]
    generalize grownCap w (xs.length + ys.length) c et = g at hrun hge
    have hsize : (olds.toArray ++ news.toArray ++ Builtin.zeroCells z.cells (g - (xs.length + ys.length))).size = g * e.size := by
      simp only [Array.size_append, List.size_toArray, size_zeroCells, hzs, hol, hnl]
      rw [← Nat.add_mul, ← Nat.add_mul]; congr 1; omega
    refine ⟨_, _, .lst w.heap.size 0 g (xs.length + ys.length) (fun j => if j < xs.length then ks j else ks2 (j - xs.length)), hrun, ?_, ?_, ?_, ?_, ?_, ⟨rfl, rfl, rfl⟩, .inl ⟨_, rfl⟩⟩
    · refine ⟨xs ++ ys, rfl, .inr ⟨w.heap.size, 0, g, _, et, (0, 0), fun j => if j < xs.length then ks j else ks2 (j - xs.length), by simp, ⟨by simp; exact hge, by simp; exact hlen⟩, alloc_new w.drew _, by rw [hsize]; omega, ?_, ?_⟩⟩
      · intro j x hx
        simp only
        have hfr : ∀ b', b' < w.heap.size → (w.drew.alloc (.cells (olds.toArray ++ news.toArray ++ Builtin.zeroCells z.cells (g - (xs.length + ys.length))) et)).heap[b']? = w.heap[b']? := fun b' hb' => alloc_old w.drew _ hb'
        rw [Nat.zero_add]
        simp only [Array.toList_append, List.append_assoc]
        by_cases hj : j < xs.length
        · rw [if_pos hj]
          rw [List.getElem?_append_left hj] at hx
          have hmj : (j + 1) * e.size ≤ xs.length * e.size := Nat.mul_le_mul_right _ (by omega)
          rw [Nat.add_mul, Nat.one_mul] at hmj
          rw [cut_append_left (by omega)]
          have hR := hoe j x hx
          exact hR.frame (fun b' hb' => hfr b' (hR.blocks_lt b' hb')) (fun b' hb' => hfr b' (hV b' hb')) (fun _ h => h)
        · rw [if_neg hj]
          rw [List.getElem?_append_right (by omega)] at hx
          have hjl : j - xs.length < ys.length := (List.getElem?_eq_some_iff.1 hx).1
          have hmj : (j - xs.length + 1) * e.size ≤ ys.length * e.size := Nat.mul_le_mul_right _ (by omega)
          rw [Nat.add_mul, Nat.one_mul] at hmj
          have hsub : j * e.size = xs.length * e.size + (j - xs.length) * e.size := by rw [← Nat.add_mul]; congr 1; omega
          rw [cut_append_right (by omega), cut_append_left (by omega)]
          have hR := hel _ x hx
          have e2 : j * e.size - olds.length = (j - xs.length) * e.size := by omega
          rw [e2]
          exact hR.frame (fun b' hb' => hfr b' (h2lt _ hjl b' hb')) (fun b' hb' => hfr b' (hV b' hb')) (fun _ h => h)
      · simp only [if_true, List.length_append]
        exact ⟨fun o _ => by simp, trivial⟩
    · rw [K.nodup_lst]
      have hklt : ∀ b, b ∈ kx.blocks → b < w.heap.size := hr.blocks_lt
      refine ⟨fun j hj hm => ?_, fun j hj => ?_, fun j q hj hq hjq x hx hx' => ?_⟩
      · by_cases h : j < xs.length
        · simp only [h, if_true] at hm; have := hklt _ (hok j h _ hm); omega
        · simp only [h, if_false] at hm; have := h2lt _ (by omega) _ hm; omega
      · by_cases h : j < xs.length
        · simp only [h, if_true]; exact hond'.1 j h
        · simp only [h, if_false]; exact hnd2.1 _ (by omega)
      · by_cases h : j < xs.length <;> by_cases h' : q < xs.length <;> simp only [h, h', if_true, if_false] at hx hx'
        · rcases Nat.lt_or_gt_of_ne hjq with hlt | hlt
          · exact hond'.2 j q hlt h' x hx hx'
          · exact hond'.2 q j hlt h x hx' hx
        · exact h2x x (hok j h x hx) _ (by omega) hx'
        · exact h2x x (hok q h' x hx') _ (by omega) hx
        · rcases Nat.lt_or_gt_of_ne hjq with hlt | hlt
          · exact hnd2.2 (j - xs.length) (q - xs.length) (by omega) (by omega) x hx hx'
          · exact hnd2.2 (q - xs.length) (j - xs.length) (by omega) (by omega) x hx' hx
    · intro b' hb'
      simp only [K.blocks, List.mem_cons, List.mem_flatMap, List.mem_range] at hb'
      rcases hb' with rfl | ⟨j, hj, hb'⟩
      · exact .inr (.inr (Nat.le_refl _))
      · by_cases h : j < xs.length
        · simp only [h, if_true] at hb'; exact .inl (hok j h _ hb')
        · simp only [h, if_false] at hb'; exact .inr (.inl ⟨_, by omega, hb'⟩)
    · intro b' hb' _
      exact alloc_old w.drew _ hb'
    · rw [alloc_size]; simp
end
end Go.Own
