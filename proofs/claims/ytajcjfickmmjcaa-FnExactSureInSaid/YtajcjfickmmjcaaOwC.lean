/- A layer over the walk: what lies in memory as plain data, each operation by what it does to data; part 3. -/
import Derived.Test.YtajcjfickmmjcaaOwB
set_option linter.unusedVariables false
set_option linter.unusedSimpArgs false
namespace Go.Own

theorem K.mem_nth {b off c m : Nat} {ks : Nat → K} {n : Nat} (hn : n < m) {x : Nat} (hx : x ∈ (ks n).blocks) : x ∈ (K.lst b off c m ks).blocks := by
  simp only [K.blocks, List.mem_cons, List.mem_flatMap, List.mem_range]
  exact .inr ⟨n, hn, hx⟩

theorem nodup_flatMap_range {f : Nat → List Nat} : ∀ {m : Nat}, ((List.range m).flatMap f).Nodup ↔ (∀ i, i < m → (f i).Nodup) ∧ ∀ i j, i < j → j < m → ∀ x, x ∈ f i → x ∉ f j := by
  intro m
  induction m with
  | zero => simp
  | succ m ih =>
    rw [List.range_succ, List.flatMap_append, List.nodup_append, ih]
    simp only [List.flatMap_cons, List.flatMap_nil, List.append_nil, List.mem_flatMap, List.mem_range]
    constructor
    · rintro ⟨⟨h1, h2⟩, h3, h4⟩
      refine ⟨fun i hi => ?_, fun i j hij hj x hx hx' => ?_⟩
      · rcases Nat.lt_succ_iff_lt_or_eq.1 hi with h | rfl
        · exact h1 i h
        · exact h3
      · rcases Nat.lt_succ_iff_lt_or_eq.1 hj with h | rfl
        · exact h2 i j hij h x hx hx'
        · exact h4 x ⟨i, hij, hx⟩ x hx' rfl
    · rintro ⟨h1, h2⟩
      refine ⟨⟨fun i hi => h1 i (by omega), fun i j hij hj => h2 i j hij (by omega)⟩, h1 m (by omega), ?_⟩
      rintro a ⟨i, hi, ha⟩ b hb rfl
      exact h2 i m hi (by omega) a ha hb

theorem K.nodup_lst {b off c m : Nat} {ks : Nat → K} : (K.lst b off c m ks).blocks.Nodup ↔
    (∀ i, i < m → b ∉ (ks i).blocks) ∧ (∀ i, i < m → (ks i).blocks.Nodup) ∧ ∀ i j, i < m → j < m → i ≠ j → ∀ x, x ∈ (ks i).blocks → x ∉ (ks j).blocks := by
  simp only [K.blocks, List.nodup_cons, nodup_flatMap_range, List.mem_flatMap, List.mem_range, not_exists, not_and]
  constructor
  · rintro ⟨h1, h2, h3⟩
    refine ⟨h1, h2, fun i j hi hj hij x hx hx' => ?_⟩
    rcases Nat.lt_or_gt_of_ne hij with h | h
    · exact h3 i j h hj x hx hx'
    · exact h3 j i h hi x hx' hx
  · rintro ⟨h1, h2, h3⟩
    exact ⟨h1, h2, fun i j hij hj x hx hx' => h3 i j (by omega) hj (by omega) x hx hx'⟩

/-- a place: what lies there, and what is so behind a write there -/
theorem Rep.place {V : Nat → Prop} : ∀ (p : Path) {h : Heap} {t d κ cs A}, Rep h V t d κ cs → MemO h A cs → Ok t d p → κ.blocks.Nodup → (∀ b o, A = some (b, o) → b ∉ κ.blocks) →
    ∃ cs0, Rep h V (t.at p) (d.get p) (κ.get p) cs0 ∧ MemO h (loc t κ A p) cs0 ∧ (∀ b, b ∈ (κ.get p).blocks → b ∈ κ.blocks) ∧ (κ.get p).blocks.Nodup ∧
      (∀ b o, loc t κ A p = some (b, o) → b ∉ (κ.get p).blocks ∧ (b ∈ κ.blocks ∨ ∃ o', A = some (b, o'))) ∧
      ∀ {h' : Heap} {V' : Nat → Prop} {d' κ' cs' b o}, loc t κ A p = some (b, o) → Rep h' V' (t.at p) d' κ' cs' → Wrote h h' b o cs' →
        (∀ b', b' ∈ κ.blocks → b' ∉ (κ.get p).blocks → b' ≠ b → h'[b']? = h[b']?) → (∀ b' o', A = some (b', o') → b' ≠ b → h'[b']? = h[b']?) →
        (∀ b, V b → h'[b]? = h[b]?) → (∀ b, V b → V' b) →
        ∃ cs2, Rep h' V' t (d.set p d') (κ.set p κ') cs2 ∧ (∀ b o, A = some (b, o) → Wrote h h' b o cs2) ∧ (A = none → cs2 = cs) ∧
          ((∀ b, b ∈ κ'.blocks → b ∉ κ.blocks ∨ b ∈ (κ.get p).blocks) → κ'.blocks.Nodup → (κ.set p κ').blocks.Nodup) ∧
          (∀ b, b ∈ (κ.set p κ').blocks → b ∈ κ'.blocks ∨ (b ∈ κ.blocks ∧ b ∉ (κ.get p).blocks)) := by
  intro p
  induction p with
  | nil =>
    intro h t d κ cs A hr hm _ hnd hA
    refine ⟨cs, hr, ?_, fun b hb => hb, hnd, fun b o he => ⟨hA b o he, .inr ⟨o, he⟩⟩, ?_⟩
    · cases A <;> simpa [loc] using hm
    · intro h' V' d' κ' cs' b o hl hr' hw _ _ _ _
      refine ⟨cs', hr', ?_, ?_, fun _ hn => hn, fun b hb => .inl hb⟩
      · intro b' o' he; rw [loc] at hl; rw [he] at hl; cases hl; exact hw
      · intro he; rw [loc, he] at hl; cases hl
  | cons s p ih =>
    cases s with
    | f j =>
      intro h t d κ cs A hr hm hok hnd hA
      simp at hok
      obtain ⟨c1, cj, c2, rfl, hlen, hj, hin, hndj, hre⟩ := Rep.fld j hr hok.1
      have hnd' := hndj hnd
      have hm' : MemO h (A.map fun a => (a.1, a.2 + t.off j)) cj := by
        cases A with
        | none => trivial
        | some a =>
          obtain ⟨b, o⟩ := a
          obtain ⟨arr, ty, fz, h1, h2, h3, h4⟩ := hm
          refine ⟨arr, ty, fz, h1, h2, ?_, ?_⟩
          · simp at h3 ⊢; omega
          · apply List.ext_getElem?
            intro k
            rw [cut_get]
            have := cut_get arr.toList o (c1 ++ (cj ++ c2)).length (t.off j + k)
            rw [h4] at this
            by_cases hk : k < cj.length
            · simp only []
              rw [if_pos hk, show o + t.off j + k = o + (t.off j + k) by omega]
              rw [if_pos (by simp; omega)] at this
              rw [← this, List.getElem?_append_right (by omega), hlen, show t.off j + k - t.off j = k by omega, List.getElem?_append_left hk]
            · rw [if_neg hk, List.getElem?_eq_none (by omega)]
      obtain ⟨cs0, hR0, hM0, hIn0, hNd0, hL0, hW0⟩ := ih hj hm' hok.2 hnd' (by
        intro b o he hb
        cases A with
        | none => simp at he
        | some a => simp at he; exact hA a.1 a.2 rfl (he.1 ▸ hin _ hb))
      refine ⟨cs0, hR0, hM0, fun b hb => hin b (hIn0 b hb), hNd0, ?_, ?_⟩
      · intro b o he
        have := hL0 b o he
        refine ⟨this.1, this.2.elim (fun h => .inl (hin b h)) ?_⟩
        rintro ⟨o', ho'⟩
        cases A with
        | none => simp at ho'
        | some a => simp at ho'; exact .inr ⟨a.2, by rw [← ho'.1]⟩
      · intro h' V' d' κ' cs' b o hl hr' hw hb hAb hv hV
        obtain ⟨cs2, hR2, hWA, hcs, hN2, hM2⟩ := hW0 hl hr' hw (fun b' hb' => hb b' (hin b' hb')) (by
          intro b' o' he hne
          cases A with
          | none => simp at he
          | some a => simp at he; exact hAb b' a.2 (by rw [← he.1]) hne) hv hV
        have hL := (hL0 b o hl)
        rw [← T.setFld_self j (t := t)]
        obtain ⟨hR3, hN3, hM3⟩ := hre hR2 hnd (by
          intro b' hb' hb''
          by_cases hbe : b' = b
          · subst hbe
            exfalso
            rcases hL.2 with h | ⟨o', ho'⟩
            · exact hb'' h
            · cases A with
              | none => simp at ho'
              | some a => simp at ho'; exact hA a.1 a.2 rfl (ho'.1 ▸ hb')
          · exact hb b' hb' (fun hm' => hb'' (hIn0 b' hm')) hbe) hv hV
        refine ⟨c1 ++ (cs2 ++ c2), hR3, ?_, ?_, ?_, ?_⟩
        · rintro b' o' rfl
          obtain ⟨arr, ty, fz, h1, h2, h3⟩ := hWA b' (o' + t.off j) rfl
          obtain ⟨arr', ty', fz', g1, g2, g3, g4⟩ := hm
          rw [h1] at g1; cases g1
          have hcl : cs2.length = cj.length := by rw [hR2.length, hj.length]
          refine ⟨arr, ty, fz, h1, by simp at g3 ⊢; omega, ?_⟩
          rw [h3]
          congr 3
          have e1 : c1 ++ (cs2 ++ c2) = spl (c1 ++ (cj ++ c2)) (t.off j) cs2 := by
            unfold spl
            rw [← hlen, List.take_left, hcl, List.drop_append, List.drop_eq_nil_of_le (by omega)]
            simp
          rw [e1, spl_spl (by simpa using g3) (by simp; omega) g4]
        · intro he; subst he; rw [hcs rfl]
        · intro hd hn
          refine hN3 ?_ (hN2 ?_ hn)
          · intro b' hb'
            rcases hM2 b' hb' with h | h
            · rcases hd b' h with h' | h'
              · exact .inl h'
              · exact .inr (hIn0 b' h')
            · exact .inr h.1
          · intro b' hb'
            rcases hd b' hb' with h | h
            · exact .inl fun hm' => h (hin b' hm')
            · exact .inr h
        · intro b' hb'
          rcases hM3 b' hb' with h | h
          · rcases hM2 b' h with h' | h'
            · exact .inl h'
            · exact .inr ⟨hin b' h'.1, h'.2⟩
          · exact .inr ⟨h.1, fun hm' => h.2 (hIn0 b' hm')⟩
    | i n =>
      intro h t d κ cs A hr hm hok hnd hA
      simp at hok
      cases t <;> simp at hok
      rename_i ow e
      obtain ⟨rfl, hn, hok⟩ := hok
      obtain ⟨xs, rfl, ⟨rfl, _, _⟩ | ⟨b, off, c, arr, ty, fz, ks, rfl, hc, hh, hs, he, ho⟩⟩ := hr
      · simp at hn
      simp at ho hn hok
      obtain ⟨hfz, rfl⟩ := ho
      have hx : xs[n]? = some (xs[n]?.getD D.unit) := by rw [List.getElem?_eq_getElem hn]; rfl
      have hrn := he n _ hx
      have hnd' := K.nodup_lst.1 hnd
      have hmul : n * e.size + e.size ≤ c * e.size := by
        have : (n + 1) * e.size ≤ c * e.size := Nat.mul_le_mul_right _ (by have := hc.1; omega)
        rwa [Nat.add_mul, Nat.one_mul] at this
      have hmn : Mem h b (off + n * e.size) ((arr.toList.drop (off + n * e.size)).take e.size) := by
        refine ⟨arr, ty, fz, hh, hfz, ?_, ?_⟩
        · simp; omega
        · congr 1; simp; omega
      obtain ⟨cs0, hR0, hM0, hIn0, hNd0, hL0, hW0⟩ := ih (A := some (b, off + n * e.size)) hrn hmn hok (hnd'.2.1 n hn) (by
        intro b' o' he'; cases he'; exact hnd'.1 n hn)
      have hbn : ∀ b', b' ∈ (ks n).blocks → b' ∈ (K.lst b off c xs.length ks).blocks := fun b' hb' => K.mem_nth hn hb'
      refine ⟨cs0, by simpa [K.get, K.nth] using hR0, by simpa [loc] using hM0, fun b' hb' => hbn b' (hIn0 b' (by simpa [K.get, K.nth] using hb')), by simpa [K.get, K.nth] using hNd0, ?_, ?_⟩
      · intro b' o' he'
        have := hL0 b' o' (by simpa [loc] using he')
        refine ⟨by simpa [K.get, K.nth] using this.1, .inl ?_⟩
        rcases this.2 with h | ⟨o'', ho''⟩
        · exact hbn b' h
        · cases ho''; simp [K.blocks]
      · intro h' V' d' κ' cs' b' o' hl hr' hw hb hAb hv hV
        have hl' : loc e (ks n) (some (b, off + n * e.size)) p = some (b', o') := by simpa [loc] using hl
        have hL := hL0 b' o' hl'
        obtain ⟨cs2, hR2, hWA, _, hN2, hM2⟩ := hW0 hl' (by simpa using hr') hw (fun x hx' hx'' hne => hb x (hbn x hx') (by simpa [K.get, K.nth] using hx'') hne) (by
          intro x o'' he' hne
          cases he'
          exact hb b (by simp [K.blocks]) (by
            intro hm'
            simp only [K.get, K.nth] at hm'
            exact hnd'.1 n hn (hIn0 b hm')) hne) hv hV
        obtain ⟨arr1, ty1, fz1, g1, g2, g3⟩ := hWA b _ rfl
        rw [hh] at g1; cases g1
        have hcl : cs2.length = e.size := hR2.length
        have hsl := spl_length (l := arr.toList) (o := off + n * e.size) (cs := cs2) (by simpa using g2)
        have hbk : b ∉ (ks n).blocks := hnd'.1 n hn
        have hget : ((K.lst b off c xs.length ks).get (.i n :: p)).blocks = ((ks n).get p).blocks := rfl
        have hoth : ∀ i, i ≠ n → i < xs.length → ∀ x, x ∈ (ks i).blocks → h'[x]? = h[x]? := by
          intro i hi hil x hx'
          refine hb x (K.mem_nth hil hx') ?_ ?_
          · rw [hget]; intro hm'; exact hnd'.2.2 i n hil hn hi x hx' (hIn0 x hm')
          · rintro rfl
            rcases hL.2 with h | ⟨o'', ho''⟩
            · exact hnd'.2.2 i n hil hn hi x hx' h
            · cases ho''; exact hnd'.1 i hil hx'
        have hlen' : (xs.set n ((xs[n]?.getD D.unit).set p d')).length = xs.length := by simp
        refine ⟨_, ?_, ?_, fun _ => rfl, ?_, ?_⟩
        · refine ⟨xs.set n ((xs[n]?.getD D.unit).set p d'), by simp, .inr ⟨b, off, c, (spl arr.toList (off + n * e.size) cs2).toArray, ty, fz, fun i => if i = n then (ks n).set p κ' else ks i, by simp, by simpa using hc, g3, ?_, ?_, ?_⟩⟩
          · simp at hsl ⊢; omega
          · intro i x hx'
            by_cases hin : i = n
            · subst hin
              rw [List.getElem?_set_self hn] at hx'
              cases hx'
              simp only [if_true]
              have := spl_hold (l := arr.toList) (o := off + i * e.size) (cs := cs2) (by simpa using g2)
              rw [hcl] at this
              rw [this]; exact hR2
            · rw [List.getElem?_set_ne (by omega)] at hx'
              simp only [if_neg hin]
              have hil : i < xs.length := (List.getElem?_eq_some_iff.1 hx').1
              have hfar := spl_far (l := arr.toList) (o := off + n * e.size) (cs := cs2) (by simpa using g2) (a := off + i * e.size) (m := e.size) (by
                rw [hcl]
                rcases Nat.lt_or_gt_of_ne hin with hlt | hlt
                · have : (i + 1) * e.size ≤ n * e.size := Nat.mul_le_mul_right _ (by omega)
                  rw [Nat.add_mul, Nat.one_mul] at this; left; omega
                · have : (n + 1) * e.size ≤ i * e.size := Nat.mul_le_mul_right _ (by omega)
                  rw [Nat.add_mul, Nat.one_mul] at this; right; omega)
              show Rep h' V' e x (ks i) _
              rw [hfar]
              exact (he i x hx').frame (hoth i hin hil) hv hV
          · simp only [if_true]
            refine ⟨?_, by simp [K.set]⟩
            intro o'' ho''
            refine hfz o'' ?_
            simp at hsl ho''; omega
        · intro b'' o'' hA'
          subst hA'
          exact Wrote.same hm (hAb b'' o'' rfl (by
            rintro rfl
            have hnA := hA b'' o'' rfl
            rcases hL.2 with h | ⟨o3, ho3⟩
            · exact hnA (hbn _ h)
            · cases ho3; exact hnA (by simp [K.blocks])))
        · intro hd hn'
          rw [hget] at hd
          have hN3 := hN2 (fun x hx' => (hd x hx').imp (fun h hm' => h (hbn x hm')) id) hn'
          simp only [K.set]
          rw [K.nodup_lst]
          refine ⟨?_, ?_, ?_⟩
          · intro i hi
            by_cases hin : i = n
            · subst hin
              simp only [if_true]
              intro hm'
              rcases hM2 b hm' with h | ⟨h, _⟩
              · rcases hd b h with h' | h'
                · exact h' (by simp [K.blocks])
                · exact hbk (hIn0 b h')
              · exact hbk h
            · simp only [if_neg hin]; exact hnd'.1 i hi
          · intro i hi
            by_cases hin : i = n
            · subst hin; simp only [if_true]; exact hN3
            · simp only [if_neg hin]; exact hnd'.2.1 i hi
          · have key : ∀ x, x ∈ ((ks n).set p κ').blocks → ∀ j, j < xs.length → j ≠ n → x ∉ (ks j).blocks := by
              intro x hx' j hj hjn hm'
              rcases hM2 x hx' with h | ⟨h, _⟩
              · rcases hd x h with h' | h'
                · exact h' (K.mem_nth hj hm')
                · exact hnd'.2.2 j n hj hn hjn x hm' (hIn0 x h')
              · exact hnd'.2.2 j n hj hn hjn x hm' h
            intro i j hi hj hij x hx' hx''
            by_cases hin : i = n
            · simp only [hin, if_true] at hx'
              simp only [if_neg (show j ≠ n by omega)] at hx''
              exact key x hx' j hj (by omega) hx''
            · simp only [if_neg hin] at hx'
              by_cases hjn : j = n
              · simp only [hjn, if_true] at hx''
                exact key x hx'' i hi hin hx'
              · simp only [if_neg hjn] at hx''
                exact hnd'.2.2 i j hi hj hij x hx' hx''
        · intro x hx'
          rw [hget]
          simp only [K.set, K.blocks, List.mem_cons, List.mem_flatMap, List.mem_range] at hx'
          rcases hx' with rfl | ⟨i, hi, hx'⟩
          · exact .inr ⟨by simp [K.blocks], fun hm' => hbk (hIn0 _ hm')⟩
          · by_cases hin : i = n
            · subst hin
              simp only [if_true] at hx'
              rcases hM2 x hx' with h | ⟨h, h2⟩
              · exact .inl h
              · exact .inr ⟨K.mem_nth hi h, h2⟩
            · simp only [if_neg hin] at hx'
              exact .inr ⟨K.mem_nth hi hx', fun hm' => hnd'.2.2 i n hi hn hin x hx' (hIn0 x hm')⟩

end Go.Own
