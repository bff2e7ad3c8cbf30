/- A layer over the walk: what lies in memory as plain data, each operation by what it does to data; part 29. -/
import Derived.Test.YtajcjfickmmjcaaOwV2
set_option linter.unusedVariables false
set_option linter.unusedSimpArgs false
namespace Go.Own
open Go
noncomputable section

variable {P : Program} {Γ : Env} {E : Entry} {S : St} {act : Act} {w : World} {X : Ctr} {Kt : Wr → Prop} {next : Act → World → Prop}

/-- what is appended, as it lies in memory -/
structure Src (w : World) (tm : Nat → Value) (V : Nat → Prop) (S : St) (κ : Nat → K) (ws : Wr) (e : T) (ys : List D) (v : Value) (κ' : Nat → K) (ks : Nat → K) (news : List Value) : Prop where
  conc : Conc w.heap tm V (S.apply ws) κ'
  val : ∃ A c, v = .slice A ys.length c ∧ (ys.length = 0 ∨ ∃ a, A = some a ∧ ∀ j u, news[j]? = some u → w.cell? (a.add j) = some u)
  len : news.length = ys.length * e.size
  el : ∀ j x, ys[j]? = some x → Rep w.heap V e x (ks j) ((news.drop (j * e.size)).take e.size)
  nd : ((List.range ys.length).flatMap fun j => (ks j).blocks).Nodup
  dj : ∀ s j, j < ys.length → ∀ b, b ∈ (ks j).blocks → b ∉ (κ' s).blocks
  dv : ∀ j, j < ys.length → ∀ b, b ∈ (ks j).blocks → ¬ V b
  sub : ∀ s b, b ∈ (κ' s).blocks → b ∈ (κ s).blocks
  src : ∀ j, j < ys.length → ∀ b, b ∈ (ks j).blocks → ∃ s, b ∈ (κ s).blocks
  oth : ∀ s, s ∉ ws.map (·.1) → κ' s = κ s

theorem cut_cut {l : List Value} {o m a q : Nat} (h : a + q ≤ m) : (((l.drop o).take m).drop a).take q = (l.drop (o + a)).take q := by
  apply List.ext_getElem?
  intro k
  rw [cut_get ((l.drop o).take m) a q k, cut_get l (o + a) q k]
  split
  · rw [cut_get l o m (a + k), if_pos (by omega)]; congr 1; omega
  · rfl

theorem nil_flat {m : Nat} {ks : Nat → K} (h : ∀ j, j < m → (ks j).blocks = []) : ((List.range m).flatMap fun j => (ks j).blocks).Nodup := by
  rw [nodup_flatMap_range]
  refine ⟨fun i hi => by rw [h i hi]; simp, fun i j hij hj x hx => by rw [h i (by omega)] at hx; simp at hx⟩

/-- elements that own nothing are copied -/
theorem Src.copy {κ V} (hc : Conc w.heap (tmOf act) V S κ) {e : T} (hp : e.plain = true) {ys : List D} {b off c lo m : Nat} {arr : Array Value} {tb : TypeId} {fz : Nat × Nat} {v : Value} {ks : Nat → K} {xs : List D}
    (hh : w.heap[b]? = some (.cells arr tb fz)) (hsz : off + xs.length * e.size ≤ arr.size) (hel : ∀ i x, xs[i]? = some x → Rep w.heap V e x (ks i) ((arr.toList.drop (off + i * e.size)).take e.size))
    (hys : ys = (xs.drop lo).take m) (hm : lo + m ≤ xs.length) (hv : (v = .slice (some ⟨b, off + lo * e.size, none⟩) m c) ∨ (m = 0 ∧ ∃ A, v = .slice A 0 c)) :
    ∃ ks2 news, Src w (tmOf act) V S κ [] e ys v κ ks2 news := by
  have hlen : ys.length = m := by rw [hys]; simp; omega
  have hmul : (lo + m) * e.size ≤ xs.length * e.size := Nat.mul_le_mul_right _ hm
  rw [Nat.add_mul] at hmul
  have hnl : ((arr.toList.drop (off + lo * e.size)).take (m * e.size)).length = ys.length * e.size := by rw [hlen]; simp; omega
  refine ⟨fun _ => e.k0, (arr.toList.drop (off + lo * e.size)).take (m * e.size), ⟨hc, ?_, hnl, ?_, nil_flat (by simp), by simp, by simp, fun _ _ h => h, by simp, fun _ _ => rfl⟩⟩
  · rcases hv with rfl | ⟨rfl, A, rfl⟩
    · refine ⟨_, c, by rw [hlen], .inr ⟨_, rfl, ?_⟩⟩
      exact cut_cell hh (by rw [hnl, hlen])
    · exact ⟨A, c, by rw [hlen], .inl hlen⟩
  · intro j x hx
    have hj : j < m := by rw [← hlen]; exact (List.getElem?_eq_some_iff.1 hx).1
    rw [hys, List.getElem?_take, if_pos hj, List.getElem?_drop] at hx
    have hmj : (j + 1) * e.size ≤ m * e.size := Nat.mul_le_mul_right _ (by omega)
    rw [Nat.add_mul, Nat.one_mul] at hmj
    rw [cut_cut (by omega)]
    have hR := hel (lo + j) x hx
    rw [Nat.add_mul] at hR
    have hk := hR.plain_leaf hp
    rw [hk] at hR
    rwa [show off + lo * e.size + j * e.size = off + (lo * e.size + j * e.size) by omega]

theorem Src.none {κ V} (hc : Conc w.heap (tmOf act) V S κ) (e : T) {v : Value} (hv : ∃ A c, v = .slice A 0 c) : ∃ ks2 news, Src w (tmOf act) V S κ [] e [] v κ ks2 news := by
  obtain ⟨A, c, rfl⟩ := hv
  exact ⟨fun _ => .leaf, [], ⟨hc, ⟨A, c, rfl, .inl rfl⟩, by simp, by simp, by simp, by simp, by simp, fun _ _ h => h, by simp, fun _ _ => rfl⟩⟩

theorem srcW_sound {y : Operand} {k : Option T → List D → Wr → A} (h : (srcW y k).wp X S Kt) {κ V} (hc : Conc w.heap (tmOf act) V S κ) :
    ∃ e2 ys ws, (k e2 ys ws).wp X S Kt ∧ (e2 = none → ys = []) ∧ ∀ e, (∀ e', e2 = some e' → e' = e) → ∃ κ' ks news, Src w (tmOf act) V S κ ws e ys (act.eval y) κ' ks news := by
  unfold srcW at h
  split at h
  · rename_i q
    simp only [A.wp] at h
    have hcv := hc.cv q
    have hcopy := hc.copy q
    have hnd := hc.nd q
    generalize hS : S q = c at h hcv hcopy
    obtain ⟨av, ver⟩ := c
    cases av with
    | val ty d =>
      cases ty with
      | lst o e =>
        cases o with
        | true =>
          refine ⟨some e, d.l, _, h, by simp, fun e' he' => ?_⟩
          cases he' e rfl
          obtain ⟨cs, hr, ev⟩ := hcv
          have hcc := hc.set q (a := .undef) (k := .leaf) (v := tmOf act q) (by simp [CV]) (by simp [K.blocks]) (by simp [K.blocks]) (by simp [K.blocks]) (by simp [K.blocks])
          rw [updV_self] at hcc
          have hcc' : Conc w.heap (tmOf act) V (S.apply [(q, ⟨.undef, ver.kill⟩)]) (updK κ q .leaf) := by simpa [St.apply, hS] using hcc
          obtain ⟨xs, rfl, ⟨rfl, hk, A0, rfl, hA0⟩ | ⟨b, off, c, arr, tb, fz, ks, rfl, hl, hh, hs0, he, ho⟩⟩ := id hr
          · refine ⟨_, fun _ => .leaf, [], ⟨hcc', ⟨_, _, ev, .inl rfl⟩, by simp, by simp, by simp, by simp, by simp, ?_, by simp, ?_⟩⟩
            · intro s b hb
              by_cases hs : s = q
              · subst hs; simp [K.blocks] at hb
              · rwa [updK_other _ _ hs] at hb
            · intro s hs
              simp at hs
              exact updK_other _ _ hs
          · simp at ho
            obtain ⟨hfz, hk⟩ := ho
            rw [hk] at hnd
            have hnd' := K.nodup_lst.1 hnd
            have hin : ∀ j, j < xs.length → ∀ b', b' ∈ (ks j).blocks → b' ∈ (κ q).blocks := fun j hj b' hb' => by rw [hk]; exact K.mem_nth hj hb'
            have hmul : xs.length * e.size ≤ c * e.size := Nat.mul_le_mul_right _ hl.1
            have hnl : ((arr.toList.drop off).take (xs.length * e.size)).length = xs.length * e.size := by simp; omega
            refine ⟨_, ks, (arr.toList.drop off).take (xs.length * e.size), ⟨hcc', ⟨some ⟨b, off, none⟩, c, ev, .inr ⟨_, rfl, cut_cell hh (by rw [hnl])⟩⟩, hnl, ?_, ?_, ?_, ?_, ?_, ?_, ?_⟩⟩
            · intro j x hx
              have hj := (List.getElem?_eq_some_iff.1 hx).1
              have hmj : (j + 1) * e.size ≤ xs.length * e.size := Nat.mul_le_mul_right _ (by simp at hj; omega)
              rw [Nat.add_mul, Nat.one_mul] at hmj
              rw [cut_cut (by omega)]
              exact he j x hx
            · simp only [K.blocks, List.nodup_cons] at hnd
              exact hnd.2
            · intro s j hj b' hb'
              by_cases hs : s = q
              · subst hs; simp [K.blocks]
              · rw [updK_other _ _ hs]; exact hc.dj q s (Ne.symm hs) b' (hin j hj b' hb')
            · exact fun j hj b' hb' => hc.dv q b' (hin j hj b' hb')
            · intro s b' hb'
              by_cases hs : s = q
              · subst hs; simp [K.blocks] at hb'
              · rwa [updK_other _ _ hs] at hb'
            · exact fun j hj b' hb' => ⟨q, hin j hj b' hb'⟩
            · intro s hs
              simp at hs
              exact updK_other _ _ hs
        | false =>
          simp only [A.wp] at h
          obtain ⟨hp, h⟩ := h
          refine ⟨some e, d.l, _, h, by simp, fun e' he' => ?_⟩
          cases he' e rfl
          obtain ⟨cs, hr, ev⟩ := hcv
          refine ⟨κ, ?_⟩
          obtain ⟨xs, rfl, ⟨rfl, hk, A0, rfl, hA0⟩ | ⟨b, off, c, arr, tb, fz, ks, rfl, hl, hh, hs0, he, ho⟩⟩ := id hr
          · exact Src.none hc e ⟨_, _, ev⟩
          · have hmul : xs.length * e.size ≤ c * e.size := Nat.mul_le_mul_right _ hl.1
            exact Src.copy hc hp (lo := 0) (m := xs.length) hh (by omega) he (by simp) (by omega) (.inl (by rw [Nat.zero_mul, Nat.add_zero]; exact ev))
      | _ => exact h.elim
    | ref r ver' p ty d =>
      cases ty with
      | lst o e =>
        cases o with
        | false => exact h.elim
        | true =>
          obtain ⟨tr, dr, bx, hroot, hk⟩ := rootOf_sound h
          simp only [A.wp] at hk
          obtain ⟨⟨hlv, hat, hok, hp⟩, hk⟩ := hk
          refine ⟨some e, _, _, hk, by simp, fun e' he' => ?_⟩
          cases he' e rfl
          refine ⟨κ, ?_⟩
          rcases hc.refl_list hroot hat hok hlv hcopy with ⟨hv, hnil, _⟩ | ⟨b, off, c, arr, tb, fz, ks, hv, hkl, hlen, hh, hfr, hsize, hel⟩
          · rw [hnil]; exact Src.none hc e ⟨_, _, hv⟩
          · have hmul : (dr.get p).l.length * e.size ≤ c * e.size := Nat.mul_le_mul_right _ hlen.1
            exact Src.copy hc hp (lo := 0) (m := (dr.get p).l.length) hh (by omega) hel (by simp) (by omega) (.inl (by rw [Nat.zero_mul, Nat.add_zero]; exact hv))
      | _ => exact h.elim
    | win r ver' p e lo n =>
      obtain ⟨tr, dr, bx, hroot, hk⟩ := rootOf_sound h
      simp only [A.wp] at hk
      obtain ⟨⟨hlv, hat, hok, hp⟩, hk⟩ := hk
      refine ⟨some e, _, _, hk, by simp, fun e' he' => ?_⟩
      cases he' e rfl
      refine ⟨κ, ?_⟩
      obtain ⟨cs0, hrep, _⟩ := hc.list hroot hat hok
      rcases hcopy.2 tr dr bx hroot hlv hat hok with ⟨hk0, rfl, rfl, hv⟩ | ⟨b, off, c, m, ks, hkl, hlm, hv⟩
      · simp only [List.take_zero]; exact Src.none hc e ⟨_, _, hv⟩
      · obtain ⟨xs, hx, ⟨rfl, hk1, _⟩ | ⟨b', off', c', arr, tb, fz, ks', rfl, hl, hh, hs0, he, ho⟩⟩ := id hrep
        · rw [hkl] at hk1; cases hk1
        · simp at ho
          rw [hkl] at ho
          obtain ⟨hfz, ho⟩ := ho
          simp only [K.lst.injEq] at ho
          obtain ⟨rfl, rfl, rfl, rfl, rfl⟩ := ho
          have hmul : xs.length * e.size ≤ c * e.size := Nat.mul_le_mul_right _ hl.1
          rw [hx]
          rcases hv with hv | ⟨_, rfl, hv⟩
          · exact Src.copy hc hp (lo := lo) (m := n) hh (by omega) he rfl (by omega) (.inl hv)
          · simp only [List.take_zero]; exact Src.none hc e ⟨_, _, hv⟩
    | nil =>
      exact ⟨none, [], _, h, fun _ => rfl, fun e _ => ⟨κ, Src.none hc e ⟨_, _, hcv.2⟩⟩⟩
    | _ => exact h.elim
  · exact ⟨none, [], _, h, fun _ => rfl, fun e _ => ⟨κ, Src.none hc e ⟨_, _, rfl⟩⟩⟩
  · exact h.elim

theorem append_sound (ok : EnvOk P Γ) {dst : Option Nat} {t u ty : TypeId} {x y : Operand} (h : (opAppend Γ dst t u x y).wp X S Kt) (hi : Inv Γ E S act w) (hn : Next' Γ E S Kt next) :
    ∃ v w', (Builtin.append_ #[t, u] ty #[act.eval x, act.eval y]).run P w = .ok v w' ∧ next (act.put dst v) w' := by
  obtain ⟨hf, κ, V, hc, hb⟩ := hi
  cases dst with
  | none => exact h.elim
  | some s =>
    simp only [opAppend, A.wp] at h
    obtain ⟨⟨hsn, hfx, hls, hlu⟩, h⟩ := h
    obtain ⟨e2, ys, ws, h, hemp, hsrc⟩ := srcW_sound h hc
    obtain ⟨κ1, ks2, news, hs0⟩ := hsrc (e2.getD .unit) (by rintro e' rfl; rfl)
    obtain ⟨ty0, d, ws', κ2, kx, hk, ht⟩ := takeW_sound h hs0.conc
    clear hsrc h
    cases ty0 with
    | lst o e =>
      cases o with
      | false => exact hk.elim
      | true =>
        simp only [A.wp] at hk
        obtain ⟨⟨hev, he2, hsz0, hsnd, hsw, hlen, hby⟩, hk⟩ := hk
        have hs : Src w (tmOf act) V S κ ws e ys (act.eval y) κ1 ks2 news := by
          cases e2 with
          | some e' => have := he2 e' rfl; subst this; exact hs0
          | none =>
            have hy := hemp rfl
            subst hy
            have hn0 : news = [] := by simpa using hs0.len
            subst hn0
            exact ⟨hs0.conc, hs0.val, by simp, by simp, by simp, by simp, by simp, hs0.sub, by simp, hs0.oth⟩
        obtain ⟨cs, hrep, hvx⟩ := ht.rep
        obtain ⟨xs, hd, _⟩ := id hrep
        subst hd
        simp only [D.l_lst] at hlen hby hk
        have hcs : ∃ B n c, cs = [.slice B n c] := by
          obtain ⟨_, _, ⟨_, _, _, rfl, _⟩ | ⟨_, _, _, _, _, _, _, rfl, _⟩⟩ := id hrep
          · exact ⟨_, _, _, rfl⟩
          · exact ⟨_, _, _, rfl⟩
        obtain ⟨B, n, c, rfl⟩ := hcs
        have hvx' : act.eval x = .slice B n c := hvx
        obtain ⟨A, c2, hvy, hcell⟩ := hs.val
        -- rows of what is taken do not meet
        have hkx1 : ∀ b, b ∈ kx.blocks → ∃ s, b ∈ (κ1 s).blocks := ht.src
        have h2x : ∀ b, b ∈ kx.blocks → ∀ j, j < ys.length → b ∉ (ks2 j).blocks := by
          intro b hb1 j hj hb2
          obtain ⟨s', hs'⟩ := hkx1 b hb1
          exact hs.dj s' j hj b hb2 hs'
        have hklt : ∀ b, b ∈ kx.blocks → b < w.heap.size := hrep.blocks_lt
        have h2lt : ∀ j, j < ys.length → ∀ b, b ∈ (ks2 j).blocks → b < w.heap.size := fun j hj b hb2 => (hs.el j _ (List.getElem?_eq_getElem hj)).blocks_lt b hb2
        obtain ⟨v', w', k', hrun, hrep', hnd', hsrc', hfr', hsz', hsame, hshape⟩ := append_rep (P := P) (ty := ty) ok hls hlu hev hsnd hrep ht.nd hs.len hcell hs.el hc.lt ht.dv hs.nd h2x h2lt hlen hby
        refine ⟨v', w', by rw [hvx', hvy]; exact hrun, ?_⟩
        -- where rows come from
        have hcap : ∀ s' b, b ∈ (κ s').blocks → b ∈ E.t ∨ E.w.heap.size ≤ b := hb.k
        have hkxc : ∀ b, b ∈ kx.blocks → b ∈ E.t ∨ E.w.heap.size ≤ b := by
          intro b hb1
          obtain ⟨s', hs'⟩ := hkx1 b hb1
          exact hcap s' b (hs.sub s' b hs')
        have hf' : Fr Γ E act w' := by
          rcases hshape with ⟨cells, rfl⟩ | rfl | ⟨b, arr, hbk, rfl⟩
          · have h1 : Fr Γ E act w.drew := ⟨⟨hf.same.os, hf.same.tape, hf.same.output⟩, hf.frame, hf.size, hf.n, hf.fx, hf.df⟩
            exact h1.alloc cells
          · exact hf
          · exact hf.write (hkxc b hbk)
        have hout : ∀ s' b, b ∈ (κ2 s').blocks → w'.heap[b]? = w.heap[b]? := by
          intro s' b hb1
          refine hfr' b (ht.conc.bl s' b hb1) (fun hm => ht.dj s' b hm hb1)
        have hVout : ∀ b, V b → w'.heap[b]? = w.heap[b]? := fun b hv => hfr' b (hc.lt b hv) (fun hm => ht.dv b hm hv)
        have hc2 : Conc w'.heap (tmOf act) V ((S.apply ws).apply ws') κ2 :=
          ht.conc.frame hout hVout (fun _ h => h) ht.conc.dv (fun b hv => Nat.lt_of_lt_of_le (hc.lt b hv) hsz') hsz'
        have hb2 : Bnd E V κ2 := ⟨hb.v0, hb.v1, fun s' b hb1 => hcap s' b (hs.sub s' b (ht.sub s' b hb1))⟩
        have hSs : ((S.apply ws).apply ws') s = S s := by
          rw [← St.apply_append]; exact St.apply_other _ S hsw
        have happ : S.apply (ws ++ ws' ++ [(s, ⟨.val (.lst true e) (.lst (xs ++ ys)), (S s).v.kill⟩)]) = ((S.apply ws).apply ws').put s ⟨.val (.lst true e) (.lst (xs ++ ys)), (((S.apply ws).apply ws') s).v.kill⟩ := by
          rw [St.apply_append, St.apply_append, hSs]; rfl
        have hdjk : ∀ s' : Nat, ∀ b, b ∈ k'.blocks → b ∉ (κ2 s').blocks := by
          intro s' b hb1 hb3
          rcases hsrc' b hb1 with h | ⟨j, hj, h⟩ | h
          · exact ht.dj s' b h hb3
          · exact hs.dj s' j hj b h (ht.sub s' b hb3)
          · have := ht.conc.bl s' b hb3; omega
        have hdvk : ∀ b, b ∈ k'.blocks → ¬ V b := by
          intro b hb1 hv
          rcases hsrc' b hb1 with h | ⟨j, hj, h⟩ | h
          · exact ht.dv b h hv
          · exact hs.dv j hj b h hv
          · have := hc.lt b hv; omega
        have hkc : ∀ b, b ∈ k'.blocks → b ∈ E.t ∨ E.w.heap.size ≤ b := by
          intro b hb1
          rcases hsrc' b hb1 with h | ⟨j, hj, h⟩ | h
          · exact hkxc b h
          · obtain ⟨s', hs'⟩ := hs.src j hj b h
            exact hcap s' b hs'
          · exact .inr (Nat.le_trans hf.size h)
        refine hn _ _ _ hk ?_
        rw [happ]
        exact Inv.set hf' hc2 hb2 hsn hfx (k := k') ⟨_, by simpa using hrep', rfl⟩ hnd' (fun s' _ => hdjk s') hdvk hrep'.blocks_lt hkc
    | _ => exact hk.elim
end
end Go.Own
