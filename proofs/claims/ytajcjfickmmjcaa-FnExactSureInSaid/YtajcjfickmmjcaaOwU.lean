/- A layer over the walk: what lies in memory as plain data, each operation by what it does to data; part 25. -/
import Derived.Test.YtajcjfickmmjcaaOwT
import Derived.Laws.MakeOwn
set_option linter.unusedVariables false
set_option linter.unusedSimpArgs false
namespace Go.Own
open Go

variable {P : Program} {Γ : Env} {E : Entry} {S : St} {act : Act} {w : World} {X : Ctr} {Kt : Wr → Prop} {next : Act → World → Prop}

theorem makeSlice_sound (ok : EnvOk P Γ) {dst : Option Nat} {t : TypeId} {x y : Operand} (h : (opMakeSlice Γ dst t x y).wp X S Kt) (hi : Inv Γ E S act w) (hn : Next' Γ E S Kt next) :
    ∃ v w', (Instr.makeSlice t (act.eval x) (act.eval y)).run P w = .ok v w' ∧ next (act.put dst v) w' := by
  obtain ⟨hf, κ, V, hc, hb⟩ := hi
  obtain ⟨a, hk, ho⟩ := opd_sound h hc
  obtain ⟨b, hk, ho2⟩ := opd_sound hk hc
  cases a with
  | val τ m =>
    cases τ with
    | int k1 =>
      cases b with
      | val τ2 n =>
        cases τ2 with
        | int k2 =>
          simp only [A.wp] at hk
          obtain ⟨⟨hmn, h0, hls, hsm, hby⟩, hk⟩ := hk
          obtain ⟨hv, _⟩ := of_int ho
          obtain ⟨hv2, _⟩ := of_int ho2
          obtain ⟨et, hu, he, hok⟩ := Fits.lst ok hls
          obtain ⟨i, hi, hs, z, hz, hzl, hzrep⟩ := ok.info et hok
          rw [he] at hs hzl hzrep
          obtain ⟨et', i', hu', hi', heb⟩ := ok.eb t hls
          rw [hu] at hu'; cases hu'
          rw [hi] at hi'; cases hi'
          have hn63 : n.i ≤ 9223372036854775807 := by unfold smax at hsm; omega
          have hrun := Go.run_make (P := P) w t et i z hu hi hz k1 k2 m.i n.i (by omega) (by omega) (by
            rw [heb]
            have : ((n.i.toNat * Γ.eb t : Nat) : Int) ≤ ((140737488355328 : Nat) : Int) := Int.ofNat_le.2 hby
            rw [Int.natCast_mul, Int.toNat_of_nonneg h0, Int.mul_comm] at this
            exact Int.le_trans this (by decide)) hn63
          rw [hv, hv2]
          refine ⟨_, _, hrun, ?_⟩
          obtain ⟨κz, hκz, hr, _⟩ := hzrep (w.alloc (.cells (madeCells z.cells (n.i.toNat * i.size)) et)).heap V
          have hmz : (madeCells z.cells (n.i.toNat * i.size)).size = n.i.toNat * i.size := size_madeCells _ _
          refine new_sound (k := .lst w.heap.size 0 n.i.toNat n.i.toNat (fun _ => κz)) hk hf hc hb ?_ ?_ ?_ hn
          · intro d _
            refine ⟨[.slice (some ⟨w.heap.size, 0, none⟩) n.i.toNat n.i.toNat], ⟨_, rfl, .inr ⟨w.heap.size, 0, n.i.toNat, _, et, (0, 0), fun _ => κz, by rw [List.length_replicate], ⟨by rw [List.length_replicate]; exact Nat.le_refl _, by rw [List.length_replicate]; exact hsm⟩, alloc_new w _, by rw [hmz, hs]; omega, ?_, by rw [List.length_replicate]; exact ⟨fun o _ => by simp, by rw [updK_same]⟩⟩⟩, by rw [hmn]; rfl⟩
            intro j x hx
            rw [List.getElem?_replicate] at hx
            split at hx
            · rename_i hj
              cases hx
              have : ((madeCells z.cells (n.i.toNat * i.size)).toList.drop (0 + j * (Γ.ty t).elem.size)).take (Γ.ty t).elem.size = z.cells.toList := by
                apply List.ext_getElem?
                intro q
                rw [cut_get]
                by_cases hq : q < (Γ.ty t).elem.size
                · rw [if_pos hq]
                  have hlt : j * (Γ.ty t).elem.size + q < n.i.toNat * i.size := by
                    rw [hs]
                    have : (j + 1) * (Γ.ty t).elem.size ≤ n.i.toNat * (Γ.ty t).elem.size := Nat.mul_le_mul_right _ (by omega)
                    rw [Nat.add_mul, Nat.one_mul] at this; omega
                  have hzs : z.cells.size = (Γ.ty t).elem.size := by rw [← hzl]; simp
                  simp only [madeCells, Nat.zero_add, Array.toList_map, List.getElem?_map]
                  rw [Array.toList_range, List.getElem?_range hlt]
                  simp only [Option.map_some, hzs]
                  rw [show (j * (Γ.ty t).elem.size + q) % (Γ.ty t).elem.size = q by rw [Nat.mul_comm, Nat.mul_add_mod, Nat.mod_eq_of_lt hq]]
                  have hq' : q < z.cells.size := by rw [hzs]; exact hq
                  simp [hq']
                · rw [if_neg hq, List.getElem?_eq_none (by rw [hzl]; omega)]
              rw [this]; exact hr
            · cases hx
          · intro b hb'; simp [K.blocks, hκz] at hb'; exact hb'
          · rw [K.nodup_lst]; simp [hκz]
        | _ => exact hk.elim
      | _ => exact hk.elim
    | _ => exact hk.elim
  | _ => exact hk.elim

theorem extract_sound {dst : Option Nat} {x : Operand} {j : Nat} (h : (opExtract Γ dst x j).wp X S Kt) (hi : Inv Γ E S act w) (hn : Next' Γ E S Kt next) :
    ∃ v, (Instr.extract (act.eval x) j).run P w = .ok v w ∧ next (act.put dst v) w := by
  obtain ⟨hf, κ, V, hc, hb⟩ := hi
  unfold opExtract at h
  split at h
  · rename_i t s
    simp only [A.wp] at h
    have hcv := hc.cv t
    generalize hS : S t = c at h hcv
    obtain ⟨a, ver⟩ := c
    cases a with
    | tup ty d =>
      simp only [A.wp] at h
      obtain ⟨hh, h⟩ := h
      obtain ⟨cs, hr, vs, htm, hvs⟩ := hcv
      obtain ⟨c1, cj, c2, hcs, hlen, hj, hin, hndj, hre⟩ := Rep.fld j hr hh
      have hcut : (cs.drop (ty.off j)).take (ty.fld j).size = cj := by
        rw [hcs, ← hlen, List.drop_left, ← hj.length, List.take_left]
      have hv := hvs j hh
      rw [hcut] at hv
      refine ⟨toVal (ty.fld j) cj, by rw [evalTmp, htm]; simp only [Instr.extract, hv]; rfl, ?_⟩
      by_cases hp : (ty.fld j).plain = true
      · rw [if_pos hp] at h
        exact out_sound h hf hc hb ⟨hp, cj, by rw [← hj.plain_leaf hp]; exact hj, rfl⟩ hn
      · rw [if_neg hp] at h
        simp only [A.wp] at h
        obtain ⟨⟨hsn, hfx, hne⟩, h⟩ := h
        obtain ⟨hR, hN, hM⟩ := hre (h' := w.heap) (V' := V) hj.moved (hc.nd t) (fun _ _ _ => rfl) (fun _ _ => rfl) (fun _ h => h)
        have hset : d.setFld j (d.fld j) = d := hr.setFld_self j hh
        rw [hset, ← hcs] at hR
        have hm' : ∀ b, b ∈ ((κ t).setFld j (ty.fld j).k0).blocks → b ∈ (κ t).blocks ∧ b ∉ ((κ t).fld j).blocks := by
          intro b hb'
          rcases hM b hb' with h | h
          · simp at h
          · exact h
        have hshape : (ty.setFld j (ty.fld j).moved).shape = ty.shape := by
          have := T.set_shape [.f j] (t := ty) (x := (ty.fld j).moved) (by simp [hh]) (by simpa using T.moved_shape _)
          simpa using this
        have hcc := hc.set t (a := .tup (ty.setFld j (ty.fld j).moved) d) (k := (κ t).setFld j (ty.fld j).k0) (v := tmOf act t)
          ⟨cs, by simpa using hR, vs, htm, fun i hi => by
            have hsh := T.shape_has i hshape
            have h1 := hvs i (by rw [← hsh.1]; exact hi)
            rw [hsh.2.1, T.shape_size hsh.2.2, h1]
            unfold toVal; rw [T.shape_agg hsh.2.2]⟩
          (hN (by simp) (by simp)) (fun s' hs' b hb' => hc.dj t s' (Ne.symm hs') b (hm' b hb').1) (fun b hb' => hc.dv t b (hm' b hb').1) (fun b hb' => hc.bl t b (hm' b hb').1)
        rw [updV_self] at hcc
        have hb' : Bnd E V (updK κ t ((κ t).setFld j (ty.fld j).k0)) := ⟨hb.v0, hb.v1, fun s' b hm => by
          by_cases hst : s' = t
          · subst hst; rw [updK_same] at hm; exact hb.k s' b (hm' b hm).1
          · rw [updK_other _ _ hst] at hm; exact hb.k s' b hm⟩
        have := Inv.set (d := s) (a := .val (ty.fld j) (d.fld j)) (k := (κ t).fld j) (v := toVal (ty.fld j) cj) hf hcc hb' hsn hfx ⟨cj, by simpa using hj, rfl⟩ (hndj (hc.nd t))
          (by
            intro s' hs' b hm
            by_cases hst : s' = t
            · subst hst; rw [updK_same]; exact fun h => (hm' b h).2 hm
            · rw [updK_other _ _ hst]; exact hc.dj t s' (Ne.symm hst) b (hin b hm))
          (fun b hm => hc.dv t b (hin b hm)) (fun b hm => hc.bl t b (hin b hm)) (fun b hm => hb.k t b (hin b hm))
        refine hn _ _ _ h ?_
        rw [St.put_other _ _ (Ne.symm hne), hS] at this
        simpa [St.apply] using this
    | _ => exact h.elim
  · exact h.elim

end Go.Own
