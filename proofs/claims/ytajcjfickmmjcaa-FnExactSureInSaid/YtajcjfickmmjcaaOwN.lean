/- A layer over the walk: what lies in memory as plain data, each operation by what it does to data; part 18. -/
import Derived.Test.YtajcjfickmmjcaaOwM
set_option linter.unusedVariables false
set_option linter.unusedSimpArgs false
namespace Go.Own
open Go

variable {P : Program} {Γ : Env} {E : Entry} {S : St} {act : Act} {w : World} {X : Ctr} {Kt : Wr → Prop}

theorem run_storeVar {P : Program} {Γ : Env} (ok : EnvOk P Γ) {t : TypeId} (ht : (Γ.ty t).ok = true) {h V τ d κ cs b o} {w w' : World} (hr : Rep h V τ d κ cs) (hs : τ.sound = true) (hv : τ.view = (Γ.ty t).view)
    (hst : (storeCells ⟨b, o, none⟩ cs).run P w = .ok () w') : (storeVar t ⟨b, o, none⟩ (toVal τ cs)).run P w = .ok () w' := by
  have hk := T.view_kind hv
  have hc := toVal_size hr hs
  unfold storeVar
  rw [Sem.run_bind, ok.sizeOf ht]
  simp only [Result.andThen_ok]
  have hsz : (toVal τ cs).cells.size = (Γ.ty t).size := by
    rw [← Array.length_toList, hc, hr.length, hk.2]
  rw [if_neg (by simp [hsz]), hc]
  exact hst

theorem store_sound (ok : EnvOk P Γ) {t : TypeId} {x y : Operand} (h : (opStore Γ t x y).wp X S Kt) (hi : Inv Γ E S act w) {next : Act → World → Prop} (hn : Next' Γ E S Kt next) :
    ∃ w', (Instr.storeAt t (act.eval x) (act.eval y)).run P w = .ok () w' ∧ next act w' := by
  obtain ⟨hf, κ, V, hc, hb⟩ := hi
  obtain ⟨a, hk, ho⟩ := opd_sound h hc
  cases a with
  | ptr r ver p =>
    obtain ⟨tr, dr, bx, hroot, hk⟩ := rootOf_sound hk
    simp only [A.wp] at hk
    obtain ⟨⟨hl, hok, hbx⟩, hk⟩ := hk
    obtain ⟨b, o, hloc, hv⟩ := ho.2 tr dr bx hroot hl hok
    obtain ⟨ty, d, ws, κ', kx, hk, ht⟩ := take_sound hk hc
    simp only [A.wp] at hk
    obtain ⟨⟨hview, hty, hsz, hrw⟩, hk⟩ := hk
    have hb' := hb.taken ht
    obtain ⟨cs, hrep, hval⟩ := ht.rep
    have hS1 : (S.apply ws) r = S r := St.apply_other ws S hrw
    have hK1 : κ' r = κ r := ht.oth r hrw
    have hroot1 : ((S.apply ws) r).root = some (tr, dr, bx) := by rw [hS1]; exact hroot
    have hsound : ty.sound = true := by
      rw [← T.view_sound, hview, T.view_sound]; exact ok.sound t hty
    have hlt : ∀ b, b ∈ kx.blocks → b < w.heap.size := fun b hb => let ⟨s, hs⟩ := ht.src b hb; hc.bl s b hs
    have hshape : ∀ (hs : (tr.at p).shape = ty.shape), _ := fun hs => Conc.store (P := P) ht.conc hroot1 hok (by rw [hK1]; exact hloc) hrep hs hsound hsz ht.nd ht.dj ht.dv hlt
    have fin : ∀ {c' : Cl} {arr}, b ∈ (κ' r).blocks → (∃ κ2, Conc (w.setRow b arr).heap (tmOf act) V ((S.apply ws).put r c') κ2 ∧ ∀ s b, b ∈ (κ2 s).blocks → b ∈ kx.blocks ∨ ∃ s, b ∈ (κ' s).blocks) → Kt (ws ++ [(r, c')]) → next act (w.setRow b arr) := by
      intro c' arr hbr ⟨κ2, hc2, hm2⟩ hK
      refine hn _ _ _ hK ⟨hf.write (hb'.1.k r b hbr), κ2, V, ?_, hb.v0, hb.v1, fun s b h => (hm2 s b h).elim (hb'.2 b) (fun ⟨s, hs⟩ => hb'.1.k s b hs)⟩
      rw [St.apply_append]; exact hc2
    by_cases h1 : ty.plain = true ∧ tr.at p = ty
    · rw [if_pos h1] at hk
      obtain ⟨arr, hrun, hbr, hA, _⟩ := hshape (by rw [h1.2])
      refine ⟨_, by rw [hv, hval]; exact run_storeVar ok hty hrep hsound hview hrun, ?_⟩
      refine fin hbr ?_ (by simpa [A.wp, hS1] using hk)
      have := hA ⟨h1.2.symm, .inr h1.1⟩
      rwa [hS1] at this
    · rw [if_neg h1] at hk
      by_cases h2 : depth p = 0
      · rw [if_pos h2] at hk
        simp only [A.wp] at hk
        obtain ⟨arr, hrun, hbr, _, hB⟩ := hshape hk.1
        refine ⟨_, by rw [hv, hval]; exact run_storeVar ok hty hrep hsound hview hrun, ?_⟩
        refine fin hbr ?_ (by simpa [hS1] using hk.2)
        have := hB h2
        rwa [hS1] at this
      · rw [if_neg h2] at hk
        simp only [A.wp] at hk
        obtain ⟨arr, hrun, hbr, hA, _⟩ := hshape (by rw [hk.1])
        refine ⟨_, by rw [hv, hval]; exact run_storeVar ok hty hrep hsound hview hrun, ?_⟩
        refine fin hbr ?_ (by simpa [hS1] using hk.2)
        have := hA ⟨hk.1.symm, .inl h2⟩
        rwa [hS1] at this
  | _ => exact hk.elim

end Go.Own
