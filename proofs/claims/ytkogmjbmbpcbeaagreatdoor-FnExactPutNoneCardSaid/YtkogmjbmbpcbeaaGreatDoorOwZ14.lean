/- A layer over the walk: what lies in memory as plain data, each operation by what it does to data; part 21. -/
import Derived.Test.YtkogmjbmbpcbeaaGreatDoorOwZ10
set_option linter.unusedSectionVars false
set_option linter.unusedVariables false
set_option linter.unusedSimpArgs false
namespace Go.Own
variable [Glb]
open Go
variable {P : Program} {Γ : Env} {E : Entry} {S : St}
theorem zK8 {s r : Nat} {ver : Ver} {p : Path} {t tr : T} {d dr : D} {bx : Bool} (hS : (S s).av = .ref r ver p t d) (hr : (S r).root = some (tr, dr, bx)) (hne : s ≠ r) (hl : z1Q ver (S r).v 0) (hf : tr.flat p = true) (hat : tr.at p = t) :
 Wk Γ E S ((S.put r ((S r).setRoot (tr.set p t.moved) dr (S r).v.head)).put s ⟨.val t (D.mix t d (dr.get p)), (S s).v.kill⟩) := by
 rintro act w ⟨hfr, κ, V, hc, hb⟩
 have h : (take .unit (.tmp s) fun ty d' ws => .need (ty = t ∧ d' = D.mix t d (dr.get p) ∧ ws = [(r, (S r).setRoot (tr.set p t.moved) dr (S r).v.head)]) (.ret [])).wp (fun _ _ _ => False) S (fun _ => True) := by
  simp only [take, takeW, askW, look, A.wp, hS, hr]
  exact ⟨⟨hl, hf, hat⟩, ⟨trivial, trivial, trivial⟩, trivial⟩
 obtain ⟨ty, d', ws, κ', kx, hk, ht⟩ := z4A h hc
 simp only [A.wp] at hk
 obtain ⟨⟨rfl, rfl, rfl⟩, _⟩ := hk
 have hc1 := ht.conc
 have hs : (S.apply [(r, (S r).setRoot (tr.set p ty.moved) dr (S r).v.head)]) s = S s := St.put_other _ _ hne
 have hlt : ∀ b, b ∈ kx.blocks → b < w.heap.size := fun b hm => by
  obtain ⟨q, hq⟩ := ht.src b hm
  exact hc.bl q b hq
 obtain ⟨cs, hrep, e⟩ := ht.rep
 have := hc1.set s (a := .val ty (D.mix ty d (dr.get p))) (k := kx) (v := tmOf act s) ⟨cs, by rw [z0U]; exact hrep, e⟩ ht.nd (fun q _ b hm => ht.dj q b hm) ht.dv hlt
 rw [z2l, hs] at this
 refine ⟨hfr, updK κ' s kx, V, this, hb.v0, hb.v1, fun q b hm => ?_⟩
 by_cases hq : q = s
 ·subst hq
  rw [z0U] at hm
  obtain ⟨q', hq'⟩ := ht.src b hm
  exact hb.k q' b hq'
 ·rw [z09 _ _ hq] at hm
  exact hb.k q b (ht.sub q b hm)
theorem zIf {s r : Nat} {ver : Ver} {p : Path} {t tr : T} {d dr : D} {bx : Bool} (hS : (S s).av = .bref t d r ver p) (hr : (S r).root = some (tr, dr, bx)) (hne : s ≠ r) (hl : z1Q ver (S r).v 0) (hf : tr.flat p = true) (hat : tr.at p = t) :
 Wk Γ E S ((S.put r ((S r).setRoot (tr.set p t.moved) dr (S r).v.head)).put s ⟨.box t (D.mix t d (dr.get p)), (S s).v.kill⟩) := by
 rintro act w ⟨hfr, κ, V, hc, hb⟩
 have hcv := hc.cv s
 rw [hS] at hcv
 obtain ⟨b, κ0, arr, ty, hks, htm, hh, hmv, hag, _, hrc⟩ := hcv
 obtain ⟨κ', c0, hcc, hrep0, hnd0, hdj, hdv, hsub, hsrc, hoth⟩ := hc.moved hr hf
 rw [hat] at hcc hrep0
 obtain ⟨cs, hrr, hval⟩ := hrc.2 tr dr bx hr (by rw [z74 p hf]; exact hl) hat (zED p hf)
 have hcs : cs = arr.toList := by
  unfold z0Q at hval
  rw [hag] at hval
  simp at hval
  rw [hval]
 have hrep := hrr.mix hrep0
 rw [hcs] at hrep
 generalize (base bx (κ r)).get p = kx at *
 have hk' : κ' s = .lst b 0 1 1 (fun _ => κ0) := by rw [hoth s hne, hks]
 have hbs : b ∈ (κ' s).blocks := by rw [hk']; simp [K.blocks]
 have hmem : ∀ b', b' ∈ (K.lst b 0 1 1 (fun _ => kx)).blocks → b' = b ∨ b' ∈ kx.blocks := by
  intro b' hb'
  simp only [K.blocks, List.mem_cons, List.mem_flatMap, List.mem_range] at hb'
  rcases hb' with rfl | ⟨_, _, h⟩
  ·exact .inl rfl
  ·exact .inr h
 have hlt : ∀ b, b ∈ kx.blocks → b < w.heap.size := fun b hm => by
  obtain ⟨q, hq⟩ := hsrc b hm
  exact hc.bl q b hq
 have hs : (S.put r ((S r).setRoot (tr.set p t.moved) dr (S r).v.head)) s = S s := St.put_other _ _ hne
 have := hcc.set s (a := .box t (D.mix t d (dr.get p))) (k := .lst b 0 1 1 (fun _ => kx)) (v := tmOf act s) ⟨b, kx, arr, ty, by rw [z0U], htm, hh, hrep⟩
  (by rw [K.nodup_lst]; exact ⟨fun i _ h => hdj s b h hbs, fun i _ => hnd0, fun i j _ _ _ => by omega⟩)
  (fun q hq b' hm => by
    rcases hmem b' hm with rfl | h
    ·exact hcc.dj s q (Ne.symm hq) b' hbs
    ·exact hdj q b' h)
  (fun b' hm => by
    rcases hmem b' hm with rfl | h
    ·exact hcc.dv s b' hbs
    ·exact hdv b' h)
  (fun b' hm => by
    rcases hmem b' hm with rfl | h
    ·exact hcc.bl s b' hbs
    ·exact hlt b' h)
 rw [z2l, hs] at this
 refine ⟨hfr, updK κ' s (.lst b 0 1 1 (fun _ => kx)), V, this, hb.v0, hb.v1, fun q b' hm => ?_⟩
 by_cases hq : q = s
 ·subst hq
  rw [z0U] at hm
  rcases hmem b' hm with rfl | h
  ·exact hb.k q b' (hsub q b' hbs)
  ·obtain ⟨q', hq'⟩ := hsrc b' h
   exact hb.k q' b' hq'
 ·rw [z09 _ _ hq] at hm
  exact hb.k q b' (hsub q b' hm)
end Go.Own
