/- A layer over the walk: what lies in memory as plain data, each operation by what it does to data; part 21. -/
import Derived.Test.YtbacjgkmkkphdaaGreatDoorOwZ10
set_option linter.unusedSectionVars false
set_option linter.unusedVariables false
set_option linter.unusedSimpArgs false
namespace Go.Own
variable [Glb]
open Go
variable {P : Program} {Γ : Env} {E : Entry} {S : St}
theorem settle_wk {s r : Nat} {ver : Ver} {p : Path} {t tr : T} {d dr : D} {bx : Bool} (hS : (S s).av = .ref r ver p t d) (hr : (S r).root = some (tr, dr, bx)) (hne : s ≠ r) (hl : liveRef ver (S r).v 0) (hf : tr.flat p = true) (hat : tr.at p = t) :
 Wk Γ E S ((S.put r ((S r).setRoot (tr.set p t.moved) dr (S r).v.head)).put s ⟨.val t (D.mix t d (dr.get p)), (S s).v.kill⟩) := by
 rintro act w ⟨hfr, κ, V, hc, hb⟩
 have h : (take .unit (.tmp s) fun ty d' ws => .need (ty = t ∧ d' = D.mix t d (dr.get p) ∧ ws = [(r, (S r).setRoot (tr.set p t.moved) dr (S r).v.head)]) (.ret [])).wp (fun _ _ _ => False) S (fun _ => True) := by
  simp only [take, takeW, askW, look, A.wp, hS, hr]
  exact ⟨⟨hl, hf, hat⟩, ⟨trivial, trivial, trivial⟩, trivial⟩
 obtain ⟨ty, d', ws, κ', kx, hk, ht⟩ := take_sound h hc
 simp only [A.wp] at hk
 obtain ⟨⟨rfl, rfl, rfl⟩, _⟩ := hk
 have hc1 := ht.conc
 have hs : (S.apply [(r, (S r).setRoot (tr.set p ty.moved) dr (S r).v.head)]) s = S s := St.put_other _ _ hne
 have hlt : ∀ b, b ∈ kx.blocks → b < w.heap.size := fun b hm => by
  obtain ⟨q, hq⟩ := ht.src b hm
  exact hc.bl q b hq
 obtain ⟨cs, hrep, e⟩ := ht.rep
 have := hc1.set s (a := .val ty (D.mix ty d (dr.get p))) (k := kx) (v := tmOf act s) ⟨cs, by rw [updK_same]; exact hrep, e⟩ ht.nd (fun q _ b hm => ht.dj q b hm) ht.dv hlt
 rw [updV_self, hs] at this
 refine ⟨hfr, updK κ' s kx, V, this, hb.v0, hb.v1, fun q b hm => ?_⟩
 by_cases hq : q = s
 ·subst hq
  rw [updK_same] at hm
  obtain ⟨q', hq'⟩ := ht.src b hm
  exact hb.k q' b hq'
 ·rw [updK_other _ _ hq] at hm
  exact hb.k q b (ht.sub q b hm)
end Go.Own
