/- What the functions compute, in plain words. -/
import Derived.Test.YtbacjgkmkkphdaaGreatDoorP5
set_option linter.unusedSectionVars false
set_option linter.unusedVariables false
set_option linter.unusedSimpArgs false
namespace Go.Proofs.YtbacjgkmkkphdaaGreatDoor
open Go Go.Own
theorem f_l6Own {z : Zn} (h : z.recs.length ≤ 1000000) : e_spec_l6Own.F [z.d] = some z.d := by
 rw [q_spec_l6Own]
 exact rn_if (appN (show ([] : List D).length + (z.recs.map Rec.d).length ≤ 1000001 by simp; omega) (by decide)) rfl
end Go.Proofs.YtbacjgkmkkphdaaGreatDoor
namespace Go.Proofs.YtbacjgkmkkphdaaGreatDoor
open Go Go.Own
variable {bs : List D} {k : Nat} {c : D}
theorem Zn.In.mono {B C : Nat} {z : Zn} (h : z.In B) (hB : B ≤ C) : z.In C := ⟨Nat.le_trans h.apex hB, Nat.le_trans h.len hB, fun r hr => (h.all r hr).mono hB⟩
structure WSm (n : Nat) (w : List Zn) : Prop where
 len : w.length ≤ n
 all : ∀ z ∈ w, z.In 2000
theorem WSm.lim {n : Nat} {w : List Zn} (h : WSm n w) (hn : n ≤ 1000) : WIn lim w := by
 have hlim : Go.Own.lim = 1048576 := rfl
 exact ⟨by have := h.len; omega, fun z hz => (h.all z hz).mono (by omega)⟩
theorem WSm.app {n : Nat} {w : List Zn} {z : Zn} (h : WSm n w) (hz : z.In 2000) : WSm (n + 1) (w ++ [z]) := by
 refine ⟨by have := h.len; simp; omega, fun x hx => ?_⟩
 rcases List.mem_append.1 hx with hx | hx
 ·exact h.all x hx
 ·rw [List.mem_singleton.1 hx]; exact hz
theorem app_w {w : List Zn} {z : Zn} (h : w.length ≤ 1000) : appOk 48 (w.map Zn.d) [z.d] = true := app1 (xs := w) (g := Zn.d) (by omega) (by decide)
theorem set_w {w : List Zn} {z : Zn} : (wdD w).setFld 0 (D.lst (((wdD w).fld 0).l ++ [z.d])) = wdD (w ++ [z]) := by
 show D.pair (D.lst (w.map Zn.d ++ [z.d])) .unit = _
 simp [wdD]
end Go.Proofs.YtbacjgkmkkphdaaGreatDoor
namespace Go.Proofs.YtbacjgkmkkphdaaGreatDoor
open Go Go.Own
variable {bs : List D} {k : Nat} {c : D}
end Go.Proofs.YtbacjgkmkkphdaaGreatDoor
