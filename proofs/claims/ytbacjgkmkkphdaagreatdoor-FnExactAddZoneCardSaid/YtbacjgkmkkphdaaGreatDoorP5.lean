/- What the functions compute, in plain words. -/
import Derived.Test.YtbacjgkmkkphdaaGreatDoorP4
set_option linter.unusedSectionVars false
set_option linter.unusedVariables false
set_option linter.unusedSimpArgs false
namespace Go.Own
variable [Glb]
open Go
def cuD (bs : List D) (p : Nat) (a : Int) : D := .pair (.lst bs) (.pair (.int p) (.pair (.int a) .unit))
def Cu (bs : List D) (k : Nat) (c : D) : Prop := ∃ p a, c = cuD bs p a ∧ p ≤ k
theorem Cu.mono {bs : List D} {k m : Nat} {c : D} (h : Cu bs k c) (hk : k ≤ m) : Cu bs m c := by
 obtain ⟨p, a, rfl, h⟩ := h; exact ⟨p, a, rfl, by omega⟩
end Go.Own
namespace Go.Proofs.YtbacjgkmkkphdaaGreatDoor
open Go Go.Own
end Go.Proofs.YtbacjgkmkkphdaaGreatDoor
namespace Go.Own
open Go
def OKo (o : Outc) (Q : Nat × List D → Prop) : Prop := ∃ r, o = some r ∧ Q r
theorem ok_ou {t : Nat} {l : List D} {Q : Nat × List D → Prop} (h : Q (t, l)) : OKo (ou t l) Q := ⟨_, rfl, h⟩
theorem ok_ifT {c : Prop} [Decidable c] {a b : Outc} {Q : Nat × List D → Prop} (h : c) (h1 : OKo a Q) : OKo (if c then a else b) Q := by rw [if_pos h]; exact h1
theorem ok_bind {o : Outc} {k : Nat × List D → Outc} {P Q : Nat × List D → Prop} (h : OKo o P) (hk : ∀ r, P r → OKo (k r) Q) : OKo (o.bind k) Q := by
 obtain ⟨r, rfl, hr⟩ := h; exact hk r hr
theorem ok_call {o : Option D} {k : D → Outc} {d : D} {Q : Nat × List D → Prop} (h : o = some d) (hk : OKo (k d) Q) : OKo (o.bind k) Q := by
 rw [h]; exact hk
theorem ok_mono {o : Outc} {P Q : Nat × List D → Prop} (h : OKo o P) (hk : ∀ r, P r → Q r) : OKo o Q := by
 obtain ⟨r, h, hr⟩ := h; exact ⟨r, h, hk r hr⟩
theorem ok_sel0 {a : Outc} {b : Nat → Outc} {Q : Nat × List D → Prop} (h : OKo a Q) : OKo (sel2 0 a b) Q := h
theorem ok_loop {f : List D → Outc} {Q : Nat × List D → Prop} (Inv : Nat → List D → Prop) (h : ∀ m l, Inv m l → OKo (f l) (fun r => (∃ m', m' < m ∧ r.1 = 0 ∧ Inv m' r.2) ∨ (∃ t, r.1 = t + 1 ∧ Q (t, r.2)))) : ∀ (m : Nat) {l : List D}, Inv m l → OKo (loopF f l) Q := by
 intro m
 induction m using Nat.strongRecOn with
 | ind m ih =>
   intro l hl
   obtain ⟨⟨t, o⟩, hf, hq⟩ := h m l hl
   rcases hq with ⟨m', hm, rfl, hi⟩ | ⟨t', rfl, hq⟩
   ·obtain ⟨r, hr, hQ⟩ := ih m' hm hi
    exact ⟨r, (loopF_step hf).trans hr, hQ⟩
   ·exact ⟨_, loopF_exit hf, hq⟩
end Go.Own
namespace Go.Proofs.YtbacjgkmkkphdaaGreatDoor
open Go Go.Own
variable {bs : List D} {k : Nat} {c : D}
end Go.Proofs.YtbacjgkmkkphdaaGreatDoor
namespace Go.Proofs.YtbacjgkmkkphdaaGreatDoor
open Go Go.Own
theorem Rec.In.mono {B C : Nat} {r : Rec} (h : r.In B) (hB : B ≤ C) : r.In C := ⟨Nat.le_trans h.name hB, Nat.le_trans h.data hB⟩
variable {bs : List D} {k : Nat} {c : D}
end Go.Proofs.YtbacjgkmkkphdaaGreatDoor
namespace Go.Own
open Go
theorem ok_up {f : List D → Outc} {Q : Nat × List D → Prop} (n : Nat) (Inv : Nat → List D → Prop) {l : List D} (h0 : Inv 0 l) (h : ∀ i l, i < n → Inv i l → OKo (f l) (fun r => (r.1 = 0 ∧ Inv (i + 1) r.2) ∨ (∃ t, r.1 = t + 1 ∧ Q (t, r.2)))) (hn : ∀ l, Inv n l → OKo (f l) (fun r => ∃ t, r.1 = t + 1 ∧ Q (t, r.2))) : OKo (loopF f l) Q := by
 refine ok_loop (fun m l => ∃ i, i + m = n ∧ Inv i l) ?_ n ⟨0, by omega, h0⟩
 rintro m l ⟨i, hi, hI⟩
 by_cases hlt : i < n
 ·refine ok_mono (h i l hlt hI) ?_
  rintro r (⟨h1, h2⟩ | h2)
  ·exact .inl ⟨m - 1, by omega, h1, i + 1, by omega, h2⟩
  ·exact .inr h2
 ·have : i = n := by omega
  subst this
  exact ok_mono (hn l hI) fun r hr => .inr hr
end Go.Own
namespace Go.Proofs.YtbacjgkmkkphdaaGreatDoor
open Go Go.Own
theorem app1 {α : Type} {eb : Nat} {g : α → D} {xs : List α} {y : D} (h : xs.length ≤ 1000000) (he : eb ≤ 1000000) : appOk eb (xs.map g) [y] = true := by
 have hsm := smax_eq
 have : (xs.length + 1) * eb ≤ 1000001 * 1000000 := Nat.mul_le_mul (by omega) he
 simp only [appOk, List.length_map, List.length_singleton, Bool.and_eq_true, decide_eq_true_eq]
 omega
theorem appN {eb : Nat} {xs ys : List D} (h : xs.length + ys.length ≤ 1000001) (he : eb ≤ 1000000) : appOk eb xs ys = true := by
 have hsm := smax_eq
 have : (xs.length + ys.length) * eb ≤ 1000001 * 1000000 := Nat.mul_le_mul h he
 simp only [appOk, Bool.and_eq_true, decide_eq_true_eq]
 omega
theorem wrap1 {i : Nat} (h : i ≤ 1000000) : IntKind.wrap .i64 ((i : Int) + 1) = ((i + 1 : Nat) : Int) := by rw [wrap_id] <;> omega
end Go.Proofs.YtbacjgkmkkphdaaGreatDoor
