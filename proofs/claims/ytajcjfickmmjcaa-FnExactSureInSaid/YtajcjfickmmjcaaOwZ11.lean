/- A layer over the walk: what lies in memory as plain data, each operation by what it does to data; part 44. -/
import Derived.Test.YtajcjfickmmjcaaOwZ10
set_option linter.unusedVariables false
set_option linter.unusedSimpArgs false
namespace Go.Own
noncomputable section
open Go

/-- data of its kind, of a length that memory holds -/
def T.fits : T → D → Prop
  | .unit, d => d = .unit
  | .int k, d => ∃ n, d = .int n ∧ k.min ≤ n ∧ n ≤ k.max
  | .bool, d => ∃ b, d = .bool b
  | .str, d => ∃ s, d = .str s ∧ s.length ≤ smax
  | .pair a b, d => ∃ x y, d = .pair x y ∧ a.fits x ∧ b.fits y
  | .lst _ e, d => ∃ xs, d = .lst xs ∧ xs.length ≤ smax ∧ ∀ x ∈ xs, e.fits x
  | _, _ => True

theorem Rep.fits {h : Heap} {V : Nat → Prop} {t : T} : ∀ {d κ cs}, Rep h V t d κ cs → t.fits d := by
  induction t with
  | unit => rintro d κ cs ⟨rfl, _⟩; rfl
  | int k => rintro d κ cs ⟨n, rfl, _, _, hn⟩; exact ⟨n, rfl, hn⟩
  | bool => rintro d κ cs ⟨b, rfl, _⟩; exact ⟨b, rfl⟩
  | str => rintro d κ cs ⟨s, rfl, _, _, hs⟩; exact ⟨s, rfl, hs⟩
  | pair a b iha ihb => rintro d κ cs ⟨d1, d2, κ1, κ2, c1, c2, rfl, _, _, h1, h2⟩; exact ⟨_, _, rfl, iha h1, ihb h2⟩
  | lst o e ih =>
    rintro d κ cs ⟨xs, rfl, ⟨rfl, _, _⟩ | ⟨b, off, c, arr, ty, fz, ks, _, hl, _, _, he, _⟩⟩
    · exact ⟨[], rfl, by simp, by simp⟩
    · refine ⟨xs, rfl, hl.2, fun x hx => ?_⟩
      obtain ⟨i, hi⟩ := List.getElem?_of_mem hx
      exact ih (he i x hi)
  | _ => intros; trivial

theorem ArgV.fits {h : Heap} {V : Nat → Prop} {a : Arg} {κ : K} {v : Value} (ha : ArgV h V a κ v) : a.t.fits a.d := by
  unfold ArgV at ha
  split at ha
  · obtain ⟨_, _, _, _, _, _, _, hr⟩ := ha; exact hr.fits
  · obtain ⟨_, cs, hr, _⟩ := ha; exact hr.fits
  · obtain ⟨cs, hr, _⟩ := ha; exact hr.fits

/-- what is handed on is of its kind -/
theorem Valid.fits {P : Program} {g : FuncId} {as : List Arg} {Post : Res → List D → Prop} (h : (∀ a, a ∈ as → a.t.fits a.d) → Valid P g as Post) : Valid P g as Post := by
  intro w V κs vs hp
  refine h ?_ w V κs vs hp
  intro a ha
  obtain ⟨i, hi⟩ := List.getElem?_of_mem ha
  have hl := hp.len
  have hlt : i < vs.length := by rw [hl]; exact (List.getElem?_eq_some_iff.1 hi).1
  exact (hp.arg i a vs[i] hi (by simp [hlt])).fits

theorem wrap_i64 {n : Int} (h1 : -9223372036854775808 ≤ n) (h2 : n ≤ 9223372036854775807) : IntKind.wrap .i64 n = n := by
  simp only [IntKind.wrap, IntKind.signed, IntKind.bits]
  simp
  omega

end
end Go.Own

namespace Go.Own
attribute [simp] smax_eq
@[simp] theorem size_mk (a : Array UInt8) : (ByteArray.mk a).size = a.size := rfl
@[simp] theorem empty_mk : (⟨#[]⟩ : ByteArray) = ByteArray.empty := rfl
end Go.Own
