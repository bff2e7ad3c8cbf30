/- A layer over the walk: what lies in memory as plain data, each operation by what it does to data; part 40. -/
import Derived.Test.YtajcjfickmmjcaaOwZ6
set_option linter.unusedVariables false
set_option linter.unusedSimpArgs false
namespace Go.Own
open Go

/-- an empty value's cells -/
@[simp] def T.zcells : T → List Value
  | .unit => []
  | .int k => [.int k 0]
  | .bool => [.bool false]
  | .str => [.string .empty]
  | .pair a b => a.zcells ++ b.zcells
  | .lst _ _ => [.slice none 0 0]
  | _ => []
@[simp] def T.zok : T → Bool
  | .pair a b => a.zok && b.zok
  | .ptr _ => false
  | .fn _ _ => false
  | .gone => false
  | _ => true

theorem Rep.zero (h : Heap) (V : Nat → Prop) : ∀ (t : T), t.zok = true → ∃ κ : K, κ.blocks = [] ∧ Rep h V t t.zero κ t.zcells
  | .unit, _ => ⟨.leaf, rfl, rfl, rfl, rfl⟩
  | .int k, _ => ⟨.leaf, rfl, 0, rfl, rfl, rfl, by cases k <;> decide⟩
  | .bool, _ => ⟨.leaf, rfl, false, rfl, rfl, rfl⟩
  | .str, _ => ⟨.leaf, rfl, [], rfl, rfl, rfl, by decide⟩
  | .pair a b, hz => by
    simp only [T.zok, Bool.and_eq_true] at hz
    obtain ⟨k1, h1, h2⟩ := Rep.zero h V a hz.1
    obtain ⟨k2, h3, h4⟩ := Rep.zero h V b hz.2
    exact ⟨.pair k1 k2, by simp [K.blocks, h1, h3], _, _, _, _, _, _, rfl, rfl, rfl, h2, h4⟩
  | .lst o e, _ => ⟨.leaf, rfl, [], rfl, .inl ⟨rfl, rfl, none, rfl, fun _ => rfl⟩⟩
  | .ptr _, hz => by simp at hz
  | .fn _ _, hz => by simp at hz
  | .gone, hz => by simp at hz

/-- a struct's fields -/
@[simp] def fieldsOk (Γ : Env) : List Field → T → Nat → Prop
  | [], .unit, _ => True
  | f :: fs, .pair a b, o => f.offset = o ∧ Γ.ty f.type = a ∧ a.ok = true ∧ fieldsOk Γ fs b (o + a.size)
  | _, _, _ => False

theorem fieldsOk_get {Γ : Env} : ∀ {fs : List Field} {t : T} {o : Nat}, fieldsOk Γ fs t o →
    (∀ j, t.has j = true → ∃ f, fs[j]? = some f ∧ f.offset = o + t.off j ∧ Γ.ty f.type = t.fld j ∧ (t.fld j).ok = true) ∧ ∀ j, j < fs.length → t.has j = true
  | [], .unit, _, _ => ⟨fun j hj => by simp at hj, fun j hj => by simp at hj⟩
  | f :: fs, .pair a b, o, h => by
    obtain ⟨h1, h2, h3, h4⟩ := h
    obtain ⟨g1, g2⟩ := fieldsOk_get h4
    refine ⟨fun j hj => ?_, fun j hj => ?_⟩
    · cases j with
      | zero => exact ⟨f, rfl, by simpa using h1, h2, h3⟩
      | succ j =>
        obtain ⟨f', e1, e2, e3, e4⟩ := g1 j hj
        exact ⟨f', e1, by rw [e2]; simp [Nat.add_assoc], e3, e4⟩
    · cases j with
      | zero => rfl
      | succ j => exact g2 j (by simpa using hj)

/-- a type's kind -/
def FitsB (P : Program) (Γ : Env) (t : TypeId) : T → Prop
  | .unit => P.underlying t = some (.struct #[])
  | .int k => P.underlying t = some (.int k)
  | .bool => P.underlying t = some .bool
  | .str => P.underlying t = some .string
  | .pair a b => ∃ fs, P.underlying t = some (.struct fs) ∧ fieldsOk Γ fs.toList (.pair a b) 0
  | .lst o e => o = true ∧ ∃ et, P.underlying t = some (.slice et) ∧ Γ.ty et = e ∧ e.ok = true ∧ (P.info? et).map (·.bytes) = some (Γ.eb t)
  | _ => False

def EntryOk (P : Program) (Γ : Env) (t : TypeId) : Prop :=
  FitsB P Γ t (Γ.ty t) ∧ (Γ.ty t).zok = true ∧ (P.info? t).map (fun i => (i.size, i.zero)) = some ((Γ.ty t).size, some (toVal (Γ.ty t) (Γ.ty t).zcells))

theorem zok_sound : ∀ {t : T}, t.zok = true → t.sound = true
  | .unit, _ | .int _, _ | .bool, _ | .str, _ | .lst _ _, _ => rfl
  | .pair a b, h => by
    simp only [T.zok, Bool.and_eq_true] at h
    simp [zok_sound h.1, zok_sound h.2]

theorem EnvOk.of {P : Program} {Γ : Env} (ts : List TypeId) (hts : ∀ t, (Γ.ty t).ok = true → t ∈ ts) (h : ∀ t, t ∈ ts → EntryOk P Γ t) (hm : P.follows .mixedOrders = true) : EnvOk P Γ := by
  refine ⟨fun t ht => ?_, fun t ht => ?_, fun t ht => ?_, fun t ht => ?_, hm⟩
  · obtain ⟨h1, h2, _⟩ := h t (hts t ht)
    generalize Γ.ty t = T at h1 h2
    cases T with
    | pair a b =>
      obtain ⟨fs, e, hf⟩ := h1
      obtain ⟨g1, g2⟩ := fieldsOk_get hf
      refine ⟨fs, e, fun j hj => ?_, fun j hj => g2 j (by simpa using hj)⟩
      obtain ⟨f, e1, e2, e3, e4⟩ := g1 j hj
      exact ⟨f, by simpa using e1, by simpa using e2, e3, e4⟩
    | lst o e =>
      obtain ⟨ho, et, e1, e2, e3, _⟩ := h1
      exact ⟨ho, et, e1, e2, e3⟩
    | _ => exact h1
  · exact zok_sound (h t (hts t ht)).2.1
  · obtain ⟨_, h2, h3⟩ := h t (hts t ht)
    cases hi : P.info? t with
    | none => rw [hi] at h3; simp at h3
    | some i =>
      rw [hi] at h3
      simp only [Option.map_some, Option.some.injEq, Prod.mk.injEq] at h3
      have hne : Γ.ty t ≠ .gone := by intro e; rw [e] at h2; simp at h2
      obtain ⟨κ, hκ, hr⟩ := Rep.zero #[] (fun _ => False) (Γ.ty t) h2
      have hc := toVal_cells hne hr
      refine ⟨i, rfl, h3.1, _, h3.2, by rw [hc]; exact hr.length, fun h V => ?_⟩
      obtain ⟨κ', hκ', hr'⟩ := Rep.zero h V (Γ.ty t) h2
      rw [hc]
      exact ⟨κ', hκ', hr', rfl⟩
  · have hok : (Γ.ty t).ok = true := by
      generalize Γ.ty t = T at ht
      cases T <;> simp at ht ⊢
    obtain ⟨h1, h2, _⟩ := h t (hts t hok)
    generalize Γ.ty t = T at h1 ht
    cases T with
    | lst o e =>
      obtain ⟨_, et, e1, _, _, e4⟩ := h1
      cases hi : P.info? et with
      | none => rw [hi] at e4; simp at e4
      | some i => rw [hi] at e4; simp at e4; exact ⟨et, i, e1, hi, e4⟩
    | _ => simp at ht

end Go.Own
