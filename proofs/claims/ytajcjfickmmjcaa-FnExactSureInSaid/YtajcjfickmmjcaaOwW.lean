/- A layer over the walk: what lies in memory as plain data, each operation by what it does to data; part 30. -/
import Derived.Test.YtajcjfickmmjcaaOwV3
set_option linter.unusedVariables false
set_option linter.unusedSimpArgs false
namespace Go.Own
open Go

variable {P : Program} {Γ : Env} {E : Entry} {S : St} {act : Act} {w : World} {X : Ctr} {Kt : Wr → Prop} {next : Act → World → Prop}

/-- an argument's value -/
def ArgV (h : Heap) (V : Nat → Prop) (a : Arg) (κ : K) (v : Value) : Prop :=
  match a.m with
  | .iop => ∃ b κ0 arr ty, κ = .lst b 0 1 1 (fun _ => κ0) ∧ v = .pointer (some ⟨b, 0, none⟩) ∧ h[b]? = some (.cells arr ty (0, 0)) ∧ Rep h V a.t a.d κ0 arr.toList
  | .vw => a.t.plain = true ∧ ∃ cs, Rep h V a.t a.d κ cs ∧ v = toVal a.t cs
  | _ => ∃ cs, Rep h V a.t a.d κ cs ∧ v = toVal a.t cs

/-- a result's value -/
def ResV (h : Heap) (V : Nat → Prop) (κ : K) (v : Value) : Res → Prop
  | .one t d => ∃ cs, Rep h V t d κ cs ∧ v = toVal t cs
  | .many t d => ∃ cs, Rep h V t d κ cs ∧ ∃ vs, v = .tuple vs ∧ ∀ j, t.has j = true → vs[j]? = some (toVal (t.fld j) ((cs.drop (t.off j)).take (t.fld j).size))

def Callable (P : Program) (g : FuncId) : Prop := ∃ fn, P.funcs[g]? = some fn ∧ (fn.name == "runtime.NumGoroutine") = false ∧ fn.body.isNone = false

structure Pre (h : Heap) (V : Nat → Prop) (as : List Arg) (κs : Nat → K) (vs : List Value) : Prop where
  len : vs.length = as.length
  arg : ∀ (i : Nat) a v, as[i]? = some a → vs[i]? = some v → ArgV h V a (κs i) v
  nd : ∀ i, i < as.length → (κs i).blocks.Nodup
  dj : ∀ i j, i < as.length → j < as.length → i ≠ j → ∀ b, b ∈ (κs i).blocks → b ∉ (κs j).blocks
  dv : ∀ i, i < as.length → ∀ b, b ∈ (κs i).blocks → ¬ V b
  lt : ∀ b, V b → b < h.size

structure Post' (w w' : World) (V V' : Nat → Prop) (as : List Arg) (κs : Nat → K) (vs : List Value) (res : Res) (outs : List D) (κr : K) (κo : Nat → K) (v : Value) : Prop where
  same : Same w w'
  size : w.heap.size ≤ w'.heap.size
  frame : ∀ b, b < w.heap.size → (∀ i, i < as.length → b ∉ (κs i).blocks) → w'.heap[b]? = w.heap[b]?
  v0 : ∀ b, V b → V' b
  v1 : ∀ b, V' b → V b ∨ (∃ i, i < as.length ∧ b ∈ (κs i).blocks) ∨ w.heap.size ≤ b
  lt : ∀ b, V' b → b < w'.heap.size
  res : ResV w'.heap V' κr v res
  nd : κr.blocks.Nodup
  src : ∀ b, b ∈ κr.blocks → (∃ i, i < as.length ∧ b ∈ (κs i).blocks) ∨ w.heap.size ≤ b
  dv : ∀ b, b ∈ κr.blocks → ¬ V' b
  out : ∀ (i : Nat) a u, as[i]? = some a → vs[i]? = some u → (a.m = .io ∨ a.m = .iop) → ArgV w'.heap V' { a with d := outs.getD i .unit } (κo i) u
  ond : ∀ i, i < as.length → (κo i).blocks.Nodup
  osrc : ∀ i, i < as.length → ∀ b, b ∈ (κo i).blocks → (∃ i, i < as.length ∧ b ∈ (κs i).blocks) ∨ w.heap.size ≤ b
  odv : ∀ i, i < as.length → ∀ b, b ∈ (κo i).blocks → ¬ V' b
  odj : ∀ i, i < as.length → ∀ b, b ∈ (κo i).blocks → b ∉ κr.blocks

/-- a function's contract: whatever memory, if its arguments read so, it returns, and what comes is as told -/
def Valid (P : Program) (g : FuncId) (as : List Arg) (Post : Res → List D → Prop) : Prop :=
  ∀ (w : World) (V : Nat → Prop) (κs : Nat → K) (vs : List Value), Pre w.heap V as κs vs →
    Calls P g vs.toArray w fun e w' => ∃ res outs κr κo V' v, Post res outs ∧ e = .returned v ∧ Post' w w' V V' as κs vs res outs κr κo v

theorem Rep.noview {h : Heap} {V V' : Nat → Prop} {t : T} : ∀ {d κ cs}, Rep h V t d κ cs → t.noview = true → Rep h V' t d κ cs := by
  induction t with
  | unit => intro d κ cs hr _; exact hr
  | int k => intro d κ cs hr _; exact hr
  | bool => intro d κ cs hr _; exact hr
  | str => intro d κ cs hr _; exact hr
  | pair a b iha ihb =>
    rintro d κ cs ⟨d1, d2, κ1, κ2, c1, c2, rfl, rfl, rfl, h1, h2⟩ hn
    simp at hn
    exact ⟨d1, d2, κ1, κ2, c1, c2, rfl, rfl, rfl, iha h1 hn.1, ihb h2 hn.2⟩
  | lst o e ih =>
    rintro d κ cs ⟨xs, rfl, h1 | ⟨b, off, c, arr, ty, fz, ks, rfl, hc, hh, hs, he, ho⟩⟩ hn
    · exact ⟨xs, rfl, .inl h1⟩
    · simp at hn
      obtain ⟨rfl, hn⟩ := hn
      exact ⟨xs, rfl, .inr ⟨b, off, c, arr, ty, fz, ks, rfl, hc, hh, hs, fun i x hx => ih (he i x hx) hn, ho⟩⟩
  | ptr e ih => intro d κ cs _ hn; simp at hn
  | fn f c ih => intro d κ cs _ hn; simp at hn
  | gone => intro d κ cs hr _; exact hr

theorem ResV.noview {h : Heap} {V V' : Nat → Prop} {κ v} {r : Res} (hr : ResV h V κ v r) (hn : r.noview = true) : ResV h V' κ v r := by
  cases r with
  | one t d => obtain ⟨cs, h, e⟩ := hr; exact ⟨cs, h.noview hn, e⟩
  | many t d => obtain ⟨cs, h, e⟩ := hr; exact ⟨cs, h.noview hn, e⟩

/-- one row of cells, two readings -/
theorem Rep.sim {h h' : Heap} {V V' : Nat → Prop} {t : T} : ∀ {d d' κ κ' cs}, Rep h V t d κ cs → Rep h' V' t d' κ' cs → SimK t κ κ' ∧ SimD t d d' := by
  induction t with
  | pair a b iha ihb =>
    rintro d d' κ κ' cs ⟨d1, d2, κ1, κ2, c1, c2, rfl, rfl, rfl, h1, h2⟩ ⟨e1, e2, l1, l2, b1, b2, rfl, rfl, he, g1, g2⟩
    have hl : c1.length = b1.length := by rw [h1.length, g1.length]
    obtain ⟨rfl, rfl⟩ := List.append_inj he hl
    exact ⟨⟨(iha h1 g1).1, (ihb h2 g2).1⟩, ⟨(iha h1 g1).2, (ihb h2 g2).2⟩⟩
  | lst o e ih =>
    cases o with
    | false => intros; exact ⟨trivial, trivial⟩
    | true =>
      rintro d d' κ κ' cs ⟨xs, rfl, ⟨rfl, rfl, A, rfl, hA⟩ | ⟨b, off, c, arr, ty, fz, ks, rfl, hc, hh, hs, he, ho⟩⟩ ⟨ys, rfl, ⟨rfl, rfl, A', hq, hA'⟩ | ⟨b', off', c', arr', ty', fz', ks', hq, hc', hh', hs', he', ho'⟩⟩
      · exact ⟨.inl rfl, rfl⟩
      · simp [hA rfl] at hq
      · simp [hA' rfl] at hq
      · simp at ho ho' hq
        obtain ⟨⟨rfl, rfl⟩, hl, rfl⟩ := hq
        rw [ho.2, ho'.2]
        refine ⟨.inr ⟨b, off, c, xs.length, ks, ks', rfl, by rw [hl]⟩, hl⟩
  | _ => intros; exact ⟨trivial, trivial⟩

theorem toVal_inj {t : T} {cs cs' : List Value} (h1 : cs.length = t.size) (h2 : cs'.length = t.size) (h : toVal t cs = toVal t cs') : cs = cs' := by
  unfold toVal at h
  by_cases ha : t.agg = true
  · rw [if_pos ha, if_pos ha] at h
    simp at h; exact h
  · rw [if_neg ha, if_neg ha] at h
    have e : t.size = 1 := by cases t <;> simp at ha ⊢
    rw [e] at h1 h2
    match cs, cs', h1, h2 with
    | [a], [b], _, _ => simp at h; rw [h]

end Go.Own
