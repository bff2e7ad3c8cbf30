/- A layer over the walk: what lies in memory as plain data, each operation by what it does to data; part 1. -/
import Derived.Calls
set_option linter.unusedVariables false
set_option linter.unusedSimpArgs false
/-! Own: values as trees, and what of memory they are. -/
namespace Go.Own

/-- Kinds of values. A list says whether its row is its owner's alone. -/
inductive T where
  | unit
  | int (k : IntKind)
  | bool
  | str
  | pair (a b : T)
  | lst (own : Bool) (e : T)
  | ptr (e : T)
  | fn (f : FuncId) (c : T)
  | gone
  deriving DecidableEq, Inhabited

/-- Data. -/
inductive D where
  | unit
  | int (n : Int)
  | bool (b : Bool)
  | str (s : List UInt8)
  | pair (a b : D)
  | lst (xs : List D)
  deriving Inhabited

/-- a text's bytes as the model has them -/
def mkS (l : List UInt8) : ByteArray := ⟨l.toArray⟩
@[simp] theorem mkS_size (l : List UInt8) : (mkS l).size = l.length := by simp [mkS, ByteArray.size]
@[simp] theorem mkS_list (s : ByteArray) : mkS s.data.toList = s := by cases s; simp [mkS]
@[simp] theorem mkS_data (l : List UInt8) : (mkS l).data.toList = l := by simp [mkS]
theorem bytes_toList_aux (a : ByteArray) : ∀ (n i : Nat) (r : List UInt8), n = a.size - i → ByteArray.toList.loop a i r = r.reverse ++ a.data.toList.drop i
  | 0, i, r, h => by
    have h2 : a.data.toList.length ≤ i := by rw [Array.length_toList]; change a.size ≤ i; omega
    unfold ByteArray.toList.loop
    rw [if_neg (by omega), List.drop_eq_nil_of_le h2]; simp
  | n + 1, i, r, h => by
    have hi : i < a.size := by omega
    have h2 : i < a.data.toList.length := by rw [Array.length_toList]; exact hi
    unfold ByteArray.toList.loop
    rw [if_pos hi, bytes_toList_aux a n (i + 1) _ (by omega), List.drop_eq_getElem_cons h2, List.reverse_cons, List.append_assoc]
    congr 2
    have : a.get! i = a.data.toList[i] := by
      cases a with
      | mk d =>
        show d[i]! = _
        have h3 : i < d.size := hi
        rw [getElem!_pos d i h3]; simp
    rw [this]; rfl
@[simp] theorem mkS_toList (l : List UInt8) : (mkS l).toList = l := by
  unfold ByteArray.toList
  rw [bytes_toList_aux _ _ 0 [] rfl]; simp [mkS]
theorem mkS_append (a b : List UInt8) : mkS a ++ mkS b = mkS (a ++ b) := by ext1; simp [mkS]

/-- Where own rows lie. -/
inductive K where
  | leaf
  | pair (a b : K)
  | lst (b off c n : Nat) (ks : Nat → K)
  deriving Inhabited

@[simp] def T.size : T → Nat
  | .unit => 0
  | .pair a b => a.size + b.size
  | _ => 1

@[simp] def T.plain : T → Bool
  | .pair a b => a.plain && b.plain
  | .lst o e => !o && e.plain
  | _ => true

@[simp] def T.view : T → T
  | .pair a b => .pair a.view b.view
  | .lst _ e => .lst false e.view
  | t => t

@[simp] theorem T.view_size (t : T) : t.view.size = t.size := by
  induction t <;> simp_all

def K.blocks : K → List Nat
  | .leaf => []
  | .pair a b => a.blocks ++ b.blocks
  | .lst b _ _ n ks => b :: (List.range n).flatMap fun i => (ks i).blocks

/-- the skeleton of what owns nothing -/
@[simp] def T.k0 : T → K
  | .pair a b => .pair a.k0 b.k0
  | _ => .leaf

@[simp] theorem T.k0_blocks (t : T) : t.k0.blocks = [] := by
  induction t <;> simp_all [K.blocks]

def Free (fz : Nat × Nat) (n : Nat) : Prop := ∀ o, o < n → (decide (fz.1 ≤ o) && decide (o < fz.2)) = false

abbrev Heap := Array Obj

/-- no text and no list is longer -/
def smax : Nat := 9223372036854775807
theorem smax_eq : smax = 9223372036854775807 := rfl

def LenOk (n c : Nat) : Prop := n ≤ c ∧ n ≤ smax

def Rep (h : Heap) (V : Nat → Prop) : T → D → K → List Value → Prop
  | .unit, d, κ, cs => d = .unit ∧ κ = .leaf ∧ cs = []
  | .int k, d, κ, cs => ∃ n, d = .int n ∧ κ = .leaf ∧ cs = [.int k n] ∧ k.min ≤ n ∧ n ≤ k.max
  | .bool, d, κ, cs => ∃ b, d = .bool b ∧ κ = .leaf ∧ cs = [.bool b]
  | .str, d, κ, cs => ∃ s, d = .str s ∧ κ = .leaf ∧ cs = [.string (mkS s)] ∧ s.length ≤ smax
  | .pair t u, d, κ, cs => ∃ d1 d2 κ1 κ2 c1 c2, d = .pair d1 d2 ∧ κ = .pair κ1 κ2 ∧ cs = c1 ++ c2 ∧ Rep h V t d1 κ1 c1 ∧ Rep h V u d2 κ2 c2
  | .lst o e, d, κ, cs => ∃ xs, d = .lst xs ∧
      ((xs = [] ∧ κ = .leaf ∧ ∃ A : Option Addr, cs = [.slice A 0 0] ∧ (o = true → A = none)) ∨
       ∃ b off c arr ty fz ks, cs = [.slice (some ⟨b, off, none⟩) xs.length c] ∧ LenOk xs.length c ∧ h[b]? = some (.cells arr ty fz) ∧ off + c * e.size ≤ arr.size ∧
         (∀ i x, xs[i]? = some x → Rep h V e x (ks i) ((arr.toList.drop (off + i * e.size)).take e.size)) ∧
         (if o = true then Free fz arr.size ∧ κ = .lst b off c xs.length ks else V b ∧ κ = .leaf ∧ e.plain = true))
  | .ptr e, d, κ, cs => κ = .leaf ∧ e.plain = true ∧ ∃ b o arr ty fz ke, cs = [.pointer (some ⟨b, o, none⟩)] ∧ V b ∧ h[b]? = some (.cells arr ty fz) ∧ o + e.size ≤ arr.size ∧
      Rep h V e d ke ((arr.toList.drop o).take e.size)
  | .fn f c, d, κ, cs => κ = .leaf ∧ c.plain = true ∧ ∃ caps kc, cs = [.func (.func f) #[] caps] ∧ Rep h V c d kc caps.toList
  | .gone, _, κ, cs => κ = .leaf ∧ cs.length = 1

theorem Rep.length {h : Heap} {V : Nat → Prop} {t : T} : ∀ {d κ cs}, Rep h V t d κ cs → cs.length = t.size := by
  induction t with
  | unit => rintro d κ cs ⟨_, _, rfl⟩; rfl
  | int k => rintro d κ cs ⟨_, _, _, rfl, _⟩; rfl
  | bool => rintro d κ cs ⟨_, _, _, rfl⟩; rfl
  | str => rintro d κ cs ⟨_, _, _, rfl, _⟩; rfl
  | pair a b iha ihb =>
    rintro d κ cs ⟨d1, d2, κ1, κ2, c1, c2, _, _, rfl, h1, h2⟩
    simp [iha h1, ihb h2]
  | lst o e ih =>
    rintro d κ cs ⟨xs, _, ⟨_, _, A, rfl, _⟩ | ⟨b, off, c, arr, ty, fz, ks, rfl, _⟩⟩ <;> rfl
  | ptr e ih => rintro d κ cs ⟨_, _, b, o, arr, ty, fz, ke, rfl, _⟩; rfl
  | fn f c ih => rintro d κ cs ⟨_, _, caps, kc, rfl, _⟩; rfl
  | gone => rintro d κ cs ⟨_, h⟩; exact h

theorem Rep.plain_leaf {h : Heap} {V : Nat → Prop} {t : T} : ∀ {d κ cs}, t.plain = true → Rep h V t d κ cs → κ = t.k0 := by
  induction t with
  | unit => rintro d κ cs _ ⟨_, rfl, _⟩; rfl
  | int k => rintro d κ cs _ ⟨_, _, rfl, _⟩; rfl
  | bool => rintro d κ cs _ ⟨_, _, rfl, _⟩; rfl
  | str => rintro d κ cs _ ⟨_, _, rfl, _⟩; rfl
  | pair a b iha ihb =>
    rintro d κ cs hp ⟨d1, d2, κ1, κ2, c1, c2, _, rfl, _, h1, h2⟩
    simp at hp
    simp [iha hp.1 h1, ihb hp.2 h2]
  | lst o e ih =>
    rintro d κ cs hp ⟨xs, _, ⟨_, rfl, _⟩ | ⟨b, off, c, arr, ty, fz, ks, _, _, _, _, _, ho⟩⟩
    · rfl
    · simp at hp; simp [hp.1] at ho; exact ho.2.1
  | ptr e ih => rintro d κ cs _ ⟨rfl, _⟩; rfl
  | fn f c ih => rintro d κ cs _ ⟨rfl, _⟩; rfl
  | gone => rintro d κ cs _ ⟨rfl, _⟩; rfl

theorem Rep.plain_blocks {h : Heap} {V : Nat → Prop} {t : T} {d κ cs} (hp : t.plain = true) (hr : Rep h V t d κ cs) : κ.blocks = [] := by
  rw [hr.plain_leaf hp]; simp

/-- what is read stays as it is where its rows do -/
theorem Rep.frame {h h' : Heap} {V V' : Nat → Prop} {t : T} : ∀ {d κ cs}, Rep h V t d κ cs → (∀ b, b ∈ κ.blocks → h'[b]? = h[b]?) → (∀ b, V b → h'[b]? = h[b]?) →
    (∀ b, V b → V' b) → Rep h' V' t d κ cs := by
  induction t with
  | unit => intro d κ cs hr _ _ _; exact hr
  | int k => intro d κ cs hr _ _ _; exact hr
  | bool => intro d κ cs hr _ _ _; exact hr
  | str => intro d κ cs hr _ _ _; exact hr
  | pair a b iha ihb =>
    rintro d κ cs ⟨d1, d2, κ1, κ2, c1, c2, rfl, rfl, rfl, h1, h2⟩ hb hv hV
    exact ⟨d1, d2, κ1, κ2, c1, c2, rfl, rfl, rfl, iha h1 (fun b hm => hb b (by simp [K.blocks, hm])) hv hV, ihb h2 (fun b hm => hb b (by simp [K.blocks, hm])) hv hV⟩
  | lst o e ih =>
    rintro d κ cs ⟨xs, rfl, ⟨rfl, rfl, A, rfl, hA⟩ | ⟨b, off, c, arr, ty, fz, ks, rfl, hc, hh, hs, he, ho⟩⟩ hb hv hV
    · exact ⟨[], rfl, .inl ⟨rfl, rfl, A, rfl, hA⟩⟩
    · refine ⟨xs, rfl, .inr ⟨b, off, c, arr, ty, fz, ks, rfl, hc, ?_, hs, ?_, ?_⟩⟩
      · cases o with
        | true => simp at ho; obtain ⟨_, rfl⟩ := ho; rw [hb b (by simp [K.blocks])]; exact hh
        | false => simp at ho; rw [hv b ho.1]; exact hh
      · intro i x hx
        refine ih (he i x hx) ?_ hv hV
        intro b' hb'
        cases o with
        | true =>
          simp at ho; obtain ⟨_, rfl⟩ := ho
          refine hb b' ?_
          have hi : i < xs.length := (List.getElem?_eq_some_iff.1 hx).1
          simp only [K.blocks, List.mem_cons, List.mem_flatMap, List.mem_range]
          exact .inr ⟨i, hi, hb'⟩
        | false => simp at ho; rw [(he i x hx).plain_blocks ho.2.2] at hb'; simp at hb'
      · cases o with
        | true => simpa using ho
        | false => simp at ho ⊢; exact ⟨hV _ ho.1, ho.2⟩
  | ptr e ih =>
    rintro d κ cs ⟨rfl, hp, b, o, arr, ty, fz, ke, rfl, hb', hh, hs, he⟩ hb hv hV
    exact ⟨rfl, hp, b, o, arr, ty, fz, ke, rfl, hV b hb', by rw [hv b hb']; exact hh, hs, ih he (fun b hm => by rw [he.plain_blocks hp] at hm; simp at hm) hv hV⟩
  | fn f c ih =>
    rintro d κ cs ⟨rfl, hp, caps, kc, rfl, hc⟩ hb hv hV
    exact ⟨rfl, hp, caps, kc, rfl, ih hc (fun b hm => by rw [hc.plain_blocks hp] at hm; simp at hm) hv hV⟩
  | gone => intro d κ cs hr _ _ _; exact hr

@[simp] theorem T.view_plain (t : T) : t.view.plain = true := by
  induction t <;> simp_all

@[simp] theorem T.view_view (t : T) : t.view.view = t.view := by
  induction t <;> simp_all

theorem T.view_of_plain {t : T} (h : t.plain = true) : t.view = t := by
  induction t <;> simp_all

@[simp] theorem T.view_k0 (t : T) : t.view.k0 = t.k0 := by
  induction t <;> simp_all

/-- own rows may be read -/
theorem Rep.toView {h : Heap} {V : Nat → Prop} {t : T} : ∀ {d κ cs}, Rep h V t d κ cs → ∀ {V' : Nat → Prop}, (∀ b, V b → V' b) → (∀ b, b ∈ κ.blocks → V' b) → Rep h V' t.view d t.k0 cs := by
  induction t with
  | unit => rintro d κ cs ⟨rfl, rfl, rfl⟩ V' _ _; exact ⟨rfl, rfl, rfl⟩
  | int k => rintro d κ cs ⟨n, rfl, rfl, rfl, hn⟩ V' _ _; exact ⟨n, rfl, rfl, rfl, hn⟩
  | bool => rintro d κ cs ⟨n, rfl, rfl, rfl⟩ V' _ _; exact ⟨n, rfl, rfl, rfl⟩
  | str => rintro d κ cs ⟨n, rfl, rfl, rfl, hn⟩ V' _ _; exact ⟨n, rfl, rfl, rfl, hn⟩
  | pair a b iha ihb =>
    rintro d κ cs ⟨d1, d2, κ1, κ2, c1, c2, rfl, rfl, rfl, h1, h2⟩ V' hV hb
    exact ⟨d1, d2, _, _, c1, c2, rfl, rfl, rfl, iha h1 hV (fun b hm => hb b (by simp [K.blocks, hm])), ihb h2 hV (fun b hm => hb b (by simp [K.blocks, hm]))⟩
  | lst o e ih =>
    rintro d κ cs ⟨xs, rfl, ⟨rfl, rfl, A, rfl, hA⟩ | ⟨b, off, c, arr, ty, fz, ks, rfl, hc, hh, hs, he, ho⟩⟩ V' hV hb
    · exact ⟨[], rfl, .inl ⟨rfl, rfl, A, rfl, fun h => by simp at h⟩⟩
    · refine ⟨xs, rfl, .inr ⟨b, off, c, arr, ty, fz, fun _ => e.k0, rfl, hc, hh, by simpa using hs, ?_, ?_⟩⟩
      · intro i x hx
        have := ih (he i x hx) hV (fun b' hb' => by
          cases o with
          | true =>
            simp at ho; obtain ⟨_, rfl⟩ := ho
            have hi : i < xs.length := (List.getElem?_eq_some_iff.1 hx).1
            refine hb b' ?_
            simp only [K.blocks, List.mem_cons, List.mem_flatMap, List.mem_range]
            exact .inr ⟨i, hi, hb'⟩
          | false => simp at ho; rw [(he i x hx).plain_blocks ho.2.2] at hb'; simp at hb')
        simpa using this
      · simp
        cases o with
        | true => simp at ho; obtain ⟨_, rfl⟩ := ho; exact hb b (by simp [K.blocks])
        | false => simp at ho; exact hV b ho.1
  | ptr e ih =>
    rintro d κ cs ⟨rfl, hp, b, o, arr, ty, fz, ke, rfl, hb', hh, hs, he⟩ V' hV hb
    exact ⟨rfl, hp, b, o, arr, ty, fz, ke, rfl, hV b hb', hh, hs, he.frame (fun b hm => rfl) (fun b _ => rfl) hV⟩
  | fn f c ih =>
    rintro d κ cs ⟨rfl, hp, caps, kc, rfl, hc⟩ V' hV hb
    exact ⟨rfl, hp, caps, kc, rfl, hc.frame (fun b hm => rfl) (fun b _ => rfl) hV⟩
  | gone => rintro d κ cs ⟨rfl, h⟩ V' _ _; exact ⟨rfl, h⟩

theorem Rep.blocks_lt {h : Heap} {V : Nat → Prop} {t : T} : ∀ {d κ cs}, Rep h V t d κ cs → ∀ b, b ∈ κ.blocks → b < h.size := by
  induction t with
  | unit => rintro d κ cs ⟨rfl, rfl, rfl⟩; simp [K.blocks]
  | int k => rintro d κ cs ⟨n, rfl, rfl, rfl, hn⟩; simp [K.blocks]
  | bool => rintro d κ cs ⟨n, rfl, rfl, rfl⟩; simp [K.blocks]
  | str => rintro d κ cs ⟨n, rfl, rfl, rfl, hn⟩; simp [K.blocks]
  | pair a b iha ihb =>
    rintro d κ cs ⟨d1, d2, κ1, κ2, c1, c2, rfl, rfl, rfl, h1, h2⟩ b' hb'
    simp [K.blocks] at hb'
    exact hb'.elim (iha h1 b') (ihb h2 b')
  | lst o e ih =>
    rintro d κ cs ⟨xs, rfl, ⟨rfl, rfl, A, rfl, hA⟩ | ⟨b, off, c, arr, ty, fz, ks, rfl, hc, hh, hs, he, ho⟩⟩ b' hb'
    · simp [K.blocks] at hb'
    · cases o with
      | false => simp at ho; obtain ⟨_, rfl, _⟩ := ho; simp [K.blocks] at hb'
      | true =>
        simp at ho; obtain ⟨_, rfl⟩ := ho
        simp only [K.blocks, List.mem_cons, List.mem_flatMap, List.mem_range] at hb'
        rcases hb' with rfl | ⟨i, hi, hm⟩
        · exact (Array.getElem?_eq_some_iff.1 hh).1
        · exact ih (he i _ (List.getElem?_eq_getElem hi)) b' hm
  | ptr e ih => rintro d κ cs ⟨rfl, _⟩; simp [K.blocks]
  | fn f c ih => rintro d κ cs ⟨rfl, _⟩; simp [K.blocks]
  | gone => rintro d κ cs ⟨rfl, _⟩; simp [K.blocks]

end Go.Own
