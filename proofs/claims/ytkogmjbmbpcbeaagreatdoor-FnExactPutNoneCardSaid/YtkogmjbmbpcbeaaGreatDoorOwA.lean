/- A layer over the walk: what lies in memory as plain data, each operation by what it does to data; part 1. -/
import Derived.Calls
set_option linter.unusedSectionVars false
set_option linter.unusedVariables false
set_option linter.unusedSimpArgs false
namespace Go.Own
inductive T where
 | unit
 | int (k : IntKind)
 | bool
 | str
 | pair (a b : T)
 | lst (own : Bool) (e : T)
 | ptr (e : T)
 | fn (f : FuncId) (c : T)
 | err
 | gone
 deriving DecidableEq, Inhabited
inductive D where
 | unit
 | int (n : Int)
 | bool (b : Bool)
 | str (s : List UInt8)
 | pair (a b : D)
 | lst (xs : List D)
 deriving Inhabited
def mkS (l : List UInt8) : ByteArray := ⟨l.toArray⟩
@[simp] theorem z4E (l : List UInt8) : (mkS l).size = l.length := by simp [mkS, ByteArray.size]
@[simp] theorem zKq (s : ByteArray) : mkS s.data.toList = s := by cases s; simp [mkS]
@[simp] theorem z2Y (l : List UInt8) : (mkS l).data.toList = l := by simp [mkS]
theorem z67 (a : ByteArray) : ∀ (n i : Nat) (r : List UInt8), n = a.size - i → ByteArray.toList.loop a i r = r.reverse ++ a.data.toList.drop i
 | 0, i, r, h => by
   have h2 : a.data.toList.length ≤ i := by rw [Array.length_toList]; change a.size ≤ i; omega
   unfold ByteArray.toList.loop
   rw [if_neg (by omega), List.drop_eq_nil_of_le h2]; simp
 | n + 1, i, r, h => by
   have hi : i < a.size := by omega
   have h2 : i < a.data.toList.length := by rw [Array.length_toList]; exact hi
   unfold ByteArray.toList.loop
   rw [if_pos hi, z67 a n (i + 1) _ (by omega), List.drop_eq_getElem_cons h2, List.reverse_cons, List.append_assoc]
   congr 2
   have : a.get! i = a.data.toList[i] := by
    cases a with
    | mk d =>
      show d[i]! = _
      have h3 : i < d.size := hi
      rw [getElem!_pos d i h3]; simp
   rw [this]; rfl
@[simp] theorem z5X (l : List UInt8) : (mkS l).toList = l := by
 unfold ByteArray.toList
 rw [z67 _ _ 0 [] rfl]; simp [mkS]
theorem zIY (a b : List UInt8) : mkS a ++ mkS b = mkS (a ++ b) := by ext1; simp [mkS]
inductive K where
 | leaf
 | pair (a b : K)
 | lst (b off c n : Nat) (ks : Nat → K)
 deriving Inhabited
@[simp] def T.size : T → Nat
 | .unit => 0
 | .pair a b => a.size + b.size
 | _ => 1
@[simp] def T.plain : T → Bool
 | .pair a b => a.plain && b.plain
 | .lst o e => !o && e.plain
 | _ => true
@[simp] def T.view : T → T
 | .pair a b => .pair a.view b.view
 | .lst _ e => .lst false e.view
 | t => t
@[simp] theorem T.view_size (t : T) : t.view.size = t.size := by
 induction t <;> simp_all
def K.blocks : K → List Nat
 | .leaf => []
 | .pair a b => a.blocks ++ b.blocks
 | .lst b _ _ n ks => b :: (List.range n).flatMap fun i => (ks i).blocks
@[simp] def T.k0 : T → K
 | .pair a b => .pair a.k0 b.k0
 | _ => .leaf
@[simp] theorem T.k0_blocks (t : T) : t.k0.blocks = [] := by
 induction t <;> simp_all [K.blocks]
def Free (fz : Nat × Nat) (n : Nat) : Prop := ∀ o, o < n → (decide (fz.1 ≤ o) && decide (o < fz.2)) = false
def T.mk : T → Nat
 | .pair _ _ => 1
 | _ => 0
theorem Free.low {fz : Nat × Nat} {n m : Nat} (h : Free fz (n + m)) : Free fz n := fun o ho => h o (Nat.lt_of_lt_of_le ho (Nat.le_add_right _ _))
abbrev Heap := Array Obj
def smax : Nat := 9223372036854775807
theorem z19 : smax = 9223372036854775807 := rfl
def zIp (n c : Nat) : Prop := n ≤ c ∧ n ≤ smax
def ErrV (b : Bool) (v : Value) : Prop := (b = false ∧ v = .nilIface) ∨ (b = true ∧ ∃ t p, v = .iface t p)
def Rep (h : Heap) (V : Nat → Prop) : T → D → K → List Value → Prop
 | .unit, d, κ, cs => d = .unit ∧ κ = .leaf ∧ cs = []
 | .int k, d, κ, cs => ∃ n, d = .int n ∧ κ = .leaf ∧ cs = [.int k n] ∧ k.min ≤ n ∧ n ≤ k.max
 | .bool, d, κ, cs => ∃ b, d = .bool b ∧ κ = .leaf ∧ cs = [.bool b]
 | .str, d, κ, cs => ∃ s, d = .str s ∧ κ = .leaf ∧ cs = [.string (mkS s)] ∧ s.length ≤ smax
 | .pair t u, d, κ, cs => ∃ d1 d2 κ1 κ2 c1 c2, d = .pair d1 d2 ∧ κ = .pair κ1 κ2 ∧ cs = c1 ++ c2 ∧ Rep h V t d1 κ1 c1 ∧ Rep h V u d2 κ2 c2
 | .lst o e, d, κ, cs => ∃ xs, d = .lst xs ∧
    ((xs = [] ∧ κ = .leaf ∧ ∃ A : Option Addr, cs = [.slice A 0 0] ∧ (o = true → A = none)) ∨
     ∃ b off c arr ty fz ks, cs = [.slice (some ⟨b, off, none⟩) xs.length c] ∧ zIp xs.length c ∧ h[b]? = some (.cells arr ty fz) ∧ off + c * e.size ≤ arr.size ∧
      (∀ i x, xs[i]? = some x → Rep h V e x (ks i) ((arr.toList.drop (off + i * e.size)).take e.size)) ∧
      (if o = true then Free fz (arr.size + e.mk) ∧ κ = .lst b off c xs.length ks else V b ∧ κ = .leaf ∧ e.plain = true))
 | .ptr e, d, κ, cs => κ = .leaf ∧ e.plain = true ∧ ∃ b o arr ty fz ke, cs = [.pointer (some ⟨b, o, none⟩)] ∧ V b ∧ h[b]? = some (.cells arr ty fz) ∧ o + e.size ≤ arr.size ∧
    Rep h V e d ke ((arr.toList.drop o).take e.size)
 | .fn f c, d, κ, cs => κ = .leaf ∧ c.plain = true ∧ ∃ caps kc, cs = [.func (.func f) #[] caps] ∧ Rep h V c d kc caps.toList
 | .err, d, κ, cs => ∃ b, d = .bool b ∧ κ = .leaf ∧ ∃ v, cs = [v] ∧ ErrV b v
 | .gone, _, κ, cs => κ = .leaf ∧ cs.length = 1
theorem Rep.length {h : Heap} {V : Nat → Prop} {t : T} : ∀ {d κ cs}, Rep h V t d κ cs → cs.length = t.size := by
 induction t with
 | unit => rintro d κ cs ⟨_, _, rfl⟩; rfl
 | int k => rintro d κ cs ⟨_, _, _, rfl, _⟩; rfl
 | bool => rintro d κ cs ⟨_, _, _, rfl⟩; rfl
 | str => rintro d κ cs ⟨_, _, _, rfl, _⟩; rfl
 | pair a b iha ihb =>
   rintro d κ cs ⟨d1, d2, κ1, κ2, c1, c2, _, _, rfl, h1, h2⟩
   simp [iha h1, ihb h2]
 | lst o e ih =>
   rintro d κ cs ⟨xs, _, ⟨_, _, A, rfl, _⟩ | ⟨b, off, c, arr, ty, fz, ks, rfl, _⟩⟩ <;> rfl
 | ptr e ih => rintro d κ cs ⟨_, _, b, o, arr, ty, fz, ke, rfl, _⟩; rfl
 | fn f c ih => rintro d κ cs ⟨_, _, caps, kc, rfl, _⟩; rfl
 | err => rintro d κ cs ⟨_, _, _, v, rfl, _⟩; rfl
 | gone => rintro d κ cs ⟨_, h⟩; exact h
theorem Rep.plain_leaf {h : Heap} {V : Nat → Prop} {t : T} : ∀ {d κ cs}, t.plain = true → Rep h V t d κ cs → κ = t.k0 := by
 induction t with
 | unit => rintro d κ cs _ ⟨_, rfl, _⟩; rfl
 | int k => rintro d κ cs _ ⟨_, _, rfl, _⟩; rfl
 | bool => rintro d κ cs _ ⟨_, _, rfl, _⟩; rfl
 | str => rintro d κ cs _ ⟨_, _, rfl, _⟩; rfl
 | pair a b iha ihb =>
   rintro d κ cs hp ⟨d1, d2, κ1, κ2, c1, c2, _, rfl, _, h1, h2⟩
   simp at hp
   simp [iha hp.1 h1, ihb hp.2 h2]
 | lst o e ih =>
   rintro d κ cs hp ⟨xs, _, ⟨_, rfl, _⟩ | ⟨b, off, c, arr, ty, fz, ks, _, _, _, _, _, ho⟩⟩
   ·rfl
   ·simp at hp; simp [hp.1] at ho; exact ho.2.1
 | ptr e ih => rintro d κ cs _ ⟨rfl, _⟩; rfl
 | fn f c ih => rintro d κ cs _ ⟨rfl, _⟩; rfl
 | err => rintro d κ cs _ ⟨_, _, rfl, _⟩; rfl
 | gone => rintro d κ cs _ ⟨rfl, _⟩; rfl
theorem Rep.plain_blocks {h : Heap} {V : Nat → Prop} {t : T} {d κ cs} (hp : t.plain = true) (hr : Rep h V t d κ cs) : κ.blocks = [] := by
 rw [hr.plain_leaf hp]; simp
theorem Rep.frame {h h' : Heap} {V V' : Nat → Prop} {t : T} : ∀ {d κ cs}, Rep h V t d κ cs → (∀ b, b ∈ κ.blocks → h'[b]? = h[b]?) → (∀ b, V b → h'[b]? = h[b]?) →
 (∀ b, V b → V' b) → Rep h' V' t d κ cs := by
 induction t with
 | unit => intro d κ cs hr _ _ _; exact hr
 | int k => intro d κ cs hr _ _ _; exact hr
 | bool => intro d κ cs hr _ _ _; exact hr
 | str => intro d κ cs hr _ _ _; exact hr
 | pair a b iha ihb =>
   rintro d κ cs ⟨d1, d2, κ1, κ2, c1, c2, rfl, rfl, rfl, h1, h2⟩ hb hv hV
   exact ⟨d1, d2, κ1, κ2, c1, c2, rfl, rfl, rfl, iha h1 (fun b hm => hb b (by simp [K.blocks, hm])) hv hV, ihb h2 (fun b hm => hb b (by simp [K.blocks, hm])) hv hV⟩
 | lst o e ih =>
   rintro d κ cs ⟨xs, rfl, ⟨rfl, rfl, A, rfl, hA⟩ | ⟨b, off, c, arr, ty, fz, ks, rfl, hc, hh, hs, he, ho⟩⟩ hb hv hV
   ·exact ⟨[], rfl, .inl ⟨rfl, rfl, A, rfl, hA⟩⟩
   ·refine ⟨xs, rfl, .inr ⟨b, off, c, arr, ty, fz, ks, rfl, hc, ?_, hs, ?_, ?_⟩⟩
    ·cases o with
     | true => simp at ho; obtain ⟨_, rfl⟩ := ho; rw [hb b (by simp [K.blocks])]; exact hh
     | false => simp at ho; rw [hv b ho.1]; exact hh
    ·intro i x hx
     refine ih (he i x hx) ?_ hv hV
     intro b' hb'
     cases o with
     | true =>
       simp at ho; obtain ⟨_, rfl⟩ := ho
       refine hb b' ?_
       have hi : i < xs.length := (List.getElem?_eq_some_iff.1 hx).1
       simp only [K.blocks, List.mem_cons, List.mem_flatMap, List.mem_range]
       exact .inr ⟨i, hi, hb'⟩
     | false => simp at ho; rw [(he i x hx).plain_blocks ho.2.2] at hb'; simp at hb'
    ·cases o with
     | true => simpa using ho
     | false => simp at ho ⊢; exact ⟨hV _ ho.1, ho.2⟩
 | ptr e ih =>
   rintro d κ cs ⟨rfl, hp, b, o, arr, ty, fz, ke, rfl, hb', hh, hs, he⟩ hb hv hV
   exact ⟨rfl, hp, b, o, arr, ty, fz, ke, rfl, hV b hb', by rw [hv b hb']; exact hh, hs, ih he (fun b hm => by rw [he.plain_blocks hp] at hm; simp at hm) hv hV⟩
 | fn f c ih =>
   rintro d κ cs ⟨rfl, hp, caps, kc, rfl, hc⟩ hb hv hV
   exact ⟨rfl, hp, caps, kc, rfl, ih hc (fun b hm => by rw [hc.plain_blocks hp] at hm; simp at hm) hv hV⟩
 | err => intro d κ cs hr _ _ _; exact hr
 | gone => intro d κ cs hr _ _ _; exact hr
@[simp] theorem T.view_plain (t : T) : t.view.plain = true := by
 induction t <;> simp_all
@[simp] theorem T.view_view (t : T) : t.view.view = t.view := by
 induction t <;> simp_all
theorem T.view_of_plain {t : T} (h : t.plain = true) : t.view = t := by
 induction t <;> simp_all
@[simp] theorem T.view_k0 (t : T) : t.view.k0 = t.k0 := by
 induction t <;> simp_all
theorem Rep.toView {h : Heap} {V : Nat → Prop} {t : T} : ∀ {d κ cs}, Rep h V t d κ cs → ∀ {V' : Nat → Prop}, (∀ b, V b → V' b) → (∀ b, b ∈ κ.blocks → V' b) → Rep h V' t.view d t.k0 cs := by
 induction t with
 | unit => rintro d κ cs ⟨rfl, rfl, rfl⟩ V' _ _; exact ⟨rfl, rfl, rfl⟩
 | int k => rintro d κ cs ⟨n, rfl, rfl, rfl, hn⟩ V' _ _; exact ⟨n, rfl, rfl, rfl, hn⟩
 | bool => rintro d κ cs ⟨n, rfl, rfl, rfl⟩ V' _ _; exact ⟨n, rfl, rfl, rfl⟩
 | str => rintro d κ cs ⟨n, rfl, rfl, rfl, hn⟩ V' _ _; exact ⟨n, rfl, rfl, rfl, hn⟩
 | pair a b iha ihb =>
   rintro d κ cs ⟨d1, d2, κ1, κ2, c1, c2, rfl, rfl, rfl, h1, h2⟩ V' hV hb
   exact ⟨d1, d2, _, _, c1, c2, rfl, rfl, rfl, iha h1 hV (fun b hm => hb b (by simp [K.blocks, hm])), ihb h2 hV (fun b hm => hb b (by simp [K.blocks, hm]))⟩
 | lst o e ih =>
   rintro d κ cs ⟨xs, rfl, ⟨rfl, rfl, A, rfl, hA⟩ | ⟨b, off, c, arr, ty, fz, ks, rfl, hc, hh, hs, he, ho⟩⟩ V' hV hb
   ·exact ⟨[], rfl, .inl ⟨rfl, rfl, A, rfl, fun h => by simp at h⟩⟩
   ·refine ⟨xs, rfl, .inr ⟨b, off, c, arr, ty, fz, fun _ => e.k0, rfl, hc, hh, by simpa using hs, ?_, ?_⟩⟩
    ·intro i x hx
     have := ih (he i x hx) hV (fun b' hb' => by
      cases o with
      | true =>
        simp at ho; obtain ⟨_, rfl⟩ := ho
        have hi : i < xs.length := (List.getElem?_eq_some_iff.1 hx).1
        refine hb b' ?_
        simp only [K.blocks, List.mem_cons, List.mem_flatMap, List.mem_range]
        exact .inr ⟨i, hi, hb'⟩
      | false => simp at ho; rw [(he i x hx).plain_blocks ho.2.2] at hb'; simp at hb')
     simpa using this
    ·simp
     cases o with
     | true => simp at ho; obtain ⟨_, rfl⟩ := ho; exact hb b (by simp [K.blocks])
     | false => simp at ho; exact hV b ho.1
 | ptr e ih =>
   rintro d κ cs ⟨rfl, hp, b, o, arr, ty, fz, ke, rfl, hb', hh, hs, he⟩ V' hV hb
   exact ⟨rfl, hp, b, o, arr, ty, fz, ke, rfl, hV b hb', hh, hs, he.frame (fun b hm => rfl) (fun b _ => rfl) hV⟩
 | fn f c ih =>
   rintro d κ cs ⟨rfl, hp, caps, kc, rfl, hc⟩ V' hV hb
   exact ⟨rfl, hp, caps, kc, rfl, hc.frame (fun b hm => rfl) (fun b _ => rfl) hV⟩
 | err => rintro d κ cs ⟨b, rfl, rfl, h⟩ V' _ _; exact ⟨b, rfl, rfl, h⟩
 | gone => rintro d κ cs ⟨rfl, h⟩ V' _ _; exact ⟨rfl, h⟩
theorem Rep.blocks_lt {h : Heap} {V : Nat → Prop} {t : T} : ∀ {d κ cs}, Rep h V t d κ cs → ∀ b, b ∈ κ.blocks → b < h.size := by
 induction t with
 | unit => rintro d κ cs ⟨rfl, rfl, rfl⟩; simp [K.blocks]
 | int k => rintro d κ cs ⟨n, rfl, rfl, rfl, hn⟩; simp [K.blocks]
 | bool => rintro d κ cs ⟨n, rfl, rfl, rfl⟩; simp [K.blocks]
 | str => rintro d κ cs ⟨n, rfl, rfl, rfl, hn⟩; simp [K.blocks]
 | pair a b iha ihb =>
   rintro d κ cs ⟨d1, d2, κ1, κ2, c1, c2, rfl, rfl, rfl, h1, h2⟩ b' hb'
   simp [K.blocks] at hb'
   exact hb'.elim (iha h1 b') (ihb h2 b')
 | lst o e ih =>
   rintro d κ cs ⟨xs, rfl, ⟨rfl, rfl, A, rfl, hA⟩ | ⟨b, off, c, arr, ty, fz, ks, rfl, hc, hh, hs, he, ho⟩⟩ b' hb'
   ·simp [K.blocks] at hb'
   ·cases o with
    | false => simp at ho; obtain ⟨_, rfl, _⟩ := ho; simp [K.blocks] at hb'
    | true =>
      simp at ho; obtain ⟨_, rfl⟩ := ho
      simp only [K.blocks, List.mem_cons, List.mem_flatMap, List.mem_range] at hb'
      rcases hb' with rfl | ⟨i, hi, hm⟩
      ·exact (Array.getElem?_eq_some_iff.1 hh).1
      ·exact ih (he i _ (List.getElem?_eq_getElem hi)) b' hm
 | ptr e ih => rintro d κ cs ⟨rfl, _⟩; simp [K.blocks]
 | fn f c ih => rintro d κ cs ⟨rfl, _⟩; simp [K.blocks]
 | err => rintro d κ cs ⟨_, _, rfl, _⟩; simp [K.blocks]
 | gone => rintro d κ cs ⟨rfl, _⟩; simp [K.blocks]
end Go.Own
namespace Go.Own
def spl (l : List Value) (o : Nat) (cs : List Value) : List Value := l.take o ++ (cs ++ l.drop (o + cs.length))
theorem z4k {l : List Value} {o : Nat} {cs : List Value} (h : o + cs.length ≤ l.length) : (spl l o cs).length = l.length := by
 simp [spl]; omega
theorem z4x {l : List Value} {o : Nat} {cs : List Value} (h : o + cs.length ≤ l.length) (k : Nat) :
 (spl l o cs)[k]? = if k < o then l[k]? else if k < o + cs.length then cs[k - o]? else l[k]? := by
 unfold spl
 have ho : (l.take o).length = o := by simp; omega
 by_cases h1 : k < o
 ·rw [List.getElem?_append_left (by omega), List.getElem?_take, if_pos h1, if_pos h1]
 ·rw [List.getElem?_append_right (by omega), ho, if_neg h1]
  by_cases h2 : k < o + cs.length
  ·rw [List.getElem?_append_left (by omega), if_pos h2]
  ·rw [List.getElem?_append_right (by omega), if_neg h2, List.getElem?_drop]
   congr 1; omega
theorem z0Z (l : List Value) (a m k : Nat) : ((l.drop a).take m)[k]? = if k < m then l[a + k]? else none := by
 rw [List.getElem?_take]; split
 ·rw [List.getElem?_drop]
 ·rfl
theorem zHw {l : List Value} {o : Nat} {cs : List Value} (h : o + cs.length ≤ l.length) : ((spl l o cs).drop o).take cs.length = cs := by
 apply List.ext_getElem?
 intro k
 rw [z0Z, z4x h]
 by_cases hk : k < cs.length
 ·rw [if_pos hk, if_neg (by omega), if_pos (by omega)]; congr 1; omega
 ·rw [if_neg hk, List.getElem?_eq_none (by omega)]
theorem zL4 {l : List Value} {o : Nat} {cs : List Value} (h : o + cs.length ≤ l.length) (hc : (l.drop o).take cs.length = cs) : spl l o cs = l := by
 apply List.ext_getElem?
 intro k
 rw [z4x h]
 by_cases h1 : k < o
 ·rw [if_pos h1]
 ·rw [if_neg h1]
  by_cases h2 : k < o + cs.length
  ·rw [if_pos h2]
   have := z0Z l o cs.length (k - o)
   rw [hc, if_pos (by omega)] at this
   rw [this]; congr 1; omega
  ·rw [if_neg h2]
theorem zKB {l : List Value} {o : Nat} {cs : List Value} (h : o + cs.length ≤ l.length) {a m : Nat} (hd : a + m ≤ o ∨ o + cs.length ≤ a) :
 ((spl l o cs).drop a).take m = (l.drop a).take m := by
 apply List.ext_getElem?
 intro k
 rw [z0Z, z0Z]
 split
 ·rw [z4x h]
  rcases hd with hd | hd
  ·rw [if_pos (by omega)]
  ·rw [if_neg (by omega), if_neg (by omega)]
 ·rfl
theorem zM4 {l : List Value} {o k : Nat} {cs c2 : List Value} (h : o + cs.length ≤ l.length) (hk : k + c2.length ≤ cs.length) (hc : (l.drop o).take cs.length = cs) :
 spl l (o + k) c2 = spl l o (spl cs k c2) := by
 have hl := z4k hk
 apply List.ext_getElem?
 intro i
 rw [z4x (show o + k + c2.length ≤ l.length by omega), z4x (l := l) (show o + (spl cs k c2).length ≤ l.length by omega), z4x hk, hl]
 by_cases h1 : i < o
 ·simp [h1, show i < o + k by omega]
 ·by_cases h2 : i < o + cs.length
  ·have hg := z0Z l o cs.length (i - o)
   rw [hc, if_pos (by omega), show o + (i - o) = i from by omega] at hg
   by_cases h3 : i < o + k
   ·rw [if_pos h3, if_neg h1, if_pos h2, if_pos (by omega), hg]
   ·by_cases h4 : i < o + k + c2.length
    ·rw [if_neg h3, if_pos h4, if_neg h1, if_pos h2, if_neg (by omega), if_pos (by omega)]; congr 1; omega
    ·rw [if_neg h3, if_neg h4, if_neg h1, if_pos h2, if_neg (by omega), if_neg (by omega), hg]
  ·rw [if_neg (by omega), if_neg (by omega), if_neg h1, if_neg h2]
inductive Step where
 | f (j : Nat)
 | i (n : Nat)
 deriving DecidableEq
abbrev Path := List Step
@[simp] def T.fld : T → Nat → T
 | .pair a _, 0 => a
 | .pair _ b, j + 1 => b.fld j
 | _, _ => .unit
@[simp] def T.has : T → Nat → Bool
 | .pair _ _, 0 => true
 | .pair _ b, j + 1 => b.has j
 | _, _ => false
@[simp] def T.off : T → Nat → Nat
 | .pair a b, j + 1 => a.size + b.off j
 | _, _ => 0
@[simp] def T.setFld : T → Nat → T → T
 | .pair _ b, 0, x => .pair x b
 | .pair a b, j + 1, x => .pair a (b.setFld j x)
 | t, _, _ => t
theorem T.setFld_self : ∀ (j : Nat) {t : T}, t.setFld j (t.fld j) = t := by
 intro j
 induction j with
 | zero => intro t; cases t <;> rfl
 | succ j ih => intro t; cases t <;> simp [ih]
def T.elem : T → T
 | .lst _ e => e
 | _ => .unit
def T.ok : T → Bool
 | .gone => false
 | _ => true
def T.lsts : T → Bool
 | .lst _ _ => true
 | _ => false
def T.own : T → Bool
 | .lst o _ => o
 | _ => false
@[simp] theorem T.ok_unit  : (T.unit ).ok = true := rfl
@[simp] theorem T.ok_int (k : IntKind) : (T.int k).ok = true := rfl
@[simp] theorem T.ok_bool  : (T.bool ).ok = true := rfl
@[simp] theorem T.ok_str  : (T.str ).ok = true := rfl
@[simp] theorem T.ok_pair (a b : T) : (T.pair a b).ok = true := rfl
@[simp] theorem T.ok_lst (o : Bool) (e : T) : (T.lst o e).ok = true := rfl
@[simp] theorem T.ok_ptr (e : T) : (T.ptr e).ok = true := rfl
@[simp] theorem T.ok_fn (f : FuncId) (c : T) : (T.fn f c).ok = true := rfl
@[simp] theorem T.ok_err  : (T.err ).ok = true := rfl
@[simp] theorem T.ok_gone  : (T.gone ).ok = false := rfl
@[simp] theorem T.lsts_unit  : (T.unit ).lsts = false := rfl
@[simp] theorem T.lsts_int (k : IntKind) : (T.int k).lsts = false := rfl
@[simp] theorem T.lsts_bool  : (T.bool ).lsts = false := rfl
@[simp] theorem T.lsts_str  : (T.str ).lsts = false := rfl
@[simp] theorem T.lsts_pair (a b : T) : (T.pair a b).lsts = false := rfl
@[simp] theorem T.lsts_lst (o : Bool) (e : T) : (T.lst o e).lsts = true := rfl
@[simp] theorem T.lsts_ptr (e : T) : (T.ptr e).lsts = false := rfl
@[simp] theorem T.lsts_fn (f : FuncId) (c : T) : (T.fn f c).lsts = false := rfl
@[simp] theorem T.lsts_err  : (T.err ).lsts = false := rfl
@[simp] theorem T.lsts_gone  : (T.gone ).lsts = false := rfl
@[simp] theorem T.elem_unit  : (T.unit ).elem = T.unit := rfl
@[simp] theorem T.elem_int (k : IntKind) : (T.int k).elem = T.unit := rfl
@[simp] theorem T.elem_bool  : (T.bool ).elem = T.unit := rfl
@[simp] theorem T.elem_str  : (T.str ).elem = T.unit := rfl
@[simp] theorem T.elem_pair (a b : T) : (T.pair a b).elem = T.unit := rfl
@[simp] theorem T.elem_lst (o : Bool) (e : T) : (T.lst o e).elem = e := rfl
@[simp] theorem T.elem_ptr (e : T) : (T.ptr e).elem = T.unit := rfl
@[simp] theorem T.elem_fn (f : FuncId) (c : T) : (T.fn f c).elem = T.unit := rfl
@[simp] theorem T.elem_err  : (T.err ).elem = T.unit := rfl
@[simp] theorem T.elem_gone  : (T.gone ).elem = T.unit := rfl
@[simp] theorem T.own_unit  : (T.unit ).own = false := rfl
@[simp] theorem T.own_int (k : IntKind) : (T.int k).own = false := rfl
@[simp] theorem T.own_bool  : (T.bool ).own = false := rfl
@[simp] theorem T.own_str  : (T.str ).own = false := rfl
@[simp] theorem T.own_pair (a b : T) : (T.pair a b).own = false := rfl
@[simp] theorem T.own_lst (o : Bool) (e : T) : (T.lst o e).own = o := rfl
@[simp] theorem T.own_ptr (e : T) : (T.ptr e).own = false := rfl
@[simp] theorem T.own_fn (f : FuncId) (c : T) : (T.fn f c).own = false := rfl
@[simp] theorem T.own_err  : (T.err ).own = false := rfl
@[simp] theorem T.own_gone  : (T.gone ).own = false := rfl
@[simp] def T.sound : T → Bool
 | .gone => false
 | .pair a b => a.sound && b.sound
 | _ => true
@[simp] def T.at : T → Path → T
 | t, [] => t
 | t, .f j :: p => (t.fld j).at p
 | t, .i _ :: p => t.elem.at p
@[simp] def T.set : T → Path → T → T
 | _, [], x => x
 | t, .f j :: p, x => t.setFld j ((t.fld j).set p x)
 | t, _, _ => t
def D.fst : D → D
 | .pair a _ => a
 | _ => .unit
def D.snd : D → D
 | .pair _ b => b
 | _ => .unit
@[simp] theorem D.fst_pair (a b : D) : (D.pair a b).fst = a := rfl
@[simp] theorem D.snd_pair (a b : D) : (D.pair a b).snd = b := rfl
@[simp] def D.fld : D → Nat → D
 | d, 0 => d.fst
 | d, j + 1 => d.snd.fld j
@[simp] def D.setFld : D → Nat → D → D
 | d, 0, x => .pair x d.snd
 | d, j + 1, x => .pair d.fst (d.snd.setFld j x)
def D.l : D → List D
 | .lst xs => xs
 | _ => []
@[simp] theorem D.l_lst (xs : List D) : (D.lst xs).l = xs := rfl
@[simp] def D.nth (d : D) (n : Nat) : D := d.l.getD n .unit
@[simp] def D.get : D → Path → D
 | d, [] => d
 | d, .f j :: p => (d.fld j).get p
 | d, .i n :: p => (d.nth n).get p
@[simp] def D.set : D → Path → D → D
 | _, [], x => x
 | d, .f j :: p, x => d.setFld j ((d.fld j).set p x)
 | d, .i n :: p, x => .lst (d.l.set n ((d.nth n).set p x))
def K.fld : K → Nat → K
 | .pair a _, 0 => a
 | .pair _ b, j + 1 => b.fld j
 | _, _ => .leaf
def K.setFld : K → Nat → K → K
 | .pair _ b, 0, x => .pair x b
 | .pair a b, j + 1, x => .pair a (b.setFld j x)
 | d, _, _ => d
def K.nth : K → Nat → K
 | .lst _ _ _ _ ks, n => ks n
 | _, _ => .leaf
def K.get : K → Path → K
 | κ, [] => κ
 | κ, .f j :: p => (κ.fld j).get p
 | κ, .i n :: p => (κ.nth n).get p
def K.set : K → Path → K → K
 | _, [], x => x
 | κ, .f j :: p, x => κ.setFld j ((κ.fld j).set p x)
 | .lst b off c m ks, .i n :: p, x => .lst b off c m fun i => if i = n then (ks n).set p x else ks i
 | κ, .i _ :: _, _ => κ
@[simp] def Ok : T → D → Path → Prop
 | _, _, [] => True
 | t, d, .f j :: p => t.has j = true ∧ Ok (t.fld j) (d.fld j) p
 | t, d, .i n :: p => t.own = true ∧ n < d.l.length ∧ Ok t.elem (d.nth n) p
abbrev Pt := Option (Nat × Nat)
def loc : T → K → Pt → Path → Pt
 | _, _, A, [] => A
 | t, κ, A, .f j :: p => loc (t.fld j) (κ.fld j) (A.map fun a => (a.1, a.2 + t.off j)) p
 | t, .lst b off _ _ ks, _, .i n :: p => loc t.elem (ks n) (some (b, off + n * t.elem.size)) p
 | _, _, _, .i _ :: _ => none
def Mem (h : Heap) (b o : Nat) (cs : List Value) : Prop :=
 ∃ arr ty fz, h[b]? = some (.cells arr ty fz) ∧ Free fz arr.size ∧ o + cs.length ≤ arr.size ∧ (arr.toList.drop o).take cs.length = cs
def MemO (h : Heap) : Pt → List Value → Prop
 | none, _ => True
 | some (b, o), cs => Mem h b o cs
def zCp (h h' : Heap) (b o : Nat) (cs : List Value) : Prop :=
 ∃ arr ty fz, h[b]? = some (.cells arr ty fz) ∧ o + cs.length ≤ arr.size ∧ h'[b]? = some (.cells (spl arr.toList o cs).toArray ty fz)
theorem zCp.mem {h h' : Heap} {b o : Nat} {cs : List Value} (hw : zCp h h' b o cs) (hf : ∀ arr ty fz, h[b]? = some (.cells arr ty fz) → Free fz arr.size) : Mem h' b o cs := by
 obtain ⟨arr, ty, fz, h1, h2, h3⟩ := hw
 have hl := z4k (l := arr.toList) (o := o) (cs := cs) (by simpa using h2)
 refine ⟨_, ty, fz, h3, ?_, ?_, ?_⟩
 ·have := hf _ _ _ h1
  intro o' ho'
  refine this o' ?_
  simp at ho' hl; omega
 ·simp at hl ⊢; omega
 ·exact zHw (by simpa using h2)
theorem zCp.same {h h' : Heap} {b o : Nat} {cs : List Value} (hm : Mem h b o cs) (hs : h'[b]? = h[b]?) : zCp h h' b o cs := by
 obtain ⟨arr, ty, fz, h1, h2, h3, h4⟩ := hm
 refine ⟨arr, ty, fz, h1, h3, ?_⟩
 rw [hs, h1, zL4 (by simpa using h3) h4]
theorem Rep.fld {h : Heap} {V : Nat → Prop} : ∀ (j : Nat) {t d κ cs}, Rep h V t d κ cs → t.has j = true →
 ∃ c1 cj c2, cs = c1 ++ (cj ++ c2) ∧ c1.length = t.off j ∧ Rep h V (t.fld j) (d.fld j) (κ.fld j) cj ∧ (∀ b, b ∈ (κ.fld j).blocks → b ∈ κ.blocks) ∧ (κ.blocks.Nodup → (κ.fld j).blocks.Nodup) ∧
  ∀ {h' V' t' d' κ' cj'}, Rep h' V' t' d' κ' cj' → κ.blocks.Nodup → (∀ b, b ∈ κ.blocks → b ∉ (κ.fld j).blocks → h'[b]? = h[b]?) → (∀ b, V b → h'[b]? = h[b]?) → (∀ b, V b → V' b) →
   Rep h' V' (t.setFld j t') (d.setFld j d') (κ.setFld j κ') (c1 ++ (cj' ++ c2)) ∧ ((∀ b, b ∈ κ'.blocks → b ∉ κ.blocks ∨ b ∈ (κ.fld j).blocks) → κ'.blocks.Nodup → (κ.setFld j κ').blocks.Nodup) ∧
    ∀ b, b ∈ (κ.setFld j κ').blocks → b ∈ κ'.blocks ∨ (b ∈ κ.blocks ∧ b ∉ (κ.fld j).blocks) := by
 intro j
 induction j with
 | zero =>
   rintro t d κ cs hr ht
   cases t <;> simp at ht
   obtain ⟨d1, d2, κ1, κ2, c1, c2, rfl, rfl, rfl, h1, h2⟩ := hr
   refine ⟨[], c1, c2, rfl, rfl, h1, ?_, ?_, ?_⟩
   ·intro b hb; simp [K.blocks]; exact .inl hb
   ·intro hn; simp only [K.blocks] at hn; exact (List.nodup_append.1 hn).1
   ·intro h' V' t' d' κ' cj' hr' hnd hb hv hV
    simp only [K.blocks, List.nodup_append] at hnd
    refine ⟨⟨d', d2, κ', κ2, cj', c2, rfl, rfl, rfl, hr', h2.frame ?_ hv hV⟩, ?_, ?_⟩
    ·intro b hm
     exact hb b (by simp [K.blocks, hm]) (fun hm' => hnd.2.2 b hm' b hm rfl)
    ·intro hd hn
     simp only [K.setFld, K.blocks, List.nodup_append]
     refine ⟨hn, hnd.2.1, ?_⟩
     rintro a ha b hb rfl
     rcases hd a ha with h | h
     ·exact h (by simp [K.blocks, hb])
     ·exact hnd.2.2 a h a hb rfl
    ·intro b hb
     simp only [K.setFld, K.blocks, List.mem_append] at hb
     rcases hb with hb | hb
     ·exact .inl hb
     ·exact .inr ⟨by simp [K.blocks, hb], fun hm' => hnd.2.2 b hm' b hb rfl⟩
 | succ j ih =>
   rintro t d κ cs hr ht
   cases t <;> simp at ht
   obtain ⟨d1, d2, κ1, κ2, c1, c2, rfl, rfl, rfl, h1, h2⟩ := hr
   obtain ⟨e1, ej, e2, rfl, hlen, hj, hin, hnd0, hre⟩ := ih h2 ht
   refine ⟨c1 ++ e1, ej, e2, by simp, by simp [h1.length, hlen], hj, ?_, ?_, ?_⟩
   ·intro b hb; simp [K.blocks]; exact .inr (hin b hb)
   ·intro hn; simp only [K.blocks] at hn; exact hnd0 (List.nodup_append.1 hn).2.1
   ·intro h' V' t' d' κ' cj' hr' hnd hb hv hV
    simp only [K.blocks, List.nodup_append] at hnd
    obtain ⟨hR, hN, hM⟩ := hre hr' hnd.2.1 (fun b hm hm' => hb b (by simp [K.blocks, hm]) hm') hv hV
    refine ⟨⟨d1, d2.setFld j d', κ1, κ2.setFld j κ', c1, e1 ++ (cj' ++ e2), rfl, rfl, by simp, h1.frame ?_ hv hV, hR⟩, ?_, ?_⟩
    ·intro b hm
     exact hb b (by simp [K.blocks, hm]) (fun hm' => hnd.2.2 b hm b (hin b hm') rfl)
    ·intro hd hn
     simp only [K.setFld, K.blocks, List.nodup_append]
     refine ⟨hnd.1, hN (fun b hb' => ?_) hn, ?_⟩
     ·rcases hd b hb' with h | h
      ·exact .inl fun hm => h (by simp [K.blocks, hm])
      ·exact .inr h
     ·rintro a ha b hb' rfl
      rcases hM a hb' with h | ⟨h, _⟩
      ·rcases hd a h with h' | h'
       ·exact h' (by simp [K.blocks, ha])
       ·exact hnd.2.2 a ha a (hin a h') rfl
      ·exact hnd.2.2 a ha a h rfl
    ·intro b hb'
     simp only [K.setFld, K.blocks, List.mem_append] at hb'
     rcases hb' with hb' | hb'
     ·exact .inr ⟨by simp [K.blocks, hb'], fun hm' => hnd.2.2 b hb' b (hin b hm') rfl⟩
     ·rcases hM b hb' with h | ⟨h, h2⟩
      ·exact .inl h
      ·exact .inr ⟨by simp [K.blocks, h], h2⟩
end Go.Own
namespace Go.Own
theorem K.mem_nth {b off c m : Nat} {ks : Nat → K} {n : Nat} (hn : n < m) {x : Nat} (hx : x ∈ (ks n).blocks) : x ∈ (K.lst b off c m ks).blocks := by
 simp only [K.blocks, List.mem_cons, List.mem_flatMap, List.mem_range]
 exact .inr ⟨n, hn, hx⟩
theorem z2s {f : Nat → List Nat} : ∀ {m : Nat}, ((List.range m).flatMap f).Nodup ↔ (∀ i, i < m → (f i).Nodup) ∧ ∀ i j, i < j → j < m → ∀ x, x ∈ f i → x ∉ f j := by
 intro m
 induction m with
 | zero => simp
 | succ m ih =>
   rw [List.range_succ, List.flatMap_append, List.nodup_append, ih]
   simp only [List.flatMap_cons, List.flatMap_nil, List.append_nil, List.mem_flatMap, List.mem_range]
   constructor
   ·rintro ⟨⟨h1, h2⟩, h3, h4⟩
    refine ⟨fun i hi => ?_, fun i j hij hj x hx hx' => ?_⟩
    ·rcases Nat.lt_succ_iff_lt_or_eq.1 hi with h | rfl
     ·exact h1 i h
     ·exact h3
    ·rcases Nat.lt_succ_iff_lt_or_eq.1 hj with h | rfl
     ·exact h2 i j hij h x hx hx'
     ·exact h4 x ⟨i, hij, hx⟩ x hx' rfl
   ·rintro ⟨h1, h2⟩
    refine ⟨⟨fun i hi => h1 i (by omega), fun i j hij hj => h2 i j hij (by omega)⟩, h1 m (by omega), ?_⟩
    rintro a ⟨i, hi, ha⟩ b hb rfl
    exact h2 i m hi (by omega) a ha hb
theorem K.nodup_lst {b off c m : Nat} {ks : Nat → K} : (K.lst b off c m ks).blocks.Nodup ↔
 (∀ i, i < m → b ∉ (ks i).blocks) ∧ (∀ i, i < m → (ks i).blocks.Nodup) ∧ ∀ i j, i < m → j < m → i ≠ j → ∀ x, x ∈ (ks i).blocks → x ∉ (ks j).blocks := by
 simp only [K.blocks, List.nodup_cons, z2s, List.mem_flatMap, List.mem_range, not_exists, not_and]
 constructor
 ·rintro ⟨h1, h2, h3⟩
  refine ⟨h1, h2, fun i j hi hj hij x hx hx' => ?_⟩
  rcases Nat.lt_or_gt_of_ne hij with h | h
  ·exact h3 i j h hj x hx hx'
  ·exact h3 j i h hi x hx' hx
 ·rintro ⟨h1, h2, h3⟩
  exact ⟨h1, h2, fun i j hij hj x hx hx' => h3 i j (by omega) hj (by omega) x hx hx'⟩
theorem Rep.place {V : Nat → Prop} : ∀ (p : Path) {h : Heap} {t d κ cs A}, Rep h V t d κ cs → MemO h A cs → Ok t d p → κ.blocks.Nodup → (∀ b o, A = some (b, o) → b ∉ κ.blocks) →
 ∃ cs0, Rep h V (t.at p) (d.get p) (κ.get p) cs0 ∧ MemO h (loc t κ A p) cs0 ∧ (∀ b, b ∈ (κ.get p).blocks → b ∈ κ.blocks) ∧ (κ.get p).blocks.Nodup ∧
  (∀ b o, loc t κ A p = some (b, o) → b ∉ (κ.get p).blocks ∧ (b ∈ κ.blocks ∨ ∃ o', A = some (b, o'))) ∧
  ∀ {h' : Heap} {V' : Nat → Prop} {d' κ' cs' b o}, loc t κ A p = some (b, o) → Rep h' V' (t.at p) d' κ' cs' → zCp h h' b o cs' →
   (∀ b', b' ∈ κ.blocks → b' ∉ (κ.get p).blocks → b' ≠ b → h'[b']? = h[b']?) → (∀ b' o', A = some (b', o') → b' ≠ b → h'[b']? = h[b']?) →
   (∀ b, V b → h'[b]? = h[b]?) → (∀ b, V b → V' b) →
   ∃ cs2, Rep h' V' t (d.set p d') (κ.set p κ') cs2 ∧ (∀ b o, A = some (b, o) → zCp h h' b o cs2) ∧ (A = none → cs2 = cs) ∧
    ((∀ b, b ∈ κ'.blocks → b ∉ κ.blocks ∨ b ∈ (κ.get p).blocks) → κ'.blocks.Nodup → (κ.set p κ').blocks.Nodup) ∧
    (∀ b, b ∈ (κ.set p κ').blocks → b ∈ κ'.blocks ∨ (b ∈ κ.blocks ∧ b ∉ (κ.get p).blocks)) := by
 intro p
 induction p with
 | nil =>
   intro h t d κ cs A hr hm _ hnd hA
   refine ⟨cs, hr, ?_, fun b hb => hb, hnd, fun b o he => ⟨hA b o he, .inr ⟨o, he⟩⟩, ?_⟩
   ·cases A <;> simpa [loc] using hm
   ·intro h' V' d' κ' cs' b o hl hr' hw _ _ _ _
    refine ⟨cs', hr', ?_, ?_, fun _ hn => hn, fun b hb => .inl hb⟩
    ·intro b' o' he; rw [loc] at hl; rw [he] at hl; cases hl; exact hw
    ·intro he; rw [loc, he] at hl; cases hl
 | cons s p ih =>
   cases s with
   | f j =>
     intro h t d κ cs A hr hm hok hnd hA
     simp at hok
     obtain ⟨c1, cj, c2, rfl, hlen, hj, hin, hndj, hre⟩ := Rep.fld j hr hok.1
     have hnd' := hndj hnd
     have hm' : MemO h (A.map fun a => (a.1, a.2 + t.off j)) cj := by
      cases A with
      | none => trivial
      | some a =>
        obtain ⟨b, o⟩ := a
        obtain ⟨arr, ty, fz, h1, h2, h3, h4⟩ := hm
        refine ⟨arr, ty, fz, h1, h2, ?_, ?_⟩
        ·simp at h3 ⊢; omega
        ·apply List.ext_getElem?
         intro k
         rw [z0Z]
         have := z0Z arr.toList o (c1 ++ (cj ++ c2)).length (t.off j + k)
         rw [h4] at this
         by_cases hk : k < cj.length
         ·simp only []
          rw [if_pos hk, show o + t.off j + k = o + (t.off j + k) by omega]
          rw [if_pos (by simp; omega)] at this
          rw [← this, List.getElem?_append_right (by omega), hlen, show t.off j + k - t.off j = k by omega, List.getElem?_append_left hk]
         ·rw [if_neg hk, List.getElem?_eq_none (by omega)]
     obtain ⟨cs0, hR0, hM0, hIn0, hNd0, hL0, hW0⟩ := ih hj hm' hok.2 hnd' (by
      intro b o he hb
      cases A with
      | none => simp at he
      | some a => simp at he; exact hA a.1 a.2 rfl (he.1 ▸ hin _ hb))
     refine ⟨cs0, hR0, hM0, fun b hb => hin b (hIn0 b hb), hNd0, ?_, ?_⟩
     ·intro b o he
      have := hL0 b o he
      refine ⟨this.1, this.2.elim (fun h => .inl (hin b h)) ?_⟩
      rintro ⟨o', ho'⟩
      cases A with
      | none => simp at ho'
      | some a => simp at ho'; exact .inr ⟨a.2, by rw [← ho'.1]⟩
     ·intro h' V' d' κ' cs' b o hl hr' hw hb hAb hv hV
      obtain ⟨cs2, hR2, hWA, hcs, hN2, hM2⟩ := hW0 hl hr' hw (fun b' hb' => hb b' (hin b' hb')) (by
       intro b' o' he hne
       cases A with
       | none => simp at he
       | some a => simp at he; exact hAb b' a.2 (by rw [← he.1]) hne) hv hV
      have hL := (hL0 b o hl)
      rw [← T.setFld_self j (t := t)]
      obtain ⟨hR3, hN3, hM3⟩ := hre hR2 hnd (by
       intro b' hb' hb''
       by_cases hbe : b' = b
       ·subst hbe
        exfalso
        rcases hL.2 with h | ⟨o', ho'⟩
        ·exact hb'' h
        ·cases A with
         | none => simp at ho'
         | some a => simp at ho'; exact hA a.1 a.2 rfl (ho'.1 ▸ hb')
       ·exact hb b' hb' (fun hm' => hb'' (hIn0 b' hm')) hbe) hv hV
      refine ⟨c1 ++ (cs2 ++ c2), hR3, ?_, ?_, ?_, ?_⟩
      ·rintro b' o' rfl
       obtain ⟨arr, ty, fz, h1, h2, h3⟩ := hWA b' (o' + t.off j) rfl
       obtain ⟨arr', ty', fz', g1, g2, g3, g4⟩ := hm
       rw [h1] at g1; cases g1
       have hcl : cs2.length = cj.length := by rw [hR2.length, hj.length]
       refine ⟨arr, ty, fz, h1, by simp at g3 ⊢; omega, ?_⟩
       rw [h3]
       congr 3
       have e1 : c1 ++ (cs2 ++ c2) = spl (c1 ++ (cj ++ c2)) (t.off j) cs2 := by
        unfold spl
        rw [← hlen, List.take_left, hcl, List.drop_append, List.drop_eq_nil_of_le (by omega)]
        simp
       rw [e1, zM4 (by simpa using g3) (by simp; omega) g4]
      ·intro he; subst he; rw [hcs rfl]
      ·intro hd hn
       refine hN3 ?_ (hN2 ?_ hn)
       ·intro b' hb'
        rcases hM2 b' hb' with h | h
        ·rcases hd b' h with h' | h'
         ·exact .inl h'
         ·exact .inr (hIn0 b' h')
        ·exact .inr h.1
       ·intro b' hb'
        rcases hd b' hb' with h | h
        ·exact .inl fun hm' => h (hin b' hm')
        ·exact .inr h
      ·intro b' hb'
       rcases hM3 b' hb' with h | h
       ·rcases hM2 b' h with h' | h'
        ·exact .inl h'
        ·exact .inr ⟨hin b' h'.1, h'.2⟩
       ·exact .inr ⟨h.1, fun hm' => h.2 (hIn0 b' hm')⟩
   | i n =>
     intro h t d κ cs A hr hm hok hnd hA
     simp at hok
     cases t <;> simp at hok
     rename_i ow e
     obtain ⟨rfl, hn, hok⟩ := hok
     obtain ⟨xs, rfl, ⟨rfl, _, _⟩ | ⟨b, off, c, arr, ty, fz, ks, rfl, hc, hh, hs, he, ho⟩⟩ := hr
     ·simp at hn
     simp at ho hn hok
     obtain ⟨hfz, rfl⟩ := ho
     have hx : xs[n]? = some (xs[n]?.getD D.unit) := by rw [List.getElem?_eq_getElem hn]; rfl
     have hrn := he n _ hx
     have hnd' := K.nodup_lst.1 hnd
     have hmul : n * e.size + e.size ≤ c * e.size := by
      have : (n + 1) * e.size ≤ c * e.size := Nat.mul_le_mul_right _ (by have := hc.1; omega)
      rwa [Nat.add_mul, Nat.one_mul] at this
     have hmn : Mem h b (off + n * e.size) ((arr.toList.drop (off + n * e.size)).take e.size) := by
      refine ⟨arr, ty, fz, hh, hfz.low, ?_, ?_⟩
      ·simp; omega
      ·congr 1; simp; omega
     obtain ⟨cs0, hR0, hM0, hIn0, hNd0, hL0, hW0⟩ := ih (A := some (b, off + n * e.size)) hrn hmn hok (hnd'.2.1 n hn) (by
      intro b' o' he'; cases he'; exact hnd'.1 n hn)
     have hbn : ∀ b', b' ∈ (ks n).blocks → b' ∈ (K.lst b off c xs.length ks).blocks := fun b' hb' => K.mem_nth hn hb'
     refine ⟨cs0, by simpa [K.get, K.nth] using hR0, by simpa [loc] using hM0, fun b' hb' => hbn b' (hIn0 b' (by simpa [K.get, K.nth] using hb')), by simpa [K.get, K.nth] using hNd0, ?_, ?_⟩
     ·intro b' o' he'
      have := hL0 b' o' (by simpa [loc] using he')
      refine ⟨by simpa [K.get, K.nth] using this.1, .inl ?_⟩
      rcases this.2 with h | ⟨o'', ho''⟩
      ·exact hbn b' h
      ·cases ho''; simp [K.blocks]
     ·intro h' V' d' κ' cs' b' o' hl hr' hw hb hAb hv hV
      have hl' : loc e (ks n) (some (b, off + n * e.size)) p = some (b', o') := by simpa [loc] using hl
      have hL := hL0 b' o' hl'
      obtain ⟨cs2, hR2, hWA, _, hN2, hM2⟩ := hW0 hl' (by simpa using hr') hw (fun x hx' hx'' hne => hb x (hbn x hx') (by simpa [K.get, K.nth] using hx'') hne) (by
       intro x o'' he' hne
       cases he'
       exact hb b (by simp [K.blocks]) (by
        intro hm'
        simp only [K.get, K.nth] at hm'
        exact hnd'.1 n hn (hIn0 b hm')) hne) hv hV
      obtain ⟨arr1, ty1, fz1, g1, g2, g3⟩ := hWA b _ rfl
      rw [hh] at g1; cases g1
      have hcl : cs2.length = e.size := hR2.length
      have hsl := z4k (l := arr.toList) (o := off + n * e.size) (cs := cs2) (by simpa using g2)
      have hbk : b ∉ (ks n).blocks := hnd'.1 n hn
      have hget : ((K.lst b off c xs.length ks).get (.i n :: p)).blocks = ((ks n).get p).blocks := rfl
      have hoth : ∀ i, i ≠ n → i < xs.length → ∀ x, x ∈ (ks i).blocks → h'[x]? = h[x]? := by
       intro i hi hil x hx'
       refine hb x (K.mem_nth hil hx') ?_ ?_
       ·rw [hget]; intro hm'; exact hnd'.2.2 i n hil hn hi x hx' (hIn0 x hm')
       ·rintro rfl
        rcases hL.2 with h | ⟨o'', ho''⟩
        ·exact hnd'.2.2 i n hil hn hi x hx' h
        ·cases ho''; exact hnd'.1 i hil hx'
      have hlen' : (xs.set n ((xs[n]?.getD D.unit).set p d')).length = xs.length := by simp
      refine ⟨_, ?_, ?_, fun _ => rfl, ?_, ?_⟩
      ·refine ⟨xs.set n ((xs[n]?.getD D.unit).set p d'), by simp, .inr ⟨b, off, c, (spl arr.toList (off + n * e.size) cs2).toArray, ty, fz, fun i => if i = n then (ks n).set p κ' else ks i, by simp, by simpa using hc, g3, ?_, ?_, ?_⟩⟩
       ·simp at hsl ⊢; omega
       ·intro i x hx'
        by_cases hin : i = n
        ·subst hin
         rw [List.getElem?_set_self hn] at hx'
         cases hx'
         simp only [if_true]
         have := zHw (l := arr.toList) (o := off + i * e.size) (cs := cs2) (by simpa using g2)
         rw [hcl] at this
         rw [this]; exact hR2
        ·rw [List.getElem?_set_ne (by omega)] at hx'
         simp only [if_neg hin]
         have hil : i < xs.length := (List.getElem?_eq_some_iff.1 hx').1
         have hfar := zKB (l := arr.toList) (o := off + n * e.size) (cs := cs2) (by simpa using g2) (a := off + i * e.size) (m := e.size) (by
          rw [hcl]
          rcases Nat.lt_or_gt_of_ne hin with hlt | hlt
          ·have : (i + 1) * e.size ≤ n * e.size := Nat.mul_le_mul_right _ (by omega)
           rw [Nat.add_mul, Nat.one_mul] at this; left; omega
          ·have : (n + 1) * e.size ≤ i * e.size := Nat.mul_le_mul_right _ (by omega)
           rw [Nat.add_mul, Nat.one_mul] at this; right; omega)
         show Rep h' V' e x (ks i) _
         rw [hfar]
         exact (he i x hx').frame (hoth i hin hil) hv hV
       ·simp only [if_true]
        refine ⟨?_, by simp [K.set]⟩
        intro o'' ho''
        refine hfz o'' ?_
        simp at hsl ho''; omega
      ·intro b'' o'' hA'
       subst hA'
       exact zCp.same hm (hAb b'' o'' rfl (by
        rintro rfl
        have hnA := hA b'' o'' rfl
        rcases hL.2 with h | ⟨o3, ho3⟩
        ·exact hnA (hbn _ h)
        ·cases ho3; exact hnA (by simp [K.blocks])))
      ·intro hd hn'
       rw [hget] at hd
       have hN3 := hN2 (fun x hx' => (hd x hx').imp (fun h hm' => h (hbn x hm')) id) hn'
       simp only [K.set]
       rw [K.nodup_lst]
       refine ⟨?_, ?_, ?_⟩
       ·intro i hi
        by_cases hin : i = n
        ·subst hin
         simp only [if_true]
         intro hm'
         rcases hM2 b hm' with h | ⟨h, _⟩
         ·rcases hd b h with h' | h'
          ·exact h' (by simp [K.blocks])
          ·exact hbk (hIn0 b h')
         ·exact hbk h
        ·simp only [if_neg hin]; exact hnd'.1 i hi
       ·intro i hi
        by_cases hin : i = n
        ·subst hin; simp only [if_true]; exact hN3
        ·simp only [if_neg hin]; exact hnd'.2.1 i hi
       ·have key : ∀ x, x ∈ ((ks n).set p κ').blocks → ∀ j, j < xs.length → j ≠ n → x ∉ (ks j).blocks := by
         intro x hx' j hj hjn hm'
         rcases hM2 x hx' with h | ⟨h, _⟩
         ·rcases hd x h with h' | h'
          ·exact h' (K.mem_nth hj hm')
          ·exact hnd'.2.2 j n hj hn hjn x hm' (hIn0 x h')
         ·exact hnd'.2.2 j n hj hn hjn x hm' h
        intro i j hi hj hij x hx' hx''
        by_cases hin : i = n
        ·simp only [hin, if_true] at hx'
         simp only [if_neg (show j ≠ n by omega)] at hx''
         exact key x hx' j hj (by omega) hx''
        ·simp only [if_neg hin] at hx'
         by_cases hjn : j = n
         ·simp only [hjn, if_true] at hx''
          exact key x hx'' i hi hin hx'
         ·simp only [if_neg hjn] at hx''
          exact hnd'.2.2 i j hi hj hij x hx' hx''
      ·intro x hx'
       rw [hget]
       simp only [K.set, K.blocks, List.mem_cons, List.mem_flatMap, List.mem_range] at hx'
       rcases hx' with rfl | ⟨i, hi, hx'⟩
       ·exact .inr ⟨by simp [K.blocks], fun hm' => hbk (hIn0 _ hm')⟩
       ·by_cases hin : i = n
        ·subst hin
         simp only [if_true] at hx'
         rcases hM2 x hx' with h | ⟨h, h2⟩
         ·exact .inl h
         ·exact .inr ⟨K.mem_nth hi h, h2⟩
        ·simp only [if_neg hin] at hx'
         exact .inr ⟨K.mem_nth hi hx', fun hm' => hnd'.2.2 i n hi hn hin x hx' (hIn0 x hm')⟩
end Go.Own
