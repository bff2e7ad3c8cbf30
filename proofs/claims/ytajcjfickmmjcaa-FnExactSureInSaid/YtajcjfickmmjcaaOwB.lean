/- A layer over the walk: what lies in memory as plain data, each operation by what it does to data; part 2. -/
import Derived.Test.YtajcjfickmmjcaaOwA
set_option linter.unusedVariables false
set_option linter.unusedSimpArgs false
/-! Own: places in a tree, and what a write at a place does. -/
namespace Go.Own

def spl (l : List Value) (o : Nat) (cs : List Value) : List Value := l.take o ++ (cs ++ l.drop (o + cs.length))

theorem spl_length {l : List Value} {o : Nat} {cs : List Value} (h : o + cs.length ≤ l.length) : (spl l o cs).length = l.length := by
  simp [spl]; omega

theorem spl_get {l : List Value} {o : Nat} {cs : List Value} (h : o + cs.length ≤ l.length) (k : Nat) :
    (spl l o cs)[k]? = if k < o then l[k]? else if k < o + cs.length then cs[k - o]? else l[k]? := by
  unfold spl
  have ho : (l.take o).length = o := by simp; omega
  by_cases h1 : k < o
  · rw [List.getElem?_append_left (by omega), List.getElem?_take, if_pos h1, if_pos h1]
  · rw [List.getElem?_append_right (by omega), ho, if_neg h1]
    by_cases h2 : k < o + cs.length
    · rw [List.getElem?_append_left (by omega), if_pos h2]
    · rw [List.getElem?_append_right (by omega), if_neg h2, List.getElem?_drop]
      congr 1; omega

theorem cut_get (l : List Value) (a m k : Nat) : ((l.drop a).take m)[k]? = if k < m then l[a + k]? else none := by
  rw [List.getElem?_take]; split
  · rw [List.getElem?_drop]
  · rfl

theorem spl_hold {l : List Value} {o : Nat} {cs : List Value} (h : o + cs.length ≤ l.length) : ((spl l o cs).drop o).take cs.length = cs := by
  apply List.ext_getElem?
  intro k
  rw [cut_get, spl_get h]
  by_cases hk : k < cs.length
  · rw [if_pos hk, if_neg (by omega), if_pos (by omega)]; congr 1; omega
  · rw [if_neg hk, List.getElem?_eq_none (by omega)]

theorem spl_same {l : List Value} {o : Nat} {cs : List Value} (h : o + cs.length ≤ l.length) (hc : (l.drop o).take cs.length = cs) : spl l o cs = l := by
  apply List.ext_getElem?
  intro k
  rw [spl_get h]
  by_cases h1 : k < o
  · rw [if_pos h1]
  · rw [if_neg h1]
    by_cases h2 : k < o + cs.length
    · rw [if_pos h2]
      have := cut_get l o cs.length (k - o)
      rw [hc, if_pos (by omega)] at this
      rw [this]; congr 1; omega
    · rw [if_neg h2]

theorem spl_far {l : List Value} {o : Nat} {cs : List Value} (h : o + cs.length ≤ l.length) {a m : Nat} (hd : a + m ≤ o ∨ o + cs.length ≤ a) :
    ((spl l o cs).drop a).take m = (l.drop a).take m := by
  apply List.ext_getElem?
  intro k
  rw [cut_get, cut_get]
  split
  · rw [spl_get h]
    rcases hd with hd | hd
    · rw [if_pos (by omega)]
    · rw [if_neg (by omega), if_neg (by omega)]
  · rfl

theorem spl_spl {l : List Value} {o k : Nat} {cs c2 : List Value} (h : o + cs.length ≤ l.length) (hk : k + c2.length ≤ cs.length) (hc : (l.drop o).take cs.length = cs) :
    spl l (o + k) c2 = spl l o (spl cs k c2) := by
  have hl := spl_length hk
  apply List.ext_getElem?
  intro i
  rw [spl_get (show o + k + c2.length ≤ l.length by omega), spl_get (l := l) (show o + (spl cs k c2).length ≤ l.length by omega), spl_get hk, hl]
  by_cases h1 : i < o
  · simp [h1, show i < o + k by omega]
  · by_cases h2 : i < o + cs.length
    · have hg := cut_get l o cs.length (i - o)
      rw [hc, if_pos (by omega), show o + (i - o) = i from by omega] at hg
      by_cases h3 : i < o + k
      · rw [if_pos h3, if_neg h1, if_pos h2, if_pos (by omega), hg]
      · by_cases h4 : i < o + k + c2.length
        · rw [if_neg h3, if_pos h4, if_neg h1, if_pos h2, if_neg (by omega), if_pos (by omega)]; congr 1; omega
        · rw [if_neg h3, if_neg h4, if_neg h1, if_pos h2, if_neg (by omega), if_neg (by omega), hg]
    · rw [if_neg (by omega), if_neg (by omega), if_neg h1, if_neg h2]

inductive Step where
  | f (j : Nat)
  | i (n : Nat)
  deriving DecidableEq

abbrev Path := List Step

@[simp] def T.fld : T → Nat → T
  | .pair a _, 0 => a
  | .pair _ b, j + 1 => b.fld j
  | _, _ => .unit
@[simp] def T.has : T → Nat → Bool
  | .pair _ _, 0 => true
  | .pair _ b, j + 1 => b.has j
  | _, _ => false
@[simp] def T.off : T → Nat → Nat
  | .pair a b, j + 1 => a.size + b.off j
  | _, _ => 0
@[simp] def T.setFld : T → Nat → T → T
  | .pair _ b, 0, x => .pair x b
  | .pair a b, j + 1, x => .pair a (b.setFld j x)
  | t, _, _ => t
theorem T.setFld_self : ∀ (j : Nat) {t : T}, t.setFld j (t.fld j) = t := by
  intro j
  induction j with
  | zero => intro t; cases t <;> rfl
  | succ j ih => intro t; cases t <;> simp [ih]
def T.elem : T → T
  | .lst _ e => e
  | _ => .unit
def T.ok : T → Bool
  | .gone => false
  | _ => true
def T.lsts : T → Bool
  | .lst _ _ => true
  | _ => false
def T.own : T → Bool
  | .lst o _ => o
  | _ => false
@[simp] theorem T.ok_unit  : (T.unit ).ok = true := rfl
@[simp] theorem T.ok_int (k : IntKind) : (T.int k).ok = true := rfl
@[simp] theorem T.ok_bool  : (T.bool ).ok = true := rfl
@[simp] theorem T.ok_str  : (T.str ).ok = true := rfl
@[simp] theorem T.ok_pair (a b : T) : (T.pair a b).ok = true := rfl
@[simp] theorem T.ok_lst (o : Bool) (e : T) : (T.lst o e).ok = true := rfl
@[simp] theorem T.ok_ptr (e : T) : (T.ptr e).ok = true := rfl
@[simp] theorem T.ok_fn (f : FuncId) (c : T) : (T.fn f c).ok = true := rfl
@[simp] theorem T.ok_gone  : (T.gone ).ok = false := rfl
@[simp] theorem T.lsts_unit  : (T.unit ).lsts = false := rfl
@[simp] theorem T.lsts_int (k : IntKind) : (T.int k).lsts = false := rfl
@[simp] theorem T.lsts_bool  : (T.bool ).lsts = false := rfl
@[simp] theorem T.lsts_str  : (T.str ).lsts = false := rfl
@[simp] theorem T.lsts_pair (a b : T) : (T.pair a b).lsts = false := rfl
@[simp] theorem T.lsts_lst (o : Bool) (e : T) : (T.lst o e).lsts = true := rfl
@[simp] theorem T.lsts_ptr (e : T) : (T.ptr e).lsts = false := rfl
@[simp] theorem T.lsts_fn (f : FuncId) (c : T) : (T.fn f c).lsts = false := rfl
@[simp] theorem T.lsts_gone  : (T.gone ).lsts = false := rfl
@[simp] theorem T.elem_unit  : (T.unit ).elem = T.unit := rfl
@[simp] theorem T.elem_int (k : IntKind) : (T.int k).elem = T.unit := rfl
@[simp] theorem T.elem_bool  : (T.bool ).elem = T.unit := rfl
@[simp] theorem T.elem_str  : (T.str ).elem = T.unit := rfl
@[simp] theorem T.elem_pair (a b : T) : (T.pair a b).elem = T.unit := rfl
@[simp] theorem T.elem_lst (o : Bool) (e : T) : (T.lst o e).elem = e := rfl
@[simp] theorem T.elem_ptr (e : T) : (T.ptr e).elem = T.unit := rfl
@[simp] theorem T.elem_fn (f : FuncId) (c : T) : (T.fn f c).elem = T.unit := rfl
@[simp] theorem T.elem_gone  : (T.gone ).elem = T.unit := rfl
@[simp] theorem T.own_unit  : (T.unit ).own = false := rfl
@[simp] theorem T.own_int (k : IntKind) : (T.int k).own = false := rfl
@[simp] theorem T.own_bool  : (T.bool ).own = false := rfl
@[simp] theorem T.own_str  : (T.str ).own = false := rfl
@[simp] theorem T.own_pair (a b : T) : (T.pair a b).own = false := rfl
@[simp] theorem T.own_lst (o : Bool) (e : T) : (T.lst o e).own = o := rfl
@[simp] theorem T.own_ptr (e : T) : (T.ptr e).own = false := rfl
@[simp] theorem T.own_fn (f : FuncId) (c : T) : (T.fn f c).own = false := rfl
@[simp] theorem T.own_gone  : (T.gone ).own = false := rfl
@[simp] def T.sound : T → Bool
  | .gone => false
  | .pair a b => a.sound && b.sound
  | _ => true

@[simp] def T.at : T → Path → T
  | t, [] => t
  | t, .f j :: p => (t.fld j).at p
  | t, .i _ :: p => t.elem.at p

@[simp] def T.set : T → Path → T → T
  | _, [], x => x
  | t, .f j :: p, x => t.setFld j ((t.fld j).set p x)
  | t, _, _ => t

def D.fst : D → D
  | .pair a _ => a
  | _ => .unit
def D.snd : D → D
  | .pair _ b => b
  | _ => .unit
@[simp] theorem D.fst_pair (a b : D) : (D.pair a b).fst = a := rfl
@[simp] theorem D.snd_pair (a b : D) : (D.pair a b).snd = b := rfl
@[simp] def D.fld : D → Nat → D
  | d, 0 => d.fst
  | d, j + 1 => d.snd.fld j
@[simp] def D.setFld : D → Nat → D → D
  | d, 0, x => .pair x d.snd
  | d, j + 1, x => .pair d.fst (d.snd.setFld j x)
def D.l : D → List D
  | .lst xs => xs
  | _ => []
@[simp] theorem D.l_lst (xs : List D) : (D.lst xs).l = xs := rfl
@[simp] def D.nth (d : D) (n : Nat) : D := d.l.getD n .unit
@[simp] def D.get : D → Path → D
  | d, [] => d
  | d, .f j :: p => (d.fld j).get p
  | d, .i n :: p => (d.nth n).get p
@[simp] def D.set : D → Path → D → D
  | _, [], x => x
  | d, .f j :: p, x => d.setFld j ((d.fld j).set p x)
  | d, .i n :: p, x => .lst (d.l.set n ((d.nth n).set p x))

def K.fld : K → Nat → K
  | .pair a _, 0 => a
  | .pair _ b, j + 1 => b.fld j
  | _, _ => .leaf
def K.setFld : K → Nat → K → K
  | .pair _ b, 0, x => .pair x b
  | .pair a b, j + 1, x => .pair a (b.setFld j x)
  | d, _, _ => d
def K.nth : K → Nat → K
  | .lst _ _ _ _ ks, n => ks n
  | _, _ => .leaf
def K.get : K → Path → K
  | κ, [] => κ
  | κ, .f j :: p => (κ.fld j).get p
  | κ, .i n :: p => (κ.nth n).get p
def K.set : K → Path → K → K
  | _, [], x => x
  | κ, .f j :: p, x => κ.setFld j ((κ.fld j).set p x)
  | .lst b off c m ks, .i n :: p, x => .lst b off c m fun i => if i = n then (ks n).set p x else ks i
  | κ, .i _ :: _, _ => κ

/-- the place is there: its rows are own ones, its numbers within them -/
@[simp] def Ok : T → D → Path → Prop
  | _, _, [] => True
  | t, d, .f j :: p => t.has j = true ∧ Ok (t.fld j) (d.fld j) p
  | t, d, .i n :: p => t.own = true ∧ n < d.l.length ∧ Ok t.elem (d.nth n) p

abbrev Pt := Option (Nat × Nat)

def loc : T → K → Pt → Path → Pt
  | _, _, A, [] => A
  | t, κ, A, .f j :: p => loc (t.fld j) (κ.fld j) (A.map fun a => (a.1, a.2 + t.off j)) p
  | t, .lst b off _ _ ks, _, .i n :: p => loc t.elem (ks n) (some (b, off + n * t.elem.size)) p
  | _, _, _, .i _ :: _ => none

def Mem (h : Heap) (b o : Nat) (cs : List Value) : Prop :=
  ∃ arr ty fz, h[b]? = some (.cells arr ty fz) ∧ Free fz arr.size ∧ o + cs.length ≤ arr.size ∧ (arr.toList.drop o).take cs.length = cs

def MemO (h : Heap) : Pt → List Value → Prop
  | none, _ => True
  | some (b, o), cs => Mem h b o cs

/-- a block of which a part has been written -/
def Wrote (h h' : Heap) (b o : Nat) (cs : List Value) : Prop :=
  ∃ arr ty fz, h[b]? = some (.cells arr ty fz) ∧ o + cs.length ≤ arr.size ∧ h'[b]? = some (.cells (spl arr.toList o cs).toArray ty fz)

theorem Wrote.mem {h h' : Heap} {b o : Nat} {cs : List Value} (hw : Wrote h h' b o cs) (hf : ∀ arr ty fz, h[b]? = some (.cells arr ty fz) → Free fz arr.size) : Mem h' b o cs := by
  obtain ⟨arr, ty, fz, h1, h2, h3⟩ := hw
  have hl := spl_length (l := arr.toList) (o := o) (cs := cs) (by simpa using h2)
  refine ⟨_, ty, fz, h3, ?_, ?_, ?_⟩
  · have := hf _ _ _ h1
    intro o' ho'
    refine this o' ?_
    simp at ho' hl; omega
  · simp at hl ⊢; omega
  · exact spl_hold (by simpa using h2)

theorem Wrote.same {h h' : Heap} {b o : Nat} {cs : List Value} (hm : Mem h b o cs) (hs : h'[b]? = h[b]?) : Wrote h h' b o cs := by
  obtain ⟨arr, ty, fz, h1, h2, h3, h4⟩ := hm
  refine ⟨arr, ty, fz, h1, h3, ?_⟩
  rw [hs, h1, spl_same (by simpa using h3) h4]

/-- a field -/
theorem Rep.fld {h : Heap} {V : Nat → Prop} : ∀ (j : Nat) {t d κ cs}, Rep h V t d κ cs → t.has j = true →
    ∃ c1 cj c2, cs = c1 ++ (cj ++ c2) ∧ c1.length = t.off j ∧ Rep h V (t.fld j) (d.fld j) (κ.fld j) cj ∧ (∀ b, b ∈ (κ.fld j).blocks → b ∈ κ.blocks) ∧ (κ.blocks.Nodup → (κ.fld j).blocks.Nodup) ∧
      ∀ {h' V' t' d' κ' cj'}, Rep h' V' t' d' κ' cj' → κ.blocks.Nodup → (∀ b, b ∈ κ.blocks → b ∉ (κ.fld j).blocks → h'[b]? = h[b]?) → (∀ b, V b → h'[b]? = h[b]?) → (∀ b, V b → V' b) →
        Rep h' V' (t.setFld j t') (d.setFld j d') (κ.setFld j κ') (c1 ++ (cj' ++ c2)) ∧ ((∀ b, b ∈ κ'.blocks → b ∉ κ.blocks ∨ b ∈ (κ.fld j).blocks) → κ'.blocks.Nodup → (κ.setFld j κ').blocks.Nodup) ∧
          ∀ b, b ∈ (κ.setFld j κ').blocks → b ∈ κ'.blocks ∨ (b ∈ κ.blocks ∧ b ∉ (κ.fld j).blocks) := by
  intro j
  induction j with
  | zero =>
    rintro t d κ cs hr ht
    cases t <;> simp at ht
    obtain ⟨d1, d2, κ1, κ2, c1, c2, rfl, rfl, rfl, h1, h2⟩ := hr
    refine ⟨[], c1, c2, rfl, rfl, h1, ?_, ?_, ?_⟩
    · intro b hb; simp [K.blocks]; exact .inl hb
    · intro hn; simp only [K.blocks] at hn; exact (List.nodup_append.1 hn).1
    · intro h' V' t' d' κ' cj' hr' hnd hb hv hV
      simp only [K.blocks, List.nodup_append] at hnd
      refine ⟨⟨d', d2, κ', κ2, cj', c2, rfl, rfl, rfl, hr', h2.frame ?_ hv hV⟩, ?_, ?_⟩
      · intro b hm
        exact hb b (by simp [K.blocks, hm]) (fun hm' => hnd.2.2 b hm' b hm rfl)
      · intro hd hn
        simp only [K.setFld, K.blocks, List.nodup_append]
        refine ⟨hn, hnd.2.1, ?_⟩
        rintro a ha b hb rfl
        rcases hd a ha with h | h
        · exact h (by simp [K.blocks, hb])
        · exact hnd.2.2 a h a hb rfl
      · intro b hb
        simp only [K.setFld, K.blocks, List.mem_append] at hb
        rcases hb with hb | hb
        · exact .inl hb
        · exact .inr ⟨by simp [K.blocks, hb], fun hm' => hnd.2.2 b hm' b hb rfl⟩
  | succ j ih =>
    rintro t d κ cs hr ht
    cases t <;> simp at ht
    obtain ⟨d1, d2, κ1, κ2, c1, c2, rfl, rfl, rfl, h1, h2⟩ := hr
    obtain ⟨e1, ej, e2, rfl, hlen, hj, hin, hnd0, hre⟩ := ih h2 ht
    refine ⟨c1 ++ e1, ej, e2, by simp, by simp [h1.length, hlen], hj, ?_, ?_, ?_⟩
    · intro b hb; simp [K.blocks]; exact .inr (hin b hb)
    · intro hn; simp only [K.blocks] at hn; exact hnd0 (List.nodup_append.1 hn).2.1
    · intro h' V' t' d' κ' cj' hr' hnd hb hv hV
      simp only [K.blocks, List.nodup_append] at hnd
      obtain ⟨hR, hN, hM⟩ := hre hr' hnd.2.1 (fun b hm hm' => hb b (by simp [K.blocks, hm]) hm') hv hV
      refine ⟨⟨d1, d2.setFld j d', κ1, κ2.setFld j κ', c1, e1 ++ (cj' ++ e2), rfl, rfl, by simp, h1.frame ?_ hv hV, hR⟩, ?_, ?_⟩
      · intro b hm
        exact hb b (by simp [K.blocks, hm]) (fun hm' => hnd.2.2 b hm b (hin b hm') rfl)
      · intro hd hn
        simp only [K.setFld, K.blocks, List.nodup_append]
        refine ⟨hnd.1, hN (fun b hb' => ?_) hn, ?_⟩
        · rcases hd b hb' with h | h
          · exact .inl fun hm => h (by simp [K.blocks, hm])
          · exact .inr h
        · rintro a ha b hb' rfl
          rcases hM a hb' with h | ⟨h, _⟩
          · rcases hd a h with h' | h'
            · exact h' (by simp [K.blocks, ha])
            · exact hnd.2.2 a ha a (hin a h') rfl
          · exact hnd.2.2 a ha a h rfl
      · intro b hb'
        simp only [K.setFld, K.blocks, List.mem_append] at hb'
        rcases hb' with hb' | hb'
        · exact .inr ⟨by simp [K.blocks, hb'], fun hm' => hnd.2.2 b hb' b (hin b hm') rfl⟩
        · rcases hM b hb' with h | ⟨h, h2⟩
          · exact .inl h
          · exact .inr ⟨by simp [K.blocks, h], h2⟩

end Go.Own
