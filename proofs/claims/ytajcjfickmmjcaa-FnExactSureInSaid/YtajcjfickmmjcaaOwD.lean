/- A layer over the walk: what lies in memory as plain data, each operation by what it does to data; part 4. -/
import Derived.Test.YtajcjfickmmjcaaOwC
set_option linter.unusedVariables false
set_option linter.unusedSimpArgs false
namespace Go.Own

@[simp] def T.flat : T → Path → Bool
  | _, [] => true
  | t, .f j :: p => t.has j && (t.fld j).flat p
  | _, .i _ :: _ => false
@[simp] def T.offs : T → Path → Nat
  | t, .f j :: p => t.off j + (t.fld j).offs p
  | _, _ => 0

/-- a part of a value: what it is, and what is so where another stands there -/
theorem Rep.flat {h : Heap} {V : Nat → Prop} : ∀ (p : Path) {t d κ cs}, Rep h V t d κ cs → t.flat p = true →
    ∃ c1 c0 c2, cs = c1 ++ (c0 ++ c2) ∧ c1.length = t.offs p ∧ Rep h V (t.at p) (d.get p) (κ.get p) c0 ∧ (∀ b, b ∈ (κ.get p).blocks → b ∈ κ.blocks) ∧ (κ.blocks.Nodup → (κ.get p).blocks.Nodup) ∧
      ∀ {h' V' t' d' κ' c'}, Rep h' V' t' d' κ' c' → κ.blocks.Nodup → (∀ b, b ∈ κ.blocks → b ∉ (κ.get p).blocks → h'[b]? = h[b]?) → (∀ b, V b → h'[b]? = h[b]?) → (∀ b, V b → V' b) →
        Rep h' V' (t.set p t') (d.set p d') (κ.set p κ') (c1 ++ (c' ++ c2)) ∧ ((∀ b, b ∈ κ'.blocks → b ∉ κ.blocks ∨ b ∈ (κ.get p).blocks) → κ'.blocks.Nodup → (κ.set p κ').blocks.Nodup) ∧
          ∀ b, b ∈ (κ.set p κ').blocks → b ∈ κ'.blocks ∨ (b ∈ κ.blocks ∧ b ∉ (κ.get p).blocks) := by
  intro p
  induction p with
  | nil =>
    intro t d κ cs hr _
    exact ⟨[], cs, [], by simp, rfl, hr, fun b hb => hb, fun hn => hn, fun hr' _ _ _ _ => ⟨by simpa [K.set] using hr', fun _ hn => hn, fun b hb => .inl hb⟩⟩
  | cons s p ih =>
    cases s with
    | i n => intro t d κ cs hr hf; simp at hf
    | f j =>
      intro t d κ cs hr hf
      simp at hf
      obtain ⟨c1, cj, c2, rfl, hlen, hj, hin, hndj, hre⟩ := Rep.fld j hr hf.1
      obtain ⟨e1, e0, e2, rfl, elen, e0r, ein, end_, ere⟩ := ih hj hf.2
      refine ⟨c1 ++ e1, e0, e2 ++ c2, by simp, by simp [hlen, elen], e0r, fun b hb => hin b (ein b hb), fun hn => end_ (hndj hn), ?_⟩
      intro h' V' t' d' κ' c' hr' hnd hb hv hV
      obtain ⟨hR2, hN2, hM2⟩ := ere hr' (hndj hnd) (fun b hm => hb b (hin b hm)) hv hV
      obtain ⟨hR3, hN3, hM3⟩ := hre hR2 hnd (fun b hm hm' => hb b hm (fun hm2 => hm' (ein b hm2))) hv hV
      refine ⟨by simpa [K.set] using hR3, ?_, ?_⟩
      · intro hd hn
        refine hN3 ?_ (hN2 ?_ hn)
        · intro b' hb'
          rcases hM2 b' hb' with h | h
          · rcases hd b' h with h' | h'
            · exact .inl h'
            · exact .inr (ein b' h')
          · exact .inr h.1
        · intro b' hb'
          rcases hd b' hb' with h | h
          · exact .inl fun hm' => h (hin b' hm')
          · exact .inr h
      · intro b' hb'
        rcases hM3 b' hb' with h | h
        · rcases hM2 b' h with h' | h'
          · exact .inl h'
          · exact .inr ⟨hin b' h'.1, h'.2⟩
        · exact .inr ⟨h.1, fun hm' => h.2 (ein b' hm')⟩

def T.agg : T → Bool
  | .pair _ _ => true
  | .unit => true
  | _ => false
@[simp] theorem T.agg_unit  : (T.unit ).agg = true := rfl
@[simp] theorem T.agg_int (k : IntKind) : (T.int k).agg = false := rfl
@[simp] theorem T.agg_bool  : (T.bool ).agg = false := rfl
@[simp] theorem T.agg_str  : (T.str ).agg = false := rfl
@[simp] theorem T.agg_pair (a b : T) : (T.pair a b).agg = true := rfl
@[simp] theorem T.agg_lst (o : Bool) (e : T) : (T.lst o e).agg = false := rfl
@[simp] theorem T.agg_ptr (e : T) : (T.ptr e).agg = false := rfl
@[simp] theorem T.agg_fn (f : FuncId) (c : T) : (T.fn f c).agg = false := rfl
@[simp] theorem T.agg_gone  : (T.gone ).agg = false := rfl
@[simp] theorem T.view_agg (t : T) : t.view.agg = t.agg := by cases t <;> rfl

/-- a value out of its cells -/
def toVal (t : T) (cs : List Value) : Value := if t.agg then .agg cs.toArray else cs.headD undef

theorem toVal_cells {h : Heap} {V : Nat → Prop} {t : T} (hg : t ≠ .gone) {d κ cs} (hr : Rep h V t d κ cs) : (toVal t cs).cells.toList = cs := by
  unfold toVal
  cases t with
  | unit => rfl
  | pair a b => rfl
  | int k => obtain ⟨_, _, _, rfl, _⟩ := hr; rfl
  | bool => obtain ⟨_, _, _, rfl⟩ := hr; rfl
  | str => obtain ⟨_, _, _, rfl, _⟩ := hr; rfl
  | lst o e => obtain ⟨xs, _, ⟨_, _, A, rfl, _⟩ | ⟨b, off, c, arr, ty, fz, ks, rfl, _⟩⟩ := hr <;> rfl
  | ptr e => obtain ⟨_, _, b, o, arr, ty, fz, ke, rfl, _⟩ := hr; rfl
  | fn f c => obtain ⟨_, _, caps, kc, rfl, _⟩ := hr; rfl
  | gone => exact absurd rfl hg

/-- of which state of a slot's rows something speaks -/
structure Ver where
  id : Nat
  v0 : Nat
  v1 : Nat
  deriving DecidableEq, Inhabited

/-- what a closure has caught -/
inductive Cap where
  | val (t : T) (d : D)
  | ptr (r : Nat) (v : Ver) (p : Path)
  deriving Inhabited

/-- what a slot holds -/
inductive AV where
  | undef
  | nil
  | val (t : T) (d : D)
  | tup (t : T) (d : D)
  | box (t : T) (d : D)
  | ref (r : Nat) (v : Ver) (p : Path) (t : T) (d : D)
  | win (r : Nat) (v : Ver) (p : Path) (e : T) (lo n : Nat)
  | ptr (r : Nat) (v : Ver) (p : Path)
  | clo (f : FuncId) (l : List Cap)
  deriving Inhabited

structure Cl where
  av : AV
  v : Ver
  deriving Inhabited

abbrev St := Nat → Cl

def St.put (S : St) (s : Nat) (c : Cl) : St := fun i => if i = s then c else S i
@[simp] theorem St.put_same (S : St) (s : Nat) (c : Cl) : S.put s c s = c := by simp [St.put]
theorem St.put_other (S : St) {s i : Nat} (c : Cl) (h : i ≠ s) : S.put s c i = S i := by simp [St.put, h]

/-- how many rows a path goes through -/
@[simp] def depth : Path → Nat
  | [] => 0
  | .f _ :: p => depth p
  | .i _ :: p => depth p + 1

/-- the content of a slot that owns: its kind, its data, where its cells lie -/
def Cl.root (c : Cl) : Option (T × D × Bool) :=
  match c.av with
  | .val t d => some (t, d, false)
  | .box t d => some (t, d, true)
  | _ => none

def base (box : Bool) (κ : K) : K := if box then κ.nth 0 else κ
def addr (box : Bool) (κ : K) : Pt := if box then (match κ with | .lst b _ _ _ _ => some (b, 0) | _ => none) else none

/-- does what is told of a row's header stand still: the header lies behind so many rows -/
def liveRef (v c : Ver) (m : Nat) : Prop := v.id = c.id ∧ v.v0 = c.v0 ∧ (m ≠ 0 → v.v1 = c.v1)
/-- a pointer behind so many rows -/
def livePtr (v c : Ver) (m : Nat) : Prop := v.id = c.id ∧ (m ≠ 0 → v.v0 = c.v0) ∧ (1 < m → v.v1 = c.v1)

def Ver.le (a b : Ver) : Prop := a.id ≤ b.id ∧ a.v0 ≤ b.v0 ∧ a.v1 ≤ b.v1

def K.fst (κ : K) : K := κ.fld 0
def K.snd : K → K
  | .pair _ b => b
  | _ => .leaf

/-- a value that has its own rows' headers in common with a place -/
def RefRep (h : Heap) (V : Nat → Prop) : T → D → K → List Value → Prop
  | .pair t u, d, κ, cs => ∃ c1 c2, cs = c1 ++ c2 ∧ d = .pair d.fst d.snd ∧ RefRep h V t d.fst κ.fst c1 ∧ RefRep h V u d.snd κ.snd c2
  | .lst true _, _, κ, cs => (κ = .leaf ∧ cs = [.slice none 0 0]) ∨ ∃ b off c n ks, κ = .lst b off c n ks ∧ cs = [.slice (some ⟨b, off, none⟩) n c]
  | t, d, _, cs => Rep h V t d t.k0 cs

/-- a pointer's claim -/
def PtrC (S : St) (κ : Nat → K) (r : Nat) (ver : Ver) (p : Path) (v : Value) : Prop :=
  ver.le (S r).v ∧ ∀ tr dr bx, (S r).root = some (tr, dr, bx) → livePtr ver (S r).v (depth p) → Ok tr dr p →
    ∃ b o, loc tr (base bx (κ r)) (addr bx (κ r)) p = some (b, o) ∧ v = .pointer (some ⟨b, o, none⟩)

def RefC (h : Heap) (V : Nat → Prop) (S : St) (κ : Nat → K) (r : Nat) (ver : Ver) (p : Path) (t : T) (d : D) (v : Value) : Prop :=
  ver.le (S r).v ∧ ∀ tr dr bx, (S r).root = some (tr, dr, bx) → liveRef ver (S r).v (depth p) → tr.at p = t → Ok tr dr p →
    ∃ cs, RefRep h V t d ((base bx (κ r)).get p) cs ∧ v = toVal t cs

def WinC (S : St) (κ : Nat → K) (r : Nat) (ver : Ver) (p : Path) (e : T) (lo n : Nat) (v : Value) : Prop :=
  ver.le (S r).v ∧ ∀ tr dr bx, (S r).root = some (tr, dr, bx) → liveRef ver (S r).v (depth p) → tr.at p = .lst true e → Ok tr dr p →
    ((base bx (κ r)).get p = .leaf ∧ lo = 0 ∧ n = 0 ∧ v = .slice none 0 0) ∨
    ∃ b off c m ks, (base bx (κ r)).get p = .lst b off c m ks ∧ lo + n ≤ m ∧ ((v = .slice (some ⟨b, off + lo * e.size, none⟩) n (c - lo)) ∨ (lo = c ∧ n = 0 ∧ v = .slice (some ⟨b, off, none⟩) 0 0))

def CapC (h : Heap) (V : Nat → Prop) (S : St) (κ : Nat → K) (s : Nat) (v : Value) : Cap → Prop
  | .val t d => t.plain = true ∧ t.agg = false ∧ ∃ k cs, Rep h V t d k cs ∧ v = toVal t cs
  | .ptr r ver p => r ≠ s ∧ PtrC S κ r ver p v

/-- what a slot's content says of the slot's value -/
def CV (h : Heap) (V : Nat → Prop) (S : St) (κ : Nat → K) (s : Nat) (v : Value) : AV → Prop
  | .undef => κ s = .leaf
  | .nil => κ s = .leaf ∧ v = .slice none 0 0
  | .val t d => ∃ cs, Rep h V t d (κ s) cs ∧ v = toVal t cs
  | .tup t d => ∃ cs, Rep h V t d (κ s) cs ∧ ∃ vs, v = .tuple vs ∧ ∀ j, t.has j = true → vs[j]? = some (toVal (t.fld j) ((cs.drop (t.off j)).take (t.fld j).size))
  | .box t d => ∃ b κ0 arr ty, κ s = .lst b 0 1 1 (fun _ => κ0) ∧ v = .pointer (some ⟨b, 0, none⟩) ∧ h[b]? = some (.cells arr ty (0, 0)) ∧ Rep h V t d κ0 arr.toList
  | .ref r ver p t d => κ s = .leaf ∧ r ≠ s ∧ RefC h V S κ r ver p t d v
  | .win r ver p e lo n => κ s = .leaf ∧ r ≠ s ∧ WinC S κ r ver p e lo n v
  | .ptr r ver p => κ s = .leaf ∧ r ≠ s ∧ PtrC S κ r ver p v
  | .clo f l => κ s = .leaf ∧ ∃ vs : Array Value, v = .func (.func f) #[] vs ∧ vs.size = l.length ∧ ∀ (i : Nat) (c : Cap), l[i]? = some c → ∃ u, vs[i]? = some u ∧ CapC h V S κ s u c

structure Conc (h : Heap) (tm : Nat → Value) (V : Nat → Prop) (S : St) (κ : Nat → K) : Prop where
  cv : ∀ s, CV h V S κ s (tm s) (S s).av
  nd : ∀ s, (κ s).blocks.Nodup
  dj : ∀ s s', s ≠ s' → ∀ b, b ∈ (κ s).blocks → b ∉ (κ s').blocks
  dv : ∀ s b, b ∈ (κ s).blocks → ¬ V b
  lt : ∀ b, V b → b < h.size
  bl : ∀ s b, b ∈ (κ s).blocks → b < h.size

end Go.Own
