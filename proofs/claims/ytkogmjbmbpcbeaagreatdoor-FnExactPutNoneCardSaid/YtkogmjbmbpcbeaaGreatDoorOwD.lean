/- A layer over the walk: what lies in memory as plain data, each operation by what it does to data; part 2. -/
import Derived.Test.YtkogmjbmbpcbeaaGreatDoorOwA
set_option linter.unusedSectionVars false
set_option linter.unusedVariables false
set_option linter.unusedSimpArgs false
namespace Go.Own
@[simp] def T.flat : T → Path → Bool
 | _, [] => true
 | t, .f j :: p => t.has j && (t.fld j).flat p
 | _, .i _ :: _ => false
@[simp] def T.offs : T → Path → Nat
 | t, .f j :: p => t.off j + (t.fld j).offs p
 | _, _ => 0
theorem Rep.flat {h : Heap} {V : Nat → Prop} : ∀ (p : Path) {t d κ cs}, Rep h V t d κ cs → t.flat p = true →
 ∃ c1 c0 c2, cs = c1 ++ (c0 ++ c2) ∧ c1.length = t.offs p ∧ Rep h V (t.at p) (d.get p) (κ.get p) c0 ∧ (∀ b, b ∈ (κ.get p).blocks → b ∈ κ.blocks) ∧ (κ.blocks.Nodup → (κ.get p).blocks.Nodup) ∧
  ∀ {h' V' t' d' κ' c'}, Rep h' V' t' d' κ' c' → κ.blocks.Nodup → (∀ b, b ∈ κ.blocks → b ∉ (κ.get p).blocks → h'[b]? = h[b]?) → (∀ b, V b → h'[b]? = h[b]?) → (∀ b, V b → V' b) →
   Rep h' V' (t.set p t') (d.set p d') (κ.set p κ') (c1 ++ (c' ++ c2)) ∧ ((∀ b, b ∈ κ'.blocks → b ∉ κ.blocks ∨ b ∈ (κ.get p).blocks) → κ'.blocks.Nodup → (κ.set p κ').blocks.Nodup) ∧
    ∀ b, b ∈ (κ.set p κ').blocks → b ∈ κ'.blocks ∨ (b ∈ κ.blocks ∧ b ∉ (κ.get p).blocks) := by
 intro p
 induction p with
 | nil =>
   intro t d κ cs hr _
   exact ⟨[], cs, [], by simp, rfl, hr, fun b hb => hb, fun hn => hn, fun hr' _ _ _ _ => ⟨by simpa [K.set] using hr', fun _ hn => hn, fun b hb => .inl hb⟩⟩
 | cons s p ih =>
   cases s with
   | i n => intro t d κ cs hr hf; simp at hf
   | f j =>
     intro t d κ cs hr hf
     simp at hf
     obtain ⟨c1, cj, c2, rfl, hlen, hj, hin, hndj, hre⟩ := Rep.fld j hr hf.1
     obtain ⟨e1, e0, e2, rfl, elen, e0r, ein, end_, ere⟩ := ih hj hf.2
     refine ⟨c1 ++ e1, e0, e2 ++ c2, by simp, by simp [hlen, elen], e0r, fun b hb => hin b (ein b hb), fun hn => end_ (hndj hn), ?_⟩
     intro h' V' t' d' κ' c' hr' hnd hb hv hV
     obtain ⟨hR2, hN2, hM2⟩ := ere hr' (hndj hnd) (fun b hm => hb b (hin b hm)) hv hV
     obtain ⟨hR3, hN3, hM3⟩ := hre hR2 hnd (fun b hm hm' => hb b hm (fun hm2 => hm' (ein b hm2))) hv hV
     refine ⟨by simpa [K.set] using hR3, ?_, ?_⟩
     ·intro hd hn
      refine hN3 ?_ (hN2 ?_ hn)
      ·intro b' hb'
       rcases hM2 b' hb' with h | h
       ·rcases hd b' h with h' | h'
        ·exact .inl h'
        ·exact .inr (ein b' h')
       ·exact .inr h.1
      ·intro b' hb'
       rcases hd b' hb' with h | h
       ·exact .inl fun hm' => h (hin b' hm')
       ·exact .inr h
     ·intro b' hb'
      rcases hM3 b' hb' with h | h
      ·rcases hM2 b' h with h' | h'
       ·exact .inl h'
       ·exact .inr ⟨hin b' h'.1, h'.2⟩
      ·exact .inr ⟨h.1, fun hm' => h.2 (ein b' hm')⟩
def T.agg : T → Bool
 | .pair _ _ => true
 | .unit => true
 | _ => false
@[simp] theorem T.agg_unit  : (T.unit ).agg = true := rfl
@[simp] theorem T.agg_int (k : IntKind) : (T.int k).agg = false := rfl
@[simp] theorem T.agg_bool  : (T.bool ).agg = false := rfl
@[simp] theorem T.agg_str  : (T.str ).agg = false := rfl
@[simp] theorem T.agg_pair (a b : T) : (T.pair a b).agg = true := rfl
@[simp] theorem T.agg_lst (o : Bool) (e : T) : (T.lst o e).agg = false := rfl
@[simp] theorem T.agg_ptr (e : T) : (T.ptr e).agg = false := rfl
@[simp] theorem T.agg_fn (f : FuncId) (c : T) : (T.fn f c).agg = false := rfl
@[simp] theorem T.agg_err  : (T.err ).agg = false := rfl
@[simp] theorem T.agg_gone  : (T.gone ).agg = false := rfl
@[simp] theorem T.view_agg (t : T) : t.view.agg = t.agg := by cases t <;> rfl
def z0Q (t : T) (cs : List Value) : Value := if t.agg then .agg cs.toArray else cs.headD undef
theorem zCm {h : Heap} {V : Nat → Prop} {t : T} (hg : t ≠ .gone) {d κ cs} (hr : Rep h V t d κ cs) : (z0Q t cs).cells.toList = cs := by
 unfold z0Q
 cases t with
 | unit => rfl
 | pair a b => rfl
 | int k => obtain ⟨_, _, _, rfl, _⟩ := hr; rfl
 | bool => obtain ⟨_, _, _, rfl⟩ := hr; rfl
 | str => obtain ⟨_, _, _, rfl, _⟩ := hr; rfl
 | lst o e => obtain ⟨xs, _, ⟨_, _, A, rfl, _⟩ | ⟨b, off, c, arr, ty, fz, ks, rfl, _⟩⟩ := hr <;> rfl
 | ptr e => obtain ⟨_, _, b, o, arr, ty, fz, ke, rfl, _⟩ := hr; rfl
 | fn f c => obtain ⟨_, _, caps, kc, rfl, _⟩ := hr; rfl
 | err => obtain ⟨_, _, _, v, rfl, ⟨_, rfl⟩ | ⟨_, _, _, rfl⟩⟩ := hr <;> rfl
 | gone => exact absurd rfl hg
structure Ver where
 id : Nat
 v0 : Nat
 v1 : Nat
 deriving DecidableEq, Inhabited
inductive Cap where
 | val (t : T) (d : D)
 | ptr (r : Nat) (v : Ver) (p : Path)
 deriving Inhabited
@[simp] def T.moved : T → T
 | .pair a b => .pair a.moved b.moved
 | .lst true _ => .gone
 | t => t
inductive AV where
 | undef
 | nil
 | val (t : T) (d : D)
 | tup (t : T) (d : D)
 | box (t : T) (d : D)
 | ref (r : Nat) (v : Ver) (p : Path) (t : T) (d : D)
 | win (r : Nat) (v : Ver) (p : Path) (e : T) (lo n : Nat)
 | ptr (r : Nat) (v : Ver) (p : Path)
 | clo (f : FuncId) (l : List Cap)
 | bref (t : T) (d : D) (r : Nat) (v : Ver) (p : Path)
 deriving Inhabited
structure Cl where
 av : AV
 v : Ver
 deriving Inhabited
abbrev St := Nat → Cl
def St.put (S : St) (s : Nat) (c : Cl) : St := fun i => if i = s then c else S i
@[simp] theorem St.put_same (S : St) (s : Nat) (c : Cl) : S.put s c s = c := by simp [St.put]
theorem St.put_other (S : St) {s i : Nat} (c : Cl) (h : i ≠ s) : S.put s c i = S i := by simp [St.put, h]
@[simp] def depth : Path → Nat
 | [] => 0
 | .f _ :: p => depth p
 | .i _ :: p => depth p + 1
def Cl.root (c : Cl) : Option (T × D × Bool) :=
 match c.av with
 | .val t d => some (t, d, false)
 | .tup t d => some (t, d, false)
 | .box t d => some (t, d, true)
 | .bref t d _ _ _ => some (t.moved, d, true)
 | _ => none
def base (box : Bool) (κ : K) : K := if box then κ.nth 0 else κ
def addr (box : Bool) (κ : K) : Pt := if box then (match κ with | .lst b _ _ _ _ => some (b, 0) | _ => none) else none
def z1Q (v c : Ver) (m : Nat) : Prop := v.id = c.id ∧ v.v0 = c.v0 ∧ (m ≠ 0 → v.v1 = c.v1)
def z3t (v c : Ver) (m : Nat) : Prop := v.id = c.id ∧ (m ≠ 0 → v.v0 = c.v0) ∧ (1 < m → v.v1 = c.v1)
def Ver.le (a b : Ver) : Prop := a.id ≤ b.id ∧ a.v0 ≤ b.v0 ∧ a.v1 ≤ b.v1
def K.fst (κ : K) : K := κ.fld 0
def K.snd : K → K
 | .pair _ b => b
 | _ => .leaf
def z1B (h : Heap) (V : Nat → Prop) : T → D → K → List Value → Prop
 | .pair t u, d, κ, cs => ∃ c1 c2, cs = c1 ++ c2 ∧ d = .pair d.fst d.snd ∧ z1B h V t d.fst κ.fst c1 ∧ z1B h V u d.snd κ.snd c2
 | .lst true _, _, κ, cs => (κ = .leaf ∧ cs = [.slice none 0 0]) ∨ ∃ b off c n ks, κ = .lst b off c n ks ∧ cs = [.slice (some ⟨b, off, none⟩) n c]
 | t, d, _, cs => Rep h V t d t.k0 cs
def PtrC (S : St) (κ : Nat → K) (r : Nat) (ver : Ver) (p : Path) (v : Value) : Prop :=
 ver.le (S r).v ∧ ∀ tr dr bx, (S r).root = some (tr, dr, bx) → z3t ver (S r).v (depth p) → Ok tr dr p →
  ∃ b o, loc tr (base bx (κ r)) (addr bx (κ r)) p = some (b, o) ∧ v = .pointer (some ⟨b, o, none⟩)
def RefC (h : Heap) (V : Nat → Prop) (S : St) (κ : Nat → K) (r : Nat) (ver : Ver) (p : Path) (t : T) (d : D) (v : Value) : Prop :=
 ver.le (S r).v ∧ ∀ tr dr bx, (S r).root = some (tr, dr, bx) → z1Q ver (S r).v (depth p) → tr.at p = t → Ok tr dr p →
  ∃ cs, z1B h V t d ((base bx (κ r)).get p) cs ∧ v = z0Q t cs
def WinC (S : St) (κ : Nat → K) (r : Nat) (ver : Ver) (p : Path) (e : T) (lo n : Nat) (v : Value) : Prop :=
 ver.le (S r).v ∧ ∀ tr dr bx, (S r).root = some (tr, dr, bx) → z1Q ver (S r).v (depth p) → tr.at p = .lst true e → Ok tr dr p →
  ((base bx (κ r)).get p = .leaf ∧ lo = 0 ∧ n = 0 ∧ v = .slice none 0 0) ∨
  ∃ b off c m ks, (base bx (κ r)).get p = .lst b off c m ks ∧ lo + n ≤ m ∧ ((v = .slice (some ⟨b, off + lo * e.size, none⟩) n (c - lo)) ∨ (lo = c ∧ n = 0 ∧ v = .slice (some ⟨b, off, none⟩) 0 0))
def CapC (h : Heap) (V : Nat → Prop) (S : St) (κ : Nat → K) (s : Nat) (v : Value) : Cap → Prop
 | .val t d => t.plain = true ∧ t.agg = false ∧ ∃ k cs, Rep h V t d k cs ∧ v = z0Q t cs
 | .ptr r ver p => r ≠ s ∧ PtrC S κ r ver p v
def CV (h : Heap) (V : Nat → Prop) (S : St) (κ : Nat → K) (s : Nat) (v : Value) : AV → Prop
 | .undef => κ s = .leaf
 | .nil => κ s = .leaf ∧ v = .slice none 0 0
 | .val t d => ∃ cs, Rep h V t d (κ s) cs ∧ v = z0Q t cs
 | .tup t d => ∃ cs, Rep h V t d (κ s) cs ∧ ∃ vs, v = .tuple vs ∧ ∀ j, t.has j = true → vs[j]? = some (z0Q (t.fld j) ((cs.drop (t.off j)).take (t.fld j).size))
 | .box t d => ∃ b κ0 arr ty, κ s = .lst b 0 1 1 (fun _ => κ0) ∧ v = .pointer (some ⟨b, 0, none⟩) ∧ h[b]? = some (.cells arr ty (0, 0)) ∧ Rep h V t d κ0 arr.toList
 | .bref t d r ver p => ∃ b κ0 arr ty, κ s = .lst b 0 1 1 (fun _ => κ0) ∧ v = .pointer (some ⟨b, 0, none⟩) ∧ h[b]? = some (.cells arr ty (0, 0)) ∧ Rep h V t.moved d κ0 arr.toList ∧ t.agg = true ∧ r ≠ s ∧ RefC h V S κ r ver p t d (.agg arr)
 | .ref r ver p t d => κ s = .leaf ∧ r ≠ s ∧ RefC h V S κ r ver p t d v
 | .win r ver p e lo n => κ s = .leaf ∧ r ≠ s ∧ WinC S κ r ver p e lo n v
 | .ptr r ver p => κ s = .leaf ∧ r ≠ s ∧ PtrC S κ r ver p v
 | .clo f l => κ s = .leaf ∧ ∃ vs : Array Value, v = .func (.func f) #[] vs ∧ vs.size = l.length ∧ ∀ (i : Nat) (c : Cap), l[i]? = some c → ∃ u, vs[i]? = some u ∧ CapC h V S κ s u c
structure Conc (h : Heap) (tm : Nat → Value) (V : Nat → Prop) (S : St) (κ : Nat → K) : Prop where
 cv : ∀ s, CV h V S κ s (tm s) (S s).av
 nd : ∀ s, (κ s).blocks.Nodup
 dj : ∀ s s', s ≠ s' → ∀ b, b ∈ (κ s).blocks → b ∉ (κ s').blocks
 dv : ∀ s b, b ∈ (κ s).blocks → ¬ V b
 lt : ∀ b, V b → b < h.size
 bl : ∀ s b, b ∈ (κ s).blocks → b < h.size
end Go.Own
namespace Go.Own
theorem z1B.frame {h h' : Heap} {V V' : Nat → Prop} {t : T} : ∀ {d κ cs}, z1B h V t d κ cs → (∀ b, V b → h'[b]? = h[b]?) → (∀ b, V b → V' b) → z1B h' V' t d κ cs := by
 have leaf : ∀ {t : T}, t.k0 = .leaf → ∀ {d : D} {cs : List Value}, Rep h V t d t.k0 cs → (∀ b, V b → h'[b]? = h[b]?) → (∀ b, V b → V' b) → Rep h' V' t d t.k0 cs :=
  fun _ _ _ hr hv hV => hr.frame (fun b hb => by simp at hb) hv hV
 induction t with
 | pair a b iha ihb =>
   rintro d κ cs ⟨c1, c2, rfl, hd, h1, h2⟩ hv hV
   exact ⟨c1, c2, rfl, hd, iha h1 hv hV, ihb h2 hv hV⟩
 | lst o e ih =>
   intro d κ cs hr hv hV
   cases o with
   | true => exact hr
   | false => exact leaf (t := .lst false e) rfl hr hv hV
 | unit => intro d κ cs hr hv hV; exact leaf (t := .unit) rfl hr hv hV
 | int k => intro d κ cs hr hv hV; exact leaf (t := .int k) rfl hr hv hV
 | bool => intro d κ cs hr hv hV; exact leaf (t := .bool) rfl hr hv hV
 | str => intro d κ cs hr hv hV; exact leaf (t := .str) rfl hr hv hV
 | ptr e ih => intro d κ cs hr hv hV; exact leaf (t := .ptr e) rfl hr hv hV
 | fn f c ih => intro d κ cs hr hv hV; exact leaf (t := .fn f c) rfl hr hv hV
 | err => intro d κ cs hr hv hV; exact leaf (t := .err) rfl hr hv hV
 | gone => intro d κ cs hr hv hV; exact leaf (t := .gone) rfl hr hv hV
theorem RefC.frame {h h' : Heap} {V V' : Nat → Prop} {S : St} {κ : Nat → K} {r ver p t d v} (hc : RefC h V S κ r ver p t d v) (hv : ∀ b, V b → h'[b]? = h[b]?) (hV : ∀ b, V b → V' b) :
 RefC h' V' S κ r ver p t d v :=
 ⟨hc.1, fun tr dr bx a b c e => let ⟨cs, h1, h2⟩ := hc.2 tr dr bx a b c e; ⟨cs, h1.frame hv hV, h2⟩⟩
theorem CapC.frame {h h' : Heap} {V V' : Nat → Prop} {S : St} {κ : Nat → K} {s v c} (hc : CapC h V S κ s v c) (hv : ∀ b, V b → h'[b]? = h[b]?) (hV : ∀ b, V b → V' b) :
 CapC h' V' S κ s v c := by
 cases c with
 | val t d =>
   obtain ⟨hp, ha, k, cs, hr, e⟩ := hc
   exact ⟨hp, ha, k, cs, hr.frame (fun b hb => by rw [hr.plain_blocks hp] at hb; simp at hb) hv hV, e⟩
 | ptr r ver p => exact hc
theorem CV.frame {h h' : Heap} {V V' : Nat → Prop} {S : St} {κ : Nat → K} {s v} {a : AV} (hc : CV h V S κ s v a) (hb : ∀ b, b ∈ (κ s).blocks → h'[b]? = h[b]?)
 (hv : ∀ b, V b → h'[b]? = h[b]?) (hV : ∀ b, V b → V' b) : CV h' V' S κ s v a := by
 cases a with
 | undef => exact hc
 | nil => exact hc
 | val t d => obtain ⟨cs, hr, e⟩ := hc; exact ⟨cs, hr.frame hb hv hV, e⟩
 | tup t d => obtain ⟨cs, hr, e⟩ := hc; exact ⟨cs, hr.frame hb hv hV, e⟩
 | box t d =>
   obtain ⟨b, κ0, arr, ty, hk, e, hh, hr⟩ := hc
   refine ⟨b, κ0, arr, ty, hk, e, ?_, hr.frame (fun b' hb' => hb b' ?_) hv hV⟩
   ·rw [hb b (by rw [hk]; simp [K.blocks])]; exact hh
   ·rw [hk]; exact K.mem_nth (n := 0) (ks := fun _ => κ0) (by omega) hb'
 | bref t d r ver p =>
   obtain ⟨b, κ0, arr, ty, hk, e, hh, hr, ha, hrs, hc⟩ := hc
   refine ⟨b, κ0, arr, ty, hk, e, ?_, hr.frame (fun b' hb' => hb b' ?_) hv hV, ha, hrs, hc.frame hv hV⟩
   ·rw [hb b (by rw [hk]; simp [K.blocks])]; exact hh
   ·rw [hk]; exact K.mem_nth (n := 0) (ks := fun _ => κ0) (by omega) hb'
 | ref r ver p t d => exact ⟨hc.1, hc.2.1, hc.2.2.frame hv hV⟩
 | win r ver p e lo n => exact hc
 | ptr r ver p => exact hc
 | clo f l =>
   obtain ⟨hk, vs, e, hl, hcs⟩ := hc
   exact ⟨hk, vs, e, hl, fun i c hi => let ⟨u, h1, h2⟩ := hcs i c hi; ⟨u, h1, h2.frame hv hV⟩⟩
theorem Conc.frame {h h' : Heap} {tm V V' S κ} (hc : Conc h tm V S κ) (hb : ∀ s b, b ∈ (κ s).blocks → h'[b]? = h[b]?) (hv : ∀ b, V b → h'[b]? = h[b]?)
 (hV : ∀ b, V b → V' b) (hn : ∀ s b, b ∈ (κ s).blocks → ¬ V' b) (hl : ∀ b, V' b → b < h'.size) (hz : h.size ≤ h'.size) : Conc h' tm V' S κ :=
 ⟨fun s => (hc.cv s).frame (hb s) hv hV, hc.nd, hc.dj, hn, hl, fun s b hm => Nat.lt_of_lt_of_le (hc.bl s b hm) hz⟩
def updK (κ : Nat → K) (s : Nat) (k : K) : Nat → K := fun i => if i = s then k else κ i
@[simp] theorem z0U (κ : Nat → K) (s : Nat) (k : K) : updK κ s k s = k := by simp [updK]
theorem z09 (κ : Nat → K) {s i : Nat} (k : K) (h : i ≠ s) : updK κ s k i = κ i := by simp [updK, h]
def updV (tm : Nat → Value) (s : Nat) (v : Value) : Nat → Value := fun i => if i = s then v else tm i
@[simp] theorem updV_same (tm : Nat → Value) (s : Nat) (v : Value) : updV tm s v s = v := by simp [updV]
theorem z9n (tm : Nat → Value) {s i : Nat} (v : Value) (h : i ≠ s) : updV tm s v i = tm i := by simp [updV, h]
structure Keeps (h : Heap) (V : Nat → Prop) (S S' : St) (κ κ' : Nat → K) (r : Nat) : Prop where
 ref : ∀ ver p t d v, RefC h V S κ r ver p t d v → RefC h V S' κ' r ver p t d v
 win : ∀ ver p e lo n v, WinC S κ r ver p e lo n v → WinC S' κ' r ver p e lo n v
 ptr : ∀ ver p v, PtrC S κ r ver p v → PtrC S' κ' r ver p v
theorem CV.turn {h : Heap} {V : Nat → Prop} {S : St} {κ : Nat → K} {r : Nat} {c : Cl} {k : K} (hk : Keeps h V S (S.put r c) κ (updK κ r k) r) {s v} {a : AV} (hs : s ≠ r)
 (hc : CV h V S κ s v a) : CV h V (S.put r c) (updK κ r k) s v a := by
 have e1 : ∀ {r'}, r' ≠ r → (S.put r c) r' = S r' := fun h => St.put_other S c h
 have e2 : ∀ {r'}, r' ≠ r → (updK κ r k) r' = κ r' := fun h => z09 κ k h
 have hP : ∀ r' ver p v, PtrC S κ r' ver p v → PtrC (S.put r c) (updK κ r k) r' ver p v := by
  intro r' ver p v h
  by_cases hr : r' = r
  ·subst hr; exact hk.ptr _ _ _ h
  ·unfold PtrC at *; rw [e1 hr, e2 hr]; exact h
 cases a with
 | undef => simpa [CV, e2 hs] using hc
 | nil => simpa [CV, e2 hs] using hc
 | val t d => simpa [CV, e2 hs] using hc
 | tup t d => simpa [CV, e2 hs] using hc
 | box t d => simpa [CV, e2 hs] using hc
 | bref t d r' ver p =>
   obtain ⟨b, κ0, arr, ty, hk0, e, hh, hrr, ha, hrs, hc⟩ := hc
   refine ⟨b, κ0, arr, ty, by rw [e2 hs]; exact hk0, e, hh, hrr, ha, hrs, ?_⟩
   by_cases hr : r' = r
   ·subst hr; exact hk.ref _ _ _ _ _ hc
   ·unfold RefC at *; rw [e1 hr, e2 hr]; exact hc
 | ref r' ver p t d =>
   refine ⟨by rw [e2 hs]; exact hc.1, hc.2.1, ?_⟩
   by_cases hr : r' = r
   ·subst hr; exact hk.ref _ _ _ _ _ hc.2.2
   ·have := hc.2.2; unfold RefC at *; rw [e1 hr, e2 hr]; exact this
 | win r' ver p e lo n =>
   refine ⟨by rw [e2 hs]; exact hc.1, hc.2.1, ?_⟩
   by_cases hr : r' = r
   ·subst hr; exact hk.win _ _ _ _ _ _ hc.2.2
   ·have := hc.2.2; unfold WinC at *; rw [e1 hr, e2 hr]; exact this
 | ptr r' ver p => exact ⟨by rw [e2 hs]; exact hc.1, hc.2.1, hP _ _ _ _ hc.2.2⟩
 | clo f l =>
   obtain ⟨h1, vs, e, hl, hcs⟩ := hc
   refine ⟨by rw [e2 hs]; exact h1, vs, e, hl, fun i c' hi => ?_⟩
   obtain ⟨u, hu, hcc⟩ := hcs i c' hi
   refine ⟨u, hu, ?_⟩
   cases c' with
   | val t d => exact hcc
   | ptr r' ver p => exact ⟨hcc.1, hP _ _ _ _ hcc.2⟩
theorem Conc.turn {h : Heap} {tm V S κ} (hc : Conc h tm V S κ) {r : Nat} {c : Cl} {k : K} {v : Value} (hk : Keeps h V S (S.put r c) κ (updK κ r k) r)
 (hcv : CV h V (S.put r c) (updK κ r k) r v c.av) (hnd : k.blocks.Nodup) (hdj : ∀ s, s ≠ r → ∀ b, b ∈ k.blocks → b ∉ (κ s).blocks) (hdv : ∀ b, b ∈ k.blocks → ¬ V b) (hbl : ∀ b, b ∈ k.blocks → b < h.size) :
 Conc h (updV tm r v) V (S.put r c) (updK κ r k) := by
 refine ⟨fun s => ?_, fun s => ?_, fun s s' hss b hb => ?_, fun s b hb => ?_, hc.lt, fun s b hb => ?_⟩
 ·by_cases hs : s = r
  ·subst hs; simpa using hcv
  ·rw [z9n _ _ hs, St.put_other _ _ hs]; exact (hc.cv s).turn hk hs
 ·by_cases hs : s = r
  ·subst hs; simpa using hnd
  ·rw [z09 _ _ hs]; exact hc.nd s
 ·by_cases hs : s = r
  ·subst hs; rw [z09 _ _ (Ne.symm hss)]; rw [z0U] at hb; exact hdj s' (Ne.symm hss) b hb
  ·rw [z09 _ _ hs] at hb
   by_cases hs' : s' = r
   ·subst hs'; rw [z0U]; intro hb'; exact hdj s hs b hb' hb
   ·rw [z09 _ _ hs']; exact hc.dj s s' hss b hb
 ·by_cases hs : s = r
  ·subst hs; rw [z0U] at hb; exact hdv b hb
  ·rw [z09 _ _ hs] at hb; exact hc.dv s b hb
 ·by_cases hs : s = r
  ·subst hs; rw [z0U] at hb; exact hbl b hb
  ·rw [z09 _ _ hs] at hb; exact hc.bl s b hb
@[simp] def Ver.kill (v : Ver) : Ver := ⟨v.id + 1, v.v0, v.v1⟩
@[simp] def Ver.head (v : Ver) : Ver := ⟨v.id, v.v0 + 1, v.v1 + 1⟩
@[simp] def Ver.cont (v : Ver) : Ver := ⟨v.id, v.v0, v.v1 + 1⟩
theorem Keeps.kill {h : Heap} {V : Nat → Prop} {S : St} {κ κ' : Nat → K} {r : Nat} {c : Cl} (hv : c.v = (S r).v.kill) : Keeps h V S (S.put r c) κ κ' r := by
 have key : ∀ {ver : Ver}, ver.le (S r).v → ver.le (S.put r c r).v := by
  intro ver hl; simp [hv]; exact ⟨by have := hl.1; simp; omega, hl.2.1, hl.2.2⟩
 refine ⟨fun ver p t d v hr => ⟨key hr.1, fun tr dr bx _ hl => ?_⟩, fun ver p e lo n v hr => ⟨key hr.1, fun tr dr bx _ hl => ?_⟩, fun ver p v hr => ⟨key hr.1, fun tr dr bx _ hl => ?_⟩⟩
 all_goals
  have h1 := hl.1
  have h2 := hr.1.1
  simp [hv] at h1
  omega
theorem Keeps.refl {h : Heap} {V : Nat → Prop} {S S' : St} {κ κ' : Nat → K} {r : Nat} (h1 : S' r = S r) (h2 : κ' r = κ r) : Keeps h V S S' κ κ' r :=
 ⟨fun _ _ _ _ _ h => by unfold RefC at *; rw [h1, h2]; exact h, fun _ _ _ _ _ _ h => by unfold WinC at *; rw [h1, h2]; exact h, fun _ _ _ h => by unfold PtrC at *; rw [h1, h2]; exact h⟩
theorem Conc.set {h : Heap} {tm V S κ} (hc : Conc h tm V S κ) (r : Nat) {a : AV} {k : K} {v : Value}
 (hcv : CV h V (S.put r ⟨a, (S r).v.kill⟩) (updK κ r k) r v a) (hnd : k.blocks.Nodup) (hdj : ∀ s, s ≠ r → ∀ b, b ∈ k.blocks → b ∉ (κ s).blocks) (hdv : ∀ b, b ∈ k.blocks → ¬ V b) (hbl : ∀ b, b ∈ k.blocks → b < h.size) :
 Conc h (updV tm r v) V (S.put r ⟨a, (S r).v.kill⟩) (updK κ r k) :=
 hc.turn (Keeps.kill rfl) hcv hnd hdj hdv hbl
@[simp] def T.shape : T → T
 | .pair a b => .pair a.shape b.shape
 | .unit => .unit
 | _ => .bool
theorem T.shape_size {t : T} : ∀ {u : T}, t.shape = u.shape → t.size = u.size := by
 induction t with
 | pair a b iha ihb =>
   intro u h
   cases u with
   | pair c d => simp only [T.shape, T.pair.injEq] at h; simp only [T.size]; rw [iha h.1, ihb h.2]
   | _ => simp at h
 | unit => intro u h; cases u <;> first | rfl | (simp at h)
 | _ => intro u h; cases u <;> first | rfl | (simp at h)
theorem T.shape_has : ∀ (j : Nat) {t u : T}, t.shape = u.shape → t.has j = u.has j ∧ t.off j = u.off j ∧ (t.fld j).shape = (u.fld j).shape := by
 intro j
 induction j with
 | zero =>
   intro t u h
   cases t <;> cases u <;> first | (simp only [T.shape, T.pair.injEq] at h; exact ⟨rfl, rfl, h.1⟩) | exact ⟨rfl, rfl, rfl⟩ | (simp at h)
 | succ j ih =>
   intro t u h
   cases t <;> cases u <;> first
    | (simp only [T.shape, T.pair.injEq] at h
       have h1 := ih h.2
       have h2 := T.shape_size h.1
       exact ⟨h1.1, by simp only [T.off]; rw [h2, h1.2.1], h1.2.2⟩)
    | exact ⟨rfl, rfl, rfl⟩ | (simp at h)
theorem T.shape_offs : ∀ (p : Path) {t u : T}, t.shape = u.shape → t.offs p = u.offs p ∧ t.flat p = u.flat p ∧ (t.flat p = true → (t.at p).shape = (u.at p).shape) := by
 intro p
 induction p with
 | nil => intro t u h; simp [h]
 | cons s p ih =>
   intro t u h
   cases s with
   | i n => simp
   | f j =>
     have h1 := T.shape_has j h
     have h2 := ih h1.2.2
     simp [h1.1, h1.2.1, h2]
     exact fun _ hf => h2.2.2 (h2.2.1 ▸ hf)
theorem T.set_shape : ∀ (p : Path) {t x : T}, t.flat p = true → x.shape = (t.at p).shape → (t.set p x).shape = t.shape := by
 have h1 : ∀ (j : Nat) {t x : T}, t.has j = true → x.shape = (t.fld j).shape → (t.setFld j x).shape = t.shape := by
  intro j
  induction j with
  | zero => intro t x hh hx; cases t <;> simp_all
  | succ j ih => intro t x hh hx; cases t <;> simp_all
 intro p
 induction p with
 | nil => intro t x _ h; simpa using h
 | cons s p ih =>
   intro t x hf hx
   cases s with
   | i n => simp at hf
   | f j => simp at hf hx ⊢; exact h1 j hf.1 (ih hf.2 hx)
theorem z8T : ∀ (p : Path) {t : T} {κ : K} {A : Pt}, depth p = 0 → loc t κ A p = A.map fun a => (a.1, a.2 + t.offs p) := by
 intro p
 induction p with
 | nil => intro t κ A _; cases A <;> simp [loc]
 | cons s p ih =>
   intro t κ A h
   cases s with
   | i n => simp at h
   | f j =>
     simp at h
     rw [loc, ih h]
     cases A <;> simp [Nat.add_assoc]
theorem zJj : ∀ (p : Path) {t u : T} {d d' : D}, depth p = 0 → t.shape = u.shape → Ok t d p → Ok u d' p := by
 intro p
 induction p with
 | nil => intros; trivial
 | cons s p ih =>
   intro t u d d' h hs hok
   cases s with
   | i n => simp at h
   | f j =>
     simp at h hok ⊢
     have h1 := T.shape_has j hs
     exact ⟨h1.1 ▸ hok.1, ih h h1.2.2 hok.2⟩
theorem Keeps.head {h : Heap} {V : Nat → Prop} {S : St} {κ : Nat → K} {k : K} {r : Nat} {c : Cl} {t t' d d' bx} (hv : c.v = (S r).v.head) (h1 : (S r).root = some (t, d, bx)) (h2 : c.root = some (t', d', bx))
 (hs : t'.shape = t.shape) (ha : addr bx k = addr bx (κ r)) : Keeps h V S (S.put r c) κ (updK κ r k) r := by
 have key : ∀ {ver : Ver}, ver.le (S r).v → ver.le (S.put r c r).v := by
  intro ver hl; simp [hv]; exact ⟨hl.1, by have := hl.2.1; simp; omega, by have := hl.2.2; simp; omega⟩
 refine ⟨fun ver p t d v hr => ⟨key hr.1, fun tr dr bx _ hl => ?_⟩, fun ver p e lo n v hr => ⟨key hr.1, fun tr dr bx _ hl => ?_⟩, fun ver p v hr => ⟨key hr.1, fun tr dr bx' hr' hl hok => ?_⟩⟩
 ·have h1 := hl.2.1; have h2 := hr.1.2.1; simp [hv] at h1; omega
 ·have h1 := hl.2.1; have h2 := hr.1.2.1; simp [hv] at h1; omega
 ·simp at hr'
  rw [h2] at hr'
  cases hr'
  by_cases hd : depth p = 0
  ·obtain ⟨b, o, e1, e2⟩ := hr.2 t d bx h1 ⟨by have := hl.1; simpa [hv] using this, fun hn => absurd hd hn, fun hn => by omega⟩ (zJj p hd hs hok)
   refine ⟨b, o, ?_, e2⟩
   rw [z8T p hd] at e1 ⊢
   rw [z0U, ha, (T.shape_offs p hs).1]; exact e1
  ·have h3 := hl.2.1 hd; have h4 := hr.1.2.1; simp [hv] at h3; omega
end Go.Own
namespace Go.Own
def Hdr (κ κ' : K) : Prop := κ = κ' ∨ ∃ b off c n ks ks', κ = .lst b off c n ks ∧ κ' = .lst b off c n ks'
def SimK : T → K → K → Prop
 | .pair t u, κ, κ' => SimK t κ.fst κ'.fst ∧ SimK u κ.snd κ'.snd
 | .lst true _, κ, κ' => Hdr κ κ'
 | _, _, _ => True
def SimD : T → D → D → Prop
 | .pair t u, d, d' => SimD t d.fst d'.fst ∧ SimD u d.snd d'.snd
 | .lst true _, d, d' => d.l.length = d'.l.length
 | _, _, _ => True
theorem SimK.refl (t : T) : ∀ (κ : K), SimK t κ κ := by
 induction t with
 | pair a b iha ihb => exact fun κ => ⟨iha _, ihb _⟩
 | lst o e ih => intro κ; cases o; trivial; exact .inl rfl
 | _ => intro κ; trivial
theorem SimD.refl (t : T) : ∀ (κ : D), SimD t κ κ := by
 induction t with
 | pair a b iha ihb => exact fun κ => ⟨iha _, ihb _⟩
 | lst o e ih => intro κ; cases o; trivial; exact rfl
 | _ => intro κ; trivial
theorem SimK.plain {t : T} (h : t.plain = true) : ∀ (κ κ' : K), SimK t κ κ' := by
 induction t with
 | pair a b iha ihb => simp at h; exact fun κ κ' => ⟨iha h.1 _ _, ihb h.2 _ _⟩
 | lst o e ih => simp at h; subst_vars; intro κ κ'; cases o; trivial; simp at h
 | _ => intro κ κ'; trivial
theorem SimD.plain {t : T} (h : t.plain = true) : ∀ (κ κ' : D), SimD t κ κ' := by
 induction t with
 | pair a b iha ihb => simp at h; exact fun κ κ' => ⟨iha h.1 _ _, ihb h.2 _ _⟩
 | lst o e ih => simp at h; subst_vars; intro κ κ'; cases o; trivial; simp at h
 | _ => intro κ κ'; trivial
theorem K.fld_succ (κ : K) (j : Nat) : κ.fld (j + 1) = κ.snd.fld j := by cases κ <;> simp [K.fld, K.snd]
theorem D.fld_succ (d : D) (j : Nat) : d.fld (j + 1) = d.snd.fld j := rfl
theorem SimK.fld : ∀ (j : Nat) {t : T} {κ k : K}, t.has j = true → SimK (t.fld j) (κ.fld j) k → SimK t κ (κ.setFld j k) := by
 intro j
 induction j with
 | zero =>
   intro t κ k hh h
   cases t <;> simp at hh
   cases κ with
   | pair x y => exact ⟨h, SimK.refl _ _⟩
   | _ => exact SimK.refl _ _
 | succ j ih =>
   intro t κ k hh h
   cases t <;> simp at hh
   cases κ with
   | pair x y => exact ⟨SimK.refl _ _, ih hh h⟩
   | _ => exact SimK.refl _ _
theorem SimD.fld : ∀ (j : Nat) {t : T} {κ k : D}, t.has j = true → SimD (t.fld j) (κ.fld j) k → SimD t κ (κ.setFld j k) := by
 intro j
 induction j with
 | zero =>
   intro t κ k hh h
   cases t <;> simp at hh
   exact ⟨h, SimD.refl _ _⟩
 | succ j ih =>
   intro t κ k hh h
   cases t <;> simp at hh
   exact ⟨SimD.refl _ _, ih hh h⟩
theorem SimK.set : ∀ (p : Path) {t : T} {κ k : K} {d : D}, Ok t d p → (depth p = 0 → SimK (t.at p) (κ.get p) k) → SimK t κ (κ.set p k) := by
 intro p
 induction p with
 | nil => intro t κ k d _ h; exact h rfl
 | cons s p ih =>
   intro t κ k d hok h
   cases s with
   | f j => simp at hok h; exact SimK.fld j hok.1 (ih hok.2 h)
   | i n =>
     simp at hok
     cases t <;> simp at hok
     obtain ⟨rfl, _⟩ := hok
     cases κ with
     | lst b off c m ks => exact .inr ⟨b, off, c, m, ks, _, rfl, rfl⟩
     | _ => exact .inl rfl
theorem SimD.set : ∀ (p : Path) {t : T} {d x : D}, Ok t d p → (depth p = 0 → SimD (t.at p) (d.get p) x) → SimD t d (d.set p x) := by
 intro p
 induction p with
 | nil => intro t d x _ h; exact h rfl
 | cons s p ih =>
   intro t d x hok h
   cases s with
   | f j => simp at hok h; exact SimD.fld j hok.1 (ih hok.2 h)
   | i n =>
     simp at hok
     cases t <;> simp at hok
     obtain ⟨rfl, _⟩ := hok
     show _ = _
     simp
theorem SimK.at : ∀ (p : Path) {t : T} {κ κ' : K}, t.flat p = true → SimK t κ κ' → SimK (t.at p) (κ.get p) (κ'.get p) := by
 have h1 : ∀ (j : Nat) {t : T} {κ κ' : K}, t.has j = true → SimK t κ κ' → SimK (t.fld j) (κ.fld j) (κ'.fld j) := by
  intro j
  induction j with
  | zero => intro t κ κ' hh h; cases t <;> simp at hh; exact h.1
  | succ j ih => intro t κ κ' hh h; cases t <;> simp at hh; rw [K.fld_succ, K.fld_succ]; exact ih hh h.2
 intro p
 induction p with
 | nil => intro t κ κ' _ h; exact h
 | cons s p ih =>
   intro t κ κ' hf h
   cases s with
   | i n => simp at hf
   | f j => simp at hf; exact ih hf.2 (h1 j hf.1 h)
theorem z7E : ∀ (p : Path) {t : T} {d : D}, depth p = 0 → Ok t d p → t.flat p = true := by
 intro p
 induction p with
 | nil => intros; rfl
 | cons s p ih =>
   intro t d h hok
   cases s with
   | i n => simp at h
   | f j => simp at h hok ⊢; exact ⟨hok.1, ih h hok.2⟩
theorem z1B.sim {h : Heap} {V : Nat → Prop} {t : T} : ∀ {d κ κ' cs}, z1B h V t d κ cs → SimK t κ κ' → z1B h V t d κ' cs := by
 induction t with
 | pair a b iha ihb => rintro d κ κ' cs ⟨c1, c2, rfl, hd, h1, h2⟩ hs; exact ⟨c1, c2, rfl, hd, iha h1 hs.1, ihb h2 hs.2⟩
 | lst o e ih =>
   intro d κ κ' cs hr hs
   cases o with
   | false => exact hr
   | true =>
     rcases hs with rfl | ⟨b, off, c, n, ks, ks', rfl, rfl⟩
     ·exact hr
     ·rcases hr with ⟨h1, _⟩ | ⟨b', off', c', n', ks2, h1, h2⟩
      ·cases h1
      ·cases h1; exact .inr ⟨b, off, c, n, ks', rfl, h2⟩
 | _ => intro d κ κ' cs hr _; exact hr
theorem SimD.ok1 : ∀ (p : Path) {t : T} {d d' : D}, SimD t d d' → depth p ≤ 1 → Ok t d' p → Ok t d p := by
 have h1 : ∀ (j : Nat) {t : T} {κ κ' : D}, t.has j = true → SimD t κ κ' → SimD (t.fld j) (κ.fld j) (κ'.fld j) := by
  intro j
  induction j with
  | zero => intro t κ κ' hh h; cases t <;> simp at hh; exact h.1
  | succ j ih => intro t κ κ' hh h; cases t <;> simp at hh; rw [D.fld_succ, D.fld_succ]; exact ih hh h.2
 intro p
 induction p with
 | nil => intros; trivial
 | cons s p ih =>
   intro t d d' hs hd hok
   cases s with
   | f j => simp at hd hok ⊢; exact ⟨hok.1, ih (h1 j hok.1 hs) hd hok.2⟩
   | i n =>
     simp only [depth] at hd
     simp only [Ok] at hok ⊢
     cases t <;> simp at hok
     obtain ⟨rfl, hn, hok⟩ := hok
     have hl : d.l.length = d'.l.length := hs
     exact ⟨rfl, by omega, zJj p (by omega) rfl hok⟩
theorem SimK.loc1 : ∀ (p : Path) {t : T} {d : D} {κ κ' : K} {A : Pt}, SimK t κ κ' → depth p ≤ 1 → Ok t d p → loc t κ' A p = loc t κ A p := by
 intro p
 induction p with
 | nil => intros; simp [loc]
 | cons s p ih =>
   intro t d κ κ' A hs hd hok
   cases s with
   | f j =>
     simp at hd hok
     have := SimK.at [.f j] (t := t) (κ := κ) (κ' := κ') (by simp [hok.1]) hs
     simp [loc]; exact ih this hd hok.2
   | i n =>
     simp only [depth] at hd
     simp only [Ok] at hok
     cases t <;> simp at hok
     obtain ⟨rfl, hn, hok⟩ := hok
     rcases hs with rfl | ⟨b, off, c, m, ks, ks', rfl, rfl⟩
     ·rfl
     ·simp only [loc]; rw [z8T p (by omega), z8T p (by omega)]
theorem Keeps.cont {h : Heap} {V : Nat → Prop} {S : St} {κ : Nat → K} {k : K} {r : Nat} {c : Cl} {t d d' bx} (hv : c.v = (S r).v.cont) (h1 : (S r).root = some (t, d, bx)) (h2 : c.root = some (t, d', bx))
 (hk : SimK t (base bx (κ r)) (base bx k)) (hd : SimD t d d') (ha : addr bx k = addr bx (κ r)) : Keeps h V S (S.put r c) κ (updK κ r k) r := by
 have key : ∀ {ver : Ver}, ver.le (S r).v → ver.le (S.put r c r).v := by
  intro ver hl; simp [hv]; exact ⟨hl.1, hl.2.1, by have := hl.2.2; simp; omega⟩
 refine ⟨fun ver p tt dd v hr => ⟨key hr.1, fun tr dr bx' hr' hl ht hok => ?_⟩, fun ver p e lo n v hr => ⟨key hr.1, fun tr dr bx' hr' hl ht hok => ?_⟩, fun ver p v hr => ⟨key hr.1, fun tr dr bx' hr' hl hok => ?_⟩⟩
 ·simp at hr'; rw [h2] at hr'; cases hr'
  by_cases hp : depth p = 0
  ·obtain ⟨cs, e1, e2⟩ := hr.2 t d bx h1 ⟨by simpa [hv] using hl.1, by simpa [hv] using hl.2.1, fun hn => absurd hp hn⟩ ht (hd.ok1 p (by omega) hok)
   refine ⟨cs, ?_, e2⟩
   subst ht
   rw [z0U]
   exact e1.sim (hk.at p (z7E p hp hok))
  ·have h3 := hl.2.2 hp; have h4 := hr.1.2.2; simp [hv] at h3; omega
 ·simp at hr'; rw [h2] at hr'; cases hr'
  by_cases hp : depth p = 0
  ·have hs := hk.at p (z7E p hp hok)
   rw [ht] at hs
   rw [z0U]
   rcases hr.2 t d bx h1 ⟨by simpa [hv] using hl.1, by simpa [hv] using hl.2.1, fun hn => absurd hp hn⟩ ht (hd.ok1 p (by omega) hok) with ⟨e1, e2⟩ | ⟨b, off, cc, m, ks, e1, e2⟩
   ·rw [e1] at hs
    rcases hs with hs | ⟨_, _, _, _, _, _, hs, _⟩
    ·exact .inl ⟨hs.symm, e2⟩
    ·cases hs
   ·rw [e1] at hs
    rcases hs with hs | ⟨_, _, _, _, _, ks', hs, hs'⟩
    ·exact .inr ⟨b, off, cc, m, ks, hs.symm, e2⟩
    ·cases hs; exact .inr ⟨b, off, cc, m, ks', hs', e2⟩
  ·have h3 := hl.2.2 hp; have h4 := hr.1.2.2; simp [hv] at h3; omega
 ·simp at hr'; rw [h2] at hr'; cases hr'
  by_cases hp : depth p ≤ 1
  ·obtain ⟨b, o, e1, e2⟩ := hr.2 t d bx h1 ⟨by simpa [hv] using hl.1, by simpa [hv] using hl.2.1, fun hn => by omega⟩ (hd.ok1 p hp hok)
   refine ⟨b, o, ?_, e2⟩
   rw [z0U, ha, hk.loc1 p hp hok]; exact e1
  ·have h3 := hl.2.2 (by omega); have h4 := hr.1.2.2; simp [hv] at h3; omega
end Go.Own
