/- A layer over the walk: what lies in memory as plain data, each operation by what it does to data; part 5. -/
import Derived.Test.YtajcjfickmmjcaaOwD
set_option linter.unusedVariables false
set_option linter.unusedSimpArgs false
namespace Go.Own

theorem RefRep.frame {h h' : Heap} {V V' : Nat → Prop} {t : T} : ∀ {d κ cs}, RefRep h V t d κ cs → (∀ b, V b → h'[b]? = h[b]?) → (∀ b, V b → V' b) → RefRep h' V' t d κ cs := by
  have leaf : ∀ {t : T}, t.k0 = .leaf → ∀ {d : D} {cs : List Value}, Rep h V t d t.k0 cs → (∀ b, V b → h'[b]? = h[b]?) → (∀ b, V b → V' b) → Rep h' V' t d t.k0 cs :=
    fun _ _ _ hr hv hV => hr.frame (fun b hb => by simp at hb) hv hV
  induction t with
  | pair a b iha ihb =>
    rintro d κ cs ⟨c1, c2, rfl, hd, h1, h2⟩ hv hV
    exact ⟨c1, c2, rfl, hd, iha h1 hv hV, ihb h2 hv hV⟩
  | lst o e ih =>
    intro d κ cs hr hv hV
    cases o with
    | true => exact hr
    | false => exact leaf (t := .lst false e) rfl hr hv hV
  | unit => intro d κ cs hr hv hV; exact leaf (t := .unit) rfl hr hv hV
  | int k => intro d κ cs hr hv hV; exact leaf (t := .int k) rfl hr hv hV
  | bool => intro d κ cs hr hv hV; exact leaf (t := .bool) rfl hr hv hV
  | str => intro d κ cs hr hv hV; exact leaf (t := .str) rfl hr hv hV
  | ptr e ih => intro d κ cs hr hv hV; exact leaf (t := .ptr e) rfl hr hv hV
  | fn f c ih => intro d κ cs hr hv hV; exact leaf (t := .fn f c) rfl hr hv hV
  | gone => intro d κ cs hr hv hV; exact leaf (t := .gone) rfl hr hv hV

theorem RefC.frame {h h' : Heap} {V V' : Nat → Prop} {S : St} {κ : Nat → K} {r ver p t d v} (hc : RefC h V S κ r ver p t d v) (hv : ∀ b, V b → h'[b]? = h[b]?) (hV : ∀ b, V b → V' b) :
    RefC h' V' S κ r ver p t d v :=
  ⟨hc.1, fun tr dr bx a b c e => let ⟨cs, h1, h2⟩ := hc.2 tr dr bx a b c e; ⟨cs, h1.frame hv hV, h2⟩⟩

theorem CapC.frame {h h' : Heap} {V V' : Nat → Prop} {S : St} {κ : Nat → K} {s v c} (hc : CapC h V S κ s v c) (hv : ∀ b, V b → h'[b]? = h[b]?) (hV : ∀ b, V b → V' b) :
    CapC h' V' S κ s v c := by
  cases c with
  | val t d =>
    obtain ⟨hp, ha, k, cs, hr, e⟩ := hc
    exact ⟨hp, ha, k, cs, hr.frame (fun b hb => by rw [hr.plain_blocks hp] at hb; simp at hb) hv hV, e⟩
  | ptr r ver p => exact hc

theorem CV.frame {h h' : Heap} {V V' : Nat → Prop} {S : St} {κ : Nat → K} {s v} {a : AV} (hc : CV h V S κ s v a) (hb : ∀ b, b ∈ (κ s).blocks → h'[b]? = h[b]?)
    (hv : ∀ b, V b → h'[b]? = h[b]?) (hV : ∀ b, V b → V' b) : CV h' V' S κ s v a := by
  cases a with
  | undef => exact hc
  | nil => exact hc
  | val t d => obtain ⟨cs, hr, e⟩ := hc; exact ⟨cs, hr.frame hb hv hV, e⟩
  | tup t d => obtain ⟨cs, hr, e⟩ := hc; exact ⟨cs, hr.frame hb hv hV, e⟩
  | box t d =>
    obtain ⟨b, κ0, arr, ty, hk, e, hh, hr⟩ := hc
    refine ⟨b, κ0, arr, ty, hk, e, ?_, hr.frame (fun b' hb' => hb b' ?_) hv hV⟩
    · rw [hb b (by rw [hk]; simp [K.blocks])]; exact hh
    · rw [hk]; exact K.mem_nth (n := 0) (ks := fun _ => κ0) (by omega) hb'
  | ref r ver p t d => exact ⟨hc.1, hc.2.1, hc.2.2.frame hv hV⟩
  | win r ver p e lo n => exact hc
  | ptr r ver p => exact hc
  | clo f l =>
    obtain ⟨hk, vs, e, hl, hcs⟩ := hc
    exact ⟨hk, vs, e, hl, fun i c hi => let ⟨u, h1, h2⟩ := hcs i c hi; ⟨u, h1, h2.frame hv hV⟩⟩

/-- memory elsewhere -/
theorem Conc.frame {h h' : Heap} {tm V V' S κ} (hc : Conc h tm V S κ) (hb : ∀ s b, b ∈ (κ s).blocks → h'[b]? = h[b]?) (hv : ∀ b, V b → h'[b]? = h[b]?)
    (hV : ∀ b, V b → V' b) (hn : ∀ s b, b ∈ (κ s).blocks → ¬ V' b) (hl : ∀ b, V' b → b < h'.size) (hz : h.size ≤ h'.size) : Conc h' tm V' S κ :=
  ⟨fun s => (hc.cv s).frame (hb s) hv hV, hc.nd, hc.dj, hn, hl, fun s b hm => Nat.lt_of_lt_of_le (hc.bl s b hm) hz⟩

def updK (κ : Nat → K) (s : Nat) (k : K) : Nat → K := fun i => if i = s then k else κ i
@[simp] theorem updK_same (κ : Nat → K) (s : Nat) (k : K) : updK κ s k s = k := by simp [updK]
theorem updK_other (κ : Nat → K) {s i : Nat} (k : K) (h : i ≠ s) : updK κ s k i = κ i := by simp [updK, h]
def updV (tm : Nat → Value) (s : Nat) (v : Value) : Nat → Value := fun i => if i = s then v else tm i
@[simp] theorem updV_same (tm : Nat → Value) (s : Nat) (v : Value) : updV tm s v s = v := by simp [updV]
theorem updV_other (tm : Nat → Value) {s i : Nat} (v : Value) (h : i ≠ s) : updV tm s v i = tm i := by simp [updV, h]

/-- what is told of a slot's rows stays so when the slot is turned -/
structure Keeps (h : Heap) (V : Nat → Prop) (S S' : St) (κ κ' : Nat → K) (r : Nat) : Prop where
  ref : ∀ ver p t d v, RefC h V S κ r ver p t d v → RefC h V S' κ' r ver p t d v
  win : ∀ ver p e lo n v, WinC S κ r ver p e lo n v → WinC S' κ' r ver p e lo n v
  ptr : ∀ ver p v, PtrC S κ r ver p v → PtrC S' κ' r ver p v

theorem CV.turn {h : Heap} {V : Nat → Prop} {S : St} {κ : Nat → K} {r : Nat} {c : Cl} {k : K} (hk : Keeps h V S (S.put r c) κ (updK κ r k) r) {s v} {a : AV} (hs : s ≠ r)
    (hc : CV h V S κ s v a) : CV h V (S.put r c) (updK κ r k) s v a := by
  have e1 : ∀ {r'}, r' ≠ r → (S.put r c) r' = S r' := fun h => St.put_other S c h
  have e2 : ∀ {r'}, r' ≠ r → (updK κ r k) r' = κ r' := fun h => updK_other κ k h
  have hP : ∀ r' ver p v, PtrC S κ r' ver p v → PtrC (S.put r c) (updK κ r k) r' ver p v := by
    intro r' ver p v h
    by_cases hr : r' = r
    · subst hr; exact hk.ptr _ _ _ h
    · unfold PtrC at *; rw [e1 hr, e2 hr]; exact h
  cases a with
  | undef => simpa [CV, e2 hs] using hc
  | nil => simpa [CV, e2 hs] using hc
  | val t d => simpa [CV, e2 hs] using hc
  | tup t d => simpa [CV, e2 hs] using hc
  | box t d => simpa [CV, e2 hs] using hc
  | ref r' ver p t d =>
    refine ⟨by rw [e2 hs]; exact hc.1, hc.2.1, ?_⟩
    by_cases hr : r' = r
    · subst hr; exact hk.ref _ _ _ _ _ hc.2.2
    · have := hc.2.2; unfold RefC at *; rw [e1 hr, e2 hr]; exact this
  | win r' ver p e lo n =>
    refine ⟨by rw [e2 hs]; exact hc.1, hc.2.1, ?_⟩
    by_cases hr : r' = r
    · subst hr; exact hk.win _ _ _ _ _ _ hc.2.2
    · have := hc.2.2; unfold WinC at *; rw [e1 hr, e2 hr]; exact this
  | ptr r' ver p => exact ⟨by rw [e2 hs]; exact hc.1, hc.2.1, hP _ _ _ _ hc.2.2⟩
  | clo f l =>
    obtain ⟨h1, vs, e, hl, hcs⟩ := hc
    refine ⟨by rw [e2 hs]; exact h1, vs, e, hl, fun i c' hi => ?_⟩
    obtain ⟨u, hu, hcc⟩ := hcs i c' hi
    refine ⟨u, hu, ?_⟩
    cases c' with
    | val t d => exact hcc
    | ptr r' ver p => exact ⟨hcc.1, hP _ _ _ _ hcc.2⟩

/-- a slot is turned -/
theorem Conc.turn {h : Heap} {tm V S κ} (hc : Conc h tm V S κ) {r : Nat} {c : Cl} {k : K} {v : Value} (hk : Keeps h V S (S.put r c) κ (updK κ r k) r)
    (hcv : CV h V (S.put r c) (updK κ r k) r v c.av) (hnd : k.blocks.Nodup) (hdj : ∀ s, s ≠ r → ∀ b, b ∈ k.blocks → b ∉ (κ s).blocks) (hdv : ∀ b, b ∈ k.blocks → ¬ V b) (hbl : ∀ b, b ∈ k.blocks → b < h.size) :
    Conc h (updV tm r v) V (S.put r c) (updK κ r k) := by
  refine ⟨fun s => ?_, fun s => ?_, fun s s' hss b hb => ?_, fun s b hb => ?_, hc.lt, fun s b hb => ?_⟩
  · by_cases hs : s = r
    · subst hs; simpa using hcv
    · rw [updV_other _ _ hs, St.put_other _ _ hs]; exact (hc.cv s).turn hk hs
  · by_cases hs : s = r
    · subst hs; simpa using hnd
    · rw [updK_other _ _ hs]; exact hc.nd s
  · by_cases hs : s = r
    · subst hs; rw [updK_other _ _ (Ne.symm hss)]; rw [updK_same] at hb; exact hdj s' (Ne.symm hss) b hb
    · rw [updK_other _ _ hs] at hb
      by_cases hs' : s' = r
      · subst hs'; rw [updK_same]; intro hb'; exact hdj s hs b hb' hb
      · rw [updK_other _ _ hs']; exact hc.dj s s' hss b hb
  · by_cases hs : s = r
    · subst hs; rw [updK_same] at hb; exact hdv b hb
    · rw [updK_other _ _ hs] at hb; exact hc.dv s b hb
  · by_cases hs : s = r
    · subst hs; rw [updK_same] at hb; exact hbl b hb
    · rw [updK_other _ _ hs] at hb; exact hc.bl s b hb

@[simp] def Ver.kill (v : Ver) : Ver := ⟨v.id + 1, v.v0, v.v1⟩
@[simp] def Ver.head (v : Ver) : Ver := ⟨v.id, v.v0 + 1, v.v1 + 1⟩
@[simp] def Ver.cont (v : Ver) : Ver := ⟨v.id, v.v0, v.v1 + 1⟩

theorem Keeps.kill {h : Heap} {V : Nat → Prop} {S : St} {κ κ' : Nat → K} {r : Nat} {c : Cl} (hv : c.v = (S r).v.kill) : Keeps h V S (S.put r c) κ κ' r := by
  have key : ∀ {ver : Ver}, ver.le (S r).v → ver.le (S.put r c r).v := by
    intro ver hl; simp [hv]; exact ⟨by have := hl.1; simp; omega, hl.2.1, hl.2.2⟩
  refine ⟨fun ver p t d v hr => ⟨key hr.1, fun tr dr bx _ hl => ?_⟩, fun ver p e lo n v hr => ⟨key hr.1, fun tr dr bx _ hl => ?_⟩, fun ver p v hr => ⟨key hr.1, fun tr dr bx _ hl => ?_⟩⟩
  all_goals
    have h1 := hl.1
    have h2 := hr.1.1
    simp [hv] at h1
    omega

theorem Keeps.refl {h : Heap} {V : Nat → Prop} {S S' : St} {κ κ' : Nat → K} {r : Nat} (h1 : S' r = S r) (h2 : κ' r = κ r) : Keeps h V S S' κ κ' r :=
  ⟨fun _ _ _ _ _ h => by unfold RefC at *; rw [h1, h2]; exact h, fun _ _ _ _ _ _ h => by unfold WinC at *; rw [h1, h2]; exact h, fun _ _ _ h => by unfold PtrC at *; rw [h1, h2]; exact h⟩

/-- a slot is written anew: nothing in memory turns -/
theorem Conc.set {h : Heap} {tm V S κ} (hc : Conc h tm V S κ) (r : Nat) {a : AV} {k : K} {v : Value}
    (hcv : CV h V (S.put r ⟨a, (S r).v.kill⟩) (updK κ r k) r v a) (hnd : k.blocks.Nodup) (hdj : ∀ s, s ≠ r → ∀ b, b ∈ k.blocks → b ∉ (κ s).blocks) (hdv : ∀ b, b ∈ k.blocks → ¬ V b) (hbl : ∀ b, b ∈ k.blocks → b < h.size) :
    Conc h (updV tm r v) V (S.put r ⟨a, (S r).v.kill⟩) (updK κ r k) :=
  hc.turn (Keeps.kill rfl) hcv hnd hdj hdv hbl

@[simp] def T.shape : T → T
  | .pair a b => .pair a.shape b.shape
  | .unit => .unit
  | _ => .bool

theorem T.shape_size {t : T} : ∀ {u : T}, t.shape = u.shape → t.size = u.size := by
  induction t with
  | pair a b iha ihb =>
    intro u h
    cases u with
    | pair c d => simp only [T.shape, T.pair.injEq] at h; simp only [T.size]; rw [iha h.1, ihb h.2]
    | _ => simp at h
  | unit => intro u h; cases u <;> first | rfl | (simp at h)
  | _ => intro u h; cases u <;> first | rfl | (simp at h)

theorem T.shape_has : ∀ (j : Nat) {t u : T}, t.shape = u.shape → t.has j = u.has j ∧ t.off j = u.off j ∧ (t.fld j).shape = (u.fld j).shape := by
  intro j
  induction j with
  | zero =>
    intro t u h
    cases t <;> cases u <;> first | (simp only [T.shape, T.pair.injEq] at h; exact ⟨rfl, rfl, h.1⟩) | exact ⟨rfl, rfl, rfl⟩ | (simp at h)
  | succ j ih =>
    intro t u h
    cases t <;> cases u <;> first
      | (simp only [T.shape, T.pair.injEq] at h
         have h1 := ih h.2
         have h2 := T.shape_size h.1
         exact ⟨h1.1, by simp only [T.off]; rw [h2, h1.2.1], h1.2.2⟩)
      | exact ⟨rfl, rfl, rfl⟩ | (simp at h)

theorem T.shape_offs : ∀ (p : Path) {t u : T}, t.shape = u.shape → t.offs p = u.offs p ∧ t.flat p = u.flat p ∧ (t.flat p = true → (t.at p).shape = (u.at p).shape) := by
  intro p
  induction p with
  | nil => intro t u h; simp [h]
  | cons s p ih =>
    intro t u h
    cases s with
    | i n => simp
    | f j =>
      have h1 := T.shape_has j h
      have h2 := ih h1.2.2
      simp [h1.1, h1.2.1, h2]
      exact fun _ hf => h2.2.2 (h2.2.1 ▸ hf)

theorem T.set_shape : ∀ (p : Path) {t x : T}, t.flat p = true → x.shape = (t.at p).shape → (t.set p x).shape = t.shape := by
  have h1 : ∀ (j : Nat) {t x : T}, t.has j = true → x.shape = (t.fld j).shape → (t.setFld j x).shape = t.shape := by
    intro j
    induction j with
    | zero => intro t x hh hx; cases t <;> simp_all
    | succ j ih => intro t x hh hx; cases t <;> simp_all
  intro p
  induction p with
  | nil => intro t x _ h; simpa using h
  | cons s p ih =>
    intro t x hf hx
    cases s with
    | i n => simp at hf
    | f j => simp at hf hx ⊢; exact h1 j hf.1 (ih hf.2 hx)

theorem loc_flat : ∀ (p : Path) {t : T} {κ : K} {A : Pt}, depth p = 0 → loc t κ A p = A.map fun a => (a.1, a.2 + t.offs p) := by
  intro p
  induction p with
  | nil => intro t κ A _; cases A <;> simp [loc]
  | cons s p ih =>
    intro t κ A h
    cases s with
    | i n => simp at h
    | f j =>
      simp at h
      rw [loc, ih h]
      cases A <;> simp [Nat.add_assoc]

theorem ok_flat : ∀ (p : Path) {t u : T} {d d' : D}, depth p = 0 → t.shape = u.shape → Ok t d p → Ok u d' p := by
  intro p
  induction p with
  | nil => intros; trivial
  | cons s p ih =>
    intro t u d d' h hs hok
    cases s with
    | i n => simp at h
    | f j =>
      simp at h hok ⊢
      have h1 := T.shape_has j hs
      exact ⟨h1.1 ▸ hok.1, ih h h1.2.2 hok.2⟩

theorem Keeps.head {h : Heap} {V : Nat → Prop} {S : St} {κ : Nat → K} {k : K} {r : Nat} {c : Cl} {t t' d d' bx} (hv : c.v = (S r).v.head) (h1 : (S r).root = some (t, d, bx)) (h2 : c.root = some (t', d', bx))
    (hs : t'.shape = t.shape) (ha : addr bx k = addr bx (κ r)) : Keeps h V S (S.put r c) κ (updK κ r k) r := by
  have key : ∀ {ver : Ver}, ver.le (S r).v → ver.le (S.put r c r).v := by
    intro ver hl; simp [hv]; exact ⟨hl.1, by have := hl.2.1; simp; omega, by have := hl.2.2; simp; omega⟩
  refine ⟨fun ver p t d v hr => ⟨key hr.1, fun tr dr bx _ hl => ?_⟩, fun ver p e lo n v hr => ⟨key hr.1, fun tr dr bx _ hl => ?_⟩, fun ver p v hr => ⟨key hr.1, fun tr dr bx' hr' hl hok => ?_⟩⟩
  · have h1 := hl.2.1; have h2 := hr.1.2.1; simp [hv] at h1; omega
  · have h1 := hl.2.1; have h2 := hr.1.2.1; simp [hv] at h1; omega
  · simp at hr'
    rw [h2] at hr'
    cases hr'
    by_cases hd : depth p = 0
    · obtain ⟨b, o, e1, e2⟩ := hr.2 t d bx h1 ⟨by have := hl.1; simpa [hv] using this, fun hn => absurd hd hn, fun hn => by omega⟩ (ok_flat p hd hs hok)
      refine ⟨b, o, ?_, e2⟩
      rw [loc_flat p hd] at e1 ⊢
      rw [updK_same, ha, (T.shape_offs p hs).1]; exact e1
    · have h3 := hl.2.1 hd; have h4 := hr.1.2.1; simp [hv] at h3; omega

end Go.Own
