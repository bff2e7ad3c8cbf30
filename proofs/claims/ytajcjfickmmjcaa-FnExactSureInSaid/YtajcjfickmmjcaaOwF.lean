/- A layer over the walk: what lies in memory as plain data, each operation by what it does to data; part 6. -/
import Derived.Test.YtajcjfickmmjcaaOwE
set_option linter.unusedVariables false
set_option linter.unusedSimpArgs false
namespace Go.Own

def Hdr (κ κ' : K) : Prop := κ = κ' ∨ ∃ b off c n ks ks', κ = .lst b off c n ks ∧ κ' = .lst b off c n ks'

/-- the same rows ahead -/
def SimK : T → K → K → Prop
  | .pair t u, κ, κ' => SimK t κ.fst κ'.fst ∧ SimK u κ.snd κ'.snd
  | .lst true _, κ, κ' => Hdr κ κ'
  | _, _, _ => True
def SimD : T → D → D → Prop
  | .pair t u, d, d' => SimD t d.fst d'.fst ∧ SimD u d.snd d'.snd
  | .lst true _, d, d' => d.l.length = d'.l.length
  | _, _, _ => True

theorem SimK.refl (t : T) : ∀ (κ : K), SimK t κ κ := by
  induction t with
  | pair a b iha ihb => exact fun κ => ⟨iha _, ihb _⟩
  | lst o e ih => intro κ; cases o; trivial; exact .inl rfl
  | _ => intro κ; trivial
theorem SimD.refl (t : T) : ∀ (κ : D), SimD t κ κ := by
  induction t with
  | pair a b iha ihb => exact fun κ => ⟨iha _, ihb _⟩
  | lst o e ih => intro κ; cases o; trivial; exact rfl
  | _ => intro κ; trivial
theorem SimK.plain {t : T} (h : t.plain = true) : ∀ (κ κ' : K), SimK t κ κ' := by
  induction t with
  | pair a b iha ihb => simp at h; exact fun κ κ' => ⟨iha h.1 _ _, ihb h.2 _ _⟩
  | lst o e ih => simp at h; subst_vars; intro κ κ'; cases o; trivial; simp at h
  | _ => intro κ κ'; trivial
theorem SimD.plain {t : T} (h : t.plain = true) : ∀ (κ κ' : D), SimD t κ κ' := by
  induction t with
  | pair a b iha ihb => simp at h; exact fun κ κ' => ⟨iha h.1 _ _, ihb h.2 _ _⟩
  | lst o e ih => simp at h; subst_vars; intro κ κ'; cases o; trivial; simp at h
  | _ => intro κ κ'; trivial

theorem K.fld_succ (κ : K) (j : Nat) : κ.fld (j + 1) = κ.snd.fld j := by cases κ <;> simp [K.fld, K.snd]
theorem D.fld_succ (d : D) (j : Nat) : d.fld (j + 1) = d.snd.fld j := rfl

theorem SimK.fld : ∀ (j : Nat) {t : T} {κ k : K}, t.has j = true → SimK (t.fld j) (κ.fld j) k → SimK t κ (κ.setFld j k) := by
  intro j
  induction j with
  | zero =>
    intro t κ k hh h
    cases t <;> simp at hh
    cases κ with
    | pair x y => exact ⟨h, SimK.refl _ _⟩
    | _ => exact SimK.refl _ _
  | succ j ih =>
    intro t κ k hh h
    cases t <;> simp at hh
    cases κ with
    | pair x y => exact ⟨SimK.refl _ _, ih hh h⟩
    | _ => exact SimK.refl _ _
theorem SimD.fld : ∀ (j : Nat) {t : T} {κ k : D}, t.has j = true → SimD (t.fld j) (κ.fld j) k → SimD t κ (κ.setFld j k) := by
  intro j
  induction j with
  | zero =>
    intro t κ k hh h
    cases t <;> simp at hh
    exact ⟨h, SimD.refl _ _⟩
  | succ j ih =>
    intro t κ k hh h
    cases t <;> simp at hh
    exact ⟨SimD.refl _ _, ih hh h⟩

theorem SimK.set : ∀ (p : Path) {t : T} {κ k : K} {d : D}, Ok t d p → (depth p = 0 → SimK (t.at p) (κ.get p) k) → SimK t κ (κ.set p k) := by
  intro p
  induction p with
  | nil => intro t κ k d _ h; exact h rfl
  | cons s p ih =>
    intro t κ k d hok h
    cases s with
    | f j => simp at hok h; exact SimK.fld j hok.1 (ih hok.2 h)
    | i n =>
      simp at hok
      cases t <;> simp at hok
      obtain ⟨rfl, _⟩ := hok
      cases κ with
      | lst b off c m ks => exact .inr ⟨b, off, c, m, ks, _, rfl, rfl⟩
      | _ => exact .inl rfl
theorem SimD.set : ∀ (p : Path) {t : T} {d x : D}, Ok t d p → (depth p = 0 → SimD (t.at p) (d.get p) x) → SimD t d (d.set p x) := by
  intro p
  induction p with
  | nil => intro t d x _ h; exact h rfl
  | cons s p ih =>
    intro t d x hok h
    cases s with
    | f j => simp at hok h; exact SimD.fld j hok.1 (ih hok.2 h)
    | i n =>
      simp at hok
      cases t <;> simp at hok
      obtain ⟨rfl, _⟩ := hok
      show _ = _
      simp

theorem SimK.at : ∀ (p : Path) {t : T} {κ κ' : K}, t.flat p = true → SimK t κ κ' → SimK (t.at p) (κ.get p) (κ'.get p) := by
  have h1 : ∀ (j : Nat) {t : T} {κ κ' : K}, t.has j = true → SimK t κ κ' → SimK (t.fld j) (κ.fld j) (κ'.fld j) := by
    intro j
    induction j with
    | zero => intro t κ κ' hh h; cases t <;> simp at hh; exact h.1
    | succ j ih => intro t κ κ' hh h; cases t <;> simp at hh; rw [K.fld_succ, K.fld_succ]; exact ih hh h.2
  intro p
  induction p with
  | nil => intro t κ κ' _ h; exact h
  | cons s p ih =>
    intro t κ κ' hf h
    cases s with
    | i n => simp at hf
    | f j => simp at hf; exact ih hf.2 (h1 j hf.1 h)

theorem ok_flat_of : ∀ (p : Path) {t : T} {d : D}, depth p = 0 → Ok t d p → t.flat p = true := by
  intro p
  induction p with
  | nil => intros; rfl
  | cons s p ih =>
    intro t d h hok
    cases s with
    | i n => simp at h
    | f j => simp at h hok ⊢; exact ⟨hok.1, ih h hok.2⟩

theorem RefRep.sim {h : Heap} {V : Nat → Prop} {t : T} : ∀ {d κ κ' cs}, RefRep h V t d κ cs → SimK t κ κ' → RefRep h V t d κ' cs := by
  induction t with
  | pair a b iha ihb => rintro d κ κ' cs ⟨c1, c2, rfl, hd, h1, h2⟩ hs; exact ⟨c1, c2, rfl, hd, iha h1 hs.1, ihb h2 hs.2⟩
  | lst o e ih =>
    intro d κ κ' cs hr hs
    cases o with
    | false => exact hr
    | true =>
      rcases hs with rfl | ⟨b, off, c, n, ks, ks', rfl, rfl⟩
      · exact hr
      · rcases hr with ⟨h1, _⟩ | ⟨b', off', c', n', ks2, h1, h2⟩
        · cases h1
        · cases h1; exact .inr ⟨b, off, c, n, ks', rfl, h2⟩
  | _ => intro d κ κ' cs hr _; exact hr

theorem SimD.ok1 : ∀ (p : Path) {t : T} {d d' : D}, SimD t d d' → depth p ≤ 1 → Ok t d' p → Ok t d p := by
  have h1 : ∀ (j : Nat) {t : T} {κ κ' : D}, t.has j = true → SimD t κ κ' → SimD (t.fld j) (κ.fld j) (κ'.fld j) := by
    intro j
    induction j with
    | zero => intro t κ κ' hh h; cases t <;> simp at hh; exact h.1
    | succ j ih => intro t κ κ' hh h; cases t <;> simp at hh; rw [D.fld_succ, D.fld_succ]; exact ih hh h.2
  intro p
  induction p with
  | nil => intros; trivial
  | cons s p ih =>
    intro t d d' hs hd hok
    cases s with
    | f j => simp at hd hok ⊢; exact ⟨hok.1, ih (h1 j hok.1 hs) hd hok.2⟩
    | i n =>
      simp only [depth] at hd
      simp only [Ok] at hok ⊢
      cases t <;> simp at hok
      obtain ⟨rfl, hn, hok⟩ := hok
      have hl : d.l.length = d'.l.length := hs
      exact ⟨rfl, by omega, ok_flat p (by omega) rfl hok⟩

theorem SimK.loc1 : ∀ (p : Path) {t : T} {d : D} {κ κ' : K} {A : Pt}, SimK t κ κ' → depth p ≤ 1 → Ok t d p → loc t κ' A p = loc t κ A p := by
  intro p
  induction p with
  | nil => intros; simp [loc]
  | cons s p ih =>
    intro t d κ κ' A hs hd hok
    cases s with
    | f j =>
      simp at hd hok
      have := SimK.at [.f j] (t := t) (κ := κ) (κ' := κ') (by simp [hok.1]) hs
      simp [loc]; exact ih this hd hok.2
    | i n =>
      simp only [depth] at hd
      simp only [Ok] at hok
      cases t <;> simp at hok
      obtain ⟨rfl, hn, hok⟩ := hok
      rcases hs with rfl | ⟨b, off, c, m, ks, ks', rfl, rfl⟩
      · rfl
      · simp only [loc]; rw [loc_flat p (by omega), loc_flat p (by omega)]

theorem Keeps.cont {h : Heap} {V : Nat → Prop} {S : St} {κ : Nat → K} {k : K} {r : Nat} {c : Cl} {t d d' bx} (hv : c.v = (S r).v.cont) (h1 : (S r).root = some (t, d, bx)) (h2 : c.root = some (t, d', bx))
    (hk : SimK t (base bx (κ r)) (base bx k)) (hd : SimD t d d') (ha : addr bx k = addr bx (κ r)) : Keeps h V S (S.put r c) κ (updK κ r k) r := by
  have key : ∀ {ver : Ver}, ver.le (S r).v → ver.le (S.put r c r).v := by
    intro ver hl; simp [hv]; exact ⟨hl.1, hl.2.1, by have := hl.2.2; simp; omega⟩
  refine ⟨fun ver p tt dd v hr => ⟨key hr.1, fun tr dr bx' hr' hl ht hok => ?_⟩, fun ver p e lo n v hr => ⟨key hr.1, fun tr dr bx' hr' hl ht hok => ?_⟩, fun ver p v hr => ⟨key hr.1, fun tr dr bx' hr' hl hok => ?_⟩⟩
  · simp at hr'; rw [h2] at hr'; cases hr'
    by_cases hp : depth p = 0
    · obtain ⟨cs, e1, e2⟩ := hr.2 t d bx h1 ⟨by simpa [hv] using hl.1, by simpa [hv] using hl.2.1, fun hn => absurd hp hn⟩ ht (hd.ok1 p (by omega) hok)
      refine ⟨cs, ?_, e2⟩
      subst ht
      rw [updK_same]
      exact e1.sim (hk.at p (ok_flat_of p hp hok))
    · have h3 := hl.2.2 hp; have h4 := hr.1.2.2; simp [hv] at h3; omega
  · simp at hr'; rw [h2] at hr'; cases hr'
    by_cases hp : depth p = 0
    · have hs := hk.at p (ok_flat_of p hp hok)
      rw [ht] at hs
      rw [updK_same]
      rcases hr.2 t d bx h1 ⟨by simpa [hv] using hl.1, by simpa [hv] using hl.2.1, fun hn => absurd hp hn⟩ ht (hd.ok1 p (by omega) hok) with ⟨e1, e2⟩ | ⟨b, off, cc, m, ks, e1, e2⟩
      · rw [e1] at hs
        rcases hs with hs | ⟨_, _, _, _, _, _, hs, _⟩
        · exact .inl ⟨hs.symm, e2⟩
        · cases hs
      · rw [e1] at hs
        rcases hs with hs | ⟨_, _, _, _, _, ks', hs, hs'⟩
        · exact .inr ⟨b, off, cc, m, ks, hs.symm, e2⟩
        · cases hs; exact .inr ⟨b, off, cc, m, ks', hs', e2⟩
    · have h3 := hl.2.2 hp; have h4 := hr.1.2.2; simp [hv] at h3; omega
  · simp at hr'; rw [h2] at hr'; cases hr'
    by_cases hp : depth p ≤ 1
    · obtain ⟨b, o, e1, e2⟩ := hr.2 t d bx h1 ⟨by simpa [hv] using hl.1, by simpa [hv] using hl.2.1, fun hn => by omega⟩ (hd.ok1 p hp hok)
      refine ⟨b, o, ?_, e2⟩
      rw [updK_same, ha, hk.loc1 p hp hok]; exact e1
    · have h3 := hl.2.2 (by omega); have h4 := hr.1.2.2; simp [hv] at h3; omega

end Go.Own
