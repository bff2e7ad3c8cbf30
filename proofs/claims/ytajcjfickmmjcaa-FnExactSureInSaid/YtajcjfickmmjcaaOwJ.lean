/- A layer over the walk: what lies in memory as plain data, each operation by what it does to data; part 14. -/
import Derived.Test.YtajcjfickmmjcaaOwI
set_option linter.unusedVariables false
set_option linter.unusedSimpArgs false
namespace Go.Own
open Go

variable {P : Program} {Γ : Env} {E : Entry} {S : St} {act : Act} {w : World} {X : Ctr} {K : Wr → Prop}

theorem opd_sound {x : Operand} {k : AV → A} (h : (opd x k).wp X S K) {κ V} (hc : Conc w.heap (tmOf act) V S κ) :
    ∃ a, (k a).wp X S K ∧ OV w.heap V S κ (act.eval x) a := by
  unfold opd at h
  split at h
  · rename_i t
    exact ⟨_, h, hc.copy t⟩
  · rename_i kd n
    exact ⟨_, h.2, rfl, _, ⟨n, rfl, rfl, rfl, h.1⟩, rfl⟩
  · rename_i b
    exact ⟨_, h, rfl, _, ⟨b, rfl, rfl, rfl⟩, rfl⟩
  · rename_i s
    exact ⟨_, h.2, rfl, _, ⟨s.data.toList, rfl, rfl, rfl, by have := h.1; rwa [ByteArray.size, ← Array.length_toList] at this⟩, by simp [toVal, Act.eval]⟩
  · exact ⟨_, h, rfl⟩
  · rename_i f
    exact ⟨_, h, #[], rfl, rfl, fun i c hi => by simp at hi⟩
  · exact h.elim

theorem rootOf_sound {r : Nat} {k : Cl → T → D → Bool → A} (h : (rootOf r k).wp X S K) : ∃ t d bx, (S r).root = some (t, d, bx) ∧ (k (S r) t d bx).wp X S K := by
  unfold rootOf at h
  simp only [A.wp] at h
  split at h
  · rename_i t d bx hr; exact ⟨t, d, bx, hr, h⟩
  · exact h.elim

/-- what lies at a root -/
theorem Conc.root {h : Heap} {tm V S κ} (hc : Conc h tm V S κ) {r : Nat} {t d bx} (hr : (S r).root = some (t, d, bx)) :
    ∃ cs, Rep h V t d (base bx (κ r)) cs ∧ MemO h (addr bx (κ r)) cs ∧ (base bx (κ r)).blocks.Nodup ∧ (∀ b o, addr bx (κ r) = some (b, o) → b ∉ (base bx (κ r)).blocks ∧ b ∈ (κ r).blocks) ∧
      (∀ b, b ∈ (base bx (κ r)).blocks → b ∈ (κ r).blocks) ∧
      ((bx = false ∧ (S r).av = .val t d ∧ tm r = toVal t cs ∧ addr bx (κ r) = none) ∨
       (bx = true ∧ (S r).av = .box t d ∧ ∃ b κ0 arr ty, κ r = .lst b 0 1 1 (fun _ => κ0) ∧ tm r = .pointer (some ⟨b, 0, none⟩) ∧ h[b]? = some (.cells arr ty (0, 0)) ∧ cs = arr.toList)) := by
  have hcv := hc.cv r
  have hnd := hc.nd r
  generalize hS : S r = c at hr hcv
  obtain ⟨a, v⟩ := c
  cases a <;> simp [Cl.root] at hr
  · obtain ⟨rfl, rfl, rfl⟩ := hr
    obtain ⟨cs, hrep, e⟩ := hcv
    exact ⟨cs, hrep, trivial, hnd, by simp [addr], fun b hb => hb, .inl ⟨rfl, rfl, e, rfl⟩⟩
  · obtain ⟨rfl, rfl, rfl⟩ := hr
    obtain ⟨b, κ0, arr, ty, hk, e, hh, hrep⟩ := hcv
    rw [hk] at hnd
    have hn := K.nodup_lst.1 hnd
    refine ⟨arr.toList, by simpa [base, hk, K.nth] using hrep, ?_, ?_, ?_, ?_, .inr ⟨rfl, rfl, b, κ0, arr, ty, hk, e, hh, rfl⟩⟩
    · simp only [addr, hk, if_true]
      exact ⟨arr, ty, (0, 0), hh, fun o _ => by simp, by simp, by rw [List.drop_zero, List.take_of_length_le (Nat.le_refl _)]⟩
    · simpa [base, hk, K.nth] using hn.2.1 0 (by omega)
    · intro b' o he
      simp [addr, hk] at he
      obtain ⟨rfl, rfl⟩ := he
      exact ⟨by simpa [base, hk, K.nth] using hn.1 0 (by omega), by rw [hk]; simp [K.blocks]⟩
    · intro b' hb'
      rw [hk]; simp [base, hk, K.nth] at hb'
      exact K.mem_nth (n := 0) (ks := fun _ => κ0) (by omega) hb'

/-- what lies at a place -/
theorem Conc.at {h : Heap} {tm V S κ} (hc : Conc h tm V S κ) {r : Nat} {t d bx} (hr : (S r).root = some (t, d, bx)) {p : Path} (hok : Ok t d p) :
    ∃ cs0, Rep h V (t.at p) (d.get p) ((base bx (κ r)).get p) cs0 ∧ MemO h (loc t (base bx (κ r)) (addr bx (κ r)) p) cs0 := by
  obtain ⟨cs, hrep, hm, hnd, ha, _⟩ := hc.root hr
  obtain ⟨cs0, h1, h2, _⟩ := Rep.place p hrep hm hok hnd (fun b o he => (ha b o he).1)
  exact ⟨cs0, h1, h2⟩

abbrev Next' (Γ : Env) (E : Entry) (S : St) (K : Wr → Prop) (next : Act → World → Prop) : Prop := ∀ ws act' w', K ws → Inv Γ E (S.apply ws) act' w' → next act' w'

theorem out_sound {dst : Option Nat} {a : AV} {v : Value} (h : (out Γ dst a).wp X S K) (hi : Fr Γ E act w) {κ V} (hc : Conc w.heap (tmOf act) V S κ) (hb : Bnd E V κ) (ho : OV w.heap V S κ v a)
    {next : Act → World → Prop} (hn : Next' Γ E S K next) : next (act.put dst v) w := by
  unfold out at h
  cases dst with
  | none => exact hn [] _ _ h ⟨hi, κ, V, hc, hb⟩
  | some d =>
    simp only [A.wp] at h
    exact hn _ _ _ h.2 (Inv.plain hi hc hb h.1.1 h.1.2.1 ho h.1.2.2)

theorem liveRef_self (v : Ver) (m : Nat) : liveRef v v m := ⟨rfl, rfl, fun _ => rfl⟩
theorem livePtr_self (v : Ver) (m : Nat) : livePtr v v m := ⟨rfl, fun _ => rfl, fun _ => rfl⟩

theorem load_sound (ok : EnvOk P Γ) {dst : Option Nat} {t : TypeId} {x : Operand} (h : (opLoad Γ dst t x).wp X S K) (hi : Inv Γ E S act w) {next : Act → World → Prop} (hn : Next' Γ E S K next) :
    ∃ v, (Instr.loadAt t (act.eval x)).run P w = .ok v w ∧ next (act.put dst v) w := by
  obtain ⟨hf, κ, V, hc, hb⟩ := hi
  obtain ⟨a, hk, ho⟩ := opd_sound h hc
  cases a with
  | ptr r ver p =>
    obtain ⟨tr, dr, bx, hroot, hk⟩ := rootOf_sound hk
    simp only [A.wp] at hk
    obtain ⟨⟨hl, hok, hbx, hview, hty⟩, hk⟩ := hk
    obtain ⟨b, o, hloc, hv⟩ := ho.2 tr dr bx hroot hl hok
    obtain ⟨cs0, hrep, hm⟩ := hc.at hroot hok
    rw [hloc] at hm
    refine ⟨toVal (tr.at p) cs0, ?_, ?_⟩
    · rw [hv]
      simp only [Instr.loadAt, Instr.sureAddr]
      exact run_loadVar ok hty hrep (Mem.cell hm) hview
    · by_cases hp : (tr.at p).plain = true
      · rw [if_pos hp] at hk
        exact out_sound hk hf hc hb ⟨hp, cs0, by rw [← hrep.plain_leaf hp]; exact hrep, rfl⟩ hn
      · rw [if_neg hp] at hk
        refine out_sound hk hf hc hb ?_ hn
        refine ⟨Ver.le_refl _, fun tr' dr' bx' hr' _ ht' hok' => ⟨cs0, ?_, rfl⟩⟩
        rw [hroot] at hr'; cases hr'
        exact hrep.toRef
  | val ty d =>
    cases ty with
    | ptr e =>
      simp only [A.wp] at hk
      obtain ⟨⟨hview, hty⟩, hk⟩ := hk
      obtain ⟨hp, cs, ⟨_, hpe, b, o, arr, tt, fz, ke, rfl, hV, hh, hs, he⟩, hv⟩ := ho
      have hle := he.length
      refine ⟨toVal e ((arr.toList.drop o).take e.size), ?_, ?_⟩
      · rw [hv]
        exact run_loadVar ok hty he (cut_cell hh (by rw [hle])) hview
      · exact out_sound hk hf hc hb ⟨hpe, _, by rw [← he.plain_leaf hpe]; exact he, rfl⟩ hn
    | _ => exact hk.elim
  | _ => exact hk.elim

end Go.Own
