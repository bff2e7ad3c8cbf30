/- A layer over the walk: what lies in memory as plain data, each operation by what it does to data; part 6. -/
import Derived.Test.YtkogmjbmbpcbeaaGreatDoorOwI
set_option linter.unusedSectionVars false
set_option linter.unusedVariables false
set_option linter.unusedSimpArgs false
namespace Go.Own
variable [Glb]
open Go
variable {P : Program} {Γ : Env} {E : Entry} {S : St} {act : Act} {w : World} {X : Ctr} {K : Wr → Prop}
theorem z0V {x : Operand} {k : AV → A} (h : (opd x k).wp X S K) {κ V} (hc : Conc w.heap (tmOf act) V S κ) :
 ∃ a, (k a).wp X S K ∧ OV w.heap V S κ (act.eval x) a := by
 unfold opd at h
 split at h
 ·rename_i t
  exact ⟨_, h, hc.copy t⟩
 ·rename_i kd n
  exact ⟨_, h.2, rfl, _, ⟨n, rfl, rfl, rfl, h.1⟩, rfl⟩
 ·rename_i b
  exact ⟨_, h, rfl, _, ⟨b, rfl, rfl, rfl⟩, rfl⟩
 ·rename_i s
  exact ⟨_, h.2, rfl, _, ⟨s.data.toList, rfl, rfl, rfl, by have := h.1; rwa [ByteArray.size, ← Array.length_toList] at this⟩, by simp [z0Q, Act.eval]⟩
 ·exact ⟨_, h, rfl⟩
 ·exact ⟨_, h, rfl, _, ⟨false, rfl, rfl, _, rfl, .inl ⟨rfl, rfl⟩⟩, rfl⟩
 ·rename_i f
  exact ⟨_, h, #[], rfl, rfl, fun i c hi => by simp at hi⟩
 ·exact h.elim
theorem z0h {r : Nat} {k : Cl → T → D → Bool → A} (h : (rootOf r k).wp X S K) : ∃ t d bx, (S r).root = some (t, d, bx) ∧ (k (S r) t d bx).wp X S K := by
 unfold rootOf at h
 simp only [A.wp] at h
 split at h
 ·rename_i t d bx hr; exact ⟨t, d, bx, hr, h⟩
 ·exact h.elim
def Held (a : AV) (v : Value) (t : T) (cs : List Value) : Prop := match a with
 | .tup _ _ => ∃ vs, v = .tuple vs ∧ ∀ j, t.has j = true → vs[j]? = some (z0Q (t.fld j) ((cs.drop (t.off j)).take (t.fld j).size))
 | _ => v = z0Q t cs
theorem Conc.root {h : Heap} {tm V S κ} (hc : Conc h tm V S κ) {r : Nat} {t d bx} (hr : (S r).root = some (t, d, bx)) :
 ∃ cs, Rep h V t d (base bx (κ r)) cs ∧ MemO h (addr bx (κ r)) cs ∧ (base bx (κ r)).blocks.Nodup ∧ (∀ b o, addr bx (κ r) = some (b, o) → b ∉ (base bx (κ r)).blocks ∧ b ∈ (κ r).blocks) ∧
  (∀ b, b ∈ (base bx (κ r)).blocks → b ∈ (κ r).blocks) ∧
  ((bx = false ∧ ((S r).av = .val t d ∨ (S r).av = .tup t d) ∧ Held (S r).av (tm r) t cs ∧ addr bx (κ r) = none) ∨
   (bx = true ∧ (∀ t' d' v', ((S r).setRoot t' d' v').av = .box t' d') ∧ ∃ b κ0 arr ty, κ r = .lst b 0 1 1 (fun _ => κ0) ∧ tm r = .pointer (some ⟨b, 0, none⟩) ∧ h[b]? = some (.cells arr ty (0, 0)) ∧ cs = arr.toList)) := by
 have hcv := hc.cv r
 have hnd := hc.nd r
 generalize hS : S r = c at hr hcv
 obtain ⟨a, v⟩ := c
 cases a <;> simp [Cl.root] at hr
 ·obtain ⟨rfl, rfl, rfl⟩ := hr
  obtain ⟨cs, hrep, e⟩ := hcv
  exact ⟨cs, hrep, trivial, hnd, by simp [addr], fun b hb => hb, .inl ⟨rfl, .inl rfl, e, rfl⟩⟩
 ·obtain ⟨rfl, rfl, rfl⟩ := hr
  obtain ⟨cs, hrep, e⟩ := hcv
  exact ⟨cs, hrep, trivial, hnd, by simp [addr], fun b hb => hb, .inl ⟨rfl, .inr rfl, e, rfl⟩⟩
 ·obtain ⟨rfl, rfl, rfl⟩ := hr
  obtain ⟨b, κ0, arr, ty, hk, e, hh, hrep⟩ := hcv
  rw [hk] at hnd
  have hn := K.nodup_lst.1 hnd
  refine ⟨arr.toList, by simpa [base, hk, K.nth] using hrep, ?_, ?_, ?_, ?_, .inr ⟨rfl, fun _ _ _ => rfl, b, κ0, arr, ty, hk, e, hh, rfl⟩⟩
  ·simp only [addr, hk, if_true]
   exact ⟨arr, ty, (0, 0), hh, fun o _ => by simp, by simp, by rw [List.drop_zero, List.take_of_length_le (Nat.le_refl _)]⟩
  ·simpa [base, hk, K.nth] using hn.2.1 0 (by omega)
  ·intro b' o he
   simp [addr, hk] at he
   obtain ⟨rfl, rfl⟩ := he
   exact ⟨by simpa [base, hk, K.nth] using hn.1 0 (by omega), by rw [hk]; simp [K.blocks]⟩
  ·intro b' hb'
   rw [hk]; simp [base, hk, K.nth] at hb'
   exact K.mem_nth (n := 0) (ks := fun _ => κ0) (by omega) hb'
 ·obtain ⟨rfl, rfl, rfl⟩ := hr
  obtain ⟨b, κ0, arr, ty, hk, e, hh, hrep, _⟩ := hcv
  rw [hk] at hnd
  have hn := K.nodup_lst.1 hnd
  refine ⟨arr.toList, by simpa [base, hk, K.nth] using hrep, ?_, ?_, ?_, ?_, .inr ⟨rfl, fun _ _ _ => rfl, b, κ0, arr, ty, hk, e, hh, rfl⟩⟩
  ·simp only [addr, hk, if_true]
   exact ⟨arr, ty, (0, 0), hh, fun o _ => by simp, by simp, by rw [List.drop_zero, List.take_of_length_le (Nat.le_refl _)]⟩
  ·simpa [base, hk, K.nth] using hn.2.1 0 (by omega)
  ·intro b' o he
   simp [addr, hk] at he
   obtain ⟨rfl, rfl⟩ := he
   exact ⟨by simpa [base, hk, K.nth] using hn.1 0 (by omega), by rw [hk]; simp [K.blocks]⟩
  ·intro b' hb'
   rw [hk]; simp [base, hk, K.nth] at hb'
   exact K.mem_nth (n := 0) (ks := fun _ => κ0) (by omega) hb'
theorem Conc.at {h : Heap} {tm V S κ} (hc : Conc h tm V S κ) {r : Nat} {t d bx} (hr : (S r).root = some (t, d, bx)) {p : Path} (hok : Ok t d p) :
 ∃ cs0, Rep h V (t.at p) (d.get p) ((base bx (κ r)).get p) cs0 ∧ MemO h (loc t (base bx (κ r)) (addr bx (κ r)) p) cs0 := by
 obtain ⟨cs, hrep, hm, hnd, ha, _⟩ := hc.root hr
 obtain ⟨cs0, h1, h2, _⟩ := Rep.place p hrep hm hok hnd (fun b o he => (ha b o he).1)
 exact ⟨cs0, h1, h2⟩
abbrev z2V (Γ : Env) (E : Entry) (S : St) (K : Wr → Prop) (next : Act → World → Prop) : Prop := ∀ ws act' w', K ws → Inv Γ E (S.apply ws) act' w' → next act' w'
theorem z08 {dst : Option Nat} {a : AV} {v : Value} (h : (out Γ dst a).wp X S K) (hi : Fr Γ E act w) {κ V} (hc : Conc w.heap (tmOf act) V S κ) (hb : Bnd E V κ) (ho : OV w.heap V S κ v a)
 {next : Act → World → Prop} (hn : z2V Γ E S K next) : next (act.put dst v) w := by
 unfold out at h
 cases dst with
 | none => exact hn [] _ _ h ⟨hi, κ, V, hc, hb⟩
 | some d =>
   simp only [A.wp] at h
   exact hn _ _ _ h.2 (Inv.plain hi hc hb h.1.1 h.1.2.1 ho h.1.2.2)
theorem liveRef_self (v : Ver) (m : Nat) : z1Q v v m := ⟨rfl, rfl, fun _ => rfl⟩
theorem livePtr_self (v : Ver) (m : Nat) : z3t v v m := ⟨rfl, fun _ => rfl, fun _ => rfl⟩
theorem z9M (ok : EnvOk P Γ) {dst : Option Nat} {t : TypeId} {x : Operand} (h : (zDg Γ dst t x).wp X S K) (hi : Inv Γ E S act w) {next : Act → World → Prop} (hn : z2V Γ E S K next) :
 ∃ v, (Instr.loadAt t (act.eval x)).run P w = .ok v w ∧ next (act.put dst v) w := by
 obtain ⟨hf, κ, V, hc, hb⟩ := hi
 obtain ⟨a, hk, ho⟩ := z0V h hc
 cases a with
 | ptr r ver p =>
   obtain ⟨tr, dr, bx, hroot, hk⟩ := z0h hk
   simp only [A.wp] at hk
   obtain ⟨⟨hl, hok, hbx, hview, hty⟩, hk⟩ := hk
   obtain ⟨b, o, hloc, hv⟩ := ho.2 tr dr bx hroot hl hok
   obtain ⟨cs0, hrep, hm⟩ := hc.at hroot hok
   rw [hloc] at hm
   refine ⟨z0Q (tr.at p) cs0, ?_, ?_⟩
   ·rw [hv]
    simp only [Instr.loadAt, Instr.sureAddr]
    exact z7z ok hty hrep (Mem.cell hm) hview
   ·by_cases hp : (tr.at p).plain = true
    ·rw [if_pos hp] at hk
     exact z08 hk hf hc hb ⟨hp, cs0, by rw [← hrep.plain_leaf hp]; exact hrep, rfl⟩ hn
    ·rw [if_neg hp] at hk
     refine z08 hk hf hc hb ?_ hn
     refine ⟨Ver.le_refl _, fun tr' dr' bx' hr' _ ht' hok' => ⟨cs0, ?_, rfl⟩⟩
     rw [hroot] at hr'; cases hr'
     exact hrep.toRef
 | val ty d =>
   cases ty with
   | ptr e =>
     simp only [A.wp] at hk
     obtain ⟨⟨hview, hty⟩, hk⟩ := hk
     obtain ⟨hp, cs, ⟨_, hpe, b, o, arr, tt, fz, ke, rfl, hV, hh, hs, he⟩, hv⟩ := ho
     have hle := he.length
     refine ⟨z0Q e ((arr.toList.drop o).take e.size), ?_, ?_⟩
     ·rw [hv]
      exact z7z ok hty he (z5p hh (by rw [hle])) hview
     ·exact z08 hk hf hc hb ⟨hpe, _, by rw [← he.plain_leaf hpe]; exact he, rfl⟩ hn
   | _ => exact hk.elim
 | _ => exact hk.elim
end Go.Own
namespace Go.Own
variable [Glb]
open Go
variable {P : Program} {Γ : Env} {E : Entry} {S : St} {act : Act} {w : World} {X : Ctr} {Kt : Wr → Prop}
theorem Conc.turn3 {h h' : Heap} {tm V V' S κ} (hc : Conc h tm V S κ) {r : Nat} {c : Cl} {k : K} {v : Value} (hk : Keeps h V S (S.put r c) κ (updK κ r k) r)
 (hcv : CV h' V' (S.put r c) (updK κ r k) r v c.av) (hnd : k.blocks.Nodup) (hdj : ∀ s, s ≠ r → ∀ b, b ∈ k.blocks → b ∉ (κ s).blocks) (hdv : ∀ b, b ∈ k.blocks → ¬ V' b) (hbl : ∀ b, b ∈ k.blocks → b < h'.size)
 (ho : ∀ s, s ≠ r → ∀ b, b ∈ (κ s).blocks → h'[b]? = h[b]?) (hv : ∀ b, V b → h'[b]? = h[b]?) (hz : h.size ≤ h'.size) (hV : ∀ b, V b → V' b) (hVk : ∀ s, s ≠ r → ∀ b, b ∈ (κ s).blocks → ¬ V' b) (hVl : ∀ b, V' b → b < h'.size) :
 Conc h' (updV tm r v) V' (S.put r c) (updK κ r k) := by
 refine ⟨fun s => ?_, fun s => ?_, fun s s' hss b hb => ?_, fun s b hb => ?_, hVl, fun s b hb => ?_⟩
 ·by_cases hs : s = r
  ·subst hs; simpa using hcv
  ·rw [z9n _ _ hs, St.put_other _ _ hs]
   exact ((hc.cv s).turn hk hs).frame (by rw [z09 _ _ hs]; exact ho s hs) hv hV
 ·by_cases hs : s = r
  ·subst hs; simpa using hnd
  ·rw [z09 _ _ hs]; exact hc.nd s
 ·by_cases hs : s = r
  ·subst hs; rw [z09 _ _ (Ne.symm hss)]; rw [z0U] at hb; exact hdj s' (Ne.symm hss) b hb
  ·rw [z09 _ _ hs] at hb
   by_cases hs' : s' = r
   ·subst hs'; rw [z0U]; intro hb'; exact hdj s hs b hb' hb
   ·rw [z09 _ _ hs']; exact hc.dj s s' hss b hb
 ·by_cases hs : s = r
  ·subst hs; rw [z0U] at hb; exact hdv b hb
  ·rw [z09 _ _ hs] at hb; exact hVk s hs b hb
 ·by_cases hs : s = r
  ·subst hs; rw [z0U] at hb; exact hbl b hb
  ·rw [z09 _ _ hs] at hb; exact Nat.lt_of_lt_of_le (hc.bl s b hb) hz
theorem z2l (tm : Nat → Value) (r : Nat) : updV tm r (tm r) = tm := by
 funext s; unfold updV; split <;> simp_all
def z1C (bx : Bool) (κ k0 : K) : K := if bx then (match κ with | .lst b _ _ _ _ => .lst b 0 1 1 (fun _ => k0) | κ => κ) else k0
theorem Cl.setRoot_root {c : Cl} {t d bx t' d' v} (h : c.root = some (t, d, bx)) : (c.setRoot t' d' v).root = some (t', d', bx) ∧ (c.setRoot t' d' v).v = v := by
 obtain ⟨a, ver⟩ := c
 cases a <;> simp [Cl.root] at h
 ·obtain ⟨_, _, rfl⟩ := h; exact ⟨rfl, rfl⟩
 ·obtain ⟨_, _, rfl⟩ := h; exact ⟨rfl, rfl⟩
 ·obtain ⟨_, _, rfl⟩ := h; exact ⟨rfl, rfl⟩
 ·obtain ⟨_, _, rfl⟩ := h; exact ⟨rfl, rfl⟩
theorem zDt {t u : T} (h : t.shape = u.shape) : t.agg = u.agg := by cases t <;> cases u <;> simp at h ⊢
theorem Held.shape {a : AV} {v : Value} {t t' : T} {cs : List Value} (h : Held a v t cs) (hs : t'.shape = t.shape) : Held a v t' cs := by
 have key : z0Q t' cs = z0Q t cs := by unfold z0Q; rw [zDt hs]
 cases a with
 | tup u d =>
   obtain ⟨vs, e, hv⟩ := h
   refine ⟨vs, e, fun i hi => ?_⟩
   have hsh := T.shape_has i hs
   have h1 := hv i (by rw [← hsh.1]; exact hi)
   rw [hsh.2.1, T.shape_size hsh.2.2, h1]
   unfold z0Q; rw [zDt hsh.2.2]
 | _ => exact (show v = z0Q t cs from h).trans key.symm
theorem Conc.base_sub {h : Heap} {tm V S κ} (hc : Conc h tm V S κ) {r : Nat} {t d bx} (hr : (S r).root = some (t, d, bx)) : ∀ b, b ∈ (base bx (κ r)).blocks → b ∈ (κ r).blocks := by
 obtain ⟨_, _, _, _, _, hbin, _⟩ := hc.root hr
 exact hbin
theorem Conc.reroot3 {h h' : Heap} {tm V V' S κ} (hc : Conc h tm V S κ) {r : Nat} {t d bx t' d' v k0} (hr : (S r).root = some (t, d, bx))
 (hk : Keeps h V S (S.put r ((S r).setRoot t' d' v)) κ (updK κ r (z1C bx (κ r) k0)) r)
 (h0 : bx = false → ∀ cs, Rep h V t d (κ r) cs → Held (S r).av (tm r) t cs → ∃ cs', Rep h' V' t' d' k0 cs' ∧ Held (S r).av (tm r) t' cs')
 (h1 : bx = true → ∀ b κ0 arr ty, κ r = .lst b 0 1 1 (fun _ => κ0) → h[b]? = some (.cells arr ty (0, 0)) → ∃ arr' ty', h'[b]? = some (.cells arr' ty' (0, 0)) ∧ Rep h' V' t' d' k0 arr'.toList)
 (hnd : k0.blocks.Nodup) (hin : ∀ b, b ∈ k0.blocks → b ∈ (base bx (κ r)).blocks ∨ ((∀ s, b ∉ (κ s).blocks) ∧ b < h'.size)) (hdv0 : ∀ b, b ∈ k0.blocks → ¬ V' b)
 (ho : ∀ s, s ≠ r → ∀ b, b ∈ (κ s).blocks → h'[b]? = h[b]?) (hv : ∀ b, V b → h'[b]? = h[b]?) (hz : h.size ≤ h'.size) (hV : ∀ b, V b → V' b) (hVk : ∀ s, s ≠ r → ∀ b, b ∈ (κ s).blocks → ¬ V' b) (hVl : ∀ b, V' b → b < h'.size)
 (hbr : bx = true → ∀ b κ0, κ r = .lst b 0 1 1 (fun _ => κ0) → ¬ V' b) :
 Conc h' tm V' (S.put r ((S r).setRoot t' d' v)) (updK κ r (z1C bx (κ r) k0)) := by
 obtain ⟨cs, hrep, hm, hndb, hab, hbin, hcase⟩ := hc.root hr
 have hdj0 : ∀ b, b ∈ k0.blocks → ∀ s, s ≠ r → b ∉ (κ s).blocks := by
  intro b hb s hs
  rcases hin b hb with h | h
  ·exact hc.dj r s (Ne.symm hs) b (hbin b h)
  ·exact h.1 s
 have hbl0 : ∀ b, b ∈ k0.blocks → b < h'.size := by
  intro b hb
  rcases hin b hb with h | h
  ·exact Nat.lt_of_lt_of_le (hc.bl r b (hbin b h)) hz
  ·exact h.2
 rcases hcase with ⟨rfl, hav, htm, _⟩ | ⟨rfl, hav, b, κ0, arr, ty, hkr, htm, hh, hcs⟩
 ·have hbase : base false (κ r) = κ r := rfl
  rw [hbase] at hrep
  obtain ⟨cs', hr', htm'⟩ := h0 rfl cs hrep htm
  have hcv' : CV h' V' (S.put r ((S r).setRoot t' d' v)) (updK κ r (z1C false (κ r) k0)) r (tm r) ((S r).setRoot t' d' v).av := by
   rcases hav with hav | hav
   ·have hav' : ((S r).setRoot t' d' v).av = .val t' d' := by simp [Cl.setRoot, hav]
    rw [hav] at htm'
    rw [hav']; exact ⟨cs', by simpa [z1C] using hr', htm'⟩
   ·have hav' : ((S r).setRoot t' d' v).av = .tup t' d' := by simp [Cl.setRoot, hav]
    rw [hav] at htm'
    rw [hav']; exact ⟨cs', by simpa [z1C] using hr', htm'⟩
  have := hc.turn3 (c := (S r).setRoot t' d' v) (v := tm r) hk hcv' (by simpa [z1C] using hnd) (fun s hs b hb => hdj0 b (by simpa [z1C] using hb) s hs)
   (fun b hb => hdv0 b (by simpa [z1C] using hb)) (fun b hb => hbl0 b (by simpa [z1C] using hb)) ho hv hz hV hVk hVl
  rwa [z2l] at this
 ·obtain ⟨arr', ty', hh', hr'⟩ := h1 rfl b κ0 arr ty hkr hh
  have hbb : b ∈ (κ r).blocks := by rw [hkr]; simp [K.blocks]
  have hav' : ((S r).setRoot t' d' v).av = .box t' d' := hav t' d' v
  have hbk : b ∉ k0.blocks := by
   intro hb
   rcases hin b hb with h | h
   ·have := hc.nd r
    rw [hkr] at this
    have h' := (K.nodup_lst.1 this).1 0 (by omega)
    simp [base, hkr, K.nth] at h
    exact h' h
   ·exact h.1 r hbb
  have hmem : ∀ x, x ∈ (K.lst b 0 1 1 (fun _ => k0)).blocks → x = b ∨ x ∈ k0.blocks := by
   intro x hx
   simp only [K.blocks, List.mem_cons, List.mem_flatMap, List.mem_range] at hx
   rcases hx with h | ⟨_, _, h⟩
   ·exact .inl h
   ·exact .inr h
  have := hc.turn3 (c := (S r).setRoot t' d' v) (v := tm r) (k := z1C true (κ r) k0) hk (by rw [hav']; exact ⟨b, k0, arr', ty', by simp [z1C, hkr], htm, hh', hr'⟩)
   (by
     simp only [z1C, hkr, if_true]
     rw [K.nodup_lst]
     exact ⟨fun i _ => hbk, fun i _ => hnd, fun i j hi hj hij => by omega⟩)
   (fun s hs x hx => by
     simp only [z1C, hkr, if_true] at hx
     rcases hmem x hx with rfl | h
     ·exact hc.dj r s (Ne.symm hs) x hbb
     ·exact hdj0 x h s hs)
   (fun x hx => by
     simp only [z1C, hkr, if_true] at hx
     rcases hmem x hx with rfl | h
     ·exact hbr rfl x κ0 hkr
     ·exact hdv0 x h)
   (fun x hx => by
     simp only [z1C, hkr, if_true] at hx
     rcases hmem x hx with rfl | h
     ·exact Nat.lt_of_lt_of_le (hc.bl r x hbb) hz
     ·exact hbl0 x h) ho hv hz hV hVk hVl
  rwa [z2l] at this
theorem Conc.reroot {h h' : Heap} {tm V S κ} (hc : Conc h tm V S κ) {r : Nat} {t d bx t' d' v k0} (hr : (S r).root = some (t, d, bx))
 (hk : Keeps h V S (S.put r ((S r).setRoot t' d' v)) κ (updK κ r (z1C bx (κ r) k0)) r)
 (h0 : bx = false → ∀ cs, Rep h V t d (κ r) cs → Held (S r).av (tm r) t cs → ∃ cs', Rep h' V t' d' k0 cs' ∧ Held (S r).av (tm r) t' cs')
 (h1 : bx = true → ∀ b κ0 arr ty, κ r = .lst b 0 1 1 (fun _ => κ0) → h[b]? = some (.cells arr ty (0, 0)) → ∃ arr' ty', h'[b]? = some (.cells arr' ty' (0, 0)) ∧ Rep h' V t' d' k0 arr'.toList)
 (hnd : k0.blocks.Nodup) (hin : ∀ b, b ∈ k0.blocks → b ∈ (base bx (κ r)).blocks ∨ ((∀ s, b ∉ (κ s).blocks) ∧ ¬ V b ∧ b < h'.size))
 (ho : ∀ s, s ≠ r → ∀ b, b ∈ (κ s).blocks → h'[b]? = h[b]?) (hv : ∀ b, V b → h'[b]? = h[b]?) (hz : h.size ≤ h'.size) :
 Conc h' tm V (S.put r ((S r).setRoot t' d' v)) (updK κ r (z1C bx (κ r) k0)) :=
 hc.reroot3 hr hk h0 h1 hnd (fun b hb => (hin b hb).imp id (fun h => ⟨h.1, h.2.2⟩)) (fun b hb => (hin b hb).elim (fun h => hc.dv r b ((hc.base_sub hr) b h)) (fun h => h.2.1)) ho hv hz (fun _ h => h) (fun s _ => hc.dv s) (fun b h => Nat.lt_of_lt_of_le (hc.lt b h) hz)
  (fun _ b κ0 hk => hc.dv r b (by rw [hk]; simp [K.blocks]))
theorem z3m (bx : Bool) (κ k0 : K) : addr bx (z1C bx κ k0) = addr bx κ := by
 cases bx
 ·rfl
 ·cases κ <;> rfl
theorem zAy {bx : Bool} {κ k0 : K} (h : bx = true → ∃ b κ0, κ = .lst b 0 1 1 (fun _ => κ0)) : base bx (z1C bx κ k0) = k0 := by
 cases bx
 ·rfl
 ·obtain ⟨b, κ0, rfl⟩ := h rfl; rfl
theorem z1B.mixR {h : Heap} {V : Nat → Prop} {t : T} : ∀ {ds dc κ cs c0}, z1B h V t ds κ cs → Rep h V t dc κ c0 → Rep h V t (D.mixR t ds dc) κ cs := by
 induction t with
 | pair a b iha ihb =>
   rintro ds dc κ cs c0 ⟨c1, c2, rfl, _, h1, h2⟩ ⟨d1, d2, κ1, κ2, e1, e2, rfl, rfl, rfl, g1, g2⟩
   exact ⟨_, _, κ1, κ2, c1, c2, rfl, rfl, rfl, iha h1 g1, ihb h2 g2⟩
 | lst o e ih =>
   intro ds dc κ cs c0 hr hp
   cases o with
   | false =>
     obtain ⟨xs, _, ⟨_, hk, _⟩ | ⟨b, off, c, arr, ty, fz, ks, _, _, _, _, _, ho⟩⟩ := id hp
     ·subst hk; exact hr
     ·simp at ho; obtain ⟨_, hk, _⟩ := ho; subst hk; exact hr
   | true =>
     obtain ⟨xs, rfl, ⟨rfl, hk, A, rfl, hA⟩ | ⟨b, off, c, arr, ty, fz, ks, rfl, hc, hh, hs, he, ho⟩⟩ := id hp
     ·subst hk
      obtain rfl := hA rfl
      rcases hr with ⟨_, rfl⟩ | ⟨b, off, c, n, ks, h1, _⟩
      ·exact hp
      ·cases h1
     ·simp at ho
      obtain ⟨_, hk⟩ := ho
      subst hk
      rcases hr with ⟨h1, _⟩ | ⟨b', off', c', n', ks', h1, rfl⟩
      ·cases h1
      ·cases h1; exact hp
 | unit => intro ds dc κ cs c0 hr hp; obtain ⟨_, rfl, _⟩ := hp; obtain ⟨_, _, rfl⟩ := id hr; exact ⟨rfl, rfl, rfl⟩
 | int k => intro ds dc κ cs c0 hr hp; obtain ⟨_, _, rfl, _⟩ := hp; exact hr
 | bool => intro ds dc κ cs c0 hr hp; obtain ⟨_, _, rfl, _⟩ := hp; exact hr
 | str => intro ds dc κ cs c0 hr hp; obtain ⟨_, _, rfl, _⟩ := hp; exact hr
 | ptr e ih => intro ds dc κ cs c0 hr hp; obtain ⟨rfl, _⟩ := hp; exact hr
 | fn f c ih => intro ds dc κ cs c0 hr hp; obtain ⟨rfl, _⟩ := hp; exact hr
 | err => intro ds dc κ cs c0 hr hp; obtain ⟨_, _, rfl, _⟩ := hp; exact hr
 | gone => intro ds dc κ cs c0 hr hp; obtain ⟨rfl, _⟩ := hp; exact hr
theorem Rep.mix_self {h : Heap} {V : Nat → Prop} {t : T} : ∀ {d κ cs}, Rep h V t d κ cs → D.mixR t d d = d := by
 induction t with
 | pair a b iha ihb =>
   rintro d κ cs ⟨d1, d2, κ1, κ2, e1, e2, rfl, rfl, rfl, g1, g2⟩
   simp [iha g1, ihb g2]
 | lst o e ih => intro d κ cs _; cases o <;> rfl
 | unit => rintro d κ cs ⟨rfl, _⟩; rfl
 | _ => intro d κ cs _; rfl
theorem z1B.mix {h : Heap} {V : Nat → Prop} {t : T} {ds dc κ cs c0} (hr : z1B h V t ds κ cs) (hp : Rep h V t dc κ c0) : Rep h V t (D.mix t ds dc) κ cs := by
 have hm := hr.mixR hp
 unfold D.mix
 split
 ·rename_i he
  subst he
  rwa [hp.mix_self] at hm
 ·exact hm
theorem Rep.moved {h : Heap} {V : Nat → Prop} {t : T} : ∀ {d κ cs}, Rep h V t d κ cs → Rep h V t.moved d t.k0 cs := by
 induction t with
 | pair a b iha ihb =>
   rintro d κ cs ⟨d1, d2, κ1, κ2, e1, e2, rfl, rfl, rfl, g1, g2⟩
   exact ⟨d1, d2, _, _, e1, e2, rfl, rfl, rfl, iha g1, ihb g2⟩
 | lst o e ih =>
   intro d κ cs hr
   cases o with
   | false =>
     obtain ⟨xs, _, ⟨_, hk, _⟩ | ⟨b, off, c, arr, ty, fz, ks, _, _, _, _, _, ho⟩⟩ := id hr
     ·subst hk; exact hr
     ·simp at ho; obtain ⟨_, hk, _⟩ := ho; subst hk; exact hr
   | true => exact ⟨rfl, hr.length⟩
 | unit => intro d κ cs hr; obtain ⟨_, rfl, _⟩ := id hr; exact hr
 | int k => intro d κ cs hr; obtain ⟨_, _, rfl, _⟩ := id hr; exact hr
 | bool => intro d κ cs hr; obtain ⟨_, _, rfl, _⟩ := id hr; exact hr
 | str => intro d κ cs hr; obtain ⟨_, _, rfl, _⟩ := id hr; exact hr
 | ptr e ih => intro d κ cs hr; obtain ⟨rfl, _⟩ := id hr; exact hr
 | fn f c ih => intro d κ cs hr; obtain ⟨rfl, _⟩ := id hr; exact hr
 | err => intro d κ cs hr; obtain ⟨_, _, rfl, _⟩ := id hr; exact hr
 | gone => intro d κ cs hr; obtain ⟨rfl, _⟩ := id hr; exact hr
theorem T.moved_shape (t : T) : t.moved.shape = t.shape := by
 induction t with
 | pair a b iha ihb => simp [iha, ihb]
 | lst o e ih => cases o <;> rfl
 | _ => rfl
theorem Rep.setFld_self {h : Heap} {V : Nat → Prop} : ∀ (j : Nat) {t d κ cs}, t.has j = true → Rep h V t d κ cs → d.setFld j (d.fld j) = d := by
 intro j
 induction j with
 | zero =>
   intro t d κ cs hh hr
   cases t <;> simp at hh
   obtain ⟨d1, d2, κ1, κ2, e1, e2, rfl, rfl, rfl, g1, g2⟩ := hr
   rfl
 | succ j ih =>
   intro t d κ cs hh hr
   cases t <;> simp at hh
   obtain ⟨d1, d2, κ1, κ2, e1, e2, rfl, rfl, rfl, g1, g2⟩ := hr
   simp [ih hh g2]
theorem T.set_at : ∀ (p : Path) (t : T), depth p = 0 → t.set p (t.at p) = t := by
 intro p
 induction p with
 | nil => intro t _; rfl
 | cons s p ih =>
   intro t h
   cases s with
   | i n => simp at h
   | f j => simp at h ⊢; rw [ih _ h]; exact T.setFld_self j
theorem Rep.set_get {h : Heap} {V : Nat → Prop} : ∀ (p : Path) {t d κ cs}, t.flat p = true → Rep h V t d κ cs → d.set p (d.get p) = d := by
 intro p
 induction p with
 | nil => intros; rfl
 | cons s p ih =>
   intro t d κ cs hf hr
   cases s with
   | i n => simp at hf
   | f j =>
     simp at hf ⊢
     obtain ⟨c1, cj, c2, _, _, hj, _⟩ := Rep.fld j hr hf.1
     rw [ih hf.2 hj]; exact hr.setFld_self j hf.1
theorem z74 : ∀ (p : Path) {t : T}, t.flat p = true → depth p = 0 := by
 intro p
 induction p with
 | nil => intros; rfl
 | cons s p ih =>
   intro t h
   cases s with
   | i n => simp at h
   | f j => simp at h ⊢; exact ih h.2
theorem zED : ∀ (p : Path) {t : T} {d : D}, t.flat p = true → Ok t d p := by
 intro p
 induction p with
 | nil => intros; trivial
 | cons s p ih =>
   intro t d h
   cases s with
   | i n => simp at h
   | f j => simp at h ⊢; exact ⟨h.1, ih h.2⟩
end Go.Own
