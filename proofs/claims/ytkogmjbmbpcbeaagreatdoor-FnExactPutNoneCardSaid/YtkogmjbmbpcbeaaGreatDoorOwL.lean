/- A layer over the walk: what lies in memory as plain data, each operation by what it does to data; part 7. -/
import Derived.Test.YtkogmjbmbpcbeaaGreatDoorOwJ
set_option linter.unusedSectionVars false
set_option linter.unusedVariables false
set_option linter.unusedSimpArgs false
namespace Go.Own
variable [Glb]
open Go
variable {P : Program} {Γ : Env} {E : Entry} {S : St} {act : Act} {w : World} {X : Ctr} {Kt : Wr → Prop}
theorem St.apply_other : ∀ (ws : Wr) (S : St) {r : Nat}, r ∉ ws.map (·.1) → (S.apply ws) r = S r := by
 intro ws
 induction ws with
 | nil => intro S r _; rfl
 | cons x ws ih =>
   intro S r h
   obtain ⟨s, c⟩ := x
   simp at h
   rw [St.apply, ih _ (by simpa using h.2), St.put_other _ _ h.1]
theorem St.apply_append : ∀ (ws ws' : Wr) (S : St), S.apply (ws ++ ws') = (S.apply ws).apply ws' := by
 intro ws
 induction ws with
 | nil => intros; rfl
 | cons x ws ih => intro ws' S; exact ih ws' _
theorem zIV : ∀ (ws : Wr) (S : St) (s : Nat), (S.apply ws) s = (match look ws s with | some c => c | none => S s) := by
 intro ws
 induction ws with
 | nil => intros; rfl
 | cons x ws ih =>
   intro S s
   obtain ⟨r, c⟩ := x
   rw [St.apply, ih]
   simp only [look]
   cases h : look ws s with
   | some c' => rfl
   | none =>
     simp only
     by_cases hr : r = s
     ·subst hr; simp
     ·simp [hr, St.put_other S c (Ne.symm hr)]
theorem z3O {ws : Wr} {s : Nat} {k : Cl → A} (h : (askW ws s k).wp X S Kt) : (k ((S.apply ws) s)).wp X S Kt := by
 rw [zIV]
 unfold askW at h
 split at h
 ·rename_i c hc; rw [hc]; exact h
 ·rename_i hc; rw [hc]; exact h
theorem Conc.addr_box {h : Heap} {tm V S κ} (hc : Conc h tm V S κ) {r : Nat} {t d bx} (hr : (S r).root = some (t, d, bx)) (hbx : bx = true) : ∃ b κ0, κ r = .lst b 0 1 1 (fun _ => κ0) := by
 obtain ⟨cs, _, _, _, _, _, ⟨h, _⟩ | ⟨_, _, b, κ0, _, _, hk, _⟩⟩ := hc.root hr
 ·subst hbx; cases h
 ·exact ⟨b, κ0, hk⟩
theorem T.moved_agg : ∀ (p : Path) {t : T}, t.flat p = true → (t.set p (t.at p).moved).agg = t.agg := by
 intro p t hf
 cases p with
 | nil =>
   cases t with
   | lst o e => cases o <;> rfl
   | _ => rfl
 | cons s p =>
   cases s with
   | i n => simp at hf
   | f j => cases t <;> simp at hf ⊢; cases j <;> rfl
structure Taken (w : World) (tm : Nat → Value) (V : Nat → Prop) (S : St) (κ : Nat → K) (ws : Wr) (ty : T) (d : D) (v : Value) (κ' : Nat → K) (k : K) : Prop where
 conc : Conc w.heap tm V (S.apply ws) κ'
 rep : ∃ cs, Rep w.heap V ty d k cs ∧ v = z0Q ty cs
 nd : k.blocks.Nodup
 dj : ∀ s b, b ∈ k.blocks → b ∉ (κ' s).blocks
 dv : ∀ b, b ∈ k.blocks → ¬ V b
 sub : ∀ s b, b ∈ (κ' s).blocks → b ∈ (κ s).blocks
 src : ∀ b, b ∈ k.blocks → ∃ s, b ∈ (κ s).blocks
 oth : ∀ s, s ∉ ws.map (·.1) → κ' s = κ s
theorem zJl {x : Operand} {k : AV → A} (h : (opd x k).wp X S Kt) (hx : ∀ t, x ≠ .tmp t) {h0 : Heap} {V : Nat → Prop} {S' : St} {κ : Nat → K} :
 ∃ a, (k a).wp X S Kt ∧ OV h0 V S' κ (act.eval x) a := by
 unfold opd at h
 split at h
 ·exact absurd rfl (hx _)
 ·rename_i kd n
  exact ⟨_, h.2, rfl, _, ⟨n, rfl, rfl, rfl, h.1⟩, rfl⟩
 ·rename_i b
  exact ⟨_, h, rfl, _, ⟨b, rfl, rfl, rfl⟩, rfl⟩
 ·rename_i s
  exact ⟨_, h.2, rfl, _, ⟨s.data.toList, rfl, rfl, rfl, by have := h.1; rwa [ByteArray.size, ← Array.length_toList] at this⟩, by simp [z0Q, Act.eval]⟩
 ·exact ⟨_, h, rfl⟩
 ·exact ⟨_, h, rfl, _, ⟨false, rfl, rfl, _, rfl, .inl ⟨rfl, rfl⟩⟩, rfl⟩
 ·rename_i f
  exact ⟨_, h, #[], rfl, rfl, fun i c hi => by simp at hi⟩
 ·exact h.elim
theorem Conc.moved {κ V} {tm : Nat → Value} {S : St} (hc : Conc w.heap tm V S κ) {r : Nat} {tr dr bx} (hroot : (S r).root = some (tr, dr, bx)) {p : Path} (hf : tr.flat p = true) :
 ∃ κ' c0, Conc w.heap tm V (S.put r ((S r).setRoot (tr.set p (tr.at p).moved) dr (S r).v.head)) κ' ∧ Rep w.heap V (tr.at p) (dr.get p) ((base bx (κ r)).get p) c0 ∧ ((base bx (κ r)).get p).blocks.Nodup ∧
  (∀ s b, b ∈ ((base bx (κ r)).get p).blocks → b ∉ (κ' s).blocks) ∧ (∀ b, b ∈ ((base bx (κ r)).get p).blocks → ¬ V b) ∧ (∀ s b, b ∈ (κ' s).blocks → b ∈ (κ s).blocks) ∧
  (∀ b, b ∈ ((base bx (κ r)).get p).blocks → ∃ s, b ∈ (κ s).blocks) ∧ ∀ s, s ≠ r → κ' s = κ s := by
 obtain ⟨cr, hrep, hm, hnd, hab, hbin, hcase⟩ := hc.root hroot
 obtain ⟨c1, c0, c2, hcs, hlen, hrep0, hin0, hnd0, hre⟩ := Rep.flat p hrep hf
 have hmv := hrep0.moved
 obtain ⟨hR, hN, hM⟩ := hre (h' := w.heap) (V' := V) hmv hnd (fun _ _ _ => rfl) (fun _ _ => rfl) (fun _ h => h)
 rw [hrep.set_get p hf, ← hcs] at hR
 have hN' := hN (by simp) (by simp)
 have hkeep : Keeps w.heap V S (S.put r ((S r).setRoot (tr.set p (tr.at p).moved) dr (S r).v.head)) κ (updK κ r (z1C bx (κ r) ((base bx (κ r)).set p (tr.at p).k0))) r :=
  Keeps.head (Cl.setRoot_root hroot).2 hroot (Cl.setRoot_root hroot).1 (T.set_shape p hf (T.moved_shape _)) (z3m _ _ _)
 have hsub : ∀ b, b ∈ ((base bx (κ r)).set p (tr.at p).k0).blocks → b ∈ (base bx (κ r)).blocks ∧ b ∉ ((base bx (κ r)).get p).blocks := by
  intro b hb
  rcases hM b hb with h | h
  ·simp at h
  ·exact h
 have hcc := hc.reroot hroot (t' := tr.set p (tr.at p).moved) (d' := dr) (v := (S r).v.head) (k0 := (base bx (κ r)).set p (tr.at p).k0) (h' := w.heap) hkeep
  (by
    intro hbx cs' hr' htm
    rcases hcase with ⟨_, _, htm', _⟩ | ⟨hb2, _⟩
    ·exact ⟨cr, hR, htm'.shape (T.set_shape p hf (T.moved_shape _))⟩
    ·rw [hbx] at hb2; cases hb2)
  (by
    intro hbx b κ0 arr ty hk hh
    rcases hcase with ⟨hb2, _⟩ | ⟨_, _, b', κ0', arr', ty', hk', _, hh', hcr⟩
    ·rw [hbx] at hb2; cases hb2
    ·rw [hk'] at hk; simp only [K.lst.injEq] at hk; obtain ⟨rfl, _⟩ := hk
     rw [hh'] at hh; cases hh
     exact ⟨arr, ty, hh', by rw [← hcr]; exact hR⟩)
  hN' (fun b hb => .inl (hsub b hb).1) (fun _ _ _ _ => rfl) (fun _ _ => rfl) (Nat.le_refl _)
 have hbase : ∀ b, b ∈ (z1C bx (κ r) ((base bx (κ r)).set p (tr.at p).k0)).blocks → b ∈ (κ r).blocks ∧ b ∉ ((base bx (κ r)).get p).blocks := by
  intro b hb
  rcases hcase with ⟨rfl, _⟩ | ⟨rfl, _, b', κ0', arr', ty', hk', _, hh', hcr⟩
  ·simp only [z1C] at hb
   exact ⟨hbin b (hsub b hb).1, (hsub b hb).2⟩
  ·simp only [z1C, hk', if_true, K.blocks, List.mem_cons, List.mem_flatMap, List.mem_range] at hb
   rcases hb with rfl | ⟨_, _, hb⟩
   ·refine ⟨by rw [hk']; simp [K.blocks], fun hm' => ?_⟩
    have := (hab b 0 (by simp [addr, hk'])).1
    exact this (hin0 b hm')
   ·have hb2 : b ∈ ((base true (κ r)).set p (tr.at p).k0).blocks := by simpa [hk'] using hb
    exact ⟨hbin b (hsub b hb2).1, (hsub b hb2).2⟩
 refine ⟨_, c0, hcc, hrep0, hnd0 hnd, ?_, fun b hb => hc.dv r b (hbin b (hin0 b hb)), ?_, fun b hb => ⟨r, hbin b (hin0 b hb)⟩, fun s hs => z09 _ _ hs⟩
 ·intro s b hb
  by_cases hs : s = r
  ·subst hs; rw [z0U]; intro hb'; exact (hbase b hb').2 hb
  ·rw [z09 _ _ hs]; exact hc.dj r s (Ne.symm hs) b (hbin b (hin0 b hb))
 ·intro s b hb
  by_cases hs : s = r
  ·subst hs; rw [z0U] at hb; exact (hbase b hb).1
  ·rwa [z09 _ _ hs] at hb
theorem z3o {ws0 : Wr} {want : T} {x : Operand} {k : T → D → Wr → A} (h : (takeW ws0 want x k).wp X S Kt) {κ V} (hc : Conc w.heap (tmOf act) V (S.apply ws0) κ) :
 ∃ ty d ws κ' kx, (k ty d ws).wp X S Kt ∧ Taken w (tmOf act) V (S.apply ws0) κ ws ty d (act.eval x) κ' kx := by
 have plain : ∀ {ty d}, OV w.heap V (S.apply ws0) κ (act.eval x) (.val ty d) → Taken w (tmOf act) V (S.apply ws0) κ [] ty d (act.eval x) κ ty.k0 := by
  intro ty d ⟨hp, cs, hr, e⟩
  exact ⟨hc, ⟨cs, hr, e⟩, by simp, by simp, by simp, fun _ _ h => h, by simp, fun _ _ => rfl⟩
 have nil : ∀ {e}, OV w.heap V (S.apply ws0) κ (act.eval x) .nil → Taken w (tmOf act) V (S.apply ws0) κ [] (.lst true e) (.lst []) (act.eval x) κ .leaf := by
  intro e he
  exact ⟨hc, ⟨[.slice none 0 0], ⟨[], rfl, .inl ⟨rfl, rfl, none, rfl, fun _ => rfl⟩⟩, he⟩, by simp [K.blocks], by simp [K.blocks], by simp [K.blocks], fun _ _ h => h, by simp [K.blocks], fun _ _ => rfl⟩
 unfold takeW at h
 split at h
 ·rename_i t
  replace h := z3O h
  have hcopy := hc.copy t
  have hcv := hc.cv t
  generalize hS : (S.apply ws0) t = c at h hcopy hcv
  obtain ⟨a, ver⟩ := c
  cases a with
  | val ty d =>
    simp only at h
    by_cases hp : ty.plain = true
    ·rw [if_pos hp] at h
     simp only [z4n, hp, if_true] at hcopy
     exact ⟨_, _, _, _, _, h, plain hcopy⟩
    ·rw [if_neg hp] at h
     obtain ⟨cs, hr, e⟩ := hcv
     have hcc := hc.set t (a := .undef) (k := .leaf) (v := tmOf act t) (by simp [CV]) (by simp [K.blocks]) (by simp [K.blocks]) (by simp [K.blocks]) (by simp [K.blocks])
     rw [z2l] at hcc
     refine ⟨_, _, _, _, κ t, h, ⟨by simpa [St.apply, hS] using hcc, ⟨cs, hr, e⟩, hc.nd t, ?_, hc.dv t, ?_, fun b hb => ⟨t, hb⟩, ?_⟩⟩
     ·intro s b hb
      by_cases hs : s = t
      ·subst hs; simp [K.blocks]
      ·rw [z09 _ _ hs]; exact hc.dj t s (Ne.symm hs) b hb
     ·intro s b hb
      by_cases hs : s = t
      ·subst hs; simp [K.blocks] at hb
      ·rwa [z09 _ _ hs] at hb
     ·intro s hs
      simp at hs
      exact z09 _ _ hs
  | ref r v p ty d =>
    simp only at h
    replace h := z3O h
    split at h
    case h_2 => exact h.elim
    rename_i tr dr bx hroot
    simp only [A.wp] at h
    obtain ⟨⟨hl, hf, hat⟩, h⟩ := h
    have hd := z74 p hf
    obtain ⟨_, hx⟩ : RefC w.heap V (S.apply ws0) κ r v p ty d (tmOf act t) := hcopy
    obtain ⟨cs, href, e⟩ := hx tr dr bx hroot (by rw [hd]; exact hl) hat (zED p hf)
    obtain ⟨cr, hrep, hm, hnd, hab, hbin, hcase⟩ := hc.root hroot
    obtain ⟨c1, c0, c2, hcs, hlen, hrep0, hin0, hnd0, hre⟩ := Rep.flat p hrep hf
    subst hat
    have hmix := z1B.mix href hrep0
    have hmv := hrep0.moved
    obtain ⟨hR, hN, hM⟩ := hre (h' := w.heap) (V' := V) hmv hnd (fun _ _ _ => rfl) (fun _ _ => rfl) (fun _ h => h)
    rw [hrep.set_get p hf, ← hcs] at hR
    have hN' := hN (by simp) (by simp)
    have hkeep : Keeps w.heap V (S.apply ws0) ((S.apply ws0).put r (((S.apply ws0) r).setRoot (tr.set p (tr.at p).moved) dr ((S.apply ws0) r).v.head)) κ (updK κ r (z1C bx (κ r) ((base bx (κ r)).set p (tr.at p).k0))) r :=
     Keeps.head (Cl.setRoot_root hroot).2 hroot (Cl.setRoot_root hroot).1 (T.set_shape p hf (T.moved_shape _)) (z3m _ _ _)
    have hsub : ∀ b, b ∈ ((base bx (κ r)).set p (tr.at p).k0).blocks → b ∈ (base bx (κ r)).blocks ∧ b ∉ ((base bx (κ r)).get p).blocks := by
     intro b hb
     rcases hM b hb with h | h
     ·simp at h
     ·exact h
    have hcc := hc.reroot hroot (t' := tr.set p (tr.at p).moved) (d' := dr) (v := ((S.apply ws0) r).v.head) (k0 := (base bx (κ r)).set p (tr.at p).k0) (h' := w.heap) hkeep
     (by
       intro hbx cs' hr' htm
       rcases hcase with ⟨_, _, htm', _⟩ | ⟨hb2, _⟩
       ·exact ⟨cr, hR, htm'.shape (T.set_shape p hf (T.moved_shape _))⟩
       ·rw [hbx] at hb2; cases hb2)
     (by
       intro hbx b κ0 arr ty hk hh
       rcases hcase with ⟨hb2, _⟩ | ⟨_, _, b', κ0', arr', ty', hk', _, hh', hcr⟩
       ·rw [hbx] at hb2; cases hb2
       ·rw [hk'] at hk; simp only [K.lst.injEq] at hk; obtain ⟨rfl, _⟩ := hk
        rw [hh'] at hh; cases hh
        exact ⟨arr, ty, hh', by rw [← hcr]; exact hR⟩)
     hN' (fun b hb => .inl (hsub b hb).1) (fun _ _ _ _ => rfl) (fun _ _ => rfl) (Nat.le_refl _)
    have hbase : ∀ b, b ∈ (z1C bx (κ r) ((base bx (κ r)).set p (tr.at p).k0)).blocks → b ∈ (κ r).blocks ∧ b ∉ ((base bx (κ r)).get p).blocks := by
     intro b hb
     rcases hcase with ⟨rfl, _⟩ | ⟨rfl, _, b', κ0', arr', ty', hk', _, hh', hcr⟩
     ·simp only [z1C] at hb
      exact ⟨hbin b (hsub b hb).1, (hsub b hb).2⟩
     ·simp only [z1C, hk', if_true, K.blocks, List.mem_cons, List.mem_flatMap, List.mem_range] at hb
      rcases hb with rfl | ⟨_, _, hb⟩
      ·refine ⟨by rw [hk']; simp [K.blocks], fun hm' => ?_⟩
       have := (hab b 0 (by simp [addr, hk'])).1
       exact this (hin0 b hm')
      ·have hb2 : b ∈ ((base true (κ r)).set p (tr.at p).k0).blocks := by simpa [hk'] using hb
       exact ⟨hbin b (hsub b hb2).1, (hsub b hb2).2⟩
    refine ⟨_, _, _, _, (base bx (κ r)).get p, h, ⟨by simpa [St.apply] using hcc, ⟨cs, hmix, e⟩, hnd0 hnd, ?_, fun b hb => hc.dv r b (hbin b (hin0 b hb)), ?_, fun b hb => ⟨r, hbin b (hin0 b hb)⟩, ?_⟩⟩
    ·intro s b hb
     by_cases hs : s = r
     ·subst hs; rw [z0U]; intro hb'; exact (hbase b hb').2 hb
     ·rw [z09 _ _ hs]; exact hc.dj r s (Ne.symm hs) b (hbin b (hin0 b hb))
    ·intro s b hb
     by_cases hs : s = r
     ·subst hs; rw [z0U] at hb; exact (hbase b hb).1
     ·rwa [z09 _ _ hs] at hb
    ·intro s hs
     simp at hs
     exact z09 _ _ hs
  | win r v p e lo n =>
    simp only at h
    replace h := z3O h
    split at h
    case h_2 => exact h.elim
    rename_i tr dr bx hroot
    simp only [A.wp] at h
    obtain ⟨⟨hl, hf, hat, hln⟩, h⟩ := h
    have hd := z74 p hf
    obtain ⟨_, hx⟩ : WinC (S.apply ws0) κ r v p e lo n (tmOf act t) := hcopy
    have hwin := hx tr dr bx hroot (by rw [hd]; exact hl) hat (zED p hf)
    obtain ⟨κ', c0, hcc, hrep0, hnd0, hdj, hdv, hsub, hsrc, hoth⟩ := hc.moved hroot hf
    rw [hat] at hrep0 hcc
    have hcc' : Conc w.heap (tmOf act) V ((S.apply ws0).apply [(r, ((S.apply ws0) r).setRoot (tr.set p .gone) dr ((S.apply ws0) r).v.head)]) κ' := by simpa [St.apply] using hcc
    obtain ⟨xs, hxs, hcs⟩ := hrep0
    have hxl : (dr.get p).l = xs := by rw [hxs]; rfl
    rcases hwin with ⟨hk, rfl, rfl, hv⟩ | ⟨b, off, c, m, ks, hk, hlm, hv⟩
    ·refine ⟨_, _, _, _, .leaf, h, ⟨hcc', ⟨[.slice none 0 0], ⟨[], by simp, .inl ⟨rfl, rfl, none, rfl, fun _ => rfl⟩⟩, hv⟩, by simp [K.blocks], by simp [K.blocks], by simp [K.blocks], hsub, by simp [K.blocks], ?_⟩⟩
     intro s hs
     simp at hs
     exact hoth s hs
    ·rcases hcs with ⟨_, hk2, _⟩ | ⟨b', off', c', arr, tb, fz, ks', hc0, hLen, hheap, hsz, hel, hown⟩
     ·rw [hk2] at hk; cases hk
     ·simp only [if_true] at hown
      rw [hown.2] at hk
      simp only [K.lst.injEq] at hk
      obtain ⟨rfl, rfl, rfl, hm, rfl⟩ := hk
      have hlm' : lo + n ≤ xs.length := by rw [hm]; exact hlm
      have hlen : ((xs.drop lo).take n).length = n := by simp; omega
      rw [hown.2] at hnd0 hdj hdv hsrc
      have hndl := K.nodup_lst.1 hnd0
      have hel' : ∀ i x, ((xs.drop lo).take n)[i]? = some x → i < n ∧ Rep w.heap V e x (ks' (lo + i)) ((arr.toList.drop (off' + lo * e.size + i * e.size)).take e.size) := by
       intro i x hi
       have hin : i < n := by have := (List.getElem?_eq_some_iff.1 hi).1; omega
       rw [List.getElem?_take, if_pos hin, List.getElem?_drop] at hi
       have := hel (lo + i) x hi
       rw [Nat.add_mul, ← Nat.add_assoc] at this
       exact ⟨hin, this⟩
      have hcl : lo * e.size + (c' - lo) * e.size = c' * e.size := by
       rw [← Nat.add_mul]; congr 1; have := hLen.1; omega
      have blk : ∀ (o2 c2 : Nat) (b : Nat), b ∈ (K.lst b' o2 c2 n fun i => ks' (lo + i)).blocks → b ∈ (K.lst b' off' c' xs.length ks').blocks := by
       intro o2 c2 b hb
       simp only [K.blocks, List.mem_cons, List.mem_flatMap, List.mem_range] at hb ⊢
       rcases hb with rfl | ⟨i, hi, hb⟩
       ·exact .inl rfl
       ·exact .inr ⟨lo + i, by omega, hb⟩
      have nod : ∀ (o2 c2 : Nat), (K.lst b' o2 c2 n fun i => ks' (lo + i)).blocks.Nodup := by
       intro o2 c2
       rw [K.nodup_lst]
       exact ⟨fun i hi => hndl.1 (lo + i) (by omega), fun i hi => hndl.2.1 (lo + i) (by omega), fun i j hi hj hij => hndl.2.2 (lo + i) (lo + j) (by omega) (by omega) (by omega)⟩
      have tk : ∀ {o2 c2 : Nat}, Rep w.heap V (.lst true e) (.lst ((xs.drop lo).take n)) (.lst b' o2 c2 n fun i => ks' (lo + i)) [tmOf act t] →
       Taken w (tmOf act) V (S.apply ws0) κ [(r, ((S.apply ws0) r).setRoot (tr.set p .gone) dr ((S.apply ws0) r).v.head)] (.lst true e) (.lst ((xs.drop lo).take n)) (tmOf act t) κ' (.lst b' o2 c2 n fun i => ks' (lo + i)) := by
       intro o2 c2 hR
       exact ⟨hcc', ⟨_, hR, by simp [z0Q]⟩, nod _ _, fun s b hb => hdj s b (blk _ _ b hb), fun b hb => hdv b (blk _ _ b hb), hsub, fun b hb => hsrc b (blk _ _ b hb), fun s hs => hoth s (by simpa using hs)⟩
      rw [hxl] at h
      rcases hv with hv | ⟨rfl, rfl, hv⟩
      ·refine ⟨_, _, _, _, _, h, tk (o2 := off' + lo * e.size) (c2 := c' - lo) ?_⟩
       rw [hv]
       refine ⟨_, rfl, .inr ⟨b', off' + lo * e.size, c' - lo, arr, tb, fz, fun i => ks' (lo + i), by rw [hlen], ⟨by rw [hlen]; have := hLen.1; omega, by rw [hlen]; have := hLen.2; omega⟩, hheap, by omega, fun i x hx => (hel' i x hx).2, ?_⟩⟩
       simp only [if_true]
       exact ⟨hown.1, by rw [hlen]⟩
      ·refine ⟨_, _, _, _, _, h, tk (o2 := off') (c2 := 0) ?_⟩
       rw [hv]
       refine ⟨_, rfl, .inr ⟨b', off', 0, arr, tb, fz, fun i => ks' (lo + i), by rw [hlen], ⟨by rw [hlen]; exact Nat.le_refl _, by rw [hlen]; have := hLen.2; omega⟩, hheap, by omega, fun i x hx => absurd (hel' i x hx).1 (by omega), ?_⟩⟩
       simp only [if_true]
       exact ⟨hown.1, by rw [hlen]⟩
  | nil =>
    simp only at h
    cases want with
    | lst o e => exact ⟨_, _, _, _, _, h, nil hcopy⟩
    | _ => exact h.elim
  | _ => exact h.elim
 ·obtain ⟨a, hk, ho⟩ := zJl h (by rintro t rfl; simp_all)
  cases a with
  | val ty d => exact ⟨_, _, _, _, _, hk, plain ho⟩
  | nil =>
    cases want with
    | lst o e => exact ⟨_, _, _, _, _, hk, nil ho⟩
    | _ => exact hk.elim
  | _ => exact hk.elim
theorem z4A {want : T} {x : Operand} {k : T → D → Wr → A} (h : (take want x k).wp X S Kt) {κ V} (hc : Conc w.heap (tmOf act) V S κ) :
 ∃ ty d ws κ' kx, (k ty d ws).wp X S Kt ∧ Taken w (tmOf act) V S κ ws ty d (act.eval x) κ' kx := z3o (ws0 := []) h hc
end Go.Own
namespace Go.Own
variable [Glb]
open Go
variable {P : Program} {Γ : Env} {E : Entry} {S : St} {act : Act} {w : World} {X : Ctr} {Kt : Wr → Prop}
theorem Bnd.taken {ws ty d v κ V κ' k} {tm : Nat → Value} (hb : Bnd E V κ) (ht : Taken w tm V S κ ws ty d v κ' k) : Bnd E V κ' ∧ ∀ b, b ∈ k.blocks → b ∈ E.t ∨ E.w.heap.size ≤ b :=
 ⟨⟨hb.v0, hb.v1, fun s b h => hb.k s b (ht.sub s b h)⟩, fun b h => let ⟨s, hs⟩ := ht.src b h; hb.k s b hs⟩
theorem z7K {h : Heap} {V t d κ cs} (hr : Rep h V t d κ cs) (hs : t.sound = true) : (z0Q t cs).cells.toList = cs :=
 zCm (fun h => by subst h; simp at hs) hr
theorem T.view_sound {t : T} : t.view.sound = t.sound := by
 induction t with
 | pair a b iha ihb => simp [iha, ihb]
 | lst o e => rfl
 | _ => rfl
theorem Fr.write (hf : Fr Γ E act w) {b : Nat} {arr : Array Value} (hb : b ∈ E.t ∨ E.w.heap.size ≤ b) : Fr Γ E act (w.setRow b arr) :=
 ⟨⟨hf.same.os, hf.same.tape, hf.same.output⟩, fun b' h1 h2 => by
  rw [z5G]
  ·exact hf.frame b' h1 h2
  ·rintro rfl; exact hb.elim h2 (fun h => by omega), by rw [z4v]; exact hf.size, hf.n, hf.fx, hf.df⟩
theorem T.shape_agg {t u : T} (h : t.shape = u.shape) : t.agg = u.agg := by
 cases t <;> cases u <;> first | rfl | (simp at h)
theorem K.setFld_fld : ∀ (j : Nat) (κ : K), κ.setFld j (κ.fld j) = κ
 | 0, κ => by cases κ <;> rfl
 | j + 1, κ => by cases κ <;> simp [K.setFld, K.fld, K.setFld_fld j]
theorem K.set_get : ∀ (p : Path) (κ : K), κ.set p (κ.get p) = κ
 | [], κ => rfl
 | .f j :: p, κ => by simp only [K.set, K.get]; rw [K.set_get p, K.setFld_fld]
 | .i n :: p, κ => by
   cases κ with
   | lst b off c m ks =>
     simp only [K.set, K.get, K.nth]
     rw [K.set_get p]
     congr 1
     funext i
     split
     ·rename_i h; rw [h]
     ·rfl
   | _ => rfl
theorem T.plain_fld' : ∀ (j : Nat) {e : T}, e.has j = true → e.plain = true → (e.fld j).plain = true := by
 intro j
 induction j with
 | zero => intro e hh hp; cases e <;> simp at hh ⊢; simp at hp; exact hp.1
 | succ j ih => intro e hh hp; cases e <;> simp at hh ⊢; simp at hp; exact ih hh hp.2
theorem zHl : ∀ (q : Path) {t : T} {d d' : D}, t.plain = true → Ok t d q → Ok t d' q
 | [], _, _, _, _, _ => trivial
 | .f j :: q, t, d, d', hp, h => by
   simp only [Ok] at h ⊢
   exact ⟨h.1, zHl q (T.plain_fld' j h.1 hp) h.2⟩
 | .i n :: q, t, d, d', hp, h => by
   simp only [Ok] at h
   cases t <;> simp at h hp
   rename_i o e
   rw [h.1] at hp; simp at hp
theorem D.fld_setFld' : ∀ (j : Nat) (d x : D), (d.setFld j x).fld j = x
 | 0, _, _ => rfl
 | j + 1, d, x => by simp only [D.setFld, D.fld, D.snd_pair]; exact D.fld_setFld' j _ _
theorem D.fld_setFld_ne' : ∀ (j k : Nat) (d x : D), j ≠ k → (d.setFld j x).fld k = d.fld k
 | 0, 0, _, _, h => absurd rfl h
 | 0, k + 1, _, _, _ => rfl
 | j + 1, 0, _, _, _ => rfl
 | j + 1, k + 1, d, x, h => by simp only [D.setFld, D.fld, D.snd_pair]; exact D.fld_setFld_ne' j k _ _ (by omega)
theorem z6i : ∀ (p q : Path) {t : T} {d x : D}, Ok t d p → (t.at p).plain = true → Ok t (d.set p x) q → Ok t d q
 | [], q, t, d, x, _, hp, h => zHl q hp h
 | _ :: _, [], _, _, _, _, _, _ => trivial
 | .f j :: p, .f k :: q, t, d, x, hok, hp, h => by
   simp only [Ok, D.set] at hok h ⊢
   refine ⟨h.1, ?_⟩
   by_cases hjk : j = k
   ·subst hjk
    rw [D.fld_setFld'] at h
    exact z6i p q hok.2 hp h.2
   ·rw [D.fld_setFld_ne' j k _ _ hjk] at h
    exact h.2
 | .i n :: p, .i m :: q, t, d, x, hok, hp, h => by
   simp only [Ok, D.set, D.l_lst, List.length_set] at hok h ⊢
   refine ⟨h.1, h.2.1, ?_⟩
   by_cases hnm : n = m
   ·subst hnm
    have : (D.lst (d.l.set n ((d.nth n).set p x))).nth n = (d.nth n).set p x := by simp [D.nth, hok.2.1]
    rw [this] at h
    exact z6i p q hok.2.2 hp h.2.2
   ·have : (D.lst (d.l.set n ((d.nth n).set p x))).nth m = d.nth m := by
     simp only [D.nth, D.l_lst, List.getD_eq_getElem?_getD, List.getElem?_set_ne hnm]
    rw [this] at h
    exact h.2.2
 | .f j :: p, .i m :: q, t, d, x, hok, _, h => by
   simp only [Ok] at hok h
   cases t <;> simp at hok h
 | .i n :: p, .f k :: q, t, d, x, hok, _, h => by
   simp only [Ok] at hok h
   cases t <;> simp at hok h
theorem Keeps.plain {h : Heap} {V : Nat → Prop} {S : St} {κ : Nat → K} {k : K} {r : Nat} {c : Cl} {t d d' bx} (hv : c.v = (S r).v) (h1 : (S r).root = some (t, d, bx)) (h2 : c.root = some (t, d', bx))
 (hk : k = κ r) (hd : ∀ q, Ok t d' q → Ok t d q) : Keeps h V S (S.put r c) κ (updK κ r k) r := by
 refine ⟨fun ver p tt dd v hr => ⟨by rw [St.put_same, hv]; exact hr.1, fun tr dr bx' hr' hl ht hok => ?_⟩, fun ver p e lo n v hr => ⟨by rw [St.put_same, hv]; exact hr.1, fun tr dr bx' hr' hl ht hok => ?_⟩, fun ver p v hr => ⟨by rw [St.put_same, hv]; exact hr.1, fun tr dr bx' hr' hl hok => ?_⟩⟩
 all_goals
  rw [St.put_same] at hr' hl
  rw [h2] at hr'; cases hr'
  rw [z0U, hk]
  rw [hv] at hl
 ·exact hr.2 t d bx h1 hl ht (hd _ hok)
 ·exact hr.2 t d bx h1 hl ht (hd _ hok)
 ·exact hr.2 t d bx h1 hl (hd _ hok)
theorem zH2 {bx : Bool} {κ : K} (h : bx = true → ∃ b κ0, κ = .lst b 0 1 1 (fun _ => κ0)) : z1C bx κ (base bx κ) = κ := by
 cases bx
 ·rfl
 ·obtain ⟨b, κ0, rfl⟩ := h rfl; rfl
theorem Conc.store {κ V} {tm : Nat → Value} (hc : Conc w.heap tm V S κ) {r : Nat} {tr dr bx} (hroot : (S r).root = some (tr, dr, bx)) {p : Path} (hok : Ok tr dr p) {b o : Nat}
 (hloc : loc tr (base bx (κ r)) (addr bx (κ r)) p = some (b, o)) {ty d k cs} (hrep : Rep w.heap V ty d k cs) (hsz : (tr.at p).shape = ty.shape) (hs1 : ty.sound = true) (hs0 : ty.size ≠ 0)
 (hnd : k.blocks.Nodup) (hdj : ∀ s b, b ∈ k.blocks → b ∉ (κ s).blocks) (hdv : ∀ b, b ∈ k.blocks → ¬ V b) (hlt : ∀ b, b ∈ k.blocks → b < w.heap.size) :
 ∃ arr, (storeCells ⟨b, o, none⟩ cs).run P w = .ok () (w.setRow b arr) ∧ b ∈ (κ r).blocks ∧
  ((ty = tr.at p ∧ (depth p ≠ 0 ∨ ty.plain = true)) → ∃ κ', Conc (w.setRow b arr).heap tm V (S.put r ((S r).setRoot tr (dr.set p d) (S r).v.cont)) κ' ∧ ∀ s b, b ∈ (κ' s).blocks → b ∈ k.blocks ∨ ∃ s, b ∈ (κ s).blocks) ∧
  ((ty = tr.at p ∧ ty.plain = true) → Conc (w.setRow b arr).heap tm V (S.put r ((S r).setRoot tr (dr.set p d) (S r).v)) κ) ∧
  (depth p = 0 → ∃ κ', Conc (w.setRow b arr).heap tm V (S.put r ((S r).setRoot (tr.set p ty) (dr.set p d) (S r).v.head)) κ' ∧ ∀ s b, b ∈ (κ' s).blocks → b ∈ k.blocks ∨ ∃ s, b ∈ (κ s).blocks) := by
 obtain ⟨cr, hrepr, hm, hndr, hab, hbin, hcase⟩ := hc.root hroot
 obtain ⟨cs0, hR0, hM0, hIn0, hNd0, hL0, hW0⟩ := Rep.place p hrepr hm hok hndr (fun b o he => (hab b o he).1)
 rw [hloc] at hM0
 obtain ⟨arr, tya, fz, g1, g2, g3, g4⟩ := hM0
 have hlen : cs.length = cs0.length := by rw [hrep.length, hR0.length]; exact (T.shape_size hsz).symm
 have hbr : b ∈ (κ r).blocks := by
  rcases (hL0 b o hloc).2 with h | ⟨o', h⟩
  ·exact hbin b h
  ·exact (hab b o' h).2
 have hbk : b ∉ k.blocks := fun h => hdj r b h hbr
 have hbV : ¬ V b := hc.dv r b hbr
 refine ⟨(spl arr.toList o cs).toArray, ?_, hbr, ?_⟩
 ·have := z2u P b o tya fz cs 0 arr w g1 g2 (by rw [hlen]; simpa using g3) (hrep.one hs1)
  simpa using this
 have hheap : (w.setRow b (spl arr.toList o cs).toArray).heap[b]? = some (.cells (spl arr.toList o cs).toArray tya fz) := setRow_heap w b arr _ tya _ g1
 have hwrote : zCp w.heap (w.setRow b (spl arr.toList o cs).toArray).heap b o cs := ⟨arr, tya, fz, g1, by rw [hlen]; exact g3, hheap⟩
 have hoth : ∀ b', b' ≠ b → (w.setRow b (spl arr.toList o cs).toArray).heap[b']? = w.heap[b']? := fun b' h => z5G _ _ _ h
 have hvk : ∀ b', V b' → (w.setRow b (spl arr.toList o cs).toArray).heap[b']? = w.heap[b']? := fun b' h => hoth b' (fun e => hbV (e ▸ h))
 have hrep' : Rep (w.setRow b (spl arr.toList o cs).toArray).heap V ty d k cs := hrep.frame (fun b' h => hoth b' (fun e => hbk (e ▸ h))) hvk (fun _ h => h)
 have hkr : ∀ b', b' ∈ k.blocks → b' ∉ (base bx (κ r)).blocks := fun b' h h2 => hdj r b' h (hbin b' h2)
 have hslots : ∀ s, s ≠ r → ∀ b', b' ∈ (κ s).blocks → (w.setRow b (spl arr.toList o cs).toArray).heap[b']? = w.heap[b']? :=
  fun s hs b' h => hoth b' (fun e => hc.dj s r hs b' h (e ▸ hbr))
 have hz : w.heap.size ≤ (w.setRow b (spl arr.toList o cs).toArray).heap.size := by rw [z4v]; exact Nat.le_refl _
 have fin : ∀ {t' d' v k0}, Keeps w.heap V S (S.put r ((S r).setRoot t' d' v)) κ (updK κ r (z1C bx (κ r) k0)) r →
  (∀ cs2 : List Value, True) → (∃ cs2, Rep (w.setRow b (spl arr.toList o cs).toArray).heap V t' d' k0 cs2 ∧ (∀ b' o', addr bx (κ r) = some (b', o') → zCp w.heap (w.setRow b (spl arr.toList o cs).toArray).heap b' o' cs2) ∧ (addr bx (κ r) = none → cs2 = cr) ∧ t'.shape = tr.shape) →
  k0.blocks.Nodup → (∀ b', b' ∈ k0.blocks → b' ∈ k.blocks ∨ b' ∈ (base bx (κ r)).blocks) →
  Conc (w.setRow b (spl arr.toList o cs).toArray).heap tm V (S.put r ((S r).setRoot t' d' v)) (updK κ r (z1C bx (κ r) k0)) ∧ ∀ s b, b ∈ (updK κ r (z1C bx (κ r) k0) s).blocks → b ∈ k.blocks ∨ ∃ s, b ∈ (κ s).blocks := by
  intro t' d' v k0 hkeep _ hcs2 hnd0 hmem
  obtain ⟨cs2, hR2, hA2, hA0, hagg⟩ := hcs2
  refine ⟨hc.reroot hroot hkeep ?_ ?_ hnd0 ?_ hslots hvk hz, ?_⟩
  ·intro hbx cs' hr' htm
   rcases hcase with ⟨_, _, htm', hn⟩ | ⟨hb2, _⟩
   ·refine ⟨cs2, hR2, ?_⟩
    rw [hA0 hn]; exact htm'.shape hagg
   ·rw [hbx] at hb2; cases hb2
  ·intro hbx b0 κ0 arr0 ty0 hk0 hh0
   have ha : addr bx (κ r) = some (b0, 0) := by subst hbx; simp [addr, hk0]
   obtain ⟨arr1, ty1, fz1, e1, e2, e3⟩ := hA2 b0 0 ha
   rw [hh0] at e1; cases e1
   refine ⟨_, ty0, e3, ?_⟩
   have hl2 : cs2.length = arr0.size := by
    rw [hR2.length]
    rcases hcase with ⟨hb2, _⟩ | ⟨_, _, b', κ0', arr', ty', hk', _, hh', hcr⟩
    ·rw [hbx] at hb2; cases hb2
    ·rw [hk'] at hk0; simp only [K.lst.injEq] at hk0; obtain ⟨rfl, _⟩ := hk0
     rw [hh'] at hh0; cases hh0
     have := hrepr.length
     rw [hcr] at this
     have hs : t'.size = tr.size := T.shape_size hagg
     rw [hs, ← this]; simp
   have : (spl arr0.toList 0 cs2).toArray.toList = cs2 := by
    simp [spl]; omega
   rw [this]; exact hR2
  ·intro b' hb'
   rcases hmem b' hb' with h | h
   ·exact .inr ⟨fun s => hdj s b' h, hdv b' h, by rw [z4v]; exact hlt b' h⟩
   ·exact .inl h
  ·intro s b' hb'
   by_cases hs : s = r
   ·subst hs
    rw [z0U] at hb'
    cases bx with
    | false =>
      simp only [z1C] at hb'
      exact (hmem b' hb').imp id (fun h => ⟨s, hbin b' h⟩)
    | true =>
      obtain ⟨b0, κ0, hk0⟩ := hc.addr_box hroot rfl
      simp only [z1C, hk0, if_true, K.blocks, List.mem_cons, List.mem_flatMap, List.mem_range] at hb'
      rcases hb' with rfl | ⟨_, _, hb'⟩
      ·exact .inr ⟨s, by rw [hk0]; simp [K.blocks]⟩
      ·exact (hmem b' hb').imp id (fun h => ⟨s, hbin b' h⟩)
   ·rw [z09 _ _ hs] at hb'; exact .inr ⟨s, hb'⟩
 refine ⟨?_, ?_, ?_⟩
 rotate_left
 ·rintro ⟨rfl, hpl⟩
  obtain ⟨cs2, hR2, hA2, hn2, hN2, hM2⟩ := hW0 hloc hrep' hwrote (fun b' _ _ hne => hoth b' hne) (fun b' _ _ hne => hoth b' hne) hvk (fun _ h => h)
  have hkk : k = (base bx (κ r)).get p := by rw [hrep.plain_leaf hpl, hR0.plain_leaf hpl]
  have hrb : z1C bx (κ r) ((base bx (κ r)).set p k) = κ r := by rw [hkk, K.set_get, zH2 (fun h => hc.addr_box hroot h)]
  have hup : updK κ r (z1C bx (κ r) ((base bx (κ r)).set p k)) = κ := by
   rw [hrb]; funext i; unfold updK; split <;> simp_all
  have := (fin (Keeps.plain (Cl.setRoot_root hroot).2 hroot (Cl.setRoot_root hroot).1 hrb (fun q hq => z6i p q hok hpl hq)) (fun _ => trivial) ⟨cs2, hR2, hA2, hn2, rfl⟩ (hN2 (fun b' h => .inl (hkr b' h)) hnd) (fun b' h => (hM2 b' h).imp id (fun h => h.1))).1
  rwa [hup] at this
 rotate_left
 ·rintro ⟨rfl, hpl⟩
  obtain ⟨cs2, hR2, hA2, hn2, hN2, hM2⟩ := hW0 hloc hrep' hwrote (fun b' _ _ hne => hoth b' hne) (fun b' _ _ hne => hoth b' hne) hvk (fun _ h => h)
  refine ⟨_, fin (Keeps.cont (Cl.setRoot_root hroot).2 hroot (Cl.setRoot_root hroot).1 ?_ ?_ (z3m _ _ _)) (fun _ => trivial) ⟨cs2, hR2, hA2, hn2, rfl⟩ (hN2 (fun b' h => .inl (hkr b' h)) hnd) (fun b' h => (hM2 b' h).imp id (fun h => h.1))⟩
  ·rw [zAy (fun h => hc.addr_box hroot h)]
   exact SimK.set p hok (fun hd => SimK.plain (hpl.resolve_left (fun h => h hd)) _ _)
  ·exact SimD.set p hok (fun hd => SimD.plain (hpl.resolve_left (fun h => h hd)) _ _)
 ·intro hd
  have hf := z7E p hd hok
  obtain ⟨c1, c0, c2, hcs, hl1, hrf, hinf, hndf, hre⟩ := Rep.flat p hrepr hf
  rw [z8T p hd] at hloc
  rcases hcase with ⟨rfl, _, _, hn⟩ | ⟨rfl, _, b', κ0', arr', ty', hk', _, hh', hcr⟩
  ·rw [hn] at hloc; simp at hloc
  ·have ha : addr true (κ r) = some (b', 0) := by simp [addr, hk']
   rw [ha] at hloc
   simp at hloc
   obtain ⟨rfl, ho⟩ := hloc
   rw [hh'] at g1; cases g1
   obtain ⟨hR, hN, hM⟩ := hre hrep' hndr (fun x hx hx' => hoth x (fun e => (hab b' 0 ha).1 (e ▸ hx))) hvk (fun _ h => h)
   have hc0 : c0.length = cs.length := by rw [hrf.length, hrep.length]; exact T.shape_size hsz
   have hspl : spl arr.toList o cs = c1 ++ (cs ++ c2) := by
    rw [← hcr, hcs, ← ho, ← hl1]
    unfold spl
    rw [List.take_left, List.drop_append, List.drop_eq_nil_of_le (by omega), ← hc0]
    simp
   refine ⟨_, fin (Keeps.head (Cl.setRoot_root hroot).2 hroot (Cl.setRoot_root hroot).1 (T.set_shape p hf hsz.symm) (z3m _ _ _)) (fun _ => trivial) ⟨c1 ++ (cs ++ c2), hR, ?_, ?_, T.set_shape p hf hsz.symm⟩
    (hN (fun x hx => .inl (hkr x hx)) hnd) (fun x h => (hM x h).imp id (fun h => h.1))⟩
   ·intro b2 o2 h2
    rw [ha] at h2; cases h2
    refine ⟨arr, _, _, hh', ?_, ?_⟩
    ·have := congrArg List.length hspl
     rw [z4k (by rw [hlen]; simpa using g3)] at this
     simp at this ⊢; omega
    ·rw [hheap, hspl]
     have : spl arr.toList 0 (c1 ++ (cs ++ c2)) = c1 ++ (cs ++ c2) := by
      have h3 := congrArg List.length hspl
      rw [z4k (by rw [hlen]; simpa using g3)] at h3
      unfold spl
      rw [List.drop_eq_nil_of_le (by omega)]
      simp
     rw [this]
   ·intro h2; rw [ha] at h2; cases h2
end Go.Own
