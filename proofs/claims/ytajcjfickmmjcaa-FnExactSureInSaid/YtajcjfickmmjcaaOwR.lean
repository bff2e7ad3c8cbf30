/- A layer over the walk: what lies in memory as plain data, each operation by what it does to data; part 22. -/
import Derived.Test.YtajcjfickmmjcaaOwQ
set_option linter.unusedVariables false
set_option linter.unusedSimpArgs false
namespace Go.Own
open Go

variable {P : Program} {Γ : Env} {E : Entry} {S : St} {act : Act} {w : World} {X : Ctr} {Kt : Wr → Prop} {next : Act → World → Prop}

theorem T.at_append : ∀ (p q : Path) (t : T), t.at (p ++ q) = (t.at p).at q := by
  intro p
  induction p with
  | nil => intros; rfl
  | cons s p ih => intro q t; cases s <;> simp [ih]
theorem D.get_append : ∀ (p q : Path) (d : D), d.get (p ++ q) = (d.get p).get q := by
  intro p
  induction p with
  | nil => intros; rfl
  | cons s p ih => intro q t; cases s <;> simp [ih]
theorem K.get_append : ∀ (p q : Path) (d : K), d.get (p ++ q) = (d.get p).get q := by
  intro p
  induction p with
  | nil => intros; rfl
  | cons s p ih => intro q t; cases s <;> simp [K.get, ih]
theorem ok_append : ∀ (p q : Path) {t : T} {d : D}, Ok t d (p ++ q) ↔ Ok t d p ∧ Ok (t.at p) (d.get p) q := by
  intro p
  induction p with
  | nil => intros; simp
  | cons s p ih =>
    intro q t d
    cases s <;> simp only [List.cons_append, Ok, T.at, D.get, ih, and_assoc]
theorem depth_append : ∀ (p q : Path), depth (p ++ q) = depth p + depth q := by
  intro p
  induction p with
  | nil => intros; simp
  | cons s p ih => intro q; cases s <;> simp [ih]; omega
theorem loc_append : ∀ (p q : Path) {t : T} {κ : K} {A : Pt} {a}, loc t κ A p = some a → loc t κ A (p ++ q) = loc (t.at p) (κ.get p) (some a) q := by
  intro p
  induction p with
  | nil => intro q t κ A a h; simp [loc] at h; simp [K.get, h]
  | cons s p ih =>
    intro q t κ A a h
    cases s with
    | f j => simp only [List.cons_append, loc] at h ⊢; exact ih q h
    | i n =>
      cases κ with
      | lst b off c m ks => simp only [List.cons_append, loc] at h ⊢; exact ih q h
      | _ => simp [loc] at h

theorem add_at (b o n : Nat) : (⟨b, o, none⟩ : Addr).add n = ⟨b, o + n, none⟩ := by unfold Addr.add; split <;> simp_all

theorem Fits.field {t : TypeId} (ok : EnvOk P Γ) {j : Nat} (h : (Γ.ty t).has j = true) : ∃ fs f, P.underlying t = some (.struct fs) ∧ fs[j]? = some f ∧ f.offset = (Γ.ty t).off j ∧ Γ.ty f.type = (Γ.ty t).fld j ∧ ((Γ.ty t).fld j).ok = true := by
  have hf := ok.fits t (by revert h; cases Γ.ty t <;> simp)
  generalize Γ.ty t = T at hf h
  cases T with
  | pair a b =>
    obtain ⟨fs, hu, hj, _⟩ := hf
    obtain ⟨f, h1, h2, h3, h4⟩ := hj j h
    exact ⟨fs, f, hu, h1, h2, h3, h4⟩
  | _ => simp at h

theorem T.view_shape (t : T) : t.view.shape = t.shape := by induction t <;> first | rfl | simp_all

theorem run_fieldAt {t : TypeId} (ok : EnvOk P Γ) {j : Nat} (h : (Γ.ty t).has j = true) (hs : ((Γ.ty t).fld j).size ≠ 0) (b o : Nat) :
    (Instr.fieldAt t (.pointer (some ⟨b, o, none⟩)) j).run P w = .ok (.pointer (some ⟨b, o + (Γ.ty t).off j, none⟩)) w := by
  obtain ⟨fs, f, hu, hj, hoff, hty, hok⟩ := Fits.field ok h
  have hsz := ok.sizeOf (t := f.type) (by rw [hty]; exact hok) w
  rw [hty] at hsz
  simp only [Instr.fieldAt, Sem.run_bind, run_underlying hu, Result.andThen_ok, hj, Instr.sureAddr, Sem.run_pure, fieldPlace, hsz, if_neg hs, hoff, add_at]

theorem T.plain_fld : ∀ (j : Nat) {e : T}, e.has j = true → e.plain = true → (e.fld j).plain = true := by
  intro j
  induction j with
  | zero => intro e hh hp; cases e <;> simp at hh ⊢; simp at hp; exact hp.1
  | succ j ih => intro e hh hp; cases e <;> simp at hh ⊢; simp at hp; exact ih hh hp.2

theorem fieldAddr_sound (ok : EnvOk P Γ) {dst : Option Nat} {t : TypeId} {x : Operand} {j : Nat} (h : (opFieldAddr Γ dst t x j).wp X S Kt) (hi : Inv Γ E S act w) (hn : Next' Γ E S Kt next) :
    ∃ v, (Instr.fieldAt t (act.eval x) j).run P w = .ok v w ∧ next (act.put dst v) w := by
  obtain ⟨hf, κ, V, hc, hb⟩ := hi
  obtain ⟨a, hk, ho⟩ := opd_sound h hc
  cases a with
  | ptr r ver p =>
    obtain ⟨tr, dr, bx, hroot, hk⟩ := rootOf_sound hk
    simp only [A.wp] at hk
    obtain ⟨⟨hl, hok, hbx, hshape, hhas, hsz⟩, hk⟩ := hk
    obtain ⟨b, o, hloc, hv⟩ := ho.2 tr dr bx hroot hl hok
    have hsh := T.shape_has j hshape
    refine ⟨_, by rw [hv]; exact run_fieldAt ok hhas hsz b o, out_sound hk hf hc hb ?_ hn⟩
    refine ⟨Ver.le_refl _, fun tr' dr' bx' hr' _ hok' => ?_⟩
    rw [hroot] at hr'; cases hr'
    refine ⟨b, o + (Γ.ty t).off j, ?_, rfl⟩
    rw [loc_append p _ hloc]
    simp [loc, hsh.2.1]
  | val τ d =>
    cases τ with
    | ptr e =>
      simp only [A.wp] at hk
      obtain ⟨⟨hview, hhas, hsz⟩, hk⟩ := hk
      obtain ⟨hp, cs, ⟨_, hpe, b, o, arr, tt, fz, ke, rfl, hV, hh, hs, he⟩, hv⟩ := ho
      have hsh := T.shape_has j (t := e) (u := Γ.ty t) (by rw [← T.view_shape e, ← T.view_shape (Γ.ty t), hview])
      have hsz' : ((Γ.ty t).fld j).size ≠ 0 := by rw [← T.shape_size hsh.2.2]; exact hsz
      refine ⟨_, by rw [hv]; exact run_fieldAt ok (hsh.1 ▸ hhas) hsz' b o, out_sound hk hf hc hb ?_ hn⟩
      obtain ⟨c1, cj, c2, hcs, hlen, hj, _⟩ := Rep.fld j he hhas
      have hel := he.length
      refine ⟨rfl, _, ⟨rfl, ?_, b, o + (Γ.ty t).off j, arr, tt, fz, ke.fld j, rfl, hV, hh, ?_, ?_⟩, rfl⟩
      · exact T.plain_fld j hhas hpe
      · rw [hcs] at hel
        have := hj.length
        simp at hel
        rw [← hsh.2.1, ← hlen]; omega
      · have : (arr.toList.drop (o + (Γ.ty t).off j)).take (e.fld j).size = cj := by
          apply List.ext_getElem?
          intro k
          have h1 := cut_get arr.toList o e.size (e.off j + k)
          rw [hcs] at h1
          rw [cut_get, ← hsh.2.1, show o + e.off j + k = o + (e.off j + k) by omega]
          have h2 := hj.length
          simp [hcs] at hel
          by_cases hk2 : k < (e.fld j).size
          · rw [if_pos hk2]
            rw [if_pos (by omega), List.getElem?_append_right (by omega), hlen, show e.off j + k - e.off j = k by omega, List.getElem?_append_left (by omega)] at h1
            exact h1.symm
          · rw [if_neg hk2, List.getElem?_eq_none (by omega)]
        rw [this]; exact hj
    | _ => exact hk.elim
  | _ => exact hk.elim

theorem run_indexAt {t : TypeId} (ok : EnvOk P Γ) (h : (Γ.ty t).lsts = true) {k : IntKind} {i : Int} {b o n c : Nat} (h0 : 0 ≤ i) (h1 : i < n) :
    (Instr.indexAt t (.slice (some ⟨b, o, none⟩) n c) (.int k i)).run P w = .ok (.pointer (some ⟨b, o + i.toNat * (Γ.ty t).elem.size, none⟩)) w := by
  obtain ⟨et, hu, he, hok⟩ := Fits.lst ok h
  have hsz := ok.sizeOf hok w
  rw [he] at hsz
  simp only [Instr.indexAt, asIntOf, Sem.run_bind, Sem.run_pure, run_underlying hu, Result.andThen_ok, if_pos (show 0 ≤ i ∧ i < (n : Int) from ⟨h0, h1⟩), hsz, add_at]

theorem loc_idx {b off c m : Nat} {ks : Nat → K} {e : T} {n : Nat} : ∀ (q : Path) {t : T} {κ : K} {A : Pt}, κ.get q = .lst b off c m ks → t.at q = .lst true e → loc t κ A (q ++ [.i n]) = some (b, off + n * e.size) := by
  intro q
  induction q with
  | nil => intro t κ A hq ht; simp [K.get] at hq; simp at ht; subst hq ht; simp [loc]
  | cons s q ih =>
    intro t κ A hq ht
    cases s with
    | f j => simp only [List.cons_append, loc]; exact ih hq ht
    | i m =>
      cases κ with
      | lst b' off' c' m' ks' => simp only [List.cons_append, loc]; exact ih hq ht
      | _ =>
        simp only [K.get, K.nth] at hq
        have hleaf : ∀ q, K.leaf.get q = .leaf := by
          intro q; induction q with
          | nil => rfl
          | cons s q ih => cases s <;> simpa [K.get, K.fld, K.nth] using ih
        rw [hleaf] at hq; cases hq

theorem indexAddr_sound (ok : EnvOk P Γ) {dst : Option Nat} {t : TypeId} {x y : Operand} (h : (opIndexAddr Γ dst t x y).wp X S Kt) (hi : Inv Γ E S act w) (hn : Next' Γ E S Kt next) :
    ∃ v, (Instr.indexAt t (act.eval x) (act.eval y)).run P w = .ok v w ∧ next (act.put dst v) w := by
  obtain ⟨hf, κ, V, hc, hb⟩ := hi
  obtain ⟨a, hk, ho⟩ := opd_sound h hc
  obtain ⟨b, hk, ho2⟩ := opd_sound hk hc
  cases b with
  | val τ2 n =>
    cases τ2 with
    | int kd =>
      obtain ⟨hv2, _⟩ := of_int ho2
      cases a with
      | ref r ver p τ d =>
        cases τ with
        | lst o e =>
          cases o with
          | false => exact hk.elim
          | true =>
            obtain ⟨tr, dr, bx, hroot, hk⟩ := rootOf_sound hk
            simp only [A.wp] at hk
            obtain ⟨⟨hl, hat, hok, hview, hls, h0, h1⟩, hk⟩ := hk
            rcases hc.refl_list hroot hat hok hl ho with ⟨_, h2, _⟩ | ⟨b, off, c, arr, ty, fz, ks, hv, hkk, hlen, _⟩
            · rw [h2] at h1; simp at h1; omega
            · have hes : (Γ.ty t).elem.size = e.size := by rw [← T.view_size, ← hview, T.view_size]
              refine ⟨_, by rw [hv, hv2]; exact run_indexAt ok hls h0 h1, out_sound hk hf hc hb ?_ hn⟩
              refine ⟨Ver.le_refl _, fun tr' dr' bx' hr' _ hok' => ?_⟩
              rw [hroot] at hr'; cases hr'
              refine ⟨b, _, ?_, rfl⟩
              rw [hes]
              exact loc_idx p hkk hat
        | _ => exact hk.elim
      | win r ver p e lo m =>
        obtain ⟨tr, dr, bx, hroot, hk⟩ := rootOf_sound hk
        simp only [A.wp] at hk
        obtain ⟨⟨hl, hat, hok, hview, hls, h0, h1, h2⟩, hk⟩ := hk
        have hes : (Γ.ty t).elem.size = e.size := by rw [← T.view_size, ← hview, T.view_size]
        rcases ho.2 tr dr bx hroot hl hat hok with ⟨_, _, rfl, _⟩ | ⟨b, off, c, m', ks, hkk, hle, hv | ⟨_, rfl, _⟩⟩
        · simp at h1; omega
        · refine ⟨_, by rw [hv, hv2]; exact run_indexAt ok hls h0 h1, out_sound hk hf hc hb ?_ hn⟩
          refine ⟨Ver.le_refl _, fun tr' dr' bx' hr' _ hok' => ?_⟩
          rw [hroot] at hr'; cases hr'
          refine ⟨b, _, ?_, rfl⟩
          rw [hes, Nat.add_assoc, ← Nat.add_mul]
          exact loc_idx p hkk hat
        · simp at h1; omega
      | val τ d =>
        cases τ with
        | lst o e =>
          cases o with
          | true => exact hk.elim
          | false =>
            simp only [A.wp] at hk
            obtain ⟨⟨hview, hls, h0, h1⟩, hk⟩ := hk
            obtain ⟨hp, cs, ⟨xs, rfl, ⟨rfl, _, A, rfl, hA⟩ | ⟨b, off, c, arr, ty, fz, ks, rfl, hlen, hh, hs, he, hV⟩⟩, hv⟩ := ho
            · simp at h1; omega
            · simp at hV h1
              have hes : (Γ.ty t).elem.size = e.size := by rw [← T.view_size, ← hview, T.view_size]
              have hlt : n.i.toNat < xs.length := by omega
              have hx : xs[n.i.toNat]? = some (xs.getD n.i.toNat .unit) := by simp [List.getElem?_eq_getElem hlt]
              have hel := he _ _ hx
              refine ⟨_, by rw [hv, hv2]; exact run_indexAt ok hls h0 h1, out_sound hk hf hc hb ?_ hn⟩
              refine ⟨rfl, _, ⟨rfl, hV.2, b, _, arr, ty, fz, ks n.i.toNat, rfl, hV.1, hh, ?_, ?_⟩, rfl⟩
              · have h3 : (n.i.toNat + 1) * e.size ≤ c * e.size := Nat.mul_le_mul_right _ (by have := hlen.1; omega)
                rw [Nat.add_mul, Nat.one_mul] at h3
                rw [hes]; omega
              · rw [hes]; simpa [D.nth] using hel
        | _ => exact hk.elim
      | _ => exact hk.elim
    | _ => exact hk.elim
  | _ => cases a <;> exact hk.elim

end Go.Own
