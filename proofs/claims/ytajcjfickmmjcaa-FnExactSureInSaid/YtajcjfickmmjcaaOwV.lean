/- A layer over the walk: what lies in memory as plain data, each operation by what it does to data; part 26. -/
import Derived.Test.YtajcjfickmmjcaaOwU
import Derived.Laws.BytesString
set_option linter.unusedVariables false
set_option linter.unusedSimpArgs false
namespace Go.Own
open Go

variable {P : Program} {Γ : Env} {E : Entry} {S : St} {act : Act} {w : World} {X : Ctr} {Kt : Wr → Prop} {next : Act → World → Prop}

theorem foldl_bytes : ∀ (ns : List Int) (s : ByteArray), ns.foldl (fun r n => r.push (UInt8.ofNat n.toNat)) s = s ++ ⟨(ns.map fun n => UInt8.ofNat n.toNat).toArray⟩
  | [], s => by ext1; simp
  | n :: ns, s => by
    rw [List.foldl_cons, foldl_bytes ns]
    ext1
    simp [ByteArray.push]

theorem bytes_of {xs : List D} {cs : List Value} (hl : cs.length = xs.length) (h : ∀ (i : Nat) x, xs[i]? = some x → ∃ n, x = .int n ∧ cs[i]? = some (.int .u8 n)) : cs = (xs.map D.i).map (Value.int .u8) := by
  apply List.ext_getElem?
  intro i
  cases hx : xs[i]? with
  | none =>
    have : cs[i]? = none := List.getElem?_eq_none (by rw [hl]; exact List.getElem?_eq_none_iff.1 hx)
    simp [this, hx]
  | some x =>
    obtain ⟨n, rfl, hc⟩ := h i x hx
    simp [hc, hx]

theorem run_conv_bytes (ok : EnvOk P Γ) {src tgt : TypeId} (hs : Γ.ty src = .lst true (.int .u8)) (ht : Γ.ty tgt = .str) {A : Option Addr} {n c : Nat} {xs : List D} (hn : n = xs.length)
    (h : (A = none ∧ xs = []) ∨ ∃ a : Addr, ∃ cs : List Value, A = some a ∧ cs.length = xs.length ∧ (∀ (i : Nat) x, xs[i]? = some x → ∃ n, x = .int n ∧ cs[i]? = some (.int .u8 n)) ∧ ∀ j v, cs[j]? = some v → w.cell? (a.add j) = some v) :
    (convert src tgt (.slice A n c)).run P w = .ok (.string (mkS (bytesStr xs))) w := by
  obtain ⟨et, hu, he, hok⟩ := Fits.lst ok (t := src) (by rw [hs]; rfl)
  have hue : P.underlying et = some (.int .u8) := by
    have := ok.fits et hok
    rw [he, hs] at this; exact this
  have hut : P.underlying tgt = some .string := by have := ok.fits tgt (by rw [ht]; rfl); rw [ht] at this; exact this
  have hconv : (convert src tgt (.slice A n c)).run P w = (Conv.bytesToString (.slice A n c)).run P w := by
    simp only [convert, Sem.run_bind, run_underlying hu, run_underlying hut, Result.andThen_ok, run_underlying hue]
  rw [hconv]
  rcases h with ⟨rfl, rfl⟩ | ⟨a, cs, rfl, hl, hx, hcell⟩
  · simp [Conv.bytesToString, bytesStr]; rfl
  · have hcs := bytes_of hl hx
    have hload := run_loadCells_list (P := P) w _ cs hcell
    rw [hl, ← hn] at hload
    rw [run_bytesToString w _ n c (xs.map D.i) (by rw [← hcs]; exact hload), foldl_bytes]
    congr 2
    ext1
    simp [bytesStr, mkS]

theorem bytesStr_size (xs : List D) : (bytesStr xs).length = xs.length := by
  simp [bytesStr]

theorem conv_sound (ok : EnvOk P Γ) {dst : Option Nat} {src tgt : TypeId} {x : Operand} (h : (opConv Γ dst src tgt x).wp X S Kt) (hi : Inv Γ E S act w) (hn : Next' Γ E S Kt next) :
    ∃ v, (convert src tgt (act.eval x)).run P w = .ok v w ∧ next (act.put dst v) w := by
  obtain ⟨hf, κ, V, hc, hb⟩ := hi
  obtain ⟨a, hk, ho⟩ := opd_sound h hc
  cases a with
  | val τ d =>
    cases τ with
    | int k =>
      simp only at hk
      split at hk
      · rename_i k' hT
        simp only [A.wp] at hk
        obtain ⟨hsok, hk⟩ := hk
        obtain ⟨hv, _⟩ := of_int ho
        have hut : P.underlying tgt = some (.int k') := by have := ok.fits tgt (by rw [hT]; rfl); rw [hT] at this; exact this
        have hus : ∃ u, P.underlying src = some u := by
          have := ok.fits src hsok
          revert this; cases Γ.ty src <;> intro this
          · exact ⟨_, this⟩
          · exact ⟨_, this⟩
          · exact ⟨_, this⟩
          · exact ⟨_, this⟩
          · obtain ⟨fs, hu, _⟩ := this; exact ⟨_, hu⟩
          · obtain ⟨_, et, hu, _⟩ := this; exact ⟨_, hu⟩
          · exact this.elim
          · exact this.elim
          · exact this.elim
        obtain ⟨u, hu⟩ := hus
        refine ⟨_, ?_, out_sound hk hf hc hb (ov_int _ _ (wrap_range _ _)) hn⟩
        rw [hv]
        cases u <;> simp [convert, run_underlying hu, run_underlying hut, Conv.intToInt]
      · exact hk.elim
    | lst o e =>
      cases o with
      | true => exact hk.elim
      | false =>
        cases e with
        | int k =>
          cases k with
          | u8 =>
            simp only [A.wp] at hk
            obtain ⟨⟨hs, ht⟩, hk⟩ := hk
            obtain ⟨_, cs, ⟨xs, rfl, ⟨rfl, _, A, rfl, hA⟩ | ⟨b, off, c, arr, ty, fz, ks, rfl, hlen, hh, hsz, he, hV⟩⟩, hv⟩ := ho
            · refine ⟨_, by rw [hv]; exact run_conv_bytes ok hs ht (n := 0) (c := 0) rfl (by cases A with | none => exact .inl ⟨rfl, rfl⟩ | some a => exact .inr ⟨a, [], rfl, rfl, by simp, by simp⟩), out_sound hk hf hc hb (ov_str _ (by rw [bytesStr_size]; simp [smax])) hn⟩
            · refine ⟨_, by
                rw [hv]
                refine run_conv_bytes ok hs ht rfl (.inr ⟨⟨b, off, none⟩, (arr.toList.drop off).take xs.length, rfl, ?_, ?_, cut_cell hh ?_⟩)
                · have := hlen.1; simp at hsz ⊢; omega
                · intro i x hx
                  obtain ⟨n, hxn, _, hc1, _⟩ := he i x hx
                  refine ⟨n, hxn, ?_⟩
                  have hil : i < xs.length := (List.getElem?_eq_some_iff.1 hx).1
                  rw [cut_get, if_pos hil]
                  have := congrArg (·[0]?) hc1
                  simp only [cut_get, T.size] at this
                  simpa using this
                · congr 1; have := hlen.1; simp at hsz ⊢; omega, out_sound hk hf hc hb (ov_str _ (by rw [bytesStr_size]; exact hlen.2)) hn⟩
          | _ => exact hk.elim
        | _ => exact hk.elim
    | _ => exact hk.elim
  | ref r ver p τ d =>
    cases τ with
    | lst o e =>
      cases o with
      | false => exact hk.elim
      | true =>
        cases e with
        | int k =>
          cases k with
          | u8 =>
            obtain ⟨tr, dr, bx, hroot, hk⟩ := rootOf_sound hk
            simp only [A.wp] at hk
            obtain ⟨⟨hl, hat, hok, hs, ht⟩, hk⟩ := hk
            obtain ⟨_, _, hsm⟩ := hc.list hroot hat hok
            rcases hc.refl_list hroot hat hok hl ho with ⟨hv, h2, _⟩ | ⟨b, off, c, arr, ty, fz, ks, hv, hkk, hlen, hh, _, hsz, he⟩
            · refine ⟨_, by rw [hv]; exact run_conv_bytes ok hs ht (n := 0) (c := 0) rfl (.inl ⟨rfl, rfl⟩), by rw [h2] at hk; exact out_sound hk hf hc hb (ov_str _ (by rw [bytesStr_size]; simp [smax])) hn⟩
            · refine ⟨_, by
                rw [hv]
                refine run_conv_bytes ok hs ht rfl (.inr ⟨⟨b, off, none⟩, (arr.toList.drop off).take (dr.get p).l.length, rfl, ?_, ?_, cut_cell hh ?_⟩)
                · have := hlen.1; simp at hsz ⊢; omega
                · intro i x hx
                  obtain ⟨n, hxn, _, hc1, _⟩ := he i x hx
                  refine ⟨n, hxn, ?_⟩
                  have hil := (List.getElem?_eq_some_iff.1 hx).1
                  rw [cut_get, if_pos hil]
                  have := congrArg (·[0]?) hc1
                  simp only [cut_get, T.size] at this
                  simpa using this
                · congr 1; have := hlen.1; simp at hsz ⊢; omega, out_sound hk hf hc hb (ov_str _ (by rw [bytesStr_size]; exact hsm)) hn⟩
          | _ => exact hk.elim
        | _ => exact hk.elim
    | _ => exact hk.elim
  | _ => exact hk.elim

theorem run_part (ok : EnvOk P Γ) {ft : TypeId} (hft : (Γ.ty ft).ok = true) {h V τ d k cj} (hr : Rep h V τ d k cj) (hv : τ.view = (Γ.ty ft).view) {cs c1 c2 : List Value} (hcs : cs = c1 ++ (cj ++ c2)) :
    (part ft cs.toArray c1.length).run P w = .ok (toVal τ cj) w := by
  have hk := T.view_kind hv
  have hl := hr.length
  unfold part
  rw [Sem.run_bind, ok.isAgg hft]
  simp only [Result.andThen_ok]
  by_cases ha : τ.agg = true
  · rw [← hk.1, if_pos ha, Sem.run_bind, ok.sizeOf hft]
    simp only [Result.andThen_ok, Sem.run_pure]
    rw [← hk.2, ← hl]
    simp [toVal, ha, hcs]
  · rw [← hk.1, if_neg ha]
    have h1 : cj.length = 1 := by
      rw [hl]; clear hk hv hl hr; cases τ <;> simp at ha ⊢
    match cj, h1 with
    | [v], _ =>
      have : cs.toArray[c1.length]? = some v := by simp [hcs]
      rw [this]
      simp [toVal, ha]

theorem T.view_fld : ∀ (j : Nat) (t : T), (t.fld j).view = t.view.fld j := by
  intro j
  induction j with
  | zero => intro t; cases t <;> rfl
  | succ j ih => intro t; cases t <;> first | rfl | (simp [ih])

theorem RefRep.fld {h : Heap} {V : Nat → Prop} : ∀ (j : Nat) {t d κ cs}, RefRep h V t d κ cs → t.has j = true → ∃ c1 cj c2, cs = c1 ++ (cj ++ c2) ∧ c1.length = t.off j ∧ RefRep h V (t.fld j) (d.fld j) (κ.fld j) cj := by
  have hlen : ∀ {t : T} {d κ cs}, RefRep h V t d κ cs → cs.length = t.size := by
    intro t
    induction t with
    | pair a b iha ihb => rintro d κ cs ⟨c1, c2, rfl, _, h1, h2⟩; simp [iha h1, ihb h2]
    | lst o e ih =>
      intro d κ cs hr
      cases o with
      | false => exact Rep.length (t := .lst false e) hr
      | true => rcases hr with ⟨_, rfl⟩ | ⟨_, _, _, _, _, _, rfl⟩ <;> rfl
    | unit => intro d κ cs hr; exact Rep.length (t := .unit) hr
    | int k => intro d κ cs hr; exact Rep.length (t := .int k) hr
    | bool => intro d κ cs hr; exact Rep.length (t := .bool) hr
    | str => intro d κ cs hr; exact Rep.length (t := .str) hr
    | ptr e ih => intro d κ cs hr; exact Rep.length (t := .ptr e) hr
    | fn f c ih => intro d κ cs hr; exact Rep.length (t := .fn f c) hr
    | gone => intro d κ cs hr; exact Rep.length (t := .gone) hr
  intro j
  induction j with
  | zero =>
    intro t d κ cs hr hh
    cases t <;> simp at hh
    obtain ⟨c1, c2, rfl, _, h1, h2⟩ := hr
    exact ⟨[], c1, c2, rfl, rfl, h1⟩
  | succ j ih =>
    intro t d κ cs hr hh
    cases t <;> simp at hh
    obtain ⟨c1, c2, rfl, _, h1, h2⟩ := hr
    obtain ⟨e1, ej, e2, rfl, hl, hj⟩ := ih h2 hh
    refine ⟨c1 ++ e1, ej, e2, by simp, by simp [hlen h1, hl], ?_⟩
    rw [D.fld_succ, K.fld_succ]; exact hj

theorem run_part_ref (ok : EnvOk P Γ) {ft : TypeId} (hft : (Γ.ty ft).ok = true) {τ : T} {cj : List Value} (hl : cj.length = τ.size) (hv : τ.view = (Γ.ty ft).view) {cs c1 c2 : List Value} (hcs : cs = c1 ++ (cj ++ c2)) :
    (part ft cs.toArray c1.length).run P w = .ok (toVal τ cj) w := by
  have hk := T.view_kind hv
  unfold part
  rw [Sem.run_bind, ok.isAgg hft]
  simp only [Result.andThen_ok]
  by_cases ha : τ.agg = true
  · rw [← hk.1, if_pos ha, Sem.run_bind, ok.sizeOf hft]
    simp only [Result.andThen_ok, Sem.run_pure]
    rw [← hk.2, ← hl]
    simp [toVal, ha, hcs]
  · rw [← hk.1, if_neg ha]
    have h1 : cj.length = 1 := by
      rw [hl]; clear hk hv hl; cases τ <;> simp at ha ⊢
    match cj, h1 with
    | [v], _ =>
      have : cs.toArray[c1.length]? = some v := by simp [hcs]
      rw [this]
      simp [toVal, ha]

theorem RefRep.length {h : Heap} {V : Nat → Prop} {t : T} : ∀ {d κ cs}, RefRep h V t d κ cs → cs.length = t.size := by
  induction t with
  | pair a b iha ihb => rintro d κ cs ⟨c1, c2, rfl, _, h1, h2⟩; simp [iha h1, ihb h2]
  | lst o e ih =>
    intro d κ cs hr
    cases o with
    | false => exact Rep.length (t := .lst false e) hr
    | true => rcases hr with ⟨_, rfl⟩ | ⟨_, _, _, _, _, _, rfl⟩ <;> rfl
  | unit => intro d κ cs hr; exact Rep.length (t := .unit) hr
  | int k => intro d κ cs hr; exact Rep.length (t := .int k) hr
  | bool => intro d κ cs hr; exact Rep.length (t := .bool) hr
  | str => intro d κ cs hr; exact Rep.length (t := .str) hr
  | ptr e ih => intro d κ cs hr; exact Rep.length (t := .ptr e) hr
  | fn f c ih => intro d κ cs hr; exact Rep.length (t := .fn f c) hr
  | gone => intro d κ cs hr; exact Rep.length (t := .gone) hr

theorem RefRep.plain {h : Heap} {V : Nat → Prop} {t : T} : ∀ {d κ cs}, RefRep h V t d κ cs → t.plain = true → ∃ k, Rep h V t d k cs := by
  intro d κ cs hr hp
  refine ⟨t.k0, ?_⟩
  induction t generalizing d κ cs with
  | pair a b iha ihb =>
    simp at hp
    obtain ⟨c1, c2, rfl, hd, h1, h2⟩ := hr
    exact ⟨d.fst, d.snd, _, _, c1, c2, hd, rfl, rfl, iha h1 hp.1, ihb h2 hp.2⟩
  | lst o e ih => simp at hp; obtain ⟨rfl, _⟩ := hp; exact hr
  | _ => exact hr

theorem field_sound (ok : EnvOk P Γ) {dst : Option Nat} {t : TypeId} {x : Operand} {j : Nat} (h : (opField Γ dst t x j).wp X S Kt) (hi : Inv Γ E S act w) (hn : Next' Γ E S Kt next) :
    ∃ v, (Instr.field t (act.eval x) j).run P w = .ok v w ∧ next (act.put dst v) w := by
  obtain ⟨hf, κ, V, hc, hb⟩ := hi
  obtain ⟨a, hk, ho⟩ := opd_sound h hc
  have run : ∀ {τ : T} {cs c1 cj c2 : List Value}, act.eval x = toVal τ cs → τ.view = (Γ.ty t).view → τ.has j = true → cs = c1 ++ (cj ++ c2) → c1.length = τ.off j → cj.length = (τ.fld j).size →
      (Instr.field t (act.eval x) j).run P w = .ok (toVal (τ.fld j) cj) w := by
    intro τ cs c1 cj c2 hv hview hh hcs hl hlj
    have hsh := T.shape_has j (t := τ) (u := Γ.ty t) (by rw [← T.view_shape τ, ← T.view_shape (Γ.ty t), hview])
    obtain ⟨fs, f, hu, hfj, hoff, hfty, hfok⟩ := Fits.field ok (t := t) (j := j) (by rw [← hsh.1]; exact hh)
    have hagg : τ.agg = true := by cases τ <;> simp at hh ⊢
    rw [hv]
    simp only [Instr.field, Sem.run_bind, run_underlying hu, Result.andThen_ok, hfj, toVal, hagg, if_true, asAgg, Sem.run_pure]
    rw [hoff, ← hsh.2.1, ← hl]
    exact run_part_ref ok (by rw [hfty]; exact hfok) hlj (by rw [hfty, T.view_fld, hview, ← T.view_fld]) hcs
  cases a with
  | val τ d =>
    simp only [A.wp] at hk
    obtain ⟨⟨hp, hview, hh⟩, hk⟩ := hk
    obtain ⟨_, cs, hr, hv⟩ := ho
    obtain ⟨c1, cj, c2, hcs, hl, hj, _⟩ := Rep.fld j hr hh
    have hpj := T.plain_fld j hh hp
    refine ⟨_, run hv hview hh hcs hl hj.length, out_sound hk hf hc hb ⟨hpj, cj, by rw [← hj.plain_leaf hpj]; exact hj, rfl⟩ hn⟩
  | ref r ver p τ d =>
    obtain ⟨tr, dr, bx, hroot, hk⟩ := rootOf_sound hk
    simp only [A.wp] at hk
    obtain ⟨⟨hl, hat, hok, hview, hh⟩, hk⟩ := hk
    obtain ⟨hle, hx⟩ := ho
    obtain ⟨cs, href, hv⟩ := hx tr dr bx hroot hl hat hok
    obtain ⟨c1, cj, c2, hcs, hlen, hj⟩ := RefRep.fld j href hh
    refine ⟨_, run hv hview hh hcs hlen hj.length, ?_⟩
    by_cases hp : (τ.fld j).plain = true
    · rw [if_pos hp] at hk
      obtain ⟨k, hr⟩ := hj.plain hp
      exact out_sound hk hf hc hb ⟨hp, cj, by rw [← hr.plain_leaf hp]; exact hr, rfl⟩ hn
    · rw [if_neg hp] at hk
      refine out_sound hk hf hc hb ?_ hn
      refine ⟨hle, fun tr' dr' bx' hr' _ ht' hok' => ?_⟩
      rw [hroot] at hr'; cases hr'
      refine ⟨cj, ?_, rfl⟩
      rw [K.get_append]
      simpa [K.get] using hj
  | _ => exact hk.elim

end Go.Own
