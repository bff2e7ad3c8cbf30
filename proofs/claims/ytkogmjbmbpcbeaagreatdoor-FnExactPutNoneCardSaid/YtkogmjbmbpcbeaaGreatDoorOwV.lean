/- A layer over the walk: what lies in memory as plain data, each operation by what it does to data; part 12. -/
import Derived.Test.YtkogmjbmbpcbeaaGreatDoorOwT
import Derived.Laws.BytesString
import Derived.Laws.Slices
set_option linter.unusedSectionVars false
set_option linter.unusedVariables false
set_option linter.unusedSimpArgs false
namespace Go.Own
variable [Glb]
open Go
variable {P : Program} {Γ : Env} {E : Entry} {S : St} {act : Act} {w : World} {X : Ctr} {Kt : Wr → Prop} {next : Act → World → Prop}
theorem zBD : ∀ (ns : List Int) (s : ByteArray), ns.foldl (fun r n => r.push (UInt8.ofNat n.toNat)) s = s ++ ⟨(ns.map fun n => UInt8.ofNat n.toNat).toArray⟩
 | [], s => by ext1; simp
 | n :: ns, s => by
   rw [List.foldl_cons, zBD ns]
   ext1
   simp [ByteArray.push]
theorem zKS {xs : List D} {cs : List Value} (hl : cs.length = xs.length) (h : ∀ (i : Nat) x, xs[i]? = some x → ∃ n, x = .int n ∧ cs[i]? = some (.int .u8 n)) : cs = (xs.map D.i).map (Value.int .u8) := by
 apply List.ext_getElem?
 intro i
 cases hx : xs[i]? with
 | none =>
   have : cs[i]? = none := List.getElem?_eq_none (by rw [hl]; exact List.getElem?_eq_none_iff.1 hx)
   simp [this, hx]
 | some x =>
   obtain ⟨n, rfl, hc⟩ := h i x hx
   simp [hc, hx]
theorem z4G (ok : EnvOk P Γ) {src tgt : TypeId} (hs : Γ.ty src = .lst true (.int .u8)) (ht : Γ.ty tgt = .str) {A : Option Addr} {n c : Nat} {xs : List D} (hn : n = xs.length)
 (h : (A = none ∧ xs = []) ∨ ∃ a : Addr, ∃ cs : List Value, A = some a ∧ cs.length = xs.length ∧ (∀ (i : Nat) x, xs[i]? = some x → ∃ n, x = .int n ∧ cs[i]? = some (.int .u8 n)) ∧ ∀ j v, cs[j]? = some v → w.cell? (a.add j) = some v) :
 (convert src tgt (.slice A n c)).run P w = .ok (.string (mkS (z0c xs))) w := by
 obtain ⟨et, hu, he, hok⟩ := Fits.lst ok (t := src) (by rw [hs]; rfl)
 have hue : P.underlying et = some (.int .u8) := by
  have := ok.fits et hok
  rw [he, hs] at this; exact this
 have hut : P.underlying tgt = some .string := by have := ok.fits tgt (by rw [ht]; rfl); rw [ht] at this; exact this
 have hconv : (convert src tgt (.slice A n c)).run P w = (Conv.bytesToString (.slice A n c)).run P w := by
  simp only [convert, Sem.run_bind, run_underlying hu, run_underlying hut, Result.andThen_ok, run_underlying hue]
 rw [hconv]
 rcases h with ⟨rfl, rfl⟩ | ⟨a, cs, rfl, hl, hx, hcell⟩
 ·simp [Conv.bytesToString, z0c]; rfl
 ·have hcs := zKS hl hx
  have hload := run_loadCells_list (P := P) w _ cs hcell
  rw [hl, ← hn] at hload
  rw [run_bytesToString w _ n c (xs.map D.i) (by rw [← hcs]; exact hload), zBD]
  congr 2
  ext1
  simp [z0c, mkS]
theorem z0t (xs : List D) : (z0c xs).length = xs.length := by
 simp [z0c]
theorem zI7 (ok : EnvOk P Γ) {dst : Option Nat} {src tgt : TypeId} {x : Operand} (h : (zHm Γ dst src tgt x).wp X S Kt) (hi : Inv Γ E S act w) (hn : z2V Γ E S Kt next) :
 ∃ v, (convert src tgt (act.eval x)).run P w = .ok v w ∧ next (act.put dst v) w := by
 obtain ⟨hf, κ, V, hc, hb⟩ := hi
 obtain ⟨a, hk, ho⟩ := z0V h hc
 cases a with
 | val τ d =>
   cases τ with
   | int k =>
     simp only at hk
     split at hk
     ·rename_i k' hT
      simp only [A.wp] at hk
      obtain ⟨hsok, hk⟩ := hk
      obtain ⟨hv, _⟩ := z5C ho
      have hut : P.underlying tgt = some (.int k') := by have := ok.fits tgt (by rw [hT]; rfl); rw [hT] at this; exact this
      have hus : ∃ u, P.underlying src = some u := by
       have := ok.fits src hsok
       revert this; cases Γ.ty src <;> intro this
       ·exact ⟨_, this⟩
       ·exact ⟨_, this⟩
       ·exact ⟨_, this⟩
       ·exact ⟨_, this⟩
       ·obtain ⟨fs, hu, _⟩ := this; exact ⟨_, hu⟩
       ·obtain ⟨_, et, hu, _⟩ := this; exact ⟨_, hu⟩
       ·exact this.elim
       ·exact this.elim
       ·obtain ⟨_, hu⟩ := this; exact ⟨_, hu⟩
       ·exact this.elim
      obtain ⟨u, hu⟩ := hus
      refine ⟨_, ?_, z08 hk hf hc hb (z41 _ _ (z4B _ _)) hn⟩
      rw [hv]
      cases u <;> simp [convert, run_underlying hu, run_underlying hut, Conv.intToInt]
     ·exact hk.elim
   | lst o e =>
     cases o with
     | true => exact hk.elim
     | false =>
       cases e with
       | int k =>
         cases k with
         | u8 =>
           simp only [A.wp] at hk
           obtain ⟨⟨hs, ht⟩, hk⟩ := hk
           obtain ⟨_, cs, ⟨xs, rfl, ⟨rfl, _, A, rfl, hA⟩ | ⟨b, off, c, arr, ty, fz, ks, rfl, hlen, hh, hsz, he, hV⟩⟩, hv⟩ := ho
           ·refine ⟨_, by rw [hv]; exact z4G ok hs ht (n := 0) (c := 0) rfl (by cases A with | none => exact .inl ⟨rfl, rfl⟩ | some a => exact .inr ⟨a, [], rfl, rfl, by simp, by simp⟩), z08 hk hf hc hb (zDk _ (by rw [z0t]; simp [smax])) hn⟩
           ·refine ⟨_, by
             rw [hv]
             refine z4G ok hs ht rfl (.inr ⟨⟨b, off, none⟩, (arr.toList.drop off).take xs.length, rfl, ?_, ?_, z5p hh ?_⟩)
             ·have := hlen.1; simp at hsz ⊢; omega
             ·intro i x hx
              obtain ⟨n, hxn, _, hc1, _⟩ := he i x hx
              refine ⟨n, hxn, ?_⟩
              have hil : i < xs.length := (List.getElem?_eq_some_iff.1 hx).1
              rw [z0Z, if_pos hil]
              have := congrArg (·[0]?) hc1
              simp only [z0Z, T.size] at this
              simpa using this
             ·congr 1; have := hlen.1; simp at hsz ⊢; omega, z08 hk hf hc hb (zDk _ (by rw [z0t]; exact hlen.2)) hn⟩
         | _ => exact hk.elim
       | _ => exact hk.elim
   | _ => exact hk.elim
 | ref r ver p τ d =>
   cases τ with
   | lst o e =>
     cases o with
     | false => exact hk.elim
     | true =>
       cases e with
       | int k =>
         cases k with
         | u8 =>
           obtain ⟨tr, dr, bx, hroot, hk⟩ := z0h hk
           simp only [A.wp] at hk
           obtain ⟨⟨hl, hat, hok, hs, ht⟩, hk⟩ := hk
           obtain ⟨_, _, hsm⟩ := hc.list hroot hat hok
           rcases hc.refl_list hroot hat hok hl ho with ⟨hv, h2, _⟩ | ⟨b, off, c, arr, ty, fz, ks, hv, hkk, hlen, hh, _, hsz, he⟩
           ·refine ⟨_, by rw [hv]; exact z4G ok hs ht (n := 0) (c := 0) rfl (.inl ⟨rfl, rfl⟩), by rw [h2] at hk; exact z08 hk hf hc hb (zDk _ (by rw [z0t]; simp [smax])) hn⟩
           ·refine ⟨_, by
             rw [hv]
             refine z4G ok hs ht rfl (.inr ⟨⟨b, off, none⟩, (arr.toList.drop off).take (dr.get p).l.length, rfl, ?_, ?_, z5p hh ?_⟩)
             ·have := hlen.1; simp at hsz ⊢; omega
             ·intro i x hx
              obtain ⟨n, hxn, _, hc1, _⟩ := he i x hx
              refine ⟨n, hxn, ?_⟩
              have hil := (List.getElem?_eq_some_iff.1 hx).1
              rw [z0Z, if_pos hil]
              have := congrArg (·[0]?) hc1
              simp only [z0Z, T.size] at this
              simpa using this
             ·congr 1; have := hlen.1; simp at hsz ⊢; omega, z08 hk hf hc hb (zDk _ (by rw [z0t]; exact hsm)) hn⟩
         | _ => exact hk.elim
       | _ => exact hk.elim
   | _ => exact hk.elim
 | _ => exact hk.elim
theorem zHt (ok : EnvOk P Γ) {ft : TypeId} (hft : (Γ.ty ft).ok = true) {h V τ d k cj} (hr : Rep h V τ d k cj) (hv : τ.view = (Γ.ty ft).view) {cs c1 c2 : List Value} (hcs : cs = c1 ++ (cj ++ c2)) :
 (part ft cs.toArray c1.length).run P w = .ok (z0Q τ cj) w := by
 have hk := T.view_kind hv
 have hl := hr.length
 unfold part
 rw [Sem.run_bind, ok.isAgg hft]
 simp only [Result.andThen_ok]
 by_cases ha : τ.agg = true
 ·rw [← hk.1, if_pos ha, Sem.run_bind, ok.sizeOf hft]
  simp only [Result.andThen_ok, Sem.run_pure]
  rw [← hk.2, ← hl]
  simp [z0Q, ha, hcs]
 ·rw [← hk.1, if_neg ha]
  have h1 : cj.length = 1 := by
   rw [hl]; clear hk hv hl hr; cases τ <;> simp at ha ⊢
  match cj, h1 with
  | [v], _ =>
    have : cs.toArray[c1.length]? = some v := by simp [hcs]
    rw [this]
    simp [z0Q, ha]
theorem T.view_fld : ∀ (j : Nat) (t : T), (t.fld j).view = t.view.fld j := by
 intro j
 induction j with
 | zero => intro t; cases t <;> rfl
 | succ j ih => intro t; cases t <;> first | rfl | (simp [ih])
theorem z1B.fld {h : Heap} {V : Nat → Prop} : ∀ (j : Nat) {t d κ cs}, z1B h V t d κ cs → t.has j = true → ∃ c1 cj c2, cs = c1 ++ (cj ++ c2) ∧ c1.length = t.off j ∧ z1B h V (t.fld j) (d.fld j) (κ.fld j) cj := by
 have hlen : ∀ {t : T} {d κ cs}, z1B h V t d κ cs → cs.length = t.size := by
  intro t
  induction t with
  | pair a b iha ihb => rintro d κ cs ⟨c1, c2, rfl, _, h1, h2⟩; simp [iha h1, ihb h2]
  | lst o e ih =>
    intro d κ cs hr
    cases o with
    | false => exact Rep.length (t := .lst false e) hr
    | true => rcases hr with ⟨_, rfl⟩ | ⟨_, _, _, _, _, _, rfl⟩ <;> rfl
  | unit => intro d κ cs hr; exact Rep.length (t := .unit) hr
  | int k => intro d κ cs hr; exact Rep.length (t := .int k) hr
  | bool => intro d κ cs hr; exact Rep.length (t := .bool) hr
  | str => intro d κ cs hr; exact Rep.length (t := .str) hr
  | ptr e ih => intro d κ cs hr; exact Rep.length (t := .ptr e) hr
  | fn f c ih => intro d κ cs hr; exact Rep.length (t := .fn f c) hr
  | err => intro d κ cs hr; exact Rep.length (t := .err) hr
  | gone => intro d κ cs hr; exact Rep.length (t := .gone) hr
 intro j
 induction j with
 | zero =>
   intro t d κ cs hr hh
   cases t <;> simp at hh
   obtain ⟨c1, c2, rfl, _, h1, h2⟩ := hr
   exact ⟨[], c1, c2, rfl, rfl, h1⟩
 | succ j ih =>
   intro t d κ cs hr hh
   cases t <;> simp at hh
   obtain ⟨c1, c2, rfl, _, h1, h2⟩ := hr
   obtain ⟨e1, ej, e2, rfl, hl, hj⟩ := ih h2 hh
   refine ⟨c1 ++ e1, ej, e2, by simp, by simp [hlen h1, hl], ?_⟩
   rw [D.fld_succ, K.fld_succ]; exact hj
theorem zFx (ok : EnvOk P Γ) {ft : TypeId} (hft : (Γ.ty ft).ok = true) {τ : T} {cj : List Value} (hl : cj.length = τ.size) (hv : τ.view = (Γ.ty ft).view) {cs c1 c2 : List Value} (hcs : cs = c1 ++ (cj ++ c2)) :
 (part ft cs.toArray c1.length).run P w = .ok (z0Q τ cj) w := by
 have hk := T.view_kind hv
 unfold part
 rw [Sem.run_bind, ok.isAgg hft]
 simp only [Result.andThen_ok]
 by_cases ha : τ.agg = true
 ·rw [← hk.1, if_pos ha, Sem.run_bind, ok.sizeOf hft]
  simp only [Result.andThen_ok, Sem.run_pure]
  rw [← hk.2, ← hl]
  simp [z0Q, ha, hcs]
 ·rw [← hk.1, if_neg ha]
  have h1 : cj.length = 1 := by
   rw [hl]; clear hk hv hl; cases τ <;> simp at ha ⊢
  match cj, h1 with
  | [v], _ =>
    have : cs.toArray[c1.length]? = some v := by simp [hcs]
    rw [this]
    simp [z0Q, ha]
theorem z1B.length {h : Heap} {V : Nat → Prop} {t : T} : ∀ {d κ cs}, z1B h V t d κ cs → cs.length = t.size := by
 induction t with
 | pair a b iha ihb => rintro d κ cs ⟨c1, c2, rfl, _, h1, h2⟩; simp [iha h1, ihb h2]
 | lst o e ih =>
   intro d κ cs hr
   cases o with
   | false => exact Rep.length (t := .lst false e) hr
   | true => rcases hr with ⟨_, rfl⟩ | ⟨_, _, _, _, _, _, rfl⟩ <;> rfl
 | unit => intro d κ cs hr; exact Rep.length (t := .unit) hr
 | int k => intro d κ cs hr; exact Rep.length (t := .int k) hr
 | bool => intro d κ cs hr; exact Rep.length (t := .bool) hr
 | str => intro d κ cs hr; exact Rep.length (t := .str) hr
 | ptr e ih => intro d κ cs hr; exact Rep.length (t := .ptr e) hr
 | fn f c ih => intro d κ cs hr; exact Rep.length (t := .fn f c) hr
 | err => intro d κ cs hr; exact Rep.length (t := .err) hr
 | gone => intro d κ cs hr; exact Rep.length (t := .gone) hr
theorem z1B.plain {h : Heap} {V : Nat → Prop} {t : T} : ∀ {d κ cs}, z1B h V t d κ cs → t.plain = true → ∃ k, Rep h V t d k cs := by
 intro d κ cs hr hp
 refine ⟨t.k0, ?_⟩
 induction t generalizing d κ cs with
 | pair a b iha ihb =>
   simp at hp
   obtain ⟨c1, c2, rfl, hd, h1, h2⟩ := hr
   exact ⟨d.fst, d.snd, _, _, c1, c2, hd, rfl, rfl, iha h1 hp.1, ihb h2 hp.2⟩
 | lst o e ih => simp at hp; obtain ⟨rfl, _⟩ := hp; exact hr
 | _ => exact hr
theorem zGk (ok : EnvOk P Γ) {dst : Option Nat} {t : TypeId} {x : Operand} {j : Nat} (h : (zEX Γ dst t x j).wp X S Kt) (hi : Inv Γ E S act w) (hn : z2V Γ E S Kt next) :
 ∃ v, (Instr.field t (act.eval x) j).run P w = .ok v w ∧ next (act.put dst v) w := by
 obtain ⟨hf, κ, V, hc, hb⟩ := hi
 obtain ⟨a, hk, ho⟩ := z0V h hc
 have run : ∀ {τ : T} {cs c1 cj c2 : List Value}, act.eval x = z0Q τ cs → τ.view = (Γ.ty t).view → τ.has j = true → cs = c1 ++ (cj ++ c2) → c1.length = τ.off j → cj.length = (τ.fld j).size →
  (Instr.field t (act.eval x) j).run P w = .ok (z0Q (τ.fld j) cj) w := by
  intro τ cs c1 cj c2 hv hview hh hcs hl hlj
  have hsh := T.shape_has j (t := τ) (u := Γ.ty t) (by rw [← T.view_shape τ, ← T.view_shape (Γ.ty t), hview])
  obtain ⟨fs, f, hu, hfj, hoff, hfty, hfok⟩ := Fits.field ok (t := t) (j := j) (by rw [← hsh.1]; exact hh)
  have hagg : τ.agg = true := by cases τ <;> simp at hh ⊢
  rw [hv]
  simp only [Instr.field, Sem.run_bind, run_underlying hu, Result.andThen_ok, hfj, z0Q, hagg, if_true, asAgg, Sem.run_pure]
  rw [hoff, ← hsh.2.1, ← hl]
  exact zFx ok (by rw [hfty]; exact hfok) hlj (by rw [hfty, T.view_fld, hview, ← T.view_fld]) hcs
 cases a with
 | val τ d =>
   simp only [A.wp] at hk
   obtain ⟨⟨hp, hview, hh⟩, hk⟩ := hk
   obtain ⟨_, cs, hr, hv⟩ := ho
   obtain ⟨c1, cj, c2, hcs, hl, hj, _⟩ := Rep.fld j hr hh
   have hpj := T.plain_fld j hh hp
   refine ⟨_, run hv hview hh hcs hl hj.length, z08 hk hf hc hb ⟨hpj, cj, by rw [← hj.plain_leaf hpj]; exact hj, rfl⟩ hn⟩
 | ref r ver p τ d =>
   obtain ⟨tr, dr, bx, hroot, hk⟩ := z0h hk
   simp only [A.wp] at hk
   obtain ⟨⟨hl, hat, hok, hview, hh⟩, hk⟩ := hk
   obtain ⟨hle, hx⟩ := ho
   obtain ⟨cs, href, hv⟩ := hx tr dr bx hroot hl hat hok
   obtain ⟨c1, cj, c2, hcs, hlen, hj⟩ := z1B.fld j href hh
   refine ⟨_, run hv hview hh hcs hlen hj.length, ?_⟩
   by_cases hp : (τ.fld j).plain = true
   ·rw [if_pos hp] at hk
    obtain ⟨k, hr⟩ := hj.plain hp
    exact z08 hk hf hc hb ⟨hp, cj, by rw [← hr.plain_leaf hp]; exact hr, rfl⟩ hn
   ·rw [if_neg hp] at hk
    refine z08 hk hf hc hb ?_ hn
    refine ⟨hle, fun tr' dr' bx' hr' _ ht' hok' => ?_⟩
    rw [hroot] at hr'; cases hr'
    refine ⟨cj, ?_, rfl⟩
    rw [K.get_append]
    simpa [K.get] using hj
 | _ => exact hk.elim
end Go.Own
namespace Go.Own
variable [Glb]
open Go
noncomputable section
section
variable (Γ : Env)
@[simp] def bnd (x : Option Operand) (k : Option D → A) : A := match x with
 | none => k none
 | some x => opd x fun a => match a with
   | .val (.int _) n => k (some n)
   | _ => .fail
def loOf : Option D → Int
 | none => 0
 | some n => n.i
def hiOf (len : Nat) : Option D → Int
 | none => len
 | some n => n.i
@[simp] def zCB (dst : Option Nat) (t : TypeId) (x : Operand) (lo hi mx : Option Operand) : A := match mx with
 | some _ => .fail
 | none => opd x fun a => bnd lo fun l => bnd hi fun h => match a with
   | .val .str d => .need (Γ.ty t = .str ∧ 0 ≤ loOf l ∧ loOf l ≤ hiOf d.s.length h ∧ hiOf d.s.length h ≤ d.s.length) (out Γ dst (.val .str (.str ((d.s.take (hiOf d.s.length h).toNat).drop (loOf l).toNat))))
   | .val (.lst false e) d => .need ((Γ.ty t).lsts = true ∧ e.view = (Γ.ty t).elem.view ∧ 0 ≤ loOf l ∧ loOf l ≤ hiOf d.l.length h ∧ hiOf d.l.length h ≤ d.l.length)
      (out Γ dst (.val (.lst false e) (.lst ((d.l.take (hiOf d.l.length h).toNat).drop (loOf l).toNat))))
   | .ref r v p (.lst true e) _ => rootOf r fun cr tr dr _ =>
      .need (z1Q v cr.v (depth p) ∧ tr.at p = .lst true e ∧ Ok tr dr p ∧ (Γ.ty t).lsts = true ∧ e.view = (Γ.ty t).elem.view ∧ 0 ≤ loOf l ∧ loOf l ≤ hiOf (dr.get p).l.length h ∧ hiOf (dr.get p).l.length h ≤ (dr.get p).l.length)
       (out Γ dst (.win r cr.v p e (loOf l).toNat ((hiOf (dr.get p).l.length h).toNat - (loOf l).toNat)))
   | _ => .fail
def lesser (a b : Int) : Int := if b < a then b else a
def greater (a b : Int) : Int := if b > a then b else a
@[simp] def z7F (mx : Bool) (dst : Option Nat) (xs : List Operand) : A := match xs with
 | [x, y] => opd x fun a => opd y fun b => match a, b with
   | .val (.int k) m, .val (.int k') n => .need (k = k') (out Γ dst (.val (.int k) (.int (if mx then greater m.i n.i else lesser m.i n.i))))
   | _, _ => .fail
 | [x, y, z] => opd x fun a => opd y fun b => opd z fun c => match a, b, c with
   | .val (.int k) m, .val (.int k') n, .val (.int k'') q => .need (k = k' ∧ k = k'') (out Γ dst (.val (.int k) (.int (if mx then greater (greater m.i n.i) q.i else lesser (lesser m.i n.i) q.i))))
   | _, _, _ => .fail
 | _ => .fail
end
variable {P : Program} {Γ : Env} {E : Entry} {S : St} {act : Act} {w : World} {X : Ctr} {Kt : Wr → Prop} {next : Act → World → Prop}
theorem zDq (isSlice : Bool) (len cap : Nat) {lo hi : Option Value} {l h : Nat} (hlo : (lo = none ∧ l = 0) ∨ ∃ k i, lo = some (.int k i) ∧ 0 ≤ i ∧ l = i.toNat)
 (hhi : (hi = none ∧ h = len) ∨ ∃ k i, hi = some (.int k i) ∧ 0 ≤ i ∧ h = i.toNat) (h1 : l ≤ h) (h2 : h ≤ cap) : (Instr.sliceBounds isSlice len cap lo hi none).run P w = .ok (l, h, cap) w := by
 rcases hlo with ⟨rfl, rfl⟩ | ⟨kl, i, rfl, hi0, rfl⟩ <;> rcases hhi with ⟨rfl, rfl⟩ | ⟨kh, j, rfl, hj0, rfl⟩
 ·simp [Instr.sliceBounds]
 ·have e : (j.toNat : Int) = j := Int.toNat_of_nonneg hj0
  cases isSlice <;> simp [Instr.sliceBounds, run_sliceBound, *, (by omega : j ≤ (cap : Int))]
 ·have e : (i.toNat : Int) = i := Int.toNat_of_nonneg hi0
  cases isSlice <;> simp [Instr.sliceBounds, run_sliceBound, *, (by omega : i ≤ (h : Int))]
 ·have e : (i.toNat : Int) = i := Int.toNat_of_nonneg hi0
  have e2 : (j.toNat : Int) = j := Int.toNat_of_nonneg hj0
  cases isSlice <;> simp [Instr.sliceBounds, run_sliceBound, *, (by omega : j ≤ (cap : Int)), (by omega : i ≤ j)]
theorem zF1 {x : Option Operand} {k : Option D → A} (h : (bnd x k).wp X S Kt) {κ V} (hc : Conc w.heap (tmOf act) V S κ) :
 ∃ d, (k d).wp X S Kt ∧ ((x = none ∧ d = none) ∨ ∃ o k n, x = some o ∧ d = some n ∧ act.eval o = .int k n.i) := by
 cases x with
 | none => exact ⟨none, h, .inl ⟨rfl, rfl⟩⟩
 | some o =>
   have h' : (opd o fun a => match a with
    | .val (.int _) n => k (some n)
    | _ => .fail).wp X S Kt := h
   obtain ⟨a, hk, ho⟩ := z0V h' hc
   cases a with
   | val t n =>
     cases t with
     | int k => exact ⟨some n, hk, .inr ⟨o, k, n, rfl, rfl, (z5C ho).1⟩⟩
     | _ => exact hk.elim
   | _ => exact hk.elim
theorem zHN {x : Option Operand} {d : Option D} (h : (x = none ∧ d = none) ∨ ∃ o k n, x = some o ∧ d = some n ∧ act.eval o = .int k n.i) (h0 : 0 ≤ loOf d) :
 (x.map act.eval = none ∧ (loOf d).toNat = 0) ∨ ∃ k i, x.map act.eval = some (.int k i) ∧ 0 ≤ i ∧ (loOf d).toNat = i.toNat := by
 rcases h with ⟨rfl, rfl⟩ | ⟨o, k, n, rfl, rfl, e⟩
 ·exact .inl ⟨rfl, rfl⟩
 ·exact .inr ⟨k, n.i, by simp [e], h0, rfl⟩
theorem zHM {x : Option Operand} {d : Option D} {len : Nat} (h : (x = none ∧ d = none) ∨ ∃ o k n, x = some o ∧ d = some n ∧ act.eval o = .int k n.i) (h0 : 0 ≤ hiOf len d) :
 (x.map act.eval = none ∧ (hiOf len d).toNat = len) ∨ ∃ k i, x.map act.eval = some (.int k i) ∧ 0 ≤ i ∧ (hiOf len d).toNat = i.toNat := by
 rcases h with ⟨rfl, rfl⟩ | ⟨o, k, n, rfl, rfl, e⟩
 ·exact .inl ⟨rfl, by simp [hiOf]⟩
 ·exact .inr ⟨k, n.i, by simp [e], h0, rfl⟩
theorem zGb (s : List UInt8) (l h : Nat) (hh : h ≤ s.length) : (mkS s).extract l h = mkS ((s.take h).drop l) := by
 ext1
 simp [mkS, ByteArray.extract, ByteArray.copySlice]
 rw [List.drop_take]
theorem Rep.part {h : Heap} {V : Nat → Prop} {e : T} {xs : List D} {κ : K} {A : Option Addr} {n c l m : Nat} (hr : Rep h V (.lst false e) (.lst xs) κ [.slice A n c]) (h1 : l ≤ m) (h2 : m ≤ xs.length) :
 m ≤ c ∧ n = xs.length ∧ Rep h V (.lst false e) (.lst ((xs.take m).drop l)) .leaf [sliced A l m c e.size] := by
 obtain ⟨ys, hy, ⟨rfl, rfl, hcs⟩ | ⟨b, off, c', arr, ty, fz, ks, hcs, hl, hh, hs, he, ho⟩⟩ := hr
 ·cases hy
  simp only [List.length_nil, Nat.le_zero_eq] at h2
  subst h2
  simp only [Nat.le_zero_eq] at h1
  subst h1
  simp at hcs
  obtain ⟨rfl, rfl, rfl⟩ := hcs
  refine ⟨by omega, rfl, ?_⟩
  exact ⟨[], by simp, .inl ⟨rfl, rfl, by simp [sliced]⟩⟩
 ·cases hy
  simp only [List.cons.injEq, Value.slice.injEq, and_true] at hcs
  obtain ⟨rfl, rfl, rfl⟩ := hcs
  simp at ho
  have hlen := hl.1
  refine ⟨by omega, rfl, (xs.take m).drop l, rfl, .inr ⟨b, if c = l then off else off + l * e.size, c - l, arr, ty, fz, fun i => ks (l + i), ?_, ?_, hh, ?_, ?_, by simp; exact ⟨ho.1, ho.2.2⟩⟩⟩
  ·simp only [sliced, List.length_drop, List.length_take, Nat.min_eq_left h2]
   congr 2
   by_cases hcl : c = l
   ·rw [if_pos hcl, if_pos hcl]
   ·rw [if_neg hcl, if_neg hcl]
    simp only [Option.map_some]
    congr 1
    unfold Addr.add
    split <;> simp_all
  ·refine ⟨by simp; omega, ?_⟩
   have := hl.2
   simp; omega
  ·have h3 : (c - l) * e.size = c * e.size - l * e.size := Nat.sub_mul c l e.size
   have h4 : l * e.size ≤ c * e.size := Nat.mul_le_mul_right _ (by omega)
   split <;> omega
  ·intro i x hx
   rw [List.getElem?_drop, List.getElem?_take] at hx
   split at hx
   ·rename_i hi
    have := he (l + i) x hx
    have hcl : ¬ c = l := by omega
    rw [if_neg hcl]
    rw [Nat.add_mul] at this
    rwa [show off + l * e.size + i * e.size = off + (l * e.size + i * e.size) by omega]
   ·cases hx
theorem z84 (ok : EnvOk P Γ) {t : TypeId} (hls : (Γ.ty t).lsts = true) {A : Option Addr} {n c l h : Nat} {lo hi : Option Value} {sz : Nat} (hsz : sz = (Γ.ty t).elem.size) (hlo : (lo = none ∧ l = 0) ∨ ∃ k i, lo = some (.int k i) ∧ 0 ≤ i ∧ l = i.toNat)
 (hhi : (hi = none ∧ h = n) ∨ ∃ k i, hi = some (.int k i) ∧ 0 ≤ i ∧ h = i.toNat) (h1 : l ≤ h) (h2 : h ≤ c) : (Instr.sliceAt t (.slice A n c) lo hi none).run P w = .ok (sliced A l h c sz) w := by
 obtain ⟨et, hu, he, hok⟩ := Fits.lst ok hls
 have hel : P.elem t = et := by simp [Program.elem, hu]
 have hu' : P.underlying t = some (.slice (P.elem t)) := by rw [hel]; exact hu
 rw [run_sliceAt_slice (P := P) (w := w) t _ lo hi none hu', run_slice_any (P := P) (w := w) t A n c hu', zDq true n c hlo hhi h1 h2]
 simp only [Result.andThen_ok]
 rw [hel, ok.sizeOf hok]
 simp only [Result.andThen_ok]
 rw [he, hsz]
theorem zHD (ok : EnvOk P Γ) {dst : Option Nat} {t : TypeId} {x : Operand} {lo hi mx : Option Operand} (h : (zCB Γ dst t x lo hi mx).wp X S Kt) (hi' : Inv Γ E S act w) (hn : z2V Γ E S Kt next) :
 ∃ v, (Instr.sliceAt t (act.eval x) (lo.map act.eval) (hi.map act.eval) (mx.map act.eval)).run P w = .ok v w ∧ next (act.put dst v) w := by
 obtain ⟨hf, κ, V, hc, hb⟩ := hi'
 unfold zCB at h
 split at h
 ·exact h.elim
 obtain ⟨a, hk, ho⟩ := z0V h hc
 obtain ⟨l, hk, hl⟩ := zF1 hk hc
 obtain ⟨m, hk, hm⟩ := zF1 hk hc
 simp only [Option.map_none]
 cases a with
 | val τ d =>
   cases τ with
   | str =>
     simp only [A.wp] at hk
     obtain ⟨⟨hT, h0, h1, h2⟩, hk⟩ := hk
     obtain ⟨hv, hs⟩ := zDf ho
     have hu : P.underlying t = some .string := by have := ok.fits t (by rw [hT]; rfl); rw [hT] at this; exact this
     refine ⟨_, ?_, z08 hk hf hc hb (zDk _ ?_) hn⟩
     ·rw [hv, run_sliceAt_string (P := P) (w := w) t _ _ _ _ hu]
      have hbd := zDq (P := P) (w := w) false d.s.length d.s.length (zHN hl h0) (zHM (len := d.s.length) hm (by omega)) (by omega) (by omega)
      simp only [Instr.slice, Sem.run_bind, run_underlying hu, Result.andThen_ok, Option.isSome_none, Bool.false_eq_true, if_false, z4E, hbd, Sem.run_pure]
      rw [zGb _ _ _ (by omega)]
     ·simp only [List.length_drop, List.length_take]; omega
   | lst o e =>
     cases o with
     | true => exact hk.elim
     | false =>
       simp only [A.wp] at hk
       obtain ⟨⟨hls, hev, h0, h1, h2⟩, hk⟩ := hk
       obtain ⟨hp, cs, hr, hv⟩ := ho
       obtain ⟨xs, hd, _⟩ := id hr
       subst hd
       have hcs : ∃ A n c, cs = [.slice A n c] := by
        obtain ⟨_, _, ⟨_, _, _, rfl, _⟩ | ⟨_, _, _, _, _, _, _, rfl, _⟩⟩ := id hr
        ·exact ⟨_, _, _, rfl⟩
        ·exact ⟨_, _, _, rfl⟩
       obtain ⟨A, n, c, rfl⟩ := hcs
       simp only [D.l_lst] at h1 h2 hk
       have hlh : (loOf l).toNat ≤ (hiOf xs.length m).toNat := by omega
       obtain ⟨g1, g2, g3⟩ := hr.part hlh (by omega)
       subst g2
       have hsz : e.size = (Γ.ty t).elem.size := by rw [← T.view_size, hev, T.view_size]
       refine ⟨_, ?_, z08 hk hf hc hb ⟨hp, _, g3, rfl⟩ hn⟩
       have hv' : act.eval x = .slice A xs.length c := hv
       rw [hv', z84 (w := w) ok hls hsz (zHN hl h0) (zHM (len := xs.length) hm (by omega)) hlh g1]
       rfl
   | _ => exact hk.elim
 | ref r ver p τ d =>
   cases τ with
   | lst o e =>
     cases o with
     | false => exact hk.elim
     | true =>
       obtain ⟨tr, dr, bx, hroot, hk⟩ := z0h hk
       simp only [A.wp] at hk
       obtain ⟨⟨hlv, hat, hok, hls, hev, h0, h1, h2⟩, hk⟩ := hk
       have hsz : e.size = (Γ.ty t).elem.size := by rw [← T.view_size, hev, T.view_size]
       have hlh : (loOf l).toNat ≤ (hiOf (dr.get p).l.length m).toNat := by omega
       rcases hc.refl_list hroot hat hok hlv ho with ⟨hv, hnil, hk0⟩ | ⟨b, off, c, arr, ty, fz, ks, hv, hkl, hlen, hh, hfr, hsize, hel⟩
       ·have hz : (hiOf (dr.get p).l.length m).toNat = 0 := by rw [hnil] at h2 ⊢; simp at h2 ⊢; omega
        have hz1 : (loOf l).toNat = 0 := by omega
        refine ⟨sliced none (loOf l).toNat (hiOf (dr.get p).l.length m).toNat 0 e.size, ?_, z08 hk hf hc hb ?_ hn⟩
        ·rw [hv]
         have hlz : (dr.get p).l.length = 0 := by rw [hnil]; rfl
         exact z84 ok hls hsz (zHN hl h0) (by rw [hlz]; exact zHM (len := 0) hm (by rw [hlz] at h1; omega)) hlh (by omega)
        ·refine ⟨Ver.le_refl _, fun tr' dr' bx' hr' _ hat' hok' => ?_⟩
         rw [hroot] at hr'; cases hr'
         left
         exact ⟨hk0, hz1, by omega, by rw [hz, hz1]; rfl⟩
       ·have hlc := hlen.1
        refine ⟨sliced (some ⟨b, off, none⟩) (loOf l).toNat (hiOf (dr.get p).l.length m).toNat c e.size, ?_, z08 hk hf hc hb ?_ hn⟩
        ·rw [hv]
         exact z84 ok hls hsz (zHN hl h0) (zHM (len := (dr.get p).l.length) hm (by omega)) hlh (by omega)
        ·refine ⟨Ver.le_refl _, fun tr' dr' bx' hr' _ hat' hok' => ?_⟩
         rw [hroot] at hr'; cases hr'
         right
         refine ⟨b, off, c, (dr.get p).l.length, ks, hkl, by omega, ?_⟩
         by_cases hcl : c = (loOf l).toNat
         ·right
          refine ⟨hcl.symm, by omega, ?_⟩
          unfold sliced
          rw [if_pos hcl, ← hcl]
          congr 1 <;> omega
         ·left
          unfold sliced
          rw [if_neg hcl, Option.map_some]
          congr 2
          unfold Addr.add
          split
          ·rename_i h0; rw [h0, Nat.add_zero]
          ·rfl
   | _ => exact hk.elim
 | _ => exact hk.elim
theorem zHs (k : IntKind) (a b : Int) : (Builtin.min2 (.int k a) (.int k b)).run P w = .ok (.int k (lesser a b)) w := rfl
theorem zHr (k : IntKind) (a b : Int) : (Builtin.max2 (.int k a) (.int k b)).run P w = .ok (.int k (greater a b)) w := rfl
theorem z6b {k : IntKind} {a b : Int} (ha : k.min ≤ a ∧ a ≤ k.max) (hb : k.min ≤ b ∧ b ≤ k.max) : k.min ≤ lesser a b ∧ lesser a b ≤ k.max := by unfold lesser; split <;> assumption
theorem z5s {k : IntKind} {a b : Int} (ha : k.min ≤ a ∧ a ≤ k.max) (hb : k.min ≤ b ∧ b ≤ k.max) : k.min ≤ greater a b ∧ greater a b ≤ k.max := by unfold greater; split <;> assumption
def z6c (mx : Bool) (vs : List Value) : Sem Value := if mx then Builtin.max_ #[] 0 vs.toArray else Builtin.min_ #[] 0 vs.toArray
theorem z9w {mx : Bool} {dst : Option Nat} {xs : List Operand} (h : (z7F Γ mx dst xs).wp X S Kt) (hi : Inv Γ E S act w) (hn : z2V Γ E S Kt next) :
 ∃ v, (z6c mx (xs.map act.eval)).run P w = .ok v w ∧ next (act.put dst v) w := by
 obtain ⟨hf, κ, V, hc, hb⟩ := hi
 unfold z7F at h
 split at h
 ·rename_i x y
  obtain ⟨a, hk, ho⟩ := z0V h hc
  obtain ⟨b, hk, ho2⟩ := z0V hk hc
  cases a with
  | val t m =>
    cases b with
    | val t2 n =>
      cases t <;> cases t2 <;> (try exact hk.elim)
      simp only [A.wp] at hk
      obtain ⟨rfl, hk⟩ := hk
      obtain ⟨hv, hr⟩ := z5C ho
      obtain ⟨hv2, hr2⟩ := z5C ho2
      cases mx with
      | true =>
        refine ⟨_, ?_, z08 hk hf hc hb (z41 _ _ (z5s hr hr2)) hn⟩
        simp [z6c, Builtin.max_, hv, hv2, zHr]
      | false =>
        refine ⟨_, ?_, z08 hk hf hc hb (z41 _ _ (z6b hr hr2)) hn⟩
        simp [z6c, Builtin.min_, hv, hv2, zHs]
    | _ => cases t <;> exact hk.elim
  | _ => exact hk.elim
 ·rename_i x y z
  obtain ⟨a, hk1, ho⟩ := z0V h hc
  obtain ⟨b, hk2, ho2⟩ := z0V hk1 hc
  obtain ⟨c, hk, ho3⟩ := z0V hk2 hc
  clear hk1 hk2
  cases a with
  | val t m =>
    cases b with
    | val t2 n =>
      cases c with
      | val t3 q =>
        cases t <;> cases t2 <;> (try exact hk.elim) <;> cases t3 <;> (try exact hk.elim)
        simp only [A.wp] at hk
        obtain ⟨⟨rfl, rfl⟩, hk⟩ := hk
        obtain ⟨hv, hr⟩ := z5C ho
        obtain ⟨hv2, hr2⟩ := z5C ho2
        obtain ⟨hv3, hr3⟩ := z5C ho3
        cases mx with
        | true =>
          refine ⟨_, ?_, z08 hk hf hc hb (z41 _ _ (z5s (z5s hr hr2) hr3)) hn⟩
          simp [z6c, Builtin.max_, hv, hv2, hv3, zHr]
        | false =>
          refine ⟨_, ?_, z08 hk hf hc hb (z41 _ _ (z6b (z6b hr hr2) hr3)) hn⟩
          simp [z6c, Builtin.min_, hv, hv2, hv3, zHs]
      | _ => cases t <;> cases t2 <;> exact hk.elim
    | _ => cases t <;> exact hk.elim
  | _ => exact hk.elim
 ·exact h.elim
end
end Go.Own
