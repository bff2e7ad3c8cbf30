/- A layer over the walk: what lies in memory as plain data, each operation by what it does to data; part 26. -/
import Derived.Test.YtkogmjbmbpcbeaaGreatDoorD8
import Derived.ChangeArms
import Derived.Carry
import Derived.ChangeSame
set_option linter.unusedSectionVars false
set_option linter.unusedVariables false
set_option linter.unusedSimpArgs false
namespace Go.Own
open Go Go.RowKit Go.ChangeShapes Go.WideShapes Go.ChangeAt
def T.deep : Bool → T → Bool
 | false, .int _ => true
 | false, .bool => true
 | false, .str => true
 | false, .lst true e => e.deep false && Nat.blt 0 e.size
 | _, .pair a b => a.deep false && b.deep true
 | _, .unit => true
 | _, _ => false
theorem T.deep_fld : ∀ {t : T} {b : Bool} (j : Nat), t.deep b = true → t.has j = true → (t.fld j).deep false = true
 | .pair a u, b, 0, h, _ => by cases b <;> simp [T.deep] at h <;> exact h.1
 | .pair a u, b, j + 1, h, hj => by cases b <;> simp [T.deep] at h <;> exact T.deep_fld (t := u) j h.2 hj
 | .unit, _, _, _, h | .int _, _, _, _, h | .bool, _, _, _, h | .str, _, _, _, h | .lst _ _, _, _, _, h | .ptr _, _, _, _, h | .fn _ _, _, _, _, h | .err, _, _, _, h | .gone, _, _, _, h => by simp at h
theorem zDo {h : Heap} {V : Nat → Prop} : ∀ {t : T} {b : Bool} {cs : List Value}, t.deep b = true → (t.size = 0 ∨ ∃ a u, t = .pair a u) → cs.length = t.size →
 (∀ j, t.has j = true → ∃ d, Rep h V (t.fld j).view d (t.fld j).view.k0 ((cs.drop (t.off j)).take (t.fld j).size)) → ∃ d, Rep h V t.view d t.view.k0 cs
 | .unit, _, cs, _, _, hl, _ => ⟨.unit, rfl, rfl, by simpa using hl⟩
 | .pair a u, b, cs, hd, _, hl, hf => by
   obtain ⟨d1, h1⟩ := hf 0 rfl
   simp only [T.fld, T.off, List.drop_zero] at h1
   have hd' : u.deep true = true := by cases b <;> simp [T.deep] at hd <;> exact hd.2
   have hu : u.size = 0 ∨ ∃ a v, u = .pair a v := by
    cases u <;> simp [T.deep] at hd' ⊢
   simp only [T.size] at hl
   obtain ⟨d2, h2⟩ := zDo (t := u) (b := true) (cs := cs.drop a.size) hd' hu (by simp [hl]) fun j hj => by
    obtain ⟨d, hr⟩ := hf (j + 1) hj
    refine ⟨d, ?_⟩
    rw [List.drop_drop]
    simpa [T.fld, T.off] using hr
   exact ⟨.pair d1 d2, d1, d2, _, _, _, _, rfl, rfl, (List.take_append_drop a.size cs).symm, h1, h2⟩
 | .int _, _, _, _, h, _, _ | .bool, _, _, _, h, _, _ | .str, _, _, _, h, _, _ | .lst _ _, _, _, _, h, _, _ | .ptr _, _, _, _, h, _, _ | .fn _ _, _, _, _, h, _, _ | .err, _, _, _, h, _, _ | .gone, _, _, _, h, _, _ => by simp at h
theorem cell?_some {w : World} {a : Addr} {v : Value} (h : w.cell? a = some v) : ∃ arr ty fz, w.heap[a.block]? = some (.cells arr ty fz) ∧ a.spot = none ∧ arr[a.off]? = some v := by
 unfold World.cell? at h
 split at h
 ·rename_i c ty fz hh
  split at h
  ·cases h
  ·rename_i hs
   refine ⟨c, ty, fz, hh, ?_, h⟩
   cases hsp : a.spot with
   | none => rfl
   | some x => rw [hsp] at hs; simp at hs
 ·cases h
theorem EnvOk.cells {P : Program} {Γ : Env} (ok : EnvOk P Γ) {t : TypeId} (h : (Γ.ty t).ok = true) : P.cellsOf t = (Γ.ty t).size := by
 obtain ⟨i, hi, hs, _⟩ := ok.info t h
 unfold Program.cellsOf
 rw [hi]
 exact hs
section
variable {H : Type} {enc : TypeId × Value → H} {P : Program} {Γ : Env} {w : World} {held : Bool}
theorem view_plain : ∀ (e : T) {b : Bool}, e.deep b = true → e.view.plain = true
 | .unit, _, _ | .int _, _, _ | .bool, _, _ | .str, _, _ => rfl
 | .pair a u, b, h => by
   have : a.deep false = true ∧ u.deep true = true := by cases b <;> simpa [T.deep] using h
   simp [view_plain a this.1, view_plain u this.2]
 | .lst o e, b, h => by
   cases b <;> cases o <;> simp [T.deep] at h
   simp [view_plain e h.1]
 | .ptr _, b, h | .fn _ _, b, h | .err, b, h | .gone, b, h => by cases b <;> simp [T.deep] at h
theorem zH3 (ok : EnvOk P Γ) : ∀ (n : Nat) (t : TypeId) (cs : List Value) x, (Γ.ty t).ok = true → (Γ.ty t).deep false = true → DataW.trod enc P w 0 (fun _ => true) held n t cs = some x →
 ∃ d, Rep w.heap (fun b => b < w.heap.size) (Γ.ty t).view d (Γ.ty t).view.k0 cs := by
 intro n
 induction n with
 | zero => intro t cs x _ _ h; simp [DataW.trod] at h
 | succ n ih =>
   intro t cs x hok hd h
   have hf := ok.fits t hok
   have hcells := ok.cells hok
   generalize hT : Γ.ty t = T at hf hd hcells
   cases T with
   | int k =>
     obtain ⟨m, rfl, _, hw⟩ := DataW.trod_int hf h
     simp only [Lit.wf, Bool.and_eq_true, decide_eq_true_eq] at hw
     exact ⟨.int m, m, rfl, rfl, rfl, hw⟩
   | bool =>
     obtain ⟨b, rfl, _⟩ := DataW.trod_bool hf h
     exact ⟨.bool b, b, rfl, rfl, rfl⟩
   | str =>
     obtain ⟨s, rfl, _, hs⟩ := DataW.trod_string hf h
     exact ⟨.str s.data.toList, s.data.toList, rfl, rfl, by rfl, Nat.le_trans (by rw [Array.length_toList]; exact hs) (show maxLen ≤ smax by decide)⟩
   | unit =>
     obtain ⟨_, _, _, _, hl, _⟩ := DataW.trod_struct hf h
     refine ⟨.unit, rfl, rfl, ?_⟩
     rw [hcells] at hl
     simpa using hl
   | pair a u =>
     obtain ⟨fs, hu, hfs, hjs⟩ := hf
     obtain ⟨xs, m, hm, rfl, hl, hxl, hx⟩ := DataW.trod_struct hu h
     obtain rfl : n = m := by omega
     refine zDo (b := false) hd (.inr ⟨_, _, rfl⟩) (by rw [hl, hcells]) fun j hj => ?_
     obtain ⟨f, hfj, hoff, hty, hokj⟩ := hfs j hj
     have hjl : j < fs.size := (Array.getElem?_eq_some_iff.1 hfj).1
     have := hx j f hfj
     rw [List.getElem?_eq_getElem (show j < xs.length by omega)] at this
     have hokf : (Γ.ty f.type).ok = true := by rw [hty]; exact hokj
     obtain ⟨d, hr⟩ := ih f.type _ _ hokf (by rw [hty]; exact T.deep_fld j hd hj) this
     rw [ok.cells hokf, hoff, hty] at hr
     exact ⟨d, hr⟩
   | lst o e =>
     obtain ⟨_, et, hu, het, hoke⟩ := hf
     obtain rfl : o = true := by cases o <;> simp [T.deep] at hd ⊢
     simp only [T.deep, Bool.and_eq_true] at hd
     obtain ⟨hde, hsz⟩ := hd
     have hsz' : 0 < e.size := by simpa [Nat.blt_eq] using hsz
     have hoket : (Γ.ty et).ok = true := by rw [het]; exact hoke
     have hce : P.cellsOf et = e.size := by rw [ok.cells hoket, het]
     rcases DataW.trod_slice hu h with ⟨rfl, _⟩ | ⟨a, len, cap, elems, rest, m, hm, rfl, _, _, hlc, hcap, hel, he, hr, _⟩
     ·exact ⟨.lst [], [], rfl, .inl ⟨rfl, rfl, none, rfl, fun _ => rfl⟩⟩
     obtain rfl : n = m := by omega
     by_cases hc0 : cap = 0
     ·subst hc0
      obtain rfl : len = 0 := by omega
      exact ⟨.lst [], [], rfl, .inl ⟨rfl, rfl, some a, rfl, fun h => by cases h⟩⟩
     obtain ⟨hrl, hr⟩ := hr rfl
     have each : ∀ i, i < cap → ∃ cs x, w.cells? 0 (a.add (i * e.size)) e.size = some cs ∧ DataW.trod enc P w 0 (fun _ => true) held n et cs = some x := by
      intro i hi
      by_cases hil : i < len
      ·have := he i hil
       rw [List.getElem?_eq_getElem (by omega), hce] at this
       obtain ⟨cs, h1, h2⟩ := Option.bind_eq_some_iff.1 this
       exact ⟨cs, _, h1, h2⟩
      ·have := hr (i - len) (by omega)
       rw [List.getElem?_eq_getElem (by omega), hce, show len + (i - len) = i by omega] at this
       obtain ⟨cs, h1, h2⟩ := Option.bind_eq_some_iff.1 this
       exact ⟨cs, _, h1, h2⟩
     have cellAt : ∀ i k, i < cap → k < e.size → ∃ v, w.cell? ((a.add (i * e.size)).add k) = some v := by
      intro i k hi hk
      obtain ⟨cs, _, h1, _⟩ := each i hi
      obtain ⟨_, hl, hg⟩ := World.cells?_some h1
      exact ⟨_, by rw [hg k hk, List.getElem?_eq_getElem (by omega)]⟩
     obtain ⟨v0, hv0⟩ := cellAt 0 0 (by omega) hsz'
     simp only [Nat.zero_mul, Addr.add, if_true] at hv0
     obtain ⟨arr, ty, fz, hh, hsp, _⟩ := cell?_some hv0
     obtain ⟨b, off, sp⟩ := a
     simp only at hsp hh
     subst hsp
     have addr : ∀ i k, ((⟨b, off, none⟩ : Addr).add i).add k = ⟨b, off + i + k, none⟩ := by
      intro i k
      unfold Addr.add
      by_cases h1 : i = 0 <;> by_cases h2 : k = 0 <;> simp [h1, h2]
     have rd : ∀ o, w.cell? ⟨b, o, none⟩ = arr[o]? := by
      intro o
      unfold World.cell?
      rw [hh]
      rfl
     have hfit : off + cap * e.size ≤ arr.size := by
      obtain ⟨v, hv⟩ := cellAt (cap - 1) (e.size - 1) (by omega) (by omega)
      rw [addr, rd] at hv
      have := (Array.getElem?_eq_some_iff.1 hv).1
      have h2 : (cap - 1) * e.size + e.size = cap * e.size := by
       rw [← Nat.succ_mul]; congr 1; omega
      omega
     have hreps : ∀ i, ∃ d, i < len → Rep w.heap (fun b => b < w.heap.size) e.view d e.view.k0 ((arr.toList.drop (off + i * e.view.size)).take e.view.size) := by
      intro i
      by_cases hi : i < len
      ·obtain ⟨cs, x', h1, h2⟩ := each i (by omega)
       obtain ⟨d, hrep⟩ := ih et cs x' hoket (by rw [het]; exact hde) h2
       rw [het] at hrep
       refine ⟨d, fun _ => ?_⟩
       obtain ⟨_, hl, hg⟩ := World.cells?_some h1
       have : cs = (arr.toList.drop (off + i * e.view.size)).take e.view.size := by
        rw [T.view_size]
        apply List.ext_getElem?
        intro k
        rw [z0Z]
        by_cases hk : k < e.size
        ·rw [if_pos hk, ← hg k hk, addr, rd, Array.getElem?_toList]
        ·rw [if_neg hk, List.getElem?_eq_none (by omega)]
       rw [← this]
       exact hrep
      ·exact ⟨.unit, fun h => absurd h hi⟩
     obtain ⟨f, hf⟩ := Classical.axiomOfChoice hreps
     refine ⟨.lst ((List.range len).map f), (List.range len).map f, rfl, .inr ⟨b, off, cap, arr, ty, fz, fun _ => e.view.k0, by simp, ⟨by simpa using hlc, by
      rw [List.length_map, List.length_range]
      exact Nat.le_trans hlc (Nat.le_trans hcap (by decide))⟩, hh, by rw [T.view_size]; exact hfit, fun i y hy => ?_, ?_⟩⟩
     ·simp only [List.getElem?_map, Option.map_eq_some_iff] at hy
      obtain ⟨i', hi', rfl⟩ := hy
      have hlt := (List.getElem?_eq_some_iff.1 hi').1
      simp only [List.length_range] at hlt
      rw [List.getElem?_range hlt] at hi'
      cases hi'
      exact hf i hlt
     ·rw [if_neg (by simp)]
      have : b < w.heap.size := (Array.getElem?_eq_some_iff.1 hh).1
      exact ⟨this, rfl, view_plain e hde⟩
   | err => simp [T.deep] at hd
   | _ => exact hf.elim
end
end Go.Own
namespace Go.Own
variable [Glb]
open Go Go.RowKit Go.ChangeShapes Go.WideShapes Go.ChangeAt
def WT : T → D → Prop
 | .unit, d => d = .unit
 | .int k, d => ∃ n, d = .int n ∧ k.min ≤ n ∧ n ≤ k.max
 | .bool, d => ∃ b, d = .bool b
 | .str, d => ∃ s, d = .str s ∧ s.length ≤ smax
 | .pair t u, d => ∃ a b, d = .pair a b ∧ WT t a ∧ WT u b
 | .lst _ e, d => ∃ xs, d = .lst xs ∧ xs.length ≤ smax ∧ ∀ x ∈ xs, WT e x
 | _, _ => True
theorem Rep.wt {h : Heap} {V : Nat → Prop} {t : T} : ∀ {d κ cs}, Rep h V t d κ cs → WT t d := by
 induction t with
 | unit => rintro d κ cs ⟨h, _⟩; exact h
 | int k => rintro d κ cs ⟨n, rfl, _, _, h⟩; exact ⟨n, rfl, h⟩
 | bool => rintro d κ cs ⟨n, rfl, _⟩; exact ⟨n, rfl⟩
 | str => rintro d κ cs ⟨n, rfl, _, _, h⟩; exact ⟨n, rfl, h⟩
 | pair a b iha ihb => rintro d κ cs ⟨d1, d2, _, _, _, _, rfl, _, _, h1, h2⟩; exact ⟨d1, d2, rfl, iha h1, ihb h2⟩
 | lst o e ih =>
   rintro d κ cs ⟨xs, rfl, ⟨rfl, _⟩ | ⟨b, off, c, arr, ty, fz, ks, _, hc, _, _, he, _⟩⟩
   ·exact ⟨[], rfl, by simp, by simp⟩
   ·refine ⟨xs, rfl, hc.2, fun x hx => ?_⟩
    obtain ⟨i, hi⟩ := List.getElem?_of_mem hx
    exact ih (he i x hi)
 | _ => intros; trivial
theorem zFj {P : Program} {Γ : Env} (ok : EnvOk P Γ) {t : TypeId} {w : World} {r : Reach} {b : Nat} {v : Value} (hok : (Γ.ty t).ok = true) (h : Value.okWide P w r b t v) : v = z0Q (Γ.ty t) v.cells.toList := by
 have hf := ok.fits t hok
 generalize hT : Γ.ty t = T at hf
 cases T with
 | int k => obtain ⟨n, rfl⟩ := okWide_int hf h; rfl
 | bool => obtain ⟨n, rfl⟩ := okWide_bool hf h; rfl
 | str => obtain ⟨n, rfl⟩ := okWide_string hf h; rfl
 | unit => obtain ⟨cs, rfl, _⟩ := okWide_struct hf h; simp [z0Q, T.agg, Value.cells]
 | pair a u => obtain ⟨fs, hu, _⟩ := hf; obtain ⟨cs, rfl, _⟩ := okWide_struct hu h; simp [z0Q, T.agg, Value.cells]
 | lst o e => obtain ⟨_, et, hu, _⟩ := hf; obtain ⟨a, l, c, rfl⟩ := okWide_slice hu h; rfl
 | err => obtain ⟨ms, hu⟩ := hf; rcases okWide_iface hu h with rfl | ⟨u, x, rfl⟩ <;> rfl
 | _ => exact hf.elim
theorem zIk (t : T) (cs : List Value) : z0Q t.view cs = z0Q t cs := by
 unfold z0Q; rw [T.view_agg]
section
variable {H : Type} {enc : TypeId × Value → H} {P : Program} {Γ : Env} {w : World}
theorem zKP (ok : EnvOk P Γ) {t : TypeId} {v : Value} {x : DataW H} {ps : List MemPlace} {r : Reach} {b : Nat} (hok : (Γ.ty t).ok = true) (hd : (Γ.ty t).deep false = true) (hval : Value.okWide P w r b t v)
 (h : DataW.Trod enc P w 0 (fun _ => true) true t v x ps) : ∃ d, WT (Γ.ty t).view d ∧ ArgV w.heap (fun b => b < w.heap.size) ⟨.vw, (Γ.ty t).view, d⟩ (Γ.ty t).view.k0 v := by
 obtain ⟨n, hn⟩ := h
 obtain ⟨d, hr⟩ := zH3 ok n t _ _ hok hd hn
 exact ⟨d, hr.wt, view_plain _ hd, _, hr, by rw [zIk]; exact zFj ok hok hval⟩
theorem zEx (ok : EnvOk P Γ) {r : Reach} {b : Nat} : ∀ {ts : List TypeId} {vs : List Value} {xs : List (DataW H)} {ps : List MemPlace}, (∀ t ∈ ts, (Γ.ty t).ok = true ∧ (Γ.ty t).deep false = true) →
 DataW.TrodAll enc P w 0 (fun _ => true) true ts vs xs ps → (∀ (j : Nat) t v, ts[j]? = some t → vs[j]? = some v → Value.okWide P w r b t v) →
 vs.length = ts.length ∧ xs.length = ts.length ∧ ∃ ds : List D, ds.length = ts.length ∧ (∀ (j : Nat) (t : TypeId) (d : D), ts[j]? = some t → ds[j]? = some d → WT (Γ.ty t).view d) ∧
  ∀ (j : Nat) (a : Arg) (v : Value), (z14 (ts.map fun t => (.vw, (Γ.ty t).view)) ds)[j]? = some a → vs[j]? = some v → ArgV w.heap (fun b => b < w.heap.size) a a.t.k0 v
 | [], vs, xs, ps, _, h, _ => by
   obtain ⟨rfl, rfl, _⟩ := trodAll_nil h
   exact ⟨rfl, rfl, [], rfl, by simp, by simp [z14]⟩
 | t :: ts, vs, xs, ps, hok, h, hval => by
   match vs, xs, h with
   | v :: vs, x :: xs, ⟨p, q, h1, h2, _⟩ =>
     obtain ⟨d, hwt, ha⟩ := zKP ok (hok t (by simp)).1 (hok t (by simp)).2 (hval 0 t v rfl rfl) h1
     obtain ⟨l1, l2, ds, l3, hw, hs⟩ := zEx ok (ts := ts) (fun u hu => hok u (by simp [hu])) h2 fun j t v h1 h2 => hval (j + 1) t v h1 h2
     refine ⟨by simp [l1], by simp [l2], d :: ds, by simp [l3], ?_, ?_⟩
     ·intro j u y h1 h2
      cases j with
      | zero => simp at h1 h2; subst h1; subst h2; exact hwt
      | succ j => exact hw j u y h1 h2
     ·intro j a u h1 h2
      cases j with
      | zero => simp [z14] at h1 h2; subst h1; subst h2; exact ha
      | succ j => exact hs j a u h1 h2
theorem z8v {W W' : World} (hl : laidOutB P = true) (hb : Below W.heap.size W W') {sp : Nat → Bool} : ∀ {ts : List TypeId} {vs : List Value} {xs : List (DataW H)} {ps : List MemPlace}, (∀ t ∈ ts, P.readableRec t = true ∧ t < P.types.size) →
 DataW.TrodAll enc P W 0 (fun _ => true) true ts vs xs ps → (∀ p ∈ ps, p.block < W.heap.size) → (∀ p ∈ ps, sp p.block = true) → DataW.TrodAll enc P W' 0 sp true ts vs xs ps
 | [], vs, xs, ps, _, h, _, _ => by
   obtain ⟨rfl, rfl, rfl⟩ := trodAll_nil h
   exact rfl
 | t :: ts, vs, xs, ps, ht, h, hlt, hsp => by
   match vs, xs, h with
   | v :: vs, x :: xs, ⟨p, q, h1, h2, he⟩ =>
     subst he
     exact ⟨p, q, WideElems.Trod_stays hl (ht t (by simp)).1 (ht t (by simp)).2 h1 (fun y hy => hb.same (hlt y (by simp [hy]))) (fun y hy => hsp y (by simp [hy])),
      z8v hl hb (fun u hu => ht u (by simp [hu])) h2 (fun y hy => hlt y (by simp [hy])) (fun y hy => hsp y (by simp [hy])), rfl⟩
theorem z87.law' {f : FuncId} {as : List Arg} {vs : List Value} {O : List D} (hv : z87 P f as (fun r o => r = .one .bool (.bool true) ∧ o = O)) (hl : vs.length = as.length)
 (ha : ∀ (i : Nat) a v, as[i]? = some a → vs[i]? = some v → ArgV w.heap (fun b => b < w.heap.size) a a.t.k0 v) (hg : Glb.ok w.heap (fun b => b < w.heap.size)) :
 Calls P f vs.toArray w fun e w' => e = .returned (.bool true) ∧ Below w.heap.size w w' := by
 have hk : ∀ i : Nat, ((as[i]?.map fun (a : Arg) => a.t.k0).getD K.leaf).blocks = [] := by
  intro i
  cases as[i]? with
  | none => rfl
  | some a => exact T.k0_blocks _
 refine (hv w (fun b => b < w.heap.size) (fun i => (as[i]?.map fun (a : Arg) => a.t.k0).getD K.leaf) vs ⟨hl, ?_, by simp [hk], by simp [hk], by simp [hk], fun _ h => h⟩ hg).mono ?_
 ·intro i a v h1 h2
  have := ha i a v h1 h2
  simpa [h1] using this
 ·rintro e w' ⟨res, outs, κr, κo, V', v, ⟨rfl, _⟩, rfl, hp⟩
  obtain ⟨cs, ⟨b, hb, _, rfl⟩, e⟩ := hp.res
  cases hb
  exact ⟨by rw [e]; rfl, ⟨hp.same.os, hp.same.tape, hp.same.output, hp.size, fun b hb => hp.frame b hb (by simp [hk])⟩⟩
theorem zBo : ∀ {as : List (Mode × T)} {ds : List D}, ds.length = as.length → (z14 as ds).length = as.length
 | [], [], _ => rfl
 | [], _ :: _, h => by simp at h
 | _ :: _, [], h => by simp at h
 | (m, t) :: as, d :: ds, h => by
   simp only [List.length_cons, Nat.succ.injEq] at h
   simp [z14, zBo h]
theorem zLj (ok : EnvOk P Γ) (hlo : laidOutB P = true) {e : Ent} {f : FuncId} {fn : Func} {s : ChangeSpec} {tb : TypeId} {z7L fresh handsOn again : Bool} (he : e.Ok P) (hg : e.g = f) (hone : e.one = true) (hres : e.res = .bool)
 (hvars : s.vars = []) (hfn : ∀ ds : List (DataW H), ds.length = fn.params.size → s.fn H ds = { results := [.lit (.bool true)], args := ds })
 (hp : ∀ t ∈ fn.params.toList, ((Γ.ty t).ok = true ∧ (Γ.ty t).deep false = true) ∧ P.readableRec t = true ∧ t < P.types.size)
 (has : e.as = fn.params.toList.map fun t => (.vw, (Γ.ty t).view)) (hrt : fn.resultTypes = #[tb]) (htb : P.underlying tb = some .bool)
 (hF : ∀ ds : List D, ds.length = fn.params.size → (∀ (j : Nat) (t : TypeId) (d : D), fn.params.toList[j]? = some t → ds[j]? = some d → WT (Γ.ty t).view d) → e.F ds = some (.bool true)) :
 ∀ (W : World) (base : Nat) (args : Array Value) (ds gs : List (DataW H)) (before : List MemPlace),
  (∀ (j : Nat) t v, fn.params[j]? = some t → args[j]? = some v → Value.okWide P W .any base t v) →
  DataW.Whole enc P fn.params.toList s.vars z7L W args.toList ds gs before → Glb.ok W.heap (fun b => b < W.heap.size) →
  Calls P f args W fun e W' => ∃ v, e = .returned v ∧ s.post enc P fn z7L fresh handsOn again W args v W' := by
 intro W base args ds gs before hval hW hglb
 have hW' := hW
 obtain ⟨p, q, hA, hV, rfl, hfz, hnd⟩ := hW
 rw [hvars] at hV
 obtain ⟨rfl, rfl⟩ := trodVars_none hV
 rw [List.append_nil] at hW' hnd hfz
 obtain ⟨l1, l2, xs, l3, hwt, harg⟩ := zEx ok (fun t ht => (hp t ht).1) hA (fun j t v h1 h2 => hval j t v (by simpa using h1) (by simpa using h2))
 have l1' : args.size = fn.params.size := by simpa using l1
 have hFx := hF xs (by simpa using l3) hwt
 have hio : z4W e.as = false := by
  rw [has]; unfold z4W
  rw [List.any_map]
  simp [Function.comp_def]
 have hval' := he.valid xs (.bool true) (by rw [has]; simpa using l3) hFx
 rw [hg, has] at hval'
 have hm : e.mkRes (.bool true) = .one .bool (.bool true) := by
  unfold Ent.mkRes; rw [hone, hio, hres]; rfl
 rw [hm] at hval'
 have hmk : (z14 (fn.params.toList.map fun t => (Mode.vw, (Γ.ty t).view)) xs).length = fn.params.size := by
  rw [zBo (by simpa using l3)]; simp
 have hc := z87.law' (vs := args.toList) hval' (by rw [hmk]; simpa using l1) harg hglb
 simp only [Array.toArray_toList] at hc
 refine hc.mono fun e W' ⟨he, hb⟩ => ?_
 subst he
 refine ⟨_, rfl, ?_⟩
 have hlt : ∀ x ∈ p, x.block < W.heap.size := hW'.lt
 have hstay : ∀ sp : Nat → Bool, (∀ x ∈ p, sp x.block = true) → DataW.TrodAll enc P W' 0 sp true fn.params.toList args.toList ds p := fun sp hsp => z8v hlo hb (fun t ht => (hp t ht).2) hA hlt hsp
 have hfn' := hfn ds (by rw [l2]; simp)
 have hds : ds ++ ([] : List (DataW H)) = ds := List.append_nil ds
 have hrl : (Value.bool true).resultList fn.resultTypes.size = [.bool true] := by rw [hrt]; rfl
 have hres1 : ∀ (b : Nat) (sp : Nat → Bool) (hd : Bool), DataW.TrodAll enc P W' b sp hd fn.resultTypes.toList ((Value.bool true).resultList fn.resultTypes.size) [.lit (.bool true)] [] := by
  intro b sp hd
  rw [hrl, hrt]
  exact trodAll_mk1 (shut_bool htb true)
 refine ⟨ds, [], p, [], p, [], hW', ?_, ?_, ?_, hb.frame _, fun _ => ⟨?_, [.lit (.bool true)] ++ ds, [], p, ⟨p, [], ?_, ?_, by simp, ?_, hnd⟩, fun y hy _ => hy⟩⟩
 ·rw [hds, hfn']; exact hres1 _ _ _
 ·rw [hds, hfn']; exact hstay _ fun x hx => by simpa using hlt x hx
 ·rw [hds, hfn', hvars]; rfl
 ·exact ok_one hrt rfl (okWide_bool_mk htb true)
 ·exact trodAll_append (hstay _ fun _ _ => rfl) (hres1 0 (fun _ => true) true)
 ·rw [hvars]; rfl
 ·intro b off hm
  rw [hb.frozen (hlt _ hm)]
  exact hfz b off (by simpa using hm)
end
end Go.Own
namespace Go.Own
variable [Glb]
open Go
def zA3 {α σ ε : Type} (g : Nat → σ → α → Sum σ ε) : Nat → σ → List α → Sum σ ε
 | _, s, [] => .inl s
 | i, s, x :: xs => match g i s x with
   | .inl s' => zA3 g (i + 1) s' xs
   | .inr e => .inr e
theorem zIW {α σ : Type} {f : List D → Outc} {enc : Nat → σ → List D} {xs : List α} {g : Nat → σ → α → Sum σ (Nat × List D)} {Inv : Nat → σ → Prop} {T : Nat} {out : σ → List D}
 (h : ∀ i s (hi : i < xs.length), Inv i s → match g i s xs[i] with
   | .inl s' => f (enc i s) = some (0, enc (i + 1) s') ∧ Inv (i + 1) s'
   | .inr (t, o) => f (enc i s) = some (t + 1, o))
 (hn : ∀ s, Inv xs.length s → f (enc xs.length s) = some (T + 1, out s)) (s0 : σ) (h0 : Inv 0 s0) :
 z0f f (enc 0 s0) = match zA3 g 0 s0 xs with
  | .inl s => some (T, out s)
  | .inr e => some e := by
 have key : ∀ (ys : List α) (k : Nat) (s : σ), xs.drop k = ys → k ≤ xs.length → Inv k s → z0f f (enc k s) = match zA3 g k s ys with
  | .inl s => some (T, out s)
  | .inr e => some e := by
  intro ys
  induction ys with
  | nil =>
    intro k s hd hk hi
    have hl : xs.length - k = 0 := by rw [← List.length_drop, hd]; rfl
    obtain rfl : k = xs.length := by omega
    exact z1F (hn s hi)
  | cons y ys ih =>
    intro k s hd hk hi
    have hlt : k < xs.length := by
     have : xs.length - k = (y :: ys).length := by rw [← List.length_drop, hd]
     simp at this; omega
    have hxk : xs[k] = y ∧ xs.drop (k + 1) = ys := by
     rw [List.drop_eq_getElem_cons hlt] at hd
     exact List.cons.inj hd
    have hs := h k s hlt hi
    rw [hxk.1] at hs
    unfold zA3
    cases hg : g k s y with
    | inl s' =>
      rw [hg] at hs
      obtain ⟨h1, h2⟩ := hs
      rw [z1j h1]
      exact ih (k + 1) s' hxk.2 (by omega) h2
    | inr e =>
      rw [hg] at hs
      obtain ⟨t, o⟩ := e
      exact z1F hs
 exact key xs 0 s0 (by simp) (by omega) h0
theorem zKl {σ : Type} {f : List D → Outc} {enc : Nat → σ → List D} {n : Nat} {st : Nat → σ} {t : Nat} {o : List D}
 (h : ∀ i, i < n → f (enc i (st i)) = some (0, enc (i + 1) (st (i + 1)))) (hn : f (enc n (st n)) = some (t + 1, o)) : z0f f (enc 0 (st 0)) = some (t, o) := by
 have key : ∀ m k, m + k = n → z0f f (enc k (st k)) = some (t, o) := by
  intro m
  induction m with
  | zero =>
    intro k hk
    have : k = n := by omega
    rw [this]; exact z1F hn
  | succ m ih => intro k hk; rw [z1j (h k (by omega))]; exact ih (k + 1) (by omega)
 exact key n 0 rfl
@[simp] theorem z1G (x : D) (l : List D) : gd (x :: l) 0 = x := rfl
@[simp] theorem gd_succ (x : D) (l : List D) (i : Nat) : gd (x :: l) (i + 1) = gd l i := rfl
@[simp] theorem z3Z (x y : D) (l : List D) : gd (x :: y :: l) 1 = y := rfl
@[simp] theorem z69 (x y z : D) (l : List D) : gd (x :: y :: z :: l) 2 = z := rfl
@[simp] theorem gd_three (x y z u : D) (l : List D) : gd (x :: y :: z :: u :: l) 3 = u := rfl
@[simp] theorem gd_four (x y z u v : D) (l : List D) : gd (x :: y :: z :: u :: v :: l) 4 = v := rfl
theorem zA4 {xs : List D} {i : Nat} (h : i < xs.length) : gd xs i = xs[i] := by
 unfold gd; rw [List.getD_eq_getElem?_getD, List.getElem?_eq_getElem h]; rfl
@[simp] theorem ou_eq (n : Nat) (l : List D) : ou n l = some (n, l) := rfl
@[simp] theorem zCe (a : Outc) (b : Nat → Outc) : sel2 0 a b = a := rfl
@[simp] theorem sel2_succ (n : Nat) (a : Outc) (b : Nat → Outc) : sel2 (n + 1) a b = b n := rfl
@[simp] theorem zHv (a : Outc) (b : Nat → Outc) : sel2 1 a b = b 0 := rfl
@[simp] theorem rn_ou (d : D) (l : List D) : rn (some (0, d :: l)) = some d := rfl
theorem z0S {x : Int} (h1 : -9223372036854775808 ≤ x) (h2 : x ≤ 9223372036854775807) : IntKind.wrap .i64 x = x := by
 simp only [IntKind.wrap, IntKind.signed, IntKind.bits, Bool.true_and]
 split
 ·rename_i h; have := of_decide_eq_true h; omega
 ·rename_i h; have h2 : ¬ (x % 2 ^ 64 ≥ 2 ^ (64 - 1)) := fun h3 => h (decide_eq_true h3)
  omega
theorem wrap_range64 (x : Int) : -9223372036854775808 ≤ IntKind.wrap .i64 x ∧ IntKind.wrap .i64 x ≤ 9223372036854775807 := by
 have := z4B .i64 x
 simpa using this
theorem z0D {i n : Nat} (h : i < n) : inb (i : Int) n = true := by
 simp [inb, h]
theorem zGn {i : Int} {n : Nat} (h0 : 0 ≤ i) (h : i < n) : inb i n = true := by
 simp [inb, h, h0]
theorem z0O {i n : Nat} (h : i < n) (hn : n ≤ smax) : IntKind.wrap .i64 ((i : Int) + 1) = ((i + 1 : Nat) : Int) := by
 rw [z0S] <;> simp [smax] at * <;> omega
def Sm (B : Nat) : T → D → Prop
 | .unit, d => d = .unit
 | .int k, d => ∃ n, d = .int n ∧ k.min ≤ n ∧ n ≤ k.max
 | .bool, d => ∃ b, d = .bool b
 | .str, d => ∃ s, d = .str s ∧ s.length ≤ B
 | .pair t u, d => ∃ a b, d = .pair a b ∧ Sm B t a ∧ Sm B u b
 | .lst _ e, d => ∃ xs, d = .lst xs ∧ xs.length ≤ B ∧ ∀ x ∈ xs, Sm B e x
 | _, _ => True
theorem WT.sm {t : T} : ∀ {d}, WT t d → Sm smax t d := by
 induction t with
 | pair a b iha ihb => rintro d ⟨x, y, rfl, h1, h2⟩; exact ⟨x, y, rfl, iha h1, ihb h2⟩
 | lst o e ih => rintro d ⟨xs, rfl, h1, h2⟩; exact ⟨xs, rfl, h1, fun x hx => ih (h2 x hx)⟩
 | unit => intro d h; exact h
 | int k => intro d h; exact h
 | bool => intro d h; exact h
 | str => intro d h; exact h
 | _ => intros; trivial
theorem Sm.mono {B C : Nat} (hB : B ≤ C) {t : T} : ∀ {d}, Sm B t d → Sm C t d := by
 induction t with
 | pair a b iha ihb => rintro d ⟨x, y, rfl, h1, h2⟩; exact ⟨x, y, rfl, iha h1, ihb h2⟩
 | lst o e ih => rintro d ⟨xs, rfl, h1, h2⟩; exact ⟨xs, rfl, Nat.le_trans h1 hB, fun x hx => ih (h2 x hx)⟩
 | str => rintro d ⟨s, rfl, h⟩; exact ⟨s, rfl, Nat.le_trans h hB⟩
 | unit => intro d h; exact h
 | int k => intro d h; exact h
 | bool => intro d h; exact h
 | _ => intros; trivial
def lim : Nat := 1048576
theorem z0u : lim ≤ smax := by decide
end Go.Own
namespace Go.Own
variable [Glb]
open Go
theorem z0N {o : Outc} {k : Nat × List D → Outc} {r : Nat × List D} {R : Option D} (h : o = some r) (hk : rn (k r) = R) : rn (o.bind k) = R := by rw [h]; exact hk
theorem z2Z {o : Outc} {k : Nat × List D → Outc} {r : Nat × List D} {R : Outc} (h : o = some r) (hk : k r = R) : o.bind k = R := by rw [h]; exact hk
theorem z02 {o : Option D} {k : D → Outc} {r : D} {R : Option D} (h : o = some r) (hk : rn (k r) = R) : rn (o.bind k) = R := by rw [h]; exact hk
theorem z01 {o : Option D} {k : D → Outc} {r : D} {R : Outc} (h : o = some r) (hk : k r = R) : o.bind k = R := by rw [h]; exact hk
theorem z1o {σ : Type} {f : List D → Outc} {l : List D} (enc : Nat → σ → List D) (n : Nat) (st : Nat → σ) {t : Nat} {o : List D} (h0 : l = enc 0 (st 0))
 (h : ∀ i, i < n → f (enc i (st i)) = some (0, enc (i + 1) (st (i + 1)))) (hn : f (enc n (st n)) = some (t + 1, o)) : z0f f l = some (t, o) := h0 ▸ zKl h hn
theorem zBj {α σ : Type} {f : List D → Outc} {l : List D} (enc : Nat → σ → List D) (xs : List α) (g : Nat → σ → α → Sum σ (Nat × List D)) (Inv : Nat → σ → Prop) (s0 : σ) (T : Nat) (out : σ → List D) (hl : l = enc 0 s0) (h0 : Inv 0 s0)
 (h : ∀ i s (hi : i < xs.length), Inv i s → match g i s xs[i] with
   | .inl s' => f (enc i s) = some (0, enc (i + 1) s') ∧ Inv (i + 1) s'
   | .inr (t, o) => f (enc i s) = some (t + 1, o))
 (hn : ∀ s, Inv xs.length s → f (enc xs.length s) = some (T + 1, out s)) :
 z0f f l = match zA3 g 0 s0 xs with
  | .inl s => some (T, out s)
  | .inr e => some e := hl ▸ zIW h hn s0 h0
end Go.Own
namespace Go.Own
variable [Glb]
open Go
theorem z7C {eb n : Nat} (h : n ≤ lim) (he : eb ≤ 16777216) : makeOk eb (n : Int) = true := by
 have h2 : n * eb ≤ lim * 16777216 := Nat.mul_le_mul h he
 have h3 : lim * 16777216 ≤ 140737488355328 := by decide
 have h4 : lim ≤ smax := by decide
 simp only [makeOk, Int.toNat_natCast, Bool.and_eq_true, decide_eq_true_eq]
 omega
def z6U (xs : List D) (z : D) (i : Nat) : List D := xs.take i ++ List.replicate (xs.length - i) z
theorem z8F {xs : List D} {z : D} {i : Nat} (h : i ≤ xs.length) : (z6U xs z i).length = xs.length := by
 simp [z6U]; omega
theorem zBC {xs : List D} {z : D} : z6U xs z 0 = List.replicate xs.length z := by simp [z6U]
theorem zDW {xs : List D} {z : D} : z6U xs z xs.length = xs := by simp [z6U]
theorem zDX {xs : List D} {z : D} {i : Nat} (hi : i < xs.length) : (z6U xs z i).set i xs[i] = z6U xs z (i + 1) := by
 unfold z6U
 rw [List.set_append_right _ _ (by simp; omega), show xs.length - i = (xs.length - (i + 1)) + 1 by omega, List.replicate_succ, show i - (xs.take i).length = 0 by simp; omega, List.set_cons_zero, List.append_cons, List.take_append_getElem hi]
end Go.Own
namespace Go.Own
variable [Glb]
theorem z0K {c : Prop} [Decidable c] {a b : Outc} {R : Option D} (h : c) (hk : rn a = R) : rn (if c then a else b) = R := by rw [if_pos h]; exact hk
theorem z03 {c : Prop} [Decidable c] {a b : Outc} {R : Option D} (h : ¬ c) (hk : rn b = R) : rn (if c then a else b) = R := by rw [if_neg h]; exact hk
theorem z04 {c : Prop} [Decidable c] {a b : Outc} {R : Outc} (h : c) (hk : a = R) : (if c then a else b) = R := by rw [if_pos h]; exact hk
theorem z00 {c : Prop} [Decidable c] {a b : Outc} {R : Outc} (h : ¬ c) (hk : b = R) : (if c then a else b) = R := by rw [if_neg h]; exact hk
end Go.Own
namespace Go.Own
variable [Glb]
def gSz (c : Int → D → Int) (_ : Nat) (s : Int) (x : D) : Sum Int (Nat × List D) := if c s x < 0 then .inr (0, [.int (-1)]) else .inl (c s x)
def szL (c : Int → D → Int) (xs : List D) (left : Int) : Int := if left - xs.length < 0 then -1 else match zA3 (gSz c) 0 (left - xs.length) xs with
 | .inl s => s
 | .inr _ => -1
def szN (c : Int → D → Int) (xs : List D) (left : Int) : Nat := match zA3 (gSz c) 0 (left - xs.length) xs with
 | .inl _ => 1
 | .inr _ => 0
theorem zGG (c : Int → D → Int) (xs : List D) (left : Int) : szN c xs left = 0 ∨ szN c xs left = 1 := by
 unfold szN; split <;> simp
theorem zEE {c : Int → D → Int} {Q : D → Prop} : ∀ (xs : List D) (i : Nat) (s : Int), 0 ≤ s → s ≤ lim → (∀ x ∈ xs, ∀ s : Int, 0 ≤ s → s ≤ lim → c s x ≤ s ∧ (0 ≤ c s x → Q x)) →
 (∃ r, zA3 (gSz c) i s xs = .inl r ∧ 0 ≤ r ∧ r ≤ s ∧ ∀ x ∈ xs, Q x) ∨ zA3 (gSz c) i s xs = .inr (0, [.int (-1)])
 | [], i, s, h, _, _ => .inl ⟨s, rfl, h, Int.le_refl _, by simp⟩
 | x :: xs, i, s, h, hl, hx => by
   unfold zA3 gSz
   by_cases hs : c s x < 0
   ·rw [if_pos hs]; exact .inr rfl
   ·rw [if_neg hs]
    have h0 := hx x (by simp) s h hl
    rcases zEE xs (i + 1) (c s x) (by omega) (by omega) (fun y hy => hx y (by simp [hy])) with ⟨r, h1, h2, h3, h4⟩ | h1
    ·refine .inl ⟨r, h1, h2, by omega, fun y hy => ?_⟩
     simp only [List.mem_cons] at hy
     rcases hy with rfl | hy
     ·exact h0.2 (by omega)
     ·exact h4 y hy
    ·exact .inr h1
theorem zI2 {c : Int → D → Int} {Q : D → Prop} {xs : List D} {left : Int} (h : left ≤ lim) (hx : ∀ x ∈ xs, ∀ s : Int, 0 ≤ s → s ≤ lim → c s x ≤ s ∧ (0 ≤ c s x → Q x)) (hle : 0 ≤ left) :
 szL c xs left ≤ left ∧ (0 ≤ szL c xs left → xs.length ≤ lim ∧ ∀ x ∈ xs, Q x) := by
 unfold szL
 by_cases h0 : left - xs.length < 0
 ·rw [if_pos h0]; omega
 ·rw [if_neg h0]
  rcases zEE (c := c) (Q := Q) xs 0 (left - xs.length) (by omega) (by omega) hx with ⟨r, h1, h2, h3, h4⟩ | h1
  ·rw [h1]; exact ⟨by simp; omega, fun _ => ⟨by omega, h4⟩⟩
  ·rw [h1]; simp; omega
theorem zI1 {f : List D → Outc} {c : Int → D → Int} {xs : List D} {left : Int} (h0 : ¬ left - xs.length < 0) (h1 : left ≤ lim) (hc : ∀ x ∈ xs, ∀ s : Int, 0 ≤ s → s ≤ lim → c s x ≤ s)
 (hs : ∀ (i : Nat) (s : Int) (hi : i < xs.length), 0 ≤ s → s ≤ lim → (c s xs[i] < 0 → f [.int s, .int i] = some (1, [.int (-1)])) ∧ (¬ c s xs[i] < 0 → f [.int s, .int i] = some (0, [.int (c s xs[i]), .int ((i + 1 : Nat) : Int)])))
 (hn : ∀ s : Int, f [.int s, .int xs.length] = some (2, [.int s])) :
 z0f f [.int (left - xs.length), .int 0] = some (szN c xs left, [.int (szL c xs left)]) := by
 have := zBj (f := f) (l := [.int (left - xs.length), .int 0]) (fun i (s : Int) => [.int s, .int i]) xs (gSz c) (fun _ s => 0 ≤ s ∧ s ≤ lim) (left - xs.length) 1 (fun s => [.int s]) rfl ⟨by omega, by omega⟩ ?_ ?_
 ·rw [this]
  unfold szL szN
  rw [if_neg h0]
  rcases zEE (c := c) (Q := fun _ => True) xs 0 (left - xs.length) (by omega) (by omega) (fun x hx s h1 h2 => ⟨hc x hx s h1 h2, fun _ => trivial⟩) with ⟨r, h1, _⟩ | h1
  ·rw [h1]
  ·rw [h1]
 ·rintro i s hi ⟨h2, h3⟩
  have h4 := hs i s hi h2 h3
  have h5 := hc xs[i] (List.getElem_mem hi) s h2 h3
  unfold gSz
  by_cases hlt : c s xs[i] < 0
  ·rw [if_pos hlt]; exact h4.1 hlt
  ·rw [if_neg hlt]; exact ⟨h4.2 hlt, by omega, by omega⟩
 ·intro s _; exact hn s
end Go.Own
namespace Go.Own
variable [Glb]
theorem z4M {f : List D → Outc} {l : List D} (enc : Nat → List D) (n : Nat) (p : Nat → Bool) {t1 t2 : Nat} {o1 : Nat → List D} {o2 : List D} (h0 : l = enc 0)
 (hp : ∀ i, i < n → p i = true → f (enc i) = some (0, enc (i + 1))) (hq : ∀ i, i < n → p i = false → f (enc i) = some (t1 + 1, o1 i)) (hn : f (enc n) = some (t2 + 1, o2)) :
 ((∀ i, i < n → p i = true) ∧ z0f f l = some (t2, o2)) ∨ ∃ k, k < n ∧ p k = false ∧ (∀ i, i < k → p i = true) ∧ z0f f l = some (t1, o1 k) := by
 have key : ∀ m k, m + k = n → (∀ i, i < k → p i = true) → ((∀ i, i < n → p i = true) ∧ z0f f (enc k) = some (t2, o2)) ∨ ∃ j, j < n ∧ p j = false ∧ (∀ i, i < j → p i = true) ∧ z0f f (enc k) = some (t1, o1 j) := by
  intro m
  induction m with
  | zero =>
    intro k hk hb
    have : k = n := by omega
    subst this
    exact .inl ⟨hb, z1F hn⟩
  | succ m ih =>
    intro k hk hb
    cases hpk : p k with
    | true =>
      rw [z1j (hp k (by omega) hpk)]
      refine ih (k + 1) (by omega) fun i hi => ?_
      by_cases h : i = k
      ·rw [h]; exact hpk
      ·exact hb i (by omega)
    | false => exact .inr ⟨k, by omega, hpk, hb, z1F (hq k (by omega) hpk)⟩
 rw [h0]
 exact key n 0 (by omega) (fun i hi => by omega)
def allN (n : Nat) (p : Nat → Bool) : Bool := (List.range n).all p
theorem z1S {n : Nat} {p : Nat → Bool} : allN n p = true ↔ ∀ i, i < n → p i = true := by simp [allN]
theorem z43 {n : Nat} {p : Nat → Bool} {k : Nat} (hk : k < n) (h : p k = false) : allN n p = false := by
 cases ha : allN n p with
 | false => rfl
 | true => rw [z1S.1 ha k hk] at h; cases h
theorem zKk {f : List D → Outc} {l : List D} (enc : Nat → List D) (n : Nat) (p : Nat → Bool) {t1 t2 : Nat} {o1 o2 : List D} (h0 : l = enc 0)
 (hp : ∀ i, i < n → p i = true → f (enc i) = some (0, enc (i + 1))) (hq : ∀ i, i < n → p i = false → f (enc i) = some (t1 + 1, o1)) (hn : f (enc n) = some (t2 + 1, o2)) :
 z0f f l = some (cond (allN n p) (t2, o2) (t1, o1)) := by
 rcases z4M enc n p h0 hp (o1 := fun _ => o1) hq hn with ⟨h1, h2⟩ | ⟨k, hk, h1, _, h2⟩
 ·rw [h2, z1S.2 h1]; rfl
 ·rw [h2, z43 hk h1]; rfl
end Go.Own
namespace Go.Own
variable [Glb]
theorem zJG {f : List D → Outc} {l : List D} {c : Nat × List D → Outc} {Q : D → Prop} (enc : Nat → List D) (n : Nat) (p : Nat → Bool) {t1 t2 : Nat} {o1 : Nat → List D} {o2 : List D} (h0 : l = enc 0)
 (hp : ∀ i, i < n → p i = true → f (enc i) = some (0, enc (i + 1))) (hq : ∀ i, i < n → p i = false → f (enc i) = some (t1 + 1, o1 i)) (hn : f (enc n) = some (t2 + 1, o2))
 (k1 : (∀ i, i < n → p i = true) → ∃ r, rn (c (t2, o2)) = some r ∧ Q r) (k2 : ∀ j, j < n → p j = false → (∀ i, i < j → p i = true) → ∃ r, rn (c (t1, o1 j)) = some r ∧ Q r) :
 ∃ r, rn ((z0f f l).bind c) = some r ∧ Q r := by
 rcases z4M enc n p h0 hp hq hn with ⟨h1, h2⟩ | ⟨k, hk, h1, h3, h2⟩
 ·rw [h2]; exact k1 h1
 ·rw [h2]; exact k2 k hk h1 h3
end Go.Own
namespace Go.Own
variable [Glb]
theorem allN_congr {n : Nat} {p q : Nat → Bool} (h : ∀ i, i < n → p i = q i) : allN n p = allN n q := by
 rw [Bool.eq_iff_iff, z1S, z1S]
 exact ⟨fun h2 i hi => by rw [← h i hi]; exact h2 i hi, fun h2 i hi => by rw [h i hi]; exact h2 i hi⟩
theorem gd_take {l : List D} {i n : Nat} (h : i < n) : gd (l.take n) i = gd l i := by
 unfold gd
 rw [List.getD_eq_getElem?_getD, List.getD_eq_getElem?_getD, List.getElem?_take, if_pos h]
end Go.Own
namespace Go.Own
variable [Glb]
theorem z3v {f : List D → Outc} {l : List D} (enc : Nat → List D) (n : Nat) (p : Nat → Bool) {t1 t2 : Nat} {o1 o2 : List D} (h0 : l = enc 0)
 (hp : ∀ i, i < n → f (enc i) = some (cond (p i) (0, enc (i + 1)) (t1 + 1, o1))) (hn : f (enc n) = some (t2 + 1, o2)) :
 z0f f l = some (cond (allN n p) (t2, o2) (t1, o1)) :=
 zKk enc n p h0 (fun i hi h => by rw [hp i hi, h]; rfl) (fun i hi h => by rw [hp i hi, h]; rfl) hn
end Go.Own
namespace Go.Own
variable [Glb]
def over (ys : Nat → D) (xs : List D) (i : Nat) : List D := (List.range i).map ys ++ xs.drop i
theorem zJq {ys : Nat → D} {xs : List D} : over ys xs 0 = xs := by simp [over]
theorem zKx {ys : Nat → D} {xs : List D} : over ys xs xs.length = (List.range xs.length).map ys := by simp [over]
theorem zGy {ys : Nat → D} {xs : List D} {i : Nat} (h : i ≤ xs.length) : (over ys xs i).length = xs.length := by
 simp [over]; omega
theorem zKy {ys : Nat → D} {xs : List D} {i : Nat} (hi : i < xs.length) : (over ys xs i).set i (ys i) = over ys xs (i + 1) := by
 unfold over
 rw [List.set_append_right _ _ (by simp), List.drop_eq_getElem_cons hi, show i - ((List.range i).map ys).length = 0 by simp, List.set_cons_zero, List.range_succ, List.map_append]
 simp
theorem zJp {ys : Nat → D} {xs : List D} {i : Nat} (hi : i < xs.length) {y : D} (hy : y = ys i) : (over ys xs i).set i y = over ys xs (i + 1) := hy ▸ zKy hi
theorem zLp {ys : Nat → D} {xs : List D} {i : Nat} (hi : i < xs.length) : gd (over ys xs i) i = gd xs i := by
 unfold gd over
 rw [List.getD_eq_getElem?_getD, List.getD_eq_getElem?_getD, List.getElem?_append_right (by simp)]
 simp
theorem z40 {ys : Nat → D} {n i : Nat} (hi : i < n) : gd ((List.range n).map ys) i = ys i := by
 rw [zA4 (by simpa using hi)]; simp
theorem pow18 : (10 : Int) ^ 18 = 1000000000000000000 := by decide
end Go.Own
namespace Go.Own
variable [Glb]
theorem zFQ {l : List D} {i : Nat} {x : D} (h : i < l.length) : gd (l.set i x) i = x := by
 rw [zA4 (by simpa using h)]; simp
end Go.Own
namespace Go.Own
variable [Glb]
theorem zLt {σ : Type} {o : Outc} {x : Sum σ (Nat × List D)} {T : Nat} {out : σ → List D} {k : Nat × List D → Outc} {R : Option D}
 (h : o = match x with
   | .inl s => some (T, out s)
   | .inr e => some e) (hl : ∀ s, x = .inl s → rn (k (T, out s)) = R) (hr : ∀ e, x = .inr e → rn (k e) = R) : rn (o.bind k) = R := by
 subst h
 cases x with
 | inl s => exact hl s rfl
 | inr e => exact hr e rfl
theorem sel0 {a : Outc} {b : Nat → Outc} {R : Outc} (h : a = R) : sel2 0 a b = R := h
end Go.Own
namespace Go.Own
variable [Glb]
open Go
theorem z8U {σ : Type} {f : List D → Outc} {l : List D} (enc : Nat → σ → List D) (Inv : Nat → σ → Prop) {t : Nat} {out : σ → List D} (n : Nat) (s0 : σ) (hl : l = enc n s0) (h0 : Inv n s0)
 (h : ∀ m s, Inv (m + 1) s → ∃ s', f (enc (m + 1) s) = some (0, enc m s') ∧ Inv m s') (hn : ∀ s, Inv 0 s → f (enc 0 s) = some (t + 1, out s)) : ∃ s, Inv 0 s ∧ z0f f l = some (t, out s) := by
 subst hl
 induction n generalizing s0 with
 | zero => exact ⟨s0, h0, z1F (hn s0 h0)⟩
 | succ m ih =>
   obtain ⟨s', h1, h2⟩ := h m s0 h0
   obtain ⟨s, h3, h4⟩ := ih s' h2
   exact ⟨s, h3, by rw [z1j h1]; exact h4⟩
end Go.Own
