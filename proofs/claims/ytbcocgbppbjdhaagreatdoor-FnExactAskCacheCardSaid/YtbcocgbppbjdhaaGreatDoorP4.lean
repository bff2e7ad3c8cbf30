/- What the functions compute, in plain words. -/
import Derived.Test.YtbcocgbppbjdhaaGreatDoorP3
set_option linter.unusedSectionVars false
set_option linter.unusedVariables false
set_option linter.unusedSimpArgs false
namespace Go.Proofs.YtbcocgbppbjdhaaGreatDoor
open Go Go.Own
theorem eqS_gen {α : Type} {f : α → D} {c : List D → Option D} {xs : List α} (hl : xs.length ≤ smax) (hc : ∀ x ∈ xs, c [f x, f x] = some (.bool true)) : rn (
  if (((D.lst (xs.map f)).l.length : Int) != ((D.lst (xs.map f)).l.length : Int)) then
    ou 0 [(.bool false)]
  else
    (loopF (fun l2 =>
        if (decide ((gd l2 0).i < ((D.lst (xs.map f)).l.length : Int))) then
          if (inb (gd l2 0).i (D.lst (xs.map f)).l.length) then
          if (inb (gd l2 0).i (D.lst (xs.map f)).l.length) then
          (c [(gd (D.lst (xs.map f)).l (gd l2 0).i.toNat), (gd (D.lst (xs.map f)).l (gd l2 0).i.toNat)]).bind fun r3 =>
          if (!r3.b) then
            ou 1 []
          else
            ou 0 [(.int (IntKind.wrap .i64 ((gd l2 0).i + 1)))]
          else none
          else none
        else
          ou 2 []) [(.int 0)]).bind fun o2 =>
    sel2 o2.1 (ou 0 [(.bool false)]) fun n4 =>
    sel2 n4 (ou 0 [(.bool true)]) fun _ => none) = some (.bool true) := by
  rw [if_neg (by simp)]
  refine rn_bind (loop_for' (fun i (_ : Unit) => [.int i]) xs.length (fun _ => ()) (t := 1) (o := []) rfl ?_ ?_) rfl
  · intro i hi
    have := hc _ (List.getElem_mem hi)
    simp [hi, gd_map hi, inb_nat hi, wrap_succ hi hl, this]
  · simp
theorem toS_gen {α : Type} {f : α → D} {c : List D → Option D} {xs : List α} {z : D} {eb : Nat} (he : eb ≤ 16777216) (hl : xs.length ≤ lim) (hc : ∀ x ∈ xs, c [f x] = some (f x)) : rn (
  if (makeOk eb ((D.lst (xs.map f)).l.length : Int)) then
  (loopF (fun l1 =>
      if (decide ((gd l1 1).i < ((D.lst (xs.map f)).l.length : Int))) then
        if (inb (gd l1 1).i (D.lst (xs.map f)).l.length) then
        (c [(gd (D.lst (xs.map f)).l (gd l1 1).i.toNat)]).bind fun r3 =>
        if (inb (gd l1 1).i (gd l1 0).l.length) then
        ou 0 [(D.lst ((gd l1 0).l.set (gd l1 1).i.toNat r3)), (.int (IntKind.wrap .i64 ((gd l1 1).i + 1)))]
        else none
        else none
      else
        ou 1 [(gd l1 0)]) [(D.lst (List.replicate ((D.lst (xs.map f)).l.length : Int).toNat z)), (.int 0)]).bind fun o1 =>
  sel2 o1.1 (ou 0 [(gd o1.2 0)]) fun _ => none
  else none) = some (.lst (xs.map f)) := by
  have hlen : (D.lst (xs.map f)).l.length = xs.length := by simp
  rw [hlen]; refine rn_if (makeOk_nat hl he) ?_
  refine rn_bind (loop_for' (fun i (zs : List D) => [.lst zs, .int i]) xs.length (filled (xs.map f) z) (t := 0) (o := [.lst (xs.map f)]) (by simp [filled_zero]) ?_ ?_) rfl
  · intro i hi
    have hm : i < (xs.map f).length := by simpa using hi
    have hf := filled_set (z := z) hm
    have ht := hc _ (List.getElem_mem hi)
    rw [List.getElem_map] at hf
    simp [hi, gd_map hi, inb_nat hi, wrap_succ hi (Nat.le_trans hl lim_smax), filled_length (Nat.le_of_lt hm), hf, ht]
  · have := filled_all (xs := xs.map f) (z := z)
    rw [List.length_map] at this
    simp [this]
def SzOk {α : Type} (f : α → D) (c : Int → D → Int) (Q : α → Prop) : Prop := ∀ (x : α) (s : Int), 0 ≤ s → s ≤ lim → c s (f x) ≤ s ∧ (0 ≤ c s (f x) → Q x)
theorem szS_gen {α : Type} {f : α → D} {c : Int → D → Int} {e : List D → Option D} {Q : α → Prop} {xs : List α} {left : Int} (hQ : SzOk f c Q) (hl : xs.length ≤ smax) (h0 : 0 ≤ left) (h1 : left ≤ lim)
    (hc : ∀ x ∈ xs, ∀ s : Int, 0 ≤ s → s ≤ lim → e [f x, .int s] = some (.int (c s (f x)))) : rn (
  if (decide ((IntKind.wrap .i64 ((D.int left).i - ((D.lst (xs.map f)).l.length : Int))) < 0)) then
    ou 0 [(.int (-1))]
  else
    (loopF (fun l2 =>
        if (decide ((gd l2 1).i < ((D.lst (xs.map f)).l.length : Int))) then
          if (inb (gd l2 1).i (D.lst (xs.map f)).l.length) then
          (e [(gd (D.lst (xs.map f)).l (gd l2 1).i.toNat), (gd l2 0)]).bind fun r4 =>
          if (decide (r4.i < 0)) then
            ou 1 [(.int (-1))]
          else
            ou 0 [r4, (.int (IntKind.wrap .i64 ((gd l2 1).i + 1)))]
          else none
        else
          ou 2 [(gd l2 0)]) [(.int (IntKind.wrap .i64 ((D.int left).i - ((D.lst (xs.map f)).l.length : Int)))), (.int 0)]).bind fun o2 =>
    sel2 o2.1 (ou 0 [(gd o2.2 0)]) fun n4 =>
    sel2 n4 (ou 0 [(gd o2.2 0)]) fun _ => none) = some (.int (szL c (xs.map f) left)) := by
  have hw := len_wrapA h0 h1 hl
  have hlen : (D.lst (xs.map f)).l.length = (xs.map f).length := rfl
  have hlen' : (xs.map f).length = xs.length := by simp
  rw [hlen]
  have hw' : IntKind.wrap .i64 (left - ((xs.map f).length : Int)) = left - (xs.map f).length := by rw [hlen']; exact hw
  by_cases hlt : left - ((xs.map f).length : Int) < 0
  · refine rn_if (by rw [D.i_int, hw']; exact decide_eq_true hlt) ?_
    unfold szL
    rw [if_pos hlt]; rfl
  · refine rn_else (by rw [D.i_int, hw']; exact fun hc => hlt (of_decide_eq_true hc)) ?_
    simp only [D.l_lst, D.i_int, hw']
    refine rn_bind (szL_loop (c := c) hlt h1 ?_ ?_ ?_) ?_
    · intro x hx' s h1 h2
      obtain ⟨y, hy, rfl⟩ := List.mem_map.1 hx'
      exact (hQ y s h1 h2).1
    · intro i s hi h1 h2
      have hi' : i < xs.length := by simpa using hi
      have hg : (xs.map f)[i] = f xs[i] := by simp
      have hz := hc _ (List.getElem_mem hi') s h1 h2
      rw [hg]
      constructor <;> intro hc <;> simp [hi', gd_map hi', inb_nat hi', wrap_succ hi' hl, hz, hc]
    · intro s; simp
    · rcases szN_cases c (xs.map f) left with h | h <;> simp [h]
theorem szS_ok {α : Type} {f : α → D} {c : Int → D → Int} {Q : α → Prop} (hinj : ∀ x y : α, f x = f y → x = y) (hQ : SzOk f c Q) (xs : List α) {left : Int} (h0 : 0 ≤ left) (h1 : left ≤ lim) :
    szL c (xs.map f) left ≤ left ∧ (0 ≤ szL c (xs.map f) left → xs.length ≤ lim ∧ ∀ x ∈ xs, Q x) := by
  have hs := szL_spec (c := c) (Q := fun d => ∃ y : α, d = f y ∧ Q y) (xs := xs.map f) (left := left) h1 (by
    intro x hx' s h1 h2
    obtain ⟨y, hy, rfl⟩ := List.mem_map.1 hx'
    exact ⟨(hQ y s h1 h2).1, fun h => ⟨y, rfl, (hQ y s h1 h2).2 h⟩⟩) h0
  refine ⟨hs.1, fun hp => ?_⟩
  have := hs.2 hp
  refine ⟨by simpa using this.1, fun x hx => ?_⟩
  obtain ⟨y, hy, hyl⟩ := this.2 (f x) (List.mem_map.2 ⟨x, hx, rfl⟩)
  rw [hinj _ _ hy]; exact hyl
theorem rn_two {a b : Int} {e : Int → Option D} {k : D → Outc} (he : 0 ≤ a → e a = some (.int b)) (hk : k = fun r3 => if decide (r3.i < 0) then ou 0 [.int (-1)] else ou 0 [r3]) :
    rn (if decide ((D.int a).i < 0) then ou 0 [.int (-1)] else (e a).bind k) = some (.int (if a < 0 then -1 else if b < 0 then -1 else b)) := by
  subst hk
  by_cases h : a < 0
  · rw [if_pos h]; exact rn_if (decide_eq_true h) rfl
  · rw [if_neg h]
    refine rn_else (fun h' => h (of_decide_eq_true h')) (rn_call (he (by omega)) ?_)
    by_cases h2 : b < 0
    · rw [if_pos h2]; exact rn_if (decide_eq_true h2) rfl
    · rw [if_neg h2]; exact rn_else (fun h' => h2 (of_decide_eq_true h')) rfl
end Go.Proofs.YtbcocgbppbjdhaaGreatDoor
namespace Go.Own
variable [Glb]
open Go
theorem loop_inv {σ : Type} {f : List D → Outc} {l : List D} (enc : Nat → σ → List D) (Inv : Nat → σ → Prop) (n : Nat) {t : Nat} {out : σ → List D} (s0 : σ) (hl : l = enc 0 s0) (h0 : Inv 0 s0)
    (h : ∀ i s, i < n → Inv i s → ∃ s', f (enc i s) = some (0, enc (i + 1) s') ∧ Inv (i + 1) s') (hn : ∀ s, Inv n s → f (enc n s) = some (t + 1, out s)) : ∃ s, Inv n s ∧ loopF f l = some (t, out s) := by
  subst hl
  have key : ∀ m k s, m + k = n → Inv k s → ∃ s', Inv n s' ∧ loopF f (enc k s) = some (t, out s') := by
    intro m
    induction m with
    | zero =>
      intro k s hk hi
      have : k = n := by omega
      subst this
      exact ⟨s, hi, loopF_exit (hn s hi)⟩
    | succ m ih =>
      intro k s hk hi
      obtain ⟨s', h1, h2⟩ := h k s (by omega) hi
      obtain ⟨s'', h3, h4⟩ := ih (k + 1) s' (by omega) h2
      exact ⟨s'', h3, by rw [loopF_step h1]; exact h4⟩
  exact key n 0 s0 (by omega) h0
theorem gd_set_ne {l : List D} {i j : Nat} {x : D} (h : i ≠ j) : gd (l.set i x) j = gd l j := by
  unfold gd
  rw [List.getD_eq_getElem?_getD, List.getD_eq_getElem?_getD, List.getElem?_set_ne h]
theorem upd_len {l : List D} {i j : Nat} {v : D} : (upd l i j v).length = l.length := by simp [upd]
theorem upd2_len {l : List D} {i j k : Nat} {v : D} : (upd2 l i j k v).length = l.length := by simp [upd2]
theorem upd_ne {l : List D} {i j m : Nat} {v : D} (h : i ≠ m) : gd (upd l i j v) m = gd l m := by unfold upd; exact gd_set_ne h
theorem upd2_ne {l : List D} {i j k m : Nat} {v : D} (h : i ≠ m) : gd (upd2 l i j k v) m = gd l m := by unfold upd2; exact gd_set_ne h
theorem gd_upd {l : List D} {i j : Nat} {v : D} (h : i < l.length) : gd (upd l i j v) i = (gd l i).setFld j v := by unfold upd; exact gd_set h
theorem gd_upd2 {l : List D} {i j k : Nat} {v : D} (h : i < l.length) : gd (upd2 l i j k v) i = (gd l i).setFld j (((gd l i).fld j).setFld k v) := by unfold upd2; exact gd_set h
end Go.Own
namespace Go.Proofs.YtbcocgbppbjdhaaGreatDoor
open Go Go.Own
theorem w_succ {k : Int} (h0 : 0 ≤ k) (h1 : k ≤ 100000000000000000) : IntKind.wrap .i64 (k + 1) = k + 1 := wrap_id (by omega) (by omega)
end Go.Proofs.YtbcocgbppbjdhaaGreatDoor
namespace Go.Proofs.YtbcocgbppbjdhaaGreatDoor
open Go Go.Own
theorem rn_bind1 {o : Outc} {l : List D} {A : Nat × List D → Outc} {B : Nat × List D → Nat → Outc} {R : Option D} (h : o = some (1, l)) (hk : rn (B (1, l) 0) = R) : rn (o.bind fun o => sel2 o.1 (A o) (B o)) = R := by
  rw [h]; exact hk
theorem rn_sel0 {A : Outc} {B : Nat → Outc} {R : Option D} (hk : rn A = R) : rn (sel2 0 A B) = R := hk
theorem out_bind0 {o : Outc} {l : List D} {A : Nat × List D → Outc} {B : Nat × List D → Nat → Outc} {R : Option (Nat × List D)} (h : o = some (0, l)) (hk : A (0, l) = R) : (o.bind fun o => sel2 o.1 (A o) (B o)) = R := by
  rw [h]; exact hk
theorem out_bind1 {o : Outc} {l : List D} {A : Nat × List D → Outc} {B : Nat × List D → Nat → Outc} {R : Outc} (h : o = some (1, l)) (hk : B (1, l) 0 = R) : (o.bind fun o => sel2 o.1 (A o) (B o)) = R := by
  rw [h]; exact hk
end Go.Proofs.YtbcocgbppbjdhaaGreatDoor
namespace Go.Proofs.YtbcocgbppbjdhaaGreatDoor
open Go Go.Own
structure RIn (B : Nat) (l : List Rec) : Prop where
  len : l.length ≤ B
  all : ∀ r ∈ l, r.In B
structure Ety where
  name : List UInt8
  type : Int
  none : Bool
  recs : List Rec
  till : Int
  used : Int
def Ety.d (e : Ety) : D := .pair (.str e.name) (.pair (.int e.type) (.pair (.bool e.none) (.pair (.lst (e.recs.map Rec.d)) (.pair (.int e.till) (.pair (.int e.used) .unit)))))
structure Ety.In (B : Nat) (e : Ety) : Prop where
  name : e.name.length ≤ B
  recs : RIn B e.recs
structure Cch where
  now : Int
  es : List Ety
def Cch.d (c : Cch) : D := .pair (.int c.now) (.pair (.lst (c.es.map Ety.d)) .unit)
structure Cch.In (B : Nat) (c : Cch) : Prop where
  len : c.es.length ≤ B
  all : ∀ e ∈ c.es, e.In B
theorem RIn.smax {l : List Rec} (h : RIn lim l) : RIn smax l := ⟨Nat.le_trans h.len lim_smax, fun r hr => ⟨Nat.le_trans (h.all r hr).name lim_smax, Nat.le_trans (h.all r hr).data lim_smax⟩⟩
theorem Ety.In.smax {e : Ety} (h : e.In lim) : e.In smax := ⟨Nat.le_trans h.name lim_smax, h.recs.smax⟩
abbrev tEty : T := .pair .str (.pair (.int .i64) (.pair .bool (.pair (.lst false tRec) (.pair (.int .i64) (.pair (.int .i64) .unit)))))
abbrev tCch : T := .pair (.int .i64) (.pair (.lst false tEty) .unit)
theorem recs_of {B : Nat} {o : Bool} {d : D} (h : Sm B (.lst o tRec) d) : ∃ l : List Rec, d = .lst (l.map Rec.d) ∧ RIn B l := by
  obtain ⟨xs, rfl, hl, hc⟩ := h
  obtain ⟨ys, rfl, hys⟩ := list_of (g := Rec.d) (Q := fun r => r.In B) (fun x hx => rec_of (hc x hx))
  exact ⟨ys, rfl, by simpa using hl, hys⟩
theorem ety_of {B : Nat} {d : D} (h : Sm B tEty d) : ∃ x : Ety, d = x.d ∧ x.In B := by
  obtain ⟨_, _, rfl, ⟨s, rfl, hs⟩, _, _, rfl, ⟨n, rfl, _⟩, _, _, rfl, ⟨b, rfl⟩, _, _, rfl, h1, _, _, rfl, ⟨t, rfl, _⟩, _, _, rfl, ⟨u, rfl, _⟩, rfl⟩ := h
  obtain ⟨l, rfl, hl⟩ := recs_of h1
  exact ⟨⟨s, n, b, l, t, u⟩, rfl, hs, hl⟩
theorem cch_of {B : Nat} {d : D} (h : Sm B tCch d) : ∃ x : Cch, d = x.d ∧ x.In B := by
  obtain ⟨_, _, rfl, ⟨n, rfl, _⟩, _, _, rfl, ⟨xs, rfl, hl, hc⟩, rfl⟩ := h
  obtain ⟨ys, rfl, hys⟩ := list_of (g := Ety.d) (Q := fun r => r.In B) (fun x hx => ety_of (hc x hx))
  exact ⟨⟨n, ys⟩, rfl, by simpa using hl, hys⟩
theorem recs_inj {a b : List Rec} (h : a.map Rec.d = b.map Rec.d) : a = b := (List.map_inj_right (fun _ _ => Rec.d_inj)).1 h
theorem Ety.d_inj {x y : Ety} (h : x.d = y.d) : x = y := by
  obtain ⟨a, b, c, e, f, g⟩ := x
  obtain ⟨a', b', c', e', f', g'⟩ := y
  simp only [Ety.d, D.pair.injEq, D.int.injEq, D.bool.injEq, D.str.injEq, D.lst.injEq] at h
  obtain ⟨h1, h2, h3, h4, h5, h6, _⟩ := h
  have h4 := recs_inj h4
  subst h1; subst h2; subst h3; subst h4; subst h5; subst h6; rfl
theorem f_eqEntry {x : Ety} (hx : x.In smax) : e_laws_eqEntry.F [x.d, x.d] = some (.bool true) := by
  have f3 : x.d.fld 3 = .lst (x.recs.map Rec.d) := rfl
  rw [q_laws_eqEntry, f3]
  exact rn_else (by simp) (rn_else (by simp) (rn_else (by simp) (rn_call (f_eqRecordS hx.recs.len) (rn_else (by simp) (rn_else (by simp) (rn_else (by simp) rfl))))))
theorem f_eqEntryS {xs : List Ety} (hl : xs.length ≤ smax) (hx : ∀ x ∈ xs, x.In smax) : e_laws_eqEntryS.F [.lst (xs.map Ety.d), .lst (xs.map Ety.d)] = some (.bool true) := by
  rw [q_laws_eqEntryS]; exact eqS_gen (c := e_laws_eqEntry.F) hl fun x h => f_eqEntry (hx x h)
theorem f_eqCache {c : Cch} (hc : c.In smax) : e_laws_eqCache.F [c.d, c.d] = some (.bool true) := by
  have f1 : c.d.fld 1 = .lst (c.es.map Ety.d) := rfl
  rw [q_laws_eqCache, f1]
  exact rn_else (by simp) (rn_call (f_eqEntryS hc.len hc.all) (rn_else (by simp) rfl))
theorem f_toEntry {x : Ety} (hx : x.In lim) : e_laws_toEntry.F [x.d] = some x.d := by
  have f3 : x.d.fld 3 = .lst (x.recs.map Rec.d) := rfl
  rw [q_laws_toEntry, f3]
  exact rn_call (f_toRecordS hx.recs.len) rfl
theorem f_toEntryS {xs : List Ety} (hl : xs.length ≤ lim) (hx : ∀ x ∈ xs, x.In lim) : e_laws_toEntryS.F [.lst (xs.map Ety.d)] = some (.lst (xs.map Ety.d)) := by
  rw [q_laws_toEntryS]; exact toS_gen (c := e_laws_toEntry.F) (by decide) hl fun x h => f_toEntry (hx x h)
theorem f_toCache {c : Cch} (hc : c.In lim) : e_laws_toCache.F [c.d] = some c.d := by
  have f1 : c.d.fld 1 = .lst (c.es.map Ety.d) := rfl
  rw [q_laws_toCache, f1]
  exact rn_call (f_toEntryS hc.len hc.all) rfl
def szEty (s : Int) (x : D) : Int := if s - (x.fld 0).s.length < 0 then -1 else if szL szRec (x.fld 3).l (s - (x.fld 0).s.length) < 0 then -1 else szL szRec (x.fld 3).l (s - (x.fld 0).s.length)
theorem szEty_d (left : Int) (x : Ety) : szEty left x.d = if left - (x.name.length : Int) < 0 then -1 else if szL szRec (x.recs.map Rec.d) (left - (x.name.length : Int)) < 0 then -1 else szL szRec (x.recs.map Rec.d) (left - (x.name.length : Int)) := rfl
theorem f_szEntry {x : Ety} {left : Int} (hx : x.In smax) (h0 : 0 ≤ left) (h1 : left ≤ lim) : e_laws_szEntry.F [x.d, .int left] = some (.int (szEty left x.d)) := by
  rw [q_laws_szEntry]
  have f0 : (x.d.fld 0).s = x.name := rfl
  have f3 : x.d.fld 3 = .lst (x.recs.map Rec.d) := rfl
  rw [szEty_d, f0, f3, D.i_int, len_wrapA h0 h1 hx.name]
  by_cases h : left - (x.name.length : Int) < 0
  · rw [if_pos h]; exact rn_if (decide_eq_true h) rfl
  · rw [if_neg h]
    refine rn_else (fun h' => h (of_decide_eq_true h')) (rn_call (f_szRecordS hx.recs.len hx.recs.all (by omega) (by omega)) ?_)
    by_cases h2 : szL szRec (x.recs.map Rec.d) (left - (x.name.length : Int)) < 0
    · rw [if_pos h2]; exact rn_if (decide_eq_true h2) rfl
    · rw [if_neg h2]; exact rn_else (fun h' => h2 (of_decide_eq_true h')) rfl
theorem szEty_ok : SzOk Ety.d szEty (fun x => x.In lim) := by
  intro x s h0 h1
  rw [szEty_d]
  by_cases h : s - (x.name.length : Int) < 0
  · rw [if_pos h]; exact ⟨by omega, fun h => by omega⟩
  · rw [if_neg h]
    have hr := szRecS_spec (xs := x.recs) (left := s - (x.name.length : Int)) (by omega) (by omega)
    by_cases h2 : szL szRec (x.recs.map Rec.d) (s - (x.name.length : Int)) < 0
    · rw [if_pos h2]; exact ⟨by omega, fun h => by omega⟩
    · rw [if_neg h2]
      exact ⟨by omega, fun hp => ⟨by omega, (hr.2 hp).1, (hr.2 hp).2⟩⟩
theorem f_szEntryS {xs : List Ety} {left : Int} (hl : xs.length ≤ smax) (hx : ∀ x ∈ xs, x.In smax) (h0 : 0 ≤ left) (h1 : left ≤ lim) : e_laws_szEntryS.F [.lst (xs.map Ety.d), .int left] = some (.int (szL szEty (xs.map Ety.d) left)) := by
  rw [q_laws_szEntryS]; exact szS_gen (e := e_laws_szEntry.F) szEty_ok hl h0 h1 fun x h s a b => f_szEntry (hx x h) a b
theorem f_szCache {c : Cch} {left : Int} (hc : c.In smax) (h0 : 0 ≤ left) (h1 : left ≤ lim) : ∃ r, e_laws_szCache.F [c.d, .int left] = some (.int r) ∧ (0 ≤ r → c.In lim) := by
  rw [q_laws_szCache]
  have f1 : c.d.fld 1 = .lst (c.es.map Ety.d) := rfl
  rw [f1]
  have hs := f_szEntryS (left := left) hc.len hc.all h0 h1
  have hss := szS_ok (f := Ety.d) (fun _ _ => Ety.d_inj) szEty_ok c.es (left := left) h0 h1
  by_cases h : szL szEty (c.es.map Ety.d) left < 0
  · exact ⟨-1, rn_call hs (rn_if (decide_eq_true h) rfl), by omega⟩
  · exact ⟨_, rn_call hs (rn_else (fun h' => h (of_decide_eq_true h')) rfl), fun hp => ⟨(hss.2 hp).1, (hss.2 hp).2⟩⟩
end Go.Proofs.YtbcocgbppbjdhaaGreatDoor
namespace Go.Proofs.YtbcocgbppbjdhaaGreatDoor
open Go Go.Own
noncomputable def markedE (k : Int) (e : Ety) : Ety := ⟨mtA k, k + 1, ((k + 2).tmod 3 == 0), markedR (k + 3) e.recs.length, k + 3 + 4 * e.recs.length, k + 3 + 4 * e.recs.length + 1⟩
noncomputable def mkEs : Int → List Ety → List Ety × Int
  | k, [] => ([], k)
  | k, e :: l => (markedE k e :: (mkEs (k + 5 + 4 * e.recs.length) l).1, (mkEs (k + 5 + 4 * e.recs.length) l).2)
theorem mkEs_len : ∀ (l : List Ety) (k : Int), (mkEs k l).1.length = l.length
  | [], _ => rfl
  | e :: l, k => by simp [mkEs, mkEs_len l]
theorem mkEs_snoc : ∀ (l : List Ety) (k : Int) (e : Ety), mkEs k (l ++ [e]) = ((mkEs k l).1 ++ [markedE (mkEs k l).2 e], (mkEs k l).2 + 5 + 4 * e.recs.length)
  | [], k, e => rfl
  | x :: l, k, e => by simp only [List.cons_append, mkEs, mkEs_snoc l]
theorem mkEs_get : ∀ (l : List Ety) (k : Int) (i : Nat) (h : i < l.length) (h' : i < (mkEs k l).1.length), (mkEs k l).1[i] = markedE (mkEs k (l.take i)).2 l[i]
  | e :: l, k, 0, _, _ => rfl
  | e :: l, k, i + 1, h, h' => by
    simp only [mkEs, List.getElem_cons_succ, List.take_succ_cons]
    exact mkEs_get l _ i (by simpa using h) _
theorem mkEs_bound {B : Nat} : ∀ {l : List Ety} {k : Int}, (∀ e ∈ l, e.recs.length ≤ B) → k ≤ (mkEs k l).2 ∧ (mkEs k l).2 ≤ k + l.length * (5 + 4 * B : Nat)
  | [], k, _ => by simp [mkEs]
  | e :: l, k, h => by
    have h1 := h e (by simp)
    have h2 := mkEs_bound (k := k + 5 + 4 * e.recs.length) (l := l) fun x hx => h x (by simp [hx])
    simp only [mkEs, List.length_cons]
    rw [Int.natCast_add, Int.add_mul, Int.natCast_one, Int.one_mul]
    omega
theorem set_mid {α : Type} {A B : List α} {x y : α} {i : Nat} (h : i = A.length) : (A ++ x :: B).set i y = A ++ y :: B := by
  subst h; simp
theorem gd_mid {A B : List D} {x : D} {i : Nat} (h : i = A.length) : gd (A ++ x :: B) i = x := by
  subst h; unfold gd; simp
noncomputable def midE (k : Int) (es : List Ety) (i : Nat) : List D := (mkEs k (es.take i)).1.map Ety.d ++ (es.drop i).map Ety.d
theorem midE_len {k : Int} {es : List Ety} {i : Nat} (h : i ≤ es.length) : (midE k es i).length = es.length := by simp [midE, mkEs_len]; omega
theorem f_markEntryS {es : List Ety} {k : Int} {B : Nat} (hB : ∀ e ∈ es, e.recs.length ≤ B) (hl : es.length ≤ lim) (h0 : 0 ≤ k) (h1 : k + es.length * (5 + 4 * B : Nat) < 10 ^ 17) :
    e_laws_markEntryS.F [.lst (es.map Ety.d), .int k] = some (.pair (.int (mkEs k es).2) (.pair (.lst ((mkEs k es).1.map Ety.d)) .unit)) := by
  have h10 := pow18A
  have h17 : (10 : Int) ^ 17 = 100000000000000000 := by decide
  have hsm := Nat.le_trans hl lim_smax
  rw [q_laws_markEntryS]
  refine rn_bind0 (loop_for' (fun i (s : List D × Int) => [.lst s.1, .int s.2, .int i]) es.length (fun i => (midE k es i, (mkEs k (es.take i)).2)) (t := 0) (o := [.lst ((mkEs k es).1.map Ety.d), .int (mkEs k es).2]) (by simp [midE, mkEs]) ?_ ?_) rfl
  · intro i hi
    have hkb := mkEs_bound (B := B) (k := k) (l := es.take i) fun e he => hB e (List.mem_of_mem_take he)
    have hkb2 := mkEs_bound (B := B) (k := k) (l := es.take (i + 1)) fun e he => hB e (List.mem_of_mem_take he)
    have hbb : ((es.take (i + 1)).length : Int) * (5 + 4 * B : Nat) ≤ es.length * (5 + 4 * B : Nat) := Int.mul_le_mul_of_nonneg_right (by simp; omega) (by omega)
    have htk : es.take (i + 1) = es.take i ++ [es[i]] := by rw [List.take_add_one]; simp [hi]
    have hsn := mkEs_snoc (es.take i) k es[i]
    rw [← htk] at hsn
    rw [hsn] at hkb2 ⊢
    simp only at hkb2
    have hml := mkEs_len (es.take i) k
    have hti : (es.take i).length = i := by simp; omega
    rw [hti] at hml
    generalize hK : (mkEs k (es.take i)).2 = K at hkb hkb2
    generalize hn : (es[i]).recs.length = n at hkb2
    have hdrop : es.drop i = es[i] :: es.drop (i + 1) := (List.drop_eq_getElem_cons hi)
    have hmid : midE k es i = (mkEs k (es.take i)).1.map Ety.d ++ (es[i]).d :: (es.drop (i + 1)).map Ety.d := by unfold midE; rw [hdrop]; rfl
    have hnext : midE k es (i + 1) = (mkEs k (es.take i)).1.map Ety.d ++ (markedE K es[i]).d :: (es.drop (i + 1)).map Ety.d := by
      unfold midE; rw [hsn, hK]; simp
    have hL := midE_len (k := k) (es := es) (i := i) (Nat.le_of_lt hi)
    have hg : gd (midE k es i) i = (es[i]).d := by rw [hmid]; exact gd_mid (by simp [hml])
    have hset : ∀ y : Ety, (midE k es i).set i y.d = (mkEs k (es.take i)).1.map Ety.d ++ y.d :: (es.drop (i + 1)).map Ety.d := fun y => by rw [hmid]; exact set_mid (by simp [hml])
    have hLi : i < (midE k es i).length := by rw [hL]; exact hi
    have w1 : IntKind.wrap .i64 (K + 1) = K + 1 := by rw [wrap_id] <;> omega
    have w2 : IntKind.wrap .i64 (K + 1 + 1) = K + 2 := by rw [wrap_id] <;> omega
    have w3 : IntKind.wrap .i64 (K + 2 + 1) = K + 3 := by rw [wrap_id] <;> omega
    have w4 : IntKind.wrap .i64 (K + 3 + 4 * (n : Int) + 1) = K + 3 + 4 * n + 1 := by rw [wrap_id] <;> omega
    have w5 : IntKind.wrap .i64 (K + 3 + 4 * (n : Int) + 1 + 1) = K + 5 + 4 * n := by rw [wrap_id] <;> omega
    have hm := mtA_is (k := K) (by omega) (by omega)
    have hr := f_markRecordS (xs := (es[i]).recs) (k := K + 3) (by omega) (by omega)
    rw [hn] at hr
    refine out_if (by simp [hL]; omega) (out_call hm (out_if ?_ (out_if rfl (out_call (r := .pair (.int (K + 3 + 4 * n)) (.pair (.lst ((markedR (K + 3) n).map Rec.d)) .unit)) ?_ ?_))))
    · simp only [gd_zero, gd_two, D.l_lst, D.i_int, hL]; exact inb_nat hi
    · simp only [upd, gd_zero, gd_one, gd_two, D.l_lst, D.i_int, Int.toNat_natCast, List.set_set, gd_set hLi, hg, w1, w2, w3]
      exact hr
    · have e0 : (D.pair (.int (K + 3 + 4 * (n : Int))) (.pair (.lst ((markedR (K + 3) n).map Rec.d)) .unit)).fld 0 = .int (K + 3 + 4 * n) := rfl
      have e1 : (D.pair (.int (K + 3 + 4 * (n : Int))) (.pair (.lst ((markedR (K + 3) n).map Rec.d)) .unit)).fld 1 = .lst ((markedR (K + 3) n).map Rec.d) := rfl
      simp only [upd, gd_zero, gd_one, gd_two, D.l_lst, D.i_int, Int.toNat_natCast, List.set_set, gd_set hLi, hg, w1, w2, w3, e0, e1, w4, w5, wrap_succ hi hsm]
      rw [hnext, ← hset]
      unfold markedE
      rw [hn]
      rfl
  · have hd : midE k es es.length = (mkEs k es).1.map Ety.d := by simp [midE]
    rw [List.take_length]
    simp only [hd]
    exact out_else (by simp [mkEs_len]) rfl
theorem f_heldEntryS {es : List Ety} {k : Int} {B : Nat} (hB : ∀ e ∈ es, e.recs.length ≤ B) (hl : es.length ≤ lim) (h0 : 0 ≤ k) (h1 : k + es.length * (5 + 4 * B : Nat) < 10 ^ 17) :
    e_laws_heldEntryS.F [.lst ((mkEs k es).1.map Ety.d), .int k] = some (.int (mkEs k es).2) := by
  have h10 := pow18A
  have h17 : (10 : Int) ^ 17 = 100000000000000000 := by decide
  have hsm := Nat.le_trans hl lim_smax
  have hlen : (D.lst ((mkEs k es).1.map Ety.d)).l.length = es.length := by simp [mkEs_len]
  rw [q_laws_heldEntryS, hlen]
  refine rn_bind1 (loop_for' (fun i (s : Int) => [.int s, .int i]) es.length (fun i => (mkEs k (es.take i)).2) (t := 1) (o := [.int (mkEs k es).2]) (by simp [mkEs]) ?_ ?_) (rn_sel0 rfl)
  · intro i hi
    have hkb := mkEs_bound (B := B) (k := k) (l := es.take i) fun e he => hB e (List.mem_of_mem_take he)
    have hkb2 := mkEs_bound (B := B) (k := k) (l := es.take (i + 1)) fun e he => hB e (List.mem_of_mem_take he)
    have hbb : ((es.take (i + 1)).length : Int) * (5 + 4 * B : Nat) ≤ es.length * (5 + 4 * B : Nat) := Int.mul_le_mul_of_nonneg_right (by simp; omega) (by omega)
    have htk : es.take (i + 1) = es.take i ++ [es[i]] := by rw [List.take_add_one]; simp [hi]
    have hsn := mkEs_snoc (es.take i) k es[i]
    rw [← htk] at hsn
    rw [hsn] at hkb2 ⊢
    simp only at hkb2
    have hi' : i < (mkEs k es).1.length := by rw [mkEs_len]; exact hi
    have hget := mkEs_get es k i hi hi'
    generalize hK : (mkEs k (es.take i)).2 = K at hkb hkb2 hget
    have hg : gd ((mkEs k es).1.map Ety.d) i = (markedE K es[i]).d := by rw [gd_map hi', hget]
    generalize hn : (es[i]).recs.length = n at hkb2
    have w1 : IntKind.wrap .i64 (K + 1) = K + 1 := by rw [wrap_id] <;> omega
    have w2 : IntKind.wrap .i64 (K + 1 + 1) = K + 2 := by rw [wrap_id] <;> omega
    have w3 : IntKind.wrap .i64 (K + 2 + 1) = K + 3 := by rw [wrap_id] <;> omega
    have w4 : IntKind.wrap .i64 (K + 3 + 4 * (n : Int) + 1) = K + 3 + 4 * n + 1 := by rw [wrap_id] <;> omega
    have w5 : IntKind.wrap .i64 (K + 3 + 4 * (n : Int) + 1 + 1) = K + 5 + 4 * n := by rw [wrap_id] <;> omega
    have hm := mtA_is (k := K) (by omega) (by omega)
    have hr := f_heldRecordS (n := n) (k := K + 3) (by omega) (by omega)
    have f0 : ((markedE K es[i]).d.fld 0).s = mtA K := rfl
    have f1 : ((markedE K es[i]).d.fld 1).i = K + 1 := rfl
    have f2 : ((markedE K es[i]).d.fld 2).b = ((K + 2).tmod 3 == 0) := rfl
    have f3 : (markedE K es[i]).d.fld 3 = .lst ((markedR (K + 3) n).map Rec.d) := by rw [← hn]; rfl
    have f4 : ((markedE K es[i]).d.fld 4).i = K + 3 + 4 * n := by rw [← hn]; rfl
    have f5 : ((markedE K es[i]).d.fld 5).i = K + 3 + 4 * n + 1 := by rw [← hn]; rfl
    refine out_if (decide_eq_true (by simp; omega)) (out_if (by rw [mkEs_len] at hi'; simpa [mkEs_len] using inb_nat hi) (out_call hm ?_))
    simp only [gd_zero, gd_one, D.l_lst, D.i_int, Int.toNat_natCast, hg, f0, f1, f2, f3, f4, f5, w1, w2, w3]
    refine out_else (by simp) (out_else (by simp) (out_if rfl (out_else (by simp) (out_call hr ?_))))
    simp only [D.i_int, w4, w5, wrap_succ hi hsm]
    exact out_else (fun h => absurd (of_decide_eq_true h) (by omega)) (out_else (by simp) (out_else (by simp) rfl))
  · rw [List.take_length]
    exact out_else (by simp) rfl
end Go.Proofs.YtbcocgbppbjdhaaGreatDoor
namespace Go.Own
open Go
theorem Cmp.prod {α β : Type} {c : α → α → Int} {d : β → β → Int} (hc : Cmp c) (hd : Cmp d) : Cmp (fun p q : α × β => if c p.1 q.1 = 0 then d p.2 q.2 else c p.1 q.1) where
  refl := by intro x; simp [hc.refl, hd.refl]
  eq := by
    rintro ⟨a, b⟩ ⟨a', b'⟩ h
    simp only at h
    split at h
    · rename_i h1; rw [hc.eq _ _ h1, hd.eq _ _ h]
    · rename_i h1; exact absurd h h1
  trans := by
    rintro ⟨a, b⟩ ⟨a', b'⟩ ⟨a'', b''⟩ h1 h2
    simp only at h1 h2 ⊢
    by_cases e1 : c a a' = 0
    · have := hc.eq _ _ e1; subst this
      rw [if_pos e1] at h1
      by_cases e2 : c a a'' = 0
      · rw [if_pos e2] at h2 ⊢; exact hd.trans _ _ _ h1 h2
      · rw [if_neg e2] at h2 ⊢; exact h2
    · rw [if_neg e1] at h1
      by_cases e2 : c a' a'' = 0
      · have := hc.eq _ _ e2; subst this
        rw [if_neg e1]; exact h1
      · rw [if_neg e2] at h2
        have := hc.lt h1 h2 (.inl e1)
        rw [if_neg (by omega)]; omega
  anti := by
    rintro ⟨a, b⟩ ⟨a', b'⟩ h1 h2
    simp only at h1 h2 ⊢
    by_cases e1 : c a a' = 0
    · have := hc.eq _ _ e1; subst this
      rw [if_pos e1] at h1 h2 ⊢; exact hd.anti _ _ h1 h2
    · rw [if_neg e1] at h1
      by_cases e2 : c a' a = 0
      · have := hc.eq _ _ e2; subst this; exact absurd e2 e1
      · rw [if_neg e2] at h2; exact absurd (hc.anti _ _ h1 h2) e1
end Go.Own
namespace Go.Proofs.YtbcocgbppbjdhaaGreatDoor
open Go Go.Own
def joinB (b : UInt8) : List (List UInt8) → List UInt8
  | [] => []
  | [p] => p
  | p :: q :: ps => p ++ b :: joinB b (q :: ps)
theorem joinB_splB (b : UInt8) : ∀ s : List UInt8, joinB b (splB b s) = s
  | [] => rfl
  | c :: s => by
    have ih := joinB_splB b s
    unfold splB
    split
    · rename_i h
      subst h
      cases hq : splB c s with
      | nil => exact absurd hq (splB_ne c s)
      | cons q ps => rw [hq] at ih; simp only [joinB, List.nil_append]; rw [ih]
    · split
      · rename_i p ps hq
        rw [hq] at ih
        cases ps with
        | nil => simp only [joinB] at ih ⊢; rw [ih]
        | cons q ps => simp only [joinB, List.cons_append] at ih ⊢; rw [ih]
      · rename_i hq
        exact absurd hq (splB_ne b s)
theorem parts_inj {a b : List UInt8} (h : parts a = parts b) : a = b := by
  unfold parts at h
  by_cases ha : a = []
  · subst ha
    by_cases hb : b = []
    · exact hb.symm
    · have : b.isEmpty = false := by cases b <;> simp_all
      rw [this] at h
      simp only [List.isEmpty_nil, if_true, Bool.false_eq_true, if_false] at h
      exact absurd h.symm (splB_ne 46 b)
  · have ea : a.isEmpty = false := by cases a <;> simp_all
    rw [ea] at h
    by_cases hb : b = []
    · subst hb
      simp only [List.isEmpty_nil, if_true, Bool.false_eq_true, if_false] at h
      exact absurd h (splB_ne 46 a)
    · have eb : b.isEmpty = false := by cases b <;> simp_all
      rw [eb] at h
      simp only [Bool.false_eq_true, if_false] at h
      rw [← joinB_splB 46 a, h, joinB_splB]
theorem cmpN_cmp : Cmp cmpN where
  refl := fun x => cmpL_cmp.refl _
  eq := fun x y h => parts_inj (List.reverse_inj.1 (cmpL_cmp.eq _ _ h))
  trans := fun x y z => cmpL_cmp.trans _ _ _
  anti := fun x y => cmpL_cmp.anti _ _
def cmpP (p q : List UInt8 × Int) : Int := if cmpN p.1 q.1 = 0 then intC p.2 q.2 else cmpN p.1 q.1
theorem cmpP_cmp : Cmp cmpP := cmpN_cmp.prod intC_cmp
theorem mid_wrap {a b : Nat} (h : a + b ≤ 4 * lim) : IntKind.wrap .i64 ((IntKind.wrap .u64 (IntKind.wrap .i64 ((a : Int) + (b : Int)))).fdiv (2 ^ min 1 (IntKind.bits .u64))) = (((a + b) / 2 : Nat) : Int) := by
  have hlim : lim = 1048576 := rfl
  have w1 : IntKind.wrap .i64 ((a : Int) + (b : Int)) = ((a + b : Nat) : Int) := by rw [wrap_id] <;> omega
  have w2 : IntKind.wrap .u64 ((a + b : Nat) : Int) = ((a + b : Nat) : Int) := by
    have : IntKind.wrap .u64 ((a + b : Nat) : Int) = ((a + b : Nat) : Int) % 2 ^ 64 := by simp [IntKind.wrap, IntKind.bits, IntKind.signed]
    rw [this]; omega
  have e : min 1 (IntKind.bits .u64) = 1 := rfl
  rw [w1, w2, e, fdiv_pow, show (2 : Nat) ^ 1 = 2 from rfl, wrap_id] <;> omega
theorem bs_gen {α : Type} {f : α → D} {c : D → Option D} {xs : List α} {cv : α → Int} (hl : xs.length ≤ lim) (hc : ∀ x ∈ xs, c (f x) = some (.int (cv x)))
    (mono : ∀ i j (hi : i < xs.length) (hj : j < xs.length), i ≤ j → cv xs[j] < 0 → cv xs[i] < 0) :
    ∃ k : Nat, k ≤ xs.length ∧ (∀ i (hi : i < xs.length), i < k → cv xs[i] < 0) ∧ (∀ i (hi : i < xs.length), k ≤ i → 0 ≤ cv xs[i]) ∧ ∃ b : Bool, (b = true ↔ ∃ h : k < xs.length, cv xs[k] = 0) ∧ rn ((loopF (fun l3 =>
      if (decide ((gd l3 0).i < (gd l3 1).i)) then
        if (decide (0 ≤ 1)) then
        if (inb (IntKind.wrap .i64 ((IntKind.wrap .u64 (IntKind.wrap .i64 ((gd l3 0).i + (gd l3 1).i))).fdiv (2 ^ min 1 (IntKind.bits .u64)))) (D.lst (xs.map f)).l.length) then
        (c (gd (D.lst (xs.map f)).l (IntKind.wrap .i64 ((IntKind.wrap .u64 (IntKind.wrap .i64 ((gd l3 0).i + (gd l3 1).i))).fdiv (2 ^ min 1 (IntKind.bits .u64)))).toNat)).bind fun r5 =>
        if (decide (r5.i < 0)) then
          ou 0 [(.int (IntKind.wrap .i64 ((IntKind.wrap .i64 ((IntKind.wrap .u64 (IntKind.wrap .i64 ((gd l3 0).i + (gd l3 1).i))).fdiv (2 ^ min 1 (IntKind.bits .u64)))) + 1))), (gd l3 1)]
        else
          ou 0 [(gd l3 0), (.int (IntKind.wrap .i64 ((IntKind.wrap .u64 (IntKind.wrap .i64 ((gd l3 0).i + (gd l3 1).i))).fdiv (2 ^ min 1 (IntKind.bits .u64)))))]
        else none
        else none
      else
        ou 1 [(gd l3 0)]) [(.int 0), (.int ((D.lst (xs.map f)).l.length : Int))]).bind fun o3 =>
  sel2 o3.1 ((if (decide ((gd o3.2 0).i < ((D.lst (xs.map f)).l.length : Int))) then
        if (inb (gd o3.2 0).i (D.lst (xs.map f)).l.length) then
        (c (gd (D.lst (xs.map f)).l (gd o3.2 0).i.toNat)).bind fun r4 =>
        ou 0 [(gd o3.2 0), (.bool (r4.i == 0))]
        else none
      else
        ou 0 [(gd o3.2 0), (.bool false)]).bind fun o4 =>
    sel2 o4.1 (ou 0 [(.pair (gd o4.2 0) (.pair (gd o4.2 1) .unit))]) fun _ => none) fun _ => none) = some (.pair (.int k) (.pair (.bool b) .unit)) := by
  have hlim : lim = 1048576 := rfl
  have hlen : (D.lst (xs.map f)).l.length = xs.length := by simp
  rw [hlen]
  have key : ∀ (m lo hi : Nat), hi - lo ≤ m → lo ≤ hi → hi ≤ xs.length → (∀ i (h : i < xs.length), i < lo → cv xs[i] < 0) → (∀ i (h : i < xs.length), hi ≤ i → 0 ≤ cv xs[i]) →
      ∃ k : Nat, k ≤ xs.length ∧ (∀ i (hi : i < xs.length), i < k → cv xs[i] < 0) ∧ (∀ i (hi : i < xs.length), k ≤ i → 0 ≤ cv xs[i]) ∧ loopF (fun l3 =>
      if (decide ((gd l3 0).i < (gd l3 1).i)) then
        if (decide (0 ≤ 1)) then
        if (inb (IntKind.wrap .i64 ((IntKind.wrap .u64 (IntKind.wrap .i64 ((gd l3 0).i + (gd l3 1).i))).fdiv (2 ^ min 1 (IntKind.bits .u64)))) xs.length) then
        (c (gd (D.lst (xs.map f)).l (IntKind.wrap .i64 ((IntKind.wrap .u64 (IntKind.wrap .i64 ((gd l3 0).i + (gd l3 1).i))).fdiv (2 ^ min 1 (IntKind.bits .u64)))).toNat)).bind fun r5 =>
        if (decide (r5.i < 0)) then
          ou 0 [(.int (IntKind.wrap .i64 ((IntKind.wrap .i64 ((IntKind.wrap .u64 (IntKind.wrap .i64 ((gd l3 0).i + (gd l3 1).i))).fdiv (2 ^ min 1 (IntKind.bits .u64)))) + 1))), (gd l3 1)]
        else
          ou 0 [(gd l3 0), (.int (IntKind.wrap .i64 ((IntKind.wrap .u64 (IntKind.wrap .i64 ((gd l3 0).i + (gd l3 1).i))).fdiv (2 ^ min 1 (IntKind.bits .u64)))))]
        else none
        else none
      else
        ou 1 [(gd l3 0)]) [.int lo, .int hi] = some (0, [.int k]) := by
    intro m
    induction m with
    | zero =>
      intro lo hi h1 h2 h3 h4 h5
      have : lo = hi := by omega
      subst this
      exact ⟨lo, h3, h4, h5, loopF_exit (out_else (by simp) rfl)⟩
    | succ m ih =>
      intro lo hi h1 h2 h3 h4 h5
      by_cases hlt : lo < hi
      · have hm := mid_wrap (a := lo) (b := hi) (by omega)
        have hmid : (lo + hi) / 2 < xs.length := by omega
        have g0 : (gd [D.int (lo : Int), D.int (hi : Int)] 0).i = (lo : Int) := rfl
        have g1 : (gd [D.int (lo : Int), D.int (hi : Int)] 1).i = (hi : Int) := rfl
        have hcm := hc _ (List.getElem_mem hmid)
        by_cases hneg : cv xs[(lo + hi) / 2] < 0
        · obtain ⟨k, k1, k2, k3, k4⟩ := ih ((lo + hi) / 2 + 1) hi (by omega) (by omega) h3 (fun i h hi' => mono i _ h hmid (by omega) hneg) h5
          refine ⟨k, k1, k2, k3, ?_⟩
          rw [loopF_step (l' := [.int (((lo + hi) / 2 + 1 : Nat) : Int), .int hi]) ?_]
          · exact k4
          · have w : IntKind.wrap .i64 ((((lo + hi) / 2 : Nat) : Int) + 1) = (((lo + hi) / 2 + 1 : Nat) : Int) := by rw [wrap_id] <;> omega
            rw [g0, g1, hm, w]
            refine out_if (decide_eq_true (by omega)) (out_if (by decide) (out_if (inb_nat hmid) ?_))
            rw [Int.toNat_natCast, D.l_lst, gd_map hmid]
            exact out_call hcm (out_if (decide_eq_true hneg) rfl)
        · obtain ⟨k, k1, k2, k3, k4⟩ := ih lo ((lo + hi) / 2) (by omega) (by omega) (by omega) h4 (fun i h hi' => by
            by_cases hn : cv xs[i] < 0
            · exact absurd (mono _ i hmid h hi' hn) hneg
            · omega)
          refine ⟨k, k1, k2, k3, ?_⟩
          rw [loopF_step (l' := [.int lo, .int (((lo + hi) / 2 : Nat) : Int)]) ?_]
          · exact k4
          · rw [g0, g1, hm]
            refine out_if (decide_eq_true (by omega)) (out_if (by decide) (out_if (inb_nat hmid) ?_))
            rw [Int.toNat_natCast, D.l_lst, gd_map hmid]
            exact out_call hcm (out_else (fun h => hneg (of_decide_eq_true h)) rfl)
      · have : lo = hi := by omega
        subst this
        exact ⟨lo, h3, h4, h5, loopF_exit (out_else (by simp) rfl)⟩
  obtain ⟨k, k1, k2, k3, k4⟩ := key xs.length 0 xs.length (by omega) (by omega) (Nat.le_refl _) (fun i h hi => by omega) (fun i h hi => by omega)
  by_cases hk : k < xs.length
  · refine ⟨k, k1, k2, k3, (cv xs[k] == 0), ?_, rn_bind k4 (rn_bind0 (l := [.int k, .bool (cv xs[k] == 0)]) (out_if (decide_eq_true (by simp; omega)) (out_if (inb_nat hk) ?_)) rfl)⟩
    · simp only [beq_iff_eq]
      exact ⟨fun h => ⟨hk, h⟩, fun ⟨_, h⟩ => h⟩
    · simp only [gd_zero, D.i_int, Int.toNat_natCast, D.l_lst, gd_map hk]
      exact out_call (hc _ (List.getElem_mem hk)) rfl
  · refine ⟨k, k1, k2, k3, false, ?_, rn_bind k4 (rn_bind0 (l := [.int k, .bool false]) (out_else (fun h => hk ?_) rfl) rfl)⟩
    · constructor
      · intro h; cases h
      · rintro ⟨h, _⟩; exact absurd h hk
    · have h' : (k : Int) < (xs.length : Int) := of_decide_eq_true h
      omega
def typeB (k : Int) : Bool := k == 1 || (k == 2 || (k == 5 || (k == 6 || (k == 15 || k == 16))))
def typesL : List Int := [1, 2, 5, 6, 15, 16]
theorem typesL_any (k : Int) : typesL.any (fun x => k == x) = typeB k := by
  simp [typesL, typeB]
theorem f_isType (k : Int) : e_impl_isType.F [.int k] = some (.bool (typeB k)) := by
  rw [q_impl_isType]
  have hidx : ∃ n : Int, e_slices_Index_int_int.F [.lst (typesL.map .int), .int k] = some (.int n) ∧ decide (n ≥ 0) = typeB k := by
    rw [q_slices_Index_int_int]
    have hlen : (D.lst (typesL.map D.int)).l.length = typesL.length := by simp
    rw [hlen]
    rcases loop_find (l := [.int 0]) (fun i => [.int i]) typesL.length (fun i => !(k == typesL.getD i 0)) (t1 := 0) (t2 := 1) (o1 := fun i => [.int i]) (o2 := []) (f := fun l2 =>
      if (decide ((gd l2 0).i < (typesL.length : Int))) then
        if (inb (gd l2 0).i typesL.length) then
        if ((D.int k).i == (gd (D.lst (typesL.map D.int)).l (gd l2 0).i.toNat).i) then
          ou 1 [(gd l2 0)]
        else
          ou 0 [(.int (IntKind.wrap .i64 ((gd l2 0).i + 1)))]
        else none
      else
        ou 2 []) rfl (by
        intro i hi hp
        rw [getD_lt hi] at hp
        have e0 : (gd [D.int (i : Int)] 0).i.toNat = i := by simp
        have e1 : (gd [D.int (i : Int)] 0).i = i := rfl
        rw [e0, e1, D.l_lst, gd_map hi, wrap_succ hi (by rw [smax_eq]; simp [typesL])]
        exact out_if (by simpa using hi) (out_if (by simpa using inb_nat hi) (out_else (by simpa using hp) rfl))) (by
        intro i hi hp
        rw [getD_lt hi] at hp
        have e0 : (gd [D.int (i : Int)] 0).i.toNat = i := by simp
        rw [e0, D.l_lst, gd_map hi]
        exact out_if (by simpa using hi) (out_if (by simpa using inb_nat hi) (out_if (by simpa using hp) rfl))) (by exact out_else (by simp) rfl) with ⟨hall, hloop⟩ | ⟨j, hj, hpj, _, hloop⟩
    · refine ⟨-1, rn_bind hloop rfl, ?_⟩
      rw [← typesL_any]
      have : typesL.any (fun x => k == x) = false := by
        rw [List.any_eq_false]
        intro x hx
        obtain ⟨i, hi, rfl⟩ := List.getElem_of_mem hx
        have := hall i hi
        rw [getD_lt hi] at this
        simpa using this
      rw [this]; rfl
    · refine ⟨j, rn_bind hloop rfl, ?_⟩
      rw [← typesL_any]
      rw [getD_lt hj] at hpj
      have : typesL.any (fun x => k == x) = true := by
        rw [List.any_eq_true]
        exact ⟨_, List.getElem_mem hj, by simpa using hpj⟩
      rw [this]; simp
  obtain ⟨n, h1, h2⟩ := hidx
  have h3 : e_slices_Contains_int_int.F [.lst (typesL.map .int), .int k] = some (.bool (typeB k)) := by
    rw [q_slices_Contains_int_int]
    refine rn_call h1 ?_
    rw [← h2]; rfl
  exact rn_call h3 rfl
theorem f_l3Type (k : Int) : e_spec_l3Type.F [.int k] = some (.bool (typeB k)) := by
  rw [q_spec_l3Type]
  have h3 : e_spec_l1Has.F [.lst (typesL.map .int), .int k] = some (.bool (typeB k)) := by
    rw [q_spec_l1Has]
    have hlen : (D.lst (typesL.map D.int)).l.length = typesL.length := by simp
    rw [hlen]
    refine rn_bind (loop_all' (fun i => [.int i]) typesL.length (fun i => !(typesL.getD i 0 == k)) (t1 := 0) (t2 := 1) (o1 := [.bool true]) (o2 := []) rfl ?_ (by exact out_else (by simp) rfl)) ?_
    · intro i hi
      rw [getD_lt hi]
      have e0 : (gd [D.int (i : Int)] 0).i.toNat = i := by simp
      have e1 : (gd [D.int (i : Int)] 0).i = i := rfl
      rw [e0, e1, D.l_lst, gd_map hi, wrap_succ hi (by rw [smax_eq]; simp [typesL])]
      refine out_if (by simpa using hi) (out_if (by simpa using inb_nat hi) ?_)
      cases hq : typesL[i] == k with
      | true => exact out_if (by simpa using hq) rfl
      | false => exact out_else (by simpa using hq) rfl
    · have : allN typesL.length (fun i => !(typesL.getD i 0 == k)) = !(typeB k) := by
        rw [all_allN typesL (fun x => !(x == k)) 0, ← typesL_any, List.not_any_eq_all_not]
        congr 1
        funext x
        rw [Bool.beq_comm (a := x)] <;> rfl
      rw [this]
      cases typeB k <;> rfl
  exact rn_call h3 rfl
theorem typeB_ne {k : Int} (h : typeB k = true) : k ≠ 0 := by
  rintro rfl; exact absurd h (by decide)
end Go.Proofs.YtbcocgbppbjdhaaGreatDoor
namespace Go.Proofs.YtbcocgbppbjdhaaGreatDoor
open Go Go.Own
def oneAt (l : List Rec) (n : List UInt8) (t : Int) (i : Nat) : Bool := (l.getD i Rec.nul).name == n && ((l.getD i Rec.nul).type == t && (l.getD i Rec.nul).ttl == (l.getD 0 Rec.nul).ttl)
noncomputable def oneOk (l : List Rec) (n : List UInt8) (t : Int) : Bool := inP l.length 1 12 && (rising l && allN l.length (oneAt l n t))
theorem f_areOne {l : List Rec} (hr : RIn lim l) (n : List UInt8) (t : Int) : e_impl_areOne.F [.lst (l.map Rec.d), .str n, .int t] = some (.bool (oneOk l n t)) := by
  have hsm := Nat.le_trans hr.len lim_smax
  have h1 := f_withinP l.length 1 12
  have h2 := f_areRising hr.len hr.all
  have hlen : (D.lst (l.map Rec.d)).l.length = l.length := by simp
  rw [q_impl_areOne, hlen]
  refine rn_bind0 (l := [.bool (oneOk l n t)]) ?_ rfl
  unfold oneOk
  cases k1 : inP l.length 1 12 with
  | false => rw [k1] at h1; exact out_call h1 (out_else (by simp) rfl)
  | true =>
    rw [k1] at h1
    refine out_call h1 (out_if rfl ?_)
    cases k2 : rising l with
    | false => rw [k2] at h2; exact out_call h2 (out_else (by simp) rfl)
    | true =>
      rw [k2] at h2
      refine out_call h2 (out_if rfl ?_)
      have hpos : 0 < l.length := by simp [inP] at k1; omega
      have hone : ∀ i (hi : i < l.length), e_impl_areOne_1.F [(l[i]).d, .str n, .int t, .lst (l.map Rec.d)] = some (.bool (!(oneAt l n t i))) := by
        intro i hi
        rw [q_impl_areOne_1]
        unfold oneAt
        rw [getD_lt hi, getD_lt hpos]
        have f0 : ((l[i]).d.fld 0).s = (l[i]).name := rfl
        have f1 : ((l[i]).d.fld 1).i = (l[i]).type := rfl
        have f2 : ((l[i]).d.fld 2).i = (l[i]).ttl := rfl
        have g2 : ((gd (D.lst (l.map Rec.d)).l 0).fld 2).i = (l[0]).ttl := by rw [D.l_lst, gd_rec hpos]; rfl
        rw [f0, f1, f2, g2, hlen]
        refine rn_bind0 (l := [.bool (!((l[i]).name == n && ((l[i]).type == t && (l[i]).ttl == (l[0]).ttl)))]) ?_ rfl
        cases a1 : (l[i]).name == n with
        | false => exact out_if (by simpa using a1) (by simp)
        | true =>
          refine out_else (by simpa using a1) ?_
          cases a2 : (l[i]).type == t with
          | false => exact out_if (by simpa using a2) (by simp)
          | true =>
            refine out_else (by simpa using a2) (out_if (inb_nat (i := 0) hpos) ?_)
            simp [bne]
      have hidx : ∃ m : Int, e_slices_IndexFunc_impl_Record_impl_Record__impl_areOne_1.F [.lst (l.map Rec.d), .pair (.str n) (.pair (.int t) (.pair (.lst (l.map Rec.d)) .unit))] = some (.int m) ∧ decide (m ≥ 0) = !(allN l.length (oneAt l n t)) := by
        rw [q_slices_IndexFunc_impl_Record_impl_Record__impl_areOne_1, hlen]
        have p0 : (D.pair (.str n) (.pair (.int t) (.pair (.lst (l.map Rec.d)) .unit))).fld 0 = .str n := rfl
        have p1 : (D.pair (.str n) (.pair (.int t) (.pair (.lst (l.map Rec.d)) .unit))).fld 1 = .int t := rfl
        have p2 : (D.pair (.str n) (.pair (.int t) (.pair (.lst (l.map Rec.d)) .unit))).fld 2 = .lst (l.map Rec.d) := rfl
        rw [p0, p1, p2]
        rcases loop_find (l := [.int 0]) (fun i => [.int i]) l.length (oneAt l n t) (t1 := 0) (t2 := 1) (o1 := fun i => [.int i]) (o2 := []) (f := fun l2 =>
          if (decide ((gd l2 0).i < (l.length : Int))) then
            if (inb (gd l2 0).i l.length) then
            (e_impl_areOne_1.F [(gd (D.lst (l.map Rec.d)).l (gd l2 0).i.toNat), .str n, .int t, .lst (l.map Rec.d)]).bind fun r3 =>
            if r3.b then
              ou 1 [(gd l2 0)]
            else
              ou 0 [(.int (IntKind.wrap .i64 ((gd l2 0).i + 1)))]
            else none
          else
            ou 2 []) rfl (by
            intro i hi hp
            have hh := hone i hi
            rw [hp] at hh
            have e0 : (gd [D.int (i : Int)] 0).i.toNat = i := by simp
            have e1 : (gd [D.int (i : Int)] 0).i = i := rfl
            rw [e0, e1, D.l_lst, gd_rec hi, wrap_succ hi hsm]
            exact out_if (by simpa using hi) (out_if (inb_nat hi) (out_call hh (out_else (by simp) rfl)))) (by
            intro i hi hp
            have hh := hone i hi
            rw [hp] at hh
            have e0 : (gd [D.int (i : Int)] 0).i.toNat = i := by simp
            have e1 : (gd [D.int (i : Int)] 0).i = i := rfl
            rw [e0, e1, D.l_lst, gd_rec hi]
            exact out_if (by simpa using hi) (out_if (inb_nat hi) (out_call hh (out_if rfl rfl)))) (by exact out_else (by simp) rfl) with ⟨hall, hloop⟩ | ⟨j, hj, hpj, _, hloop⟩
        · refine ⟨-1, rn_bind hloop rfl, ?_⟩
          rw [allN_true.2 hall]; rfl
        · refine ⟨j, rn_bind hloop rfl, ?_⟩
          rw [allN_false hj hpj]; simp
      obtain ⟨m, hm, hd⟩ := hidx
      have hc : e_slices_ContainsFunc_impl_Record_impl_Record__impl_areOne_1.F [.lst (l.map Rec.d), .pair (.str n) (.pair (.int t) (.pair (.lst (l.map Rec.d)) .unit))] = some (.bool (!(allN l.length (oneAt l n t)))) := by
        rw [q_slices_ContainsFunc_impl_Record_impl_Record__impl_areOne_1]
        refine rn_call hm ?_
        rw [← hd]; rfl
      exact out_call hc (by simp)
noncomputable def sameOk (l : List Rec) : Bool := inP l.length 1 12 && (rising l && allN l.length (oneAt l (l.getD 0 Rec.nul).name (l.getD 0 Rec.nul).type))
theorem f_l10Same {l : List Rec} (hr : RIn lim l) : e_spec_l10Same.F [.lst (l.map Rec.d)] = some (.bool (sameOk l)) := by
  have hsm := Nat.le_trans hr.len lim_smax
  have hx := hr.all
  rw [q_spec_l10Same]
  have hlen : (D.lst (l.map Rec.d)).l.length = l.length := by simp
  rw [hlen]
  have hcs : ∀ i, i < l.length → ∃ n : Int, e_spec_l3Compare.F [(l.getD (i - 1) Rec.nul).d, (l.getD i Rec.nul).d] = some (.int n) ∧ ((l.getD (i - 1) Rec.nul).ok = true → (l.getD i Rec.nul).ok = true → n = cmpR (l.getD (i - 1) Rec.nul) (l.getD i Rec.nul)) := by
    intro i hi
    have hi1 : i - 1 < l.length := by omega
    rw [getD_lt hi, getD_lt hi1]
    exact f_l3Compare (hx _ (List.getElem_mem hi1)) (hx _ (List.getElem_mem hi))
  let cS : Nat → Int := fun i => match e_spec_l3Compare.F [(l.getD (i - 1) Rec.nul).d, (l.getD i Rec.nul).d] with
    | some (.int n) => n
    | _ => 0
  have hcS : ∀ i, i < l.length → e_spec_l3Compare.F [(l.getD (i - 1) Rec.nul).d, (l.getD i Rec.nul).d] = some (.int (cS i)) ∧ ((l.getD (i - 1) Rec.nul).ok = true → (l.getD i Rec.nul).ok = true → cS i = cmpR (l.getD (i - 1) Rec.nul) (l.getD i Rec.nul)) := by
    intro i hi
    obtain ⟨n, h1, h2⟩ := hcs i hi
    have : cS i = n := by simp only [cS, h1]
    rw [this]; exact ⟨h1, h2⟩
  let one : Nat → Bool := oneAt l (l.getD 0 Rec.nul).name (l.getD 0 Rec.nul).type
  let up : Nat → Bool := fun i => (l.getD i Rec.nul).ok && (one i && (i == 0 || decide (cS i < 0)))
  have hup : allN l.length up = (rising l && allN l.length one) := by
    unfold rising
    rw [Bool.eq_iff_iff, Bool.and_eq_true, allN_true, allN_true, allN_true]
    constructor
    · intro h
      refine ⟨fun i hi => ?_, fun i hi => ?_⟩
      · have h1 := h i hi
        simp only [up, upAt, Bool.and_eq_true, Bool.or_eq_true, beq_iff_eq, decide_eq_true_eq] at h1 ⊢
        refine ⟨h1.1, h1.2.2.imp id fun h2 => ?_⟩
        by_cases h0 : i = 0
        · subst h0
          rw [← (hcS 0 hi).2 h1.1 h1.1]; exact h2
        · have h3 := h (i - 1) (by omega)
          simp only [up, Bool.and_eq_true] at h3
          rw [← (hcS i hi).2 h3.1 h1.1]; exact h2
      · have h1 := h i hi
        simp only [up, Bool.and_eq_true] at h1
        exact h1.2.1
    · rintro ⟨h, ho⟩ i hi
      have h1 := h i hi
      simp only [up, upAt, Bool.and_eq_true, Bool.or_eq_true, beq_iff_eq, decide_eq_true_eq] at h1 ⊢
      refine ⟨h1.1, ho i hi, h1.2.imp id fun h2 => ?_⟩
      by_cases h0 : i = 0
      · subst h0
        rw [(hcS 0 hi).2 h1.1 h1.1]; exact h2
      · have h3 := h (i - 1) (by omega)
        simp only [upAt, Bool.and_eq_true] at h3
        rw [(hcS i hi).2 h3.1 h1.1]; exact h2
  refine rn_bind (loop_all' (fun i => [.int i]) l.length up (t1 := 0) (t2 := 1) (o1 := []) (o2 := []) rfl ?_ ?_) ?_
  · intro i hi
    have hpos : 0 < l.length := by omega
    have hg : gd (D.lst (l.map Rec.d)).l i = (l[i]).d := gd_rec hi
    have hg0 : gd (D.lst (l.map Rec.d)).l 0 = (l[0]).d := gd_rec hpos
    have h1 := f_goodRecS (hx _ (List.getElem_mem hi))
    refine out_if (by simpa using hi) (out_if (by simpa using inb_nat hi) ?_)
    have e0 : (gd [D.int (i : Int)] 0).i.toNat = i := by simp
    have e1 : (gd [D.int (i : Int)] 0).i = i := rfl
    have f0 : ∀ r : Rec, (r.d.fld 0).s = r.name := fun _ => rfl
    have f1 : ∀ r : Rec, (r.d.fld 1).i = r.type := fun _ => rfl
    have f2 : ∀ r : Rec, (r.d.fld 2).i = r.ttl := fun _ => rfl
    rw [e0, e1, hg, hg0, wrap_succ hi hsm, f0, f0, f1, f1, f2, f2]
    refine out_bind0 (l := [.bool !(up i)]) ?_ ?_
    · simp only [up, one, oneAt]
      have hc := (hcS i hi).1
      rw [getD_lt hi, getD_lt hpos] at *
      cases hk : (l[i]).ok with
      | false => rw [hk] at h1; exact out_call h1 (out_if rfl (by simp))
      | true =>
        rw [hk] at h1
        refine out_call h1 (out_else (by simp) (out_if (inb_nat (i := 0) hpos) ?_))
        cases a1 : (l[i]).name == (l[0]).name with
        | false => exact out_if (by simp) (by simp)
        | true =>
          refine out_else (by simp) ?_
          cases a2 : (l[i]).type == (l[0]).type with
          | false => exact out_if (by simpa using a2) (by simp)
          | true =>
            refine out_else (by simpa using a2) ?_
            cases a3 : (l[i]).ttl == (l[0]).ttl with
            | false => exact out_if (by simpa using a3) (by simp)
            | true =>
              refine out_else (by simpa using a3) ?_
              by_cases h0 : i = 0
              · subst h0; exact out_else (by simp) (by simp)
              · have w : IntKind.wrap .i64 ((i : Int) - 1) = ((i - 1 : Nat) : Int) := by rw [smax_eq] at hsm; rw [wrap_id] <;> omega
                have hi1 : i - 1 < l.length := by omega
                rw [getD_lt hi1] at hc
                refine out_if (decide_eq_true (by omega)) (out_if (by rw [w]; exact inb_nat hi1) ?_)
                rw [w, Int.toNat_natCast, D.l_lst, gd_rec hi1]
                refine out_call hc ?_
                have : decide ((D.int (cS i)).i ≥ 0) = !(decide (cS i < 0)) := by
                  rw [Bool.eq_iff_iff]; simp
                rw [this]
                have : (i == 0) = false := by simpa using h0
                rw [this]; simp
    · cases up i <;> simp
  · exact out_else (by simp) rfl
  · rw [hup]
    have h1 := f_l1InP l.length 1 12
    unfold sameOk
    show rn (sel2 _ _ _) = _
    cases k2 : (rising l && allN l.length one) with
    | false => rw [Bool.and_false]; rfl
    | true =>
      rw [Bool.and_true]
      exact rn_call h1 rfl
end Go.Proofs.YtbcocgbppbjdhaaGreatDoor
