/- What the functions compute, in plain words. -/
import Derived.Test.YtllbponcjpcbnaaGreatDoorP7
set_option linter.unusedSectionVars false
set_option linter.unusedVariables false
set_option linter.unusedSimpArgs false
namespace Go.Proofs.YtllbponcjpcbnaaGreatDoor
open Go Go.Own
theorem zMf {apex : List UInt8} (h : z6L apex = true) : CGood (z4w apex) := by
 have he : z4w apex = newC apex := by unfold z4w; rw [if_pos h]
 rw [he]
 refine ⟨?_, ⟨Int.le_refl 0, by show (0 : Int) ≤ 1000000; decide⟩, by simp [newC], fun i j hi => by simp [newC] at hi⟩
 show (newZ apex).Good
 exact Zn.good_iff.1 (by rw [zJ8]; exact h)
def TkOk (c : Ctl) (a : Ask) (t : Ctl × Dn × Bool) : Prop := t.1.In lim ∧ (t.2.2 = true → CGood t.1) ∧ z25.F [c.d, a.d] = some (takD t.1 t.2.1 t.2.2) ∧ z49.F [c.d, a.d] = some (takD t.1 t.2.1 t.2.2)
open Classical in
noncomputable def tk (c : Ctl) (a : Ask) : Ctl × Dn × Bool := if h : ∃ t, TkOk c a t then Classical.choose h else (c, Dn.nul, false)
theorem zQf {c : Ctl} {a : Ask} (hc : c.In lim) (hg : CGood c) (ha : a.In lim) : TkOk c a (tk c a) := by
 have h : ∃ t, TkOk c a t := by
  obtain ⟨c', d, b, h1, h2, h3, h4⟩ := zQt hc hg ha
  exact ⟨(c', d, b), h1, h2, h3, h4⟩
 unfold tk
 rw [dif_pos h]
 exact Classical.choose_spec h
noncomputable def pst (c : Ctl) (l : List Ask) : Nat → Ctl × List Dn
 | 0 => (c, [])
 | i + 1 =>
   let t := tk (pst c l i).1 (l.getD i ⟨0, 0, []⟩)
   (if t.2.2 = true then t.1 else (pst c l i).1, (pst c l i).2 ++ [t.2.1])
theorem zPy {c : Ctl} {l : List Ask} (hc : c.In lim) (hg : CGood c) (hl : ∀ a ∈ l, a.In lim) : ∀ i, i ≤ l.length → (pst c l i).1.In lim ∧ CGood (pst c l i).1 ∧ (pst c l i).2.length = i
 | 0, _ => ⟨hc, hg, rfl⟩
 | i + 1, hi => by
   obtain ⟨h1, h2, h3⟩ := zPy hc hg hl i (by omega)
   have ha : (l.getD i ⟨0, 0, []⟩).In lim := by
    rw [List.getD_eq_getElem?_getD, List.getElem?_eq_getElem (show i < l.length by omega)]
    exact hl _ (List.getElem_mem _)
   obtain ⟨t1, t2, _, _⟩ := zQf h1 h2 ha
   unfold pst
   refine ⟨?_, ?_, by simp [h3]⟩
   ·dsimp only
    split
    ·exact t1
    ·exact h1
   ·dsimp only
    split
    ·rename_i hb
     exact t2 hb
    ·exact h2
def plyD (c : Ctl) (ds : List Dn) (b : Bool) : D := .pair c.d (.pair (.lst (ds.map Dn.d)) (.pair (.bool b) .unit))
theorem zPs {xs : List Ask} {i : Nat} (hi : i < xs.length) : gd (xs.map Ask.d) i = xs[i].d := z5V hi
theorem zKD {apex : List UInt8} {l : List Ask} (h : apex.length ≤ lim) (hl : l.length ≤ lim) (ha : ∀ a ∈ l, a.In lim) : ∃ (c' : Ctl) (ds : List Dn) (b : Bool), c'.In lim ∧ ds.length ≤ 40 ∧
 z33.F [.str apex, .lst (l.map Ask.d)] = some (plyD c' ds b) ∧ z3y.F [.str apex, .lst (l.map Ask.d)] = some (plyD c' ds b) := by
 have hlim : lim = 1048576 := rfl
 have hI := zIS h
 have hS := zBl h
 have hll : (D.lst (l.map Ask.d)).l = l.map Ask.d := rfl
 have N0 : (zMe apex).fld 0 = (z4w apex).d := rfl
 have N1 : ((zMe apex).fld 1).b = z6L apex := rfl
 have hn : nulC.In lim := ⟨⟨by simp [nulC], by simp [nulC], by simp [nulC]⟩, by simp [nulC]⟩
 rw [zCQ, zCc]
 simp only [hll, List.length_map]
 cases hp : z6L apex with
 | false =>
   rw [hp] at N1
   exact ⟨nulC, [], false, hn, by simp, z02 hI (z06 (l := [.bool true]) (z01 (by rw [N1]; rfl) rfl) (z0U rfl rfl)), z02 hS (z06 (l := [.bool true]) (z01 (by rw [N1]; rfl) rfl) (z0U rfl rfl))⟩
 | true =>
   rw [hp] at N1
   by_cases h40 : l.length ≤ 40
   ·have e40 : decide ((l.length : Int) > 40) = false := decide_eq_false (by omega)
    have hc0 := (zPN h).1
    have hg0 := zMf hp
    have hst := zPy hc0 hg0 ha
    obtain ⟨hcE, hgE, hlE⟩ := hst l.length (Nat.le_refl _)
    have e0 : ∀ x y z : D, gd [x, y, z] 0 = x := fun _ _ _ => rfl
    have e1 : ∀ x y z : D, gd [x, y, z] 1 = y := fun _ _ _ => rfl
    have e2 : ∀ x y z : D, gd [x, y, z] 2 = z := fun _ _ _ => rfl
    have T0 : ∀ (c : Ctl) (d : Dn) (b : Bool), (takD c d b).fld 0 = c.d := fun _ _ _ => rfl
    have T1 : ∀ (c : Ctl) (d : Dn) (b : Bool), (takD c d b).fld 1 = d.d := fun _ _ _ => rfl
    have T2 : ∀ (c : Ctl) (d : Dn) (b : Bool), ((takD c d b).fld 2).b = b := fun _ _ _ => rfl
    have hget : ∀ i (hi : i < l.length), l.getD i ⟨0, 0, []⟩ = l[i] := fun i hi => by
     rw [List.getD_eq_getElem?_getD, List.getElem?_eq_getElem hi]; rfl
    have hpick : ∀ i (hi : i < l.length), ((if (tk (pst (z4w apex) l i).1 l[i]).2.2 = true then ou 0 [(tk (pst (z4w apex) l i).1 l[i]).1.d] else ou 0 [(pst (z4w apex) l i).1.d]) : Outc) = some (0, [(pst (z4w apex) l (i + 1)).1.d]) := by
     intro i hi
     show _ = some (0, [(if (tk (pst (z4w apex) l i).1 (l.getD i ⟨0, 0, []⟩)).2.2 = true then (tk (pst (z4w apex) l i).1 (l.getD i ⟨0, 0, []⟩)).1 else (pst (z4w apex) l i).1).d])
     rw [hget i hi]
     split <;> rfl
    have hout : ∀ i (hi : i < l.length), (pst (z4w apex) l i).2.map Dn.d ++ [(tk (pst (z4w apex) l i).1 l[i]).2.1.d] = (pst (z4w apex) l (i + 1)).2.map Dn.d := by
     intro i hi
     show _ = ((pst (z4w apex) l i).2 ++ [(tk (pst (z4w apex) l i).1 (l.getD i ⟨0, 0, []⟩)).2.1]).map Dn.d
     rw [hget i hi, List.map_append]; rfl
    refine ⟨(pst (z4w apex) l l.length).1, (pst (z4w apex) l l.length).2, true, hcE, by omega, ?_, ?_⟩
    ·refine z02 hI (z06 (l := [.bool false]) (z00 (by rw [N1]; simp) (by rw [e40])) (z04 (by simp) ?_))
     rw [N0]
     refine z0K (z1R (fun i (s : Ctl × List Dn) => [s.1.d, .lst (s.2.map Dn.d), .int (i : Int)]) l.length (pst (z4w apex) l) (t := 0) (o := [(pst (z4w apex) l l.length).1.d, .lst ((pst (z4w apex) l l.length).2.map Dn.d)]) rfl ?_ ?_) rfl
     ·intro i hi
      obtain ⟨p1, p2, p3⟩ := hst i (by omega)
      obtain ⟨_, _, k1, k2⟩ := zQf p1 p2 (ha _ (List.getElem_mem hi))
      simp only [e0, e1, e2, D.i_int, D.l_lst, Int.toNat_natCast, zPs hi]
      refine z01 (by simpa using hi) (z01 (z0B hi) (z05 k1 ?_))
      rw [T0, T1, T2]
      refine z0b (hpick i hi) (z01 (z12 (by simp; omega) (by simp; omega) (by decide)) ?_)
      rw [hout i hi, z0N hi (by rw [z0p]; omega)]; rfl
     ·simp only [e0, e1, e2, D.i_int]
      exact z00 (by simp) rfl
    ·refine z02 hS (z06 (l := [.bool false]) (z00 (by rw [N1]; simp) (by rw [e40])) (z04 (by simp) ?_))
     rw [N0]
     refine z0K (z1R (fun i (s : Ctl × List Dn) => [s.1.d, .lst (s.2.map Dn.d), .int (i : Int)]) l.length (pst (z4w apex) l) (t := 0) (o := [(pst (z4w apex) l l.length).1.d, .lst ((pst (z4w apex) l l.length).2.map Dn.d)]) rfl ?_ ?_) (z8C (z02 (zLK hcE) rfl))
     ·intro i hi
      obtain ⟨p1, p2, p3⟩ := hst i (by omega)
      obtain ⟨_, _, k1, k2⟩ := zQf p1 p2 (ha _ (List.getElem_mem hi))
      simp only [e0, e1, e2, D.i_int, D.l_lst, Int.toNat_natCast, zPs hi]
      refine z01 (by simpa using hi) (z01 (z0B hi) (z05 (zLK p1) (z05 k2 ?_)))
      rw [T0, T1, T2]
      refine z0b (hpick i hi) (z01 (z12 (by simp; omega) (by simp; omega) (by decide)) ?_)
      rw [hout i hi, z0N hi (by rw [z0p]; omega)]; rfl
     ·simp only [e0, e1, e2, D.i_int]
      exact z00 (by simp) rfl
   ·have e40 : decide ((l.length : Int) > 40) = true := decide_eq_true (by omega)
    exact ⟨nulC, [], false, hn, by simp, z02 hI (z06 (l := [.bool true]) (z00 (by rw [N1]; simp) (by rw [e40])) (z0U rfl rfl)), z02 hS (z06 (l := [.bool true]) (z00 (by rw [N1]; simp) (by rw [e40])) (z0U rfl rfl))⟩
theorem Ask.d_inj (x y : Ask) (h : x.d = y.d) : x = y := by
 obtain ⟨a, b, xs⟩ := x
 obtain ⟨c, d, ys⟩ := y
 simp only [Ask.d, D.pair.injEq, D.int.injEq, D.lst.injEq] at h
 obtain ⟨h1, h2, h3, _⟩ := h
 rw [h1, h2, List.map_inj_right (f := chgD) zLD |>.1 h3]
def zOb (s : Int) (x : D) : Int := if szL zJr (x.fld 2).l s < 0 then -1 else szL zJr (x.fld 2).l s
theorem zQI {a : Ask} {left : Int} (ha : a.In smax) (h0 : 0 ≤ left) (h1 : left ≤ lim) : z47.F [a.d, .int left] = some (.int (zOb left a.d)) := by
 have f2 : a.d.fld 2 = .lst (a.ch.map chgD) := rfl
 have hs : z3w.F [.lst (a.ch.map chgD), .int left] = some (.int (szL zJr (a.ch.map chgD) left)) := by
  rw [zCa]
  exact zOd (e := z3V.F) zLu ha.len h0 h1 (fun p hp s h0 h1 => zME (ha.all p hp) h0 h1)
 unfold zOb
 rw [zFy, f2, D.l_lst]
 by_cases h : szL zJr (a.ch.map chgD) left < 0
 ·rw [if_pos h]; exact z02 hs (z0U (decide_eq_true h) rfl)
 ·rw [if_neg h]; exact z02 hs (z04 (fun h' => h (of_decide_eq_true h')) rfl)
theorem zLt : SzOk Ask.d zOb (fun a => a.In lim) := by
 intro a s h0 h1
 have f2 : (a.d.fld 2).l = a.ch.map chgD := rfl
 have hok := zQ2 (f := chgD) zLD zLu a.ch h0 h1
 unfold zOb
 rw [f2]
 split
 ·exact ⟨by omega, fun h => by omega⟩
 ·exact ⟨hok.1, fun hp => ⟨(hok.2 hp).1, (hok.2 hp).2⟩⟩
theorem zMD {l : List Ask} {left : Int} (hl : l.length ≤ smax) (ha : ∀ a ∈ l, a.In smax) (h0 : 0 ≤ left) (h1 : left ≤ lim) : ∃ r, z4N.F [.lst (l.map Ask.d), .int left] = some (.int r) ∧ (0 ≤ r → l.length ≤ lim ∧ ∀ a ∈ l, a.In lim) := by
 refine ⟨szL zOb (l.map Ask.d) left, ?_, (zQ2 (f := Ask.d) Ask.d_inj zLt l h0 h1).2⟩
 rw [zEf]
 exact zOd (e := z47.F) zLt hl h0 h1 (fun a hm s h0 h1 => zQI (ha a hm) h0 h1)
theorem zMG {l : List Ask} (hl : l.length ≤ lim) (ha : ∀ a ∈ l, a.In lim) : z2N.F [.lst (l.map Ask.d)] = some (.lst (l.map Ask.d)) := by
 rw [zEi]; exact zOf (c := z48.F) (by decide) hl (fun a hm => zNZ (ha a hm).len)
theorem zM5 {l : List Ask} (hl : l.length ≤ lim) (ha : ∀ a ∈ l, a.In lim) : z4K.F [.lst (l.map Ask.d), .lst (l.map Ask.d)] = some (.bool true) := by
 rw [zEZ]; exact zNG (c := z45.F) (Nat.le_trans hl z1A) (fun a hm => zNR (Nat.le_trans (ha a hm).len z1A))
theorem zIc {l : List Ask} (hl : l.length ≤ lim) (ha : ∀ a ∈ l, a.In lim) : ∃ (k : Int) (y : D), 0 ≤ k ∧ z3U.F [.lst (l.map Ask.d), .int 1] = some (.pair (.int k) (.pair y .unit)) := by
 have hlim : lim = 1048576 := rfl
 have hsm : l.length ≤ smax := Nat.le_trans hl z1A
 rw [zBH]
 obtain ⟨zs, k', g0, g1, hloop⟩ := zLa (f := Ask.d) (xs := l) (k0 := 1) 5242882 (by decide) (by decide) (F := fun l2 =>
  if (decide ((gd l2 2).i < ((gd l2 0).l.length : Int))) then
   if (inb (gd l2 2).i (gd l2 0).l.length) then
   (z2b.F [((gd (D.lst (upd (upd (gd l2 0).l (gd l2 2).i.toNat 0 (gd l2 1)) (gd l2 2).i.toNat 1 (.int (IntKind.wrap .i64 ((gd l2 1).i + 1))))).l (gd l2 2).i.toNat).fld 2), (.int (IntKind.wrap .i64 ((IntKind.wrap .i64 ((gd l2 1).i + 1)) + 1)))]).bind fun r5 =>
   ou 0 [(D.lst (upd (upd (upd (gd l2 0).l (gd l2 2).i.toNat 0 (gd l2 1)) (gd l2 2).i.toNat 1 (.int (IntKind.wrap .i64 ((gd l2 1).i + 1)))) (gd l2 2).i.toNat 2 (r5.fld 1))), (r5.fld 0), (.int (IntKind.wrap .i64 ((gd l2 2).i + 1)))]
   else none
  else
   ou 1 [(gd l2 0), (gd l2 1)]) (by
  intro i hi zs k2 hzl hg hk0 hk1
  have hi2 := mulB (n := i) (B := 5242882) (by omega) (by decide) (by decide)
  have e0 : gd [D.lst zs, D.int k2, D.int (i : Int)] 0 = .lst zs := rfl
  have e1 : gd [D.lst zs, D.int k2, D.int (i : Int)] 1 = .int k2 := rfl
  have e2 : gd [D.lst zs, D.int k2, D.int (i : Int)] 2 = .int i := rfl
  have hiz : i < zs.length := by omega
  have hle := (ha _ (List.getElem_mem hi)).len
  obtain ⟨k3, y, q0, q1, hm⟩ := zMa hle (k2 + 1 + 1) (by omega) (by omega)
  have hf : (gd (upd (upd zs i 0 (.int k2)) i 1 (.int (k2 + 1))) i).fld 2 = .lst (l[i].ch.map chgD) := by
   rw [zPt (by simpa [zL3] using hiz), zPt hiz, hg]; rfl
  refine ⟨upd (upd (upd zs i 0 (.int k2)) i 1 (.int (k2 + 1))) i 2 y, k3, ?_, by simp only [zL3]; exact hzl, ?_, by omega, by omega⟩
  ·simp only [e0, e1, e2, D.l_lst, D.i_int, Int.toNat_natCast, zF4 (k := k2) (by omega) (by omega), zF4 (k := k2 + 1) (by omega) (by omega), z0N hi hsm]
   exact z01 (decide_eq_true (show (i : Int) < (zs.length : Int) by omega)) (z01 (z0B (by omega)) (z05 (by rw [hf]; exact hm) rfl))
  ·intro j hj
   have hne : i ≠ j := by omega
   rw [zLx hne, zLx hne, zLx hne]) (by
  intro zs k2 hzl
  exact z00 (by simp [hzl]) rfl)
 exact ⟨k', .lst zs, g0, z0K hloop rfl⟩
theorem z8c {x y : D} (hx : Sm smax .str x) (hy : Sm smax (.lst false tAsk) y) : z3i.F [x, y] = some (.bool true) := by
 obtain ⟨apex, rfl, hxl⟩ := hx
 obtain ⟨ys, rfl, hl, hc⟩ := hy
 obtain ⟨l, rfl, hai⟩ := zKe (g := Ask.d) (Q := fun a => a.In smax) (fun x hx => zQh (hc x hx))
 rw [List.length_map] at hl
 have hlim : lim = 1048576 := rfl
 rw [z7N]
 by_cases hA : apex.length ≤ lim
 ·refine z04 (by simp; omega) ?_
  obtain ⟨r, h1, h2⟩ := zMD hl hai (left := 1048576) (by decide) (by decide)
  refine z02 h1 ?_
  by_cases hr : r < 0
  ·exact z0U (decide_eq_true hr) rfl
  refine z04 (fun h => hr (of_decide_eq_true h)) ?_
  obtain ⟨hll, ha⟩ := h2 (by omega)
  have hto := zMG hll ha
  obtain ⟨c', ds, b, hc', hds, hI, hS⟩ := zKD hA hll ha
  have heqc' := zKL hc'.smax
  have heqd := zIW (xs := ds) (by rw [z0p]; omega)
  have heqa := zM5 hll ha
  have A0 : (plyD c' ds b).fld 0 = c'.d := rfl
  have A1 : (plyD c' ds b).fld 1 = .lst (ds.map Dn.d) := rfl
  have A2 : ((plyD c' ds b).fld 2).b = b := rfl
  have hzl' := hc'.zone.len
  have hll' := hc'.len
  obtain ⟨y1, hm1, hy2, hy3⟩ := zFC hc'
  obtain ⟨k2, y2, hk2, hm2⟩ := zIc hll ha
  have h10 := zBg
  have hmd := zBX (xs := ds) (k := 1 + 4 * (c'.zone.recs.length : Int) + 4 * (c'.last.length : Int)) (by omega) (by omega)
  have hhd := zBV (n := ds.length) (k := 1 + 4 * (c'.zone.recs.length : Int) + 4 * (c'.last.length : Int)) (by omega) (by omega)
  have hheld := zFB (a := c'.zone.apex) (cn := c'.zone.counter) (z := .int c'.many) hzl' hll'
  have P0 : ∀ x y : D, (D.pair x (.pair y .unit)).fld 0 = x := fun _ _ => rfl
  have P1 : ∀ x y : D, (D.pair x (.pair y .unit)).fld 1 = y := fun _ _ => rfl
  have hobj : (D.pair (.pair ((c'.d.fld 0).fld 0) (.pair ((c'.d.fld 0).fld 1) (.pair ((y1.fld 0).fld 2) .unit))) (.pair (y1.fld 1) (.pair (c'.d.fld 2) .unit))) = .pair (.pair (.str c'.zone.apex) (.pair (.int c'.zone.counter) (.pair (.lst ((z3m 1 c'.zone.recs.length).map Rec.d)) .unit))) (.pair (.lst ((z3b (1 + 4 * c'.zone.recs.length) c'.last.length).map Dn.d)) (.pair (.int c'.many) .unit)) := by
   rw [hy2, hy3]; rfl
  refine z02 hto (z02 hS (z02 hto (z02 hI ?_)))
  rw [A0, A1, A2]
  have same : ((z1k.F [c'.d, c'.d]).bind fun r10 => if (!r10.b) = true then ou 0 [(.bool true)] else (z1c.F [.lst (ds.map Dn.d), .lst (ds.map Dn.d)]).bind fun r11 => if (!r11.b) = true then ou 0 [(.bool true)] else ou 0 [(.bool (!(b == b)))] : Outc) = some (0, [.bool false]) := z05 heqc' (z00 (by simp) (z05 heqd (z00 (by simp) (by simp))))
  refine z06 (l := [.bool false]) same (z04 (by simp) (z02 hto (z02 heqa (z04 (by simp) (z02 hm2 ?_)))))
  refine z06 (l := [.bool false]) (z00 (fun h => absurd (of_decide_eq_true h) (by show ¬ k2 < 0; omega)) same) (z04 (by simp) (z02 hm1 ?_))
  rw [P0, P1, hobj]
  refine z02 hmd ?_
  simp only [P0, P1]
  have tail : ∀ X : Outc, rn ((z1g.F [.pair (.pair (.str c'.zone.apex) (.pair (.int c'.zone.counter) (.pair (.lst ((z3m 1 c'.zone.recs.length).map Rec.d)) .unit))) (.pair (.lst ((z3b (1 + 4 * c'.zone.recs.length) c'.last.length).map Dn.d)) (.pair (.int c'.many) .unit)), .int 1]).bind fun r14 =>
   if (decide (r14.i < 0)) then ou 0 [(.bool false)] else
   (z1T.F [.lst ((z3b (1 + 4 * (c'.zone.recs.length : Int) + 4 * (c'.last.length : Int)) ds.length).map Dn.d), r14]).bind fun r15 =>
   if (decide (r15.i < 0)) then ou 0 [(.bool false)] else
   if (r15.i != (D.int (1 + 4 * (c'.zone.recs.length : Int) + 4 * (c'.last.length : Int) + 4 * ds.length)).i) then ou 0 [(.bool false)] else X) = rn X := by
   intro X
   rw [hheld, Option.bind_some, if_neg (fun h => absurd (of_decide_eq_true h) (by rw [D.i_int]; omega)), hhd, Option.bind_some, if_neg (fun h => absurd (of_decide_eq_true h) (by rw [D.i_int]; omega)), if_neg (by simp)]
  rw [tail]
  refine z02 hto (z02 hI ?_)
  rw [A0, A1, A2]
  refine z06 (l := [.bool false]) same (z04 (by simp) ?_)
  rw [tail]
  rfl
 ·exact z0U (decide_eq_true (by show ((apex.length : Nat) : Int) > 1048576; omega)) rfl
end Go.Proofs.YtllbponcjpcbnaaGreatDoor
