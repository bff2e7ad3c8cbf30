/- What the functions compute, in plain words. -/
import Derived.Test.YtbacjgkmkkphdaaGreatDoorP5
set_option linter.unusedSectionVars false
set_option linter.unusedVariables false
set_option linter.unusedSimpArgs false
namespace Go.Proofs.YtbacjgkmkkphdaaGreatDoor
open Go Go.Own
def ZnB (B : Nat) (d : D) : Prop := ∃ z : Zn, d = z.d ∧ z.In B
theorem f_l6Own {z : Zn} (h : z.recs.length ≤ 1000000) : e_spec_l6Own.F [z.d] = some z.d := by
 rw [q_spec_l6Own]
 exact rn_if (appN (show ([] : List D).length + (z.recs.map Rec.d).length ≤ 1000001 by simp; omega) (by decide)) rfl
theorem d_l6Batch {l : List (Int × Rec)} (hl : l.length ≤ 100) (hx : ∀ p ∈ l, p.2.In lim) : Tot (e_spec_l6Batch.F [.lst (l.map chgD)]) BoolD := by
 rw [q_spec_l6Batch]
 refine tot_rn (ok_bind (P := fun r => r = (0, []) ∨ r = (1, [])) (ok_up l.length (fun i s => s = [.int (i : Int)]) rfl ?_ ?_) ?_)
 ·rintro i _ hi rfl
  have hg : gd (l.map chgD) i = chgD l[i] := gd_map hi
  have hgr := f_goodRecS (hx _ (List.getElem_mem hi))
  refine ok_ifT (decide_eq_true (by simpa using hi)) (ok_ifT (inb_nat (by simpa using hi)) ?_)
  have e0 : ((D.lst (l.map chgD)).l) = l.map chgD := rfl
  have e1 : (gd [D.int (i : Int)] 0).i.toNat = i := by simp
  rw [e0, e1, hg]
  refine ok_bind (P := fun r => ∃ b : Bool, r = (0, [.bool b])) (ok_call (f_l1InP l[i].1 1 4) (ok_if (fun _ => ok_ou ⟨_, rfl⟩) (fun _ => ok_call (d := .bool l[i].2.ok) hgr (ok_if (fun _ => ok_ou ⟨_, rfl⟩) (fun _ => ok_ou ⟨_, rfl⟩))))) ?_
  rintro _ ⟨b, rfl⟩
  refine ok_sel0 (ok_if (fun _ => ok_ou (.inr ⟨0, rfl, .inl rfl⟩)) (fun _ => ok_ou (.inl ⟨rfl, ?_⟩)))
  show [D.int (IntKind.wrap .i64 ((i : Int) + 1))] = _
  rw [wrap1 (by omega)]
 ·rintro _ rfl
  refine ok_if (fun h => ?_) (fun h => ok_ou ⟨1, rfl, .inr rfl⟩)
  have h2 : ((l.length : Nat) : Int) < (((l.map chgD).length : Nat) : Int) := of_decide_eq_true h
  simp at h2
 ·rintro _ (rfl | rfl)
  ·exact ok_sel0 (ok_ou ⟨_, rfl, _, rfl⟩)
  ·exact ok_ou ⟨_, rfl, _, rfl⟩
theorem d_apply {z : Zn} {l : List (Int × Rec)} (hz : z.In 1000) (hl : l.length ≤ 100) (hx : ∀ p ∈ l, p.2.In 1000) : Tot (e_spec_ApplyBatch.F [z.d, .lst (l.map chgD)]) (fun d => ∃ (z' : Zn) (n : Int), d = .pair z'.d (.pair (.int n) .unit) ∧ z'.In 1000) := by
 rw [q_spec_ApplyBatch]
 have hlim : lim = 1048576 := rfl
 have hrec : ∀ {r : Rec}, r.In 1000 → r.In lim := fun h => h.mono (by omega)
 have hzl : z.In lim := ⟨by have := hz.apex; omega, by have := hz.len; omega, fun r hr => hrec (hz.all r hr)⟩
 have hown := f_l6Own (z := z) (by have := hz.len; omega)
 have f2 : z.d.fld 2 = .lst (z.recs.map Rec.d) := rfl
 have f0 : z.d.fld 0 = .str z.apex := rfl
 have hzlen := hz.len
 refine tot_rn (ok_call (f_specGoodZone hzl) (ok_if (fun _ => ok_ou ⟨_, rfl, Zn.nul, _, rfl, ⟨by simp [Zn.nul], by simp [Zn.nul], by simp [Zn.nul]⟩⟩) (fun hgd => ok_tot (d_l6Batch hl fun p hp => hrec (hx p hp)) ?_)))
 rintro _ ⟨bb, rfl⟩
 have hgood : z.Good := Zn.good_iff.1 (by simpa using hgd)
 have hmine : ∀ n : Int, ResP (fun d => ∃ (z' : Zn) (n : Int), d = .pair z'.d (.pair (.int n) .unit) ∧ z'.In 1000) (0, [.pair z.d (.pair (.int n) .unit)]) := fun n => ⟨_, rfl, z, n, rfl, hz⟩
 refine ok_if (fun _ => ok_call hown (ok_ou (hmine 1))) (fun _ => ok_bind (P := fun r => r = (0, [z.d, .int 2]) ∨ r = (1, [])) (ok_up l.length (fun i s => s = [.int (i : Int)]) rfl ?_ ?_) ?_)
 ·rintro i _ hi rfl
  have hg : gd (l.map chgD) i = chgD l[i] := gd_map hi
  refine ok_ifT (decide_eq_true (by simpa using hi)) (ok_ifT (inb_nat (by simpa using hi)) ?_)
  have e0 : ((D.lst (l.map chgD)).l) = l.map chgD := rfl
  have e1 : (gd [D.int (i : Int)] 0).i.toNat = i := by simp
  rw [e0, e1, hg, f2]
  refine ok_call (f_l6Has (xs := z.recs) (n := l[i].2.name) (k := l[i].2.type) hzl.len) (ok_bind (P := fun r => ∃ b : Bool, r = (0, [.bool b])) (ok_if (fun _ => ok_if (fun _ => ok_ou ⟨_, rfl⟩) (fun _ => ok_if (fun _ => ok_ou ⟨_, rfl⟩) (fun _ => ok_ou ⟨_, rfl⟩))) (fun _ => ok_if (fun _ => ok_ou ⟨_, rfl⟩) (fun _ => ok_ou ⟨_, rfl⟩))) ?_)
  rintro _ ⟨b, rfl⟩
  refine ok_sel0 (ok_if (fun _ => ok_call hown (ok_ou (.inr ⟨0, rfl, .inl rfl⟩))) (fun _ => ok_ou (.inl ⟨rfl, ?_⟩)))
  show [D.int (IntKind.wrap .i64 ((i : Int) + 1))] = _
  rw [wrap1 (by omega)]
 ·rintro _ rfl
  refine ok_if (fun h => ?_) (fun h => ok_ou ⟨1, rfl, .inr rfl⟩)
  have h2 : ((l.length : Nat) : Int) < (((l.map chgD).length : Nat) : Int) := of_decide_eq_true h
  simp at h2
 ·rintro _ (rfl | rfl)
  ·exact ok_sel0 (ok_ou (hmine 2))
  ·show OKo (if (appOk 48 ([] : List D) (z.recs.map Rec.d)) = true then _ else none) _
   refine ok_ifT (appN (by simp; omega) (by decide)) (ok_bind (P := fun r => ∃ d, r = (0, [d]) ∧ RsB 2000 1000 d) (ok_up l.length (fun i s => ∃ ys : List Rec, s = [.lst (ys.map Rec.d), .int (i : Int)] ∧ ys.length ≤ 1000 + i ∧ ∀ r ∈ ys, r.In 1000) ⟨z.recs, rfl, by omega, hz.all⟩ ?_ ?_) ?_)
   ·rintro i _ hi ⟨ys, rfl, hy, hyx⟩
    have hg : gd (l.map chgD) i = chgD l[i] := gd_map hi
    have e0 : ((D.lst (l.map chgD)).l) = l.map chgD := rfl
    have e1 : (gd [D.lst (ys.map Rec.d), D.int (i : Int)] 1).i.toNat = i := by simp [gd]
    refine ok_ifT (decide_eq_true (by simpa [gd] using hi)) (ok_bind (P := fun r => ∃ d, r = (0, [d]) ∧ RsB (1000 + (i + 1)) 1000 d) (ok_ifT (inb_nat (by simpa using hi)) ?_) ?_)
    ·rw [e0, e1, hg]
     refine ok_if (fun _ => ok_tot (d_drop (xs := ys) (n := 1000 + i) hy (by omega) hyx l[i].2) ?_) (fun _ => ok_if (fun _ => ok_tot (d_drop (xs := ys) (n := 1000 + i) hy (by omega) hyx l[i].2) ?_) (fun _ => ok_ou ⟨_, rfl, ys, rfl, by omega, hyx⟩))
     ·rintro _ ⟨ws, rfl, hw, hwx⟩
      exact ok_ou ⟨_, rfl, ws, rfl, by omega, hwx⟩
     ·rintro _ ⟨ws, rfl, hw, hwx⟩
      refine ok_tot (d_put (n := 1000 + i) hw (by omega) (by omega) hwx (hx _ (List.getElem_mem hi))) ?_
      intro d hd
      exact ok_ou ⟨_, rfl, hd⟩
    ·rintro _ ⟨_, rfl, zs, rfl, hzs, hzx⟩
     refine ok_sel0 (ok_ou (.inl ⟨rfl, zs, ?_, by omega, hzx⟩))
     show [D.lst (zs.map Rec.d), D.int (IntKind.wrap .i64 ((i : Int) + 1))] = _
     rw [wrap1 (by omega)]
   ·rintro _ ⟨ys, rfl, hy, hyx⟩
    refine ok_if (fun h => ?_) (fun h => ok_ou ⟨0, rfl, _, rfl, ys, rfl, by omega, hyx⟩)
    have h2 : ((l.length : Nat) : Int) < (((l.map chgD).length : Nat) : Int) := of_decide_eq_true h
    simp at h2
   ·rintro _ ⟨_, rfl, ys, rfl, hy, hyx⟩
    refine ok_sel0 (ok_bind (P := fun r => ∃ b : Bool, r = (0, [.bool b]) ∧ (b = false → ys.length ≤ 40 ∧ z.counter ≠ 1152921504606846976)) (ok_if (fun h => ok_ou ⟨_, rfl, fun h => by cases h⟩) (fun h => ok_ou ⟨_, rfl, fun h2 => ⟨?_, ?_⟩⟩)) ?_)
    ·have h3 : ¬ (((ys.map Rec.d).length : Nat) : Int) > 40 := fun hh => h (decide_eq_true hh)
     simp at h3; omega
    ·intro h3
     have h4 : (z.counter == 1152921504606846976) = false := h2
     rw [h3] at h4; simp at h4
    ·rintro _ ⟨b, rfl, hb⟩
     refine ok_sel0 (ok_if (fun _ => ok_call hown (ok_ou (hmine 4))) (fun hbf => ?_))
     obtain ⟨h40, hcnt⟩ := hb (by simpa [gd] using hbf)
     obtain ⟨n, hn, _⟩ := f_l6Rule (apex := z.apex) (xs := ys) hzl.apex (by omega) (fun r hr => hrec (hyx r hr))
     refine ok_call (d := .int n) hn (ok_if (fun _ => ok_call hown (ok_ou (hmine 3))) (fun _ => ?_))
     have hc := hgood.cnt
     simp only [inP, Bool.and_eq_true, decide_eq_true_eq] at hc
     have hw : IntKind.wrap .i64 (z.counter + 1) = z.counter + 1 := by rw [wrap_id] <;> omega
     refine ok_bind (P := fun r => ∃ z' : Zn, r = (0, [z'.d]) ∧ z'.In 1000) (ok_up ys.length (fun i s => ∃ zs : List Rec, s = [(Zn.mk z.apex (z.counter + 1) zs).d, .int (i : Int)] ∧ zs.length = i ∧ ∀ r ∈ zs, r.In 1000) ⟨[], ?_, rfl, by simp⟩ ?_ ?_) ?_
     ·show [D.pair (.str z.apex) (.pair (.int (IntKind.wrap .i64 (z.counter + 1))) (.pair (D.lst []) .unit)), D.int 0] = _
      rw [hw]; rfl
     ·rintro i _ hi ⟨zs, rfl, hzs, hzx⟩
      have hg : gd (ys.map Rec.d) i = ys[i].d := gd_rec hi
      have hri := hyx _ (List.getElem_mem hi)
      have e0 : (gd (0, [D.lst (ys.map Rec.d)]).2 0).l = ys.map Rec.d := rfl
      have e1 : (gd [(Zn.mk z.apex (z.counter + 1) zs).d, D.int (i : Int)] 1).i.toNat = i := by simp [gd]
      refine ok_ifT (decide_eq_true (by simpa [gd] using hi)) (ok_ifT (inb_nat (by simpa [gd] using hi)) (ok_bind (P := fun r => ∃ x : Rec, r = (0, [x.d]) ∧ x.In 1000) ?_ ?_))
      ·rw [e0, e1, hg]
       have hcp : inP (Zn.mk z.apex (z.counter + 1) zs).counter 0 1152921504606846976 = true := by
        simp only [inP, Bool.and_eq_true, decide_eq_true_eq]; omega
       have hsoa := f_l6Soa (z := Zn.mk z.apex (z.counter + 1) zs) hcp
       obtain ⟨_, t2, t3⟩ := tmod_cnt hcp
       have hlen := itoa_len t2 t3
       exact ok_if (fun _ => ok_call hsoa (ok_ou ⟨⟨ys[i].name, ys[i].type, ys[i].ttl, Lib.itoa ((Zn.mk z.apex (z.counter + 1) zs).counter % 4294967296)⟩, rfl, ⟨hri.name, Nat.le_trans hlen (show 18 ≤ 1000 by decide)⟩⟩)) (fun _ => ok_ou ⟨_, rfl, hri⟩)
      ·rintro _ ⟨x, rfl, hxx⟩
       refine ok_sel0 (ok_ifT (app1 (xs := zs) (g := Rec.d) (y := x.d) (by omega) (by decide)) (ok_ou (.inl ⟨rfl, zs ++ [x], ?_, by simp; omega, ?_⟩)))
       ·show [D.pair (.str z.apex) (.pair (.int (z.counter + 1)) (.pair (D.lst (zs.map Rec.d ++ [x.d])) .unit)), D.int (IntKind.wrap .i64 ((i : Int) + 1))] = _
        rw [wrap1 (by omega)]; simp [Zn.d]
       ·intro r hr
        rcases List.mem_append.1 hr with hr | hr
        ·exact hzx r hr
        ·rw [List.mem_singleton.1 hr]; exact hxx
     ·rintro _ ⟨zs, rfl, hzs, hzx⟩
      refine ok_if (fun h => ?_) (fun h => ok_ou ⟨0, rfl, _, rfl, ⟨hz.apex, by simp only; omega, hzx⟩⟩)
      have h2 : ((ys.length : Nat) : Int) < (((ys.map Rec.d).length : Nat) : Int) := of_decide_eq_true h
      simp at h2
     ·rintro _ ⟨z', rfl, hz'⟩
      exact ok_sel0 (ok_ou ⟨_, rfl, z', 0, rfl, hz'⟩)
end Go.Proofs.YtbacjgkmkkphdaaGreatDoor
namespace Go.Proofs.YtbacjgkmkkphdaaGreatDoor
open Go Go.Own
variable {bs : List D} {k : Nat} {c : D}
theorem d_newZone {s : List UInt8} (h : s.length ≤ 150) : Tot (e_spec_NewZone.F [.str s]) (fun d => ∃ (z : Zn) (b : Bool), d = .pair z.d (.pair (.bool b) .unit) ∧ z.In 150 ∧ (isApx s = true → z.recs.length = 1)) := by
 rw [q_spec_NewZone]
 have hlim : lim = 1048576 := rfl
 refine tot_rn (ok_call (f_l6Apex (s := s) (by omega)) (ok_if (fun hh => ok_ou ⟨_, rfl, Zn.nul, false, rfl, ⟨by simp [Zn.nul], by simp [Zn.nul], by simp [Zn.nul]⟩, fun ha => ?_⟩) (fun _ => ok_ou ⟨_, rfl, ⟨s, 0, [⟨s, 6, 60, [48]⟩]⟩, true, rfl, ⟨h, by simp, ?_⟩, fun _ => rfl⟩)))
 ·rw [ha] at hh; exact absurd hh (by simp)
 ·intro r hr
  rw [List.mem_singleton.1 hr]
  exact ⟨h, show 1 ≤ 150 by decide⟩
theorem Zn.In.mono {B C : Nat} {z : Zn} (h : z.In B) (hB : B ≤ C) : z.In C := ⟨Nat.le_trans h.apex hB, Nat.le_trans h.len hB, fun r hr => (h.all r hr).mono hB⟩
def apxs : List (List UInt8) := [[101, 120, 46, 99, 111, 109], [99, 111, 109], []]
theorem apxs_ok : ∀ s ∈ apxs, isApx s = true ∧ s.length ≤ 150 := by decide +kernel
theorem d_zone (hb : Bytes bs) (hc : Cu bs k c) (hk : k ≤ 400000) : Tot (e_spec_l1Cur_zone.F [c]) (Dr bs (k + 30000) (ZnB 2000)) := by
 rw [q_spec_l1Cur_zone]
 have hlim : lim = 1048576 := rfl
 obtain ⟨x, c1, h1, hx, hc1⟩ := f_of hb hc (by omega) (xs := (D.str [101, 120, 46, 99, 111, 109]) :: ((D.str [101, 120, 46, 99, 111, 109]) :: ((D.str [101, 120, 46, 99, 111, 109]) :: ((D.str [99, 111, 109]) :: ((D.str []) :: ([] : List D)))))) (by simp)
 have hxs : ∃ s ∈ apxs, x = .str s := by
  simp only [List.mem_cons, List.not_mem_nil, or_false] at hx
  rcases hx with rfl | rfl | rfl | rfl | rfl <;> exact ⟨_, by simp [apxs], rfl⟩
 obtain ⟨s, hs, rfl⟩ := hxs
 obtain ⟨hsa, hsl⟩ := apxs_ok s hs
 refine tot_rn (ok_call h1 (ok_tot (d_newZone hsl) ?_))
 rintro _ ⟨z, b, rfl, hz, hz1⟩
 have hzl := hz1 hsa
 refine ok_bind (P := fun r => ∃ (c' : D) (z : Zn), r = (0, [c', z.d]) ∧ Cu bs (k + 4) c' ∧ z.In 1000) ?_ ?_
 ·refine ok_tot (d_one hb hc1 (by omega) 12) ?_
  rintro _ ⟨_, c2, rfl, ⟨b2, rfl⟩, hc2⟩
  refine ok_if (fun _ => ?_) (fun _ => ok_ou ⟨_, _, rfl, hc2.mono (by omega), hz.mono (by omega)⟩)
  have hcp : inP (Zn.mk z.apex 4294967294 z.recs).counter 0 1152921504606846976 = true := rfl
  have hsoa := f_l6Soa (z := Zn.mk z.apex 4294967294 z.recs) hcp
  obtain ⟨_, t2, t3⟩ := tmod_cnt hcp
  have hlen := itoa_len t2 t3
  generalize hq : Lib.itoa ((Zn.mk z.apex 4294967294 z.recs).counter % 4294967296) = q at hsoa hlen
  obtain ⟨ap, cn, rs⟩ := z
  match rs, hzl, hz with
  | [r], _, hz =>
    refine ok_call (d := .str q) hsoa (ok_ifT (inb_nat (show 0 < 1 by decide)) (ok_ou ⟨c2, ⟨ap, 4294967294, [⟨r.name, r.type, r.ttl, q⟩]⟩, rfl, hc2.mono (by omega), ⟨Nat.le_trans hz.apex (by decide), by simp, ?_⟩⟩))
    intro r2 hr2
    rw [List.mem_singleton.1 hr2]
    exact ⟨Nat.le_trans (hz.all r (by simp)).name (by decide), Nat.le_trans hlen (show 18 ≤ 1000 by decide)⟩
 ·rintro _ ⟨c2, z, rfl, hc2, hz⟩
  refine ok_sel0 (ok_tot (d_pick hb hc2 (by omega) 9) ?_)
  rintro _ ⟨_, c3, rfl, ⟨n, rfl, hn⟩, hc3⟩
  have hn9 : n ≤ 8 := by omega
  refine ok_bind (P := fun r => ∃ (c' : D) (z : Zn), r = (0, [c', z.d]) ∧ Cu bs (k + 6 + 2000 * 8) c' ∧ z.In 1000) (ok_loop (fun m l => ∃ (c' : D) (z : Zn), l = [c', z.d, .int (m : Int)] ∧ m ≤ 8 ∧ Cu bs (k + 6 + 2000 * (8 - m)) c' ∧ z.In 1000) ?_ n ⟨c3, z, rfl, hn9, hc3.mono (by omega), hz⟩) ?_
  ·rintro m _ ⟨c', z, rfl, hm, hc', hz⟩
   refine ok_if (fun h => ?_) (fun h => ok_ou (.inr ⟨0, rfl, c', z, rfl, hc'.mono (by omega), hz⟩))
   have h0 : (0 : Int) < m := of_decide_eq_true h
   have hw : IntKind.wrap .i64 ((m : Int) - 1) = ((m - 1 : Nat) : Int) := by rw [wrap_id] <;> omega
   refine ok_bind (P := fun r => ∃ (c' : D) (z : Zn), r = (0, [c', z.d]) ∧ Cu bs (k + 6 + 2000 * (8 - (m - 1))) c' ∧ z.In 1000) (ok_tot (d_batch hb hc' (by omega)) ?_) ?_
   ·rintro _ ⟨_, c4, rfl, ⟨l, rfl, hl, hlx⟩, hc4⟩
    refine ok_tot (d_apply hz (by omega) (fun p hp => (hlx p hp).mono (by omega))) ?_
    rintro _ ⟨z', cd, rfl, hz'⟩
    exact ok_if (fun _ => ok_ou ⟨c4, z', rfl, hc4.mono (by omega), hz'⟩) (fun _ => ok_ou ⟨c4, z, rfl, hc4.mono (by omega), hz⟩)
   ·rintro _ ⟨c5, z5, rfl, hc5, hz5⟩
    refine ok_sel0 (ok_ou (.inl ⟨m - 1, by omega, rfl, c5, z5, ?_, by omega, hc5, hz5⟩))
    show [c5, z5.d, D.int (IntKind.wrap .i64 ((m : Int) - 1))] = _
    rw [hw]
  ·rintro _ ⟨c6, z, rfl, hc6, hz⟩
   refine ok_sel0 (ok_bind (P := fun r => ∃ (c' : D) (z : Zn), r = (0, [c', z.d]) ∧ Cu bs (k + 30000) c' ∧ z.In 2000) ?_ ?_)
   ·refine ok_tot (d_pick hb hc6 (by omega) 40) ?_
    rintro _ ⟨_, c7, rfl, ⟨v, rfl, _⟩, hc7⟩
    have hz2 : z.In 2000 := hz.mono (by omega)
    refine ok_if (fun _ => ok_ou ⟨_, ⟨z.apex, IntKind.wrap .i64 (z.counter + 1), z.recs⟩, rfl, hc7.mono (by omega), ⟨hz2.apex, hz2.len, hz2.all⟩⟩) (fun _ => ok_if (fun _ => ok_tot (d_inZone hb hc7 (by omega)) ?_) (fun _ => ok_if (fun _ => ok_tot (d_name hb hc7 (by omega)) ?_) (fun _ => ok_ou ⟨_, z, rfl, hc7.mono (by omega), hz2⟩)))
    ·rintro _ ⟨_, c8, rfl, ⟨r, rfl, hr⟩, hc8⟩
     have hzn := hz.len
     refine ok_ifT (app1 (xs := z.recs) (g := Rec.d) (y := r.d) (by omega) (by decide)) (ok_ou ⟨c8, ⟨z.apex, z.counter, z.recs ++ [r]⟩, ?_, hc8.mono (by omega), ⟨hz2.apex, by simp; omega, ?_⟩⟩)
     ·show (0, [c8, D.pair (.str z.apex) (.pair (.int z.counter) (.pair (D.lst (z.recs.map Rec.d ++ [r.d])) .unit))]) = _
      simp [Zn.d]
     ·intro r2 hr2
      rcases List.mem_append.1 hr2 with h | h
      ·exact hz2.all _ h
      ·rw [List.mem_singleton.1 h]; exact hr.mono (by omega)
    ·rintro _ ⟨_, c8, rfl, ⟨s, rfl, hs⟩, hc8⟩
     exact ok_ou ⟨c8, ⟨s, z.counter, z.recs⟩, rfl, hc8.mono (by omega), ⟨by simp only; omega, hz2.len, hz2.all⟩⟩
   ·rintro _ ⟨c8, z, rfl, hc8, hz⟩
    exact ok_sel0 (ok_ou ⟨_, rfl, _, _, rfl, ⟨z, rfl, hz⟩, hc8⟩)
structure WSm (n : Nat) (w : List Zn) : Prop where
 len : w.length ≤ n
 all : ∀ z ∈ w, z.In 2000
theorem WSm.lim {n : Nat} {w : List Zn} (h : WSm n w) (hn : n ≤ 1000) : WIn lim w := by
 have hlim : Go.Own.lim = 1048576 := rfl
 exact ⟨by have := h.len; omega, fun z hz => (h.all z hz).mono (by omega)⟩
theorem WSm.app {n : Nat} {w : List Zn} {z : Zn} (h : WSm n w) (hz : z.In 2000) : WSm (n + 1) (w ++ [z]) := by
 refine ⟨by have := h.len; simp; omega, fun x hx => ?_⟩
 rcases List.mem_append.1 hx with hx | hx
 ·exact h.all x hx
 ·rw [List.mem_singleton.1 hx]; exact hz
theorem app_w {w : List Zn} {z : Zn} (h : w.length ≤ 1000) : appOk 48 (w.map Zn.d) [z.d] = true := app1 (xs := w) (g := Zn.d) (by omega) (by decide)
theorem set_w {w : List Zn} {z : Zn} : (wdD w).setFld 0 (D.lst (((wdD w).fld 0).l ++ [z.d])) = wdD (w ++ [z]) := by
 show D.pair (D.lst (w.map Zn.d ++ [z.d])) .unit = _
 simp [wdD]
end Go.Proofs.YtbacjgkmkkphdaaGreatDoor
namespace Go.Proofs.YtbacjgkmkkphdaaGreatDoor
open Go Go.Own
def AddP (n : Nat) (d : D) : Prop := ∃ (w : List Zn) (b : Bool), d = .pair (wdD w) (.pair (.bool b) .unit) ∧ WSm n w ∧ (b = true → 0 < w.length)
theorem d_addZone {n : Nat} (hn : n ≤ 900) {w : List Zn} (hw : WSm n w) {z : Zn} (hz : z.In 2000) : Tot (e_spec_AddZone.F [wdD w, z.d]) (AddP (n + 1)) := by
 rw [q_spec_AddZone]
 have hlim : lim = 1048576 := rfl
 have hzl : z.In lim := hz.mono (by omega)
 have hwn := hw.len
 have hnone : ResP (AddP (n + 1)) (0, [.pair (.pair (D.lst []) .unit) (.pair (.bool false) .unit)]) := ⟨_, rfl, [], false, rfl, ⟨by simp, by simp⟩, by simp⟩
 have hown : ∀ {x : Zn}, x.In 2000 → e_spec_l6Own.F [x.d] = some x.d := fun hx => f_l6Own (by have := hx.len; omega)
 refine tot_rn (ok_bind (P := fun r => ∃ b : Bool, r = (0, [.bool b])) (ok_call (f_specGoodWorld (hw.lim (by omega))) (ok_if (fun _ => ok_ou ⟨_, rfl⟩) (fun _ => ok_call (f_specGoodZone hzl) (ok_ou ⟨_, rfl⟩)))) ?_)
 rintro _ ⟨b, rfl⟩
 refine ok_sel0 (ok_if (fun _ => ok_ou hnone) (fun _ => ?_))
 refine ok_bind (P := fun r => (∃ b : Bool, r = (0, [wdD [], .bool false])) ∨ ∃ (o : List Zn) (p : Bool), r = (1, [wdD o, .bool p]) ∧ (∀ x ∈ o, x.In 2000) ∧ o.length = w.length + p.toNat) (ok_up w.length (fun i l => ∃ (o : List Zn) (p : Bool), l = [wdD o, .bool p, .int (i : Int)] ∧ (∀ x ∈ o, x.In 2000) ∧ o.length = i + p.toNat) ⟨[], false, rfl, by simp, rfl⟩ ?_ ?_) ?_
 ·rintro i _ hi ⟨o, p, rfl, ho, hol⟩
  have hp1 : p.toNat ≤ 1 := by cases p <;> decide
  have hxi := hw.all _ (List.getElem_mem hi)
  have hg : gd (w.map Zn.d) i = w[i].d := gd_map hi
  have f0 : ((wdD w).fld 0).l = w.map Zn.d := rfl
  have e2 : (gd [wdD o, D.bool p, D.int (i : Int)] 2).i.toNat = i := by simp [gd]
  have e3 : (gd [wdD o, D.bool p, D.int (i : Int)] 2).i = (i : Int) := rfl
  simp only [f0, e3, Int.toNat_natCast, hg]
  obtain ⟨m, hm, _⟩ := f_l1Compare (a := z.apex) (b := w[i].apex) hzl.apex (hxi.mono (by omega)).apex
  refine ok_ifT (decide_eq_true (by simpa using hi)) (ok_ifT (inb_nat (by simpa using hi)) (ok_bind (P := fun r => r = (1, [wdD [], .bool false]) ∨ ∃ (o : List Zn) (p : Bool), r = (0, [wdD o, .bool p]) ∧ (∀ x ∈ o, x.In 2000) ∧ o.length = i + p.toNat) (ok_call (d := .int m) hm (ok_if (fun _ => ok_ou (.inl rfl)) (fun _ => ok_bind (P := fun r => ∃ q : Bool, r = (0, [.bool q]) ∧ (q = true → p = false)) (ok_if (fun _ => ok_ou ⟨_, rfl, ?_⟩) (fun _ => ok_ou ⟨_, rfl, by simp⟩)) ?_))) ?_))
  ·intro h
   have h' : (!p) = true := h
   simpa using h'
  ·rintro _ ⟨q, rfl, hq⟩
   refine ok_sel0 (ok_if (fun h => ?_) (fun _ => ok_ou (.inr ⟨o, p, rfl, ho, hol⟩)))
   have hpf := hq h
   subst hpf
   refine ok_call (hown hz) (ok_ifT (app_w (w := o) (z := z) (by omega)) (ok_ou (.inr ⟨o ++ [z], true, ?_, ?_, ?_⟩)))
   ·show (0, [(wdD o).setFld 0 (D.lst (((wdD o).fld 0).l ++ [z.d])), D.bool true]) = _
    rw [set_w]
   ·intro x hx
    rcases List.mem_append.1 hx with hx | hx
    ·exact ho x hx
    ·rw [List.mem_singleton.1 hx]; exact hz
   ·simp at hol ⊢; omega
  ·rintro _ (rfl | ⟨o, p, rfl, ho, hol⟩)
   ·exact ok_ou (.inr ⟨0, rfl, .inl ⟨true, rfl⟩⟩)
   ·have hp1 : p.toNat ≤ 1 := by cases p <;> decide
    refine ok_sel0 (ok_call (hown hxi) (ok_ifT (app_w (w := o) (z := w[i]) (by omega)) (ok_ou (.inl ⟨rfl, o ++ [w[i]], p, ?_, ?_, ?_⟩))))
    ·show [(wdD o).setFld 0 (D.lst (((wdD o).fld 0).l ++ [w[i].d])), D.bool p, D.int (IntKind.wrap .i64 ((i : Int) + 1))] = _
     rw [set_w, wrap1 (by omega)]
    ·intro x hx
     rcases List.mem_append.1 hx with hx | hx
     ·exact ho x hx
     ·rw [List.mem_singleton.1 hx]; exact hxi
    ·simp; omega
 ·rintro _ ⟨o, p, rfl, ho, hol⟩
  refine ok_if (fun h => ?_) (fun h => ok_ou ⟨1, rfl, .inr ⟨o, p, rfl, ho, hol⟩⟩)
  have h2 : ((w.length : Nat) : Int) < (((w.map Zn.d).length : Nat) : Int) := of_decide_eq_true h
  simp at h2
 ·rintro _ (⟨b, rfl⟩ | ⟨o, p, rfl, ho, hol⟩)
  ·exact ok_sel0 (ok_ou hnone)
  ·show OKo (((if (!p) = true then _ else _ : Outc)).bind _) _
   refine ok_bind (P := fun r => ∃ o : List Zn, r = (0, [wdD o]) ∧ WSm (n + 1) o) (ok_if (fun h => ?_) (fun h => ok_ou ⟨o, rfl, ?_, ho⟩)) ?_
   ·have hpf : p = false := by simpa using h
    subst hpf
    refine ok_call (hown hz) (ok_ifT (app_w (w := o) (z := z) (by simp at hol; omega)) (ok_ou ⟨o ++ [z], ?_, ?_, ?_⟩))
    ·show (0, [(wdD o).setFld 0 (D.lst (((wdD o).fld 0).l ++ [z.d]))]) = _
     rw [set_w]
    ·simp at hol ⊢; omega
    ·intro x hx
     rcases List.mem_append.1 hx with hx | hx
     ·exact ho x hx
     ·rw [List.mem_singleton.1 hx]; exact hz
   ·have hp1 : p.toNat ≤ 1 := by cases p <;> decide
    omega
   ·rintro _ ⟨o, rfl, hos⟩
    refine ok_sel0 (ok_call (f_specGoodWorld (hos.lim (by omega))) (ok_if (fun _ => ok_ou hnone) (fun hgw => ok_ou ⟨_, rfl, o, true, rfl, hos, fun _ => ?_⟩)))
    have hg : wGood o = true := by simpa using hgw
    exact (wGood_of hg).pos
variable {bs : List D} {k : Nat} {c : D}
theorem d_root {s t u : List UInt8} (hs : s.length ≤ 150) (ht : t.length ≤ 150) (hu : u.length ≤ 150) : Tot (e_spec_l11Delegates.F [.str t, .str u]) (fun d => ∃ l : List (Int × Rec), d = .lst (l.map chgD) ∧ l.length ≤ 1 ∧ ∀ p ∈ l, p.2.In 150) := by
 rw [q_spec_l11Delegates]
 refine tot_rn (ok_ou ⟨_, rfl, [(1, ⟨t, 2, 60, u⟩)], rfl, by simp, fun p hp => ?_⟩)
 rw [List.mem_singleton.1 hp]
 exact ⟨ht, hu⟩
def CP (bs : List D) (m : Nat) (P : D → Prop) (r : Nat × List D) : Prop := ∃ c' x, r = (0, [c', x]) ∧ Cu bs m c' ∧ P x
def WdB (n : Nat) (d : D) : Prop := ∃ w : List Zn, d = wdD w ∧ WSm n w ∧ 0 < w.length
theorem d_world (hb : Bytes bs) (hc : Cu bs k c) (hk : k ≤ 300000) : Tot (e_spec_l1Cur_world.F [c]) (Dr bs (k + 40000) (fun d => ∃ w : List Zn, d = wdD w ∧ WSm 10 w)) := by
 rw [q_spec_l1Cur_world]
 refine tot_rn (ok_tot (d_newZone (s := []) (by simp)) ?_)
 rintro _ ⟨z0, b0, rfl, hz0, _⟩
 have hz0' : z0.In 1000 := hz0.mono (by decide)
 refine ok_bind (P := CP bs (k + 2) (ZnB 1000)) (ok_tot (d_root (s := []) (by simp) (by decide) (by decide)) ?_) ?_
 ·rintro _ ⟨l, rfl, hl, hlx⟩
  refine ok_tot (d_apply hz0' (by omega) (fun p hp => (hlx p hp).mono (by decide))) ?_
  rintro _ ⟨z1, n1, rfl, hz1⟩
  refine ok_bind (P := CP bs (k + 2) BoolD) (ok_if (fun _ => ok_tot (d_one hb hc (by omega) 12) ?_) (fun _ => ok_ou ⟨_, _, rfl, hc.mono (by omega), _, rfl⟩)) ?_
  ·rintro _ ⟨_, c1, rfl, ⟨b, rfl⟩, hc1⟩
   exact ok_ou ⟨_, _, rfl, hc1, _, rfl⟩
  ·rintro _ ⟨c1, _, rfl, hc1, ⟨b, rfl⟩⟩
   exact ok_sel0 (ok_if (fun _ => ok_ou ⟨_, _, rfl, hc1, z1, rfl, hz1⟩) (fun _ => ok_ou ⟨_, _, rfl, hc1, z0, rfl, hz0'⟩))
 rintro _ ⟨c1, _, rfl, hc1, zr, rfl, hzr⟩
 refine ok_sel0 (ok_tot (d_newZone (s := [99, 111, 109]) (by decide)) ?_)
 rintro _ ⟨z2, b2, rfl, hz2, _⟩
 have hz2' : z2.In 1000 := hz2.mono (by decide)
 refine ok_bind (P := CP bs (k + 4) (ZnB 1000)) (ok_tot (d_root (s := []) (by simp) (by decide) (by decide)) ?_) ?_
 ·rintro _ ⟨l, rfl, hl, hlx⟩
  refine ok_tot (d_apply hz2' (by omega) (fun p hp => (hlx p hp).mono (by decide))) ?_
  rintro _ ⟨z1, n1, rfl, hz1⟩
  refine ok_bind (P := CP bs (k + 4) BoolD) (ok_if (fun _ => ok_tot (d_one hb hc1 (by omega) 8) ?_) (fun _ => ok_ou ⟨_, _, rfl, hc1.mono (by omega), _, rfl⟩)) ?_
  ·rintro _ ⟨_, c1, rfl, ⟨b, rfl⟩, hc1⟩
   exact ok_ou ⟨_, _, rfl, hc1, _, rfl⟩
  ·rintro _ ⟨c1, _, rfl, hc1, ⟨b, rfl⟩⟩
   exact ok_sel0 (ok_if (fun _ => ok_ou ⟨_, _, rfl, hc1, z1, rfl, hz1⟩) (fun _ => ok_ou ⟨_, _, rfl, hc1, z2, rfl, hz2'⟩))
 rintro _ ⟨c2, _, rfl, hc2, zc, rfl, hzc⟩
 have hw1 : WSm 1 [zr] := ⟨by simp, fun z hz => by rw [List.mem_singleton.1 hz]; exact hzr.mono (by decide)⟩
 refine ok_sel0 (ok_bind (P := CP bs (k + 6) (WdB 2)) (ok_tot (d_addZone (n := 1) (by decide) hw1 (hzc.mono (by decide))) ?_) ?_)
 ·rintro _ ⟨w2, b, rfl, hw2, hb2⟩
  refine ok_bind (P := fun r => ∃ (c' : D) (q : Bool), r = (0, [c', .bool q]) ∧ Cu bs (k + 6) c' ∧ (q = true → 0 < w2.length)) (ok_if (fun hbt => ok_tot (d_one hb hc2 (by omega) 12) ?_) (fun _ => ok_ou ⟨_, _, rfl, hc2.mono (by omega), by simp⟩)) ?_
  ·rintro _ ⟨_, c1, rfl, ⟨b, rfl⟩, hc1⟩
   exact ok_ou ⟨_, _, rfl, hc1, fun _ => hb2 hbt⟩
  ·rintro _ ⟨c1, q, rfl, hc1, hq⟩
   exact ok_sel0 (ok_if (fun h => ok_ou ⟨_, _, rfl, hc1, w2, rfl, hw2, hq h⟩) (fun _ => ok_ou ⟨_, _, rfl, hc1, [zr], rfl, ⟨by simp, hw1.all⟩, by simp⟩))
 rintro _ ⟨c3, _, rfl, hc3, w, rfl, hw, hwp⟩
 refine ok_sel0 (ok_tot (d_zone hb hc3 (by omega)) ?_)
 rintro _ ⟨_, c4, rfl, ⟨z4, rfl, hz4⟩, hc4⟩
 refine ok_bind (P := fun r => ∃ d, r = (0, [d]) ∧ WdB 3 d) (ok_tot (d_addZone (n := 2) (by decide) hw hz4) ?_) ?_
 ·rintro _ ⟨w2, b, rfl, hw2, hb2⟩
  exact ok_if (fun h => ok_ou ⟨_, rfl, w2, rfl, hw2, hb2 h⟩) (fun _ => ok_ou ⟨_, rfl, w, rfl, ⟨by have := hw.len; omega, hw.all⟩, hwp⟩)
 rintro _ ⟨_, rfl, w3, rfl, hw3, hwp3⟩
 refine ok_sel0 (ok_tot (d_newZone (s := [115, 117, 98, 46, 101, 120, 46, 99, 111, 109]) (by decide)) ?_)
 rintro _ ⟨z5, b5, rfl, hz5, _⟩
 refine ok_bind (P := CP bs (k + 30010) (WdB 4)) (ok_tot (d_addZone (n := 3) (by decide) hw3 (hz5.mono (by decide))) ?_) ?_
 ·rintro _ ⟨w2, b, rfl, hw2, hb2⟩
  refine ok_bind (P := fun r => ∃ (c' : D) (q : Bool), r = (0, [c', .bool q]) ∧ Cu bs (k + 30010) c' ∧ (q = true → 0 < w2.length)) (ok_if (fun hbt => ok_tot (d_one hb hc4 (by omega) 2) ?_) (fun _ => ok_ou ⟨_, _, rfl, hc4.mono (by omega), by simp⟩)) ?_
  ·rintro _ ⟨_, c1, rfl, ⟨b, rfl⟩, hc1⟩
   exact ok_ou ⟨_, _, rfl, hc1.mono (by omega), fun _ => hb2 hbt⟩
  ·rintro _ ⟨c1, q, rfl, hc1, hq⟩
   exact ok_sel0 (ok_if (fun h => ok_ou ⟨_, _, rfl, hc1, w2, rfl, hw2, hq h⟩) (fun _ => ok_ou ⟨_, _, rfl, hc1, w3, rfl, ⟨by have := hw3.len; omega, hw3.all⟩, hwp3⟩))
 rintro _ ⟨c5, _, rfl, hc5, w, rfl, hw, hwp⟩
 refine ok_sel0 (ok_bind (P := CP bs (k + 40000) (fun d => ∃ w : List Zn, d = wdD w ∧ WSm 10 w)) (ok_tot (d_one hb hc5 (by omega) 30) ?_) ?_)
 ·rintro _ ⟨_, c6, rfl, ⟨b, rfl⟩, hc6⟩
  refine ok_if (fun _ => ?_) (fun _ => ok_ou ⟨_, _, rfl, hc6.mono (by omega), w, rfl, ⟨by have := hw.len; omega, hw.all⟩⟩)
  have hs : slOk 1 (((w.map Zn.d).length : Nat) : Int) (((w.map Zn.d).length : Nat) : Int) = true := by simp [slOk]; omega
  have hwo : winOk 1 (((((w.map Zn.d).length : Nat) : Int).toNat - 1 : Nat) : Int).toNat (w.map Zn.d) = true := by simp [winOk]; omega
  refine ok_ifT hs (ok_ifT hwo (ok_ou ⟨_, _, rfl, hc6.mono (by omega), (w.drop 1).take (((((w.map Zn.d).length : Nat) : Int).toNat - 1 : Nat) : Int).toNat, ?_, ?_, ?_⟩))
  ·show D.pair (D.lst (((w.map Zn.d).drop 1).take (((((w.map Zn.d).length : Nat) : Int).toNat - 1 : Nat) : Int).toNat)) .unit = _
   unfold wdD
   rw [List.map_take, List.map_drop]
  ·have := hw.len
   rw [List.length_take, List.length_drop]; omega
  ·intro z hz
   exact hw.all z (List.mem_of_mem_drop (List.mem_of_mem_take hz))
 ·rintro _ ⟨c6, _, rfl, hc6, hx⟩
  exact ok_sel0 (ok_ou ⟨_, rfl, _, _, rfl, hx, hc6⟩)
end Go.Proofs.YtbacjgkmkkphdaaGreatDoor
