/- What the functions compute, in plain words. -/
import Derived.Test.YtbacjgkmkkphdaaGreatDoorP7
set_option linter.unusedSectionVars false
set_option linter.unusedVariables false
set_option linter.unusedSimpArgs false
namespace Go.Proofs.YtbacjgkmkkphdaaGreatDoor
open Go Go.Own
def cnt (s : List UInt8) : Nat := (parts s).length
theorem splB_parent : ∀ {s : List UInt8}, 46 ∈ s → (splB 46 s).length = (splB 46 (parent s)).length + 1 := by
 intro s h
 obtain ⟨p, q, rfl, hp⟩ := List.eq_append_cons_of_mem h
 rw [parent_cut hp, splB_cut hp]; simp
theorem cnt_parent {s : List UInt8} (h : s ≠ []) : cnt (parent s) < cnt s := by
 have hs : cnt s = (splB 46 s).length := by unfold cnt parts; rw [if_neg (by simpa using h)]
 have hpos : 0 < (splB 46 s).length := List.length_pos_iff.2 (splB_ne 46 s)
 by_cases hd : 46 ∈ s
 ·have := splB_parent hd
  have hp : cnt (parent s) ≤ (splB 46 (parent s)).length := by
   unfold cnt parts
   split
   ·simp
   ·exact Nat.le_refl _
  omega
 ·rw [parent_nodot hd]
  have : cnt [] = 0 := rfl
  omega
theorem up_cnt {a b : List UInt8} (h : Up a b) : a = b ∨ cnt b < cnt a := by
 induction h with
 | refl a => exact .inl rfl
 | step h1 _ ih =>
   have := cnt_parent h1
   rcases ih with h | h
   ·rw [← h]; exact .inr this
   ·exact .inr (by omega)
theorem up_linear {s x y : List UInt8} (h : Up s x) (h2 : Up s y) : Up x y ∨ Up y x := by
 induction h with
 | refl a => exact .inl h2
 | @step a b h1 h3 ih =>
   cases h2 with
   | refl _ => exact .inr (.step h1 h3)
   | step _ h4 => exact ih h4
theorem up_of_cnt {s x y : List UInt8} (h : Up s x) (h2 : Up s y) (hc : cnt y ≤ cnt x) : Up x y := by
 rcases up_linear h h2 with h3 | h3
 ·exact h3
 ·rcases up_cnt h3 with h4 | h4
  ·rw [h4]; exact .refl _
  ·omega
theorem f_countLabels {s : List UInt8} (h : s.length ≤ lim) : e_impl_countLabels.F [.str s] = some (.int (cnt s)) := by
 have hlim : lim = 1048576 := rfl
 rw [q_impl_countLabels]
 refine rn_call (f_labelsOf s (by omega)) ?_
 simp [cnt, parts]
theorem f_l8Many {s : List UInt8} (h : s.length ≤ lim) (hn : isName s = true) : e_spec_l8Many.F [.str s] = some (.int (cnt s)) := by
 rw [q_spec_l8Many]
 obtain ⟨ls, h1, _, h3⟩ := f_l1LabelsX s h
 refine rn_call h1 ?_
 rw [h3 hn]
 simp [cnt, D.fld]
def bestZ (w : List Zn) (s : List UInt8) : Nat → Nat
 | 0 => 0
 | i + 1 => if bel s (w.getD i Zn.nul).apex = true ∧ cnt (w.getD (bestZ w s i) Zn.nul).apex < cnt (w.getD i Zn.nul).apex then i else bestZ w s i
theorem bestZ_is {w : List Zn} {s : List UInt8} (hg : WGood w) : ∀ i, i ≤ w.length → bestZ w s i < w.length ∧ Up s (w.getD (bestZ w s i) Zn.nul).apex ∧ ∀ j, j < i → Up s (w.getD j Zn.nul).apex → cnt (w.getD j Zn.nul).apex ≤ cnt (w.getD (bestZ w s i) Zn.nul).apex
 | 0, _ => ⟨hg.pos, by unfold bestZ; rw [hg.root]; exact up_nil _ _ (Nat.le_refl _), fun j hj => by omega⟩
 | i + 1, hi => by
   obtain ⟨h1, h2, h3⟩ := bestZ_is (s := s) hg i (by omega)
   unfold bestZ
   by_cases hc : bel s (w.getD i Zn.nul).apex = true ∧ cnt (w.getD (bestZ w s i) Zn.nul).apex < cnt (w.getD i Zn.nul).apex
   ·rw [if_pos hc]
    refine ⟨by omega, bel_iff.1 hc.1, fun j hj hu => ?_⟩
    by_cases hj2 : j = i
    ·subst hj2; exact Nat.le_refl _
    ·have := h3 j (by omega) hu; omega
   ·rw [if_neg hc]
    refine ⟨h1, h2, fun j hj hu => ?_⟩
    by_cases hj2 : j = i
    ·subst hj2
     have h4 : ¬ (cnt (w.getD (bestZ w s j) Zn.nul).apex < cnt (w.getD j Zn.nul).apex) := fun h => hc ⟨bel_iff.2 hu, h⟩
     omega
    ·exact h3 j (by omega) hu
theorem f_ZoneFor {w : List Zn} {s : List UInt8} (hw : WIn lim w) (hs : s.length ≤ lim) : ∃ n : Nat, e_impl_ZoneFor.F [wdD w, .str s] = some (.pair (.int (n : Int)) (.pair (.bool (wGood w && isName s)) .unit)) ∧ e_spec_ZoneFor.F [wdD w, .str s] = some (.pair (.int (n : Int)) (.pair (.bool (wGood w && isName s)) .unit)) ∧
 ((wGood w && isName s) = true → ∃ hn : n < w.length, Up s w[n].apex ∧ ∀ z ∈ w, Up s z.apex → Up w[n].apex z.apex) := by
 have hI := f_GoodWorld hw
 have hS := f_specGoodWorld hw
 have hN := f_GoodName s
 have hNS := f_specGoodName s hs
 have hlim : lim = 1048576 := rfl
 rw [q_impl_ZoneFor, q_spec_ZoneFor]
 cases hgw : wGood w with
 | false =>
   rw [hgw] at hI hS
   exact ⟨0, rn_bind0 (l := [.bool true]) (out_call hI (out_if rfl rfl)) (rn_if rfl rfl), rn_bind0 (l := [.bool true]) (out_call hS (out_if rfl rfl)) (rn_if rfl rfl), by simp⟩
 | true =>
   rw [hgw] at hI hS
   cases hn : isName s with
   | false =>
     rw [hn] at hN hNS
     exact ⟨0, rn_bind0 (l := [.bool true]) (out_call hI (out_else (by simp) (out_call hN rfl))) (rn_if rfl rfl), rn_bind0 (l := [.bool true]) (out_call hS (out_else (by simp) (out_call hNS rfl))) (rn_if rfl rfl), by simp⟩
   | true =>
     rw [hn] at hN hNS
     have hg := wGood_of hgw
     have wl : ((wdD w).fld 0).l = w.map Zn.d := rfl
     have h6 := hg.six
     obtain ⟨b1, b2, b3⟩ := bestZ_is (s := s) hg w.length (Nat.le_refl _)
     refine ⟨bestZ w s w.length, ?_, ?_, ?_⟩
     ·rw [wl]
      refine rn_bind0 (l := [.bool false]) (out_call hI (out_else (by simp) (out_call hN rfl))) (rn_else (by simp) ?_)
      refine rn_bind0 (l := [.int (bestZ w s w.length : Nat)]) (loop_for' (fun i (b : Nat) => [.int (b : Int), .int (i : Int)]) w.length (fun i => bestZ w s i) (t := 0) rfl ?_ (by exact out_else (by simp) rfl)) rfl
      intro i hi
      obtain ⟨k1, _, _⟩ := bestZ_is (s := s) hg i (by omega)
      have e0 : (gd [D.int (bestZ w s i : Nat), D.int (i : Int)] 0).i = (bestZ w s i : Nat) := rfl
      have e1 : (gd [D.int (bestZ w s i : Nat), D.int (i : Int)] 1).i = (i : Int) := rfl
      have a0 : ∀ z : Zn, z.d.fld 0 = .str z.apex := fun _ => rfl
      simp only [e0, e1, Int.toNat_natCast, gd_zn hi, gd_zn k1, a0]
      have zi := hw.all _ (List.getElem_mem hi)
      have zk := hw.all _ (List.getElem_mem k1)
      have nxt : bestZ w s (i + 1) = if bel s w[i].apex = true ∧ cnt w[bestZ w s i].apex < cnt w[i].apex then i else bestZ w s i := by
       rw [bestZ, getD_lt hi, getD_lt k1]
      refine out_if (by simpa using hi) (out_bind0 (l := [.int (bestZ w s (i + 1) : Nat)]) (out_if (inb_nat (by simpa using hi)) ?_) ?_)
      ·rw [nxt]
       cases hb : bel s w[i].apex with
       | false =>
         refine out_bind0 (l := [.bool false]) (out_call (f_isBelow hs zi.apex) (out_else (by simp [hb]) rfl)) (out_else (by simp) (by simp))
       | true =>
         refine out_bind0 (l := [.bool (decide (cnt w[bestZ w s i].apex < cnt w[i].apex))]) (out_call (f_isBelow hs zi.apex) (out_if (by simp [hb]) (out_call (f_countLabels zi.apex) (out_if (inb_nat (by simpa using k1)) (out_call (f_countLabels zk.apex) ?_))))) ?_
         ·show some (0, [D.bool (decide ((cnt w[i].apex : Int) > (cnt w[bestZ w s i].apex : Int)))]) = _
          simp
         ·by_cases h : cnt w[bestZ w s i].apex < cnt w[i].apex
          ·exact out_if (decide_eq_true h) (by simp [h])
          ·exact out_else (by simp [h]) (by simp [h])
      ·show some (0, [D.int (bestZ w s (i + 1) : Nat), D.int (IntKind.wrap .i64 ((i : Int) + 1))]) = _
       rw [wrap1 (by omega)]
     ·rw [wl]
      refine rn_bind0 (l := [.bool false]) (out_call hS (out_else (by simp) (out_call hNS rfl))) (rn_else (by simp) ?_)
      refine rn_bind0 (l := [.int (bestZ w s w.length : Nat)]) (loop_for' (fun i (b : Nat) => [.int (b : Int), .int (i : Int)]) w.length (fun i => bestZ w s i) (t := 0) rfl ?_ (by exact out_else (by simp) rfl)) rfl
      intro i hi
      obtain ⟨k1, _, _⟩ := bestZ_is (s := s) hg i (by omega)
      have e0 : (gd [D.int (bestZ w s i : Nat), D.int (i : Int)] 0).i = (bestZ w s i : Nat) := rfl
      have e1 : (gd [D.int (bestZ w s i : Nat), D.int (i : Int)] 1).i = (i : Int) := rfl
      have a0 : ∀ z : Zn, z.d.fld 0 = .str z.apex := fun _ => rfl
      simp only [e0, e1, Int.toNat_natCast, gd_zn hi, gd_zn k1, a0]
      have zi := hw.all _ (List.getElem_mem hi)
      have zk := hw.all _ (List.getElem_mem k1)
      have ni := Zn.good_name (hg.good _ (List.getElem_mem hi))
      have nk := Zn.good_name (hg.good _ (List.getElem_mem k1))
      have nxt : bestZ w s (i + 1) = if bel s w[i].apex = true ∧ cnt w[bestZ w s i].apex < cnt w[i].apex then i else bestZ w s i := by
       rw [bestZ, getD_lt hi, getD_lt k1]
      refine out_if (by simpa using hi) (out_bind0 (l := [.int (bestZ w s (i + 1) : Nat)]) (out_if (inb_nat (by simpa using hi)) ?_) ?_)
      ·rw [nxt]
       cases hb : bel s w[i].apex with
       | false =>
         refine out_bind0 (l := [.bool false]) (out_call (f_l1Below hs zi.apex) (out_else (by simp [hb]) rfl)) (out_else (by simp) (by simp))
       | true =>
         refine out_bind0 (l := [.bool (decide (cnt w[bestZ w s i].apex < cnt w[i].apex))]) (out_call (f_l1Below hs zi.apex) (out_if (by simp [hb]) (out_call (f_l8Many zi.apex ni) (out_if (inb_nat (by simpa using k1)) (out_call (f_l8Many zk.apex nk) ?_))))) ?_
         ·show some (0, [D.bool (decide ((cnt w[i].apex : Int) > (cnt w[bestZ w s i].apex : Int)))]) = _
          simp
         ·by_cases h : cnt w[bestZ w s i].apex < cnt w[i].apex
          ·exact out_if (decide_eq_true h) (by simp [h])
          ·exact out_else (by simp [h]) (by simp [h])
      ·show some (0, [D.int (bestZ w s (i + 1) : Nat), D.int (IntKind.wrap .i64 ((i : Int) + 1))]) = _
       rw [wrap1 (by omega)]
     ·intro _
      rw [getD_lt b1] at b2
      refine ⟨b1, b2, fun z hz hu => ?_⟩
      obtain ⟨j, hj, rfl⟩ := List.getElem_of_mem hz
      have := b3 j hj (by rw [getD_lt hj]; exact hu)
      rw [getD_lt hj, getD_lt b1] at this
      exact up_of_cnt b2 hu this
theorem f_IsBelow {a b : List UInt8} (ha : a.length ≤ lim) (hb : b.length ≤ lim) (na : isName a = true) (nb : isName b = true) (hu : Up a b) : e_impl_IsBelow.F [.str a, .str b] = some (.pair (.bool true) (.pair (.bool true) .unit)) := by
 have h1 := f_GoodName a
 have h2 := f_GoodName b
 have h3 := f_isBelow ha hb
 rw [na] at h1; rw [nb] at h2; rw [bel_iff.2 hu] at h3
 rw [q_impl_IsBelow]
 exact rn_bind0 (l := [.bool false]) (out_call h1 (out_else (by simp) (out_call h2 rfl))) (rn_else (by simp) (rn_call h3 rfl))
theorem f_sameTexts {ls : List (List UInt8)} (hl : ls.length ≤ 2 * lim) : e_laws_sameTexts.F [.lst (ls.map .str), .lst (ls.map .str)] = some (.bool true) := by
 have hlim : lim = 1048576 := rfl
 rw [q_laws_sameTexts]
 refine rn_else (by simp) ?_
 refine rn_bind (r := (1, [])) (loop_for' (fun i (_ : Unit) => [.int (i : Int)]) ls.length (fun _ => ()) rfl ?_ (by exact out_else (by simp) rfl)) rfl
 intro i hi
 have e0 : (gd [D.int (i : Int)] 0).i.toNat = i := by simp
 rw [e0, D.l_lst]
 refine out_if (by simpa using hi) (out_if (inb_nat (by simpa using hi)) (out_if (inb_nat (by simpa using hi)) (out_else (by simp) ?_)))
 show some (0, [D.int (IntKind.wrap .i64 ((i : Int) + 1))]) = _
 rw [wrap_succ hi (by rw [smax_eq]; omega)]
theorem d_drawZoneFor {bs : List D} (hb : Bytes bs) : ∃ (w : List Zn) (s : List UInt8), e_spec_DrawZoneFor.F [.lst bs] = some (.pair (wdD w) (.pair (.str s) .unit)) ∧ WSm 10 w ∧ s.length ≤ 100 := by
 rw [q_spec_DrawZoneFor]
 have hc : Cu bs 0 (.pair (.lst bs) (.pair (.int 0) (.pair (.int 0) .unit))) := ⟨0, 0, rfl, by omega⟩
 obtain ⟨_, h1, _, c1, rfl, ⟨w, rfl, hw⟩, hc1⟩ := d_world hb hc (by omega)
 obtain ⟨_, h2, _, c2, rfl, ⟨s, rfl, hs⟩, hc2⟩ := d_asked hb hc1 (by omega)
 exact ⟨w, s, rn_call h1 (rn_call h2 rfl), hw, hs⟩
theorem d_drawReachedBy {bs : List D} (hb : Bytes bs) : ∃ (w : List Zn) (s : List UInt8), e_spec_DrawReachedBy.F [.lst bs] = some (.pair (wdD w) (.pair (.str s) .unit)) ∧ WSm 10 w ∧ s.length ≤ 100 := by
 obtain ⟨w, s, h, hw, hs⟩ := d_drawZoneFor hb
 rw [q_spec_DrawReachedBy]
 exact ⟨w, s, rn_call h rfl, hw, hs⟩
theorem d_drawIsDelegated {bs : List D} (hb : Bytes bs) : ∃ (w : List Zn) (s : List UInt8), e_spec_DrawIsDelegated.F [.lst bs] = some (.pair (wdD w) (.pair (.str s) .unit)) ∧ WSm 10 w ∧ s.length ≤ 100 := by
 rw [q_spec_DrawIsDelegated]
 have hc : Cu bs 0 (.pair (.lst bs) (.pair (.int 0) (.pair (.int 0) .unit))) := ⟨0, 0, rfl, by omega⟩
 obtain ⟨_, h1, _, c1, rfl, ⟨w, rfl, hw⟩, hc1⟩ := d_world hb hc (by omega)
 obtain ⟨_, h2, _, c2, rfl, ⟨s, rfl, hs⟩, hc2⟩ := d_of (B := 100) hb hc1 (by omega) (xs := ((D.str []) :: ((D.str [99, 111, 109]) :: ((D.str [101, 120, 46, 99, 111, 109]) :: ((D.str [115, 117, 98, 46, 101, 120, 46, 99, 111, 109]) :: ((D.str [120]) :: ([] : List D))))))) rfl (by simp)
 exact ⟨w, s, rn_call h1 (rn_call h2 rfl), hw, hs⟩
theorem d_drawAddZone {bs : List D} (hb : Bytes bs) : ∃ (w : List Zn) (z : Zn), e_spec_DrawAddZone.F [.lst bs] = some (.pair (wdD w) (.pair z.d .unit)) ∧ WSm 10 w ∧ z.In 2000 := by
 rw [q_spec_DrawAddZone]
 have hc : Cu bs 0 (.pair (.lst bs) (.pair (.int 0) (.pair (.int 0) .unit))) := ⟨0, 0, rfl, by omega⟩
 obtain ⟨_, h1, _, c1, rfl, ⟨w, rfl, hw⟩, hc1⟩ := d_world hb hc (by omega)
 obtain ⟨_, h2, _, c2, rfl, ⟨z, rfl, hz⟩, hc2⟩ := d_zone hb hc1 (by omega)
 exact ⟨w, z, rn_call h1 (rn_call h2 rfl), hw, hz⟩
theorem law_FnReached {a b : D} (ha : Sm smax (.lst false (.int .u8)) a) (hb : Sm smax (.lst false (.int .u8)) b) : e_laws_FnReached.F [a, b] = some (.bool true) := by
 obtain ⟨bs, rfl, hbs⟩ := bytes_ofD ha
 obtain ⟨cs, rfl, hcs⟩ := bytes_ofD hb
 have hlim : lim = 1048576 := rfl
 rw [q_laws_FnReached]
 by_cases hl : decide ((IntKind.wrap .i64 (((D.lst bs).l.length : Int) + ((D.lst cs).l.length : Int))) > 1048576) = true
 ·exact rn_if hl rfl
 refine rn_else hl ?_
 obtain ⟨w, s, h1, hws, hs⟩ := d_drawReachedBy hbs
 have hw : WIn lim w := hws.lim (by omega)
 have hsl : s.length ≤ lim := by omega
 obtain ⟨out, ok, hol, hok, hch, hRI, hRS⟩ := f_ReachedBy hw hsl
 obtain ⟨n, hZI, hZS, hzf⟩ := f_ZoneFor hw hsl
 rw [← hok] at hZI hZS hzf
 obtain ⟨w2, s2, h2, hws2, hs2⟩ := d_drawIsDelegated hcs
 obtain ⟨d1, d2, hDI, hDS⟩ := f_IsDelegated (hws2.lim (by omega)) (s := s2) (by omega)
 obtain ⟨w3, z3, h3, hws3, hz3⟩ := d_drawAddZone hcs
 obtain ⟨w', ok3, hw', hAI, hAS, hA1, hA2⟩ := f_AddZone (hws3.lim (by omega)) (z := z3) (hz3.mono (by omega))
 have P0 : ∀ x y : D, (D.pair x (.pair y .unit)).fld 0 = x := fun _ _ => rfl
 have P1 : ∀ x y : D, (D.pair x (.pair y .unit)).fld 1 = y := fun _ _ => rfl
 have wl : ((wdD w).fld 0).l = w.map Zn.d := rfl
 refine rn_call h1 ?_
 rw [P0, P1]
 refine rn_call hRI (rn_call hRS (rn_call hZI (rn_call hZS ?_)))
 simp only [P0, P1]
 refine rn_bind0 (l := [.bool false]) (out_else (by simp) (out_call (f_sameTexts hol) (out_else (by simp) (out_else (by simp) (by simp))))) (rn_else (by simp) ?_)
 refine rn_bind0 (l := []) ?_ ?_
 ·cases ok with
  | false => exact out_else (by simp) rfl
  | true =>
    obtain ⟨hne, hc⟩ := hch rfl
    obtain ⟨hn, hup, hall⟩ := hzf rfl
    have hgn : wGood w = true ∧ isName s = true := by
     have := hok.symm
     simpa using this
    have hg := wGood_of hgn.1
    have hpos : 0 < out.length := List.length_pos_iff.2 hne
    have hel : ∀ i (hi : i < out.length), isName out[i] = true ∧ out[i].length ≤ lim := by
     intro i hi
     obtain ⟨⟨z, hz, he⟩, _⟩ := hc i hi
     rw [← he]
     exact ⟨Zn.good_name (hg.good z hz), (hw.all z hz).apex⟩
    have hgs : ∀ i (hi : i < out.length), gd (out.map D.str) i = .str out[i] := fun i hi => gd_map hi
    refine out_if rfl (out_bind1 (l := []) (loop_for' (fun i (_ : Unit) => [.int (i : Int)]) out.length (fun _ => ()) (t := 1) rfl ?_ (by exact out_else (by simp) rfl)) (sel0 ?_))
    ·intro i hi
     have e0 : (gd [D.int (i : Int)] 0).i = (i : Int) := rfl
     simp only [e0, Int.toNat_natCast, D.l_lst, hgs i hi]
     obtain ⟨_, hu, hpr⟩ := hc i hi
     refine out_if (by simpa using hi) (out_bind0 (l := []) (out_if (inb_nat (by simpa using hi)) (out_call (f_IsBelow hsl (hel i hi).2 hgn.2 (hel i hi).1 hu) (out_bind0 (l := [.bool false]) (out_else (by simp [D.fld]) (by simp [D.fld])) (out_else (by simp) ?_)))) ?_)
     ·by_cases h0 : 0 < i
      ·obtain ⟨hup2, hne2⟩ := hpr h0
       have hw1 : IntKind.wrap .i64 ((i : Int) - 1) = ((i - 1 : Nat) : Int) := by rw [wrap_id] <;> omega
       have hi1 : i - 1 < out.length := by omega
       simp only [hw1, Int.toNat_natCast, hgs (i - 1) hi1]
       refine out_if (decide_eq_true (by omega)) (out_if (inb_nat (by simpa using hi1)) (out_call (f_IsBelow (hel i hi).2 (hel (i - 1) hi1).2 (hel i hi).1 (hel (i - 1) hi1).1 hup2) (out_bind0 (l := [.bool false]) (out_else (by simp [D.fld]) (out_else (by simp [D.fld]) ?_)) (out_else (by simp) rfl))))
       simp [hne2]
      ·exact out_else (by simp; omega) rfl
     ·show some (0, [D.int (IntKind.wrap .i64 ((i : Int) + 1))]) = _
      rw [wrap_succ hi (by rw [smax_eq]; omega)]
    ·have hw1 : IntKind.wrap .i64 (((out.map D.str).length : Int) - 1) = ((out.length - 1 : Nat) : Int) := (last_out hne hol).1
     have hlt := (last_out hne hol).2
     obtain ⟨⟨z, hz, he⟩, hu, _⟩ := hc (out.length - 1) hlt
     have hun := hall z hz (by rw [he]; exact hu)
     rw [he] at hun
     have zn := hw.all _ (List.getElem_mem hn)
     have a0 : w[n].d.fld 0 = .str w[n].apex := rfl
     simp only [wl, D.i_int, D.l_lst, hw1, Int.toNat_natCast, hgs _ hlt, gd_zn hn, a0]
     exact out_if (inb_nat (by simpa using hn)) (out_if (inb_nat (by simpa using hlt)) (out_call (f_IsBelow zn.apex (hel _ hlt).2 (Zn.good_name (hg.good _ (List.getElem_mem hn))) (hel _ hlt).1 hun) (out_bind0 (l := [.bool false]) (out_else (by simp) (out_else (by simp [D.fld]) (by simp [D.fld]))) (out_else (by simp) rfl))))
 ·refine rn_call h2 ?_
  simp only [P0, P1]
  refine rn_call hDI (rn_call hDS (rn_call h3 ?_))
  simp only [P0, P1]
  refine rn_call hAI (rn_call hAS ?_)
  have A0 : (addR w' ok3).fld 0 = wdD w' := rfl
  have A1 : ((addR w' ok3).fld 1).b = ok3 := rfl
  have wl' : ((wdD w').fld 0).l = w'.map Zn.d := rfl
  have wl3 : ((wdD w3).fld 0).l = w3.map Zn.d := rfl
  simp only [A0, A1, wl', wl3]
  refine rn_bind0 (l := [.bool false]) (out_else (by simp) (out_else (by simp) (out_else (by simp) (by simp)))) (rn_else (by simp) ?_)
  refine rn_bind0 (l := [.bool true]) ?_ rfl
  cases ok3 with
  | false => exact out_if rfl rfl
  | true =>
    obtain ⟨hg3, hl3⟩ := hA1 rfl
    have hG := f_GoodWorld hw'
    rw [hg3] at hG
    have := hws3.len
    refine out_else (by simp) (out_call hG (out_if rfl ?_))
    rw [List.length_map, List.length_map, wrap1 (by omega), hl3]
    simp
end Go.Proofs.YtbacjgkmkkphdaaGreatDoor
