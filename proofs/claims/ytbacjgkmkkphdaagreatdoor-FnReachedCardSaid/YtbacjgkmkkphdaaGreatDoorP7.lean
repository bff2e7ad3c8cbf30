/- What the functions compute, in plain words. -/
import Derived.Test.YtbacjgkmkkphdaaGreatDoorP6
set_option linter.unusedSectionVars false
set_option linter.unusedVariables false
set_option linter.unusedSimpArgs false
namespace Go.Proofs.YtbacjgkmkkphdaaGreatDoor
open Go Go.Own
theorem rn_bind1 {o : Outc} {l : List D} {A : Nat × List D → Outc} {B : Nat × List D → Nat → Outc} {R : Option D} (h : o = some (1, l)) (hk : rn (B (1, l) 0) = R) : rn (o.bind fun o => sel2 o.1 (A o) (B o)) = R := by
 rw [h]; exact hk
theorem rn_sel0 {A : Outc} {B : Nat → Outc} {R : Option D} (hk : rn A = R) : rn (sel2 0 A B) = R := hk
theorem out_bind0 {o : Outc} {l : List D} {A : Nat × List D → Outc} {B : Nat × List D → Nat → Outc} {R : Option (Nat × List D)} (h : o = some (0, l)) (hk : A (0, l) = R) : (o.bind fun o => sel2 o.1 (A o) (B o)) = R := by
 rw [h]; exact hk
theorem out_bind1 {o : Outc} {l : List D} {A : Nat × List D → Outc} {B : Nat × List D → Nat → Outc} {R : Outc} (h : o = some (1, l)) (hk : B (1, l) 0 = R) : (o.bind fun o => sel2 o.1 (A o) (B o)) = R := by
 rw [h]; exact hk
end Go.Proofs.YtbacjgkmkkphdaaGreatDoor
namespace Go.Proofs.YtbacjgkmkkphdaaGreatDoor
open Go Go.Own
theorem lexC_swap {α : Type} {c : α → α → Int} (h : ∀ x y, c y x = - c x y) : ∀ a b : List α, lexC c b a = - lexC c a b
 | [], [] => rfl
 | [], _ :: _ => rfl
 | _ :: _, [] => rfl
 | x :: xs, y :: ys => by
   unfold lexC
   rw [h x y]
   by_cases h0 : c x y = 0
   ·rw [if_pos h0, if_pos (by omega)]; exact lexC_swap h xs ys
   ·rw [if_neg h0, if_neg (by omega)]
theorem cmpN_swap (a b : List UInt8) : cmpN b a = - cmpN a b := by
 refine lexC_swap (fun x y => ?_) _ _
 rw [compareBytes_lex, compareBytes_lex]
 refine lexC_swap (fun x y => ?_) _ _
 unfold intC
 repeat' split
 all_goals omega
theorem appOk_small {e : Nat} {l m : List D} (hl : l.length ≤ lim) (hm : m.length ≤ lim) (he : e ≤ 100) : appOk e l m = true := by
 have h2 : (lim : Nat) = 1048576 := rfl
 have : (l.length + m.length) * e ≤ (lim + lim) * 100 := Nat.mul_le_mul (by omega) he
 unfold appOk
 rw [Bool.and_eq_true, decide_eq_true_eq, decide_eq_true_eq, smax_eq]
 refine ⟨by omega, Nat.le_trans this ?_⟩
 rw [h2]; decide
theorem f_cloneRecs {xs : List D} (h : xs.length ≤ lim) : e_slices_Clone_impl_Record_impl_Record.F [.lst xs] = some (.lst xs) := by
 rw [q_slices_Clone_impl_Record_impl_Record]
 have ha : appOk 48 ([] : List D) (D.lst xs).l = true := appOk_small (by simp) h (by decide)
 rw [two_eq]
 ·refine rn_if ha rfl
 ·intro h
  rw [if_pos ha]
  have : xs = [] := by simpa using h
  subst this
  rfl
theorem f_cloneZones {xs : List D} (h : xs.length ≤ lim) : e_slices_Clone_impl_Zone_impl_Zone.F [.lst xs] = some (.lst xs) := by
 rw [q_slices_Clone_impl_Zone_impl_Zone]
 have ha : appOk 48 ([] : List D) (D.lst xs).l = true := appOk_small (by simp) h (by decide)
 rw [two_eq]
 ·refine rn_if ha rfl
 ·intro h
  rw [if_pos ha]
  have : xs = [] := by simpa using h
  subst this
  rfl
theorem f_ownZone {z : Zn} (h : z.recs.length ≤ lim) : e_impl_ownZone.F [z.d] = some z.d := by
 have f2 : z.d.fld 2 = .lst (z.recs.map Rec.d) := rfl
 rw [q_impl_ownZone, f2]
 exact rn_call (f_cloneRecs (by simpa using h)) rfl
theorem f_wfindN {w : List Zn} {s : List UInt8} (hw : WIn lim w) (hg : WGood w) (hs : s.length ≤ lim) (hz : zAt s w = none) : ∃ n : Nat, n ≤ w.length ∧ e_impl_World_find.F [wdD w, .str s] = some (.pair (.int (n : Int)) (.pair (.bool false) .unit)) ∧ (∀ i (hi : i < w.length), i < n → cmpN w[i].apex s < 0) ∧ (∀ i (hi : i < w.length), n ≤ i → 0 < cmpN w[i].apex s) := by
 obtain ⟨k, k1, k2, k3, b, hb, hr⟩ := bs_gen (f := Zn.d) (c := fun d => e_impl_World_find_1.F [d, .str s]) (xs := w) (cv := fun z => cmpN z.apex s) hw.len (fun z hz => by
  show e_impl_World_find_1.F [z.d, .str s] = _
  rw [q_impl_World_find_1]
  have g0 : z.d.fld 0 = .str z.apex := rfl
  rw [g0]
  exact rn_call (f_compareNames (hw.all z hz).apex hs) rfl) (fun i j hi hj hij h => by
  by_cases he : i = j
  ·subst he; exact h
  ·have h1 := hg.up i j hi hj (by omega)
   exact cmpN_cmp.lt (y := w[j].apex) (by omega) (by omega) (.inl (by omega)))
 have h2 : e_slices_BinarySearchFunc_impl_Zone_impl_Zone_string__impl_World_find_1.F [.lst (w.map Zn.d), .str s, .unit] = some (.pair (.int k) (.pair (.bool b) .unit)) := by
  rw [q_slices_BinarySearchFunc_impl_Zone_impl_Zone_string__impl_World_find_1]; exact hr
 have h3 : e_impl_World_find.F [wdD w, .str s] = some (.pair (.int k) (.pair (.bool b) .unit)) := by
  rw [q_impl_World_find]
  have g1 : (wdD w).fld 0 = .lst (w.map Zn.d) := rfl
  rw [g1]
  exact rn_call h2 rfl
 have hbf : b = false := by
  cases b with
  | false => rfl
  | true =>
    obtain ⟨hk, he⟩ := hb.1 rfl
    exact absurd (cmpN_cmp.eq _ _ he) (zAt_none hz _ (List.getElem_mem hk))
 rw [hbf] at h3
 refine ⟨k, k1, h3, k2, fun i hi hik => ?_⟩
 have := k3 i hi hik
 rcases Int.lt_or_eq_of_le this with h | h
 ·exact h
 ·exact absurd (cmpN_cmp.eq _ _ h.symm) (zAt_none hz _ (List.getElem_mem hi))
def insZ (w : List Zn) (n : Nat) (z : Zn) : List Zn := w.take n ++ z :: w.drop n
theorem insZ_len {w : List Zn} {n : Nat} {z : Zn} (h : n ≤ w.length) : (insZ w n z).length = w.length + 1 := by
 simp [insZ]; omega
theorem insZ_mem {w : List Zn} {n : Nat} {z x : Zn} (h : x ∈ insZ w n z) : x = z ∨ x ∈ w := by
 simp only [insZ, List.mem_append, List.mem_cons] at h
 rcases h with h | rfl | h
 ·exact .inr (List.mem_of_mem_take h)
 ·exact .inl rfl
 ·exact .inr (List.mem_of_mem_drop h)
theorem insZ_in {w : List Zn} {n : Nat} {z : Zn} (h : n ≤ w.length) (hw : WIn lim w) (hz : z.In lim) (hl : w.length + 1 ≤ lim) : WIn lim (insZ w n z) := by
 refine ⟨by rw [insZ_len h]; exact hl, fun x hx => ?_⟩
 rcases insZ_mem hx with rfl | hx
 ·exact hz
 ·exact hw.all x hx
theorem insZ_lo {w : List Zn} {n i : Nat} {z : Zn} (h : i ≤ n) (hn : n ≤ w.length) : (insZ w n z).take i = w.take i := by
 unfold insZ
 rw [List.take_append_of_le_length (by rw [List.length_take]; omega), List.take_take, Nat.min_eq_left h]
theorem insZ_hi {w : List Zn} {n i : Nat} {z : Zn} (h : n ≤ i) (hi : i < w.length) : (insZ w n z).take (i + 2) = (insZ w n z).take (i + 1) ++ [w[i]] := by
 have hl : i + 1 < (insZ w n z).length := by rw [insZ_len (by omega)]; omega
 have hg : (insZ w n z)[i + 1] = w[i] := by
  have : (insZ w n z)[i + 1]? = some w[i] := by
   unfold insZ
   rw [List.getElem?_append_right (by rw [List.length_take]; omega), List.length_take, Nat.min_eq_left (by omega), show i + 1 - n = (i - n) + 1 by omega, List.getElem?_cons_succ, List.getElem?_drop, show n + (i - n) = i by omega]
   exact List.getElem?_eq_getElem hi
  rw [List.getElem?_eq_getElem hl] at this
  exact Option.some.inj this
 rw [List.take_add_one, List.getElem?_eq_getElem hl, hg]; rfl
theorem insZ_mid {w : List Zn} {n : Nat} {z : Zn} (h : n ≤ w.length) : (insZ w n z).take (n + 1) = w.take n ++ [z] := by
 unfold insZ
 have : (w.take n).length = n := by rw [List.length_take]; omega
 rw [List.take_append, this, List.take_of_length_le (by omega), show n + 1 - n = 1 by omega]; rfl
def addR (w : List Zn) (b : Bool) : D := .pair (wdD w) (.pair (.bool b) .unit)
theorem gw_none {o : Option D} {w : List Zn} (hg : WIn lim w) (h : o = some (.bool (wGood w))) : (o.bind fun r => if (!r.b) = true then ou 0 [(.pair (.pair (D.lst []) .unit) (.pair (.bool false) .unit))] else ou 0 [(.pair (wdD w) (.pair (.bool true) .unit))] : Outc) = some (0, [if wGood w = true then addR w true else addR [] false]) := by
 refine out_call h ?_
 cases wGood w with
 | true => exact out_else (by simp) rfl
 | false => exact out_if rfl rfl
theorem f_AddZone {w : List Zn} {z : Zn} (hw : WIn lim w) (hz : z.In lim) : ∃ (w' : List Zn) (b : Bool), WIn lim w' ∧ e_impl_AddZone.F [wdD w, z.d] = some (addR w' b) ∧ e_spec_AddZone.F [wdD w, z.d] = some (addR w' b) ∧ (b = true → wGood w' = true ∧ w'.length = w.length + 1) ∧ (b = false → w' = []) := by
 have hlim : lim = 1048576 := rfl
 have hnil : WIn lim ([] : List Zn) := ⟨by simp, by simp⟩
 rw [q_impl_AddZone, q_spec_AddZone]
 have hI := f_GoodWorld hw
 have hS := f_specGoodWorld hw
 have hZ := f_GoodZone hz
 have hZS := f_specGoodZone hz
 cases hgw : wGood w with
 | false =>
   rw [hgw] at hI hS
   exact ⟨[], false, hnil, rn_bind0 (l := [.bool true]) (out_call hI (out_if rfl rfl)) (rn_if rfl rfl), rn_bind0 (l := [.bool true]) (out_call hS (out_if rfl rfl)) (rn_if rfl rfl), by simp, fun _ => rfl⟩
 | true =>
   rw [hgw] at hI hS
   cases hgz : z.good with
   | false =>
     rw [hgz] at hZ hZS
     exact ⟨[], false, hnil, rn_bind0 (l := [.bool true]) (out_call hI (out_else (by simp) (out_call hZ rfl))) (rn_if rfl rfl), rn_bind0 (l := [.bool true]) (out_call hS (out_else (by simp) (out_call hZS rfl))) (rn_if rfl rfl), by simp, fun _ => rfl⟩
   | true =>
     rw [hgz] at hZ hZS
     have hg := wGood_of hgw
     have h6 := hg.six
     have hzg := Zn.good_iff.1 hgz
     have a0 : (z.d.fld 0) = .str z.apex := rfl
     have w0 : (wdD w).fld 0 = .lst (w.map Zn.d) := rfl
     have wl : ((wdD w).fld 0).l = w.map Zn.d := rfl
     have hza : isName z.apex = true := by
      have := hzg.apx
      unfold isApx at this
      simp only [Bool.and_eq_true] at this
      exact this.1
     have hwn : ∀ x ∈ w, isName x.apex = true := fun x hx => by
      have := (Zn.good_iff.1 (hg.good x hx)).apx
      unfold isApx at this
      simp only [Bool.and_eq_true] at this
      exact this.1
     have hrec : ∀ x ∈ w, x.recs.length ≤ 1000000 := fun x hx => by have := (Zn.good_iff.1 (hg.good x hx)).n40; omega
     have hzr : z.recs.length ≤ 1000000 := by have := hzg.n40; omega
     have hcmp : ∀ i (hi : i < w.length), e_spec_l1Compare.F [.str z.apex, .str w[i].apex] = some (.int (cmpN z.apex w[i].apex)) := by
      intro i hi
      obtain ⟨n, h1, h2⟩ := f_l1Compare hz.apex (hw.all _ (List.getElem_mem hi)).apex
      rw [h1, h2 hza (hwn _ (List.getElem_mem hi))]
     simp only [w0, D.l_lst, a0]
     cases hat : zAt z.apex w with
     | some k =>
       obtain ⟨hk, hks, hkn⟩ := zAt_some hat
       obtain ⟨n, hf, _⟩ := f_wfind hw hg hz.apex
       rw [hat] at hf
       refine ⟨[], false, hnil, rn_bind0 (l := [.bool false]) (out_call hI (out_else (by simp) (out_call hZ rfl))) (rn_else (by simp) (rn_call (r := .pair (.int n) (.pair (.bool true) .unit)) hf (rn_if rfl rfl))), ?_, by simp, fun _ => rfl⟩
       refine rn_bind0 (l := [.bool false]) (out_call hS (out_else (by simp) (out_call hZS rfl))) (rn_else (by simp) ?_)
       have hloop : ∃ r, loopF (fun l3 =>
        if (decide ((gd l3 2).i < ((w.map Zn.d).length : Int))) then
         if (inb (gd l3 2).i (w.map Zn.d).length) then
         ((e_spec_l1Compare.F [.str z.apex, ((gd (w.map Zn.d) (gd l3 2).i.toNat).fld 0)]).bind fun r6 =>
           if (r6.i == 0) then
            ou 1 [(.pair (D.lst []) .unit), (.bool false)]
           else
            (if (decide (r6.i < 0)) then
                ou 0 [(.bool (!(gd l3 1).b))]
              else
               ou 0 [(.bool false)]).bind fun o7 =>
            sel2 o7.1 (if (gd o7.2 0).b then
             (e_spec_l6Own.F [z.d]).bind fun r8 =>
             if (appOk 48 ((gd l3 0).fld 0).l (r8 :: ([] : List D))) then
             ou 0 [((gd l3 0).setFld 0 (D.lst (((gd l3 0).fld 0).l ++ (r8 :: ([] : List D))))), (.bool true)]
             else none
             else
              ou 0 [(gd l3 0), (gd l3 1)]) fun _ => none).bind fun o6 =>
         sel2 o6.1 ((e_spec_l6Own.F [(gd (w.map Zn.d) (gd l3 2).i.toNat)]).bind fun r8 =>
          if (appOk 48 ((gd o6.2 0).fld 0).l (r8 :: ([] : List D))) then
          ou 0 [((gd o6.2 0).setFld 0 (D.lst (((gd o6.2 0).fld 0).l ++ (r8 :: ([] : List D))))), (gd o6.2 1), (.int (IntKind.wrap .i64 ((gd l3 2).i + 1)))]
          else none) fun n12 =>
         sel2 n12 (ou 1 [(gd o6.2 0), (gd o6.2 1)]) fun _ => none
         else none
        else
         ou 2 [(gd l3 0), (gd l3 1)]) [(.pair (D.lst []) .unit), (.bool false), (.int 0)] = some r ∧ r = (0, [wdD [], .bool false]) := by
        refine ok_up (Q := fun r => r = (0, [wdD [], .bool false])) k (fun i l => l = [wdD (w.take i), .bool false, .int (i : Int)]) (by simp [wdD]) ?_ ?_
        ·rintro i _ hi rfl
         have hiw : i < w.length := by omega
         have hxi := List.getElem_mem hiw
         have hg2 : gd (w.map Zn.d) i = w[i].d := gd_map hiw
         have e2 : (gd [wdD (w.take i), D.bool false, D.int (i : Int)] 2).i = (i : Int) := rfl
         simp only [e2, Int.toNat_natCast, hg2]
         have hpos : 0 < cmpN z.apex w[i].apex := by
          have h4 := hg.up i k hiw hk hi
          rw [hks] at h4
          rw [cmpN_swap w[i].apex z.apex]
          omega
         refine ok_ifT (decide_eq_true (by simpa using hiw)) (ok_ifT (inb_nat (by simpa using hiw)) (ok_bind (P := fun r => r = (0, [wdD (w.take i), .bool false])) (ok_call (hcmp i hiw) ?_) ?_))
         ·have c1 : ¬ ((D.int (cmpN z.apex w[i].apex)).i == 0) = true := by simp; omega
          have c2 : ¬ (decide ((D.int (cmpN z.apex w[i].apex)).i < 0)) = true := fun h => absurd (of_decide_eq_true h) (by rw [D.i_int]; omega)
          rw [if_neg c1, if_neg c2]
          exact ok_ou rfl
         ·rintro _ rfl
          refine ok_sel0 (ok_call (f_l6Own (hrec _ hxi)) (ok_ifT (app_w (w := w.take i) (z := w[i]) (by rw [List.length_take]; omega)) (ok_ou (.inl ⟨rfl, ?_⟩))))
          show [(wdD (w.take i)).setFld 0 (D.lst (((wdD (w.take i)).fld 0).l ++ [w[i].d])), D.bool false, D.int (IntKind.wrap .i64 ((i : Int) + 1))] = _
          rw [set_w, wrap1 (by omega), List.take_add_one, List.getElem?_eq_getElem hiw]; rfl
        ·rintro _ rfl
         have hg2 : gd (w.map Zn.d) k = w[k].d := gd_map hk
         have e2 : (gd [wdD (w.take k), D.bool false, D.int (k : Int)] 2).i = (k : Int) := rfl
         simp only [e2, Int.toNat_natCast, hg2]
         have h0 : cmpN z.apex w[k].apex = 0 := by rw [hks]; exact cmpN_cmp.refl _
         refine ok_ifT (decide_eq_true (by simpa using hk)) (ok_ifT (inb_nat (by simpa using hk)) (ok_bind (P := fun r => r = (1, [wdD [], .bool false])) (ok_call (hcmp k hk) (ok_ifT (by simp [h0]) (ok_ou rfl))) ?_))
         rintro _ rfl
         exact ok_ou ⟨0, rfl, rfl⟩
       obtain ⟨_, hloop, rfl⟩ := hloop
       exact rn_bind hloop rfl
     | none =>
       obtain ⟨n, hn, hf, hlo, hhi⟩ := f_wfindN hw hg hz.apex hat
       have hin := insZ_in hn hw hz (by omega)
       have hil := insZ_len (z := z) hn
       have hGI := f_GoodWorld hin
       have hGS := f_specGoodWorld hin
       refine ⟨if wGood (insZ w n z) = true then insZ w n z else [], wGood (insZ w n z), ?_, ?_, ?_, ?_, ?_⟩
       ·split
        ·exact hin
        ·exact hnil
       ·refine rn_bind0 (l := [.bool false]) (out_call hI (out_else (by simp) (out_call hZ rfl))) (rn_else (by simp) (rn_call hf (rn_else (by simp [D.fld]) (rn_call (f_cloneZones (by simp; omega)) ?_))))
        have hins : e_slices_Insert_impl_Zone_impl_Zone.F [.lst (w.map Zn.d), (D.pair (.int (n : Int)) (.pair (.bool false) .unit)).fld 0, (D.lst (z.d :: ([] : List D)))] = some (.lst ((insZ w n z).map Zn.d)) := by
         show insF 48 [.lst (w.map Zn.d), .int (n : Int), (D.lst [z.d])] = _
         unfold insF
         dsimp only
         rw [if_pos]
         ·simp [insZ, List.map_take, List.map_drop]
         ·refine ⟨⟨by simp, by simpa using hn⟩, by simp, appOk_small (by simp; omega) (by simp; omega) (by decide)⟩
        refine rn_call hins ?_
        have hl2 : (D.lst ((insZ w n z).map Zn.d)).l = (insZ w n z).map Zn.d := rfl
        rw [hl2]
        refine rn_bind0 (l := [wdD (insZ w n z)]) (loop_for' (fun i (s : List Zn) => [wdD s, .int (i : Int)]) (insZ w n z).length (fun i => (insZ w n z).take i) (t := 0) (by simp [wdD]) ?_ ?_) ?_
        ·intro i hi
         have hg2 : gd ((insZ w n z).map Zn.d) i = (insZ w n z)[i].d := gd_map hi
         have e1 : (gd [wdD ((insZ w n z).take i), D.int (i : Int)] 1).i = (i : Int) := rfl
         simp only [e1, Int.toNat_natCast, hg2]
         refine out_if (decide_eq_true (by simpa using hi)) (out_if (inb_nat (by simpa using hi)) (out_call (f_ownZone (hin.all _ (List.getElem_mem hi)).len) (out_if (app_w (w := (insZ w n z).take i) (z := (insZ w n z)[i]) (by rw [List.length_take]; omega)) ?_)))
         show some (0, [(wdD ((insZ w n z).take i)).setFld 0 (D.lst (((wdD ((insZ w n z).take i)).fld 0).l ++ [(insZ w n z)[i].d])), D.int (IntKind.wrap .i64 ((i : Int) + 1))]) = _
         rw [set_w, wrap1 (by omega), List.take_add_one, List.getElem?_eq_getElem hi]; rfl
        ·rw [List.take_length]
         exact out_else (by simp) rfl
        ·refine (congrArg rn (gw_none hin hGI)).trans ?_
         cases wGood (insZ w n z) <;> rfl
       ·refine rn_bind0 (l := [.bool false]) (out_call hS (out_else (by simp) (out_call hZS rfl))) (rn_else (by simp) ?_)
        refine rn_bind1 (loop_for' (fun i (s : List Zn × Bool) => [wdD s.1, .bool s.2, .int (i : Int)]) w.length (fun i => ((insZ w n z).take (if n < i then i + 1 else i), decide (n < i))) (t := 1) (by simp [wdD]) ?_ (by exact out_else (by simp) rfl)) (rn_sel0 ?_)
        ·intro i hi
         have hxi := List.getElem_mem hi
         have hg2 : gd (w.map Zn.d) i = w[i].d := gd_map hi
         have e2 : ∀ a b : D, (gd [a, b, D.int (i : Int)] 2).i = (i : Int) := fun _ _ => rfl
         simp only [e2, Int.toNat_natCast, hg2]
         have anti := cmpN_swap w[i].apex z.apex
         have own := f_l6Own (hrec _ hxi)
         refine out_if (decide_eq_true (by simpa using hi)) (out_if (inb_nat (by simpa using hi)) ?_)
         have mid : ∀ (p : Bool) (s : List Zn), (p = true ∨ i < n) → s.length ≤ 1000 → ((e_spec_l1Compare.F [.str z.apex, (w[i].d.fld 0)]).bind fun r6 =>
          if (r6.i == 0) then
           ou 1 [(.pair (D.lst []) .unit), (.bool false)]
          else
           (if (decide (r6.i < 0)) then
               ou 0 [(.bool (!(gd [wdD s, D.bool p, D.int (i : Int)] 1).b))]
             else
              ou 0 [(.bool false)]).bind fun o7 =>
           sel2 o7.1 (if (gd o7.2 0).b then
            (e_spec_l6Own.F [z.d]).bind fun r8 =>
            if (appOk 48 ((gd [wdD s, D.bool p, D.int (i : Int)] 0).fld 0).l (r8 :: ([] : List D))) then
            ou 0 [((gd [wdD s, D.bool p, D.int (i : Int)] 0).setFld 0 (D.lst (((gd [wdD s, D.bool p, D.int (i : Int)] 0).fld 0).l ++ (r8 :: ([] : List D))))), (.bool true)]
            else none
            else
             ou 0 [(gd [wdD s, D.bool p, D.int (i : Int)] 0), (gd [wdD s, D.bool p, D.int (i : Int)] 1)]) fun _ => none : Outc) = some (0, [wdD s, .bool p]) := by
          intro p s hp hs
          have hne : cmpN z.apex w[i].apex ≠ 0 := by
           by_cases h : i < n
           ·have := hlo i hi h; omega
           ·have := hhi i hi (by omega); omega
          refine out_call (hcmp i hi) (out_else (by simpa using hne) ?_)
          rcases hp with rfl | hp
          ·refine out_bind (r := (0, [.bool false])) ?_ (sel0 (out_else (by simp) rfl))
           split <;> rfl
          ·have := hlo i hi hp
           exact out_bind (r := (0, [.bool false])) (out_else (fun h => absurd (of_decide_eq_true h) (by rw [D.i_int]; omega)) rfl) (sel0 (out_else (by simp) rfl))
         have put : ∀ (p : Bool) (s : List Zn), s.length ≤ 1000 → ((e_spec_l6Own.F [w[i].d]).bind fun r8 =>
          if (appOk 48 ((gd [wdD s, D.bool p] 0).fld 0).l (r8 :: ([] : List D))) then
          ou 0 [((gd [wdD s, D.bool p] 0).setFld 0 (D.lst (((gd [wdD s, D.bool p] 0).fld 0).l ++ (r8 :: ([] : List D))))), (gd [wdD s, D.bool p] 1), (.int (IntKind.wrap .i64 ((i : Int) + 1)))]
          else none : Outc) = some (0, [wdD (s ++ [w[i]]), .bool p, .int ((i + 1 : Nat) : Int)]) := by
          intro p s hs
          refine out_call own (out_if (app_w (w := s) (z := w[i]) hs) ?_)
          show some (0, [(wdD s).setFld 0 (D.lst (((wdD s).fld 0).l ++ [w[i].d])), D.bool p, D.int (IntKind.wrap .i64 ((i : Int) + 1))]) = _
          rw [set_w, wrap1 (by omega)]
         by_cases h1 : i < n
         ·rw [if_neg (show ¬ n < i by omega), if_neg (show ¬ n < i + 1 by omega), decide_eq_false (show ¬ n < i by omega), decide_eq_false (show ¬ n < i + 1 by omega), insZ_lo (by omega) hn, insZ_lo (by omega) hn]
          refine out_bind (mid false (w.take i) (.inr h1) (by rw [List.length_take]; omega)) (sel0 ((put false (w.take i) (by rw [List.length_take]; omega)).trans ?_))
          rw [List.take_add_one, List.getElem?_eq_getElem hi]; rfl
         ·by_cases h2 : i = n
          ·subst h2
           rw [if_neg (show ¬ i < i by omega), if_pos (show i < i + 1 by omega), decide_eq_false (show ¬ i < i by omega), decide_eq_true (show i < i + 1 by omega), insZ_lo (by omega) hn, insZ_hi (Nat.le_refl _) hi, insZ_mid hn]
           have h3 := hhi i hi (Nat.le_refl _)
           refine out_bind (r := (0, [wdD (w.take i ++ [z]), .bool true])) (out_call (hcmp i hi) (out_else (by simp; omega) (out_bind (r := (0, [.bool true])) (out_if (decide_eq_true (by rw [D.i_int]; omega)) rfl) (sel0 (out_if rfl (out_call (f_l6Own hzr) (out_if (app_w (w := w.take i) (z := z) (by rw [List.length_take]; omega)) ?_))))))) (sel0 (put true (w.take i ++ [z]) (by simp; omega)))
           show some (0, [(wdD (w.take i)).setFld 0 (D.lst (((wdD (w.take i)).fld 0).l ++ [z.d])), D.bool true]) = _
           rw [set_w]
          ·rw [if_pos (show n < i by omega), if_pos (show n < i + 1 by omega), decide_eq_true (show n < i by omega), decide_eq_true (show n < i + 1 by omega), insZ_hi (by omega) hi]
           refine out_bind (mid true _ (.inl rfl) (by rw [List.length_take, hil]; omega)) (sel0 (put true _ (by rw [List.length_take, hil]; omega)))
        ·have hfin : (insZ w n z).take (w.length + 1) = insZ w n z := List.take_of_length_le (by omega)
         refine rn_bind0 (l := [wdD (insZ w n z)]) ?_ ((congrArg rn (gw_none hin hGS)).trans (by cases wGood (insZ w n z) <;> rfl))
         by_cases h1 : n < w.length
         ·rw [if_pos h1, decide_eq_true h1, hfin]
          exact out_else (by simp [gd]) rfl
         ·have hnw : n = w.length := by omega
          subst hnw
          rw [if_neg h1, decide_eq_false h1, insZ_lo (Nat.le_refl _) hn, List.take_length]
          refine out_if rfl (out_call (f_l6Own hzr) (out_if (app_w (w := w) (z := z) (by omega)) ?_))
          show some (0, [(wdD w).setFld 0 (D.lst (((wdD w).fld 0).l ++ [z.d]))]) = _
          rw [set_w]; simp [insZ]
       ·intro hb
        rw [if_pos hb, hil]
        exact ⟨hb, rfl⟩
       ·intro hb
        rw [if_neg (by rw [hb]; simp)]
end Go.Proofs.YtbacjgkmkkphdaaGreatDoor
namespace Go.Proofs.YtbacjgkmkkphdaaGreatDoor
open Go Go.Own
end Go.Proofs.YtbacjgkmkkphdaaGreatDoor
