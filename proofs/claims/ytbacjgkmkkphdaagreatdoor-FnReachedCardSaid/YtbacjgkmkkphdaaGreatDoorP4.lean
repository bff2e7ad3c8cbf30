/- What the functions compute, in plain words. -/
import Derived.Test.YtbacjgkmkkphdaaGreatDoorP3
set_option linter.unusedSectionVars false
set_option linter.unusedVariables false
set_option linter.unusedSimpArgs false
namespace Go.Proofs.YtbacjgkmkkphdaaGreatDoor
open Go Go.Own
theorem mid_wrap {a b : Nat} (h : a + b ≤ 4 * lim) : IntKind.wrap .i64 ((IntKind.wrap .u64 (IntKind.wrap .i64 ((a : Int) + (b : Int)))).fdiv (2 ^ min 1 (IntKind.bits .u64))) = (((a + b) / 2 : Nat) : Int) := by
 have hlim : lim = 1048576 := rfl
 have w1 : IntKind.wrap .i64 ((a : Int) + (b : Int)) = ((a + b : Nat) : Int) := by rw [wrap_id] <;> omega
 have w2 : IntKind.wrap .u64 ((a + b : Nat) : Int) = ((a + b : Nat) : Int) := by
  have : IntKind.wrap .u64 ((a + b : Nat) : Int) = ((a + b : Nat) : Int) % 2 ^ 64 := by simp [IntKind.wrap, IntKind.bits, IntKind.signed]
  rw [this]; omega
 have e : min 1 (IntKind.bits .u64) = 1 := rfl
 rw [w1, w2, e, fdiv_pow, show (2 : Nat) ^ 1 = 2 from rfl, wrap_id] <;> omega
theorem bs_gen {α : Type} {f : α → D} {c : D → Option D} {xs : List α} {cv : α → Int} (hl : xs.length ≤ lim) (hc : ∀ x ∈ xs, c (f x) = some (.int (cv x)))
 (mono : ∀ i j (hi : i < xs.length) (hj : j < xs.length), i ≤ j → cv xs[j] < 0 → cv xs[i] < 0) :
 ∃ k : Nat, k ≤ xs.length ∧ (∀ i (hi : i < xs.length), i < k → cv xs[i] < 0) ∧ (∀ i (hi : i < xs.length), k ≤ i → 0 ≤ cv xs[i]) ∧ ∃ b : Bool, (b = true ↔ ∃ h : k < xs.length, cv xs[k] = 0) ∧ rn ((loopF (fun l3 =>
  if (decide ((gd l3 0).i < (gd l3 1).i)) then
   if (decide (0 ≤ 1)) then
   if (inb (IntKind.wrap .i64 ((IntKind.wrap .u64 (IntKind.wrap .i64 ((gd l3 0).i + (gd l3 1).i))).fdiv (2 ^ min 1 (IntKind.bits .u64)))) (D.lst (xs.map f)).l.length) then
   (c (gd (D.lst (xs.map f)).l (IntKind.wrap .i64 ((IntKind.wrap .u64 (IntKind.wrap .i64 ((gd l3 0).i + (gd l3 1).i))).fdiv (2 ^ min 1 (IntKind.bits .u64)))).toNat)).bind fun r5 =>
   if (decide (r5.i < 0)) then
    ou 0 [(.int (IntKind.wrap .i64 ((IntKind.wrap .i64 ((IntKind.wrap .u64 (IntKind.wrap .i64 ((gd l3 0).i + (gd l3 1).i))).fdiv (2 ^ min 1 (IntKind.bits .u64)))) + 1))), (gd l3 1)]
   else
    ou 0 [(gd l3 0), (.int (IntKind.wrap .i64 ((IntKind.wrap .u64 (IntKind.wrap .i64 ((gd l3 0).i + (gd l3 1).i))).fdiv (2 ^ min 1 (IntKind.bits .u64)))))]
   else none
   else none
  else
   ou 1 [(gd l3 0)]) [(.int 0), (.int ((D.lst (xs.map f)).l.length : Int))]).bind fun o3 =>
 sel2 o3.1 ((if (decide ((gd o3.2 0).i < ((D.lst (xs.map f)).l.length : Int))) then
  if (inb (gd o3.2 0).i (D.lst (xs.map f)).l.length) then
  (c (gd (D.lst (xs.map f)).l (gd o3.2 0).i.toNat)).bind fun r4 =>
  ou 0 [(gd o3.2 0), (.bool (r4.i == 0))]
  else none
  else
   ou 0 [(gd o3.2 0), (.bool false)]).bind fun o4 =>
  sel2 o4.1 (ou 0 [(.pair (gd o4.2 0) (.pair (gd o4.2 1) .unit))]) fun _ => none) fun _ => none) = some (.pair (.int k) (.pair (.bool b) .unit)) := by
 have hlim : lim = 1048576 := rfl
 have hlen : (D.lst (xs.map f)).l.length = xs.length := by simp
 rw [hlen]
 have key : ∀ (m lo hi : Nat), hi - lo ≤ m → lo ≤ hi → hi ≤ xs.length → (∀ i (h : i < xs.length), i < lo → cv xs[i] < 0) → (∀ i (h : i < xs.length), hi ≤ i → 0 ≤ cv xs[i]) →
  ∃ k : Nat, k ≤ xs.length ∧ (∀ i (hi : i < xs.length), i < k → cv xs[i] < 0) ∧ (∀ i (hi : i < xs.length), k ≤ i → 0 ≤ cv xs[i]) ∧ loopF (fun l3 =>
  if (decide ((gd l3 0).i < (gd l3 1).i)) then
   if (decide (0 ≤ 1)) then
   if (inb (IntKind.wrap .i64 ((IntKind.wrap .u64 (IntKind.wrap .i64 ((gd l3 0).i + (gd l3 1).i))).fdiv (2 ^ min 1 (IntKind.bits .u64)))) xs.length) then
   (c (gd (D.lst (xs.map f)).l (IntKind.wrap .i64 ((IntKind.wrap .u64 (IntKind.wrap .i64 ((gd l3 0).i + (gd l3 1).i))).fdiv (2 ^ min 1 (IntKind.bits .u64)))).toNat)).bind fun r5 =>
   if (decide (r5.i < 0)) then
    ou 0 [(.int (IntKind.wrap .i64 ((IntKind.wrap .i64 ((IntKind.wrap .u64 (IntKind.wrap .i64 ((gd l3 0).i + (gd l3 1).i))).fdiv (2 ^ min 1 (IntKind.bits .u64)))) + 1))), (gd l3 1)]
   else
    ou 0 [(gd l3 0), (.int (IntKind.wrap .i64 ((IntKind.wrap .u64 (IntKind.wrap .i64 ((gd l3 0).i + (gd l3 1).i))).fdiv (2 ^ min 1 (IntKind.bits .u64)))))]
   else none
   else none
  else
   ou 1 [(gd l3 0)]) [.int lo, .int hi] = some (0, [.int k]) := by
  intro m
  induction m with
  | zero =>
    intro lo hi h1 h2 h3 h4 h5
    have : lo = hi := by omega
    subst this
    exact ⟨lo, h3, h4, h5, loopF_exit (out_else (by simp) rfl)⟩
  | succ m ih =>
    intro lo hi h1 h2 h3 h4 h5
    by_cases hlt : lo < hi
    ·have hm := mid_wrap (a := lo) (b := hi) (by omega)
     have hmid : (lo + hi) / 2 < xs.length := by omega
     have g0 : (gd [D.int (lo : Int), D.int (hi : Int)] 0).i = (lo : Int) := rfl
     have g1 : (gd [D.int (lo : Int), D.int (hi : Int)] 1).i = (hi : Int) := rfl
     have hcm := hc _ (List.getElem_mem hmid)
     by_cases hneg : cv xs[(lo + hi) / 2] < 0
     ·obtain ⟨k, k1, k2, k3, k4⟩ := ih ((lo + hi) / 2 + 1) hi (by omega) (by omega) h3 (fun i h hi' => mono i _ h hmid (by omega) hneg) h5
      refine ⟨k, k1, k2, k3, ?_⟩
      rw [loopF_step (l' := [.int (((lo + hi) / 2 + 1 : Nat) : Int), .int hi]) ?_]
      ·exact k4
      ·have w : IntKind.wrap .i64 ((((lo + hi) / 2 : Nat) : Int) + 1) = (((lo + hi) / 2 + 1 : Nat) : Int) := by rw [wrap_id] <;> omega
       rw [g0, g1, hm, w]
       refine out_if (decide_eq_true (by omega)) (out_if (by decide) (out_if (inb_nat hmid) ?_))
       rw [Int.toNat_natCast, D.l_lst, gd_map hmid]
       exact out_call hcm (out_if (decide_eq_true hneg) rfl)
     ·obtain ⟨k, k1, k2, k3, k4⟩ := ih lo ((lo + hi) / 2) (by omega) (by omega) (by omega) h4 (fun i h hi' => by
       by_cases hn : cv xs[i] < 0
       ·exact absurd (mono _ i hmid h hi' hn) hneg
       ·omega)
      refine ⟨k, k1, k2, k3, ?_⟩
      rw [loopF_step (l' := [.int lo, .int (((lo + hi) / 2 : Nat) : Int)]) ?_]
      ·exact k4
      ·rw [g0, g1, hm]
       refine out_if (decide_eq_true (by omega)) (out_if (by decide) (out_if (inb_nat hmid) ?_))
       rw [Int.toNat_natCast, D.l_lst, gd_map hmid]
       exact out_call hcm (out_else (fun h => hneg (of_decide_eq_true h)) rfl)
    ·have : lo = hi := by omega
     subst this
     exact ⟨lo, h3, h4, h5, loopF_exit (out_else (by simp) rfl)⟩
 obtain ⟨k, k1, k2, k3, k4⟩ := key xs.length 0 xs.length (by omega) (by omega) (Nat.le_refl _) (fun i h hi => by omega) (fun i h hi => by omega)
 by_cases hk : k < xs.length
 ·refine ⟨k, k1, k2, k3, (cv xs[k] == 0), ?_, rn_bind k4 (rn_bind0 (l := [.int k, .bool (cv xs[k] == 0)]) (out_if (decide_eq_true (by simp; omega)) (out_if (inb_nat hk) ?_)) rfl)⟩
  ·simp only [beq_iff_eq]
   exact ⟨fun h => ⟨hk, h⟩, fun ⟨_, h⟩ => h⟩
  ·simp only [gd_zero, D.i_int, Int.toNat_natCast, D.l_lst, gd_map hk]
   exact out_call (hc _ (List.getElem_mem hk)) rfl
 ·refine ⟨k, k1, k2, k3, false, ?_, rn_bind k4 (rn_bind0 (l := [.int k, .bool false]) (out_else (fun h => hk ?_) rfl) rfl)⟩
  ·constructor
   ·intro h; cases h
   ·rintro ⟨h, _⟩; exact absurd h hk
  ·have h' : (k : Int) < (xs.length : Int) := of_decide_eq_true h
   omega
end Go.Proofs.YtbacjgkmkkphdaaGreatDoor
namespace Go.Own
variable [Glb]
open Go
end Go.Own
namespace Go.Proofs.YtbacjgkmkkphdaaGreatDoor
open Go Go.Own
def wdD (w : List Zn) : D := .pair (.lst (w.map Zn.d)) .unit
structure WIn (B : Nat) (w : List Zn) : Prop where
 len : w.length ≤ B
 all : ∀ z ∈ w, z.In B
theorem WIn.smax {w : List Zn} (h : WIn lim w) : WIn smax w := ⟨Nat.le_trans h.len lim_smax, fun z hz => (h.all z hz).smax⟩
theorem gd_zn {xs : List Zn} {i : Nat} (hi : i < xs.length) : gd (xs.map Zn.d) i = xs[i].d := gd_map hi
def Zn.nul : Zn := ⟨[], 0, []⟩
noncomputable def znAt (w : List Zn) (i : Nat) : Bool := (w.getD i Zn.nul).good && (i == 0 || decide (cmpN (w.getD (i - 1) Zn.nul).apex (w.getD i Zn.nul).apex < 0))
noncomputable def wGood (w : List Zn) : Bool := inP w.length 1 6 && ((w.getD 0 Zn.nul).apex == [] && allN w.length (znAt w))
theorem f_GoodWorld {w : List Zn} (hw : WIn lim w) : e_impl_GoodWorld.F [wdD w] = some (.bool (wGood w)) := by
 have hsm := Nat.le_trans hw.len lim_smax
 rw [q_impl_GoodWorld]
 have f0 : ((wdD w).fld 0).l = w.map Zn.d := rfl
 simp only [f0, List.length_map]
 have h1 := f_withinP w.length 1 6
 unfold wGood
 cases k1 : inP w.length 1 6 with
 | false => rw [k1] at h1; exact rn_bind0 (l := [.bool true]) (out_call h1 (out_if rfl rfl)) (rn_if rfl rfl)
 | true =>
   rw [k1] at h1
   have hpos : 0 < w.length := by
    simp only [inP, Bool.and_eq_true, decide_eq_true_eq] at k1; omega
   have g0 : ((gd (w.map Zn.d) 0).fld 0).s = w[0].apex := by rw [gd_zn hpos]; rfl
   rw [getD_lt hpos]
   by_cases ha : w[0].apex = []
   ·have e : (w[0].apex == []) = true := by simpa using ha
    rw [e]
    refine rn_bind0 (l := [.bool false]) (out_call h1 (out_else (by simp) (out_if (inb_nat hpos) ?_))) (rn_else (by simp) ?_)
    ·rw [g0]; simp [ha]
    refine rn_bind (loop_all' (fun i => [.int i]) w.length (znAt w) (t1 := 0) (t2 := 1) (o1 := [.bool false]) (o2 := []) rfl ?_ (by exact out_else (by simp) rfl)) ?_
    ·intro i hi
     have e0 : (gd [D.int (i : Int)] 0).i.toNat = i := by simp
     have e1 : (gd [D.int (i : Int)] 0).i = i := rfl
     rw [e0, e1, wrap_succ hi hsm, gd_zn hi]
     refine out_if (by simpa using hi) (out_if (by simpa using inb_nat hi) (out_bind (r := (0, [.bool !(znAt w i)])) ?_ (sel0 (by cases znAt w i <;> simp))))
     have hz := f_GoodZone (hw.all _ (List.getElem_mem hi))
     unfold znAt
     rw [getD_lt hi]
     cases hk : w[i].good with
     | false => rw [hk] at hz; exact out_call hz (out_if rfl rfl)
     | true =>
       rw [hk] at hz
       refine out_call hz (out_else (by simp) ?_)
       by_cases h0 : i = 0
       ·subst h0; exact out_else (by simp) rfl
       ·have w1 : IntKind.wrap .i64 ((i : Int) - 1) = ((i - 1 : Nat) : Int) := by rw [smax_eq] at hsm; rw [wrap_id] <;> omega
        have hi1 : i - 1 < w.length := by omega
        have hc := f_compareNames (hw.all _ (List.getElem_mem hi1)).apex (hw.all _ (List.getElem_mem hi)).apex
        refine out_if (decide_eq_true (by omega)) (out_if (by rw [w1]; exact inb_nat hi1) ?_)
        rw [w1, Int.toNat_natCast, gd_zn hi1, getD_lt hi1]
        have g1 : ∀ z : Zn, z.d.fld 0 = .str z.apex := fun _ => rfl
        rw [g1, g1]
        refine out_call hc ?_
        have e1 : decide ((D.int (cmpN w[i - 1].apex w[i].apex)).i ≥ 0) = !(decide (cmpN w[i - 1].apex w[i].apex < 0)) := by
         rw [Bool.eq_iff_iff]; simp
        have h0' : (i == 0) = false := by simpa using h0
        rw [e1, h0']; simp
    ·rw [Bool.true_and, Bool.true_and]; cases allN w.length (znAt w) <;> rfl
   ·have e : (w[0].apex == []) = false := by simpa using ha
    rw [e]
    refine rn_bind0 (l := [.bool true]) (out_call h1 (out_else (by simp) (out_if (inb_nat hpos) ?_))) (rn_if rfl rfl)
    rw [g0, e]; rfl
theorem Zn.good_name {z : Zn} (h : z.good = true) : isName z.apex = true := by
 have := (Zn.good_iff.1 h).apx
 unfold isApx at this
 simp only [Bool.and_eq_true] at this
 exact this.1
theorem f_specGoodWorld {w : List Zn} (hw : WIn lim w) : e_spec_GoodWorld.F [wdD w] = some (.bool (wGood w)) := by
 have hsm := Nat.le_trans hw.len lim_smax
 rw [q_spec_GoodWorld]
 have f0 : ((wdD w).fld 0).l = w.map Zn.d := rfl
 simp only [f0, List.length_map]
 have h1 := f_l1InP w.length 1 6
 unfold wGood
 cases k1 : inP w.length 1 6 with
 | false => rw [k1] at h1; exact rn_bind0 (l := [.bool true]) (out_call h1 (out_if rfl rfl)) (rn_if rfl rfl)
 | true =>
   rw [k1] at h1
   have hpos : 0 < w.length := by
    simp only [inP, Bool.and_eq_true, decide_eq_true_eq] at k1; omega
   have g0 : ((gd (w.map Zn.d) 0).fld 0).s = w[0].apex := by rw [gd_zn hpos]; rfl
   rw [getD_lt hpos]
   by_cases ha : w[0].apex = []
   ·have e : (w[0].apex == []) = true := by simpa using ha
    rw [e]
    refine rn_bind0 (l := [.bool false]) (out_call h1 (out_else (by simp) (out_if (inb_nat hpos) ?_))) (rn_else (by simp) ?_)
    ·rw [g0]; simp [ha]
    have hcs : ∀ i, i < w.length → ∃ n : Int, e_spec_l1Compare.F [.str (w.getD (i - 1) Zn.nul).apex, .str (w.getD i Zn.nul).apex] = some (.int n) ∧ (isName (w.getD (i - 1) Zn.nul).apex = true → isName (w.getD i Zn.nul).apex = true → n = cmpN (w.getD (i - 1) Zn.nul).apex (w.getD i Zn.nul).apex) := by
     intro i hi
     have hi1 : i - 1 < w.length := by omega
     rw [getD_lt hi, getD_lt hi1]
     exact f_l1Compare (hw.all _ (List.getElem_mem hi1)).apex (hw.all _ (List.getElem_mem hi)).apex
    let cS : Nat → Int := fun i => match e_spec_l1Compare.F [.str (w.getD (i - 1) Zn.nul).apex, .str (w.getD i Zn.nul).apex] with
     | some (.int n) => n
     | _ => 0
    have hcS : ∀ i, i < w.length → e_spec_l1Compare.F [.str (w.getD (i - 1) Zn.nul).apex, .str (w.getD i Zn.nul).apex] = some (.int (cS i)) ∧ ((w.getD (i - 1) Zn.nul).good = true → (w.getD i Zn.nul).good = true → cS i = cmpN (w.getD (i - 1) Zn.nul).apex (w.getD i Zn.nul).apex) := by
     intro i hi
     obtain ⟨n, h1, h2⟩ := hcs i hi
     have : cS i = n := by simp only [cS, h1]
     rw [this]; exact ⟨h1, fun a b => h2 (Zn.good_name a) (Zn.good_name b)⟩
    let up : Nat → Bool := fun i => (w.getD i Zn.nul).good && (i == 0 || decide (cS i < 0))
    have hup : allN w.length up = allN w.length (znAt w) := by
     rw [Bool.eq_iff_iff, allN_true, allN_true]
     constructor
     ·intro h i hi
      have h1 := h i hi
      simp only [up, znAt, Bool.and_eq_true, Bool.or_eq_true, beq_iff_eq, decide_eq_true_eq] at h1 ⊢
      refine ⟨h1.1, h1.2.imp id fun h2 => ?_⟩
      by_cases h0 : i = 0
      ·subst h0
       rw [← (hcS 0 hi).2 h1.1 h1.1]; exact h2
      ·have h3 := h (i - 1) (by omega)
       simp only [up, Bool.and_eq_true] at h3
       rw [← (hcS i hi).2 h3.1 h1.1]; exact h2
     ·intro h i hi
      have h1 := h i hi
      simp only [up, znAt, Bool.and_eq_true, Bool.or_eq_true, beq_iff_eq, decide_eq_true_eq] at h1 ⊢
      refine ⟨h1.1, h1.2.imp id fun h2 => ?_⟩
      by_cases h0 : i = 0
      ·subst h0
       rw [(hcS 0 hi).2 h1.1 h1.1]; exact h2
      ·have h3 := h (i - 1) (by omega)
       simp only [znAt, Bool.and_eq_true] at h3
       rw [(hcS i hi).2 h3.1 h1.1]; exact h2
    refine rn_bind (loop_all' (fun i => [.int i]) w.length up (t1 := 0) (t2 := 1) (o1 := [.bool false]) (o2 := []) rfl ?_ (by exact out_else (by simp) rfl)) ?_
    ·intro i hi
     have e0 : (gd [D.int (i : Int)] 0).i.toNat = i := by simp
     have e1 : (gd [D.int (i : Int)] 0).i = i := rfl
     rw [e0, e1, wrap_succ hi hsm, gd_zn hi]
     refine out_if (by simpa using hi) (out_if (by simpa using inb_nat hi) (out_bind (r := (0, [.bool !(up i)])) ?_ (sel0 (by cases up i <;> simp))))
     have hz := f_specGoodZone (hw.all _ (List.getElem_mem hi))
     simp only [up]
     have hc := (hcS i hi).1
     rw [getD_lt hi] at hc ⊢
     cases hk : w[i].good with
     | false => rw [hk] at hz; exact out_call hz (out_if rfl rfl)
     | true =>
       rw [hk] at hz
       refine out_call hz (out_else (by simp) ?_)
       by_cases h0 : i = 0
       ·subst h0; exact out_else (by simp) rfl
       ·have w1 : IntKind.wrap .i64 ((i : Int) - 1) = ((i - 1 : Nat) : Int) := by rw [smax_eq] at hsm; rw [wrap_id] <;> omega
        have hi1 : i - 1 < w.length := by omega
        rw [getD_lt hi1] at hc
        refine out_if (decide_eq_true (by omega)) (out_if (by rw [w1]; exact inb_nat hi1) ?_)
        rw [w1, Int.toNat_natCast, gd_zn hi1]
        have g1 : ∀ z : Zn, z.d.fld 0 = .str z.apex := fun _ => rfl
        rw [g1, g1]
        refine out_call hc ?_
        have e1 : decide ((D.int (cS i)).i ≥ 0) = !(decide (cS i < 0)) := by
         rw [Bool.eq_iff_iff]; simp
        have h0' : (i == 0) = false := by simpa using h0
        rw [e1, h0']; simp
    ·rw [hup, Bool.true_and, Bool.true_and]; cases allN w.length (znAt w) <;> rfl
   ·have e : (w[0].apex == []) = false := by simpa using ha
    rw [e]
    refine rn_bind0 (l := [.bool true]) (out_call h1 (out_else (by simp) (out_if (inb_nat hpos) ?_))) (rn_if rfl rfl)
    rw [g0, e]; rfl
structure WGood (w : List Zn) : Prop where
 pos : 0 < w.length
 six : w.length ≤ 6
 root : (w.getD 0 Zn.nul).apex = []
 good : ∀ z ∈ w, z.good = true
 up : ∀ i j (hi : i < w.length) (hj : j < w.length), i < j → cmpN w[i].apex w[j].apex < 0
theorem wGood_of {w : List Zn} (h : wGood w = true) : WGood w := by
 unfold wGood at h
 simp only [Bool.and_eq_true, inP, decide_eq_true_eq, beq_iff_eq, allN_true] at h
 obtain ⟨h1, h2, h3⟩ := h
 have step : ∀ i (hi : i + 1 < w.length), cmpN w[i].apex w[i + 1].apex < 0 := by
  intro i hi
  have := h3 (i + 1) hi
  unfold znAt at this
  simp only [Bool.and_eq_true, getD_lt hi, Nat.add_sub_cancel, getD_lt (show i < w.length by omega), Bool.or_eq_true, beq_iff_eq, decide_eq_true_eq] at this
  rcases this.2 with h4 | h4
  ·omega
  ·exact h4
 refine ⟨by omega, by omega, h2, ?_, ?_⟩
 ·intro z hz
  obtain ⟨i, hi, rfl⟩ := List.getElem_of_mem hz
  have := h3 i hi
  unfold znAt at this
  simp only [Bool.and_eq_true, getD_lt hi] at this
  exact this.1
 ·intro i j
  induction j with
  | zero => intro _ _ h; omega
  | succ j ih =>
    intro hi hj hij
    have h4 := step j hj
    by_cases he : i = j
    ·subst he; exact h4
    ·have h5 := ih hi (by omega) (by omega)
     exact cmpN_cmp.lt (y := w[j].apex) (by omega) (by omega) (.inl (by omega))
def zAt (s : List UInt8) : List Zn → Option Nat
 | [] => none
 | z :: zs => if z.apex = s then some 0 else (zAt s zs).map (· + 1)
theorem zAt_some {s : List UInt8} : ∀ {w : List Zn} {k : Nat}, zAt s w = some k → ∃ h : k < w.length, w[k].apex = s ∧ ∀ j (hj : j < w.length), j < k → w[j].apex ≠ s
 | [], k, h => by simp [zAt] at h
 | z :: zs, k, h => by
   unfold zAt at h
   split at h
   ·rename_i hz
    simp only [Option.some.injEq] at h
    subst h
    exact ⟨by simp, hz, fun j _ hj => by omega⟩
   ·rename_i hz
    simp only [Option.map_eq_some_iff] at h
    obtain ⟨m, hm, rfl⟩ := h
    obtain ⟨h1, h2, h3⟩ := zAt_some hm
    refine ⟨by simp; omega, by simpa using h2, fun j hj hjm => ?_⟩
    cases j with
    | zero => simpa using hz
    | succ j => have := h3 j (by simpa using hj) (by omega); simpa using this
theorem zAt_none {s : List UInt8} : ∀ {w : List Zn}, zAt s w = none → ∀ z ∈ w, z.apex ≠ s
 | [], _, z, hz => by simp at hz
 | x :: zs, h, z, hz => by
   unfold zAt at h
   split at h
   ·cases h
   ·rename_i hx
    simp only [Option.map_eq_none_iff] at h
    simp only [List.mem_cons] at hz
    rcases hz with rfl | hz
    ·exact hx
    ·exact zAt_none h z hz
def ixI : Option Nat → Int
 | none => -1
 | some k => k
theorem f_l11At {w : List Zn} {s : List UInt8} (hl : w.length ≤ lim) : e_spec_l11At.F [wdD w, .str s] = some (.int (ixI (zAt s w))) := by
 have hsm := Nat.le_trans hl lim_smax
 rw [q_spec_l11At]
 have f0 : ((wdD w).fld 0).l = w.map Zn.d := rfl
 simp only [f0, List.length_map]
 rcases loop_find (l := [.int 0]) (fun i => [.int i]) w.length (fun i => !((w.getD i Zn.nul).apex == s)) (t1 := 0) (t2 := 1) (o1 := fun i => [.int i]) (o2 := []) (f := fun l2 =>
  if (decide ((gd l2 0).i < (w.length : Int))) then
   if (inb (gd l2 0).i w.length) then
   if (((gd (w.map Zn.d) (gd l2 0).i.toNat).fld 0).s == s) then
    ou 1 [(gd l2 0)]
   else
    ou 0 [(.int (IntKind.wrap .i64 ((gd l2 0).i + 1)))]
   else none
  else
   ou 2 []) rfl (by
  intro i hi hp
  rw [getD_lt hi] at hp
  have e0 : (gd [D.int (i : Int)] 0).i.toNat = i := by simp
  have e1 : (gd [D.int (i : Int)] 0).i = i := rfl
  have g0 : ∀ z : Zn, (z.d.fld 0).s = z.apex := fun _ => rfl
  rw [e0, e1, wrap_succ hi hsm, gd_zn hi, g0]
  exact out_if (by simpa using hi) (out_if (by simpa using inb_nat hi) (out_else (by simpa using hp) rfl))) (by
  intro i hi hp
  rw [getD_lt hi] at hp
  have e0 : (gd [D.int (i : Int)] 0).i.toNat = i := by simp
  have g0 : ∀ z : Zn, (z.d.fld 0).s = z.apex := fun _ => rfl
  rw [e0, gd_zn hi, g0]
  exact out_if (by simpa using hi) (out_if (by simpa using inb_nat hi) (out_if (by simpa using hp) rfl))) (by exact out_else (by simp) rfl) with ⟨hall, hloop⟩ | ⟨k, hk, hpk, hall, hloop⟩
 ·refine rn_bind hloop ?_
  cases hz : zAt s w with
  | none => rfl
  | some k =>
    obtain ⟨h1, h2, _⟩ := zAt_some hz
    have := hall k h1
    rw [getD_lt h1] at this
    simp [h2] at this
 ·refine rn_bind hloop ?_
  rw [getD_lt hk] at hpk
  have hks : w[k].apex = s := by simpa using hpk
  cases hz : zAt s w with
  | none => exact absurd hks (zAt_none hz _ (List.getElem_mem hk))
  | some m =>
    obtain ⟨h1, h2, h3⟩ := zAt_some hz
    have : m = k := by
     rcases Nat.lt_trichotomy m k with h4 | h4 | h4
     ·have := hall m h4
      rw [getD_lt h1] at this
      simp [h2] at this
     ·exact h4
     ·exact absurd hks (h3 k hk h4)
    rw [this]; rfl
theorem f_wfind {w : List Zn} {s : List UInt8} (hw : WIn lim w) (hg : WGood w) (hs : s.length ≤ lim) : ∃ n : Int, e_impl_World_find.F [wdD w, .str s] = some (.pair (.int n) (.pair (.bool (zAt s w).isSome) .unit)) ∧ ∀ k, zAt s w = some k → n = k := by
 obtain ⟨k, k1, k2, k3, b, hb, hr⟩ := bs_gen (f := Zn.d) (c := fun d => e_impl_World_find_1.F [d, .str s]) (xs := w) (cv := fun z => cmpN z.apex s) hw.len (fun z hz => by
  show e_impl_World_find_1.F [z.d, .str s] = _
  rw [q_impl_World_find_1]
  have g0 : z.d.fld 0 = .str z.apex := rfl
  rw [g0]
  exact rn_call (f_compareNames (hw.all z hz).apex hs) rfl) (fun i j hi hj hij h => by
  by_cases he : i = j
  ·subst he; exact h
  ·have h1 := hg.up i j hi hj (by omega)
   exact cmpN_cmp.lt (y := w[j].apex) (by omega) (by omega) (.inl (by omega)))
 have h2 : e_slices_BinarySearchFunc_impl_Zone_impl_Zone_string__impl_World_find_1.F [.lst (w.map Zn.d), .str s, .unit] = some (.pair (.int k) (.pair (.bool b) .unit)) := by
  rw [q_slices_BinarySearchFunc_impl_Zone_impl_Zone_string__impl_World_find_1]; exact hr
 have h3 : e_impl_World_find.F [wdD w, .str s] = some (.pair (.int k) (.pair (.bool b) .unit)) := by
  rw [q_impl_World_find]
  have g1 : (wdD w).fld 0 = .lst (w.map Zn.d) := rfl
  rw [g1]
  exact rn_call h2 rfl
 cases hz : zAt s w with
 | none =>
   have hbf : b = false := by
    cases b with
    | false => rfl
    | true =>
      obtain ⟨hk, he⟩ := hb.1 rfl
      exact absurd (cmpN_cmp.eq _ _ he) (zAt_none hz _ (List.getElem_mem hk))
   rw [hbf] at h3
   exact ⟨k, h3, fun _ h => by cases h⟩
 | some m =>
   obtain ⟨hm, hms, _⟩ := zAt_some hz
   have h0 : cmpN w[m].apex s = 0 := by rw [hms]; exact cmpN_cmp.refl _
   have hkm : k ≤ m := by
    rcases Nat.lt_or_ge m k with h1 | h1
    ·have := k2 m hm h1; omega
    ·exact h1
   have : k = m := by
    by_cases he : k = m
    ·exact he
    ·have h4 := hg.up k m (by omega) hm (by omega)
     rw [hms] at h4
     have := k3 k (by omega) (Nat.le_refl _)
     omega
   subst this
   have hbt : b = true := hb.2 ⟨hm, h0⟩
   rw [hbt] at h3
   exact ⟨k, h3, fun _ h => by cases h; rfl⟩
end Go.Proofs.YtbacjgkmkkphdaaGreatDoor
namespace Go.Proofs.YtbacjgkmkkphdaaGreatDoor
open Go Go.Own
theorem cut_dot {p q : List UInt8} (h : 46 ∉ p) : Lib.cut (p ++ 46 :: q) [46] = (p, q, true) := by
 unfold Lib.cut
 rw [index_one_cut h]
 simp
theorem cut_nodot {s : List UInt8} (h : 46 ∉ s) : Lib.cut s [46] = (s, [], false) := by
 unfold Lib.cut
 rw [index_one_none h]; rfl
theorem parent_cut : ∀ {p q : List UInt8}, 46 ∉ p → parent (p ++ 46 :: q) = q
 | [], q, _ => by simp [parent]
 | c :: p, q, h => by
   simp only [List.mem_cons, not_or] at h
   simp only [List.cons_append]
   unfold parent
   rw [if_neg (fun e => h.1 e.symm)]
   exact parent_cut h.2
theorem parent_nodot : ∀ {s : List UInt8}, 46 ∉ s → parent s = []
 | [], _ => rfl
 | c :: p, h => by
   simp only [List.mem_cons, not_or] at h
   unfold parent
   rw [if_neg (fun e => h.1 e.symm)]
   exact parent_nodot h.2
theorem f_parentOf {s : List UInt8} (h : s.length ≤ lim) : e_impl_parentOf.F [.str s] = some (.str (parent s)) := by
 rw [q_impl_parentOf]
 have hlim : lim = 1048576 := rfl
 have hc : e_strings_Cut.F [.str s, .str [46]] = some (cutD (Lib.cut s [46])) := by
  rw [show e_strings_Cut.F = cutF from by unfold e_strings_Cut cutE; rfl]
  unfold cutF
  exact if_pos (by simp; omega)
 refine rn_call hc ?_
 by_cases hd : 46 ∈ s
 ·obtain ⟨p, q, rfl, hp⟩ := mem_cut hd
  rw [cut_dot hp, parent_cut hp]; rfl
 ·rw [cut_nodot hd, parent_nodot hd]; rfl
theorem hasAt_filter {xs : List Rec} {n : List UInt8} {k : Int} (hk : k ≠ 0) : decide (0 < (xs.filter (isAt n k)).length) = hasAt xs n k := by
 rw [Bool.eq_iff_iff, decide_eq_true_iff]
 unfold hasAt
 rw [List.any_eq_true]
 constructor
 ·intro h
  obtain ⟨r, hr⟩ := List.exists_mem_of_length_pos h
  rw [List.mem_filter] at hr
  refine ⟨r, hr.1, ?_⟩
  have := hr.2
  unfold isAt at this
  simpa [hk] using this
 ·rintro ⟨r, hr, hb⟩
  apply List.length_pos_of_mem (a := r)
  rw [List.mem_filter]
  refine ⟨hr, ?_⟩
  unfold isAt
  simp only [Bool.and_eq_true] at hb ⊢
  exact ⟨hb.1, by simp [hb.2]⟩
theorem f_cutAbove {z : Zn} {s : List UInt8} (hz : z.In lim) (hs : s.length ≤ lim) (hup : Up s z.apex) : e_impl_cutAbove.F [z.d, .str s] = some (.pair (cutDt (cutOf z.apex z.recs s)).1 (.pair (cutDt (cutOf z.apex z.recs s)).2 .unit)) := by
 rw [q_impl_cutAbove]
 have f0 : (z.d.fld 0).s = z.apex := rfl
 have f2 : z.d.fld 2 = .lst (z.recs.map Rec.d) := rfl
 rw [f0, f2]
 have key : ∀ (n : Nat) (s : List UInt8) (o : Option (List UInt8)), s.length < n → s.length ≤ lim → Up s z.apex → loopF (fun l2 =>
  if (!((gd l2 0).s == z.apex)) then
   ((e_impl_at.F [(.lst (z.recs.map Rec.d)), (gd l2 0), (.int 2)]).bind fun r5 =>
     if (decide ((r5.l.length : Int) > 0)) then
      ou 0 [(gd l2 0), (.bool true)]
     else
      ou 0 [(gd l2 1), (gd l2 2)]).bind fun o5 =>
   sel2 o5.1 ((e_impl_parentOf.F [(gd l2 0)]).bind fun r7 =>
    ou 0 [r7, (gd o5.2 0), (gd o5.2 1)]) fun _ => none
  else
   ou 1 [(gd l2 1), (gd l2 2)]) [.str s, (cutDt o).1, (cutDt o).2] = some (0, [(cutDt (walkUp z.apex (fun n => hasAt z.recs n 2) n s o)).1, (cutDt (walkUp z.apex (fun n => hasAt z.recs n 2) n s o)).2]) := by
  intro n
  induction n with
  | zero => intro s o h; omega
  | succ n ih =>
    intro s o h hs hup
    unfold walkUp
    by_cases ha : s = z.apex
    ·rw [if_neg (fun hc => hc.1 ha)]
     exact loopF_exit (out_else (by simp [ha]) rfl)
    ·have hb := bel_iff.2 hup
     rw [if_pos ⟨ha, hb⟩]
     have h0 : s ≠ [] := by
      rintro rfl
      rcases hup.len with h1 | h1
      ·exact ha h1
      ·simp at h1
     rw [if_neg h0]
     have hpl := parent_len h0
     have hup2 : Up (parent s) z.apex := by
      cases hup with
      | refl => exact absurd rfl ha
      | step _ h2 => exact h2
     rw [← ih (parent s) (if hasAt z.recs s 2 then some s else o) (by omega) (by omega) hup2]
     have hat := f_at (xs := z.recs) (n := s) (k := 2) hz.len
     have h2 : ((e_impl_at.F [(.lst (z.recs.map Rec.d)), (D.str s), (.int 2)]).bind fun r5 =>
      if (decide ((r5.l.length : Int) > 0)) then
       ou 0 [(D.str s), (.bool true)]
      else
       ou 0 [(cutDt o).1, (cutDt o).2] : Outc) = some (0, [(cutDt (if hasAt z.recs s 2 then some s else o)).1, (cutDt (if hasAt z.recs s 2 then some s else o)).2]) := by
      refine out_call hat ?_
      have e : (D.lst ((z.recs.filter (isAt s 2)).map Rec.d)).l.length = (z.recs.filter (isAt s 2)).length := by simp
      have e2 : decide (((z.recs.filter (isAt s 2)).length : Int) > 0) = hasAt z.recs s 2 := by
       rw [← hasAt_filter (by decide), Bool.eq_iff_iff]; simp
      rw [e, e2]
      cases hasAt z.recs s 2 with
      | false => exact out_else (by simp) (by simp)
      | true => exact out_if rfl (by simp [cutDt])
     exact loopF_step (out_if (by simpa using ha) (out_bind h2 (sel0 (out_call (f_parentOf hs) rfl))))
 exact rn_bind (key (s.length + 1) s none (by omega) hs hup) rfl
def nextZ (w : List Zn) (k : Nat) (name : List UInt8) : Option Nat := match cutOf (w.getD k Zn.nul).apex (w.getD k Zn.nul).recs name with
 | none => none
 | some c => zAt c w
theorem f_l11Next {w : List Zn} {k : Nat} {s : List UInt8} (hw : WIn lim w) (hk : k < w.length) (hs : s.length ≤ lim) : e_spec_l11Next.F [wdD w, .int k, .str s] = some (.int (ixI (nextZ w k s))) := by
 rw [q_spec_l11Next]
 have f0 : ((wdD w).fld 0).l = w.map Zn.d := rfl
 simp only [f0, List.length_map, D.i_int, Int.toNat_natCast, gd_zn hk]
 have hz := hw.all _ (List.getElem_mem hk)
 have g0 : w[k].d.fld 0 = .str w[k].apex := rfl
 have g2 : w[k].d.fld 2 = .lst (w[k].recs.map Rec.d) := rfl
 rw [g0, g2]
 unfold nextZ
 rw [getD_lt hk]
 refine rn_if (inb_nat hk) (rn_call (f_l6Cut hz.apex hz.len hs) ?_)
 cases hc : cutOf w[k].apex w[k].recs s with
 | none => exact rn_if rfl rfl
 | some c => exact rn_else (by simp [cutDt, D.fld]) (rn_call (f_l11At hw.len) rfl)
theorem cutOf_between {apex : List UInt8} {xs : List Rec} {s c : List UInt8} (h : cutOf apex xs s = some c) : Up s c ∧ Up c apex ∧ c ≠ apex := by
 obtain ⟨_, h1, h2, h3⟩ := walk_sound (s0 := s) (s.length + 1) s none (.refl _) (fun x h => by cases h) c h
 exact ⟨h1, bel_iff.1 h3, h2⟩
theorem nextZ_some {w : List Zn} {k m : Nat} {s : List UInt8} (hk : k < w.length) (h : nextZ w k s = some m) : ∃ hm : m < w.length, Up s w[m].apex ∧ w[k].apex.length < w[m].apex.length ∧ cutOf w[k].apex w[k].recs s = some w[m].apex := by
 unfold nextZ at h
 rw [getD_lt hk] at h
 split at h
 ·cases h
 ·rename_i c hc
  obtain ⟨hm, hms, _⟩ := zAt_some h
  obtain ⟨h1, h2, h3⟩ := cutOf_between hc
  refine ⟨hm, by rw [hms]; exact h1, ?_, by rw [hms]; exact hc⟩
  rw [hms]
  rcases h2.len with h4 | h4
  ·exact absurd h4 h3
  ·exact h4
def Ch (w : List Zn) (s : List UInt8) (out : List (List UInt8)) : Prop := ∀ i (hi : i < out.length), (∃ z ∈ w, z.apex = out[i]) ∧ Up s out[i] ∧ ∀ h : 0 < i, Up out[i] (out[i - 1]'(by omega)) ∧ out[i] ≠ (out[i - 1]'(by omega))
theorem Ch.snoc {w : List Zn} {s x y : List UInt8} {out : List (List UInt8)} (h : Ch w s out) (hl : out.getLast? = some y) (hx : ∃ z ∈ w, z.apex = x) (hs : Up s x) (hxy : Up x y) (hne : x ≠ y) : Ch w s (out ++ [x]) := by
 intro i hi
 simp only [List.length_append, List.length_cons, List.length_nil] at hi
 have key : ∀ j (hj : j < out.length) (hj' : j < (out ++ [x]).length), (out ++ [x])[j] = out[j] := fun j hj _ => List.getElem_append_left hj
 by_cases h1 : i < out.length
 ·rw [key i h1]
  refine ⟨(h i h1).1, (h i h1).2.1, fun h0 => ?_⟩
  rw [key (i - 1) (by omega)]
  exact (h i h1).2.2 h0
 ·have : i = out.length := by omega
  subst this
  have e : (out ++ [x])[out.length] = x := by simp
  rw [e]
  refine ⟨hx, hs, fun h0 => ?_⟩
  rw [key (out.length - 1) (by omega)]
  have : out[out.length - 1]'(by omega) = y := by
   rw [List.getLast?_eq_getElem?, List.getElem?_eq_getElem (by omega)] at hl
   exact Option.some.inj hl
  rw [this]
  exact ⟨hxy, hne⟩
theorem reach_J {w : List Zn} {s : List UInt8} (hw : WIn lim w) (hg : WGood w) (hs : s.length ≤ lim) : ∀ (m k : Nat) (acc : List (List UInt8)), ∀ (hk : k < w.length), s.length - w[k].apex.length < m → Up s w[k].apex → acc.length + m ≤ 2 * lim → acc ≠ [] → Ch w s acc → acc.getLast? = some w[k].apex →
 ∃ out : List (List UInt8), out ≠ [] ∧ out.length ≤ 2 * lim ∧ Ch w s out ∧
 loopF (fun l4 =>
       if (decide ((gd l4 1).i ≥ 0)) then
        if (inb (gd l4 1).i w.length) then
        if (appOk 16 (gd l4 0).l (((gd (w.map Zn.d) (gd l4 1).i.toNat).fld 0) :: ([] : List D))) then
        (e_spec_l11Next.F [wdD w, (gd l4 1), .str s]).bind fun r6 =>
        ou 0 [(D.lst ((gd l4 0).l ++ (((gd (w.map Zn.d) (gd l4 1).i.toNat).fld 0) :: ([] : List D)))), r6]
        else none
        else none
       else
        ou 1 [(gd l4 0)]) [.lst (acc.map .str), .int (ixI (nextZ w k s))] = some (0, [.lst (out.map .str)]) ∧
 loopF (fun l2 =>
  if (inb (gd l2 0).i w.length) then
  (e_impl_cutAbove.F [(gd (w.map Zn.d) (gd l2 0).i.toNat), .str s]).bind fun r4 =>
  (e_impl_World_find.F [wdD w, (r4.fld 0)]).bind fun r5 =>
  (if (!(r4.fld 1).b) then
      ou 0 [(.bool true)]
    else
     ou 0 [(.bool (!(r5.fld 1).b))]).bind fun o6 =>
  sel2 o6.1 (if (gd o6.2 0).b then
   ou 1 [(gd l2 1)]
   else
    if (appOk 16 (gd l2 1).l ((r4.fld 0) :: ([] : List D))) then
    ou 0 [(r5.fld 0), (D.lst ((gd l2 1).l ++ ((r4.fld 0) :: ([] : List D))))]
    else none) fun _ => none
  else none) [.int k, .lst (acc.map .str)] = some (0, [.lst (out.map .str)]) := by
 have hlim : lim = 1048576 := rfl
 intro m
 induction m with
 | zero => intro k acc hk h; omega
 | succ m ih =>
   intro k acc hk h hup hal hne hch hla
   have hz := hw.all _ (List.getElem_mem hk)
   have hcut := f_cutAbove hz hs hup
   have g0 : gd [D.int (k : Int), D.lst (acc.map D.str)] 0 = .int k := rfl
   have g1 : gd [D.int (k : Int), D.lst (acc.map D.str)] 1 = .lst (acc.map .str) := rfl
   cases hn : nextZ w k s with
   | none =>
     refine ⟨acc, hne, by omega, hch, loopF_exit (out_else (fun h => by have h' : (-1 : Int) ≥ 0 := of_decide_eq_true h; omega) rfl), loopF_exit ?_⟩
     rw [g0, g1, D.i_int, Int.toNat_natCast, gd_zn hk]
     refine out_if (inb_nat hk) (out_call hcut ?_)
     unfold nextZ at hn
     rw [getD_lt hk] at hn
     cases hc : cutOf w[k].apex w[k].recs s with
     | none =>
       obtain ⟨n, hf, _⟩ := f_wfind hw hg (s := []) (by simp)
       refine out_call (r := .pair (.int n) (.pair (.bool (zAt [] w).isSome) .unit)) hf (out_bind (r := (0, [.bool true])) (out_if rfl rfl) (sel0 (out_if rfl rfl)))
     | some c =>
       rw [hc] at hn
       have hcl : c.length ≤ lim := by
        have := (cutOf_between hc).1.len
        rcases this with h1 | h1
        ·rw [← h1]; exact hs
        ·omega
       obtain ⟨n, hf, _⟩ := f_wfind hw hg hcl
       simp only at hn
       rw [hn] at hf
       refine out_call (r := .pair (.int n) (.pair (.bool false) .unit)) hf (out_bind (r := (0, [.bool true])) (out_else (by simp [cutDt, D.fld]) rfl) (sel0 (out_if rfl rfl)))
   | some j =>
     obtain ⟨hj, hupj, hlt, hcj⟩ := nextZ_some hk hn
     have hjl : w[j].apex.length ≤ s.length := by
      rcases hupj.len with h1 | h1
      ·rw [← h1]; exact Nat.le_refl _
      ·omega
     have hbt := cutOf_between hcj
     obtain ⟨out, ho, hol, hco, hS, hI⟩ := ih j (acc ++ [w[j].apex]) hj (by omega) hupj (by simp; omega) (by simp) (hch.snoc hla ⟨_, List.getElem_mem hj, rfl⟩ hupj hbt.2.1 hbt.2.2) (by simp)
     have hal2 : appOk 16 (acc.map D.str) [.str w[j].apex] = true := by
      simp [appOk, smax_eq]; omega
     refine ⟨out, ho, hol, hco, ?_, ?_⟩
     ·rw [← hS]
      refine loopF_step ?_
      have gs0 : gd [D.lst (acc.map D.str), D.int (ixI (some j))] 0 = .lst (acc.map .str) := rfl
      have gs1 : gd [D.lst (acc.map D.str), D.int (ixI (some j))] 1 = .int (j : Int) := rfl
      rw [gs0, gs1, D.i_int, Int.toNat_natCast, gd_zn hj]
      have ga : w[j].d.fld 0 = .str w[j].apex := rfl
      rw [ga]
      refine out_if (decide_eq_true (by omega)) (out_if (inb_nat hj) (out_if hal2 (out_call (f_l11Next hw hj hs) ?_)))
      simp
     ·rw [← hI]
      refine loopF_step ?_
      rw [g0, g1, D.i_int, Int.toNat_natCast, gd_zn hk]
      rw [hcj] at hcut
      obtain ⟨n, hf, hnk⟩ := f_wfind hw hg (s := w[j].apex) (by omega)
      have hzj : zAt w[j].apex w = some j := by
       have h2 := hn
       unfold nextZ at h2
       rw [getD_lt hk, hcj] at h2
       exact h2
      rw [hzj] at hf
      have := hnk j hzj
      subst this
      refine out_if (inb_nat hk) (out_call hcut (out_call (r := .pair (.int (j : Int)) (.pair (.bool true) .unit)) hf (out_bind (r := (0, [.bool false])) (out_else (by simp [cutDt, D.fld]) rfl) (sel0 (out_else (by simp) (out_if hal2 ?_))))))
      show some (0, [D.int (j : Int), D.lst (acc.map D.str ++ [.str w[j].apex])]) = _
      simp
theorem f_reached {w : List Zn} {s : List UInt8} (hw : WIn lim w) (hg : WGood w) (hs : s.length ≤ lim) : ∃ out : List (List UInt8), out ≠ [] ∧ out.length ≤ 2 * lim ∧ Ch w s out ∧ e_impl_reachedBy.F [wdD w, .str s] = some (.lst (out.map .str)) ∧
 (isName s = true → wGood w = true → e_spec_ReachedBy.F [wdD w, .str s] = some (.pair (.lst (out.map .str)) (.pair (.bool true) .unit))) := by
 have hlim : lim = 1048576 := rfl
 have hroot := hg.root
 rw [getD_lt hg.pos] at hroot
 have hc0 : Ch w s [[]] := by
  intro i hi
  simp only [List.length_cons, List.length_nil] at hi
  have : i = 0 := by omega
  subst this
  exact ⟨⟨_, List.getElem_mem hg.pos, hroot⟩, up_nil _ _ (Nat.le_refl _), fun h => by omega⟩
 obtain ⟨out, h1, h2, h3, hS, hI⟩ := reach_J hw hg hs (s.length + 1) 0 [[]] hg.pos (by omega) (by rw [hroot]; exact up_nil _ _ (Nat.le_refl _)) (by simp; omega) (by simp) hc0 (by rw [hroot]; rfl)
 refine ⟨out, h1, h2, h3, ?_, ?_⟩
 ·rw [q_impl_reachedBy]
  have f0 : ((wdD w).fld 0).l = w.map Zn.d := rfl
  simp only [f0, List.length_map]
  exact rn_bind hI rfl
 ·intro hn hgw
  rw [q_spec_ReachedBy]
  have f0 : ((wdD w).fld 0).l = w.map Zn.d := rfl
  simp only [f0, List.length_map]
  have hG := f_specGoodWorld hw
  rw [hgw] at hG
  have hN := f_specGoodName s hs
  rw [hn] at hN
  refine rn_bind0 (l := [.bool false]) (out_call hG (out_else (by simp) (out_call hN rfl))) (rn_else (by simp) (rn_call (f_l11Next (k := 0) hw hg.pos hs) (rn_bind hS rfl)))
theorem last_out {out : List (List UInt8)} (h : out ≠ []) (hl : out.length ≤ 2 * lim) : IntKind.wrap .i64 (((out.map D.str).length : Int) - 1) = ((out.length - 1 : Nat) : Int) ∧ out.length - 1 < out.length := by
 have hlim : lim = 1048576 := rfl
 have hpos : 0 < out.length := List.length_pos_iff.2 h
 rw [List.length_map]
 refine ⟨?_, by omega⟩
 rw [wrap_id] <;> omega
theorem f_IsDelegated {w : List Zn} {s : List UInt8} (hw : WIn lim w) (hs : s.length ≤ lim) : ∃ a b : Bool, e_impl_IsDelegated.F [wdD w, .str s] = some (.pair (.bool a) (.pair (.bool b) .unit)) ∧ e_spec_IsDelegated.F [wdD w, .str s] = some (.pair (.bool a) (.pair (.bool b) .unit)) := by
 rw [q_impl_IsDelegated, q_spec_IsDelegated]
 have hI := f_GoodWorld hw
 have hS := f_specGoodWorld hw
 cases hgw : wGood w with
 | false =>
   rw [hgw] at hI hS
   exact ⟨false, false, rn_bind0 (l := [.bool true]) (out_call hI (out_if rfl rfl)) (rn_if rfl rfl), rn_bind0 (l := [.bool true]) (out_call hS (out_if rfl rfl)) (rn_if rfl rfl)⟩
 | true =>
   rw [hgw] at hI hS
   have hg := wGood_of hgw
   have hN := f_GoodName s
   have hat := f_l11At (w := w) (s := s) hw.len
   cases hz : zAt s w with
   | none =>
     rw [hz] at hat
     have hs2 : rn (((e_spec_GoodWorld.F [wdD w]).bind fun r2 =>
      if (!r2.b) then
       ou 0 [(.bool true)]
      else
       (e_spec_l11At.F [wdD w, .str s]).bind fun r3 =>
       ou 0 [(.bool (decide (r3.i < 0)))]).bind fun o2 =>
      sel2 o2.1 (if (gd o2.2 0).b then
       ou 0 [(.pair (.bool false) (.pair (.bool false) .unit))]
       else
        (e_spec_ReachedBy.F [wdD w, .str s]).bind fun r3 =>
        if (inb (IntKind.wrap .i64 (((r3.fld 0).l.length : Int) - 1)) (r3.fld 0).l.length) then
        ou 0 [(.pair (.bool ((gd (r3.fld 0).l (IntKind.wrap .i64 (((r3.fld 0).l.length : Int) - 1)).toNat).s == (D.str s).s)) (.pair (.bool true) .unit))]
        else none) fun _ => none) = some (.pair (.bool false) (.pair (.bool false) .unit)) :=
      rn_bind0 (l := [.bool true]) (out_call hS (out_else (by simp) (out_call hat rfl))) (rn_if rfl rfl)
     refine ⟨false, false, ?_, hs2⟩
     cases hn : isName s with
     | false => rw [hn] at hN; exact rn_bind0 (l := [.bool true]) (out_call hI (out_else (by simp) (out_call hN rfl))) (rn_if rfl rfl)
     | true =>
       rw [hn] at hN
       obtain ⟨n, hf, _⟩ := f_wfind hw hg hs
       rw [hz] at hf
       exact rn_bind0 (l := [.bool false]) (out_call hI (out_else (by simp) (out_call hN rfl))) (rn_else (by simp) (rn_call hf (rn_if rfl rfl)))
   | some k =>
     rw [hz] at hat
     obtain ⟨hk, hks, _⟩ := zAt_some hz
     have hn : isName s = true := by rw [← hks]; exact Zn.good_name (hg.good _ (List.getElem_mem hk))
     rw [hn] at hN
     obtain ⟨n, hf, _⟩ := f_wfind hw hg hs
     rw [hz] at hf
     obtain ⟨out, ho, hol, _, hR, hRS⟩ := f_reached hw hg hs
     obtain ⟨hw1, hlt⟩ := last_out ho hol
     have hRS' := hRS hn hgw
     refine ⟨(out.getD (out.length - 1) [] == s), true, rn_bind0 (l := [.bool false]) (out_call hI (out_else (by simp) (out_call hN rfl))) (rn_else (by simp) (rn_call hf (rn_else (by simp [D.fld]) (rn_call hR ?_)))), rn_bind0 (l := [.bool false]) (out_call hS (out_else (by simp) (out_call hat ?_))) (rn_else (by simp) (rn_call hRS' ?_))⟩
     ·simp only [D.l_lst, hw1, Int.toNat_natCast, gd_map hlt, getD_lt hlt]
      exact rn_if (by rw [List.length_map]; exact inb_nat hlt) rfl
     ·show some (0, [D.bool (decide ((k : Int) < 0))]) = _
      have : decide ((k : Int) < 0) = false := decide_eq_false (by omega)
      rw [this]
     ·have f0 : ((D.pair (.lst (out.map D.str)) (.pair (.bool true) .unit)).fld 0).l = out.map D.str := rfl
      rw [f0]
      simp only [hw1, Int.toNat_natCast, gd_map hlt, getD_lt hlt]
      exact rn_if (by rw [List.length_map]; exact inb_nat hlt) rfl
theorem f_ReachedBy {w : List Zn} {s : List UInt8} (hw : WIn lim w) (hs : s.length ≤ lim) : ∃ (out : List (List UInt8)) (b : Bool), out.length ≤ 2 * lim ∧ (b = (wGood w && isName s)) ∧ (b = true → out ≠ [] ∧ Ch w s out) ∧ e_impl_ReachedBy.F [wdD w, .str s] = some (.pair (.lst (out.map .str)) (.pair (.bool b) .unit)) ∧ e_spec_ReachedBy.F [wdD w, .str s] = some (.pair (.lst (out.map .str)) (.pair (.bool b) .unit)) := by
 have hI := f_GoodWorld hw
 have hS := f_specGoodWorld hw
 have hN := f_GoodName s
 have hNS := f_specGoodName s hs
 cases hgw : wGood w with
 | false =>
   rw [hgw] at hI hS
   rw [q_impl_ReachedBy, q_spec_ReachedBy]
   exact ⟨[], false, by simp, rfl, by simp, rn_bind0 (l := [.bool true]) (out_call hI (out_if rfl rfl)) (rn_if rfl rfl), rn_bind0 (l := [.bool true]) (out_call hS (out_if rfl rfl)) (rn_if rfl rfl)⟩
 | true =>
   rw [hgw] at hI hS
   cases hn : isName s with
   | false =>
     rw [hn] at hN hNS
     rw [q_impl_ReachedBy, q_spec_ReachedBy]
     exact ⟨[], false, by simp, rfl, by simp, rn_bind0 (l := [.bool true]) (out_call hI (out_else (by simp) (out_call hN rfl))) (rn_if rfl rfl), rn_bind0 (l := [.bool true]) (out_call hS (out_else (by simp) (out_call hNS rfl))) (rn_if rfl rfl)⟩
   | true =>
     rw [hn] at hN
     obtain ⟨out, ho, hol, hco, hR, hRS⟩ := f_reached hw (wGood_of hgw) hs
     refine ⟨out, true, hol, rfl, fun _ => ⟨ho, hco⟩, ?_, hRS hn hgw⟩
     rw [q_impl_ReachedBy]
     exact rn_bind0 (l := [.bool false]) (out_call hI (out_else (by simp) (out_call hN rfl))) (rn_else (by simp) (rn_call hR rfl))
end Go.Proofs.YtbacjgkmkkphdaaGreatDoor
