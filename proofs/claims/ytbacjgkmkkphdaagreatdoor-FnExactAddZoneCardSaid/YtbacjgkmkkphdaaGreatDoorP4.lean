/- What the functions compute, in plain words. -/
import Derived.Test.YtbacjgkmkkphdaaGreatDoorP3
set_option linter.unusedSectionVars false
set_option linter.unusedVariables false
set_option linter.unusedSimpArgs false
namespace Go.Proofs.YtbacjgkmkkphdaaGreatDoor
open Go Go.Own
theorem mid_wrap {a b : Nat} (h : a + b ≤ 4 * lim) : IntKind.wrap .i64 ((IntKind.wrap .u64 (IntKind.wrap .i64 ((a : Int) + (b : Int)))).fdiv (2 ^ min 1 (IntKind.bits .u64))) = (((a + b) / 2 : Nat) : Int) := by
 have hlim : lim = 1048576 := rfl
 have w1 : IntKind.wrap .i64 ((a : Int) + (b : Int)) = ((a + b : Nat) : Int) := by rw [wrap_id] <;> omega
 have w2 : IntKind.wrap .u64 ((a + b : Nat) : Int) = ((a + b : Nat) : Int) := by
  have : IntKind.wrap .u64 ((a + b : Nat) : Int) = ((a + b : Nat) : Int) % 2 ^ 64 := by simp [IntKind.wrap, IntKind.bits, IntKind.signed]
  rw [this]; omega
 have e : min 1 (IntKind.bits .u64) = 1 := rfl
 rw [w1, w2, e, fdiv_pow, show (2 : Nat) ^ 1 = 2 from rfl, wrap_id] <;> omega
theorem bs_gen {α : Type} {f : α → D} {c : D → Option D} {xs : List α} {cv : α → Int} (hl : xs.length ≤ lim) (hc : ∀ x ∈ xs, c (f x) = some (.int (cv x)))
 (mono : ∀ i j (hi : i < xs.length) (hj : j < xs.length), i ≤ j → cv xs[j] < 0 → cv xs[i] < 0) :
 ∃ k : Nat, k ≤ xs.length ∧ (∀ i (hi : i < xs.length), i < k → cv xs[i] < 0) ∧ (∀ i (hi : i < xs.length), k ≤ i → 0 ≤ cv xs[i]) ∧ ∃ b : Bool, (b = true ↔ ∃ h : k < xs.length, cv xs[k] = 0) ∧ rn ((loopF (fun l3 =>
  if (decide ((gd l3 0).i < (gd l3 1).i)) then
   if (decide (0 ≤ 1)) then
   if (inb (IntKind.wrap .i64 ((IntKind.wrap .u64 (IntKind.wrap .i64 ((gd l3 0).i + (gd l3 1).i))).fdiv (2 ^ min 1 (IntKind.bits .u64)))) (D.lst (xs.map f)).l.length) then
   (c (gd (D.lst (xs.map f)).l (IntKind.wrap .i64 ((IntKind.wrap .u64 (IntKind.wrap .i64 ((gd l3 0).i + (gd l3 1).i))).fdiv (2 ^ min 1 (IntKind.bits .u64)))).toNat)).bind fun r5 =>
   if (decide (r5.i < 0)) then
    ou 0 [(.int (IntKind.wrap .i64 ((IntKind.wrap .i64 ((IntKind.wrap .u64 (IntKind.wrap .i64 ((gd l3 0).i + (gd l3 1).i))).fdiv (2 ^ min 1 (IntKind.bits .u64)))) + 1))), (gd l3 1)]
   else
    ou 0 [(gd l3 0), (.int (IntKind.wrap .i64 ((IntKind.wrap .u64 (IntKind.wrap .i64 ((gd l3 0).i + (gd l3 1).i))).fdiv (2 ^ min 1 (IntKind.bits .u64)))))]
   else none
   else none
  else
   ou 1 [(gd l3 0)]) [(.int 0), (.int ((D.lst (xs.map f)).l.length : Int))]).bind fun o3 =>
 sel2 o3.1 ((if (decide ((gd o3.2 0).i < ((D.lst (xs.map f)).l.length : Int))) then
  if (inb (gd o3.2 0).i (D.lst (xs.map f)).l.length) then
  (c (gd (D.lst (xs.map f)).l (gd o3.2 0).i.toNat)).bind fun r4 =>
  ou 0 [(gd o3.2 0), (.bool (r4.i == 0))]
  else none
  else
   ou 0 [(gd o3.2 0), (.bool false)]).bind fun o4 =>
  sel2 o4.1 (ou 0 [(.pair (gd o4.2 0) (.pair (gd o4.2 1) .unit))]) fun _ => none) fun _ => none) = some (.pair (.int k) (.pair (.bool b) .unit)) := by
 have hlim : lim = 1048576 := rfl
 have hlen : (D.lst (xs.map f)).l.length = xs.length := by simp
 rw [hlen]
 have key : ∀ (m lo hi : Nat), hi - lo ≤ m → lo ≤ hi → hi ≤ xs.length → (∀ i (h : i < xs.length), i < lo → cv xs[i] < 0) → (∀ i (h : i < xs.length), hi ≤ i → 0 ≤ cv xs[i]) →
  ∃ k : Nat, k ≤ xs.length ∧ (∀ i (hi : i < xs.length), i < k → cv xs[i] < 0) ∧ (∀ i (hi : i < xs.length), k ≤ i → 0 ≤ cv xs[i]) ∧ loopF (fun l3 =>
  if (decide ((gd l3 0).i < (gd l3 1).i)) then
   if (decide (0 ≤ 1)) then
   if (inb (IntKind.wrap .i64 ((IntKind.wrap .u64 (IntKind.wrap .i64 ((gd l3 0).i + (gd l3 1).i))).fdiv (2 ^ min 1 (IntKind.bits .u64)))) xs.length) then
   (c (gd (D.lst (xs.map f)).l (IntKind.wrap .i64 ((IntKind.wrap .u64 (IntKind.wrap .i64 ((gd l3 0).i + (gd l3 1).i))).fdiv (2 ^ min 1 (IntKind.bits .u64)))).toNat)).bind fun r5 =>
   if (decide (r5.i < 0)) then
    ou 0 [(.int (IntKind.wrap .i64 ((IntKind.wrap .i64 ((IntKind.wrap .u64 (IntKind.wrap .i64 ((gd l3 0).i + (gd l3 1).i))).fdiv (2 ^ min 1 (IntKind.bits .u64)))) + 1))), (gd l3 1)]
   else
    ou 0 [(gd l3 0), (.int (IntKind.wrap .i64 ((IntKind.wrap .u64 (IntKind.wrap .i64 ((gd l3 0).i + (gd l3 1).i))).fdiv (2 ^ min 1 (IntKind.bits .u64)))))]
   else none
   else none
  else
   ou 1 [(gd l3 0)]) [.int lo, .int hi] = some (0, [.int k]) := by
  intro m
  induction m with
  | zero =>
    intro lo hi h1 h2 h3 h4 h5
    have : lo = hi := by omega
    subst this
    exact ⟨lo, h3, h4, h5, loopF_exit (out_else (by simp) rfl)⟩
  | succ m ih =>
    intro lo hi h1 h2 h3 h4 h5
    by_cases hlt : lo < hi
    ·have hm := mid_wrap (a := lo) (b := hi) (by omega)
     have hmid : (lo + hi) / 2 < xs.length := by omega
     have g0 : (gd [D.int (lo : Int), D.int (hi : Int)] 0).i = (lo : Int) := rfl
     have g1 : (gd [D.int (lo : Int), D.int (hi : Int)] 1).i = (hi : Int) := rfl
     have hcm := hc _ (List.getElem_mem hmid)
     by_cases hneg : cv xs[(lo + hi) / 2] < 0
     ·obtain ⟨k, k1, k2, k3, k4⟩ := ih ((lo + hi) / 2 + 1) hi (by omega) (by omega) h3 (fun i h hi' => mono i _ h hmid (by omega) hneg) h5
      refine ⟨k, k1, k2, k3, ?_⟩
      rw [loopF_step (l' := [.int (((lo + hi) / 2 + 1 : Nat) : Int), .int hi]) ?_]
      ·exact k4
      ·have w : IntKind.wrap .i64 ((((lo + hi) / 2 : Nat) : Int) + 1) = (((lo + hi) / 2 + 1 : Nat) : Int) := by rw [wrap_id] <;> omega
       rw [g0, g1, hm, w]
       refine out_if (decide_eq_true (by omega)) (out_if (by decide) (out_if (inb_nat hmid) ?_))
       rw [Int.toNat_natCast, D.l_lst, gd_map hmid]
       exact out_call hcm (out_if (decide_eq_true hneg) rfl)
     ·obtain ⟨k, k1, k2, k3, k4⟩ := ih lo ((lo + hi) / 2) (by omega) (by omega) (by omega) h4 (fun i h hi' => by
       by_cases hn : cv xs[i] < 0
       ·exact absurd (mono _ i hmid h hi' hn) hneg
       ·omega)
      refine ⟨k, k1, k2, k3, ?_⟩
      rw [loopF_step (l' := [.int lo, .int (((lo + hi) / 2 : Nat) : Int)]) ?_]
      ·exact k4
      ·rw [g0, g1, hm]
       refine out_if (decide_eq_true (by omega)) (out_if (by decide) (out_if (inb_nat hmid) ?_))
       rw [Int.toNat_natCast, D.l_lst, gd_map hmid]
       exact out_call hcm (out_else (fun h => hneg (of_decide_eq_true h)) rfl)
    ·have : lo = hi := by omega
     subst this
     exact ⟨lo, h3, h4, h5, loopF_exit (out_else (by simp) rfl)⟩
 obtain ⟨k, k1, k2, k3, k4⟩ := key xs.length 0 xs.length (by omega) (by omega) (Nat.le_refl _) (fun i h hi => by omega) (fun i h hi => by omega)
 by_cases hk : k < xs.length
 ·refine ⟨k, k1, k2, k3, (cv xs[k] == 0), ?_, rn_bind k4 (rn_bind0 (l := [.int k, .bool (cv xs[k] == 0)]) (out_if (decide_eq_true (by simp; omega)) (out_if (inb_nat hk) ?_)) rfl)⟩
  ·simp only [beq_iff_eq]
   exact ⟨fun h => ⟨hk, h⟩, fun ⟨_, h⟩ => h⟩
  ·simp only [gd_zero, D.i_int, Int.toNat_natCast, D.l_lst, gd_map hk]
   exact out_call (hc _ (List.getElem_mem hk)) rfl
 ·refine ⟨k, k1, k2, k3, false, ?_, rn_bind k4 (rn_bind0 (l := [.int k, .bool false]) (out_else (fun h => hk ?_) rfl) rfl)⟩
  ·constructor
   ·intro h; cases h
   ·rintro ⟨h, _⟩; exact absurd h hk
  ·have h' : (k : Int) < (xs.length : Int) := of_decide_eq_true h
   omega
end Go.Proofs.YtbacjgkmkkphdaaGreatDoor
namespace Go.Own
variable [Glb]
open Go
end Go.Own
namespace Go.Proofs.YtbacjgkmkkphdaaGreatDoor
open Go Go.Own
def wdD (w : List Zn) : D := .pair (.lst (w.map Zn.d)) .unit
structure WIn (B : Nat) (w : List Zn) : Prop where
 len : w.length ≤ B
 all : ∀ z ∈ w, z.In B
theorem WIn.smax {w : List Zn} (h : WIn lim w) : WIn smax w := ⟨Nat.le_trans h.len lim_smax, fun z hz => (h.all z hz).smax⟩
theorem gd_zn {xs : List Zn} {i : Nat} (hi : i < xs.length) : gd (xs.map Zn.d) i = xs[i].d := gd_map hi
def Zn.nul : Zn := ⟨[], 0, []⟩
abbrev tWorld : T := .pair (.lst false tZone) .unit
theorem world_of {B : Nat} {d : D} (h : Sm B tWorld d) : ∃ w : List Zn, d = wdD w ∧ WIn B w := by
 obtain ⟨_, _, rfl, ⟨xs, rfl, hl, hc⟩, rfl⟩ := h
 obtain ⟨ys, rfl, hys⟩ := list_of (g := Zn.d) (Q := fun z => z.In B) (fun x hx => zone_of (hc x hx))
 exact ⟨ys, rfl, by simpa using hl, hys⟩
noncomputable def znAt (w : List Zn) (i : Nat) : Bool := (w.getD i Zn.nul).good && (i == 0 || decide (cmpN (w.getD (i - 1) Zn.nul).apex (w.getD i Zn.nul).apex < 0))
noncomputable def wGood (w : List Zn) : Bool := inP w.length 1 6 && ((w.getD 0 Zn.nul).apex == [] && allN w.length (znAt w))
theorem f_GoodWorld {w : List Zn} (hw : WIn lim w) : e_impl_GoodWorld.F [wdD w] = some (.bool (wGood w)) := by
 have hsm := Nat.le_trans hw.len lim_smax
 rw [q_impl_GoodWorld]
 have f0 : ((wdD w).fld 0).l = w.map Zn.d := rfl
 simp only [f0, List.length_map]
 have h1 := f_withinP w.length 1 6
 unfold wGood
 cases k1 : inP w.length 1 6 with
 | false => rw [k1] at h1; exact rn_bind0 (l := [.bool true]) (out_call h1 (out_if rfl rfl)) (rn_if rfl rfl)
 | true =>
   rw [k1] at h1
   have hpos : 0 < w.length := by
    simp only [inP, Bool.and_eq_true, decide_eq_true_eq] at k1; omega
   have g0 : ((gd (w.map Zn.d) 0).fld 0).s = w[0].apex := by rw [gd_zn hpos]; rfl
   rw [getD_lt hpos]
   by_cases ha : w[0].apex = []
   ·have e : (w[0].apex == []) = true := by simpa using ha
    rw [e]
    refine rn_bind0 (l := [.bool false]) (out_call h1 (out_else (by simp) (out_if (inb_nat hpos) ?_))) (rn_else (by simp) ?_)
    ·rw [g0]; simp [ha]
    refine rn_bind (loop_all' (fun i => [.int i]) w.length (znAt w) (t1 := 0) (t2 := 1) (o1 := [.bool false]) (o2 := []) rfl ?_ (by exact out_else (by simp) rfl)) ?_
    ·intro i hi
     have e0 : (gd [D.int (i : Int)] 0).i.toNat = i := by simp
     have e1 : (gd [D.int (i : Int)] 0).i = i := rfl
     rw [e0, e1, wrap_succ hi hsm, gd_zn hi]
     refine out_if (by simpa using hi) (out_if (by simpa using inb_nat hi) (out_bind (r := (0, [.bool !(znAt w i)])) ?_ (sel0 (by cases znAt w i <;> simp))))
     have hz := f_GoodZone (hw.all _ (List.getElem_mem hi))
     unfold znAt
     rw [getD_lt hi]
     cases hk : w[i].good with
     | false => rw [hk] at hz; exact out_call hz (out_if rfl rfl)
     | true =>
       rw [hk] at hz
       refine out_call hz (out_else (by simp) ?_)
       by_cases h0 : i = 0
       ·subst h0; exact out_else (by simp) rfl
       ·have w1 : IntKind.wrap .i64 ((i : Int) - 1) = ((i - 1 : Nat) : Int) := by rw [smax_eq] at hsm; rw [wrap_id] <;> omega
        have hi1 : i - 1 < w.length := by omega
        have hc := f_compareNames (hw.all _ (List.getElem_mem hi1)).apex (hw.all _ (List.getElem_mem hi)).apex
        refine out_if (decide_eq_true (by omega)) (out_if (by rw [w1]; exact inb_nat hi1) ?_)
        rw [w1, Int.toNat_natCast, gd_zn hi1, getD_lt hi1]
        have g1 : ∀ z : Zn, z.d.fld 0 = .str z.apex := fun _ => rfl
        rw [g1, g1]
        refine out_call hc ?_
        have e1 : decide ((D.int (cmpN w[i - 1].apex w[i].apex)).i ≥ 0) = !(decide (cmpN w[i - 1].apex w[i].apex < 0)) := by
         rw [Bool.eq_iff_iff]; simp
        have h0' : (i == 0) = false := by simpa using h0
        rw [e1, h0']; simp
    ·rw [Bool.true_and, Bool.true_and]; cases allN w.length (znAt w) <;> rfl
   ·have e : (w[0].apex == []) = false := by simpa using ha
    rw [e]
    refine rn_bind0 (l := [.bool true]) (out_call h1 (out_else (by simp) (out_if (inb_nat hpos) ?_))) (rn_if rfl rfl)
    rw [g0, e]; rfl
theorem Zn.good_name {z : Zn} (h : z.good = true) : isName z.apex = true := by
 have := (Zn.good_iff.1 h).apx
 unfold isApx at this
 simp only [Bool.and_eq_true] at this
 exact this.1
theorem f_specGoodWorld {w : List Zn} (hw : WIn lim w) : e_spec_GoodWorld.F [wdD w] = some (.bool (wGood w)) := by
 have hsm := Nat.le_trans hw.len lim_smax
 rw [q_spec_GoodWorld]
 have f0 : ((wdD w).fld 0).l = w.map Zn.d := rfl
 simp only [f0, List.length_map]
 have h1 := f_l1InP w.length 1 6
 unfold wGood
 cases k1 : inP w.length 1 6 with
 | false => rw [k1] at h1; exact rn_bind0 (l := [.bool true]) (out_call h1 (out_if rfl rfl)) (rn_if rfl rfl)
 | true =>
   rw [k1] at h1
   have hpos : 0 < w.length := by
    simp only [inP, Bool.and_eq_true, decide_eq_true_eq] at k1; omega
   have g0 : ((gd (w.map Zn.d) 0).fld 0).s = w[0].apex := by rw [gd_zn hpos]; rfl
   rw [getD_lt hpos]
   by_cases ha : w[0].apex = []
   ·have e : (w[0].apex == []) = true := by simpa using ha
    rw [e]
    refine rn_bind0 (l := [.bool false]) (out_call h1 (out_else (by simp) (out_if (inb_nat hpos) ?_))) (rn_else (by simp) ?_)
    ·rw [g0]; simp [ha]
    have hcs : ∀ i, i < w.length → ∃ n : Int, e_spec_l1Compare.F [.str (w.getD (i - 1) Zn.nul).apex, .str (w.getD i Zn.nul).apex] = some (.int n) ∧ (isName (w.getD (i - 1) Zn.nul).apex = true → isName (w.getD i Zn.nul).apex = true → n = cmpN (w.getD (i - 1) Zn.nul).apex (w.getD i Zn.nul).apex) := by
     intro i hi
     have hi1 : i - 1 < w.length := by omega
     rw [getD_lt hi, getD_lt hi1]
     exact f_l1Compare (hw.all _ (List.getElem_mem hi1)).apex (hw.all _ (List.getElem_mem hi)).apex
    let cS : Nat → Int := fun i => match e_spec_l1Compare.F [.str (w.getD (i - 1) Zn.nul).apex, .str (w.getD i Zn.nul).apex] with
     | some (.int n) => n
     | _ => 0
    have hcS : ∀ i, i < w.length → e_spec_l1Compare.F [.str (w.getD (i - 1) Zn.nul).apex, .str (w.getD i Zn.nul).apex] = some (.int (cS i)) ∧ ((w.getD (i - 1) Zn.nul).good = true → (w.getD i Zn.nul).good = true → cS i = cmpN (w.getD (i - 1) Zn.nul).apex (w.getD i Zn.nul).apex) := by
     intro i hi
     obtain ⟨n, h1, h2⟩ := hcs i hi
     have : cS i = n := by simp only [cS, h1]
     rw [this]; exact ⟨h1, fun a b => h2 (Zn.good_name a) (Zn.good_name b)⟩
    let up : Nat → Bool := fun i => (w.getD i Zn.nul).good && (i == 0 || decide (cS i < 0))
    have hup : allN w.length up = allN w.length (znAt w) := by
     rw [Bool.eq_iff_iff, allN_true, allN_true]
     constructor
     ·intro h i hi
      have h1 := h i hi
      simp only [up, znAt, Bool.and_eq_true, Bool.or_eq_true, beq_iff_eq, decide_eq_true_eq] at h1 ⊢
      refine ⟨h1.1, h1.2.imp id fun h2 => ?_⟩
      by_cases h0 : i = 0
      ·subst h0
       rw [← (hcS 0 hi).2 h1.1 h1.1]; exact h2
      ·have h3 := h (i - 1) (by omega)
       simp only [up, Bool.and_eq_true] at h3
       rw [← (hcS i hi).2 h3.1 h1.1]; exact h2
     ·intro h i hi
      have h1 := h i hi
      simp only [up, znAt, Bool.and_eq_true, Bool.or_eq_true, beq_iff_eq, decide_eq_true_eq] at h1 ⊢
      refine ⟨h1.1, h1.2.imp id fun h2 => ?_⟩
      by_cases h0 : i = 0
      ·subst h0
       rw [(hcS 0 hi).2 h1.1 h1.1]; exact h2
      ·have h3 := h (i - 1) (by omega)
       simp only [znAt, Bool.and_eq_true] at h3
       rw [(hcS i hi).2 h3.1 h1.1]; exact h2
    refine rn_bind (loop_all' (fun i => [.int i]) w.length up (t1 := 0) (t2 := 1) (o1 := [.bool false]) (o2 := []) rfl ?_ (by exact out_else (by simp) rfl)) ?_
    ·intro i hi
     have e0 : (gd [D.int (i : Int)] 0).i.toNat = i := by simp
     have e1 : (gd [D.int (i : Int)] 0).i = i := rfl
     rw [e0, e1, wrap_succ hi hsm, gd_zn hi]
     refine out_if (by simpa using hi) (out_if (by simpa using inb_nat hi) (out_bind (r := (0, [.bool !(up i)])) ?_ (sel0 (by cases up i <;> simp))))
     have hz := f_specGoodZone (hw.all _ (List.getElem_mem hi))
     simp only [up]
     have hc := (hcS i hi).1
     rw [getD_lt hi] at hc ⊢
     cases hk : w[i].good with
     | false => rw [hk] at hz; exact out_call hz (out_if rfl rfl)
     | true =>
       rw [hk] at hz
       refine out_call hz (out_else (by simp) ?_)
       by_cases h0 : i = 0
       ·subst h0; exact out_else (by simp) rfl
       ·have w1 : IntKind.wrap .i64 ((i : Int) - 1) = ((i - 1 : Nat) : Int) := by rw [smax_eq] at hsm; rw [wrap_id] <;> omega
        have hi1 : i - 1 < w.length := by omega
        rw [getD_lt hi1] at hc
        refine out_if (decide_eq_true (by omega)) (out_if (by rw [w1]; exact inb_nat hi1) ?_)
        rw [w1, Int.toNat_natCast, gd_zn hi1]
        have g1 : ∀ z : Zn, z.d.fld 0 = .str z.apex := fun _ => rfl
        rw [g1, g1]
        refine out_call hc ?_
        have e1 : decide ((D.int (cS i)).i ≥ 0) = !(decide (cS i < 0)) := by
         rw [Bool.eq_iff_iff]; simp
        have h0' : (i == 0) = false := by simpa using h0
        rw [e1, h0']; simp
    ·rw [hup, Bool.true_and, Bool.true_and]; cases allN w.length (znAt w) <;> rfl
   ·have e : (w[0].apex == []) = false := by simpa using ha
    rw [e]
    refine rn_bind0 (l := [.bool true]) (out_call h1 (out_else (by simp) (out_if (inb_nat hpos) ?_))) (rn_if rfl rfl)
    rw [g0, e]; rfl
structure WGood (w : List Zn) : Prop where
 pos : 0 < w.length
 six : w.length ≤ 6
 root : (w.getD 0 Zn.nul).apex = []
 good : ∀ z ∈ w, z.good = true
 up : ∀ i j (hi : i < w.length) (hj : j < w.length), i < j → cmpN w[i].apex w[j].apex < 0
theorem wGood_of {w : List Zn} (h : wGood w = true) : WGood w := by
 unfold wGood at h
 simp only [Bool.and_eq_true, inP, decide_eq_true_eq, beq_iff_eq, allN_true] at h
 obtain ⟨h1, h2, h3⟩ := h
 have step : ∀ i (hi : i + 1 < w.length), cmpN w[i].apex w[i + 1].apex < 0 := by
  intro i hi
  have := h3 (i + 1) hi
  unfold znAt at this
  simp only [Bool.and_eq_true, getD_lt hi, Nat.add_sub_cancel, getD_lt (show i < w.length by omega), Bool.or_eq_true, beq_iff_eq, decide_eq_true_eq] at this
  rcases this.2 with h4 | h4
  ·omega
  ·exact h4
 refine ⟨by omega, by omega, h2, ?_, ?_⟩
 ·intro z hz
  obtain ⟨i, hi, rfl⟩ := List.getElem_of_mem hz
  have := h3 i hi
  unfold znAt at this
  simp only [Bool.and_eq_true, getD_lt hi] at this
  exact this.1
 ·intro i j
  induction j with
  | zero => intro _ _ h; omega
  | succ j ih =>
    intro hi hj hij
    have h4 := step j hj
    by_cases he : i = j
    ·subst he; exact h4
    ·have h5 := ih hi (by omega) (by omega)
     exact cmpN_cmp.lt (y := w[j].apex) (by omega) (by omega) (.inl (by omega))
def zAt (s : List UInt8) : List Zn → Option Nat
 | [] => none
 | z :: zs => if z.apex = s then some 0 else (zAt s zs).map (· + 1)
theorem zAt_some {s : List UInt8} : ∀ {w : List Zn} {k : Nat}, zAt s w = some k → ∃ h : k < w.length, w[k].apex = s ∧ ∀ j (hj : j < w.length), j < k → w[j].apex ≠ s
 | [], k, h => by simp [zAt] at h
 | z :: zs, k, h => by
   unfold zAt at h
   split at h
   ·rename_i hz
    simp only [Option.some.injEq] at h
    subst h
    exact ⟨by simp, hz, fun j _ hj => by omega⟩
   ·rename_i hz
    simp only [Option.map_eq_some_iff] at h
    obtain ⟨m, hm, rfl⟩ := h
    obtain ⟨h1, h2, h3⟩ := zAt_some hm
    refine ⟨by simp; omega, by simpa using h2, fun j hj hjm => ?_⟩
    cases j with
    | zero => simpa using hz
    | succ j => have := h3 j (by simpa using hj) (by omega); simpa using this
theorem zAt_none {s : List UInt8} : ∀ {w : List Zn}, zAt s w = none → ∀ z ∈ w, z.apex ≠ s
 | [], _, z, hz => by simp at hz
 | x :: zs, h, z, hz => by
   unfold zAt at h
   split at h
   ·cases h
   ·rename_i hx
    simp only [Option.map_eq_none_iff] at h
    simp only [List.mem_cons] at hz
    rcases hz with rfl | hz
    ·exact hx
    ·exact zAt_none h z hz
theorem f_wfind {w : List Zn} {s : List UInt8} (hw : WIn lim w) (hg : WGood w) (hs : s.length ≤ lim) : ∃ n : Int, e_impl_World_find.F [wdD w, .str s] = some (.pair (.int n) (.pair (.bool (zAt s w).isSome) .unit)) ∧ ∀ k, zAt s w = some k → n = k := by
 obtain ⟨k, k1, k2, k3, b, hb, hr⟩ := bs_gen (f := Zn.d) (c := fun d => e_impl_World_find_1.F [d, .str s]) (xs := w) (cv := fun z => cmpN z.apex s) hw.len (fun z hz => by
  show e_impl_World_find_1.F [z.d, .str s] = _
  rw [q_impl_World_find_1]
  have g0 : z.d.fld 0 = .str z.apex := rfl
  rw [g0]
  exact rn_call (f_compareNames (hw.all z hz).apex hs) rfl) (fun i j hi hj hij h => by
  by_cases he : i = j
  ·subst he; exact h
  ·have h1 := hg.up i j hi hj (by omega)
   exact cmpN_cmp.lt (y := w[j].apex) (by omega) (by omega) (.inl (by omega)))
 have h2 : e_slices_BinarySearchFunc_impl_Zone_impl_Zone_string__impl_World_find_1.F [.lst (w.map Zn.d), .str s, .unit] = some (.pair (.int k) (.pair (.bool b) .unit)) := by
  rw [q_slices_BinarySearchFunc_impl_Zone_impl_Zone_string__impl_World_find_1]; exact hr
 have h3 : e_impl_World_find.F [wdD w, .str s] = some (.pair (.int k) (.pair (.bool b) .unit)) := by
  rw [q_impl_World_find]
  have g1 : (wdD w).fld 0 = .lst (w.map Zn.d) := rfl
  rw [g1]
  exact rn_call h2 rfl
 cases hz : zAt s w with
 | none =>
   have hbf : b = false := by
    cases b with
    | false => rfl
    | true =>
      obtain ⟨hk, he⟩ := hb.1 rfl
      exact absurd (cmpN_cmp.eq _ _ he) (zAt_none hz _ (List.getElem_mem hk))
   rw [hbf] at h3
   exact ⟨k, h3, fun _ h => by cases h⟩
 | some m =>
   obtain ⟨hm, hms, _⟩ := zAt_some hz
   have h0 : cmpN w[m].apex s = 0 := by rw [hms]; exact cmpN_cmp.refl _
   have hkm : k ≤ m := by
    rcases Nat.lt_or_ge m k with h1 | h1
    ·have := k2 m hm h1; omega
    ·exact h1
   have : k = m := by
    by_cases he : k = m
    ·exact he
    ·have h4 := hg.up k m (by omega) hm (by omega)
     rw [hms] at h4
     have := k3 k (by omega) (Nat.le_refl _)
     omega
   subst this
   have hbt : b = true := hb.2 ⟨hm, h0⟩
   rw [hbt] at h3
   exact ⟨k, h3, fun _ h => by cases h; rfl⟩
theorem f_eqZoneS {w : List Zn} (hw : WIn smax w) : e_laws_eqZoneS.F [.lst (w.map Zn.d), .lst (w.map Zn.d)] = some (.bool true) := by
 rw [q_laws_eqZoneS, if_neg (by simp)]
 refine rn_bind (loop_for' (fun i (_ : Unit) => [.int i]) w.length (fun _ => ()) (t := 1) (o := []) rfl ?_ ?_) rfl
 ·intro i hi
  simp [hi, gd_zn hi, inb_nat hi, wrap_succ hi hw.len, f_eqZone (hw.all _ (List.getElem_mem hi)).len]
 ·simp
theorem f_eqWorld {w : List Zn} (hw : WIn smax w) : e_laws_eqWorld.F [wdD w, wdD w] = some (.bool true) := by
 rw [q_laws_eqWorld]
 exact rn_call (f_eqZoneS hw) rfl
def znZ : D := .pair (.str []) (.pair (.int 0) (.pair (D.lst []) .unit))
theorem f_toZoneS {w : List Zn} (hw : WIn lim w) : e_laws_toZoneS.F [.lst (w.map Zn.d)] = some (.lst (w.map Zn.d)) := by
 have hlen : (D.lst (w.map Zn.d)).l.length = w.length := by simp
 rw [q_laws_toZoneS, hlen]; refine rn_if (makeOk_nat hw.len (by decide)) ?_
 refine rn_bind (loop_for' (fun i (zs : List D) => [.lst zs, .int i]) w.length (filled (w.map Zn.d) znZ) (t := 0) (o := [.lst (w.map Zn.d)]) (by simp [filled_zero, znZ]) ?_ ?_) rfl
 ·intro i hi
  have hm : i < (w.map Zn.d).length := by simpa using hi
  have hf := filled_set (z := znZ) hm
  have ht := f_toZone (z := w[i]) (hw.all _ (List.getElem_mem hi)).len
  rw [List.getElem_map] at hf
  simp [hi, gd_zn hi, inb_nat hi, wrap_succ hi (Nat.le_trans hw.len lim_smax), filled_length (Nat.le_of_lt hm), hf, ht]
 ·have := filled_all (xs := w.map Zn.d) (z := znZ)
  rw [List.length_map] at this
  simp [this]
theorem f_toWorld {w : List Zn} (hw : WIn lim w) : e_laws_toWorld.F [wdD w] = some (wdD w) := by
 rw [q_laws_toWorld]
 exact rn_call (f_toZoneS hw) rfl
theorem Zn.d_inj {x y : Zn} (h : x.d = y.d) : x = y := by
 obtain ⟨a, b, c⟩ := x
 obtain ⟨a', b', c'⟩ := y
 simp only [Zn.d, D.pair.injEq, D.str.injEq, D.int.injEq, D.lst.injEq] at h
 obtain ⟨h1, h2, h3, _⟩ := h
 have : c = c' := (List.map_inj_right (fun x y => Rec.d_inj)).1 h3
 subst h1; subst h2; subst this; rfl
theorem f_szZoneS {w : List Zn} {left : Int} (hw : WIn smax w) (h0 : 0 ≤ left) (h1 : left ≤ lim) : e_laws_szZoneS.F [.lst (w.map Zn.d), .int left] = some (.int (szL szZn (w.map Zn.d) left)) := by
 have hl := hw.len
 have hwr := len_wrapA h0 h1 hl
 have hlen : (D.lst (w.map Zn.d)).l.length = (w.map Zn.d).length := rfl
 have hlen' : (w.map Zn.d).length = w.length := by simp
 rw [q_laws_szZoneS, hlen]
 have hw' : IntKind.wrap .i64 (left - ((w.map Zn.d).length : Int)) = left - (w.map Zn.d).length := by rw [hlen']; exact hwr
 by_cases hlt : left - ((w.map Zn.d).length : Int) < 0
 ·refine rn_if (by rw [D.i_int, hw']; exact decide_eq_true hlt) ?_
  unfold szL
  rw [if_pos hlt]; rfl
 ·refine rn_else (by rw [D.i_int, hw']; exact fun hc => hlt (of_decide_eq_true hc)) ?_
  simp only [D.l_lst, D.i_int, hw']
  refine rn_bind (szL_loop (c := szZn) hlt h1 ?_ ?_ ?_) ?_
  ·intro x hx' s h1 h2
   obtain ⟨y, hy, rfl⟩ := List.mem_map.1 hx'
   exact (szZn_spec s h1 h2).1
  ·intro i s hi h1 h2
   have hi' : i < w.length := by simpa using hi
   have hg : (w.map Zn.d)[i] = w[i].d := by simp
   have hz := f_szZone (hw.all _ (List.getElem_mem hi')) h1 h2
   rw [hg]
   constructor <;> intro hc <;> simp [hi', gd_zn hi', inb_nat hi', wrap_succ hi' hl, hz, hc]
  ·intro s; simp
  ·rcases szN_cases szZn (w.map Zn.d) left with h | h <;> simp [h]
theorem f_szWorld {w : List Zn} {left : Int} (hw : WIn smax w) (h0 : 0 ≤ left) (h1 : left ≤ lim) : ∃ r, e_laws_szWorld.F [wdD w, .int left] = some (.int r) ∧ (0 ≤ r → WIn lim w) := by
 rw [q_laws_szWorld]
 have f0 : (wdD w).fld 0 = .lst (w.map Zn.d) := rfl
 rw [f0]
 have hz := f_szZoneS hw h0 h1
 have hs := szL_spec (c := szZn) (Q := fun d => ∃ y : Zn, d = y.d ∧ y.In lim) (xs := w.map Zn.d) (left := left) h1 (by
  intro x hx' s h1 h2
  obtain ⟨y, hy, rfl⟩ := List.mem_map.1 hx'
  exact ⟨(szZn_spec s h1 h2).1, fun h => ⟨y, rfl, (szZn_spec s h1 h2).2 h⟩⟩) h0
 by_cases hlt : szL szZn (w.map Zn.d) left < 0
 ·exact ⟨-1, rn_call hz (rn_if (decide_eq_true hlt) rfl), by omega⟩
 ·refine ⟨szL szZn (w.map Zn.d) left, rn_call hz (rn_else (fun h => hlt (of_decide_eq_true h)) rfl), fun hp => ?_⟩
  have := hs.2 hp
  refine ⟨by simpa using this.1, fun z hz => ?_⟩
  obtain ⟨y, hy, hyl⟩ := this.2 z.d (List.mem_map.2 ⟨z, hz, rfl⟩)
  rw [Zn.d_inj hy]; exact hyl
end Go.Proofs.YtbacjgkmkkphdaaGreatDoor
namespace Go.Proofs.YtbacjgkmkkphdaaGreatDoor
open Go Go.Own
def Ch (w : List Zn) (s : List UInt8) (out : List (List UInt8)) : Prop := ∀ i (hi : i < out.length), (∃ z ∈ w, z.apex = out[i]) ∧ Up s out[i] ∧ ∀ h : 0 < i, Up out[i] (out[i - 1]'(by omega)) ∧ out[i] ≠ (out[i - 1]'(by omega))
theorem Ch.snoc {w : List Zn} {s x y : List UInt8} {out : List (List UInt8)} (h : Ch w s out) (hl : out.getLast? = some y) (hx : ∃ z ∈ w, z.apex = x) (hs : Up s x) (hxy : Up x y) (hne : x ≠ y) : Ch w s (out ++ [x]) := by
 intro i hi
 simp only [List.length_append, List.length_cons, List.length_nil] at hi
 have key : ∀ j (hj : j < out.length) (hj' : j < (out ++ [x]).length), (out ++ [x])[j] = out[j] := fun j hj _ => List.getElem_append_left hj
 by_cases h1 : i < out.length
 ·rw [key i h1]
  refine ⟨(h i h1).1, (h i h1).2.1, fun h0 => ?_⟩
  rw [key (i - 1) (by omega)]
  exact (h i h1).2.2 h0
 ·have : i = out.length := by omega
  subst this
  have e : (out ++ [x])[out.length] = x := by simp
  rw [e]
  refine ⟨hx, hs, fun h0 => ?_⟩
  rw [key (out.length - 1) (by omega)]
  have : out[out.length - 1]'(by omega) = y := by
   rw [List.getLast?_eq_getElem?, List.getElem?_eq_getElem (by omega)] at hl
   exact Option.some.inj hl
  rw [this]
  exact ⟨hxy, hne⟩
end Go.Proofs.YtbacjgkmkkphdaaGreatDoor
