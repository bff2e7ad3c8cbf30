/- What the functions compute, in plain words. -/
import Derived.Test.YtlflhlgppbbahaaGreatDoorP3
set_option linter.unusedSectionVars false
set_option linter.unusedVariables false
set_option linter.unusedSimpArgs false
/-! Records compared; lists of records that rise. -/
namespace Go.Proofs.YtlflhlgppbbahaaGreatDoor
open Go Go.Own

theorem f_cmpInt (a b : Int) : e_cmp_Compare_int.F [.int a, .int b] = some (.int (intC a b)) := by
  have n1 : ∀ s : Int, e_cmp_isNaN_int.F [.int s] = some (.bool false) := fun s => by
    rw [q_cmp_isNaN_int]; simp
  rw [q_cmp_Compare_int]
  refine rn_call (n1 a) (rn_call (n1 b) (rn_else (by simp) (rn_else (by simp) ?_)))
  unfold intC
  by_cases h : a < b
  · rw [if_pos h]; exact rn_if (decide_eq_true h) rfl
  · rw [if_neg h]
    refine rn_else (fun h' => h (of_decide_eq_true h')) ?_
    by_cases h2 : b < a
    · rw [if_pos h2]; exact rn_if (decide_eq_true h2) rfl
    · rw [if_neg h2]; exact rn_else (fun h' => h2 (of_decide_eq_true h')) rfl
def orL : List Int → Int
  | [] => 0
  | x :: xs => if x = 0 then orL xs else x
theorem orL_zero : ∀ {xs : List Int}, (∀ i (h : i < xs.length), xs[i] = 0) → orL xs = 0
  | [], _ => rfl
  | x :: xs, h => by
    have h0 := h 0 (by simp)
    simp only [List.getElem_cons_zero] at h0
    rw [orL, if_pos h0]
    exact orL_zero fun i hi => by have := h (i + 1) (by simp; omega); simpa using this
theorem orL_at : ∀ {xs : List Int} {k : Nat} (hk : k < xs.length), (∀ i (h : i < xs.length), i < k → xs[i] = 0) → xs[k] ≠ 0 → orL xs = xs[k]
  | x :: xs, 0, _, _, hne => by rw [orL, if_neg (by simpa using hne)]; rfl
  | x :: xs, k + 1, hk, h, hne => by
    have h0 := h 0 (by simp) (by omega)
    simp only [List.getElem_cons_zero] at h0
    rw [orL, if_pos h0]
    exact orL_at (xs := xs) (k := k) (by simpa using hk) (fun i hi hik => by have := h (i + 1) (by simp; omega) (by omega); simpa using this) (by simpa using hne)
theorem f_cmpOr {xs : List Int} (hl : xs.length ≤ lim) : e_cmp_Or_int.F [.lst (xs.map .int)] = some (.int (orL xs)) := by
  have hsm := Nat.le_trans hl lim_smax
  rw [q_cmp_Or_int]
  have hlen : (D.lst (xs.map D.int)).l.length = xs.length := by simp
  rw [hlen]
  have key := loop_find (l := [.int 0]) (fun i => [.int i]) xs.length (fun i => xs.getD i 0 == 0) (t1 := 0) (t2 := 1) (o1 := fun i => [.int (xs.getD i 0)]) (o2 := []) (f := fun l1 =>
      if (decide ((gd l1 0).i < (xs.length : Int))) then
        if (inb (gd l1 0).i xs.length) then
        if ((gd (D.lst (xs.map D.int)).l (gd l1 0).i.toNat).i != 0) then
          ou 1 [(gd (D.lst (xs.map D.int)).l (gd l1 0).i.toNat)]
        else
          ou 0 [(.int (IntKind.wrap .i64 ((gd l1 0).i + 1)))]
        else none
      else
        ou 2 []) rfl (by
      intro i hi hp
      rw [getD_lt hi] at hp
      have : xs[i] = 0 := by simpa using hp
      simp [hi, inb_nat hi, gd_map hi, this, wrap_succ hi hsm]) (by
      intro i hi hp
      rw [getD_lt hi] at hp
      have : ¬ xs[i] = 0 := by simpa using hp
      simp [hi, inb_nat hi, gd_map hi, this]) (by simp)
  rcases key with ⟨hall, hloop⟩ | ⟨k, hk, hpk, hall, hloop⟩
  · refine rn_bind hloop ?_
    rw [orL_zero (fun i hi => by have := hall i hi; rw [getD_lt hi] at this; simpa using this)]; rfl
  · refine rn_bind hloop ?_
    rw [getD_lt hk] at hpk
    have : orL xs = xs[k] := orL_at hk (fun i hi hik => by have := hall i hik; rw [getD_lt hi] at this; simpa using this) (by simpa using hpk)
    rw [this, getD_lt hk]; rfl

theorem orL2 (x y : Int) : orL [x, y] = if x = 0 then y else x := by
  simp only [orL]; split
  · split <;> simp_all
  · rfl
theorem orL3 (x y z : Int) : orL [x, y, z] = if x = 0 then (if y = 0 then z else y) else x := by
  simp only [orL]; split
  · split
    · split <;> simp_all
    · rfl
  · rfl
/-- keys compared -/
def cmpK (a b : Rec) : Int := orL [cmpN a.name b.name, intC a.type b.type]
theorem f_compareKeys {a b : Rec} (ha : a.In lim) (hb : b.In lim) : e_impl_compareKeys.F [a.d, b.d] = some (.int (cmpK a b)) := by
  rw [q_impl_compareKeys]
  exact rn_call (f_compareNames ha.name hb.name) (rn_call (f_cmpInt a.type b.type) (rn_call (f_cmpOr (xs := [cmpN a.name b.name, intC a.type b.type]) (Nat.le_of_ble_eq_true rfl)) rfl))
noncomputable def datX (k : Int) (s : List UInt8) : List UInt8 := if dataOk k s = true then datB k s else []
theorem f_dataBytes {k : Int} {s : List UInt8} (h : s.length ≤ lim) : e_impl_dataBytes.F [.int k, .str s] = some (.str (datX k s)) := by
  rw [q_impl_dataBytes]
  unfold datX
  by_cases hok : dataOk k s = true
  · rw [if_pos hok]
    exact rn_call (f_dataE h hok) (rn_else (by simp) rfl)
  · rw [if_neg hok]
    obtain ⟨b, hb⟩ := f_data (k := k) h
    rw [show dataOk k s = false by simpa using hok] at hb
    exact rn_call hb (rn_if rfl rfl)
noncomputable def cmpR (a b : Rec) : Int := orL [cmpK a b, Lib.compareBytes (datX a.type a.data) (datX b.type b.data), intC a.ttl b.ttl]
theorem f_strCompare (a b : List UInt8) : e_strings_Compare.F [.str a, .str b] = some (.int (Lib.compareBytes a b)) := by
  rw [show e_strings_Compare.F = compareF from by unfold e_strings_Compare compareE; rfl]
  rfl
theorem f_compareRecords {a b : Rec} (ha : a.In lim) (hb : b.In lim) : e_impl_compareRecords.F [a.d, b.d] = some (.int (cmpR a b)) := by
  rw [q_impl_compareRecords]
  exact rn_call (f_compareKeys ha hb) (rn_call (f_dataBytes ha.data) (rn_call (f_dataBytes hb.data) (rn_call (f_strCompare _ _) (rn_call (f_cmpInt a.ttl b.ttl) (rn_call (f_cmpOr (xs := [cmpK a b, Lib.compareBytes (datX a.type a.data) (datX b.type b.data), intC a.ttl b.ttl]) (Nat.le_of_ble_eq_true rfl)) rfl)))))
theorem f_l3Less (b : Bool) : e_spec_l3Less.F [.bool b] = some (.int (if b then -1 else 1)) := by
  rw [q_spec_l3Less]; cases b <;> rfl
theorem lessC_int {x y : Int} (h : x ≠ y) : (if decide (x < y) then (-1 : Int) else 1) = intC x y := by
  unfold intC
  by_cases h1 : x < y
  · simp [h1]
  · have : y < x := by omega
    simp [h1, this]
theorem lessC_bytes {x y : List UInt8} (h : x ≠ y) : (if Op.bytesLess x y then (-1 : Int) else 1) = Lib.compareBytes x y := by
  obtain ⟨h1, h2⟩ := bytesLess_cmp x y
  rcases compareBytes_val x y with h3 | h3 | h3
  · rw [if_pos (h1.2 h3), h3]
  · exact absurd (h2.2 h3) h
  · rw [if_neg (fun e => by have := h1.1 e; omega), h3]
theorem f_l3Compare {a b : Rec} (ha : a.In lim) (hb : b.In lim) : ∃ n : Int, e_spec_l3Compare.F [a.d, b.d] = some (.int n) ∧ (a.ok = true → b.ok = true → n = cmpR a b) := by
  rw [q_spec_l3Compare]
  have f0 : a.d.fld 0 = .str a.name := rfl
  have f1 : a.d.fld 1 = .int a.type := rfl
  have f2 : a.d.fld 2 = .int a.ttl := rfl
  have f3 : a.d.fld 3 = .str a.data := rfl
  have g0 : b.d.fld 0 = .str b.name := rfl
  have g1 : b.d.fld 1 = .int b.type := rfl
  have g2 : b.d.fld 2 = .int b.ttl := rfl
  have g3 : b.d.fld 3 = .str b.data := rfl
  rw [f0, f1, f2, f3, g0, g1, g2, g3]
  obtain ⟨m, hm, hmE⟩ := f_l1Compare ha.name hb.name
  by_cases hok : a.ok = true ∧ b.ok = true
  · obtain ⟨oka, okb⟩ := hok
    have ha' := oka
    have hb' := okb
    unfold Rec.ok at ha' hb'
    simp only [Bool.and_eq_true] at ha' hb'
    have hmE' := hmE ha'.2.1 hb'.2.1
    subst hmE'
    have ea : datX a.type a.data = datB a.type a.data := by unfold datX; rw [if_pos ha'.1]
    have eb : datX b.type b.data = datB b.type b.data := by unfold datX; rw [if_pos hb'.1]
    have hK : cmpK a b = if cmpN a.name b.name = 0 then intC a.type b.type else cmpN a.name b.name := orL2 _ _
    have hR : cmpR a b = if cmpK a b = 0 then (if Lib.compareBytes (datB a.type a.data) (datB b.type b.data) = 0 then intC a.ttl b.ttl else Lib.compareBytes (datB a.type a.data) (datB b.type b.data)) else cmpK a b := by
      have := orL3 (cmpK a b) (Lib.compareBytes (datX a.type a.data) (datX b.type b.data)) (intC a.ttl b.ttl)
      rw [ea, eb] at this
      rw [← this, cmpR, ea, eb]
    refine ⟨cmpR a b, rn_call hm ?_, fun _ _ => rfl⟩
    by_cases h1 : cmpN a.name b.name = 0
    · rw [if_pos h1] at hK
      refine rn_else (by simp [h1]) (rn_call (f_l3E ha.data ha'.1) (rn_call (f_l3E hb.data hb'.1) ?_))
      by_cases h2 : a.type = b.type
      · have : intC a.type b.type = 0 := by rw [h2]; exact intC_cmp.refl _
        rw [if_pos (hK.trans this)] at hR
        refine rn_else (by simp [h2]) ?_
        by_cases h3 : datB a.type a.data = datB b.type b.data
        · rw [if_pos ((bytesLess_cmp _ _).2.1 h3)] at hR
          refine rn_else (by simp [h3]) ?_
          rw [hR]
          by_cases h4 : a.ttl = b.ttl
          · have : intC a.ttl b.ttl = 0 := by rw [h4]; exact intC_cmp.refl _
            rw [this]
            exact rn_else (by simp [h4]) rfl
          · refine rn_if (by simpa using h4) (rn_call (f_l3Less _) ?_)
            rw [← lessC_int h4]; rfl
        · have : Lib.compareBytes (datB a.type a.data) (datB b.type b.data) ≠ 0 := fun h => h3 ((bytesLess_cmp _ _).2.2 h)
          rw [if_neg this] at hR
          refine rn_if (by simpa using h3) (rn_call (f_l3Less _) ?_)
          have e1 : ((D.pair (.str (datB a.type a.data)) (.pair (.bool true) .unit)).fld 0).s = datB a.type a.data := rfl
          have e2 : ((D.pair (.str (datB b.type b.data)) (.pair (.bool true) .unit)).fld 0).s = datB b.type b.data := rfl
          rw [e1, e2, lessC_bytes h3, hR]; rfl
      · have : intC a.type b.type ≠ 0 := fun h => h2 (intC_cmp.eq _ _ h)
        rw [if_neg (by rw [hK]; exact this), hK] at hR
        refine rn_if (by simpa using h2) (rn_call (f_l3Less _) ?_)
        rw [hR, ← lessC_int h2]; rfl
    · rw [if_neg h1] at hK
      rw [if_neg (by rw [hK]; exact h1), hK] at hR
      rw [hR]
      exact rn_if (by simpa using h1) rfl
  · have hc : ∀ n : Int, a.ok = true → b.ok = true → n = cmpR a b := fun n h1 h2 => absurd ⟨h1, h2⟩ hok
    obtain ⟨x, hx⟩ := f_l3 (k := a.type) ha.data
    obtain ⟨y, hy⟩ := f_l3 (k := b.type) hb.data
    by_cases h1 : m = 0
    · by_cases h2 : a.type = b.type
      · by_cases h3 : x = y
        · by_cases h4 : a.ttl = b.ttl
          · exact ⟨0, rn_call hm (rn_else (by simp [h1]) (rn_call hx (rn_call hy (rn_else (by simp [h2]) (rn_else (by rw [h3]; simp) (rn_else (by simp [h4]) rfl)))))), hc _⟩
          · exact ⟨_, rn_call hm (rn_else (by simp [h1]) (rn_call hx (rn_call hy (rn_else (by simp [h2]) (rn_else (by rw [h3]; simp) (rn_if (by simpa using h4) (rn_call (f_l3Less _) rfl))))))), hc _⟩
        · exact ⟨_, rn_call hm (rn_else (by simp [h1]) (rn_call hx (rn_call hy (rn_else (by simp [h2]) (rn_if (by simpa using h3) (rn_call (f_l3Less _) rfl)))))), hc _⟩
      · exact ⟨_, rn_call hm (rn_else (by simp [h1]) (rn_call hx (rn_call hy (rn_if (by simpa using h2) (rn_call (f_l3Less _) rfl))))), hc _⟩
    · exact ⟨m, rn_call hm (rn_if (by simpa using h1) rfl), hc _⟩

/-! lists that rise -/
def Rec.nul : Rec := ⟨[], 0, 0, []⟩
theorem gd_rec {xs : List Rec} {i : Nat} (hi : i < xs.length) : gd (xs.map Rec.d) i = xs[i].d := gd_map hi
noncomputable def upAt (xs : List Rec) (i : Nat) : Bool := (xs.getD i Rec.nul).ok && (i == 0 || decide (cmpR (xs.getD (i - 1) Rec.nul) (xs.getD i Rec.nul) < 0))
noncomputable def rising (xs : List Rec) : Bool := allN xs.length (upAt xs)
theorem f_areRising {xs : List Rec} (hl : xs.length ≤ lim) (hx : ∀ x ∈ xs, x.In lim) : e_impl_areRising.F [.lst (xs.map Rec.d)] = some (.bool (rising xs)) := by
  have hsm := Nat.le_trans hl lim_smax
  rw [q_impl_areRising]
  have hlen : (D.lst (xs.map Rec.d)).l.length = xs.length := by simp
  rw [hlen]
  refine rn_bind (loop_all' (fun i => [.int i]) xs.length (upAt xs) (t1 := 0) (t2 := 1) (o1 := []) (o2 := []) rfl ?_ ?_) ?_
  · intro i hi
    have hg : gd (D.lst (xs.map Rec.d)).l i = xs[i].d := gd_rec hi
    have h1 := f_goodRec (hx _ (List.getElem_mem hi))
    refine out_if (by simpa using hi) (out_if (by simpa using inb_nat hi) ?_)
    have e0 : (gd [D.int (i : Int)] 0).i.toNat = i := by simp
    have e1 : (gd [D.int (i : Int)] 0).i = i := rfl
    rw [e0, e1, hg, wrap_succ hi hsm]
    refine out_bind (r := (0, [.bool !(upAt xs i)])) ?_ ?_
    · unfold upAt
      rw [getD_lt hi]
      cases hk : xs[i].ok with
      | false => rw [hk] at h1; exact out_call h1 (out_if rfl rfl)
      | true =>
        rw [hk] at h1
        refine out_call h1 (out_else (by simp) ?_)
        by_cases h0 : i = 0
        · subst h0; exact out_else (by simp) rfl
        · have w : IntKind.wrap .i64 ((i : Int) - 1) = ((i - 1 : Nat) : Int) := by rw [smax_eq] at hsm; rw [wrap_id] <;> omega
          have hi1 : i - 1 < xs.length := by omega
          have hc := f_compareRecords (hx _ (List.getElem_mem hi1)) (hx _ (List.getElem_mem hi))
          refine out_if (decide_eq_true (by omega)) (out_if (by rw [w]; exact inb_nat hi1) ?_)
          rw [w, Int.toNat_natCast, show (D.lst (xs.map Rec.d)).l = xs.map Rec.d from rfl, gd_rec hi1]
          refine out_call hc ?_
          rw [getD_lt hi1]
          have : decide ((D.int (cmpR xs[i - 1] xs[i])).i ≥ 0) = !(decide (cmpR xs[i - 1] xs[i] < 0)) := by
            rw [Bool.eq_iff_iff]; simp
          rw [this]
          have : (i == 0) = false := by simpa using h0
          rw [this]; simp
    · cases upAt xs i <;> simp
  · simp
  · unfold rising
    cases allN xs.length (upAt xs) <;> simp
theorem f_l6List {xs : List Rec} (hl : xs.length ≤ lim) (hx : ∀ x ∈ xs, x.In lim) : e_spec_l6List.F [.lst (xs.map Rec.d)] = some (.bool (rising xs && decide (xs.length ≤ 40))) := by
  have hsm := Nat.le_trans hl lim_smax
  rw [q_spec_l6List]
  have hlen : (D.lst (xs.map Rec.d)).l.length = xs.length := by simp
  rw [hlen]
  -- what the reference compares
  have hcs : ∀ i, i < xs.length → ∃ n : Int, e_spec_l3Compare.F [(xs.getD (i - 1) Rec.nul).d, (xs.getD i Rec.nul).d] = some (.int n) ∧ ((xs.getD (i - 1) Rec.nul).ok = true → (xs.getD i Rec.nul).ok = true → n = cmpR (xs.getD (i - 1) Rec.nul) (xs.getD i Rec.nul)) := by
    intro i hi
    have hi1 : i - 1 < xs.length := by omega
    rw [getD_lt hi, getD_lt hi1]
    exact f_l3Compare (hx _ (List.getElem_mem hi1)) (hx _ (List.getElem_mem hi))
  let cS : Nat → Int := fun i => match e_spec_l3Compare.F [(xs.getD (i - 1) Rec.nul).d, (xs.getD i Rec.nul).d] with
    | some (.int n) => n
    | _ => 0
  have hcS : ∀ i, i < xs.length → e_spec_l3Compare.F [(xs.getD (i - 1) Rec.nul).d, (xs.getD i Rec.nul).d] = some (.int (cS i)) ∧ ((xs.getD (i - 1) Rec.nul).ok = true → (xs.getD i Rec.nul).ok = true → cS i = cmpR (xs.getD (i - 1) Rec.nul) (xs.getD i Rec.nul)) := by
    intro i hi
    obtain ⟨n, h1, h2⟩ := hcs i hi
    have : cS i = n := by simp only [cS, h1]
    rw [this]; exact ⟨h1, h2⟩
  let up : Nat → Bool := fun i => (xs.getD i Rec.nul).ok && (i == 0 || decide (cS i < 0))
  have hup : allN xs.length up = rising xs := by
    unfold rising
    rw [Bool.eq_iff_iff, allN_true, allN_true]
    constructor
    · intro h i hi
      have h1 := h i hi
      simp only [up, upAt, Bool.and_eq_true, Bool.or_eq_true, beq_iff_eq, decide_eq_true_eq] at h1 ⊢
      refine ⟨h1.1, h1.2.imp id fun h2 => ?_⟩
      by_cases h0 : i = 0
      · subst h0
        rw [← (hcS 0 hi).2 h1.1 h1.1]; exact h2
      · have h3 := h (i - 1) (by omega)
        simp only [up, Bool.and_eq_true] at h3
        rw [← (hcS i hi).2 h3.1 h1.1]; exact h2
    · intro h i hi
      have h1 := h i hi
      simp only [up, upAt, Bool.and_eq_true, Bool.or_eq_true, beq_iff_eq, decide_eq_true_eq] at h1 ⊢
      refine ⟨h1.1, h1.2.imp id fun h2 => ?_⟩
      by_cases h0 : i = 0
      · subst h0
        rw [(hcS 0 hi).2 h1.1 h1.1]; exact h2
      · have h3 := h (i - 1) (by omega)
        simp only [upAt, Bool.and_eq_true] at h3
        rw [(hcS i hi).2 h3.1 h1.1]; exact h2
  refine rn_bind (loop_all' (fun i => [.int i]) xs.length up (t1 := 0) (t2 := 1) (o1 := []) (o2 := []) rfl ?_ ?_) ?_
  · intro i hi
    have hg : gd (D.lst (xs.map Rec.d)).l i = xs[i].d := gd_rec hi
    have h1 := f_goodRecS (hx _ (List.getElem_mem hi))
    refine out_if (by simpa using hi) (out_if (by simpa using inb_nat hi) ?_)
    have e0 : (gd [D.int (i : Int)] 0).i.toNat = i := by simp
    have e1 : (gd [D.int (i : Int)] 0).i = i := rfl
    rw [e0, e1, hg, wrap_succ hi hsm]
    refine out_bind (r := (0, [.bool !(up i)])) ?_ ?_
    · simp only [up]
      have hc := (hcS i hi).1
      rw [getD_lt hi] at hc ⊢
      cases hk : xs[i].ok with
      | false => rw [hk] at h1; exact out_call h1 (out_if rfl rfl)
      | true =>
        rw [hk] at h1
        refine out_call h1 (out_else (by simp) ?_)
        by_cases h0 : i = 0
        · subst h0; exact out_else (by simp) rfl
        · have w : IntKind.wrap .i64 ((i : Int) - 1) = ((i - 1 : Nat) : Int) := by rw [smax_eq] at hsm; rw [wrap_id] <;> omega
          have hi1 : i - 1 < xs.length := by omega
          rw [getD_lt hi1] at hc
          refine out_if (decide_eq_true (by omega)) (out_if (by rw [w]; exact inb_nat hi1) ?_)
          rw [w, Int.toNat_natCast, show (D.lst (xs.map Rec.d)).l = xs.map Rec.d from rfl, gd_rec hi1]
          refine out_call hc ?_
          have : decide ((D.int (cS i)).i ≥ 0) = !(decide (cS i < 0)) := by
            rw [Bool.eq_iff_iff]; simp
          rw [this]
          have : (i == 0) = false := by simpa using h0
          rw [this]; simp
    · cases up i <;> simp
  · simp
  · rw [hup]
    have : decide ((xs.length : Int) ≤ 40) = decide (xs.length ≤ 40) := by rw [Bool.eq_iff_iff]; simp; omega
    cases rising xs <;> simp [this]
end Go.Proofs.YtlflhlgppbbahaaGreatDoor

/-! Names above names, records of a name, what breaks a rule. -/
namespace Go.Proofs.YtlflhlgppbbahaaGreatDoor
open Go Go.Own

/-- a list that is looked through: is there one -/
theorem idx_gen {α : Type} {f : α → D} {c : D → Option D} {xs : List α} {p : α → Bool} (hl : xs.length ≤ smax) (hc : ∀ x ∈ xs, c (f x) = some (.bool (p x))) :
    ∃ n : Int, rn ((loopF (fun l2 =>
      if (decide ((gd l2 0).i < ((D.lst (xs.map f)).l.length : Int))) then
        if (inb (gd l2 0).i (D.lst (xs.map f)).l.length) then
        (c (gd (D.lst (xs.map f)).l (gd l2 0).i.toNat)).bind fun r3 =>
        if r3.b then
          ou 1 [(gd l2 0)]
        else
          ou 0 [(.int (IntKind.wrap .i64 ((gd l2 0).i + 1)))]
        else none
      else
        ou 2 []) [(.int 0)]).bind fun o2 =>
      sel2 o2.1 (ou 0 [(gd o2.2 0)]) fun n2 =>
      sel2 n2 (ou 0 [(.int (-1))]) fun _ => none) = some (.int n) ∧ decide (n ≥ 0) = xs.any p := by
  have hlen : (D.lst (xs.map f)).l.length = xs.length := by simp
  rw [hlen]
  have key : ∃ r, rn ((loopF (fun l2 =>
      if (decide ((gd l2 0).i < (xs.length : Int))) then
        if (inb (gd l2 0).i xs.length) then
        (c (gd (D.lst (xs.map f)).l (gd l2 0).i.toNat)).bind fun r3 =>
        if r3.b then
          ou 1 [(gd l2 0)]
        else
          ou 0 [(.int (IntKind.wrap .i64 ((gd l2 0).i + 1)))]
        else none
      else
        ou 2 []) [(.int 0)]).bind fun o2 =>
      sel2 o2.1 (ou 0 [(gd o2.2 0)]) fun n2 =>
      sel2 n2 (ou 0 [(.int (-1))]) fun _ => none) = some r ∧ ∃ n : Int, r = .int n ∧ decide (n ≥ 0) = xs.any p := by
    cases xs with
    | nil => exact ⟨_, by rw [loopF_exit (t := 1) (l' := []) (by simp)]; rfl, -1, rfl, rfl⟩
    | cons x0 xs' =>
      refine find_ex (fun i => [.int i]) (x0 :: xs').length (fun i => !(p ((x0 :: xs').getD i x0))) (t1 := 0) (t2 := 1) (o1 := fun i => [.int i]) (o2 := []) rfl ?_ ?_ ?_ ?_ ?_
      · intro i hi h
        rw [getD_lt hi] at h
        have := hc _ (List.getElem_mem hi)
        rw [show p (x0 :: xs')[i] = false by simpa using h] at this
        refine out_if (decide_eq_true (show (i : Int) < ((x0 :: xs').length : Int) by omega)) (out_if (by simpa using inb_nat hi) ?_)
        have e0 : (gd [D.int (i : Int)] 0).i.toNat = i := by simp
        have e1 : (gd [D.int (i : Int)] 0).i = i := rfl
        rw [e0, e1, wrap_succ hi hl, show (D.lst ((x0 :: xs').map f)).l = (x0 :: xs').map f from rfl, gd_map hi]
        exact out_call this (out_else (by simp) rfl)
      · intro i hi h
        rw [getD_lt hi] at h
        have := hc _ (List.getElem_mem hi)
        rw [show p (x0 :: xs')[i] = true by simpa using h] at this
        refine out_if (decide_eq_true (show (i : Int) < ((x0 :: xs').length : Int) by omega)) (out_if (by simpa using inb_nat hi) ?_)
        have e0 : (gd [D.int (i : Int)] 0).i.toNat = i := by simp
        rw [e0, show (D.lst ((x0 :: xs').map f)).l = (x0 :: xs').map f from rfl, gd_map hi]
        exact out_call this (out_if rfl rfl)
      · exact out_else (by simp) rfl
      · intro hall
        refine ⟨_, rfl, -1, rfl, ?_⟩
        have : (x0 :: xs').any p = false := by
          rw [List.any_eq_false]
          intro x hx
          obtain ⟨i, hi, rfl⟩ := List.getElem_of_mem hx
          have := hall i hi
          rw [getD_lt hi] at this
          simpa using this
        rw [this]; rfl
      · intro j hj hp' _
        refine ⟨_, rfl, j, rfl, ?_⟩
        rw [getD_lt hj] at hp'
        have : (x0 :: xs').any p = true := by
          rw [List.any_eq_true]
          exact ⟨_, List.getElem_mem hj, by simpa using hp'⟩
        rw [this]; simp
  obtain ⟨r, h1, n, rfl, h2⟩ := key
  exact ⟨n, h1, h2⟩

/-! below -/
theorem suf_iff {a l : List UInt8} : (l.isSuffixOf a) = (decide (l.length ≤ a.length) && (a.drop (a.length - l.length) == l)) := by
  rw [Bool.eq_iff_iff, List.isSuffixOf_iff_suffix]
  simp only [Bool.and_eq_true, decide_eq_true_eq, beq_iff_eq]
  constructor
  · intro h; exact ⟨h.length_le, (List.suffix_iff_eq_drop.1 h).symm⟩
  · rintro ⟨_, h⟩; rw [← h]; exact List.drop_suffix _ _
theorem f_hasSuffix {a l : List UInt8} (ha : a.length ≤ lim) (hb : l.length ≤ lim + 1) : e_strings_HasSuffix.F [.str a, .str l] = some (.bool (l.isSuffixOf a)) := by
  have hlim : lim = 1048576 := rfl
  rw [q_strings_HasSuffix]
  have : e_internal_stringslite_HasSuffix.F [.str a, .str l] = some (.bool (l.isSuffixOf a)) := by
    rw [q_internal_stringslite_HasSuffix, suf_iff]
    by_cases h : l.length ≤ a.length
    · have w : IntKind.wrap .i64 ((a.length : Int) - (l.length : Int)) = ((a.length - l.length : Nat) : Int) := by rw [wrap_id] <;> omega
      refine rn_bind0 (out_if (decide_eq_true (by simp; omega)) (out_if ?_ rfl)) ?_
      · simp only [D.s_str, w, slOk]; simp
      · simp only [D.s_str, w, Int.toNat_natCast, List.take_length, h, decide_true, Bool.true_and]; rfl
    · refine rn_bind0 (out_else (fun h' => h ?_) rfl) ?_
      · have h'' : (a.length : Int) ≥ (l.length : Int) := of_decide_eq_true h'
        omega
      · simp only [h, decide_false, Bool.false_and]; rfl
  exact rn_call this rfl
theorem f_isBelow {a b : List UInt8} (ha : a.length ≤ lim) (hb : b.length ≤ lim) : e_impl_isBelow.F [.str a, .str b] = some (.bool (bel a b)) := by
  have hlim : lim = 1048576 := rfl
  rw [q_impl_isBelow]
  refine rn_bind0 (l := [.bool (bel a b)]) ?_ rfl
  unfold bel
  simp only [D.s_str]
  by_cases h1 : a = b
  · exact out_if (by simpa using h1) (by simp [h1])
  · have e1 : (a == b) = false := by simpa using h1
    refine out_else (by simpa using h1) ?_
    by_cases h2 : b = []
    · exact out_if (by simpa using h2) (by simp [h2])
    · have e2 : b.isEmpty = false := by cases b <;> simp_all
      refine out_else (by simpa using h2) (out_if (by simp [catOk, smax_eq]; omega) (out_call (f_hasSuffix (l := [46] ++ b) ha (by simp; omega)) ?_))
      simp [e1, e2]
theorem f_l1Below {a b : List UInt8} (ha : a.length ≤ lim) (hb : b.length ≤ lim) : e_spec_l1Below.F [.str a, .str b] = some (.bool (bel a b)) := by
  have hlim : lim = 1048576 := rfl
  rw [q_spec_l1Below]
  refine rn_bind0 (l := [.bool (bel a b)]) ?_ rfl
  unfold bel
  simp only [D.s_str]
  by_cases h2 : b = []
  · exact out_if (by simpa using h2) (by simp [h2])
  · have e2 : b.isEmpty = false := by cases b <;> simp_all
    refine out_else (by simpa using h2) ?_
    by_cases h1 : a = b
    · exact out_if (by simpa using h1) (by simp [h1])
    · have e1 : (a == b) = false := by simpa using h1
      refine out_else (by simpa using h1) ?_
      rw [e1, e2, Bool.false_or, Bool.false_or, suf_iff]
      have w : IntKind.wrap .i64 ((a.length : Int) - (b.length : Int)) = (a.length : Int) - (b.length : Int) := by rw [wrap_id] <;> omega
      simp only [w]
      by_cases h : b.length < a.length
      · have w2 : IntKind.wrap .i64 ((a.length : Int) - (b.length : Int) - 1) = ((a.length - b.length - 1 : Nat) : Int) := by rw [wrap_id] <;> omega
        have en : ((a.length : Int) - (b.length : Int)).toNat = a.length - b.length := by omega
        have hd : a.drop (a.length - b.length - 1) = a[a.length - b.length - 1]'(by omega) :: a.drop (a.length - b.length) := by
          rw [List.drop_eq_getElem_cons (show a.length - b.length - 1 < a.length by omega)]
          congr 2; omega
        have hle : decide ((46 :: b).length ≤ a.length) = true := decide_eq_true (by simp; omega)
        rw [hle, Bool.true_and, show a.length - (46 :: b).length = a.length - b.length - 1 by simp; omega, hd]
        refine out_if (decide_eq_true (by omega)) (out_if (by simp [slOk]; omega) ?_)
        rw [en, Int.toNat_natCast, List.take_length]
        by_cases h3 : a.drop (a.length - b.length) = b
        · refine out_if (by simpa using h3) (out_if (by rw [w2]; exact inb_nat (by omega)) ?_)
          rw [w2, Int.toNat_natCast, byteAt_lt (show a.length - b.length - 1 < a.length by omega)]
          generalize a[a.length - b.length - 1]'(by omega) = c
          have : ((c.toNat : Int) == 46) = (c :: a.drop (a.length - b.length) == 46 :: b) := by
            rw [Bool.eq_iff_iff]
            simp only [beq_iff_eq, List.cons.injEq, h3, and_true]
            constructor
            · intro h; exact UInt8.toNat_inj.1 (by show c.toNat = 46; omega)
            · rintro rfl; rfl
          rw [this]
        · refine out_else (by simpa using h3) ?_
          have : (a[a.length - b.length - 1]'(by omega) :: a.drop (a.length - b.length) == 46 :: b) = false := by
            simp [h3]
          rw [this]
      · have hle : decide ((46 :: b).length ≤ a.length) = false := decide_eq_false (by simp; omega)
        rw [hle, Bool.false_and]
        exact out_else (fun h' => by have h'' : (a.length : Int) - (b.length : Int) > 0 := of_decide_eq_true h'; omega) rfl

/-! what is above a name -/
theorem parent_drop {s : List UInt8} {k : Nat} (hk : k < s.length) (hb : s[k] = 46) (h : ∀ i (hi : i < s.length), i < k → s[i] ≠ 46) : parent s = s.drop (k + 1) := by
  induction s generalizing k with
  | nil => simp at hk
  | cons c s ih =>
    unfold parent
    cases k with
    | zero => rw [if_pos (by simpa using hb)]; rfl
    | succ k =>
      have h0 := h 0 (by simp) (by omega)
      rw [if_neg (by simpa using h0)]
      exact ih (by simpa using hk) (by simpa using hb) (fun i hi hik => by have := h (i + 1) (by simp; omega) (by omega); simpa using this)
theorem parent_none : ∀ {s : List UInt8}, (∀ i (hi : i < s.length), s[i] ≠ 46) → parent s = []
  | [], _ => rfl
  | c :: s, h => by
    unfold parent
    have h0 := h 0 (by simp)
    rw [if_neg (by simpa using h0)]
    exact parent_none fun i hi => by have := h (i + 1) (by simp; omega); simpa using this
theorem f_l1Parent {s : List UInt8} (h : s.length ≤ lim) : e_spec_l1Parent.F [.str s] = some (.str (parent s)) := by
  have hlim : lim = 1048576 := rfl
  have hsm := Nat.le_trans h lim_smax
  rw [q_spec_l1Parent]
  have hp : ∀ i (hi : i < s.length), ((byteAt s i : Int) == 46) = (s[i] == 46) := by
    intro i hi
    rw [byteAt_lt hi, Bool.eq_iff_iff]
    simp only [beq_iff_eq]
    constructor
    · intro h; exact UInt8.toNat_inj.1 (by show s[i].toNat = 46; omega)
    · intro h; rw [h]; rfl
  rcases loop_find (l := [.int 0]) (fun i => [.int i]) s.length (fun i => !(s.getD i 0 == 46)) (t1 := 0) (t2 := 1) (o1 := fun k => [.str (s.drop (k + 1))]) (o2 := []) (f := fun l1 =>
      if (decide ((gd l1 0).i < ((D.str s).s.length : Int))) then
        if (inb (gd l1 0).i (D.str s).s.length) then
        if ((byteAt (D.str s).s (gd l1 0).i.toNat : Int) == 46) then
          if (slOk (IntKind.wrap .i64 ((gd l1 0).i + 1)) ((D.str s).s.length : Int) ((D.str s).s.length : Int)) then
          ou 1 [(.str (((D.str s).s.take ((D.str s).s.length : Int).toNat).drop (IntKind.wrap .i64 ((gd l1 0).i + 1)).toNat))]
          else none
        else
          ou 0 [(.int (IntKind.wrap .i64 ((gd l1 0).i + 1)))]
        else none
      else
        ou 2 []) rfl (by
      intro i hi hpi
      rw [getD_lt hi] at hpi
      have := hp i hi
      rw [show (s[i] == 46) = false by simpa using hpi] at this
      refine out_if (by simpa using hi) (out_if (by simpa using inb_nat hi) ?_)
      have e0 : (gd [D.int (i : Int)] 0).i.toNat = i := by simp
      have e1 : (gd [D.int (i : Int)] 0).i = i := rfl
      rw [e0, e1, wrap_succ hi hsm]
      exact out_else (by rw [show (D.str s).s = s from rfl, this]; decide) rfl) (by
      intro i hi hpi
      rw [getD_lt hi] at hpi
      have := hp i hi
      rw [show (s[i] == 46) = true by simpa using hpi] at this
      refine out_if (by simpa using hi) (out_if (by simpa using inb_nat hi) ?_)
      have e0 : (gd [D.int (i : Int)] 0).i.toNat = i := by simp
      have e1 : (gd [D.int (i : Int)] 0).i = i := rfl
      rw [e0, e1, wrap_succ hi hsm, show (D.str s).s = s from rfl]
      refine out_if this (out_if (by simp [slOk]; omega) ?_)
      rw [Int.toNat_natCast, Int.toNat_natCast, List.take_length]) (by
      exact out_else (by simp) rfl) with ⟨hall, hloop⟩ | ⟨k, hk, hpk, hall, hloop⟩
  · refine rn_bind hloop ?_
    rw [parent_none (fun i hi => by have := hall i hi; rw [getD_lt hi] at this; simpa using this)]; rfl
  · refine rn_bind hloop ?_
    rw [getD_lt hk] at hpk
    rw [parent_drop hk (by simpa using hpk) (fun i hi hik => by have := hall i hik; rw [getD_lt hi] at this; simpa using this)]; rfl

/-! records of a name and a type -/
def isAt (n : List UInt8) (k : Int) (r : Rec) : Bool := r.name == n && (k == 0 || r.type == k)
theorem f_at {xs : List Rec} {n : List UInt8} {k : Int} (hl : xs.length ≤ lim) : e_impl_at.F [.lst (xs.map Rec.d), .str n, .int k] = some (.lst ((xs.filter (isAt n k)).map Rec.d)) := by
  have hlim : lim = 1048576 := rfl
  have hsm := Nat.le_trans hl lim_smax
  rw [q_impl_at]
  have hlen : (D.lst (xs.map Rec.d)).l.length = xs.length := by simp
  rw [hlen]
  refine rn_bind (loop_for' (fun i (zs : List Rec) => [.lst (zs.map Rec.d), .int i]) xs.length (fun i => (xs.take i).filter (isAt n k)) (t := 0) (o := [.lst ((xs.filter (isAt n k)).map Rec.d)]) (by simp) ?_ ?_) rfl
  · intro i hi
    have hg : gd (D.lst (xs.map Rec.d)).l i = xs[i].d := gd_rec hi
    have e0 : (gd [D.lst (((xs.take i).filter (isAt n k)).map Rec.d), D.int (i : Int)] 1).i.toNat = i := by simp
    have e1 : (gd [D.lst (((xs.take i).filter (isAt n k)).map Rec.d), D.int (i : Int)] 1).i = i := rfl
    have e2 : (gd [D.lst (((xs.take i).filter (isAt n k)).map Rec.d), D.int (i : Int)] 0) = D.lst (((xs.take i).filter (isAt n k)).map Rec.d) := rfl
    have g0 : (xs[i].d.fld 0).s = xs[i].name := rfl
    have g1 : (xs[i].d.fld 1).i = xs[i].type := rfl
    have hfl : ((xs.take i).filter (isAt n k)).length ≤ i := by
      have := List.length_filter_le (isAt n k) (xs.take i); simp at this; omega
    rw [e0, e1, e2, hg, g0, g1, wrap_succ hi hsm]
    refine out_if (by simpa using hi) (out_bind (r := (0, [.lst (((xs.take (i + 1)).filter (isAt n k)).map Rec.d)])) (out_if (by simpa using inb_nat hi) (out_bind (r := (0, [.bool (isAt n k xs[i])])) ?_ (sel0 ?_))) (sel0 rfl))
    · unfold isAt
      simp only [D.s_str, D.i_int]
      by_cases h1 : xs[i].name = n
      · refine out_if (by simpa using h1) ?_
        by_cases h2 : k = 0
        · exact out_if (by simpa using h2) (by simp [h1, h2])
        · exact out_else (by simpa using h2) (by simp [h1, h2])
      · exact out_else (by simpa using h1) (by simp [h1])
    · rw [List.take_succ_eq_append_getElem hi, List.filter_append]
      cases hq : isAt n k xs[i] with
      | false => exact out_else (by simp) (by simp [List.filter_cons, hq])
      | true =>
        refine out_if rfl (out_if ?_ (by simp [List.filter_cons, hq]))
        simp only [D.l_lst, appOk, List.length_map, List.length_singleton, smax_eq, Bool.and_eq_true, decide_eq_true_eq]
        omega
  · have h1 : xs.take xs.length = xs := List.take_length
    exact out_else (by simp) (by simp [h1])

def hasAt (xs : List Rec) (n : List UInt8) (k : Int) : Bool := xs.any fun r => r.name == n && r.type == k
theorem f_l6Has {xs : List Rec} {n : List UInt8} {k : Int} (hl : xs.length ≤ lim) : e_spec_l6Has.F [.lst (xs.map Rec.d), .str n, .int k] = some (.bool (hasAt xs n k)) := by
  have hsm := Nat.le_trans hl lim_smax
  rw [q_spec_l6Has]
  have hlen : (D.lst (xs.map Rec.d)).l.length = xs.length := by simp
  rw [hlen]
  refine rn_bind (loop_all' (fun i => [.int i]) xs.length (fun i => !((xs.getD i Rec.nul).name == n && (xs.getD i Rec.nul).type == k)) (t1 := 0) (t2 := 1) (o1 := [.bool true]) (o2 := []) rfl ?_ ?_) ?_
  · intro i hi
    rw [getD_lt hi]
    have hg : gd (D.lst (xs.map Rec.d)).l i = xs[i].d := gd_rec hi
    have e0 : (gd [D.int (i : Int)] 0).i.toNat = i := by simp
    have e1 : (gd [D.int (i : Int)] 0).i = i := rfl
    have g0 : (xs[i].d.fld 0).s = xs[i].name := rfl
    have g1 : (xs[i].d.fld 1).i = xs[i].type := rfl
    rw [e0, e1, hg, g0, g1, wrap_succ hi hsm]
    refine out_if (by simpa using hi) (out_if (by simpa using inb_nat hi) (out_bind (r := (0, [.bool (xs[i].name == n && xs[i].type == k)])) ?_ ?_))
    · by_cases h1 : xs[i].name = n
      · exact out_if (by simpa using h1) (by simp [h1])
      · exact out_else (by simpa using h1) (by simp [h1])
    · cases (xs[i].name == n && xs[i].type == k) <;> simp
  · simp
  · have : allN xs.length (fun i => !((xs.getD i Rec.nul).name == n && (xs.getD i Rec.nul).type == k)) = !(hasAt xs n k) := by
      rw [all_allN xs (fun r => !(r.name == n && r.type == k)) Rec.nul]
      unfold hasAt
      rw [← List.not_any_eq_all_not]
    rw [this]
    cases hasAt xs n k <;> simp

/-! the cut above a name -/
def cutOf (apex : List UInt8) (xs : List Rec) (s : List UInt8) : Option (List UInt8) := walkUp apex (fun n => hasAt xs n 2) (s.length + 1) s none
def cutDt : Option (List UInt8) → D × D
  | none => (.str [], .bool false)
  | some s => (.str s, .bool true)
theorem parent_le (s : List UInt8) : (parent s).length ≤ s.length := by
  cases s with
  | nil => exact Nat.le_refl _
  | cons c s => exact Nat.le_of_lt (parent_len (by simp))
theorem f_l6Cut {apex : List UInt8} {xs : List Rec} {s : List UInt8} (ha : apex.length ≤ lim) (hl : xs.length ≤ lim) (hs : s.length ≤ lim) : e_spec_l6Cut.F [.str apex, .lst (xs.map Rec.d), .str s] = some (.pair (cutDt (cutOf apex xs s)).1 (.pair (cutDt (cutOf apex xs s)).2 .unit)) := by
  rw [q_spec_l6Cut]
  have key : ∀ (n : Nat) (s : List UInt8) (o : Option (List UInt8)), s.length < n → s.length ≤ lim → loopF (fun l3 =>
      (if (!((gd l3 0).s == (D.str apex).s)) then
          (e_spec_l1Below.F [(gd l3 0), (.str apex)]).bind fun r6 =>
          ou 0 [r6]
        else
          ou 0 [(.bool false)]).bind fun o6 =>
      sel2 o6.1 (if (gd o6.2 0).b then
          ((e_spec_l6Has.F [(.lst (xs.map Rec.d)), (gd l3 0), (.int 2)]).bind fun r7 =>
            if r7.b then
              ou 0 [(gd l3 0), (.bool true)]
            else
              ou 0 [(gd l3 1), (gd l3 2)]).bind fun o7 =>
          sel2 o7.1 (if ((gd l3 0).s == ([] : List UInt8)) then
              ou 1 [(gd o7.2 0), (gd o7.2 1)]
            else
              (e_spec_l1Parent.F [(gd l3 0)]).bind fun r9 =>
              ou 0 [r9, (gd o7.2 0), (gd o7.2 1)]) fun _ => none
        else
          ou 1 [(gd l3 1), (gd l3 2)]) fun _ => none) [.str s, (cutDt o).1, (cutDt o).2] = some (0, [(cutDt (walkUp apex (fun n => hasAt xs n 2) n s o)).1, (cutDt (walkUp apex (fun n => hasAt xs n 2) n s o)).2]) := by
    intro n
    induction n with
    | zero => intro s o h; omega
    | succ n ih =>
      intro s o h hs
      unfold walkUp
      have hb := f_l1Below hs ha
      have hh := f_l6Has (xs := xs) (n := s) (k := 2) hl
      have e0 : gd [D.str s, (cutDt o).1, (cutDt o).2] 0 = .str s := rfl
      have hj : (s ≠ apex ∧ bel s apex = true) ↔ (!(s == apex) && bel s apex) = true := by simp
      by_cases hc : s ≠ apex ∧ bel s apex = true
      · rw [if_pos hc]
        have h1 : (if (!((D.str s).s == (D.str apex).s)) = true then (e_spec_l1Below.F [(D.str s), (.str apex)]).bind fun r6 => ou 0 [r6] else ou 0 [(.bool false)] : Outc) = some (0, [.bool true]) := by
          rw [hc.2] at hb
          exact out_if (by simpa using hc.1) (out_call hb rfl)
        have h2 : ((e_spec_l6Has.F [(.lst (xs.map Rec.d)), (D.str s), (.int 2)]).bind fun r7 =>
            if r7.b then
              ou 0 [(D.str s), (.bool true)]
            else
              ou 0 [(cutDt o).1, (cutDt o).2] : Outc) = some (0, [(cutDt (if hasAt xs s 2 then some s else o)).1, (cutDt (if hasAt xs s 2 then some s else o)).2]) := by
          refine out_call hh ?_
          cases hasAt xs s 2 with
          | false => exact out_else (by simp) (by simp)
          | true => exact out_if rfl (by simp [cutDt])
        by_cases h0 : s = []
        · rw [if_pos h0]
          refine loopF_exit (out_bind h1 (sel0 (out_if rfl (out_bind h2 (sel0 (out_if ?_ rfl))))))
          simpa using h0
        · rw [if_neg h0]
          have hp := f_l1Parent hs
          have hpl := parent_len h0
          rw [← ih (parent s) (if hasAt xs s 2 then some s else o) (by omega) (by omega)]
          refine loopF_step (out_bind h1 (sel0 (out_if rfl (out_bind h2 (sel0 (out_else ?_ (out_call hp rfl)))))))
          simpa using h0
      · rw [if_neg hc]
        refine loopF_exit (out_bind (r := (0, [.bool false])) ?_ (sel0 (out_else (by simp) rfl)))
        by_cases h1 : s = apex
        · exact out_else (by simpa using h1) rfl
        · refine out_if (by simpa using h1) ?_
          have : bel s apex = false := by
            cases hq : bel s apex with
            | false => rfl
            | true => exact absurd ⟨h1, hq⟩ hc
          rw [this] at hb
          exact out_call hb rfl
  exact rn_bind (key (s.length + 1) s none (by omega) hs) rfl
end Go.Proofs.YtlflhlgppbbahaaGreatDoor

/-! The rules of a zone, by the program and by the reference. -/
namespace Go.Proofs.YtlflhlgppbbahaaGreatDoor
open Go Go.Own

def brk3 (r x : Rec) : Bool := x.ttl != r.ttl || (x.data == r.data && !(D.beq x.d r.d))
def brk6 (apex : List UInt8) (r c : Rec) : Bool := (c.type == 2 && (!(c.name == apex) && bel r.name c.name)) && (r.type != 1 && !(r.type == 2 && r.name == c.name))
def brk (apex : List UInt8) (xs : List Rec) (r : Rec) (k : Nat) : Bool :=
  if k = 1 then !bel r.name apex
  else if k = 2 then r.type == 6 && !(r.name == apex)
  else if k = 3 then (xs.filter (isAt r.name r.type)).any (brk3 r)
  else if k = 4 then r.type == 5 && decide (1 < (xs.filter (isAt r.name 0)).length)
  else if k = 5 then r.type == 5 && r.name == apex
  else xs.any (brk6 apex r)

theorem f_breaks1 (x r : Rec) : e_impl_breaks_1.F [x.d, r.d] = some (.bool (brk3 r x)) := by
  rw [q_impl_breaks_1]
  refine rn_bind0 (l := [.bool (brk3 r x)]) ?_ rfl
  have f2 : (x.d.fld 2).i = x.ttl := rfl
  have g2 : (r.d.fld 2).i = r.ttl := rfl
  have f3 : (x.d.fld 3).s = x.data := rfl
  have g3 : (r.d.fld 3).s = r.data := rfl
  rw [f2, g2, f3, g3]
  unfold brk3
  by_cases h1 : x.ttl = r.ttl
  · refine out_else (by simp [h1]) ?_
    have e1 : (x.ttl != r.ttl) = false := by simp [h1]
    rw [e1, Bool.false_or]
    by_cases h2 : x.data = r.data
    · exact out_if (by simpa using h2) (by simp [h2])
    · exact out_else (by simpa using h2) (by simp [h2])
  · exact out_if (by simpa using h1) (by simp [h1])
theorem f_contains1 {xs : List Rec} (r : Rec) (hl : xs.length ≤ smax) : e_slices_ContainsFunc_impl_Record_impl_Record__impl_breaks_1.F [.lst (xs.map Rec.d), .pair r.d .unit] = some (.bool (xs.any (brk3 r))) := by
  rw [q_slices_ContainsFunc_impl_Record_impl_Record__impl_breaks_1]
  obtain ⟨n, h1, h2⟩ := idx_gen (f := Rec.d) (c := fun d => e_impl_breaks_1.F [d, r.d]) (xs := xs) (p := brk3 r) hl (fun x _ => f_breaks1 x r)
  have h3 : e_slices_IndexFunc_impl_Record_impl_Record__impl_breaks_1.F [.lst (xs.map Rec.d), .pair r.d .unit] = some (.int n) := by
    rw [q_slices_IndexFunc_impl_Record_impl_Record__impl_breaks_1]; exact h1
  refine rn_call h3 ?_
  rw [← h2]; rfl
theorem f_breaks2 {apex : List UInt8} {c r : Rec} (hc : c.In lim) (hr : r.In lim) : e_impl_breaks_2.F [c.d, .str apex, r.d] = some (.bool (brk6 apex r c)) := by
  rw [q_impl_breaks_2]
  have f0 : (c.d.fld 0) = .str c.name := rfl
  have f1 : (c.d.fld 1).i = c.type := rfl
  have g0 : (r.d.fld 0) = .str r.name := rfl
  have g1 : (r.d.fld 1).i = r.type := rfl
  rw [f0, f1, g0, g1]
  simp only [D.s_str]
  have hb := f_isBelow hr.name hc.name
  refine rn_bind0 (l := [.bool (c.type == 2 && (!(c.name == apex) && bel r.name c.name))]) ?_ (rn_bind0 (l := [.bool (brk6 apex r c)]) ?_ rfl)
  · by_cases h1 : c.type = 2
    · refine out_if (by simpa using h1) ?_
      by_cases h2 : c.name = apex
      · exact out_else (by simpa using h2) (by simp [h2])
      · exact out_if (by simpa using h2) (out_call hb (by simp [h1, h2]))
    · exact out_else (by simpa using h1) (by simp [h1])
  · unfold brk6
    cases (c.type == 2 && (!(c.name == apex) && bel r.name c.name)) with
    | false => exact out_else (by simp) rfl
    | true =>
      refine out_if rfl ?_
      rw [Bool.true_and]
      by_cases h1 : r.type = 1
      · exact out_else (by simp [h1]) (by simp [h1])
      · refine out_if (by simpa using h1) ?_
        by_cases h2 : r.type = 2
        · exact out_if (by simpa using h2) (by simp [h2])
        · exact out_else (by simpa using h2) (by simp [h1, h2])
theorem f_contains2 {apex : List UInt8} {xs : List Rec} {r : Rec} (hl : xs.length ≤ smax) (hx : ∀ x ∈ xs, x.In lim) (hr : r.In lim) : e_slices_ContainsFunc_impl_Record_impl_Record__impl_breaks_2.F [.lst (xs.map Rec.d), .pair (.str apex) (.pair r.d .unit)] = some (.bool (xs.any (brk6 apex r))) := by
  rw [q_slices_ContainsFunc_impl_Record_impl_Record__impl_breaks_2]
  obtain ⟨n, h1, h2⟩ := idx_gen (f := Rec.d) (c := fun d => e_impl_breaks_2.F [d, .str apex, r.d]) (xs := xs) (p := brk6 apex r) hl (fun x hx' => f_breaks2 (hx x hx') hr)
  have h3 : e_slices_IndexFunc_impl_Record_impl_Record__impl_breaks_2.F [.lst (xs.map Rec.d), .pair (.str apex) (.pair r.d .unit)] = some (.int n) := by
    rw [q_slices_IndexFunc_impl_Record_impl_Record__impl_breaks_2]; exact h1
  refine rn_call h3 ?_
  rw [← h2]; rfl
theorem f_breaks {apex : List UInt8} {xs : List Rec} {r : Rec} {k : Nat} (hk : 1 ≤ k ∧ k ≤ 6) (ha : apex.length ≤ lim) (hl : xs.length ≤ lim) (hx : ∀ x ∈ xs, x.In lim) (hr : r.In lim) : e_impl_breaks.F [.str apex, .lst (xs.map Rec.d), r.d, .int k] = some (.bool (brk apex xs r k)) := by
  have hsm := Nat.le_trans hl lim_smax
  rw [q_impl_breaks]
  have g0 : (r.d.fld 0) = .str r.name := rfl
  have g1 : (r.d.fld 1) = .int r.type := rfl
  rw [g0, g1]
  simp only [D.i_int, D.s_str]
  have kb : ∀ n : Nat, k ≠ n → ¬ ((k : Int) == (n : Int)) = true := fun n h => by simp; omega
  unfold brk
  by_cases k1 : k = 1
  · subst k1
    exact rn_if rfl (rn_call (f_isBelow hr.name ha) rfl)
  rw [if_neg k1]
  refine rn_else (kb 1 k1) ?_
  by_cases k2 : k = 2
  · subst k2
    refine rn_if rfl (rn_bind0 (l := [.bool (r.type == 6 && !(r.name == apex))]) ?_ rfl)
    by_cases h1 : r.type = 6
    · exact out_if (by simpa using h1) (by simp [h1])
    · exact out_else (by simpa using h1) (by simp [h1])
  rw [if_neg k2]
  refine rn_else (kb 2 k2) ?_
  by_cases k3 : k = 3
  · subst k3
    have hfl := List.length_filter_le (isAt r.name r.type) xs
    exact rn_if rfl (rn_call (f_at hl) (rn_call (f_contains1 r (by omega)) rfl))
  rw [if_neg k3]
  refine rn_else (kb 3 k3) ?_
  by_cases k4 : k = 4
  · subst k4
    refine rn_if rfl (rn_bind0 (l := [.bool (r.type == 5 && decide (1 < (xs.filter (isAt r.name 0)).length))]) ?_ rfl)
    by_cases h1 : r.type = 5
    · refine out_if (by simpa using h1) (out_call (f_at hl) ?_)
      have e : (D.lst ((xs.filter (isAt r.name 0)).map Rec.d)).l.length = (xs.filter (isAt r.name 0)).length := by simp
      have e2 : decide (((xs.filter (isAt r.name 0)).length : Int) > 1) = decide (1 < (xs.filter (isAt r.name 0)).length) := by rw [Bool.eq_iff_iff]; simp; omega
      rw [e, e2]; simp [h1]
    · exact out_else (by simpa using h1) (by simp [h1])
  rw [if_neg k4]
  refine rn_else (kb 4 k4) ?_
  by_cases k5 : k = 5
  · subst k5
    refine rn_if rfl (rn_bind0 (l := [.bool (r.type == 5 && r.name == apex)]) ?_ rfl)
    by_cases h1 : r.type = 5
    · exact out_if (by simpa using h1) (by simp [h1])
    · exact out_else (by simpa using h1) (by simp [h1])
  rw [if_neg k5]
  refine rn_else (kb 5 k5) ?_
  exact rn_call (f_contains2 hsm hx hr) rfl
theorem f_contains0 {apex : List UInt8} {xs : List Rec} {k : Nat} (hk : 1 ≤ k ∧ k ≤ 6) (ha : apex.length ≤ lim) (hl : xs.length ≤ lim) (hx : ∀ x ∈ xs, x.In lim) :
    e_slices_ContainsFunc_impl_Record_impl_Record__impl_RuleOf_1.F [.lst (xs.map Rec.d), .pair (.str apex) (.pair (.lst (xs.map Rec.d)) (.pair (.int k) .unit))] = some (.bool (xs.any fun r => brk apex xs r k)) := by
  rw [q_slices_ContainsFunc_impl_Record_impl_Record__impl_RuleOf_1]
  obtain ⟨n, h1, h2⟩ := idx_gen (f := Rec.d) (c := fun d => e_impl_RuleOf_1.F [d, .str apex, .lst (xs.map Rec.d), .int k]) (xs := xs) (p := fun r => brk apex xs r k) (Nat.le_trans hl lim_smax) (fun x hx' => by
    have := f_breaks (apex := apex) hk ha hl hx (hx x hx')
    show e_impl_RuleOf_1.F [x.d, .str apex, .lst (xs.map Rec.d), .int k] = _
    rw [q_impl_RuleOf_1]
    exact rn_call this rfl)
  have h3 : e_slices_IndexFunc_impl_Record_impl_Record__impl_RuleOf_1.F [.lst (xs.map Rec.d), .pair (.str apex) (.pair (.lst (xs.map Rec.d)) (.pair (.int k) .unit))] = some (.int n) := by
    rw [q_slices_IndexFunc_impl_Record_impl_Record__impl_RuleOf_1]; exact h1
  refine rn_call h3 ?_
  rw [← h2]; rfl

/-- an apex -/
def isApx (s : List UInt8) : Bool := isName s && !(s.contains 42)
theorem f_isApex {s : List UInt8} (h : s.length ≤ lim) : e_impl_isApex.F [.str s] = some (.bool (isApx s)) := by
  rw [q_impl_isApex]
  have hn := f_GoodName s
  have hc := f_contains h
  refine rn_bind0 (l := [.bool (isApx s)]) ?_ rfl
  unfold isApx
  cases h1 : isName s with
  | false => rw [h1] at hn; exact out_call hn (out_else (by simp) rfl)
  | true => rw [h1] at hn; exact out_call hn (out_if rfl (out_call hc (by simp)))
theorem f_l6Apex {s : List UInt8} (h : s.length ≤ lim) : e_spec_l6Apex.F [.str s] = some (.bool (isApx s)) := by
  have hlim : lim = 1048576 := rfl
  rw [q_spec_l6Apex]
  obtain ⟨ls, hl, hll, hpt⟩ := f_l1LabelsX s h
  have hsm : ls.length ≤ smax := by rw [smax_eq]; omega
  have f0 : ((D.pair (.lst (ls.map D.str)) (.pair (.bool (isName s)) .unit)).fld 0).l = ls.map D.str := rfl
  have f1 : (D.pair (.lst (ls.map D.str)) (.pair (.bool (isName s)) .unit)).fld 1 = .bool (isName s) := rfl
  refine rn_call hl ?_
  rw [f0, f1, List.length_map]
  refine rn_bind (loop_for' (fun i (b : Bool) => [.bool b, .int i]) ls.length (fun i => isName s && (ls.take i).all (fun x => !(x == [42]))) (t := 0) (o := [.bool (isName s && ls.all (fun x => !(x == [42])))]) (by simp) ?_ ?_) ?_
  · intro i hi
    have hg := gd_parts hi
    refine out_if (by simpa using hi) (out_bind (r := (0, [.bool (isName s && (ls.take (i + 1)).all (fun x => !(x == [42])))])) (out_if (by simpa using inb_nat hi) ?_) (sel0 ?_))
    · simp only [gd_zero, gd_one, D.i_int, Int.toNat_natCast, D.b_bool, hg]
      rw [List.take_succ_eq_append_getElem hi, List.all_append, ← Bool.and_assoc]
      cases (isName s && (ls.take i).all (fun x => !(x == [42]))) with
      | false => exact out_else (by simp) (by simp)
      | true => exact out_if rfl (by simp)
    · simp [wrap_succ hi hsm]
  · simp
  · have : (isName s && ls.all (fun x => !(x == [42]))) = isApx s := by
      unfold isApx
      cases hn : isName s with
      | false => rfl
      | true =>
        have hls := hpt hn
        subst hls
        rw [Bool.true_and, Bool.true_and]
        by_cases h0 : s = []
        · subst h0; rfl
        · rw [name_star hn h0, List.not_any_eq_all_not]
    rw [this]; rfl
noncomputable def isWhl (apex : List UInt8) (xs : List Rec) : Bool := isApx apex && (decide (xs.length ≤ 40) && rising xs)
theorem f_isWhole {apex : List UInt8} {xs : List Rec} (ha : apex.length ≤ lim) (hl : xs.length ≤ lim) (hx : ∀ x ∈ xs, x.In lim) : e_impl_isWhole.F [.str apex, .lst (xs.map Rec.d)] = some (.bool (isWhl apex xs)) := by
  rw [q_impl_isWhole]
  have h1 := f_isApex ha
  have h2 := f_areRising hl hx
  have hlen : (D.lst (xs.map Rec.d)).l.length = xs.length := by simp
  rw [hlen]
  refine rn_bind0 (l := [.bool (isWhl apex xs)]) ?_ rfl
  unfold isWhl
  cases k1 : isApx apex with
  | false => rw [k1] at h1; exact out_call h1 (out_else (by simp) rfl)
  | true =>
    rw [k1] at h1
    refine out_call h1 (out_if rfl ?_)
    by_cases h40 : xs.length ≤ 40
    · exact out_if (decide_eq_true (show (xs.length : Int) ≤ 40 by omega)) (out_call h2 (by simp [h40]))
    · exact out_else (fun h => h40 (by have h' : (xs.length : Int) ≤ 40 := of_decide_eq_true h; omega)) (by simp [h40])
/-- no record breaks a rule -/
def keeps (apex : List UInt8) (xs : List Rec) (k : Nat) : Bool := !(xs.any fun r => brk apex xs r k) && (!decide (k = 2) || decide ((xs.filter (isAt apex 6)).length = 1))
theorem f_RuleOf {apex : List UInt8} {xs : List Rec} (ha : apex.length ≤ lim) (hl : xs.length ≤ lim) (hx : ∀ x ∈ xs, x.In lim) :
    ∃ n : Int, e_impl_RuleOf.F [.str apex, .lst (xs.map Rec.d)] = some (.int n) ∧ (n = 0 ↔ isWhl apex xs = true ∧ ∀ k, 1 ≤ k → k ≤ 6 → keeps apex xs k = true) := by
  rw [q_impl_RuleOf]
  have hw := f_isWhole ha hl hx
  cases k1 : isWhl apex xs with
  | false =>
    rw [k1] at hw
    exact ⟨9, rn_call hw (rn_if rfl rfl), by simp⟩
  | true =>
    rw [k1] at hw
    let F : List D → Outc := fun l3 =>
        if (decide ((gd l3 0).i ≤ 6)) then
          ((e_slices_ContainsFunc_impl_Record_impl_Record__impl_RuleOf_1.F [(.lst (xs.map Rec.d)), (.pair (.str apex) (.pair (.lst (xs.map Rec.d)) (.pair (gd l3 0) .unit)))]).bind fun r4 =>
            if r4.b then
              ou 0 [(.bool true)]
            else
              if ((gd l3 0).i == 2) then
                (e_impl_at.F [(.lst (xs.map Rec.d)), (.str apex), (.int 6)]).bind fun r5 =>
                ou 0 [(.bool ((r5.l.length : Int) != 1))]
              else
                ou 0 [(.bool false)]).bind fun o4 =>
          sel2 o4.1 (if (gd o4.2 0).b then
              ou 1 [(gd l3 0)]
            else
              ou 0 [(.int (IntKind.wrap .i64 ((gd l3 0).i + 1)))]) fun _ => none
        else
          ou 2 []
    have hst : ∀ i, i < 6 → ∀ R, (if keeps apex xs (i + 1) then ou 0 [.int ((i + 1 + 1 : Nat) : Int)] else ou 1 [.int ((i + 1 : Nat) : Int)] : Outc) = R → F [.int ((i + 1 : Nat) : Int)] = R := by
      intro i hi R hR
      have hc := f_contains0 (apex := apex) (xs := xs) (k := i + 1) ⟨by omega, by omega⟩ ha hl hx
      have w : IntKind.wrap .i64 (((i + 1 : Nat) : Int) + 1) = ((i + 1 + 1 : Nat) : Int) := by rw [wrap_id] <;> omega
      refine out_if (decide_eq_true (by simp; omega)) (out_bind (r := (0, [.bool !(keeps apex xs (i + 1))])) (out_call hc ?_) (sel0 ?_))
      · unfold keeps
        cases (xs.any fun r => brk apex xs r (i + 1)) with
        | true => exact out_if rfl rfl
        | false =>
          refine out_else (by simp) ?_
          by_cases h2 : i + 1 = 2
          · refine out_if (by simp; omega) (out_call (f_at hl) ?_)
            have e : (D.lst ((xs.filter (isAt apex 6)).map Rec.d)).l.length = (xs.filter (isAt apex 6)).length := by simp
            have e2 : (((xs.filter (isAt apex 6)).length : Int) != 1) = !(decide ((xs.filter (isAt apex 6)).length = 1)) := by rw [Bool.eq_iff_iff]; simp; omega
            rw [e, e2]; simp [h2]
          · exact out_else (by simp; omega) (by simp [h2])
      · rw [← hR]
        have g0 : gd [D.int ((i + 1 : Nat) : Int)] 0 = .int ((i + 1 : Nat) : Int) := rfl
        rw [g0, D.i_int, w]
        cases keeps apex xs (i + 1) <;> simp
    have hend : F [.int 7] = some (2, []) := out_else (by decide) rfl
    rcases loop_find (f := F) (l := [.int 1]) (fun i => [.int ((i + 1 : Nat) : Int)]) 6 (fun i => keeps apex xs (i + 1)) (t1 := 0) (t2 := 1) (o1 := fun i => [.int ((i + 1 : Nat) : Int)]) (o2 := []) rfl (by
        intro i hi h; exact hst i hi _ (by rw [h]; rfl)) (by
        intro i hi h; exact hst i hi _ (by rw [h]; rfl)) hend with ⟨hall, hloop⟩ | ⟨k, hk, hpk, hall, hloop⟩
    · refine ⟨0, rn_call hw (rn_else (by simp) (rn_bind hloop rfl)), by
        simp only [true_and, true_iff]
        intro k h1 h6
        have := hall (k - 1) (by omega)
        rwa [show k - 1 + 1 = k by omega] at this⟩
    · refine ⟨((k + 1 : Nat) : Int), rn_call hw (rn_else (by simp) (rn_bind hloop rfl)), ?_⟩
      constructor
      · intro h; omega
      · rintro ⟨_, h⟩
        rw [h (k + 1) (by omega) (by omega)] at hpk
        cases hpk
end Go.Proofs.YtlflhlgppbbahaaGreatDoor
