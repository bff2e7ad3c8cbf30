/- What the functions compute, in plain words. -/
import Derived.Test.YtlflhlgppbbahaaGreatDoorP5
set_option linter.unusedSectionVars false
set_option linter.unusedVariables false
set_option linter.unusedSimpArgs false
/-! Zones and controls: what the laws look at. -/
namespace Go.Own
variable [Glb]
open Go
theorem rn_else_exA {α : Type} {g : α → D} {c : Prop} [Decidable c] {a b : Outc} (h : ¬ c) (hk : ∃ s, rn b = some (g s)) : ∃ s, rn (if c then a else b) = some (g s) := by rw [if_neg h]; exact hk
/-- a number's digits, the last first -/
theorem digits_loopA {f : List D → Outc} {c : Nat × List D → Outc} {k : Int} (h0 : 0 ≤ k) (h1 : k < 10 ^ 18)
    (hs : ∀ (n : Int) (s : List UInt8), 0 < n → n < 10 ^ 18 → s.length ≤ 30 → ∃ c : List UInt8, c.length = 1 ∧ f [.int n, .str s] = some (0, [.int (n.tdiv 10), .str (c ++ s)]))
    (he : ∀ (n : Int) (s : List UInt8), n ≤ 0 → f [.int n, .str s] = some (1, [.str s])) (hc : ∀ s : List UInt8, s.length ≤ 30 → ∃ s', rn (c (0, [.str s])) = some (.str s')) :
    ∃ s, rn ((loopF f [.int k, .str []]).bind c) = some (.str s) := by
  have key : ∀ (fuel : Nat), fuel ≤ 18 → ∀ (n : Int) (s : List UInt8), 0 ≤ n → n < 10 ^ fuel → s.length + fuel ≤ 30 → ∃ s', loopF f [.int n, .str s] = some (0, [.str s']) ∧ s'.length ≤ 30 := by
    intro fuel
    induction fuel with
    | zero =>
      intro _ n s h0 h1 h2
      exact ⟨s, loopF_exit (he n s (by simp at h1; omega)), by omega⟩
    | succ m ih =>
      intro hm n s h0 h1 h2
      by_cases hn : n ≤ 0
      · exact ⟨s, loopF_exit (he n s hn), by omega⟩
      · have hp : (10 : Int) ^ (m + 1) = 10 ^ m * 10 := Int.pow_succ 10 m
        have hp2 : (10 : Int) ^ (m + 1) ≤ 10 ^ 18 := by
          have := Nat.pow_le_pow_right (n := 10) (by omega) hm
          exact_mod_cast this
        obtain ⟨c, hc, hstep⟩ := hs n s (by omega) (by omega) (by omega)
        rw [loopF_step hstep]
        have h3 : n.tdiv 10 = n / 10 := Int.tdiv_eq_ediv_of_nonneg (by omega)
        refine ih (by omega) (n.tdiv 10) (c ++ s) (by omega) ?_ (by simp; omega)
        rw [h3]
        omega
  obtain ⟨s, h2, h3⟩ := key 18 (Nat.le_refl _) k [] h0 h1 (by simp)
  rw [h2]
  exact hc s h3
end Go.Own
namespace Go.Proofs.YtlflhlgppbbahaaGreatDoor
open Go Go.Own

abbrev tRec : T := .pair .str (.pair (.int .i64) (.pair (.int .i64) (.pair .str .unit)))
abbrev tZone : T := .pair .str (.pair (.int .i64) (.pair (.lst false tRec) .unit))
theorem pow18A : (10 : Int) ^ 18 = 1000000000000000000 := by decide
theorem rec_of {B : Nat} {d : D} (h : Sm B tRec d) : ∃ x : Rec, d = x.d ∧ x.In B := by
  obtain ⟨_, _, rfl, ⟨s, rfl, hs⟩, _, _, rfl, ⟨n, rfl, _⟩, _, _, rfl, ⟨m, rfl, _⟩, _, _, rfl, ⟨t, rfl, ht⟩, rfl⟩ := h
  exact ⟨⟨s, n, m, t⟩, rfl, hs, ht⟩
theorem list_of {α : Type} {g : α → D} {Q : α → Prop} : ∀ {xs : List D}, (∀ x ∈ xs, ∃ y : α, x = g y ∧ Q y) → ∃ ys : List α, xs = ys.map g ∧ ∀ y ∈ ys, Q y
  | [], _ => ⟨[], rfl, by simp⟩
  | x :: xs, h => by
    obtain ⟨y, rfl, hy⟩ := h x (by simp)
    obtain ⟨ys, rfl, hys⟩ := list_of (xs := xs) (fun z hz => h z (by simp [hz]))
    exact ⟨y :: ys, rfl, by simpa using ⟨hy, hys⟩⟩
theorem zone_of {B : Nat} {d : D} (h : Sm B tZone d) : ∃ z : Zn, d = z.d ∧ z.In B := by
  obtain ⟨_, _, rfl, ⟨s, rfl, hs⟩, _, _, rfl, ⟨n, rfl, _⟩, _, _, rfl, ⟨xs, rfl, hl, hc⟩, rfl⟩ := h
  obtain ⟨ys, rfl, hys⟩ := list_of (g := Rec.d) (Q := fun r => r.In B) (fun x hx => rec_of (hc x hx))
  exact ⟨⟨s, n, ys⟩, rfl, hs, by simpa using hl, hys⟩

theorem f_eqRecord (x : Rec) : e_laws_eqRecord.F [x.d, x.d] = some (.bool true) := by
  rw [q_laws_eqRecord]; simp [Rec.d]
theorem f_eqRecordS {xs : List Rec} (hl : xs.length ≤ smax) : e_laws_eqRecordS.F [.lst (xs.map Rec.d), .lst (xs.map Rec.d)] = some (.bool true) := by
  rw [q_laws_eqRecordS, if_neg (by simp)]
  refine rn_bind (loop_for' (fun i (_ : Unit) => [.int i]) xs.length (fun _ => ()) (t := 1) (o := []) rfl ?_ ?_) rfl
  · intro i hi
    simp [hi, gd_rec hi, inb_nat hi, wrap_succ hi hl, f_eqRecord]
  · simp
theorem f_eqZone {z : Zn} (hl : z.recs.length ≤ smax) : e_laws_eqZone.F [z.d, z.d] = some (.bool true) := by
  rw [q_laws_eqZone, if_neg (by simp), if_neg (by simp)]
  exact rn_call (f_eqRecordS hl) rfl
theorem f_toRecord (x : Rec) : e_laws_toRecord.F [x.d] = some x.d := by rw [q_laws_toRecord]; rfl
def recZ : D := .pair (.str []) (.pair (.int 0) (.pair (.int 0) (.pair (.str []) .unit)))
theorem f_toRecordS {xs : List Rec} (hl : xs.length ≤ lim) : e_laws_toRecordS.F [.lst (xs.map Rec.d)] = some (.lst (xs.map Rec.d)) := by
  have hlen : (D.lst (xs.map Rec.d)).l.length = xs.length := by simp
  rw [q_laws_toRecordS, hlen]; refine rn_if (makeOk_nat hl (by decide)) ?_
  refine rn_bind (loop_for' (fun i (zs : List D) => [.lst zs, .int i]) xs.length (filled (xs.map Rec.d) recZ) (t := 0) (o := [.lst (xs.map Rec.d)]) (by simp [filled_zero, recZ]) ?_ ?_) rfl
  · intro i hi
    have hm : i < (xs.map Rec.d).length := by simpa using hi
    have hf := filled_set (z := recZ) hm
    have ht := f_toRecord xs[i]
    rw [List.getElem_map] at hf
    simp [hi, gd_rec hi, inb_nat hi, wrap_succ hi (Nat.le_trans hl lim_smax), filled_length (Nat.le_of_lt hm), hf, ht]
  · have := filled_all (xs := xs.map Rec.d) (z := recZ)
    rw [List.length_map] at this
    simp [this]
theorem f_toZone {z : Zn} (hl : z.recs.length ≤ lim) : e_laws_toZone.F [z.d] = some z.d := by
  rw [q_laws_toZone]
  exact rn_call (f_toRecordS hl) rfl

/-! sizes -/
theorem len_wrapA {left : Int} {n : Nat} (h0 : 0 ≤ left) (h1 : left ≤ lim) (hn : n ≤ smax) : IntKind.wrap .i64 (left - (n : Int)) = left - n := by
  have hlim : (lim : Int) = 1048576 := rfl
  have hsm : (smax : Int) = 9223372036854775807 := rfl
  exact wrap_id (by omega) (by omega)
def szRec (s : Int) (x : D) : Int := if s - (x.fld 0).s.length < 0 then -1 else if s - (x.fld 0).s.length - (x.fld 3).s.length < 0 then -1 else s - (x.fld 0).s.length - (x.fld 3).s.length
theorem f_szRecord {x : Rec} {left : Int} (hx : x.In smax) (h0 : 0 ≤ left) (h1 : left ≤ lim) : e_laws_szRecord.F [x.d, .int left] = some (.int (szRec left x.d)) := by
  rw [q_laws_szRecord]
  have hw := len_wrapA h0 h1 hx.name
  have hd : (x.d.fld 0).s = x.name := rfl
  have hd1 : (x.d.fld 3).s = x.data := rfl
  simp only [hd, hd1, D.i_int, hw, szRec]
  by_cases h : left - (x.name.length : Int) < 0
  · rw [if_pos h]; exact rn_if (decide_eq_true h) rfl
  · rw [if_neg h]
    have hw2 := len_wrapA (left := left - x.name.length) (by omega) (by omega) hx.data
    rw [hw2]
    refine rn_else (fun hc => h (of_decide_eq_true hc)) ?_
    by_cases h2 : left - (x.name.length : Int) - (x.data.length : Int) < 0
    · rw [if_pos h2]; exact rn_if (decide_eq_true h2) rfl
    · rw [if_neg h2]; exact rn_else (fun hc => h2 (of_decide_eq_true hc)) rfl
theorem szRec_spec {x : Rec} (s : Int) (h0 : 0 ≤ s) (h1 : s ≤ lim) : szRec s x.d ≤ s ∧ (0 ≤ szRec s x.d → x.In lim) := by
  have hd : (x.d.fld 0).s = x.name := rfl
  have hd1 : (x.d.fld 3).s = x.data := rfl
  simp only [szRec, hd, hd1]
  by_cases h : s - (x.name.length : Int) < 0
  · rw [if_pos h]; omega
  · rw [if_neg h]
    by_cases h2 : s - (x.name.length : Int) - (x.data.length : Int) < 0
    · rw [if_pos h2]; omega
    · rw [if_neg h2]; exact ⟨by omega, fun _ => ⟨by omega, by omega⟩⟩
theorem Rec.d_inj {x y : Rec} (h : x.d = y.d) : x = y := by
  obtain ⟨a, b, c, d⟩ := x
  obtain ⟨a', b', c', d'⟩ := y
  simp only [Rec.d, D.pair.injEq, D.str.injEq, D.int.injEq] at h
  obtain ⟨h2, h3, h4, h5, _⟩ := h
  subst h2; subst h3; subst h4; subst h5; rfl
theorem f_szRecordS {xs : List Rec} {left : Int} (hl : xs.length ≤ smax) (hx : ∀ x ∈ xs, x.In smax) (h0 : 0 ≤ left) (h1 : left ≤ lim) : e_laws_szRecordS.F [.lst (xs.map Rec.d), .int left] = some (.int (szL szRec (xs.map Rec.d) left)) := by
  have hw := len_wrapA h0 h1 hl
  have hlen : (D.lst (xs.map Rec.d)).l.length = (xs.map Rec.d).length := rfl
  have hlen' : (xs.map Rec.d).length = xs.length := by simp
  rw [q_laws_szRecordS, hlen]
  have hw' : IntKind.wrap .i64 (left - ((xs.map Rec.d).length : Int)) = left - (xs.map Rec.d).length := by rw [hlen']; exact hw
  by_cases hlt : left - ((xs.map Rec.d).length : Int) < 0
  · refine rn_if (by rw [D.i_int, hw']; exact decide_eq_true hlt) ?_
    unfold szL
    rw [if_pos hlt]; rfl
  · refine rn_else (by rw [D.i_int, hw']; exact fun hc => hlt (of_decide_eq_true hc)) ?_
    simp only [D.l_lst, D.i_int, hw']
    refine rn_bind (szL_loop (c := szRec) hlt h1 ?_ ?_ ?_) ?_
    · intro x hx' s h1 h2
      obtain ⟨y, hy, rfl⟩ := List.mem_map.1 hx'
      exact (szRec_spec s h1 h2).1
    · intro i s hi h1 h2
      have hi' : i < xs.length := by simpa using hi
      have hg : (xs.map Rec.d)[i] = xs[i].d := by simp
      have hz := f_szRecord (hx _ (List.getElem_mem hi')) h1 h2
      rw [hg]
      constructor <;> intro hc <;> simp [hi', gd_rec hi', inb_nat hi', wrap_succ hi' hl, hz, hc]
    · intro s; simp
    · rcases szN_cases szRec (xs.map Rec.d) left with h | h <;> simp [h]
theorem szRecS_spec {xs : List Rec} {left : Int} (h0 : 0 ≤ left) (h1 : left ≤ lim) : szL szRec (xs.map Rec.d) left ≤ left ∧ (0 ≤ szL szRec (xs.map Rec.d) left → xs.length ≤ lim ∧ ∀ x ∈ xs, x.In lim) := by
  have hs := szL_spec (c := szRec) (Q := fun d => ∃ y : Rec, d = y.d ∧ y.In lim) (xs := xs.map Rec.d) (left := left) h1 (by
    intro x hx' s h1 h2
    obtain ⟨y, hy, rfl⟩ := List.mem_map.1 hx'
    exact ⟨(szRec_spec s h1 h2).1, fun h => ⟨y, rfl, (szRec_spec s h1 h2).2 h⟩⟩) h0
  refine ⟨hs.1, fun hp => ?_⟩
  have := hs.2 hp
  refine ⟨by simpa using this.1, fun x hx => ?_⟩
  obtain ⟨y, hy, hyl⟩ := this.2 x.d (List.mem_map.2 ⟨x, hx, rfl⟩)
  rw [Rec.d_inj hy]; exact hyl
/-- what is left behind a zone -/
def szZn (s : Int) (x : D) : Int := if s - (x.fld 0).s.length < 0 then -1 else if szL szRec (x.fld 2).l (s - (x.fld 0).s.length) < 0 then -1 else szL szRec (x.fld 2).l (s - (x.fld 0).s.length)
theorem f_szZone {z : Zn} {left : Int} (hz : z.In smax) (h0 : 0 ≤ left) (h1 : left ≤ lim) : e_laws_szZone.F [z.d, .int left] = some (.int (szZn left z.d)) := by
  rw [q_laws_szZone]
  have hw := len_wrapA h0 h1 hz.apex
  have f0 : (z.d.fld 0).s = z.apex := rfl
  have f2 : z.d.fld 2 = .lst (z.recs.map Rec.d) := rfl
  simp only [f0, f2, D.i_int, hw, szZn, D.l_lst]
  by_cases h : left - (z.apex.length : Int) < 0
  · rw [if_pos h]; exact rn_if (decide_eq_true h) rfl
  · rw [if_neg h]
    refine rn_else (fun hc => h (of_decide_eq_true hc)) (rn_call (f_szRecordS hz.len hz.all (by omega) (by omega)) ?_)
    by_cases h2 : szL szRec (z.recs.map Rec.d) (left - (z.apex.length : Int)) < 0
    · rw [if_pos h2]; exact rn_if (decide_eq_true h2) rfl
    · rw [if_neg h2]; exact rn_else (fun hc => h2 (of_decide_eq_true hc)) rfl
theorem szZn_spec {z : Zn} (s : Int) (h0 : 0 ≤ s) (h1 : s ≤ lim) : szZn s z.d ≤ s ∧ (0 ≤ szZn s z.d → z.In lim) := by
  have f0 : (z.d.fld 0).s = z.apex := rfl
  have f2 : z.d.fld 2 = .lst (z.recs.map Rec.d) := rfl
  simp only [f0, f2, szZn, D.l_lst]
  by_cases h : s - (z.apex.length : Int) < 0
  · rw [if_pos h]; omega
  · rw [if_neg h]
    have := szRecS_spec (xs := z.recs) (left := s - (z.apex.length : Int)) (by omega) (by omega)
    by_cases h2 : szL szRec (z.recs.map Rec.d) (s - (z.apex.length : Int)) < 0
    · rw [if_pos h2]; omega
    · rw [if_neg h2]
      refine ⟨by omega, fun hp => ?_⟩
      have h3 := this.2 hp
      exact ⟨by omega, h3.1, h3.2⟩

/-! marks -/
theorem f_markText {k : Int} (h0 : 0 ≤ k) (h1 : k < 10 ^ 18) : ∃ s, e_laws_markText.F [.int k] = some (.str s) := by
  rw [q_laws_markText]
  by_cases hk : k ≤ 0
  · exact ⟨_, rn_if (decide_eq_true hk) rfl⟩
  refine rn_else_exA (g := D.str) (fun h => hk (of_decide_eq_true h)) (digits_loopA h0 h1 ?_ ?_ ?_)
  · intro n s hn hn2 hs
    refine ⟨_, bytesStr_size [.int (IntKind.wrap .u8 (IntKind.wrap .i64 (48 + (n.tmod 10))))], ?_⟩
    have hc : catOk (bytesStr [.int (IntKind.wrap .u8 (IntKind.wrap .i64 (48 + (n.tmod 10))))]) s = true := by
      unfold catOk
      rw [bytesStr_size]
      simp [smax]; omega
    have h3 : n.tdiv 10 = n / 10 := Int.tdiv_eq_ediv_of_nonneg (by omega)
    have hw : IntKind.wrap .i64 (n.tdiv 10) = n.tdiv 10 := by rw [h3]; exact wrap_id (by omega) (by omega)
    refine out_if (decide_eq_true hn) (out_if (by decide) (out_if hc ?_))
    simp only [gd_zero, D.i_int, hw]
    rfl
  · intro n s hn
    exact out_else (fun h => absurd (of_decide_eq_true h) (Int.not_lt.2 hn)) rfl
  · intro s hs
    refine ⟨_, rn_if (by simp [catOk, smax]; omega) rfl⟩
noncomputable def mtA (k : Int) : List UInt8 := if h : 0 ≤ k ∧ k < 10 ^ 18 then (f_markText h.1 h.2).choose else []
theorem mtA_is {k : Int} (h0 : 0 ≤ k) (h1 : k < 10 ^ 18) : e_laws_markText.F [.int k] = some (.str (mtA k)) := by
  unfold mtA
  rw [dif_pos ⟨h0, h1⟩]
  exact (f_markText h0 h1).choose_spec
noncomputable def rmk (k : Int) : Rec := ⟨mtA k, k + 1, k + 2, mtA (k + 3)⟩
noncomputable def rmk4 (k : Int) (i : Nat) : D := (rmk (k + 4 * i)).d
noncomputable def markedR (k : Int) (n : Nat) : List Rec := (List.range n).map fun i : Nat => rmk (k + 4 * i)
theorem markedR_d (k : Int) (n : Nat) : (List.range n).map (rmk4 k) = (markedR k n).map Rec.d := by
  simp only [markedR, List.map_map]
  rfl
theorem markedR_len (k : Int) (n : Nat) : (markedR k n).length = n := by simp [markedR]
theorem f_markRecordS {xs : List Rec} {k : Int} (h0 : 0 ≤ k) (h1 : k + 4 * xs.length < 10 ^ 18) :
    e_laws_markRecordS.F [.lst (xs.map Rec.d), .int k] = some (.pair (.int (k + 4 * xs.length)) (.pair (.lst ((markedR k xs.length).map Rec.d)) .unit)) := by
  have h10 := pow18A
  have hl : xs.length ≤ smax := by simp [smax]; omega
  have hml : (xs.map Rec.d).length = xs.length := by simp
  rw [q_laws_markRecordS]
  refine rn_bind (loop_for' (fun i (zs : List D) => [.lst zs, .int (k + 4 * i), .int i]) xs.length (over (rmk4 k) (xs.map Rec.d)) (t := 0) (o := [.lst ((markedR k xs.length).map Rec.d), .int (k + 4 * xs.length)]) (by simp [over_zero]) ?_ ?_) rfl
  · intro i hi
    have hi' : i < (xs.map Rec.d).length := by simpa using hi
    have w1 : IntKind.wrap .i64 (k + 4 * (i : Int) + 1) = k + 4 * i + 1 := by rw [wrap_id] <;> omega
    have w2 : IntKind.wrap .i64 (k + 4 * (i : Int) + 1 + 1) = k + 4 * i + 2 := by rw [wrap_id] <;> omega
    have w3 : IntKind.wrap .i64 (k + 4 * (i : Int) + 2 + 1) = k + 4 * i + 3 := by rw [wrap_id] <;> omega
    have w4 : IntKind.wrap .i64 (k + 4 * (i : Int) + 3 + 1) = k + 4 * ((i + 1 : Nat) : Int) := by rw [wrap_id] <;> omega
    have hm := mtA_is (k := k + 4 * i) (by omega) (by omega)
    have hm2 := mtA_is (k := k + 4 * i + 3) (by omega) (by omega)
    have hol : (over (rmk4 k) (xs.map Rec.d) i).length = xs.length := by rw [over_length (Nat.le_of_lt hi'), hml]
    have hol' : i < (over (rmk4 k) (xs.map Rec.d) i).length := by rw [hol]; exact hi
    have hg : gd (over (rmk4 k) (xs.map Rec.d) i) i = xs[i].d := (over_gd hi').trans (gd_rec hi)
    refine out_if (by simp [hol]; omega) (out_call hm (out_if ?_ (out_call (r := .str (mtA (k + 4 * i + 3))) ?_ ?_)))
    · simp only [gd_zero, gd_two, D.l_lst, D.i_int, hol]; exact inb_nat hi
    · simp only [gd_one, D.i_int, w1, w2, w3]; exact hm2
    · simp only [gd_zero, gd_one, gd_two, D.l_lst, D.i_int, Int.toNat_natCast, List.set_set, gd_set hol', hg, w1, w2, w3, w4, wrap_succ hi hl]
      rw [over_set' hi']
      all_goals rfl
  · have := over_all (ys := rmk4 k) (xs := xs.map Rec.d)
    have h2 : (markedR k xs.length).length = xs.length := markedR_len _ _
    rw [hml, markedR_d] at this
    simp [this, h2]
theorem f_heldRecordS {n : Nat} {k : Int} (h0 : 0 ≤ k) (h1 : k + 4 * n < 10 ^ 18) : e_laws_heldRecordS.F [.lst ((markedR k n).map Rec.d), .int k] = some (.int (k + 4 * n)) := by
  have h10 := pow18A
  have hl : n ≤ smax := by simp [smax]; omega
  have hml : (markedR k n).length = n := markedR_len _ _
  have hlen : (D.lst ((markedR k n).map Rec.d)).l.length = n := by simp [hml]
  rw [q_laws_heldRecordS, hlen]
  refine rn_bind (loop_for' (fun i (_ : Unit) => [.int (k + 4 * i), .int i]) n (fun _ => ()) (t := 1) (o := [.int (k + 4 * n)]) (by simp) ?_ ?_) rfl
  · intro i hi
    have w1 : IntKind.wrap .i64 (k + 4 * (i : Int) + 1) = k + 4 * i + 1 := by rw [wrap_id] <;> omega
    have w2 : IntKind.wrap .i64 (k + 4 * (i : Int) + 1 + 1) = k + 4 * i + 2 := by rw [wrap_id] <;> omega
    have w3 : IntKind.wrap .i64 (k + 4 * (i : Int) + 2 + 1) = k + 4 * i + 3 := by rw [wrap_id] <;> omega
    have w4 : IntKind.wrap .i64 (k + 4 * (i : Int) + 3 + 1) = k + 4 * ((i + 1 : Nat) : Int) := by rw [wrap_id] <;> omega
    have hm := mtA_is (k := k + 4 * i) (by omega) (by omega)
    have hm2 := mtA_is (k := k + 4 * i + 3) (by omega) (by omega)
    have hg : gd ((markedR k n).map Rec.d) i = (rmk (k + 4 * i)).d := by
      rw [gd_rec (by rw [hml]; exact hi)]; simp [markedR]
    refine out_if (by simpa using hi) (out_if (by simpa using inb_nat hi) ?_)
    simp only [gd_zero, gd_one, D.l_lst, D.i_int, Int.toNat_natCast, hg, w1, w2, w3, w4, wrap_succ hi hl]
    have f0 : (rmk (k + 4 * i)).d.fld 0 = .str (mtA (k + 4 * i)) := rfl
    have f1 : (rmk (k + 4 * i)).d.fld 1 = .int (k + 4 * i + 1) := rfl
    have f2 : (rmk (k + 4 * i)).d.fld 2 = .int (k + 4 * i + 2) := rfl
    have f3 : (rmk (k + 4 * i)).d.fld 3 = .str (mtA (k + 4 * i + 3)) := rfl
    rw [f0, f1, f2, f3]
    exact out_call hm (out_else (by simp) (out_else (by simp) (out_else (by simp) (out_call hm2 (out_else (by simp) rfl)))))
  · simp
end Go.Proofs.YtlflhlgppbbahaaGreatDoor

/-! Controls; the laws of NewControl and GoodControl. -/
namespace Go.Proofs.YtlflhlgppbbahaaGreatDoor
open Go Go.Own

structure Dn where
  client : Int
  no : Int
  code : Int
  serial : Int
def Dn.d (x : Dn) : D := .pair (.int x.client) (.pair (.int x.no) (.pair (.int x.code) (.pair (.int x.serial) .unit)))
def Dn.nul : Dn := ⟨0, 0, 0, 0⟩
structure Ctl where
  zone : Zn
  last : List Dn
  many : Int
def Ctl.d (c : Ctl) : D := .pair c.zone.d (.pair (.lst (c.last.map Dn.d)) (.pair (.int c.many) .unit))
structure Ctl.In (B : Nat) (c : Ctl) : Prop where
  zone : c.zone.In B
  len : c.last.length ≤ B
theorem gd_dn {xs : List Dn} {i : Nat} (hi : i < xs.length) : gd (xs.map Dn.d) i = xs[i].d := gd_map hi
def who (a b : Int) : Bool := inP a 0 100 && inP b 1 1000
theorem f_isClient (a b : Int) : e_impl_isClient.F [.int a, .int b] = some (.bool (who a b)) := by
  rw [q_impl_isClient]
  have h1 := f_withinP a 0 100
  have h2 := f_withinP b 1 1000
  unfold who
  refine rn_bind0 (l := [.bool (inP a 0 100 && inP b 1 1000)]) ?_ rfl
  cases h : inP a 0 100 with
  | false => rw [h] at h1; exact out_call h1 (out_else (by simp) rfl)
  | true => rw [h] at h1; exact out_call h1 (out_if rfl (out_call h2 rfl))
theorem f_l16Who (a b : Int) : e_spec_l16Who.F [.int a, .int b] = some (.bool (who a b)) := by
  rw [q_spec_l16Who]
  have h1 := f_l1InP a 0 100
  have h2 := f_l1InP b 1 1000
  unfold who
  refine rn_bind0 (l := [.bool (inP a 0 100 && inP b 1 1000)]) ?_ rfl
  cases h : inP a 0 100 with
  | false => rw [h] at h1; exact out_call h1 (out_else (by simp) rfl)
  | true => rw [h] at h1; exact out_call h1 (out_if rfl (out_call h2 rfl))
theorem f_isSerial (a : Int) : e_impl_isSerial.F [.int a] = some (.bool (inP a 0 4294967295)) := by
  rw [q_impl_isSerial]; exact rn_call (f_withinP a 0 4294967295) rfl
theorem f_l5Serial (a : Int) : e_spec_l5Serial.F [.int a] = some (.bool (inP a 0 4294967295)) := by
  rw [q_spec_l5Serial]; exact rn_call (f_l1InP a 0 4294967295) rfl
def dnOk (xs : List Dn) (i : Nat) : Bool := who (xs.getD i Dn.nul).client (xs.getD i Dn.nul).no && (inP (xs.getD i Dn.nul).code 0 4 && (inP (xs.getD i Dn.nul).serial 0 4294967295 && (i == 0 || decide ((xs.getD (i - 1) Dn.nul).client < (xs.getD i Dn.nul).client))))
noncomputable def Ctl.good (c : Ctl) : Bool := c.zone.good && (inP c.many 0 1000000 && (decide (c.last.length ≤ 8) && allN c.last.length (dnOk c.last)))

theorem f_GoodControl {c : Ctl} (hc : c.In lim) : e_impl_GoodControl.F [c.d] = some (.bool c.good) := by
  have hsm := Nat.le_trans hc.len lim_smax
  rw [q_impl_GoodControl]
  have f0 : c.d.fld 0 = c.zone.d := rfl
  have f1 : (c.d.fld 1).l = c.last.map Dn.d := rfl
  have f2 : c.d.fld 2 = .int c.many := rfl
  rw [f0, f2]
  simp only [f1, List.length_map]
  have h1 := f_GoodZone hc.zone
  have h2 := f_withinP c.many 0 1000000
  unfold Ctl.good
  cases k1 : c.zone.good with
  | false => rw [k1] at h1; exact rn_bind0 (l := [.bool true]) (out_call h1 (out_if rfl rfl)) (rn_if rfl rfl)
  | true =>
    rw [k1] at h1
    cases k2 : inP c.many 0 1000000 with
    | false => rw [k2] at h2; exact rn_bind0 (l := [.bool true]) (out_call h1 (out_else (by simp) (out_call h2 (out_if rfl rfl)))) (rn_if rfl rfl)
    | true =>
      rw [k2] at h2
      by_cases k3 : c.last.length ≤ 8
      · have e3 : decide ((c.last.length : Int) > 8) = false := decide_eq_false (by omega)
        have e3' : decide (c.last.length ≤ 8) = true := decide_eq_true k3
        rw [e3', Bool.true_and, Bool.true_and, Bool.true_and]
        refine rn_bind0 (l := [.bool false]) (out_call h1 (out_else (by simp) (out_call h2 (out_else (by simp) (by rw [e3]))))) (rn_else (by simp) ?_)
        refine rn_bind (loop_all' (fun i => [.int i]) c.last.length (dnOk c.last) (t1 := 0) (t2 := 1) (o1 := [.bool false]) (o2 := []) rfl ?_ (by exact out_else (by simp) rfl)) ?_
        · intro i hi
          have e0 : (gd [D.int (i : Int)] 0).i.toNat = i := by simp
          have e1 : (gd [D.int (i : Int)] 0).i = i := rfl
          have g0 : c.last[i].d.fld 0 = .int c.last[i].client := rfl
          have g1 : c.last[i].d.fld 1 = .int c.last[i].no := rfl
          have g2 : c.last[i].d.fld 2 = .int c.last[i].code := rfl
          have g3 : c.last[i].d.fld 3 = .int c.last[i].serial := rfl
          rw [e0, e1, wrap_succ hi hsm, gd_dn hi, g0, g1, g2, g3]
          refine out_if (by simpa using hi) (out_if (by simpa using inb_nat hi) (out_bind (r := (0, [.bool !(dnOk c.last i)])) ?_ (sel0 (by cases dnOk c.last i <;> simp))))
          unfold dnOk
          rw [getD_lt hi]
          have q1 := f_isClient c.last[i].client c.last[i].no
          have q2 := f_withinP c.last[i].code 0 4
          have q3 := f_isSerial c.last[i].serial
          cases r1 : who c.last[i].client c.last[i].no with
          | false => rw [r1] at q1; exact out_call q1 (out_if rfl rfl)
          | true =>
            rw [r1] at q1
            cases r2 : inP c.last[i].code 0 4 with
            | false => rw [r2] at q2; exact out_call q1 (out_else (by simp) (out_call q2 (out_if rfl rfl)))
            | true =>
              rw [r2] at q2
              cases r3 : inP c.last[i].serial 0 4294967295 with
              | false => rw [r3] at q3; exact out_call q1 (out_else (by simp) (out_call q2 (out_else (by simp) (out_call q3 (out_if rfl rfl)))))
              | true =>
                rw [r3] at q3
                refine out_call q1 (out_else (by simp) (out_call q2 (out_else (by simp) (out_call q3 (out_else (by simp) ?_)))))
                by_cases h0 : i = 0
                · subst h0; exact out_else (by simp) rfl
                · have w : IntKind.wrap .i64 ((i : Int) - 1) = ((i - 1 : Nat) : Int) := by rw [smax_eq] at hsm; rw [wrap_id] <;> omega
                  have hi1 : i - 1 < c.last.length := by omega
                  refine out_if (decide_eq_true (by omega)) (out_if (by rw [w]; exact inb_nat hi1) ?_)
                  rw [w, Int.toNat_natCast, gd_dn hi1, getD_lt hi1]
                  have g0' : c.last[i - 1].d.fld 0 = .int c.last[i - 1].client := rfl
                  rw [g0', D.i_int, D.i_int]
                  have : decide (c.last[i].client ≤ c.last[i - 1].client) = !(decide (c.last[i - 1].client < c.last[i].client)) := by
                    rw [Bool.eq_iff_iff]; simp
                  have h0' : (i == 0) = false := by simpa using h0
                  rw [this, h0']; rfl
        · cases allN c.last.length (dnOk c.last) <;> rfl
      · have e3 : decide ((c.last.length : Int) > 8) = true := decide_eq_true (by omega)
        have e3' : decide (c.last.length ≤ 8) = false := decide_eq_false k3
        rw [e3']
        exact rn_bind0 (l := [.bool true]) (out_call h1 (out_else (by simp) (out_call h2 (out_else (by simp) (by rw [e3]))))) (rn_if rfl rfl)
theorem f_specGoodControl {c : Ctl} (hc : c.In lim) : e_spec_GoodControl.F [c.d] = some (.bool c.good) := by
  have hsm := Nat.le_trans hc.len lim_smax
  rw [q_spec_GoodControl]
  have f0 : c.d.fld 0 = c.zone.d := rfl
  have f1 : (c.d.fld 1).l = c.last.map Dn.d := rfl
  have f2 : c.d.fld 2 = .int c.many := rfl
  rw [f0, f2]
  simp only [f1, List.length_map]
  have h1 := f_specGoodZone hc.zone
  have h2 := f_l1InP c.many 0 1000000
  unfold Ctl.good
  refine rn_bind (loop_all' (fun i => [.int i]) c.last.length (dnOk c.last) (t1 := 0) (t2 := 1) (o1 := []) (o2 := []) rfl ?_ (by exact out_else (by simp) rfl)) ?_
  · intro i hi
    have e0 : (gd [D.int (i : Int)] 0).i.toNat = i := by simp
    have e1 : (gd [D.int (i : Int)] 0).i = i := rfl
    have g0 : c.last[i].d.fld 0 = .int c.last[i].client := rfl
    have g1 : c.last[i].d.fld 1 = .int c.last[i].no := rfl
    have g2 : c.last[i].d.fld 2 = .int c.last[i].code := rfl
    have g3 : c.last[i].d.fld 3 = .int c.last[i].serial := rfl
    rw [e0, e1, wrap_succ hi hsm, gd_dn hi, g0, g1, g2, g3]
    refine out_if (by simpa using hi) (out_if (by simpa using inb_nat hi) (out_bind (r := (0, [.bool !(dnOk c.last i)])) ?_ (sel0 (by cases dnOk c.last i <;> simp))))
    unfold dnOk
    rw [getD_lt hi]
    have q1 := f_l16Who c.last[i].client c.last[i].no
    have q2 := f_l1InP c.last[i].code 0 4
    have q3 := f_l5Serial c.last[i].serial
    cases r1 : who c.last[i].client c.last[i].no with
    | false => rw [r1] at q1; exact out_call q1 (out_if rfl rfl)
    | true =>
      rw [r1] at q1
      cases r2 : inP c.last[i].code 0 4 with
      | false => rw [r2] at q2; exact out_call q1 (out_else (by simp) (out_call q2 (out_if rfl rfl)))
      | true =>
        rw [r2] at q2
        cases r3 : inP c.last[i].serial 0 4294967295 with
        | false => rw [r3] at q3; exact out_call q1 (out_else (by simp) (out_call q2 (out_else (by simp) (out_call q3 (out_if rfl rfl)))))
        | true =>
          rw [r3] at q3
          refine out_call q1 (out_else (by simp) (out_call q2 (out_else (by simp) (out_call q3 (out_else (by simp) ?_)))))
          by_cases h0 : i = 0
          · subst h0; exact out_else (by simp) rfl
          · have w : IntKind.wrap .i64 ((i : Int) - 1) = ((i - 1 : Nat) : Int) := by rw [smax_eq] at hsm; rw [wrap_id] <;> omega
            have hi1 : i - 1 < c.last.length := by omega
            refine out_if (decide_eq_true (by omega)) (out_if (by rw [w]; exact inb_nat hi1) ?_)
            rw [w, Int.toNat_natCast, gd_dn hi1, getD_lt hi1]
            have g0' : c.last[i - 1].d.fld 0 = .int c.last[i - 1].client := rfl
            rw [g0', D.i_int, D.i_int]
            have : decide (c.last[i - 1].client ≥ c.last[i].client) = !(decide (c.last[i - 1].client < c.last[i].client)) := by
              rw [Bool.eq_iff_iff]; simp
            have h0' : (i == 0) = false := by simpa using h0
            rw [this, h0']; simp
  · cases k4 : allN c.last.length (dnOk c.last) with
    | false => rw [Bool.and_false, Bool.and_false, Bool.and_false]; rfl
    | true =>
      rw [Bool.and_true]
      refine rn_bind0 (l := [.bool (c.zone.good && (inP c.many 0 1000000 && decide (c.last.length ≤ 8)))]) ?_ rfl
      cases k1 : c.zone.good with
      | false => rw [k1] at h1; exact out_call h1 (out_else (by simp) rfl)
      | true =>
        rw [k1] at h1
        cases k2 : inP c.many 0 1000000 with
        | false => rw [k2] at h2; exact out_call h1 (out_if rfl (out_call h2 (out_else (by simp) rfl)))
        | true =>
          rw [k2] at h2
          have : decide ((c.last.length : Int) ≤ 8) = decide (c.last.length ≤ 8) := by rw [Bool.eq_iff_iff]; simp; omega
          exact out_call h1 (out_if rfl (out_call h2 (out_if rfl (by rw [this]; rfl))))

/-! what the laws look at -/
abbrev tDone : T := .pair (.int .i64) (.pair (.int .i64) (.pair (.int .i64) (.pair (.int .i64) .unit)))
abbrev tCtl : T := .pair tZone (.pair (.lst false tDone) (.pair (.int .i64) .unit))
theorem done_of {B : Nat} {d : D} (h : Sm B tDone d) : ∃ x : Dn, d = x.d ∧ True := by
  obtain ⟨_, _, rfl, ⟨a, rfl, _⟩, _, _, rfl, ⟨b, rfl, _⟩, _, _, rfl, ⟨c, rfl, _⟩, _, _, rfl, ⟨e, rfl, _⟩, rfl⟩ := h
  exact ⟨⟨a, b, c, e⟩, rfl, trivial⟩
theorem ctl_of {B : Nat} {d : D} (h : Sm B tCtl d) : ∃ c : Ctl, d = c.d ∧ c.In B := by
  obtain ⟨_, _, rfl, hz, _, _, rfl, ⟨xs, rfl, hl, hc⟩, _, _, rfl, ⟨n, rfl, _⟩, rfl⟩ := h
  obtain ⟨z, rfl, hz2⟩ := zone_of hz
  obtain ⟨ys, rfl, _⟩ := list_of (g := Dn.d) (Q := fun _ => True) (fun x hx => done_of (hc x hx))
  exact ⟨⟨z, ys, n⟩, rfl, hz2, by simpa using hl⟩
theorem f_eqDone (x : Dn) : e_laws_eqDone.F [x.d, x.d] = some (.bool true) := by
  rw [q_laws_eqDone]; simp [Dn.d]
theorem f_eqDoneS {xs : List Dn} (hl : xs.length ≤ smax) : e_laws_eqDoneS.F [.lst (xs.map Dn.d), .lst (xs.map Dn.d)] = some (.bool true) := by
  rw [q_laws_eqDoneS, if_neg (by simp)]
  refine rn_bind (loop_for' (fun i (_ : Unit) => [.int i]) xs.length (fun _ => ()) (t := 1) (o := []) rfl ?_ ?_) rfl
  · intro i hi
    simp [hi, gd_dn hi, inb_nat hi, wrap_succ hi hl, f_eqDone]
  · simp
theorem f_eqControl {c : Ctl} (hc : c.In smax) : e_laws_eqControl.F [c.d, c.d] = some (.bool true) := by
  rw [q_laws_eqControl]
  exact rn_call (f_eqZone hc.zone.len) (rn_else (by simp) (rn_call (f_eqDoneS hc.len) (rn_else (by simp) (rn_else (by simp) rfl))))
theorem f_toDone (x : Dn) : e_laws_toDone.F [x.d] = some x.d := by rw [q_laws_toDone]; rfl
def dnZ : D := .pair (.int 0) (.pair (.int 0) (.pair (.int 0) (.pair (.int 0) .unit)))
theorem f_toDoneS {xs : List Dn} (hl : xs.length ≤ lim) : e_laws_toDoneS.F [.lst (xs.map Dn.d)] = some (.lst (xs.map Dn.d)) := by
  have hlen : (D.lst (xs.map Dn.d)).l.length = xs.length := by simp
  rw [q_laws_toDoneS, hlen]; refine rn_if (makeOk_nat hl (by decide)) ?_
  refine rn_bind (loop_for' (fun i (zs : List D) => [.lst zs, .int i]) xs.length (filled (xs.map Dn.d) dnZ) (t := 0) (o := [.lst (xs.map Dn.d)]) (by simp [filled_zero, dnZ]) ?_ ?_) rfl
  · intro i hi
    have hm : i < (xs.map Dn.d).length := by simpa using hi
    have hf := filled_set (z := dnZ) hm
    have ht := f_toDone xs[i]
    rw [List.getElem_map] at hf
    simp [hi, gd_dn hi, inb_nat hi, wrap_succ hi (Nat.le_trans hl lim_smax), filled_length (Nat.le_of_lt hm), hf, ht]
  · have := filled_all (xs := xs.map Dn.d) (z := dnZ)
    rw [List.length_map] at this
    simp [this]
theorem f_toControl {c : Ctl} (hc : c.In lim) : e_laws_toControl.F [c.d] = some c.d := by
  rw [q_laws_toControl]
  exact rn_call (f_toZone hc.zone.len) (rn_call (f_toDoneS hc.len) rfl)
theorem f_szDoneS {xs : List Dn} {left : Int} (hl : xs.length ≤ smax) (h0 : 0 ≤ left) (h1 : left ≤ lim) : ∃ r, e_laws_szDoneS.F [.lst (xs.map Dn.d), .int left] = some (.int r) ∧ r ≤ left ∧ (0 ≤ r → xs.length ≤ lim) := by
  rw [q_laws_szDoneS]
  have hlen : (D.lst (xs.map Dn.d)).l.length = xs.length := by simp
  have hw := len_wrapA h0 h1 hl
  rw [hlen]
  simp only [D.i_int, hw]
  by_cases hlt : left - (xs.length : Int) < 0
  · exact ⟨-1, rn_if (decide_eq_true hlt) rfl, by omega, by omega⟩
  · exact ⟨left - xs.length, rn_else (fun hc => hlt (of_decide_eq_true hc)) rfl, by omega, by omega⟩
theorem f_szControl {c : Ctl} {left : Int} (hc : c.In smax) (h0 : 0 ≤ left) (h1 : left ≤ lim) : ∃ r, e_laws_szControl.F [c.d, .int left] = some (.int r) ∧ (0 ≤ r → c.In lim) := by
  rw [q_laws_szControl]
  have f0 : c.d.fld 0 = c.zone.d := rfl
  have f1 : c.d.fld 1 = .lst (c.last.map Dn.d) := rfl
  rw [f0, f1]
  have hz := f_szZone (left := left) hc.zone h0 h1
  have hzs := szZn_spec (z := c.zone) left h0 h1
  by_cases hlt : szZn left c.zone.d < 0
  · exact ⟨-1, rn_call hz (rn_if (decide_eq_true hlt) rfl), by omega⟩
  · obtain ⟨r, hr, hle, hrl⟩ := f_szDoneS (left := szZn left c.zone.d) hc.len (by omega) (by omega)
    by_cases hlt2 : r < 0
    · exact ⟨-1, rn_call hz (rn_else (fun h => hlt (of_decide_eq_true h)) (rn_call hr (rn_if (decide_eq_true hlt2) rfl))), by omega⟩
    · exact ⟨r, rn_call hz (rn_else (fun h => hlt (of_decide_eq_true h)) (rn_call hr (rn_else (fun h => hlt2 (of_decide_eq_true h)) rfl))), fun hp => ⟨hzs.2 (by omega), hrl hp⟩⟩
theorem Zn.In.smax {z : Zn} (h : z.In lim) : z.In smax := ⟨Nat.le_trans h.apex lim_smax, Nat.le_trans h.len lim_smax, fun r hr => ⟨Nat.le_trans (h.all r hr).name lim_smax, Nat.le_trans (h.all r hr).data lim_smax⟩⟩
theorem Ctl.In.smax {c : Ctl} (h : c.In lim) : c.In smax := ⟨h.zone.smax, Nat.le_trans h.len lim_smax⟩

theorem law_FnExactGoodControl {d : D} (h : Sm smax tCtl d) : e_laws_FnExactGoodControl.F [d] = some (.bool true) := by
  obtain ⟨c, rfl, hi⟩ := ctl_of h
  obtain ⟨r, h1, h2⟩ := f_szControl hi (left := 1048576) (by decide) (by decide)
  rw [q_laws_FnExactGoodControl]
  refine rn_call h1 ?_
  by_cases hr : r < 0
  · exact rn_if (decide_eq_true hr) rfl
  refine rn_else (fun h => hr (of_decide_eq_true h)) ?_
  have hs := h2 (by omega)
  have ht := f_toControl hs
  exact rn_call ht (rn_call (f_specGoodControl hs) (rn_call ht (rn_call (f_GoodControl hs) (rn_else (by simp) (rn_call ht (rn_call (f_eqControl hs.smax) (rn_else (by simp) rfl)))))))

/-! a new control -/
def ctlNul : D := .pair zNul (.pair (D.lst []) (.pair (.int 0) .unit))
def newC (apex : List UInt8) : Ctl := ⟨newZ apex, [], 0⟩
def nulC : Ctl := ⟨⟨[], 0, []⟩, [], 0⟩
def newCt (apex : List UInt8) : Ctl := if isApx apex = true then newC apex else nulC
def newCD (apex : List UInt8) : D := .pair (newCt apex).d (.pair (.bool (isApx apex)) .unit)
theorem f_NewControl {apex : List UInt8} (h : apex.length ≤ lim) : e_impl_NewControl.F [.str apex] = some (newCD apex) := by
  rw [q_impl_NewControl]
  refine rn_call (f_NewZone h) ?_
  unfold newZD newCD newCt
  cases isApx apex with
  | false => exact rn_if rfl rfl
  | true => exact rn_else (by simp [D.fld]) rfl
theorem f_specNewControl {apex : List UInt8} (h : apex.length ≤ lim) : e_spec_NewControl.F [.str apex] = some (newCD apex) := by
  rw [q_spec_NewControl]
  refine rn_call (f_specNewZone h) ?_
  unfold newZD newCD newCt
  cases isApx apex with
  | false => exact rn_if rfl rfl
  | true => exact rn_else (by simp [D.fld]) rfl
theorem newCt_in {apex : List UInt8} (h : apex.length ≤ lim) : (newCt apex).In lim ∧ (newCt apex).zone.recs.length ≤ 1 ∧ (newCt apex).last = [] := by
  unfold newCt
  split
  · exact ⟨⟨newZ_in h, by simp [newC]⟩, by simp [newC, newZ], rfl⟩
  · exact ⟨⟨⟨by simp [nulC], by simp [nulC], by simp [nulC]⟩, by simp [nulC]⟩, by simp [nulC], rfl⟩
theorem f_markZone {z : Zn} {k : Int} (h0 : 0 ≤ k) (h1 : k + 4 * z.recs.length < 10 ^ 18) : ∃ m, e_laws_markZone.F [z.d, .int k] = some (.pair (.int (k + 4 * z.recs.length)) (.pair m .unit)) ∧ m.fld 2 = .lst ((markedR k z.recs.length).map Rec.d) := by
  rw [q_laws_markZone]
  have f2 : z.d.fld 2 = .lst (z.recs.map Rec.d) := rfl
  rw [f2]
  refine ⟨_, rn_call (f_markRecordS h0 h1) rfl, ?_⟩
  unfold D.mix
  split <;> rfl
theorem f_heldZone {a : List UInt8} {c : Int} {n : Nat} {k : Int} (h0 : 0 ≤ k) (h1 : k + 4 * n < 10 ^ 18) : e_laws_heldZone.F [.pair (.str a) (.pair (.int c) (.pair (.lst ((markedR k n).map Rec.d)) .unit)), .int k] = some (.int (k + 4 * n)) := by
  rw [q_laws_heldZone]
  refine rn_call (f_heldRecordS h0 h1) (rn_else (fun h => ?_) rfl)
  have h' : k + 4 * (n : Int) < 0 := of_decide_eq_true h
  omega
theorem f_markDone0 (k : Int) : e_laws_markDoneS.F [.lst [], .int k] = some (.pair (.int k) (.pair (.lst []) .unit)) := by
  rw [q_laws_markDoneS]
  refine rn_bind (r := (0, [.lst [], .int k])) (loopF_exit ?_) rfl
  exact out_else (by simp) rfl
theorem f_heldDone0 (k : Int) : e_laws_heldDoneS.F [.lst [], .int k] = some (.int k) := by
  rw [q_laws_heldDoneS]
  refine rn_bind (r := (1, [.int k])) (loopF_exit ?_) rfl
  exact out_else (by simp) rfl
theorem law_FnExactNewControl {d : D} (h : Sm smax .str d) : e_laws_FnExactNewControl.F [d] = some (.bool true) := by
  obtain ⟨s, rfl, hs⟩ := h
  rw [q_laws_FnExactNewControl]
  have h10 := pow18A
  have hlim : lim = 1048576 := rfl
  by_cases hl : (s.length : Int) > 1048576
  · exact rn_if (decide_eq_true hl) rfl
  refine rn_else (fun h => hl (of_decide_eq_true h)) ?_
  have hsl : s.length ≤ lim := by omega
  have h1 := f_specNewControl hsl
  have h2 := f_NewControl hsl
  obtain ⟨hin, hn1, hlast⟩ := newCt_in hsl
  have heq := f_eqControl hin.smax
  unfold newCD at h1 h2
  generalize newCt s = c at *
  obtain ⟨m, hm, hmf⟩ := f_markZone (z := c.zone) (k := 1) (by decide) (by omega)
  have hh := fun a b => f_heldZone (a := a) (c := b) (n := c.zone.recs.length) (k := 1) (by decide) (by omega)
  have f0 : (D.pair c.d (.pair (.bool (isApx s)) .unit)).fld 0 = c.d := rfl
  have f1 : ((D.pair c.d (.pair (.bool (isApx s)) .unit)).fld 1).b = isApx s := rfl
  have hcd : c.d = .pair c.zone.d (.pair (.lst []) (.pair (.int c.many) .unit)) := by
    unfold Ctl.d; rw [hlast]; rfl
  have hmark : ∃ mm, e_laws_markControl.F [c.d, .int 1] = some (.pair (.int (1 + 4 * (c.zone.recs.length : Int))) (.pair mm .unit)) ∧ ((mm.fld 0).fld 2) = .lst ((markedR 1 c.zone.recs.length).map Rec.d) ∧ mm.fld 1 = .lst [] := by
    rw [q_laws_markControl, hcd]
    have g0 : (D.pair c.zone.d (.pair (.lst []) (.pair (.int c.many) .unit))).fld 0 = c.zone.d := rfl
    have g1 : (D.pair c.zone.d (.pair (.lst []) (.pair (.int c.many) .unit))).fld 1 = .lst [] := rfl
    rw [g0, g1]
    refine ⟨_, rn_call hm (rn_call (f_markDone0 _) rfl), ?_, ?_⟩
    · unfold D.mix
      split <;> exact hmf
    · unfold D.mix
      split <;> rfl
  obtain ⟨mm, hmk, hmm0, hmm1⟩ := hmark
  have hheld : e_laws_heldControl.F [.pair (.pair ((c.d.fld 0).fld 0) (.pair ((c.d.fld 0).fld 1) (.pair ((mm.fld 0).fld 2) .unit))) (.pair (mm.fld 1) (.pair (c.d.fld 2) .unit)), .int 1] = some (.int (1 + 4 * (c.zone.recs.length : Int))) := by
    rw [q_laws_heldControl, hmm0, hmm1]
    refine rn_call (hh c.zone.apex c.zone.counter) (rn_else (fun h => ?_) (rn_call (f_heldDone0 _) (rn_else (fun h => ?_) rfl)))
    · have h' : 1 + 4 * (c.zone.recs.length : Int) < 0 := of_decide_eq_true h
      omega
    · have h' : 1 + 4 * (c.zone.recs.length : Int) < 0 := of_decide_eq_true h
      omega
  have hneg : ¬ decide ((D.int (1 + 4 * (c.zone.recs.length : Int))).i < 0) = true := fun h => by
    have h' : 1 + 4 * (c.zone.recs.length : Int) < 0 := of_decide_eq_true h
    omega
  refine rn_call h1 (rn_call h2 (rn_bind0 (l := [.bool false]) (by rw [f0]; exact out_call heq (out_else (by simp) (by simp))) (rn_else (by simp) ?_)))
  rw [f0]
  refine rn_call hmk (rn_call hheld (rn_else hneg (rn_else (by simp [D.fld]) (rn_call h2 (rn_bind0 (l := [.bool false]) (by rw [f0]; exact out_call heq (out_else (by simp) (by simp))) (rn_else (by simp) ?_))))))
  exact rn_call hheld (rn_else hneg (rn_else (by simp [D.fld]) rfl))
end Go.Proofs.YtlflhlgppbbahaaGreatDoor
