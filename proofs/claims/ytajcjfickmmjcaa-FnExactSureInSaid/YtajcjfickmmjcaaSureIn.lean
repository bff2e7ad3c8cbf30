/- FnExactSureIn returns true at every input, and the input reads as it did; no condition. -/
import Derived.Test.YtajcjfickmmjcaaSureInCq
import Derived.Test.YtajcjfickmmjcaaChecked
import Derived.Test.YtajcjfickmmjcaaRows
import Derived.Handed
set_option linter.unusedVariables false
set_option linter.unusedSimpArgs false
namespace Go.Proofs.Ytajcjfickmmjcaa
open Go Go.Own

abbrev tStrs : T := .lst false .str
abbrev tLink : T := .pair tStrs (.pair (.int .i64) (.pair (.int .i64) .unit))
abbrev tLinks : T := .lst false tLink
abbrev tChain : T := .pair tLinks .unit

/-! the same is alike -/
theorem eq23 {x : D} (hx : x.l.length ≤ smax) : e23.F [x, x] = some (.bool true) := by
  rw [q23, if_neg (by simp)]
  refine rn_bind (loop_for' (fun i (_ : Unit) => [.int i]) x.l.length (fun _ => ()) (t := 1) (o := []) rfl ?_ ?_) rfl
  · intro i hi
    simp [hi, gd_lt hi, inb_nat hi, wrap_succ hi hx]
  · simp

theorem eq72 {x : D} (hx : Sm smax tLink x) : e72.F [x, x] = some (.bool true) := by
  obtain ⟨a, _, rfl, ⟨ns, rfl, hl, _⟩, b, _, rfl, hb, c, _, rfl, hc, rfl⟩ := hx
  rw [q72]
  refine rn_call (eq23 hl) ?_
  simp

theorem eq51 {x : D} (hx : Sm smax tLinks x) : e51.F [x, x] = some (.bool true) := by
  obtain ⟨xs, rfl, hl, he⟩ := hx
  rw [q51, if_neg (by simp)]
  refine rn_bind (loop_for' (fun i (_ : Unit) => [.int i]) xs.length (fun _ => ()) (t := 1) (o := []) rfl ?_ ?_) rfl
  · intro i hi
    simp [hi, gd_lt hi, inb_nat hi, wrap_succ hi hl, eq72 (he _ (List.getElem_mem hi))]
  · simp

theorem eq14 {x : D} (hx : Sm smax tChain x) : e14.F [x, x] = some (.bool true) := by
  obtain ⟨a, _, rfl, ha, rfl⟩ := hx
  rw [q14]
  refine rn_call (eq51 ha) ?_
  simp

/-! what is taken over is the same -/
theorem to85 {x : D} (hx : Sm lim tStrs x) : e85.F [x] = some x := by
  obtain ⟨xs, rfl, hl, he⟩ := hx
  rw [q85]; refine rn_if (makeOk_nat hl (by decide)) ?_
  refine rn_bind (loop_for' (fun i (zs : List D) => [.lst zs, .int i]) xs.length (filled xs (.str [])) (t := 0) (o := [.lst xs]) (by simp [filled_zero]) ?_ ?_) rfl
  · intro i hi
    simp [hi, gd_lt hi, inb_nat hi, wrap_succ hi (Nat.le_trans hl lim_smax), filled_length (Nat.le_of_lt hi), filled_set hi]
  · simp [filled_all]

theorem to74 {x : D} (hx : Sm lim tLink x) : e74.F [x] = some x := by
  obtain ⟨a, _, rfl, ha, b, _, rfl, hb, c, _, rfl, hc, rfl⟩ := hx
  rw [q74]
  refine rn_call (to85 ha) ?_
  simp

theorem to56 {x : D} (hx : Sm lim tLinks x) : e56.F [x] = some x := by
  obtain ⟨xs, rfl, hl, he⟩ := hx
  rw [q56]; refine rn_if (makeOk_nat hl (by decide)) ?_
  refine rn_bind (loop_for' (fun i (zs : List D) => [.lst zs, .int i]) xs.length (filled xs (.pair (.lst []) (.pair (.int 0) (.pair (.int 0) .unit)))) (t := 0) (o := [.lst xs]) (by simp [filled_zero]) ?_ ?_) rfl
  · intro i hi
    simp [hi, gd_lt hi, inb_nat hi, wrap_succ hi (Nat.le_trans hl lim_smax), filled_length (Nat.le_of_lt hi), filled_set hi, to74 (he _ (List.getElem_mem hi))]
  · simp [filled_all]

theorem to19 {x : D} (hx : Sm lim tChain x) : e19.F [x] = some x := by
  obtain ⟨a, _, rfl, ha, rfl⟩ := hx
  rw [q19]
  refine rn_call (to56 ha) ?_
  simp

/-! what is read is small, or the law says nothing -/
theorem len_wrap {left : Int} {n : Nat} (h0 : 0 ≤ left) (h1 : left ≤ lim) (hn : n ≤ smax) : IntKind.wrap .i64 (left - (n : Int)) = left - n := by
  have hlim : (lim : Int) = 1048576 := rfl
  have hsm : (smax : Int) = 9223372036854775807 := rfl
  exact wrap_id (by omega) (by omega)

def szStr (s : Int) (x : D) : Int := s - x.s.length
theorem szStr_spec {x : D} (hx : Sm smax .str x) (s : Int) (h0 : 0 ≤ s) (h1 : s ≤ lim) : szStr s x ≤ s ∧ (0 ≤ szStr s x → Sm lim .str x) := by
  obtain ⟨t, rfl, ht⟩ := hx
  simp only [szStr, D.s_str]
  exact ⟨by omega, fun h => ⟨t, rfl, by omega⟩⟩

theorem sz84 {x : D} {left : Int} (hx : Sm smax tStrs x) (h0 : 0 ≤ left) (h1 : left ≤ lim) : e84.F [x, .int left] = some (.int (szL szStr x.l left)) := by
  obtain ⟨xs, rfl, hl, he⟩ := hx
  have hw := len_wrap h0 h1 hl
  rw [q84]
  by_cases hlt : left - (xs.length : Int) < 0
  · refine rn_if (by simpa [hw] using hlt) ?_
    simp [szL, hlt]
  · refine rn_else (by simpa [hw] using hlt) ?_
    simp only [D.l_lst, D.i_int, hw]
    refine rn_bind (szL_loop (c := szStr) hlt h1 (fun x hx s h1 h2 => (szStr_spec (he x hx) s h1 h2).1) ?_ ?_) ?_
    · intro i s hi h1 h2
      obtain ⟨t, ht, htl⟩ := he _ (List.getElem_mem hi)
      have := len_wrap h1 h2 htl
      constructor <;> intro hc <;> simp [szStr, ht] at hc <;> simp [hi, gd_lt hi, inb_nat hi, wrap_succ hi hl, ht, this, szStr, hc]
    · intro s; simp
    · rcases szN_cases szStr xs left with h | h <;> simp [h]

theorem szStrs_spec {x : D} (hx : Sm smax tStrs x) (s : Int) (h0 : 0 ≤ s) (h1 : s ≤ lim) : szL szStr x.l s ≤ s ∧ (0 ≤ szL szStr x.l s → Sm lim tStrs x) := by
  obtain ⟨xs, rfl, hl, he⟩ := hx
  have := szL_spec (c := szStr) (Q := Sm lim .str) (xs := xs) h1 (fun x hx s h0 h1 => szStr_spec (he x hx) s h0 h1) h0
  exact ⟨this.1, fun h => ⟨xs, rfl, (this.2 h).1, (this.2 h).2⟩⟩

def szLink (s : Int) (x : D) : Int := if szL szStr (x.fld 0).l s < 0 then -1 else szL szStr (x.fld 0).l s

theorem sz73 {x : D} {left : Int} (hx : Sm smax tLink x) (h0 : 0 ≤ left) (h1 : left ≤ lim) : e73.F [x, .int left] = some (.int (szLink left x)) := by
  obtain ⟨a, _, rfl, ha, b, _, rfl, hb, c, _, rfl, hc, rfl⟩ := hx
  rw [q73]
  refine rn_call (sz84 ha h0 h1) ?_
  by_cases h : szL szStr a.l left < 0 <;> simp [szLink, h]

theorem szLink_spec {x : D} (hx : Sm smax tLink x) (s : Int) (h0 : 0 ≤ s) (h1 : s ≤ lim) : szLink s x ≤ s ∧ (0 ≤ szLink s x → Sm lim tLink x) := by
  obtain ⟨a, _, rfl, ha, b, _, rfl, hb, c, _, rfl, hc, rfl⟩ := hx
  have := szStrs_spec ha s h0 h1
  by_cases hlt : szL szStr a.l s < 0
  · simp [szLink, hlt]; omega
  · simp only [szLink, D.fld, D.fst_pair, hlt, if_false]
    exact ⟨this.1, fun h => ⟨a, _, rfl, this.2 h, b, _, rfl, hb, c, _, rfl, hc, rfl⟩⟩

theorem sz54 {x : D} {left : Int} (hx : Sm smax tLinks x) (h0 : 0 ≤ left) (h1 : left ≤ lim) : e54.F [x, .int left] = some (.int (szL szLink x.l left)) := by
  obtain ⟨xs, rfl, hl, he⟩ := hx
  have hw := len_wrap h0 h1 hl
  rw [q54]
  by_cases hlt : left - (xs.length : Int) < 0
  · refine rn_if (by simpa [hw] using hlt) ?_
    simp [szL, hlt]
  · refine rn_else (by simpa [hw] using hlt) ?_
    simp only [D.l_lst, D.i_int, hw]
    refine rn_bind (szL_loop (c := szLink) hlt h1 (fun x hx s h1 h2 => (szLink_spec (he x hx) s h1 h2).1) ?_ ?_) ?_
    · intro i s hi h1 h2
      constructor <;> intro hc <;> simp [hi, gd_lt hi, inb_nat hi, wrap_succ hi hl, sz73 (he _ (List.getElem_mem hi)) h1 h2, hc]
    · intro s; simp
    · rcases szN_cases szLink xs left with h | h <;> simp [h]

theorem sz17 {x : D} {left : Int} (hx : Sm smax tChain x) (h0 : 0 ≤ left) (h1 : left ≤ lim) : ∃ r, e17.F [x, .int left] = some (.int r) ∧ (0 ≤ r → Sm lim tChain x) := by
  obtain ⟨a, _, rfl, ⟨xs, rfl, hl, he⟩, rfl⟩ := hx
  rw [q17]
  have hs := szL_spec (c := szLink) (Q := Sm lim tLink) (xs := xs) h1 (fun x hx s h0 h1 => szLink_spec (he x hx) s h0 h1) h0
  by_cases h : szL szLink xs left < 0
  · refine ⟨-1, rn_call (sz54 ⟨xs, rfl, hl, he⟩ h0 h1) ?_, by omega⟩
    simp [h]
  · refine ⟨szL szLink xs left, rn_call (sz54 ⟨xs, rfl, hl, he⟩ h0 h1) ?_, fun h => ⟨.lst xs, .unit, rfl, ⟨xs, rfl, (hs.2 h).1, (hs.2 h).2⟩, rfl⟩⟩
    simp [h]

end Go.Proofs.Ytajcjfickmmjcaa

namespace Go.Proofs.Ytajcjfickmmjcaa
open Go Go.Own

theorem in49 (a b c : Int) : e49.F [.int a, .int b, .int c] = some (.bool (decide (b ≤ a) && decide (a ≤ c))) := by
  rw [q49]
  by_cases h : b ≤ a
  · simp [h] <;> rfl
  · simp [h] <;> rfl
theorem in50 (a b c : Int) : e50.F [.int a, .int b, .int c] = some (.bool (decide (b ≤ a) && decide (a ≤ c))) := by
  rw [q50]
  by_cases h : b ≤ a
  · simp [h] <;> rfl
  · simp [h] <;> rfl

/-- one list of texts is a beginning of the other -/
def beg (a b : List D) : Bool := decide (a.length ≤ b.length) && allN a.length fun i => (gd a i).s == (gd b i).s

theorem beg_alt (a b : List D) : allN a.length (fun i => decide (i < b.length) && ((gd a i).s == (gd b i).s)) = beg a b := by
  unfold beg
  by_cases h : a.length ≤ b.length
  · simp only [h, decide_true, Bool.true_and]
    rw [Bool.eq_iff_iff, allN_true, allN_true]
    constructor
    · intro h2 i hi; have := h2 i hi; simp only [Bool.and_eq_true] at this; exact this.2
    · intro h2 i hi; simp only [show i < b.length by omega, decide_true, Bool.true_and]; exact h2 i hi
  · simp only [h, decide_false, Bool.false_and]
    exact allN_false (k := b.length) (by omega) (by simp)

theorem beg55 {a b : D} (ha : a.l.length ≤ smax) : e55.F [a, b] = some (.bool (beg a.l b.l)) := by
  rw [q55]
  refine rn_bind (loop_all (fun i => [.int i]) a.l.length (fun i => decide (i < b.l.length) && ((gd a.l i).s == (gd b.l i).s)) (t1 := 0) (o1 := []) (t2 := 1) (o2 := []) rfl ?_ ?_ ?_) ?_
  · intro i hi hp
    simp only [Bool.and_eq_true, decide_eq_true_eq] at hp
    simp [hi, inb_nat hi, inb_nat hp.1, wrap_succ hi ha] at *
    simp [hp, Nat.not_le.2 hp.1]
  · intro i hi hp
    by_cases hb : i < b.l.length
    · simp only [hb, decide_true, Bool.true_and] at hp
      simp [hi, inb_nat hi, inb_nat hb, Nat.not_le.2 hb, -beq_eq_false_iff_ne, -beq_iff_eq] at *
      simp [hp]
    · simp [hi, Nat.le_of_not_lt hb]
  · simp
  · rw [beg_alt]
    cases beg a.l b.l <;> rfl

/-- texts of at most twenty bytes -/
def short (a : List D) : Bool := allN a.length fun i => decide ((gd a i).s.length ≤ 20)

theorem con75 {a : D} (ha : a.l.length ≤ smax) : e75.F [a, .unit] = some (.bool (!short a.l)) := by
  rw [q75]
  have h86 : ∃ r : D, e86.F [a, .unit] = some r ∧ decide (r.i ≥ 0) = !short a.l := by
    rw [q86]
    have h76 : ∀ i, i < a.l.length → e76.F [gd a.l i] = some (.bool (decide (((gd a.l i).s.length : Int) > 20))) := by
      intro i hi; rw [q76]; rfl
    refine find_ex (fun i => [.int i]) a.l.length (fun i => decide ((gd a.l i).s.length ≤ 20)) (t1 := 0) (o1 := fun k => [.int k]) (t2 := 1) (o2 := []) rfl ?_ ?_ ?_ (fun h1 => ⟨.int (-1), rfl, by rw [show short a.l = true from allN_true.2 h1]; rfl⟩) (fun k hk h1 _ => ⟨.int k, rfl, by rw [show short a.l = false from allN_false hk h1]; simp⟩)
    · intro i hi hp
      simp only [decide_eq_true_eq] at hp
      have : ¬ ((gd a.l i).s.length : Int) > 20 := by omega
      have h3 := h76 i hi
      simp only [this, decide_false] at h3
      simp [hi, inb_nat hi, wrap_succ hi ha, h3]
    · intro i hi hp
      simp only [decide_eq_false_iff_not] at hp
      have : ((gd a.l i).s.length : Int) > 20 := by omega
      have h3 := h76 i hi
      simp only [this, decide_true] at h3
      simp [hi, inb_nat hi, h3]
    · simp
  obtain ⟨r, h1, h2⟩ := h86
  refine rn_call h1 ?_
  show some (D.bool (decide (r.i ≥ 0))) = _
  rw [h2]

theorem eqs87 {a b : D} (ha : a.l.length ≤ smax) : e87.F [a, b] = some (.bool (decide (a.l.length = b.l.length) && allN a.l.length fun i => (gd a.l i).s == (gd b.l i).s)) := by
  rw [q87]
  by_cases h : a.l.length = b.l.length
  · refine rn_else (by simp [h]) ?_
    refine rn_bind (loop_all (fun i => [.int i]) a.l.length (fun i => (gd a.l i).s == (gd b.l i).s) (t1 := 0) (o1 := []) (t2 := 1) (o2 := []) rfl ?_ ?_ ?_) ?_
    · intro i hi hp
      simp [hi, inb_nat hi, h ▸ inb_nat hi, wrap_succ hi ha] at *
      simp [hp]
    · intro i hi hp
      simp [hi, inb_nat hi, h ▸ inb_nat hi, wrap_succ hi ha] at *
      simp [hp]
    · simp
    · simp only [h, decide_true, Bool.true_and]
      cases allN b.l.length _ <;> rfl
  · refine rn_if (by simp; omega) ?_
    simp [h]

theorem beg77 {a b : D} (ha : a.l.length ≤ smax) : e77.F [a, b] = some (.bool (beg a.l b.l)) := by
  rw [q77]
  by_cases h : a.l.length ≤ b.l.length
  · refine rn_bind (r := (0, [.bool (beg a.l b.l)])) ?_ rfl
    refine out_if (by simpa using h) (out_if (by simp [slOk, h]) (out_call (eqs87 ha) ?_))
    show some (0, [D.bool _]) = some (0, [D.bool _])
    congr 4
    have h2 : ((D.lst ((b.l.take (a.l.length : Int).toNat).drop 0)).l.length) = a.l.length := by simp; omega
    unfold beg
    rw [h2]
    simp only [h, decide_true, Bool.true_and]
    refine allN_congr fun i hi => ?_
    simp [gd_take hi]
  · refine rn_bind (r := (0, [.bool false])) (out_else (by simpa using h) rfl) ?_
    simp [beg, h]

abbrev lg (x : D) : List D := x.fst.l
abbrev sent (x : D) : Int := x.snd.fst.i
abbrev sure (x : D) : Int := x.snd.snd.fst.i
abbrev lk (xs : List D) (i : Nat) : D := gd xs i
attribute [local simp] lg sent sure lk

theorem lk_sm {B : Nat} {t : T} {xs : List D} (h : ∀ x ∈ xs, Sm B t x) {i : Nat} (hi : i < xs.length) : Sm B t (lk xs i) := by
  have : lk xs i = xs[i] := gd_lt hi
  rw [this]; exact h _ (List.getElem_mem hi)

theorem lg_len {B : Nat} {x : D} (h : Sm B tLink x) : (lg x).length ≤ B := by
  obtain ⟨a, _, rfl, ⟨ns, rfl, hl, _⟩, b, _, rfl, hb, c, _, rfl, hc, rfl⟩ := h
  exact hl

def linkP (x : D) : Bool := decide ((lg x).length ≤ 40) && short (lg x)
def linkR (xs : List D) (k : Nat) : Bool :=
  if k + 1 = xs.length then decide (sent (lk xs k) = 0) && decide (sure (lk xs k) = (lg (lk xs k)).length)
  else beg (lg (lk xs (k + 1))) (lg (lk xs k)) && ((decide (0 ≤ sent (lk xs k)) && decide (sent (lk xs k) ≤ (lg (lk xs (k + 1))).length)) &&
    (decide (0 ≤ sure (lk xs k)) && decide (sure (lk xs k) ≤ lesser (lesser (lg (lk xs (xs.length - 1))).length (lg (lk xs k)).length) (sure (lk xs (k + 1))))))
/-- a link of a chain is right, as the program says -/
def linkI (xs : List D) (k : Nat) : Bool := linkP (lk xs k) && linkR xs k

theorem link57 {xs : List D} {k : Nat} (hx : ∀ x ∈ xs, Sm smax tLink x) (hl : xs.length ≤ smax) (hk : k < xs.length) : e57.F [.pair (.lst xs) .unit, .int k] = some (.bool (linkI xs k)) := by
  have hx0 := lg_len (lk_sm hx hk)
  have hsm : (smax : Int) = 9223372036854775807 := rfl
  have hw1 : IntKind.wrap .i64 ((xs.length : Int) - 1) = ((xs.length - 1 : Nat) : Int) := by rw [wrap_id] <;> omega
  have hw2 : IntKind.wrap .i64 ((k : Int) + 1) = ((k + 1 : Nat) : Int) := wrap_succ hk hl
  have hcon := con75 (a := (lk xs k).fld 0) hx0
  rw [q57]
  refine rn_if (by simpa using inb_nat hk) ?_
  refine rn_bind (r := (0, [.bool (!linkP (lk xs k))])) ?_ ?_
  · by_cases h40 : (lg (lk xs k)).length ≤ 40
    · refine out_else (by simp at h40 ⊢; omega) (out_call hcon ?_)
      simp at h40
      simp [linkP, h40]
    · refine out_if (by simp at h40 ⊢; omega) ?_
      simp at h40
      simp [linkP, show ¬ (gd xs k).fst.l.length ≤ 40 by omega]
  unfold linkI
  cases h1 : linkP (lk xs k) with
  | false => rfl
  | true =>
  rw [Bool.true_and]
  simp only [Bool.not_true, gd_zero, D.b_bool, sel2_zero, Bool.false_eq_true, if_false, D.l_lst, D.fld, D.fst_pair, D.snd_pair, D.i_int, Int.toNat_natCast, hw1, hw2]
  unfold linkR
  by_cases hlast : k + 1 = xs.length
  · refine rn_if (by simp; omega) ?_
    rw [if_pos hlast]
    refine rn_bind (r := (0, [.bool (decide (sent (lk xs k) = 0) && decide (sure (lk xs k) = (lg (lk xs k)).length))])) ?_ rfl
    by_cases h0 : sent (lk xs k) = 0
    · refine out_if (by simpa using h0) ?_
      simp at h0
      simp [h0]
      rw [Bool.eq_iff_iff]
      exact ⟨fun h => decide_eq_true (of_decide_eq_true h), fun h => decide_eq_true (of_decide_eq_true h)⟩
    · refine out_else (by simpa using h0) ?_
      simp at h0
      simp [h0]
  · refine rn_else (by simp; omega) ?_
    rw [if_neg hlast]
    have hk1 : k + 1 < xs.length := by omega
    refine rn_if (inb_nat hk1) ?_
    have hb : e77.F [(lk xs (k + 1)).fld 0, (lk xs k).fld 0] = some (.bool (beg (lg (lk xs (k + 1))) (lg (lk xs k)))) := beg77 (lg_len (lk_sm hx hk1))
    refine rn_bind (r := (0, [.bool _])) ?_ rfl
    refine out_call hb ?_
    clear hb
    cases hbeg : beg (lg (lk xs (k + 1))) (lg (lk xs k)) with
    | false => exact out_else (by simp) rfl
    | true =>
      refine out_if rfl (out_call (in50 (sent (lk xs k)) 0 (lg (lk xs (k + 1))).length) ?_)
      cases hs : (decide (0 ≤ sent (lk xs k)) && decide (sent (lk xs k) ≤ (lg (lk xs (k + 1))).length)) with
      | false => exact out_else (by simp) rfl
      | true =>
        refine out_if rfl (out_if (inb_nat (by omega)) (out_call (in50 (sure (lk xs k)) 0 (lesser (lesser (lg (lk xs (xs.length - 1))).length (lg (lk xs k)).length) (sure (lk xs (k + 1))))) ?_))
        rfl

def okLen (xs : List D) : Bool := decide (1 ≤ xs.length) && decide (xs.length ≤ 6)
theorem okLen_int (xs : List D) : (decide ((1 : Int) ≤ xs.length) && decide ((xs.length : Int) ≤ 6)) = okLen xs := by
  unfold okLen; rw [Bool.eq_iff_iff]; simp; omega
def goodI (xs : List D) : Bool := okLen xs && allN xs.length (linkI xs)

theorem good20 {xs : List D} (hl : xs.length ≤ smax) (he : ∀ x ∈ xs, Sm smax tLink x) : e20.F [.pair (.lst xs) .unit] = some (.bool (goodI xs)) := by
  rw [q20]
  refine rn_call (in50 xs.length 1 6) ?_
  rw [okLen_int]
  unfold goodI
  cases h : okLen xs with
  | false => rfl
  | true =>
    refine rn_else (by simp) ?_
    refine rn_bind (loop_all (fun i => [.int i]) xs.length (linkI xs) (t1 := 0) (o1 := []) (t2 := 1) (o2 := []) rfl ?_ ?_ ?_) ?_
    · intro i hi hp
      simp [hi, wrap_succ hi hl, link57 he hl hi, hp]
    · intro i hi hp
      simp [hi, wrap_succ hi hl, link57 he hl hi, hp]
    · simp
    · rw [Bool.true_and]
      cases allN xs.length (linkI xs) <;> rfl

end Go.Proofs.Ytajcjfickmmjcaa

namespace Go.Proofs.Ytajcjfickmmjcaa
open Go Go.Own
attribute [local simp] lg sent sure lk

def linkT (xs : List D) (k : Nat) : Bool :=
  if k + 1 = xs.length then decide (sent (lk xs k) = 0) && decide (sure (lk xs k) = (lg (lk xs k)).length)
  else (decide (0 ≤ sent (lk xs k)) && decide (sent (lk xs k) ≤ (lg (lk xs (k + 1))).length)) &&
    ((decide (0 ≤ sure (lk xs k)) && decide (sure (lk xs k) ≤ (lg (lk xs (xs.length - 1))).length)) && decide (sure (lk xs k) ≤ sure (lk xs (k + 1))))
def linkB (xs : List D) (k : Nat) : Bool := decide ((lg (lk xs k)).length ≤ 40) && (decide (k = 0) || beg (lg (lk xs k)) (lg (lk xs (k - 1))))
/-- a link of a chain is right, as the reference says -/
def linkS (xs : List D) (k : Nat) : Bool := short (lg (lk xs k)) && (linkB xs k && linkT xs k)
def goodS (xs : List D) : Bool := okLen xs && allN xs.length (linkS xs)

theorem good18 {xs : List D} (hl : xs.length ≤ smax) (hx : ∀ x ∈ xs, Sm smax tLink x) : e18.F [.pair (.lst xs) .unit] = some (.bool (goodS xs)) := by
  have hsm : (smax : Int) = 9223372036854775807 := rfl
  rw [q18]
  refine rn_call (in49 xs.length 1 6) ?_
  rw [okLen_int]
  unfold goodS
  cases h : okLen xs with
  | false => rfl
  | true =>
  have hn : 1 ≤ xs.length := by unfold okLen at h; simp at h; omega
  have hw1 : IntKind.wrap .i64 ((xs.length : Int) - 1) = ((xs.length - 1 : Nat) : Int) := by rw [wrap_id] <;> omega
  refine rn_else (by simp) ?_
  simp only [D.l_lst, D.fld, D.fst_pair, D.snd_pair, hw1]
  refine rn_if (inb_nat (by omega)) ?_
  rw [Bool.true_and]
  refine rn_bind (loop_all' (fun i => [.int i]) xs.length (linkS xs) (t1 := 0) (o1 := [.bool false]) (t2 := 1) (o2 := []) rfl ?_ (by simp)) (by cases allN xs.length (linkS xs) <;> rfl)
  intro k hk
  have hlk := lg_len (lk_sm hx hk)
  have hw2 : IntKind.wrap .i64 ((k : Int) + 1) = ((k + 1 : Nat) : Int) := wrap_succ hk hl
  refine out_if (by simpa using hk) ?_
  refine out_bind (r := cond (linkS xs k) (0, []) (1, [.bool false])) ?_ (by cases linkS xs k <;> simp [hw2])
  refine out_if (inb_nat hk) ?_
  refine out_bind (loop_all' (fun i => [.int i]) (lg (lk xs k)).length (fun i => decide ((gd (lg (lk xs k)) i).s.length ≤ 20)) (t1 := 0) (o1 := [.bool false]) (t2 := 1) (o2 := []) rfl ?_ ?_) ?_
  · intro i hi
    refine out_if (by simpa using hi) (out_if (inb_nat hi) ?_)
    by_cases h20 : (gd (lg (lk xs k)) i).s.length ≤ 20
    · refine out_else (by simp at h20 ⊢; omega) ?_
      simp only [h20, decide_true, cond_true, gd_zero, D.i_int, wrap_succ hi hlk]
    · refine out_if (by simp at h20 ⊢; omega) ?_
      simp only [h20, decide_false, cond_false]
  · simp
  unfold linkS
  unfold short
  cases hsh : allN (lg (lk xs k)).length (fun i => decide ((gd (lg (lk xs k)) i).s.length ≤ 20)) with
  | false => rfl
  | true =>
  rw [Bool.true_and]
  refine out_bind (r := (0, [D.bool (!linkB xs k)])) ?_ ?_
  · unfold linkB
    by_cases h40 : (lg (lk xs k)).length ≤ 40
    · refine out_else (by simp at h40 ⊢; omega) ?_
      cases k with
      | zero =>
        refine out_else (by simp) ?_
        simp at h40
        simp [h40]
      | succ j =>
        have hw3 : IntKind.wrap .i64 (((j + 1 : Nat) : Int) - 1) = ((j : Nat) : Int) := by rw [wrap_id] <;> omega
        refine out_if (by simp) ?_
        simp only [gd_zero, D.i_int, hw3]
        refine out_if (inb_nat (by omega)) (out_call (beg55 hlk) ?_)
        simp at h40
        simp [h40]
    · refine out_if (by simp at h40 ⊢; omega) ?_
      simp at h40
      simp [show ¬ (gd xs k).fst.l.length ≤ 40 by omega]
  cases hB : linkB xs k with
  | false => rfl
  | true =>
  rw [Bool.true_and]
  unfold linkT
  by_cases hlast : k + 1 = xs.length
  · rw [if_pos hlast]
    refine out_if (by simp; omega) ?_
    refine out_bind (r := (0, [D.bool (!(decide (sent (lk xs k) = 0) && decide (sure (lk xs k) = (lg (lk xs k)).length)))])) ?_ ?_
    · by_cases h0 : sent (lk xs k) = 0
      · refine out_else (by simpa using h0) ?_
        simp only [h0, decide_true, Bool.true_and]
        show some (0, [D.bool _]) = some (0, [D.bool _])
        congr 4
      · refine out_if (by simpa using h0) ?_
        simp only [h0, decide_false, Bool.false_and]
        rfl
    · cases (decide (sent (lk xs k) = 0) && decide (sure (lk xs k) = (lg (lk xs k)).length)) <;> rfl
  · rw [if_neg hlast]
    refine out_else (by simp; omega) ?_
    have hk1 : k + 1 < xs.length := by omega
    simp only [gd_zero, D.i_int, hw2]
    refine out_bind (r := (0, [D.bool (!((decide (0 ≤ sent (lk xs k)) && decide (sent (lk xs k) ≤ (lg (lk xs (k + 1))).length)) &&
      ((decide (0 ≤ sure (lk xs k)) && decide (sure (lk xs k) ≤ (lg (lk xs (xs.length - 1))).length)) && decide (sure (lk xs k) ≤ sure (lk xs (k + 1))))))])) (out_if (inb_nat hk1) (out_call (in49 (sent (lk xs k)) 0 (lg (lk xs (k + 1))).length) ?_)) ?_
    · cases (decide (0 ≤ sent (lk xs k)) && decide (sent (lk xs k) ≤ (lg (lk xs (k + 1))).length)) with
      | false => rfl
      | true =>
        refine out_else (by simp) (out_call (in49 (sure (lk xs k)) 0 (lg (lk xs (xs.length - 1))).length) ?_)
        cases (decide (0 ≤ sure (lk xs k)) && decide (sure (lk xs k) ≤ (lg (lk xs (xs.length - 1))).length)) with
        | false => rfl
        | true =>
          refine out_else (by simp) ?_
          show some (0, [D.bool _]) = some (0, [D.bool _])
          congr 4
          by_cases h1 : sure (lk xs k) ≤ sure (lk xs (k + 1)) <;> simp at h1 <;> simp [h1]
    · generalize ((decide (0 ≤ sent (lk xs k)) && decide (sent (lk xs k) ≤ (lg (lk xs (k + 1))).length)) &&
        ((decide (0 ≤ sure (lk xs k)) && decide (sure (lk xs k) ≤ (lg (lk xs (xs.length - 1))).length)) && decide (sure (lk xs k) ≤ sure (lk xs (k + 1))))) = b
      cases b <;> rfl

theorem beg_len {a b : List D} (h : beg a b = true) : a.length ≤ b.length := by
  unfold beg at h; simp only [Bool.and_eq_true, decide_eq_true_eq] at h; exact h.1

theorem le_lesser {a b c : Int} : a ≤ lesser b c ↔ a ≤ b ∧ a ≤ c := by
  unfold lesser; split <;> omega

theorem tail_len {xs : List D} (h : ∀ k, k + 1 < xs.length → (lg (lk xs (k + 1))).length ≤ (lg (lk xs k)).length) : ∀ m k, m + k + 1 = xs.length → (lg (lk xs (xs.length - 1))).length ≤ (lg (lk xs k)).length
  | 0, k, hk => by rw [show xs.length - 1 = k by omega]; exact Nat.le_refl _
  | m + 1, k, hk => Nat.le_trans (tail_len h m (k + 1) (by omega)) (h k (by omega))

theorem good_eq (xs : List D) : goodS xs = goodI xs := by
  unfold goodS goodI
  congr 1
  rw [Bool.eq_iff_iff, allN_true, allN_true]
  constructor
  · intro h k hk
    have hk' := h k hk
    simp only [linkS, linkB, linkT, linkI, linkP, linkR, Bool.and_eq_true, Bool.or_eq_true, decide_eq_true_eq] at hk' ⊢
    have hbeg : ∀ j, j + 1 < xs.length → beg (lg (lk xs (j + 1))) (lg (lk xs j)) = true := by
      intro j hj
      have := h (j + 1) hj
      simp only [linkS, linkB, Bool.and_eq_true, Bool.or_eq_true, decide_eq_true_eq] at this
      rcases this.2.1.2 with h | h
      · omega
      · exact h
    refine ⟨⟨hk'.2.1.1, hk'.1⟩, ?_⟩
    have h3 := hk'.2.2
    by_cases hl : k + 1 = xs.length
    · rw [if_pos hl] at h3 ⊢; exact h3
    · rw [if_neg hl] at h3 ⊢
      simp only [Bool.and_eq_true, decide_eq_true_eq] at h3 ⊢
      have ht := tail_len (fun j hj => beg_len (hbeg j hj)) (xs.length - k - 1) k (by omega)
      refine ⟨hbeg k (by omega), h3.1, h3.2.1.1, ?_⟩
      rw [le_lesser, le_lesser]
      omega
  · intro h k hk
    have hk' := h k hk
    simp only [linkS, linkB, linkT, linkI, linkP, linkR, Bool.and_eq_true, Bool.or_eq_true, decide_eq_true_eq] at hk' ⊢
    refine ⟨hk'.1.2, ⟨hk'.1.1, ?_⟩, ?_⟩
    · cases k with
      | zero => exact .inl rfl
      | succ j =>
        right
        have := h j (by omega)
        simp only [linkI, linkR, Bool.and_eq_true] at this
        have h2 := this.2
        rw [if_neg (by omega)] at h2
        simp only [Bool.and_eq_true] at h2
        exact h2.1
    · have h3 := hk'.2
      by_cases hl : k + 1 = xs.length
      · rw [if_pos hl] at h3 ⊢; exact h3
      · rw [if_neg hl] at h3 ⊢
        simp only [Bool.and_eq_true, decide_eq_true_eq, le_lesser] at h3 ⊢
        exact ⟨h3.2.1, ⟨h3.2.2.1, h3.2.2.2.1.1⟩, h3.2.2.2.2⟩

/-- the law of GoodChain -/
theorem law4 {x : D} (hx : Sm smax tChain x) : e4.F [x] = some (.bool true) := by
  obtain ⟨r, h1, h2⟩ := sz17 hx (left := 1048576) (by decide) (by decide)
  rw [q4]
  refine rn_call h1 ?_
  by_cases hr : r < 0
  · exact rn_if (decide_eq_true hr) rfl
  refine rn_else (fun h => hr (of_decide_eq_true h)) ?_
  have hs := h2 (by omega)
  have ht := to19 hs
  obtain ⟨_, _, hxx, ⟨xs, rfl, hl, he⟩, rfl⟩ := id hx
  refine rn_call ht ?_
  rw [hxx] at ht hx ⊢
  refine rn_call (good18 hl he) (rn_call ht (rn_call (good20 hl he) ?_))
  rw [good_eq]
  refine rn_else (by simp) (rn_call ht (rn_call (eq14 hx) ?_))
  rfl
end Go.Proofs.Ytajcjfickmmjcaa

namespace Go.Own
theorem rn_else_ex {α : Type} {g : α → D} {c : Prop} [Decidable c] {a b : Outc} (h : ¬ c) (hk : ∃ s, rn b = some (g s)) : ∃ s, rn (if c then a else b) = some (g s) := by rw [if_neg h]; exact hk
/-- a number's digits, the last first -/
theorem digits_loop {f : List D → Outc} {c : Nat × List D → Outc} {k : Int} (h0 : 0 ≤ k) (h1 : k < 10 ^ 18)
    (hs : ∀ (n : Int) (s : List UInt8), 0 < n → n < 10 ^ 18 → s.length ≤ 30 → ∃ c : List UInt8, c.length = 1 ∧ f [.int n, .str s] = some (0, [.int (n.tdiv 10), .str (c ++ s)]))
    (he : ∀ (n : Int) (s : List UInt8), n ≤ 0 → f [.int n, .str s] = some (1, [.str s])) (hc : ∀ s : List UInt8, s.length ≤ 30 → ∃ s', rn (c (0, [.str s])) = some (.str s')) :
    ∃ s, rn ((loopF f [.int k, .str []]).bind c) = some (.str s) := by
  have key : ∀ (fuel : Nat), fuel ≤ 18 → ∀ (n : Int) (s : List UInt8), 0 ≤ n → n < 10 ^ fuel → s.length + fuel ≤ 30 → ∃ s', loopF f [.int n, .str s] = some (0, [.str s']) ∧ s'.length ≤ 30 := by
    intro fuel
    induction fuel with
    | zero =>
      intro _ n s h0 h1 h2
      exact ⟨s, loopF_exit (he n s (by simp at h1; omega)), by omega⟩
    | succ m ih =>
      intro hm n s h0 h1 h2
      by_cases hn : n ≤ 0
      · exact ⟨s, loopF_exit (he n s hn), by omega⟩
      · have hp : (10 : Int) ^ (m + 1) = 10 ^ m * 10 := Int.pow_succ 10 m
        have hp2 : (10 : Int) ^ (m + 1) ≤ 10 ^ 18 := by
          have := Nat.pow_le_pow_right (n := 10) (by omega) hm
          exact_mod_cast this
        obtain ⟨c, hc, hstep⟩ := hs n s (by omega) (by omega) (by omega)
        rw [loopF_step hstep]
        have h3 : n.tdiv 10 = n / 10 := Int.tdiv_eq_ediv_of_nonneg (by omega)
        refine ih (by omega) (n.tdiv 10) (c ++ s) (by omega) ?_ (by simp; omega)
        rw [h3]
        omega
  obtain ⟨s, h2, h3⟩ := key 18 (Nat.le_refl _) k [] h0 h1 (by simp)
  rw [h2]
  exact hc s h3
end Go.Own
namespace Go.Proofs.Ytajcjfickmmjcaa
open Go Go.Own

/-! marks -/
theorem text59 {k : Int} (h0 : 0 ≤ k) (h1 : k < 10 ^ 18) : ∃ s, e59.F [.int k] = some (.str s) := by
  rw [q59]
  by_cases hk : k ≤ 0
  · exact ⟨_, rn_if (decide_eq_true hk) rfl⟩
  refine rn_else_ex (g := D.str) (fun h => hk (of_decide_eq_true h)) (digits_loop h0 h1 ?_ ?_ ?_)
  · intro n s hn hn2 hs
    refine ⟨_, bytesStr_size [.int (IntKind.wrap .u8 (IntKind.wrap .i64 (48 + (n.tmod 10))))], ?_⟩
    have hc : catOk (bytesStr [.int (IntKind.wrap .u8 (IntKind.wrap .i64 (48 + (n.tmod 10))))]) s = true := by
      unfold catOk
      rw [bytesStr_size]
      simp [smax]; omega
    have h3 : n.tdiv 10 = n / 10 := Int.tdiv_eq_ediv_of_nonneg (by omega)
    have hw : IntKind.wrap .i64 (n.tdiv 10) = n.tdiv 10 := by rw [h3]; exact wrap_id (by omega) (by omega)
    refine out_if (decide_eq_true hn) (out_if (by decide) (out_if hc ?_))
    simp only [gd_zero, D.i_int, hw]
    rfl
  · intro n s hn
    exact out_else (fun h => absurd (of_decide_eq_true h) (Int.not_lt.2 hn)) rfl
  · intro s hs
    refine ⟨_, rn_if (by simp [catOk, smax]; omega) rfl⟩

/-- the mark of a number -/
noncomputable def mt (k : Int) : List UInt8 := if h : 0 ≤ k ∧ k < 10 ^ 18 then (text59 h.1 h.2).choose else []
theorem mt_is {k : Int} (h0 : 0 ≤ k) (h1 : k < 10 ^ 18) : e59.F [.int k] = some (.str (mt k)) := by
  unfold mt
  rw [dif_pos ⟨h0, h1⟩]
  exact (text59 h0 h1).choose_spec

noncomputable def mk (k : Int) (i : Nat) : D := .str (mt (k + i))
noncomputable def marked (k : Int) (n : Nat) : D := .lst ((List.range n).map (mk k))

theorem mark24 {xs : List D} {k : Int} (h0 : 0 ≤ k) (h1 : k + xs.length < 10 ^ 18) : e24.F [.lst xs, .int k] = some (.pair (.int (k + xs.length)) (.pair (marked k xs.length) .unit)) := by
  have h10 := pow18
  have hl : xs.length ≤ smax := by simp [smax]; omega
  rw [q24]
  refine rn_bind (loop_for' (fun i (zs : List D) => [.lst zs, .int (k + i), .int i]) xs.length (over (mk k) xs) (t := 0) (o := [marked k xs.length, .int (k + xs.length)]) (by simp [over_zero]) ?_ ?_) rfl
  · intro i hi
    have hw : IntKind.wrap .i64 (k + (i : Int) + 1) = k + ((i + 1 : Nat) : Int) := by rw [wrap_id] <;> omega
    have hm := mt_is (k := k + i) (by omega) (by omega)
    refine out_if (by simp [over_length (Nat.le_of_lt hi)]; omega) (out_call hm (out_if ?_ ?_))
    · simp only [gd_zero, gd_two, D.l_lst, D.i_int, over_length (Nat.le_of_lt hi)]; exact inb_nat hi
    · simp [wrap_succ hi hl, hw, over_set' hi (show D.str (mt (k + i)) = mk k i from rfl)]
  · simp [over_length (Nat.le_refl _), over_all, marked]

theorem held25 {n : Nat} {k : Int} (h0 : 0 ≤ k) (h1 : k + n < 10 ^ 18) : e25.F [marked k n, .int k] = some (.int (k + n)) := by
  have h10 := pow18
  have hl : n ≤ smax := by simp [smax]; omega
  rw [q25]
  refine rn_bind (loop_for' (fun i (_ : Unit) => [.int (k + i), .int i]) n (fun _ => ()) (t := 1) (o := [.int (k + n)]) (by simp) ?_ ?_) rfl
  · intro i hi
    have hw : IntKind.wrap .i64 (k + (i : Int) + 1) = k + ((i + 1 : Nat) : Int) := by rw [wrap_id] <;> omega
    have hm := mt_is (k := k + i) (by omega) (by omega)
    simp [marked, hi, inb_nat hi, wrap_succ hi hl, hw, hm, gd_map hi, mk]
  · simp [marked]
end Go.Proofs.Ytajcjfickmmjcaa

namespace Go.Proofs.Ytajcjfickmmjcaa
open Go Go.Own
attribute [local simp] lg sent sure lk

def kAt (k : Int) (xs : List D) : Nat → Int
  | 0 => k
  | i + 1 => kAt k xs i + (lg (lk xs i)).length + 2
theorem kAt_le {k : Int} {xs : List D} (hx : ∀ x ∈ xs, Sm lim tLink x) : ∀ i, i ≤ xs.length → k ≤ kAt k xs i ∧ kAt k xs i ≤ k + i * (lim + 2)
  | 0, _ => by simp [kAt]
  | i + 1, hi => by
    have h1 := kAt_le hx (k := k) i (by omega)
    have h2 := lg_len (lk_sm hx (show i < xs.length by omega))
    have h3 : ((i + 1 : Nat) : Int) * (lim + 2) = i * (lim + 2) + (lim + 2) := by
      rw [Int.natCast_add, Int.add_mul]; simp
    simp only [kAt]
    omega
theorem kAt_small {k : Int} {xs : List D} (hx : ∀ x ∈ xs, Sm lim tLink x) (hl : xs.length ≤ lim) (hk : k ≤ 1048576) {i : Nat} (hi : i ≤ xs.length) : kAt k xs i + lim + 2 < 10 ^ 18 := by
  have h1 := kAt_le hx (k := k) i hi
  have h10 := pow18
  have h4 : (i : Int) * (lim + 2) ≤ lim * (lim + 2) := Int.mul_le_mul_of_nonneg_right (by omega) (by omega)
  have h5 : (lim : Int) * (lim + 2) = 1099513724928 := by decide
  have h6 : (lim : Int) = 1048576 := rfl
  omega

noncomputable def markedL (k : Int) (xs : List D) (i : Nat) : D :=
  .pair (marked (kAt k xs i) (lg (lk xs i)).length) (.pair (.int (kAt k xs i + (lg (lk xs i)).length)) (.pair (.int (kAt k xs i + (lg (lk xs i)).length + 1)) .unit))

theorem mark52 {xs : List D} {k : Int} (h0 : 0 ≤ k) (h1 : k ≤ 1048576) (hl : xs.length ≤ lim) (hx : ∀ x ∈ xs, Sm lim tLink x) :
    e52.F [.lst xs, .int k] = some (.pair (.int (kAt k xs xs.length)) (.pair (.lst ((List.range xs.length).map (markedL k xs))) .unit)) := by
  have h10 := pow18
  have hsm : lim ≤ smax := lim_smax
  rw [q52]
  refine rn_bind (loop_for' (fun i (zs : List D) => [.lst zs, .int (kAt k xs i), .int i]) xs.length (over (markedL k xs) xs) (t := 0) (o := [.lst ((List.range xs.length).map (markedL k xs)), .int (kAt k xs xs.length)]) (by simp [over_zero, kAt]) ?_ ?_) rfl
  · intro i hi
    have hk0 := (kAt_le hx (k := k) i (Nat.le_of_lt hi)).1
    have hk1 := kAt_small hx hl h1 (Nat.le_of_lt hi)
    have hlim : (lim : Int) = 1048576 := rfl
    have hlen := lg_len (lk_sm hx hi)
    have hol := over_length (ys := markedL k xs) (Nat.le_of_lt hi)
    obtain ⟨a, _, hxi, ⟨ns, rfl, hnl, _⟩, b, _, rfl, hb, c, _, rfl, hc, rfl⟩ := lk_sm hx hi
    have hg : gd (over (markedL k xs) xs i) i = _ := (over_gd hi).trans hxi
    have hgl : lg (lk xs i) = ns := by rw [hxi]; rfl
    have hm := mark24 (xs := ns) (k := kAt k xs i) (by omega) (by rw [hgl] at hlen; omega)
    have hw : IntKind.wrap .i64 (kAt k xs i + ns.length + 1) = kAt k xs i + ns.length + 1 := wrap_id (by omega) (by rw [hgl] at hlen; omega)
    have hw2 : IntKind.wrap .i64 (kAt k xs i + ns.length + 1 + 1) = kAt k xs (i + 1) := by
      rw [wrap_id (by omega) (by rw [hgl] at hlen; omega)]
      simp only [kAt, hgl]; omega
    refine out_if (by simp [hol]; omega) (out_if (by simp [hol]; exact inb_nat hi) ?_)
    simp only [gd_zero, gd_one, gd_two, D.l_lst, D.i_int, Int.toNat_natCast, hg, D.fld, D.fst_pair]
    refine out_call hm ?_
    simp only [D.fld, D.fst_pair, D.snd_pair, D.i_int, hw, hw2, D.setFld, List.set_set]
    have hi2 : i < (over (markedL k xs) xs i).length := by rw [hol]; exact hi
    simp only [gd_set hi2, D.fst_pair, D.snd_pair]
    rw [over_set' hi (show _ = markedL k xs i by simp only [markedL, hgl])]
    simp [wrap_succ hi (Nat.le_trans hl hsm)]
  · simp [over_length (Nat.le_refl _), over_all]

theorem mark15 {xs : List D} {k : Int} (h0 : 0 ≤ k) (h1 : k ≤ 1048576) (hl : xs.length ≤ lim) (hx : ∀ x ∈ xs, Sm lim tLink x) :
    ∃ y, e15.F [.pair (.lst xs) .unit, .int k] = some (.pair (.int (kAt k xs xs.length)) y) := by
  rw [q15]
  exact ⟨_, rn_call (mark52 h0 h1 hl hx) rfl⟩

/-- texts, cloned -/
theorem clone58 {x : D} {B : Nat} (hx : Sm B tStrs x) (hB : x.l.length ≤ lim) : e58.F [x] = some x := by
  obtain ⟨xs, rfl, hl, he⟩ := hx
  rw [q58]
  have ha : appOk 16 ([] : List D) (D.lst xs).l = true := by
    have h1 : lim ≤ smax := lim_smax
    have h2 : (lim : Nat) = 1048576 := rfl
    simp only [D.l_lst] at hB
    simp [appOk]; omega
  rw [two_eq]
  · refine rn_if ha rfl
  · intro h
    rw [if_pos ha]
    have : xs = [] := by simpa using h
    subst this
    rfl

/-- what ReadTail gives -/
noncomputable def readTail (xs : List D) : D := if goodI xs = true then .pair (.lst (lg (lk xs (xs.length - 1)))) (.pair (.bool true) .unit) else .pair (.lst []) (.pair (.bool false) .unit)

theorem okLen_pos {xs : List D} (h : goodI xs = true) : 1 ≤ xs.length := by
  unfold goodI okLen at h; simp at h; omega

theorem read21 {xs : List D} (hl : xs.length ≤ lim) (hx : ∀ x ∈ xs, Sm lim tLink x) : e21.F [.pair (.lst xs) .unit] = some (readTail xs) := by
  have hsm := lim_smax
  rw [q21]
  refine rn_call (good18 (Nat.le_trans hl hsm) (fun x h => (hx x h).mono hsm)) ?_
  rw [good_eq]
  unfold readTail
  by_cases h : goodI xs = true
  · have hn := okLen_pos h
    have hw1 : IntKind.wrap .i64 ((xs.length : Int) - 1) = ((xs.length - 1 : Nat) : Int) := by
      have : (smax : Int) = 9223372036854775807 := rfl
      rw [wrap_id] <;> omega
    have hlog := lg_len (lk_sm hx (show xs.length - 1 < xs.length by omega))
    rw [if_pos h]
    refine rn_else (by simp [h]) ?_
    simp only [D.l_lst, D.fld, D.fst_pair, hw1, Int.toNat_natCast]
    refine rn_if (inb_nat (by omega)) (rn_if ?_ rfl)
    have h2 : (lim : Nat) = 1048576 := rfl
    have h3 : (smax : Nat) = 9223372036854775807 := rfl
    have h4 : (lg (lk xs (xs.length - 1))).length * 16 ≤ lim * 16 := Nat.mul_le_mul_right _ hlog
    simp only [appOk, List.length_nil, Nat.zero_add, Bool.and_eq_true, decide_eq_true_eq]
    exact ⟨Nat.le_trans hlog hsm, Nat.le_trans h4 (by decide)⟩
  · rw [if_neg h]
    exact rn_if (by simp [h]) rfl

theorem read22 {xs : List D} (hl : xs.length ≤ lim) (hx : ∀ x ∈ xs, Sm lim tLink x) : e22.F [.pair (.lst xs) .unit] = some (readTail xs) := by
  have hsm := lim_smax
  rw [q22]
  refine rn_call (good20 (Nat.le_trans hl hsm) (fun x h => (hx x h).mono hsm)) ?_
  unfold readTail
  by_cases h : goodI xs = true
  · have hn := okLen_pos h
    have hw1 : IntKind.wrap .i64 ((xs.length : Int) - 1) = ((xs.length - 1 : Nat) : Int) := by
      have : (smax : Int) = 9223372036854775807 := rfl
      rw [wrap_id] <;> omega
    have hlk := lk_sm hx (show xs.length - 1 < xs.length by omega)
    rw [if_pos h]
    refine rn_else (by simp [h]) ?_
    simp only [D.l_lst, D.fld, D.fst_pair, hw1, Int.toNat_natCast]
    refine rn_if (inb_nat (by omega)) ?_
    obtain ⟨a, _, hxi, ha, b, _, rfl, hb, c, _, rfl, hc, rfl⟩ := hlk
    rw [show (gd xs (xs.length - 1)).fst = a by rw [show gd xs (xs.length - 1) = _ from hxi]; rfl]
    have hal : a.l.length ≤ lim := by obtain ⟨ys, rfl, h, _⟩ := ha; exact h
    refine rn_call (clone58 ha hal) ?_
    obtain ⟨ys, rfl, _⟩ := ha
    rw [show lk xs (xs.length - 1) = _ from hxi]
    rfl
  · rw [if_neg h]
    exact rn_if (by simp [h]) rfl

theorem readTail_is {xs : List D} (hx : ∀ x ∈ xs, Sm lim tLink x) : ∃ ys b, readTail xs = .pair (.lst ys) (.pair (.bool b) .unit) ∧ ys.length ≤ lim := by
  unfold readTail
  by_cases h : goodI xs = true
  · rw [if_pos h]
    exact ⟨_, _, rfl, lg_len (lk_sm hx (by have := okLen_pos h; omega))⟩
  · rw [if_neg h]; exact ⟨_, _, rfl, by simp⟩

theorem law5 {x : D} (hx : Sm smax tChain x) : e5.F [x] = some (.bool true) := by
  obtain ⟨r, h1, h2⟩ := sz17 hx (left := 1048576) (by decide) (by decide)
  rw [q5]
  refine rn_call h1 ?_
  by_cases hr : r < 0
  · exact rn_if (decide_eq_true hr) rfl
  refine rn_else (fun h => hr (of_decide_eq_true h)) ?_
  have hs := h2 (by omega)
  have ht := to19 hs
  have heq := eq14 hx
  obtain ⟨_, _, hxx, ⟨xs, rfl, hl, he⟩, rfl⟩ := hs
  subst hxx
  obtain ⟨ys, b, hres, hyl⟩ := readTail_is he
  have h21 := read21 hl he
  have h22 := read22 hl he
  rw [hres] at h21 h22
  have hy : e23.F [.lst ys, .lst ys] = some (.bool true) := eq23 (Nat.le_trans hyl lim_smax)
  obtain ⟨y15, h15⟩ := mark15 (k := 1) (by decide) (by decide) hl he
  have hk15 := (kAt_le he (k := 1) xs.length (Nat.le_refl _)).1
  have hm24 := mark24 (xs := ys) (k := 1) (by decide) (by have := pow18; have h6 : (lim : Int) = 1048576 := rfl; omega)
  have hh25 := held25 (n := ys.length) (k := 1) (by decide) (by have := pow18; have h6 : (lim : Int) = 1048576 := rfl; omega)
  refine rn_call ht (rn_call h21 (rn_call ht (rn_call h22 ?_)))
  have hk15' : ¬ kAt 1 xs xs.length < 0 := by omega
  have hn1 : ¬ (1 : Int) + ys.length < 0 := by omega
  simp [hy, ht, heq, h15, hm24, hh25, h22, hk15', hn1]
end Go.Proofs.Ytajcjfickmmjcaa

namespace Go.Proofs.Ytajcjfickmmjcaa
open Go Go.Own
attribute [local simp] lg sent sure lk

/-- what SureIn gives -/
noncomputable def sureIn (xs : List D) : D := if goodI xs = true then .pair (.lst ((lg (lk xs 0)).take (sure (lk xs 0)).toNat)) (.pair (.bool true) .unit) else .pair (.lst []) (.pair (.bool false) .unit)

theorem sure_le {xs : List D} (h : goodI xs = true) : 0 ≤ sure (lk xs 0) ∧ sure (lk xs 0) ≤ (lg (lk xs 0)).length := by
  have hn := okLen_pos h
  unfold goodI at h
  simp only [Bool.and_eq_true, allN_true] at h
  have h0 := h.2 0 (by omega)
  unfold linkI linkR at h0
  by_cases hl : 0 + 1 = xs.length
  · rw [if_pos hl] at h0
    simp only [Bool.and_eq_true, decide_eq_true_eq] at h0
    omega
  · rw [if_neg hl] at h0
    simp only [Bool.and_eq_true, decide_eq_true_eq, le_lesser] at h0
    omega

theorem sl_ok {xs : List D} (h : goodI xs = true) : slOk 0 (sure (lk xs 0)) ((lg (lk xs 0)).length : Int) = true := by
  have := sure_le h
  unfold slOk
  simp only [Int.le_refl, decide_true, Bool.true_and, Bool.and_eq_true, decide_eq_true_eq]
  exact this

theorem sure26 {xs : List D} (hl : xs.length ≤ lim) (hx : ∀ x ∈ xs, Sm lim tLink x) : e26.F [.pair (.lst xs) .unit] = some (sureIn xs) := by
  have hsm := lim_smax
  rw [q26]
  refine rn_call (good18 (Nat.le_trans hl hsm) (fun x h => (hx x h).mono hsm)) ?_
  rw [good_eq]
  unfold sureIn
  by_cases h : goodI xs = true
  · have hn := okLen_pos h
    have hlog := lg_len (lk_sm hx (show 0 < xs.length by omega))
    rw [if_pos h]
    refine rn_else (by simp [h]) (rn_if (inb_nat (i := 0) (show 0 < xs.length from hn)) (rn_if (sl_ok h) (rn_if ?_ rfl)))
    have h4 : (((lg (lk xs 0)).take (sure (lk xs 0)).toNat).drop 0).length ≤ lim := by simp at hlog ⊢; omega
    have h5 := Nat.mul_le_mul_right 16 h4
    show appOk 16 [] (((lg (lk xs 0)).take (sure (lk xs 0)).toNat).drop 0) = true
    simp only [appOk, List.length_nil, Nat.zero_add, Bool.and_eq_true, decide_eq_true_eq]
    exact ⟨Nat.le_trans h4 hsm, Nat.le_trans h5 (by decide)⟩
  · rw [if_neg h]
    exact rn_if (by simp [h]) rfl

theorem sure27 {xs : List D} (hl : xs.length ≤ lim) (hx : ∀ x ∈ xs, Sm lim tLink x) : e27.F [.pair (.lst xs) .unit] = some (sureIn xs) := by
  have hsm := lim_smax
  rw [q27]
  refine rn_call (good20 (Nat.le_trans hl hsm) (fun x h => (hx x h).mono hsm)) ?_
  unfold sureIn
  by_cases h : goodI xs = true
  · have hn := okLen_pos h
    obtain ⟨a, _, hxi, ⟨ns, rfl, hnl, hne⟩, b, _, rfl, hb, c, _, rfl, hc, rfl⟩ := lk_sm hx (show 0 < xs.length by omega)
    rw [if_pos h]
    have hcl : e58.F [.lst (((lg (lk xs 0)).take (sure (lk xs 0)).toNat).drop 0)] = some (.lst ((lg (lk xs 0)).take (sure (lk xs 0)).toNat)) := by
      rw [List.drop_zero]
      refine clone58 (B := lim) ⟨_, rfl, ?_, ?_⟩ ?_
      · rw [hxi]; simp; omega
      · intro x hm
        rw [hxi] at hm
        exact hne x (List.mem_of_mem_take hm)
      · rw [hxi]; simp; omega
    exact rn_else (by simp [h]) (rn_if (inb_nat (i := 0) (show 0 < xs.length from hn)) (rn_if (sl_ok h) (rn_call hcl rfl)))
  · rw [if_neg h]
    exact rn_if (by simp [h]) rfl

theorem sureIn_is {xs : List D} (hx : ∀ x ∈ xs, Sm lim tLink x) : ∃ ys b, sureIn xs = .pair (.lst ys) (.pair (.bool b) .unit) ∧ ys.length ≤ lim := by
  unfold sureIn
  by_cases h : goodI xs = true
  · rw [if_pos h]
    have := lg_len (lk_sm hx (by have := okLen_pos h; omega) (i := 0))
    exact ⟨_, _, rfl, by simp at this ⊢; omega⟩
  · rw [if_neg h]; exact ⟨_, _, rfl, by simp⟩

theorem law6 {x : D} (hx : Sm smax tChain x) : e6.F [x] = some (.bool true) := by
  obtain ⟨r, h1, h2⟩ := sz17 hx (left := 1048576) (by decide) (by decide)
  rw [q6]
  refine rn_call h1 ?_
  by_cases hr : r < 0
  · exact rn_if (decide_eq_true hr) rfl
  refine rn_else (fun h => hr (of_decide_eq_true h)) ?_
  have hs := h2 (by omega)
  have ht := to19 hs
  have heq := eq14 hx
  obtain ⟨_, _, hxx, ⟨xs, rfl, hl, he⟩, rfl⟩ := hs
  subst hxx
  obtain ⟨ys, b, hres, hyl⟩ := sureIn_is he
  have h21 := sure26 hl he
  have h22 := sure27 hl he
  rw [hres] at h21 h22
  have hy : e23.F [.lst ys, .lst ys] = some (.bool true) := eq23 (Nat.le_trans hyl lim_smax)
  obtain ⟨y15, h15⟩ := mark15 (k := 1) (by decide) (by decide) hl he
  have hk15 := (kAt_le he (k := 1) xs.length (Nat.le_refl _)).1
  have hm24 := mark24 (xs := ys) (k := 1) (by decide) (by have := pow18; have h6 : (lim : Int) = 1048576 := rfl; omega)
  have hh25 := held25 (n := ys.length) (k := 1) (by decide) (by have := pow18; have h6 : (lim : Int) = 1048576 := rfl; omega)
  refine rn_call ht (rn_call h21 (rn_call ht (rn_call h22 ?_)))
  have hk15' : ¬ kAt 1 xs xs.length < 0 := by omega
  have hn1 : ¬ (1 : Int) + ys.length < 0 := by omega
  simp [hy, ht, heq, h15, hm24, hh25, h22, hk15', hn1]
end Go.Proofs.Ytajcjfickmmjcaa

namespace Go.Proofs.Ytajcjfickmmjcaa
open Go Go.Own Go.ChangeShapes Go.WideShapes Go.ChangeAt Go.RowKit
theorem Try.own : ownKnob Try.prog.godebug = none := by kernel_rfl
theorem Try.laidOut : laidOutB Try.prog = true := by kernel_rfl

set_option maxRecDepth 100000 in
theorem row6 (os : Os) (started : os.Started) (H : Type) (enc : TypeId × Value → H) :
    ReturnsInHanded {} Try.checked os 6 .any (Rows.fnExactSureInSpec.pre6 enc Try.prog Try.f6 Rows.fnExactSureInRow.domain false) (Rows.fnExactSureInSpec.post enc Try.prog Try.f6 false true false false) := by
  refine returnsInHanded_of_change (C := Try.checked) Try.own started (by kernel_rfl) Try.func6
    (ChangeSpec.witness6 (enc := enc) (C := Try.checked) false ⟨#[], #[.agg #[.slice none 0 0]], []⟩ 8 (by kernel_rfl) (by kernel_rfl) (by kernel_rfl) (by kernel_rfl)) ?_
  intro W base args ds gs before h1 h2 _ _
  refine law_row (envC (fun _ => []) 0 []) Try.laidOut ok6 rfl rfl rfl rfl ?_ ?_ ?_ rfl Try.underlying4 ?_ W base args ds gs before h1 h2
  · intro ds hl
    match ds, hl with
    | [d], _ => rfl
  · intro t ht
    rw [Try.params6] at ht
    simp at ht
    subst ht
    exact ⟨⟨by kernel_rfl, by kernel_rfl⟩, by kernel_rfl, of_decide_eq_true (by kernel_rfl)⟩
  · rw [Try.params6]; kernel_rfl
  · intro ds hl hw
    match ds, hl with
    | [d], _ => exact law6 (WT.sm (hw 0 _ d rfl rfl))

set_option maxRecDepth 100000 in
theorem sureIn_holds : Rows.FnExactSureInSaid :=
  OpenClaim.holds_of_wide 6 Try.f6 rfl rfl rfl rfl rfl rfl rfl ⟨rfl, rfl, rfl, rfl, rfl⟩ rfl rfl rfl rfl rfl (by kernel_rfl) Try.func6 (by kernel_rfl)
    (of_decide_eq_true (by kernel_rfl)) (by unfold Func.isWrapper; first | (rw [if_pos (by decide +kernel)]; kernel_rfl) | (rw [if_neg (by decide +kernel)]; exact ⟨rfl, rfl⟩))
    (fun os started H enc _ => row6 os started H enc)
end Go.Proofs.Ytajcjfickmmjcaa
