/- FnExactGoodChain returns true at every input, and the input reads as it did; no condition. -/
import Derived.Test.YtajcjfickmmjcaaGoodChainCq
import Derived.Test.YtajcjfickmmjcaaChecked
import Derived.Test.YtajcjfickmmjcaaRows
import Derived.Handed
set_option linter.unusedVariables false
set_option linter.unusedSimpArgs false
namespace Go.Proofs.Ytajcjfickmmjcaa
open Go Go.Own

abbrev tStrs : T := .lst false .str
abbrev tLink : T := .pair tStrs (.pair (.int .i64) (.pair (.int .i64) .unit))
abbrev tLinks : T := .lst false tLink
abbrev tChain : T := .pair tLinks .unit

/-! the same is alike -/
theorem eq23 {x : D} (hx : x.l.length ≤ smax) : e23.F [x, x] = some (.bool true) := by
  rw [q23, if_neg (by simp)]
  refine rn_bind (loop_for' (fun i (_ : Unit) => [.int i]) x.l.length (fun _ => ()) (t := 1) (o := []) rfl ?_ ?_) rfl
  · intro i hi
    simp [hi, gd_lt hi, inb_nat hi, wrap_succ hi hx]
  · simp

theorem eq72 {x : D} (hx : Sm smax tLink x) : e72.F [x, x] = some (.bool true) := by
  obtain ⟨a, _, rfl, ⟨ns, rfl, hl, _⟩, b, _, rfl, hb, c, _, rfl, hc, rfl⟩ := hx
  rw [q72]
  refine rn_call (eq23 hl) ?_
  simp

theorem eq51 {x : D} (hx : Sm smax tLinks x) : e51.F [x, x] = some (.bool true) := by
  obtain ⟨xs, rfl, hl, he⟩ := hx
  rw [q51, if_neg (by simp)]
  refine rn_bind (loop_for' (fun i (_ : Unit) => [.int i]) xs.length (fun _ => ()) (t := 1) (o := []) rfl ?_ ?_) rfl
  · intro i hi
    simp [hi, gd_lt hi, inb_nat hi, wrap_succ hi hl, eq72 (he _ (List.getElem_mem hi))]
  · simp

theorem eq14 {x : D} (hx : Sm smax tChain x) : e14.F [x, x] = some (.bool true) := by
  obtain ⟨a, _, rfl, ha, rfl⟩ := hx
  rw [q14]
  refine rn_call (eq51 ha) ?_
  simp

/-! what is taken over is the same -/
theorem to85 {x : D} (hx : Sm lim tStrs x) : e85.F [x] = some x := by
  obtain ⟨xs, rfl, hl, he⟩ := hx
  rw [q85]; refine rn_if (makeOk_nat hl (by decide)) ?_
  refine rn_bind (loop_for' (fun i (zs : List D) => [.lst zs, .int i]) xs.length (filled xs (.str [])) (t := 0) (o := [.lst xs]) (by simp [filled_zero]) ?_ ?_) rfl
  · intro i hi
    simp [hi, gd_lt hi, inb_nat hi, wrap_succ hi (Nat.le_trans hl lim_smax), filled_length (Nat.le_of_lt hi), filled_set hi]
  · simp [filled_all]

theorem to74 {x : D} (hx : Sm lim tLink x) : e74.F [x] = some x := by
  obtain ⟨a, _, rfl, ha, b, _, rfl, hb, c, _, rfl, hc, rfl⟩ := hx
  rw [q74]
  refine rn_call (to85 ha) ?_
  simp

theorem to56 {x : D} (hx : Sm lim tLinks x) : e56.F [x] = some x := by
  obtain ⟨xs, rfl, hl, he⟩ := hx
  rw [q56]; refine rn_if (makeOk_nat hl (by decide)) ?_
  refine rn_bind (loop_for' (fun i (zs : List D) => [.lst zs, .int i]) xs.length (filled xs (.pair (.lst []) (.pair (.int 0) (.pair (.int 0) .unit)))) (t := 0) (o := [.lst xs]) (by simp [filled_zero]) ?_ ?_) rfl
  · intro i hi
    simp [hi, gd_lt hi, inb_nat hi, wrap_succ hi (Nat.le_trans hl lim_smax), filled_length (Nat.le_of_lt hi), filled_set hi, to74 (he _ (List.getElem_mem hi))]
  · simp [filled_all]

theorem to19 {x : D} (hx : Sm lim tChain x) : e19.F [x] = some x := by
  obtain ⟨a, _, rfl, ha, rfl⟩ := hx
  rw [q19]
  refine rn_call (to56 ha) ?_
  simp

/-! what is read is small, or the law says nothing -/
theorem len_wrap {left : Int} {n : Nat} (h0 : 0 ≤ left) (h1 : left ≤ lim) (hn : n ≤ smax) : IntKind.wrap .i64 (left - (n : Int)) = left - n := by
  have hlim : (lim : Int) = 1048576 := rfl
  have hsm : (smax : Int) = 9223372036854775807 := rfl
  exact wrap_id (by omega) (by omega)

def szStr (s : Int) (x : D) : Int := s - x.s.length
theorem szStr_spec {x : D} (hx : Sm smax .str x) (s : Int) (h0 : 0 ≤ s) (h1 : s ≤ lim) : szStr s x ≤ s ∧ (0 ≤ szStr s x → Sm lim .str x) := by
  obtain ⟨t, rfl, ht⟩ := hx
  simp only [szStr, D.s_str]
  exact ⟨by omega, fun h => ⟨t, rfl, by omega⟩⟩

theorem sz84 {x : D} {left : Int} (hx : Sm smax tStrs x) (h0 : 0 ≤ left) (h1 : left ≤ lim) : e84.F [x, .int left] = some (.int (szL szStr x.l left)) := by
  obtain ⟨xs, rfl, hl, he⟩ := hx
  have hw := len_wrap h0 h1 hl
  rw [q84]
  by_cases hlt : left - (xs.length : Int) < 0
  · refine rn_if (by simpa [hw] using hlt) ?_
    simp [szL, hlt]
  · refine rn_else (by simpa [hw] using hlt) ?_
    simp only [D.l_lst, D.i_int, hw]
    refine rn_bind (szL_loop (c := szStr) hlt h1 (fun x hx s h1 h2 => (szStr_spec (he x hx) s h1 h2).1) ?_ ?_) ?_
    · intro i s hi h1 h2
      obtain ⟨t, ht, htl⟩ := he _ (List.getElem_mem hi)
      have := len_wrap h1 h2 htl
      constructor <;> intro hc <;> simp [szStr, ht] at hc <;> simp [hi, gd_lt hi, inb_nat hi, wrap_succ hi hl, ht, this, szStr, hc]
    · intro s; simp
    · rcases szN_cases szStr xs left with h | h <;> simp [h]

theorem szStrs_spec {x : D} (hx : Sm smax tStrs x) (s : Int) (h0 : 0 ≤ s) (h1 : s ≤ lim) : szL szStr x.l s ≤ s ∧ (0 ≤ szL szStr x.l s → Sm lim tStrs x) := by
  obtain ⟨xs, rfl, hl, he⟩ := hx
  have := szL_spec (c := szStr) (Q := Sm lim .str) (xs := xs) h1 (fun x hx s h0 h1 => szStr_spec (he x hx) s h0 h1) h0
  exact ⟨this.1, fun h => ⟨xs, rfl, (this.2 h).1, (this.2 h).2⟩⟩

def szLink (s : Int) (x : D) : Int := if szL szStr (x.fld 0).l s < 0 then -1 else szL szStr (x.fld 0).l s

theorem sz73 {x : D} {left : Int} (hx : Sm smax tLink x) (h0 : 0 ≤ left) (h1 : left ≤ lim) : e73.F [x, .int left] = some (.int (szLink left x)) := by
  obtain ⟨a, _, rfl, ha, b, _, rfl, hb, c, _, rfl, hc, rfl⟩ := hx
  rw [q73]
  refine rn_call (sz84 ha h0 h1) ?_
  by_cases h : szL szStr a.l left < 0 <;> simp [szLink, h]

theorem szLink_spec {x : D} (hx : Sm smax tLink x) (s : Int) (h0 : 0 ≤ s) (h1 : s ≤ lim) : szLink s x ≤ s ∧ (0 ≤ szLink s x → Sm lim tLink x) := by
  obtain ⟨a, _, rfl, ha, b, _, rfl, hb, c, _, rfl, hc, rfl⟩ := hx
  have := szStrs_spec ha s h0 h1
  by_cases hlt : szL szStr a.l s < 0
  · simp [szLink, hlt]; omega
  · simp only [szLink, D.fld, D.fst_pair, hlt, if_false]
    exact ⟨this.1, fun h => ⟨a, _, rfl, this.2 h, b, _, rfl, hb, c, _, rfl, hc, rfl⟩⟩

theorem sz54 {x : D} {left : Int} (hx : Sm smax tLinks x) (h0 : 0 ≤ left) (h1 : left ≤ lim) : e54.F [x, .int left] = some (.int (szL szLink x.l left)) := by
  obtain ⟨xs, rfl, hl, he⟩ := hx
  have hw := len_wrap h0 h1 hl
  rw [q54]
  by_cases hlt : left - (xs.length : Int) < 0
  · refine rn_if (by simpa [hw] using hlt) ?_
    simp [szL, hlt]
  · refine rn_else (by simpa [hw] using hlt) ?_
    simp only [D.l_lst, D.i_int, hw]
    refine rn_bind (szL_loop (c := szLink) hlt h1 (fun x hx s h1 h2 => (szLink_spec (he x hx) s h1 h2).1) ?_ ?_) ?_
    · intro i s hi h1 h2
      constructor <;> intro hc <;> simp [hi, gd_lt hi, inb_nat hi, wrap_succ hi hl, sz73 (he _ (List.getElem_mem hi)) h1 h2, hc]
    · intro s; simp
    · rcases szN_cases szLink xs left with h | h <;> simp [h]

theorem sz17 {x : D} {left : Int} (hx : Sm smax tChain x) (h0 : 0 ≤ left) (h1 : left ≤ lim) : ∃ r, e17.F [x, .int left] = some (.int r) ∧ (0 ≤ r → Sm lim tChain x) := by
  obtain ⟨a, _, rfl, ⟨xs, rfl, hl, he⟩, rfl⟩ := hx
  rw [q17]
  have hs := szL_spec (c := szLink) (Q := Sm lim tLink) (xs := xs) h1 (fun x hx s h0 h1 => szLink_spec (he x hx) s h0 h1) h0
  by_cases h : szL szLink xs left < 0
  · refine ⟨-1, rn_call (sz54 ⟨xs, rfl, hl, he⟩ h0 h1) ?_, by omega⟩
    simp [h]
  · refine ⟨szL szLink xs left, rn_call (sz54 ⟨xs, rfl, hl, he⟩ h0 h1) ?_, fun h => ⟨.lst xs, .unit, rfl, ⟨xs, rfl, (hs.2 h).1, (hs.2 h).2⟩, rfl⟩⟩
    simp [h]

end Go.Proofs.Ytajcjfickmmjcaa

namespace Go.Proofs.Ytajcjfickmmjcaa
open Go Go.Own

theorem in49 (a b c : Int) : e49.F [.int a, .int b, .int c] = some (.bool (decide (b ≤ a) && decide (a ≤ c))) := by
  rw [q49]
  by_cases h : b ≤ a
  · simp [h] <;> rfl
  · simp [h] <;> rfl
theorem in50 (a b c : Int) : e50.F [.int a, .int b, .int c] = some (.bool (decide (b ≤ a) && decide (a ≤ c))) := by
  rw [q50]
  by_cases h : b ≤ a
  · simp [h] <;> rfl
  · simp [h] <;> rfl

/-- one list of texts is a beginning of the other -/
def beg (a b : List D) : Bool := decide (a.length ≤ b.length) && allN a.length fun i => (gd a i).s == (gd b i).s

theorem beg_alt (a b : List D) : allN a.length (fun i => decide (i < b.length) && ((gd a i).s == (gd b i).s)) = beg a b := by
  unfold beg
  by_cases h : a.length ≤ b.length
  · simp only [h, decide_true, Bool.true_and]
    rw [Bool.eq_iff_iff, allN_true, allN_true]
    constructor
    · intro h2 i hi; have := h2 i hi; simp only [Bool.and_eq_true] at this; exact this.2
    · intro h2 i hi; simp only [show i < b.length by omega, decide_true, Bool.true_and]; exact h2 i hi
  · simp only [h, decide_false, Bool.false_and]
    exact allN_false (k := b.length) (by omega) (by simp)

theorem beg55 {a b : D} (ha : a.l.length ≤ smax) : e55.F [a, b] = some (.bool (beg a.l b.l)) := by
  rw [q55]
  refine rn_bind (loop_all (fun i => [.int i]) a.l.length (fun i => decide (i < b.l.length) && ((gd a.l i).s == (gd b.l i).s)) (t1 := 0) (o1 := []) (t2 := 1) (o2 := []) rfl ?_ ?_ ?_) ?_
  · intro i hi hp
    simp only [Bool.and_eq_true, decide_eq_true_eq] at hp
    simp [hi, inb_nat hi, inb_nat hp.1, wrap_succ hi ha] at *
    simp [hp, Nat.not_le.2 hp.1]
  · intro i hi hp
    by_cases hb : i < b.l.length
    · simp only [hb, decide_true, Bool.true_and] at hp
      simp [hi, inb_nat hi, inb_nat hb, Nat.not_le.2 hb, -beq_eq_false_iff_ne, -beq_iff_eq] at *
      simp [hp]
    · simp [hi, Nat.le_of_not_lt hb]
  · simp
  · rw [beg_alt]
    cases beg a.l b.l <;> rfl

/-- texts of at most twenty bytes -/
def short (a : List D) : Bool := allN a.length fun i => decide ((gd a i).s.length ≤ 20)

theorem con75 {a : D} (ha : a.l.length ≤ smax) : e75.F [a, .unit] = some (.bool (!short a.l)) := by
  rw [q75]
  have h86 : ∃ r : D, e86.F [a, .unit] = some r ∧ decide (r.i ≥ 0) = !short a.l := by
    rw [q86]
    have h76 : ∀ i, i < a.l.length → e76.F [gd a.l i] = some (.bool (decide (((gd a.l i).s.length : Int) > 20))) := by
      intro i hi; rw [q76]; rfl
    refine find_ex (fun i => [.int i]) a.l.length (fun i => decide ((gd a.l i).s.length ≤ 20)) (t1 := 0) (o1 := fun k => [.int k]) (t2 := 1) (o2 := []) rfl ?_ ?_ ?_ (fun h1 => ⟨.int (-1), rfl, by rw [show short a.l = true from allN_true.2 h1]; rfl⟩) (fun k hk h1 _ => ⟨.int k, rfl, by rw [show short a.l = false from allN_false hk h1]; simp⟩)
    · intro i hi hp
      simp only [decide_eq_true_eq] at hp
      have : ¬ ((gd a.l i).s.length : Int) > 20 := by omega
      have h3 := h76 i hi
      simp only [this, decide_false] at h3
      simp [hi, inb_nat hi, wrap_succ hi ha, h3]
    · intro i hi hp
      simp only [decide_eq_false_iff_not] at hp
      have : ((gd a.l i).s.length : Int) > 20 := by omega
      have h3 := h76 i hi
      simp only [this, decide_true] at h3
      simp [hi, inb_nat hi, h3]
    · simp
  obtain ⟨r, h1, h2⟩ := h86
  refine rn_call h1 ?_
  show some (D.bool (decide (r.i ≥ 0))) = _
  rw [h2]

theorem eqs87 {a b : D} (ha : a.l.length ≤ smax) : e87.F [a, b] = some (.bool (decide (a.l.length = b.l.length) && allN a.l.length fun i => (gd a.l i).s == (gd b.l i).s)) := by
  rw [q87]
  by_cases h : a.l.length = b.l.length
  · refine rn_else (by simp [h]) ?_
    refine rn_bind (loop_all (fun i => [.int i]) a.l.length (fun i => (gd a.l i).s == (gd b.l i).s) (t1 := 0) (o1 := []) (t2 := 1) (o2 := []) rfl ?_ ?_ ?_) ?_
    · intro i hi hp
      simp [hi, inb_nat hi, h ▸ inb_nat hi, wrap_succ hi ha] at *
      simp [hp]
    · intro i hi hp
      simp [hi, inb_nat hi, h ▸ inb_nat hi, wrap_succ hi ha] at *
      simp [hp]
    · simp
    · simp only [h, decide_true, Bool.true_and]
      cases allN b.l.length _ <;> rfl
  · refine rn_if (by simp; omega) ?_
    simp [h]

theorem beg77 {a b : D} (ha : a.l.length ≤ smax) : e77.F [a, b] = some (.bool (beg a.l b.l)) := by
  rw [q77]
  by_cases h : a.l.length ≤ b.l.length
  · refine rn_bind (r := (0, [.bool (beg a.l b.l)])) ?_ rfl
    refine out_if (by simpa using h) (out_if (by simp [slOk, h]) (out_call (eqs87 ha) ?_))
    show some (0, [D.bool _]) = some (0, [D.bool _])
    congr 4
    have h2 : ((D.lst ((b.l.take (a.l.length : Int).toNat).drop 0)).l.length) = a.l.length := by simp; omega
    unfold beg
    rw [h2]
    simp only [h, decide_true, Bool.true_and]
    refine allN_congr fun i hi => ?_
    simp [gd_take hi]
  · refine rn_bind (r := (0, [.bool false])) (out_else (by simpa using h) rfl) ?_
    simp [beg, h]

abbrev lg (x : D) : List D := x.fst.l
abbrev sent (x : D) : Int := x.snd.fst.i
abbrev sure (x : D) : Int := x.snd.snd.fst.i
abbrev lk (xs : List D) (i : Nat) : D := gd xs i
attribute [local simp] lg sent sure lk

theorem lk_sm {B : Nat} {t : T} {xs : List D} (h : ∀ x ∈ xs, Sm B t x) {i : Nat} (hi : i < xs.length) : Sm B t (lk xs i) := by
  have : lk xs i = xs[i] := gd_lt hi
  rw [this]; exact h _ (List.getElem_mem hi)

theorem lg_len {B : Nat} {x : D} (h : Sm B tLink x) : (lg x).length ≤ B := by
  obtain ⟨a, _, rfl, ⟨ns, rfl, hl, _⟩, b, _, rfl, hb, c, _, rfl, hc, rfl⟩ := h
  exact hl

def linkP (x : D) : Bool := decide ((lg x).length ≤ 40) && short (lg x)
def linkR (xs : List D) (k : Nat) : Bool :=
  if k + 1 = xs.length then decide (sent (lk xs k) = 0) && decide (sure (lk xs k) = (lg (lk xs k)).length)
  else beg (lg (lk xs (k + 1))) (lg (lk xs k)) && ((decide (0 ≤ sent (lk xs k)) && decide (sent (lk xs k) ≤ (lg (lk xs (k + 1))).length)) &&
    (decide (0 ≤ sure (lk xs k)) && decide (sure (lk xs k) ≤ lesser (lesser (lg (lk xs (xs.length - 1))).length (lg (lk xs k)).length) (sure (lk xs (k + 1))))))
/-- a link of a chain is right, as the program says -/
def linkI (xs : List D) (k : Nat) : Bool := linkP (lk xs k) && linkR xs k

theorem link57 {xs : List D} {k : Nat} (hx : ∀ x ∈ xs, Sm smax tLink x) (hl : xs.length ≤ smax) (hk : k < xs.length) : e57.F [.pair (.lst xs) .unit, .int k] = some (.bool (linkI xs k)) := by
  have hx0 := lg_len (lk_sm hx hk)
  have hsm : (smax : Int) = 9223372036854775807 := rfl
  have hw1 : IntKind.wrap .i64 ((xs.length : Int) - 1) = ((xs.length - 1 : Nat) : Int) := by rw [wrap_id] <;> omega
  have hw2 : IntKind.wrap .i64 ((k : Int) + 1) = ((k + 1 : Nat) : Int) := wrap_succ hk hl
  have hcon := con75 (a := (lk xs k).fld 0) hx0
  rw [q57]
  refine rn_if (by simpa using inb_nat hk) ?_
  refine rn_bind (r := (0, [.bool (!linkP (lk xs k))])) ?_ ?_
  · by_cases h40 : (lg (lk xs k)).length ≤ 40
    · refine out_else (by simp at h40 ⊢; omega) (out_call hcon ?_)
      simp at h40
      simp [linkP, h40]
    · refine out_if (by simp at h40 ⊢; omega) ?_
      simp at h40
      simp [linkP, show ¬ (gd xs k).fst.l.length ≤ 40 by omega]
  unfold linkI
  cases h1 : linkP (lk xs k) with
  | false => rfl
  | true =>
  rw [Bool.true_and]
  simp only [Bool.not_true, gd_zero, D.b_bool, sel2_zero, Bool.false_eq_true, if_false, D.l_lst, D.fld, D.fst_pair, D.snd_pair, D.i_int, Int.toNat_natCast, hw1, hw2]
  unfold linkR
  by_cases hlast : k + 1 = xs.length
  · refine rn_if (by simp; omega) ?_
    rw [if_pos hlast]
    refine rn_bind (r := (0, [.bool (decide (sent (lk xs k) = 0) && decide (sure (lk xs k) = (lg (lk xs k)).length))])) ?_ rfl
    by_cases h0 : sent (lk xs k) = 0
    · refine out_if (by simpa using h0) ?_
      simp at h0
      simp [h0]
      rw [Bool.eq_iff_iff]
      exact ⟨fun h => decide_eq_true (of_decide_eq_true h), fun h => decide_eq_true (of_decide_eq_true h)⟩
    · refine out_else (by simpa using h0) ?_
      simp at h0
      simp [h0]
  · refine rn_else (by simp; omega) ?_
    rw [if_neg hlast]
    have hk1 : k + 1 < xs.length := by omega
    refine rn_if (inb_nat hk1) ?_
    have hb : e77.F [(lk xs (k + 1)).fld 0, (lk xs k).fld 0] = some (.bool (beg (lg (lk xs (k + 1))) (lg (lk xs k)))) := beg77 (lg_len (lk_sm hx hk1))
    refine rn_bind (r := (0, [.bool _])) ?_ rfl
    refine out_call hb ?_
    clear hb
    cases hbeg : beg (lg (lk xs (k + 1))) (lg (lk xs k)) with
    | false => exact out_else (by simp) rfl
    | true =>
      refine out_if rfl (out_call (in50 (sent (lk xs k)) 0 (lg (lk xs (k + 1))).length) ?_)
      cases hs : (decide (0 ≤ sent (lk xs k)) && decide (sent (lk xs k) ≤ (lg (lk xs (k + 1))).length)) with
      | false => exact out_else (by simp) rfl
      | true =>
        refine out_if rfl (out_if (inb_nat (by omega)) (out_call (in50 (sure (lk xs k)) 0 (lesser (lesser (lg (lk xs (xs.length - 1))).length (lg (lk xs k)).length) (sure (lk xs (k + 1))))) ?_))
        rfl

def okLen (xs : List D) : Bool := decide (1 ≤ xs.length) && decide (xs.length ≤ 6)
theorem okLen_int (xs : List D) : (decide ((1 : Int) ≤ xs.length) && decide ((xs.length : Int) ≤ 6)) = okLen xs := by
  unfold okLen; rw [Bool.eq_iff_iff]; simp; omega
def goodI (xs : List D) : Bool := okLen xs && allN xs.length (linkI xs)

theorem good20 {xs : List D} (hl : xs.length ≤ smax) (he : ∀ x ∈ xs, Sm smax tLink x) : e20.F [.pair (.lst xs) .unit] = some (.bool (goodI xs)) := by
  rw [q20]
  refine rn_call (in50 xs.length 1 6) ?_
  rw [okLen_int]
  unfold goodI
  cases h : okLen xs with
  | false => rfl
  | true =>
    refine rn_else (by simp) ?_
    refine rn_bind (loop_all (fun i => [.int i]) xs.length (linkI xs) (t1 := 0) (o1 := []) (t2 := 1) (o2 := []) rfl ?_ ?_ ?_) ?_
    · intro i hi hp
      simp [hi, wrap_succ hi hl, link57 he hl hi, hp]
    · intro i hi hp
      simp [hi, wrap_succ hi hl, link57 he hl hi, hp]
    · simp
    · rw [Bool.true_and]
      cases allN xs.length (linkI xs) <;> rfl

end Go.Proofs.Ytajcjfickmmjcaa

namespace Go.Proofs.Ytajcjfickmmjcaa
open Go Go.Own
attribute [local simp] lg sent sure lk

def linkT (xs : List D) (k : Nat) : Bool :=
  if k + 1 = xs.length then decide (sent (lk xs k) = 0) && decide (sure (lk xs k) = (lg (lk xs k)).length)
  else (decide (0 ≤ sent (lk xs k)) && decide (sent (lk xs k) ≤ (lg (lk xs (k + 1))).length)) &&
    ((decide (0 ≤ sure (lk xs k)) && decide (sure (lk xs k) ≤ (lg (lk xs (xs.length - 1))).length)) && decide (sure (lk xs k) ≤ sure (lk xs (k + 1))))
def linkB (xs : List D) (k : Nat) : Bool := decide ((lg (lk xs k)).length ≤ 40) && (decide (k = 0) || beg (lg (lk xs k)) (lg (lk xs (k - 1))))
/-- a link of a chain is right, as the reference says -/
def linkS (xs : List D) (k : Nat) : Bool := short (lg (lk xs k)) && (linkB xs k && linkT xs k)
def goodS (xs : List D) : Bool := okLen xs && allN xs.length (linkS xs)

theorem good18 {xs : List D} (hl : xs.length ≤ smax) (hx : ∀ x ∈ xs, Sm smax tLink x) : e18.F [.pair (.lst xs) .unit] = some (.bool (goodS xs)) := by
  have hsm : (smax : Int) = 9223372036854775807 := rfl
  rw [q18]
  refine rn_call (in49 xs.length 1 6) ?_
  rw [okLen_int]
  unfold goodS
  cases h : okLen xs with
  | false => rfl
  | true =>
  have hn : 1 ≤ xs.length := by unfold okLen at h; simp at h; omega
  have hw1 : IntKind.wrap .i64 ((xs.length : Int) - 1) = ((xs.length - 1 : Nat) : Int) := by rw [wrap_id] <;> omega
  refine rn_else (by simp) ?_
  simp only [D.l_lst, D.fld, D.fst_pair, D.snd_pair, hw1]
  refine rn_if (inb_nat (by omega)) ?_
  rw [Bool.true_and]
  refine rn_bind (loop_all' (fun i => [.int i]) xs.length (linkS xs) (t1 := 0) (o1 := [.bool false]) (t2 := 1) (o2 := []) rfl ?_ (by simp)) (by cases allN xs.length (linkS xs) <;> rfl)
  intro k hk
  have hlk := lg_len (lk_sm hx hk)
  have hw2 : IntKind.wrap .i64 ((k : Int) + 1) = ((k + 1 : Nat) : Int) := wrap_succ hk hl
  refine out_if (by simpa using hk) ?_
  refine out_bind (r := cond (linkS xs k) (0, []) (1, [.bool false])) ?_ (by cases linkS xs k <;> simp [hw2])
  refine out_if (inb_nat hk) ?_
  refine out_bind (loop_all' (fun i => [.int i]) (lg (lk xs k)).length (fun i => decide ((gd (lg (lk xs k)) i).s.length ≤ 20)) (t1 := 0) (o1 := [.bool false]) (t2 := 1) (o2 := []) rfl ?_ ?_) ?_
  · intro i hi
    refine out_if (by simpa using hi) (out_if (inb_nat hi) ?_)
    by_cases h20 : (gd (lg (lk xs k)) i).s.length ≤ 20
    · refine out_else (by simp at h20 ⊢; omega) ?_
      simp only [h20, decide_true, cond_true, gd_zero, D.i_int, wrap_succ hi hlk]
    · refine out_if (by simp at h20 ⊢; omega) ?_
      simp only [h20, decide_false, cond_false]
  · simp
  unfold linkS
  unfold short
  cases hsh : allN (lg (lk xs k)).length (fun i => decide ((gd (lg (lk xs k)) i).s.length ≤ 20)) with
  | false => rfl
  | true =>
  rw [Bool.true_and]
  refine out_bind (r := (0, [D.bool (!linkB xs k)])) ?_ ?_
  · unfold linkB
    by_cases h40 : (lg (lk xs k)).length ≤ 40
    · refine out_else (by simp at h40 ⊢; omega) ?_
      cases k with
      | zero =>
        refine out_else (by simp) ?_
        simp at h40
        simp [h40]
      | succ j =>
        have hw3 : IntKind.wrap .i64 (((j + 1 : Nat) : Int) - 1) = ((j : Nat) : Int) := by rw [wrap_id] <;> omega
        refine out_if (by simp) ?_
        simp only [gd_zero, D.i_int, hw3]
        refine out_if (inb_nat (by omega)) (out_call (beg55 hlk) ?_)
        simp at h40
        simp [h40]
    · refine out_if (by simp at h40 ⊢; omega) ?_
      simp at h40
      simp [show ¬ (gd xs k).fst.l.length ≤ 40 by omega]
  cases hB : linkB xs k with
  | false => rfl
  | true =>
  rw [Bool.true_and]
  unfold linkT
  by_cases hlast : k + 1 = xs.length
  · rw [if_pos hlast]
    refine out_if (by simp; omega) ?_
    refine out_bind (r := (0, [D.bool (!(decide (sent (lk xs k) = 0) && decide (sure (lk xs k) = (lg (lk xs k)).length)))])) ?_ ?_
    · by_cases h0 : sent (lk xs k) = 0
      · refine out_else (by simpa using h0) ?_
        simp only [h0, decide_true, Bool.true_and]
        show some (0, [D.bool _]) = some (0, [D.bool _])
        congr 4
      · refine out_if (by simpa using h0) ?_
        simp only [h0, decide_false, Bool.false_and]
        rfl
    · cases (decide (sent (lk xs k) = 0) && decide (sure (lk xs k) = (lg (lk xs k)).length)) <;> rfl
  · rw [if_neg hlast]
    refine out_else (by simp; omega) ?_
    have hk1 : k + 1 < xs.length := by omega
    simp only [gd_zero, D.i_int, hw2]
    refine out_bind (r := (0, [D.bool (!((decide (0 ≤ sent (lk xs k)) && decide (sent (lk xs k) ≤ (lg (lk xs (k + 1))).length)) &&
      ((decide (0 ≤ sure (lk xs k)) && decide (sure (lk xs k) ≤ (lg (lk xs (xs.length - 1))).length)) && decide (sure (lk xs k) ≤ sure (lk xs (k + 1))))))])) (out_if (inb_nat hk1) (out_call (in49 (sent (lk xs k)) 0 (lg (lk xs (k + 1))).length) ?_)) ?_
    · cases (decide (0 ≤ sent (lk xs k)) && decide (sent (lk xs k) ≤ (lg (lk xs (k + 1))).length)) with
      | false => rfl
      | true =>
        refine out_else (by simp) (out_call (in49 (sure (lk xs k)) 0 (lg (lk xs (xs.length - 1))).length) ?_)
        cases (decide (0 ≤ sure (lk xs k)) && decide (sure (lk xs k) ≤ (lg (lk xs (xs.length - 1))).length)) with
        | false => rfl
        | true =>
          refine out_else (by simp) ?_
          show some (0, [D.bool _]) = some (0, [D.bool _])
          congr 4
          by_cases h1 : sure (lk xs k) ≤ sure (lk xs (k + 1)) <;> simp at h1 <;> simp [h1]
    · generalize ((decide (0 ≤ sent (lk xs k)) && decide (sent (lk xs k) ≤ (lg (lk xs (k + 1))).length)) &&
        ((decide (0 ≤ sure (lk xs k)) && decide (sure (lk xs k) ≤ (lg (lk xs (xs.length - 1))).length)) && decide (sure (lk xs k) ≤ sure (lk xs (k + 1))))) = b
      cases b <;> rfl

theorem beg_len {a b : List D} (h : beg a b = true) : a.length ≤ b.length := by
  unfold beg at h; simp only [Bool.and_eq_true, decide_eq_true_eq] at h; exact h.1

theorem le_lesser {a b c : Int} : a ≤ lesser b c ↔ a ≤ b ∧ a ≤ c := by
  unfold lesser; split <;> omega

theorem tail_len {xs : List D} (h : ∀ k, k + 1 < xs.length → (lg (lk xs (k + 1))).length ≤ (lg (lk xs k)).length) : ∀ m k, m + k + 1 = xs.length → (lg (lk xs (xs.length - 1))).length ≤ (lg (lk xs k)).length
  | 0, k, hk => by rw [show xs.length - 1 = k by omega]; exact Nat.le_refl _
  | m + 1, k, hk => Nat.le_trans (tail_len h m (k + 1) (by omega)) (h k (by omega))

theorem good_eq (xs : List D) : goodS xs = goodI xs := by
  unfold goodS goodI
  congr 1
  rw [Bool.eq_iff_iff, allN_true, allN_true]
  constructor
  · intro h k hk
    have hk' := h k hk
    simp only [linkS, linkB, linkT, linkI, linkP, linkR, Bool.and_eq_true, Bool.or_eq_true, decide_eq_true_eq] at hk' ⊢
    have hbeg : ∀ j, j + 1 < xs.length → beg (lg (lk xs (j + 1))) (lg (lk xs j)) = true := by
      intro j hj
      have := h (j + 1) hj
      simp only [linkS, linkB, Bool.and_eq_true, Bool.or_eq_true, decide_eq_true_eq] at this
      rcases this.2.1.2 with h | h
      · omega
      · exact h
    refine ⟨⟨hk'.2.1.1, hk'.1⟩, ?_⟩
    have h3 := hk'.2.2
    by_cases hl : k + 1 = xs.length
    · rw [if_pos hl] at h3 ⊢; exact h3
    · rw [if_neg hl] at h3 ⊢
      simp only [Bool.and_eq_true, decide_eq_true_eq] at h3 ⊢
      have ht := tail_len (fun j hj => beg_len (hbeg j hj)) (xs.length - k - 1) k (by omega)
      refine ⟨hbeg k (by omega), h3.1, h3.2.1.1, ?_⟩
      rw [le_lesser, le_lesser]
      omega
  · intro h k hk
    have hk' := h k hk
    simp only [linkS, linkB, linkT, linkI, linkP, linkR, Bool.and_eq_true, Bool.or_eq_true, decide_eq_true_eq] at hk' ⊢
    refine ⟨hk'.1.2, ⟨hk'.1.1, ?_⟩, ?_⟩
    · cases k with
      | zero => exact .inl rfl
      | succ j =>
        right
        have := h j (by omega)
        simp only [linkI, linkR, Bool.and_eq_true] at this
        have h2 := this.2
        rw [if_neg (by omega)] at h2
        simp only [Bool.and_eq_true] at h2
        exact h2.1
    · have h3 := hk'.2
      by_cases hl : k + 1 = xs.length
      · rw [if_pos hl] at h3 ⊢; exact h3
      · rw [if_neg hl] at h3 ⊢
        simp only [Bool.and_eq_true, decide_eq_true_eq, le_lesser] at h3 ⊢
        exact ⟨h3.2.1, ⟨h3.2.2.1, h3.2.2.2.1.1⟩, h3.2.2.2.2⟩

/-- the law of GoodChain -/
theorem law4 {x : D} (hx : Sm smax tChain x) : e4.F [x] = some (.bool true) := by
  obtain ⟨r, h1, h2⟩ := sz17 hx (left := 1048576) (by decide) (by decide)
  rw [q4]
  refine rn_call h1 ?_
  by_cases hr : r < 0
  · exact rn_if (decide_eq_true hr) rfl
  refine rn_else (fun h => hr (of_decide_eq_true h)) ?_
  have hs := h2 (by omega)
  have ht := to19 hs
  obtain ⟨_, _, hxx, ⟨xs, rfl, hl, he⟩, rfl⟩ := id hx
  refine rn_call ht ?_
  rw [hxx] at ht hx ⊢
  refine rn_call (good18 hl he) (rn_call ht (rn_call (good20 hl he) ?_))
  rw [good_eq]
  refine rn_else (by simp) (rn_call ht (rn_call (eq14 hx) ?_))
  rfl
end Go.Proofs.Ytajcjfickmmjcaa

namespace Go.Proofs.Ytajcjfickmmjcaa
open Go Go.Own Go.ChangeShapes Go.WideShapes Go.ChangeAt Go.RowKit
theorem Try.own : ownKnob Try.prog.godebug = none := by kernel_rfl
theorem Try.laidOut : laidOutB Try.prog = true := by kernel_rfl

set_option maxRecDepth 100000 in
theorem row4 (os : Os) (started : os.Started) (H : Type) (enc : TypeId × Value → H) :
    ReturnsInHanded {} Try.checked os 4 .any (Rows.fnExactGoodChainSpec.pre6 enc Try.prog Try.f4 Rows.fnExactGoodChainRow.domain false) (Rows.fnExactGoodChainSpec.post enc Try.prog Try.f4 false true false false) := by
  refine returnsInHanded_of_change (C := Try.checked) Try.own started (by kernel_rfl) Try.func4
    (ChangeSpec.witness6 (enc := enc) (C := Try.checked) false ⟨#[], #[.agg #[.slice none 0 0]], []⟩ 8 (by kernel_rfl) (by kernel_rfl) (by kernel_rfl) (by kernel_rfl)) ?_
  intro W base args ds gs before h1 h2 _ _
  refine law_row (envC (fun _ => []) 0 []) Try.laidOut ok4 rfl rfl rfl rfl ?_ ?_ ?_ rfl Try.underlying4 ?_ W base args ds gs before h1 h2
  · intro ds hl
    match ds, hl with
    | [d], _ => rfl
  · intro t ht
    rw [Try.params4] at ht
    simp at ht
    subst ht
    exact ⟨⟨by kernel_rfl, by kernel_rfl⟩, by kernel_rfl, of_decide_eq_true (by kernel_rfl)⟩
  · rw [Try.params4]; kernel_rfl
  · intro ds hl hw
    match ds, hl with
    | [d], _ => exact law4 (WT.sm (hw 0 _ d rfl rfl))

set_option maxRecDepth 100000 in
theorem goodChain_holds : Rows.FnExactGoodChainSaid :=
  OpenClaim.holds_of_wide 4 Try.f4 rfl rfl rfl rfl rfl rfl rfl ⟨rfl, rfl, rfl, rfl, rfl⟩ rfl rfl rfl rfl rfl (by kernel_rfl) Try.func4 (by kernel_rfl)
    (of_decide_eq_true (by kernel_rfl)) (by unfold Func.isWrapper; first | (rw [if_pos (by decide +kernel)]; kernel_rfl) | (rw [if_neg (by decide +kernel)]; exact ⟨rfl, rfl⟩))
    (fun os started H enc _ => row4 os started H enc)
end Go.Proofs.Ytajcjfickmmjcaa
