/- What the functions compute, in plain words. -/
import Derived.Test.YtbpfkhhacafcpaaGreatDoorP5
set_option linter.unusedSectionVars false
set_option linter.unusedVariables false
set_option linter.unusedSimpArgs false
namespace Go.Proofs.YtbpfkhhacafcpaaGreatDoor
open Go Go.Own
def fst (q : Nat → Bool) : Nat → Int
  | 0 => -1
  | i + 1 => if fst q i < 0 then (if q i then (i : Int) else -1) else fst q i
theorem fst_facts (q : Nat → Bool) : ∀ n, (fst q n = -1 ∧ ∀ i, i < n → q i = false) ∨ ∃ k : Nat, fst q n = k ∧ k < n ∧ q k = true ∧ ∀ i, i < k → q i = false
  | 0 => .inl ⟨rfl, fun i hi => by omega⟩
  | n + 1 => by
    rcases fst_facts q n with ⟨h1, h2⟩ | ⟨k, h1, h2, h3, h4⟩
    · cases hq : q n with
      | false =>
        refine .inl ⟨by simp [fst, h1, hq], fun i hi => ?_⟩
        by_cases h : i = n
        · subst h; exact hq
        · exact h2 i (by omega)
      | true => exact .inr ⟨n, by simp [fst, h1, hq], by omega, hq, h2⟩
    · refine .inr ⟨k, ?_, by omega, h3, h4⟩
      have : ¬ (fst q n < 0) := by rw [h1]; omega
      rw [fst, if_neg this, h1]
theorem fst_none {q : Nat → Bool} {n : Nat} (h : ∀ i, i < n → q i = false) : fst q n = -1 := by
  rcases fst_facts q n with ⟨h1, _⟩ | ⟨k, _, h2, h3, _⟩
  · exact h1
  · rw [h k h2] at h3; cases h3
theorem fst_some {q : Nat → Bool} {n k : Nat} (hk : k < n) (h : q k = true) (hn : ∀ i, i < k → q i = false) : fst q n = k := by
  rcases fst_facts q n with ⟨_, h2⟩ | ⟨j, h1, h2, h3, h4⟩
  · rw [h2 k hk] at h; cases h
  · have : j = k := by
      rcases Nat.lt_trichotomy j k with hjk | hjk | hjk
      · rw [hn j hjk] at h3; cases h3
      · exact hjk
      · rw [h4 k hjk] at h; cases h
    subst this; exact h1
def bd (l : List Bool) : D := .lst (l.map .bool)
def cold (c : Int × Int) : D := .pair (.int c.1) (.pair (.int c.2) .unit)
def cd (l : List (Int × Int)) : D := .lst (l.map cold)
theorem gd_bd {l : List Bool} {i : Nat} (h : i < l.length) : gd (l.map D.bool) i = .bool l[i] := by
  rw [gd_lt (by simpa using h)]; simp
theorem gd_cd {l : List (Int × Int)} {i : Nat} (h : i < l.length) : gd (l.map cold) i = cold l[i] := by
  rw [gd_lt (by simpa using h)]; simp
def lowQ (T : Int) (left : List Int) (done : List Bool) (i : Nat) : Bool := !(done.getD i false) && decide (left.getD i 0 < T)
def highQ (T : Int) (left : List Int) (done : List Bool) (i : Nat) : Bool := !(done.getD i false) && decide (left.getD i 0 > T)
def specScan (T : D) (left done : D) : List D → Outc := fun l8 =>
              if (decide ((gd l8 2).i < (left.l.length : Int))) then
                (if (inb (gd l8 2).i done.l.length) then
                  if (gd done.l (gd l8 2).i.toNat).b then
                    ou 0 [(gd l8 0), (gd l8 1)]
                  else
                    ((if (inb (gd l8 2).i left.l.length) then
                        if (decide ((gd left.l (gd l8 2).i.toNat).i < T.i)) then
                          ou 0 [(.bool (decide ((gd l8 0).i < 0)))]
                        else
                          ou 0 [(.bool false)]
                        else none).bind fun o11 =>
                      sel2 o11.1 (if (gd o11.2 0).b then
                          ou 0 [(gd l8 2)]
                        else
                          ou 0 [(gd l8 0)]) fun _ => none).bind fun o11 =>
                    sel2 o11.1 ((if (inb (gd l8 2).i left.l.length) then
                        if (decide ((gd left.l (gd l8 2).i.toNat).i > T.i)) then
                          ou 0 [(.bool (decide ((gd l8 1).i < 0)))]
                        else
                          ou 0 [(.bool false)]
                        else none).bind fun o12 =>
                      sel2 o12.1 (if (gd o12.2 0).b then
                          ou 0 [(gd o11.2 0), (gd l8 2)]
                        else
                          ou 0 [(gd o11.2 0), (gd l8 1)]) fun _ => none) fun _ => none
                  else none).bind fun o11 =>
                sel2 o11.1 (ou 0 [(gd o11.2 0), (gd o11.2 1), (.int (IntKind.wrap .i64 ((gd l8 2).i + 1)))]) fun _ => none
              else
                ou 1 [(gd l8 0), (gd l8 1)]
theorem fst_neg {q : Nat → Bool} {n : Nat} (h : fst q n < 0) : fst q n = -1 := by
  rcases fst_facts q n with ⟨h1, _⟩ | ⟨k, h1, _⟩
  · exact h1
  · rw [h1] at h; omega
theorem half1 {i len : Nat} (hi : i < len) {A : Int} (hA : A < 0 → A = -1) (c : Bool) : ((if (inb (i : Int) len) then
                        if c then
                          ou 0 [(.bool (decide (A < 0)))]
                        else
                          ou 0 [(.bool false)]
                        else none).bind fun o11 : Nat × List D =>
                      sel2 o11.1 (if (gd o11.2 0).b then
                          ou 0 [.int (i : Int)]
                        else
                          ou 0 [.int A]) fun _ => none : Outc) = some (0, [.int (if A < 0 then (if c then (i : Int) else -1) else A)]) := by
  rw [if_pos (inb_nat hi)]
  by_cases h : A < 0
  · have := hA h
    subst this
    cases c <;> simp [ou, sel2, gd]
  · cases c <;> simp [ou, sel2, gd, h]
theorem half2 {i len : Nat} (hi : i < len) {B : Int} (hB : B < 0 → B = -1) (c : Bool) (x : D) : ((if (inb (i : Int) len) then
                        if c then
                          ou 0 [(.bool (decide (B < 0)))]
                        else
                          ou 0 [(.bool false)]
                        else none).bind fun o11 : Nat × List D =>
                      sel2 o11.1 (if (gd o11.2 0).b then
                          ou 0 [x, .int (i : Int)]
                        else
                          ou 0 [x, .int B]) fun _ => none : Outc) = some (0, [x, .int (if B < 0 then (if c then (i : Int) else -1) else B)]) := by
  rw [if_pos (inb_nat hi)]
  by_cases h : B < 0
  · have := hB h
    subst this
    cases c <;> simp [ou, sel2, gd]
  · cases c <;> simp [ou, sel2, gd, h]
theorem specScan_is {T : Int} {left : List Int} {done : List Bool} (hd : done.length = left.length) (hl : left.length ≤ 12) :
    loopF (specScan (.int T) (nd left) (bd done)) [.int (-1), .int (-1), .int 0] = some (0, [.int (fst (lowQ T left done) left.length), .int (fst (highQ T left done) left.length)]) := by
  have hsm : left.length ≤ smax := by have : smax = 9223372036854775807 := rfl; omega
  refine loop_for' (fun i (_ : Unit) => [.int (fst (lowQ T left done) i), .int (fst (highQ T left done) i), .int i]) left.length (fun _ => ()) (t := 0) (o := [.int (fst (lowQ T left done) left.length), .int (fst (highQ T left done) left.length)]) rfl ?_ ?_
  · intro i hi
    have hid : i < done.length := by omega
    have q1 : lowQ T left done i = (!done[i] && decide (left[i] < T)) := by simp [lowQ, hi, hid]
    have q2 : highQ T left done i = (!done[i] && decide (left[i] > T)) := by simp [highQ, hi, hid]
    unfold specScan
    simp only [gd_zero, gd_one, gd_two, nd, bd, D.l_lst, D.i_int, Int.toNat_natCast, gd_nd hi, gd_bd hid, List.length_map, wrap_succ hi hsm, fst, q1, q2]
    have hA := fun h => fst_neg (q := lowQ T left done) (n := i) h
    have hB := fun h => fst_neg (q := highQ T left done) (n := i) h
    generalize fst (lowQ T left done) i = A at hA
    generalize fst (highQ T left done) i = B at hB
    refine out_if (decide_eq_true (by omega)) (out_bind (r := (0, [.int (if A < 0 then (if (!done[i] && decide (left[i] < T)) = true then (i : Int) else -1) else A), .int (if B < 0 then (if (!done[i] && decide (left[i] > T)) = true then (i : Int) else -1) else B)])) (out_if (inb_nat hid) ?_) rfl)
    cases hdn : done[i] with
    | true =>
      refine out_if rfl ?_
      by_cases h1 : A < 0 <;> by_cases h2 : B < 0
      · rw [hA h1, hB h2]; rfl
      · rw [hA h1]; simp [h2]
      · rw [hB h2]; simp [h1]
      · simp [h1, h2]
    | false =>
      refine out_else (by simp) (out_bind (half1 hi hA _) ?_)
      exact half2 hi hB _ _
  · unfold specScan
    exact out_else (by simp [nd]) rfl
end Go.Proofs.YtbpfkhhacafcpaaGreatDoor
namespace Go.Proofs.YtbpfkhhacafcpaaGreatDoor
open Go Go.Own
def sumN (f : Nat → Int) : Nat → Int
  | 0 => 0
  | i + 1 => sumN f i + f i
theorem sumN_one {f g : Nat → Int} {a : Nat} (h : ∀ i, i ≠ a → g i = f i) : ∀ n, sumN g n = sumN f n + if a < n then g a - f a else 0
  | 0 => by simp [sumN]
  | n + 1 => by
    rw [sumN, sumN, sumN_one h n]
    by_cases hn : n = a
    · subst hn
      rw [if_neg (Nat.lt_irrefl _), if_pos (Nat.lt_succ_self _)]; omega
    · rw [h n hn]
      by_cases ha : a < n
      · rw [if_pos ha, if_pos (by omega)]; omega
      · rw [if_neg ha, if_neg (by omega)]; omega
theorem sumN_neg {f : Nat → Int} {n k : Nat} (h : ∀ i, i < n → f i ≤ 0) (hk : k < n) (hf : f k < 0) : sumN f n < 0 := by
  have le : ∀ m, m ≤ n → sumN f m ≤ 0 := by
    intro m
    induction m with
    | zero => intro _; exact Int.le_refl _
    | succ m ih => intro hm; have h1 := ih (by omega); have h2 := h m (by omega); rw [sumN]; omega
  have key : ∀ m, m ≤ n → k < m → sumN f m < 0 := by
    intro m
    induction m with
    | zero => intro _ h; omega
    | succ m ih =>
      intro hm hkm
      rw [sumN]
      by_cases hk' : k = m
      · subst hk'; have := le k (by omega); omega
      · have := ih (by omega) (by omega); have := h m (by omega); omega
  exact key n (Nat.le_refl _) hk
theorem sumN_congr {f g : Nat → Int} : ∀ n, (∀ i, i < n → f i = g i) → sumN f n = sumN g n
  | 0, _ => rfl
  | n + 1, h => by rw [sumN, sumN, sumN_congr n fun i hi => h i (by omega), h n (by omega)]
def exc (T : Int) (left : List Int) (done : List Bool) (i : Nat) : Int := if done.getD i false then 0 else left.getD i 0 - T
structure Al (T : Int) (n : Nat) (left : List Int) (done : List Bool) (cols : List (Int × Int)) : Prop where
  ll : left.length = n
  dl : done.length = n
  cl : cols.length = n
  n12 : n ≤ 12
  t0 : 0 ≤ T ∧ T ≤ 10000
  lo : ∀ i, i < n → 0 ≤ left.getD i 0 ∧ left.getD i 0 ≤ 10000
  dn : ∀ i, i < n → done.getD i false = true → left.getD i 0 < T
  co : ∀ c ∈ cols, (0 ≤ c.1 ∧ c.1 ≤ T) ∧ 0 ≤ c.2 ∧ c.2 < n
  sm : sumN (exc T left done) n = 0
theorem getD_set {α : Type} {l : List α} {i j : Nat} {x d : α} (hi : i < l.length) : (l.set i x).getD j d = if j = i then x else l.getD j d := by
  rw [List.getD_eq_getElem?_getD, List.getD_eq_getElem?_getD]
  by_cases h : j = i
  · subst h; simp [hi]
  · rw [if_neg h, List.getElem?_set_ne (fun e => h e.symm)]
theorem Al.high {T n left done cols} (h : Al T n left done cols) {k : Nat} (hk : k < n) (hq : lowQ T left done k = true) : ∃ j : Nat, fst (highQ T left done) n = j ∧ j < n ∧ highQ T left done j = true ∧ ∀ i, i < j → highQ T left done i = false := by
  rcases fst_facts (highQ T left done) n with ⟨_, h2⟩ | ⟨j, h1, h2, h3, h4⟩
  · simp only [lowQ, Bool.and_eq_true, Bool.not_eq_true', decide_eq_true_eq] at hq
    have := sumN_neg (f := exc T left done) (n := n) (k := k) (fun i hi => by
      have := h2 i hi
      unfold exc
      cases hd : done.getD i false with
      | true => simp
      | false =>
        simp only [highQ, hd, Bool.not_false, Bool.true_and, decide_eq_false_iff_not] at this
        simp only [Bool.false_eq_true, if_false]
        omega) hk (by unfold exc; rw [hq.1]; simp only [Bool.false_eq_true, if_false]; omega)
    rw [h.sm] at this
    omega
  · exact ⟨j, h1, h2, h3, h4⟩
theorem Al.next {T n left done cols} (h : Al T n left done cols) {k j : Nat} (hk : k < n) (hq : lowQ T left done k = true) (hj : j < n) (hqj : highQ T left done j = true) :
    Al T n (left.set j (left.getD j 0 - (T - left.getD k 0))) (done.set k true) (cols.set k (left.getD k 0, (j : Int))) := by
  simp only [lowQ, highQ, Bool.and_eq_true, Bool.not_eq_true', decide_eq_true_eq] at hq hqj
  have hne : k ≠ j := by intro e; subst e; omega
  have hkl := h.lo k hk
  have hjl := h.lo j hj
  have hlj : j < left.length := by rw [h.ll]; exact hj
  have hdk : k < done.length := by rw [h.dl]; exact hk
  refine ⟨by simp [h.ll], by simp [h.dl], by simp [h.cl], h.n12, h.t0, ?_, ?_, ?_, ?_⟩
  · intro i hi
    rw [getD_set hlj]
    by_cases hij : i = j
    · rw [if_pos hij]; omega
    · rw [if_neg hij]; exact h.lo i hi
  · intro i hi hd
    rw [getD_set hdk] at hd
    rw [getD_set hlj]
    by_cases hik : i = k
    · subst hik; rw [if_neg hne]; exact hq.2
    · rw [if_neg hik] at hd
      by_cases hij : i = j
      · subst hij; rw [hqj.1] at hd; cases hd
      · rw [if_neg hij]; exact h.dn i hi hd
  · intro c hc
    rcases List.mem_or_eq_of_mem_set hc with hc | hc
    · exact h.co c hc
    · subst hc
      exact ⟨⟨hkl.1, by show left.getD k 0 ≤ T; omega⟩, by show 0 ≤ (j : Int); omega, by show (j : Int) < n; omega⟩
  · have e1 := sumN_one (f := exc T left done) (g := exc T left (done.set k true)) (a := k) (fun i hi => by unfold exc; rw [getD_set hdk, if_neg hi]) n
    have e2 := sumN_one (f := exc T left (done.set k true)) (g := exc T (left.set j (left.getD j 0 - (T - left.getD k 0))) (done.set k true)) (a := j) (fun i hi => by unfold exc; rw [getD_set hlj, if_neg hi]) n
    rw [e2, e1, h.sm, if_pos hk, if_pos hj]
    have hdj : (done.set k true).getD j false = false := by
      rw [getD_set hdk, if_neg (fun e => hne e.symm)]; exact hqj.1
    have d1 : exc T left (done.set k true) k = 0 := by unfold exc; rw [getD_set hdk, if_pos rfl]; rfl
    have d2 : exc T left done k = left.getD k 0 - T := by unfold exc; rw [hq.1]; rfl
    have d3 : exc T (left.set j (left.getD j 0 - (T - left.getD k 0))) (done.set k true) j = left.getD j 0 - (T - left.getD k 0) - T := by
      unfold exc
      rw [hdj, getD_set hlj, if_pos rfl]; rfl
    have d4 : exc T left (done.set k true) j = left.getD j 0 - T := by
      unfold exc
      rw [hdj]; rfl
    rw [d1, d2, d3, d4]; omega
theorem count_set_true {l : List Bool} {k : Nat} (hk : k < l.length) (h : l.getD k false = false) : (l.set k true).count false + 1 = l.count false := by
  have h' : l[k] = false := by simpa [hk] using h
  have hm : false ∈ l := h' ▸ List.getElem_mem hk
  rw [List.count_set hk]
  have : 0 < l.count false := List.count_pos_iff.2 hm
  simp [h']; omega
end Go.Proofs.YtbpfkhhacafcpaaGreatDoor
namespace Go.Proofs.YtbpfkhhacafcpaaGreatDoor
open Go Go.Own
noncomputable def specRound (T : D) : List D → Outc := fun l5 =>
          (loopF (specScan T (gd l5 0) (gd l5 1)) [(.int (-1)), (.int (-1)), (.int 0)]).bind fun o8 =>
          sel2 o8.1 ((if (decide ((gd o8.2 0).i < 0)) then
                ou 0 [(.bool true)]
              else
                ou 0 [(.bool (decide ((gd o8.2 1).i < 0)))]).bind fun o10 =>
            sel2 o10.1 (if (gd o10.2 0).b then
                ou 1 [(gd l5 2), (.bool true)]
              else
                if (inb (gd o8.2 0).i (gd l5 0).l.length) then
                if (inb (gd o8.2 0).i (gd l5 2).l.length) then
                if (inb (gd o8.2 1).i (gd l5 0).l.length) then
                if (inb (gd o8.2 0).i (gd l5 1).l.length) then
                ou 0 [(D.lst ((gd l5 0).l.set (gd o8.2 1).i.toNat (.int (IntKind.wrap .i64 ((gd (gd l5 0).l (gd o8.2 1).i.toNat).i - (IntKind.wrap .i64 (T.i - (gd (gd l5 0).l (gd o8.2 0).i.toNat).i))))))), (D.lst ((gd l5 1).l.set (gd o8.2 0).i.toNat (.bool true))), (D.lst ((gd l5 2).l.set (gd o8.2 0).i.toNat (.pair (gd (gd l5 0).l (gd o8.2 0).i.toNat) (.pair (gd o8.2 1) .unit))))]
                else none
                else none
                else none
                else none) fun _ => none) fun _ => none
def implScan (T : D) (left done : D) : List D → Outc := fun l7 =>
            if (decide ((gd l7 0).i < (left.l.length : Int))) then
              if (inb (gd l7 0).i left.l.length) then
              (if (inb (gd l7 0).i done.l.length) then
                if (!(gd done.l (gd l7 0).i.toNat).b) then
                  ou 0 [(.bool (decide ((gd left.l (gd l7 0).i.toNat).i < T.i)))]
                else
                  ou 0 [(.bool false)]
                else none).bind fun o8 =>
              sel2 o8.1 (if (gd o8.2 0).b then
                  ou 1 [(gd l7 0)]
                else
                  ou 0 [(.int (IntKind.wrap .i64 ((gd l7 0).i + 1)))]) fun _ => none
              else none
            else
              ou 1 [(.int (-1))]
noncomputable def implRound (T : D) : List D → Outc := fun l4 =>
        (loopF (implScan T (gd l4 0) (gd l4 2)) [(.int 0)]).bind fun o7 =>
        sel2 o7.1 (if (decide ((gd o7.2 0).i < 0)) then
            ou 1 [(gd l4 1)]
          else
            (e_slices_IndexFunc_int_int__impl_aliasOf_1.F [(gd l4 0), (.pair T .unit)]).bind fun r8 =>
            if (inb (gd o7.2 0).i (gd l4 0).l.length) then
            if (inb (gd o7.2 0).i (gd l4 1).l.length) then
            if (inb r8.i (gd l4 0).l.length) then
            if (inb (gd o7.2 0).i (gd l4 2).l.length) then
            ou 0 [(D.lst ((gd l4 0).l.set r8.i.toNat (.int (IntKind.wrap .i64 ((gd (gd l4 0).l r8.i.toNat).i - (IntKind.wrap .i64 (T.i - (gd (gd l4 0).l (gd o7.2 0).i.toNat).i))))))), (D.lst ((gd l4 1).l.set (gd o7.2 0).i.toNat (.pair (gd (gd l4 0).l (gd o7.2 0).i.toNat) (.pair r8 .unit)))), (D.lst ((gd l4 2).l.set (gd o7.2 0).i.toNat (.bool true)))]
            else none
            else none
            else none
            else none) fun _ => none
theorem out_bind0 {o : Outc} {l : List D} {A : Nat × List D → Outc} {B : Nat × List D → Nat → Outc} {R : Option (Nat × List D)} (h : o = some (0, l)) (hk : A (0, l) = R) : (o.bind fun o => sel2 o.1 (A o) (B o)) = R := by
  rw [h]; exact hk
theorem implScan_is {T : Int} {left : List Int} {done : List Bool} (hd : done.length = left.length) (hl : left.length ≤ 12) :
    loopF (implScan (.int T) (nd left) (bd done)) [.int 0] = some (0, [.int (fst (lowQ T left done) left.length)]) := by
  have hsm : left.length ≤ smax := by have : smax = 9223372036854775807 := rfl; omega
  have step : ∀ i, i < left.length → (if (inb (i : Int) (done.map D.bool).length) then
                if (!(gd (done.map D.bool) i).b) then
                  ou 0 [(.bool (decide ((gd (left.map D.int) i).i < T)))]
                else
                  ou 0 [(.bool false)]
                else none) = some (0, [.bool (lowQ T left done i)]) := by
    intro i hi
    have hid : i < done.length := by omega
    rw [if_pos (inb_nat (by simpa using hid)), gd_bd hid, gd_nd hi]
    cases hdn : done[i] with
    | true => simp [lowQ, hi, hid, hdn, ou]
    | false =>
      simp [lowQ, hi, hid, hdn, ou]
      rfl
  rcases loop_find (f := implScan (.int T) (nd left) (bd done)) (l := [.int 0]) (fun i => [.int i]) left.length (fun i => !(lowQ T left done i)) (t1 := 0) (t2 := 0) (o1 := fun i => [.int i]) (o2 := [.int (-1)]) rfl
    (by intro i hi hp
        have h2 : lowQ T left done i = false := by simpa using hp
        have st := step i hi
        rw [h2] at st
        unfold implScan
        simp only [gd_zero, nd, bd, D.l_lst, D.i_int, Int.toNat_natCast, wrap_succ hi hsm]
        exact out_if (decide_eq_true (by simp [hi])) (out_if (inb_nat (by simpa using hi)) (out_bind st rfl)))
    (by intro i hi hp
        have h2 : lowQ T left done i = true := by simpa using hp
        have st := step i hi
        rw [h2] at st
        unfold implScan
        simp only [gd_zero, nd, bd, D.l_lst, D.i_int, Int.toNat_natCast]
        exact out_if (decide_eq_true (by simp [hi])) (out_if (inb_nat (by simpa using hi)) (out_bind st rfl)))
    (by unfold implScan; exact out_else (by simp [nd]) rfl) with ⟨ha, hloop⟩ | ⟨k, hk, hp, hn, hloop⟩
  · rw [hloop, fst_none fun i hi => by simpa using ha i hi]
  · rw [hloop, fst_some hk (by simpa using hp) fun i hi => by simpa using hn i hi]
theorem f_indexMore {T : Int} {left : List Int} (hl : left.length ≤ 12) : e_slices_IndexFunc_int_int__impl_aliasOf_1.F [nd left, .pair (.int T) .unit] = some (.int (fst (fun i => decide (left.getD i 0 > T)) left.length)) := by
  have hsm : left.length ≤ smax := by have : smax = 9223372036854775807 := rfl; omega
  have f0 : (D.pair (.int T) .unit).fld 0 = .int T := rfl
  rw [q_slices_IndexFunc_int_int__impl_aliasOf_1, f0]
  have k1 : ∀ n : Int, e_impl_aliasOf_1.F [.int n, .int T] = some (.bool (decide (n > T))) := by
    intro n; rw [q_impl_aliasOf_1]; rfl
  rcases loop_find (f := fun l2 =>
      if (decide ((gd l2 0).i < (((nd left).l.length : Nat) : Int))) then
        if (inb (gd l2 0).i (nd left).l.length) then
        (e_impl_aliasOf_1.F [(gd (nd left).l (gd l2 0).i.toNat), (.int T)]).bind fun r3 =>
        if r3.b then
          ou 1 [(gd l2 0)]
        else
          ou 0 [(.int (IntKind.wrap .i64 ((gd l2 0).i + 1)))]
        else none
      else
        ou 2 []) (l := [.int 0]) (fun i => [.int i]) left.length (fun i => !(decide (left.getD i 0 > T))) (t1 := 0) (t2 := 1) (o1 := fun i => [.int i]) (o2 := []) rfl
    (by intro i hi hp
        have h2 : decide (left[i] > T) = false := by simpa [hi] using hp
        have st := k1 left[i]
        rw [h2] at st
        simp [hi, nd, gd_nd hi, inb_nat hi, wrap_succ hi hsm, st])
    (by intro i hi hp
        have h2 : decide (left[i] > T) = true := by simpa [hi] using hp
        have st := k1 left[i]
        rw [h2] at st
        simp [hi, nd, gd_nd hi, inb_nat hi, st])
    (by simp [nd]) with ⟨ha, hloop⟩ | ⟨k, hk, hp, hn, hloop⟩
  · refine rn_bind hloop ?_
    rw [fst_none fun i hi => by simpa using ha i hi]; rfl
  · refine rn_bind hloop ?_
    rw [fst_some hk (by simpa using hp) fun i hi => by simpa using hn i hi]; rfl
theorem Al.more {T n left done cols} (h : Al T n left done cols) {j : Nat} (hj : j < n) (hq : highQ T left done j = true) (hn : ∀ i, i < j → highQ T left done i = false) : fst (fun i => decide (left.getD i 0 > T)) n = j := by
  refine fst_some hj ?_ fun i hi => ?_
  · simp only [highQ, Bool.and_eq_true] at hq; exact hq.2
  · have h1 := hn i hi
    cases hd : done.getD i false with
    | true => have := h.dn i (by omega) hd; simp only [decide_eq_false_iff_not]; omega
    | false => simpa only [highQ, hd, Bool.not_false, Bool.true_and] using h1
theorem getD_get {l : List Int} {i : Nat} (h : i < l.length) : l.getD i 0 = l[i] := by simp [h]
theorem rounds : ∀ (m : Nat) {T : Int} {n : Nat} {left : List Int} {done : List Bool} {cols : List (Int × Int)}, Al T n left done cols → done.count false ≤ m →
    ∃ cols' : List (Int × Int), cols'.length = n ∧ (∀ c ∈ cols', (0 ≤ c.1 ∧ c.1 ≤ T) ∧ 0 ≤ c.2 ∧ c.2 < n) ∧ loopF (specRound (.int T)) [nd left, bd done, cd cols] = some (0, [cd cols', .bool true]) ∧ loopF (implRound (.int T)) [nd left, cd cols, bd done] = some (0, [cd cols']) := by
  intro m
  induction m with
  | zero =>
    intro T n left done cols h hc
    have hno : ∀ i, i < n → lowQ T left done i = false := by
      intro i hi
      have hid : i < done.length := by rw [h.dl]; exact hi
      have h0 : done.count false = 0 := by omega
      have hm : ¬ (false ∈ done) := List.count_eq_zero.1 h0
      have : done[i] = true := by
        cases hd : done[i] with
        | true => rfl
        | false => exact absurd (hd ▸ List.getElem_mem hid) hm
      simp [lowQ, hid, this]
    have e := fst_none (n := n) hno
    have s1 := specScan_is (T := T) (left := left) (done := done) (by rw [h.dl, h.ll]) (by rw [h.ll]; exact h.n12)
    have s2 := implScan_is (T := T) (left := left) (done := done) (by rw [h.dl, h.ll]) (by rw [h.ll]; exact h.n12)
    rw [h.ll, e] at s1 s2
    refine ⟨cols, h.cl, h.co, loopF_exit (out_bind0 s1 (out_bind0 (l := [.bool true]) (out_if rfl rfl) rfl)), loopF_exit (out_bind0 s2 (out_if rfl rfl))⟩
  | succ m ih =>
    intro T n left done cols h hc
    have s1 := specScan_is (T := T) (left := left) (done := done) (by rw [h.dl, h.ll]) (by rw [h.ll]; exact h.n12)
    have s2 := implScan_is (T := T) (left := left) (done := done) (by rw [h.dl, h.ll]) (by rw [h.ll]; exact h.n12)
    rw [h.ll] at s1 s2
    rcases fst_facts (lowQ T left done) n with ⟨e, _⟩ | ⟨k, e, hk, hqk, _⟩
    · rw [e] at s1 s2
      exact ⟨cols, h.cl, h.co, loopF_exit (out_bind0 s1 (out_bind0 (l := [.bool true]) (out_if rfl rfl) rfl)), loopF_exit (out_bind0 s2 (out_if rfl rfl))⟩
    · obtain ⟨j, ej, hj, hqj, hnj⟩ := h.high hk hqk
      rw [e, ej] at s1
      rw [e] at s2
      have hx := h.next hk hqk hj hqj
      have hkl : k < left.length := by rw [h.ll]; exact hk
      have hjl : j < left.length := by rw [h.ll]; exact hj
      have hkd : k < done.length := by rw [h.dl]; exact hk
      have hkc : k < cols.length := by rw [h.cl]; exact hk
      have hdk : done.getD k false = false := by
        simp only [lowQ, Bool.and_eq_true, Bool.not_eq_true'] at hqk; exact hqk.1
      have hcnt := count_set_true hkd hdk
      obtain ⟨cols', c1, c2, c3, c4⟩ := ih hx (by omega)
      have b1 := h.lo k hk
      have b2 := h.lo j hj
      have t0 := h.t0
      rw [getD_get hkl] at b1
      rw [getD_get hjl] at b2
      have w1 : IntKind.wrap .i64 (T - left[k]) = T - left[k] := by rw [wrap_id] <;> omega
      have w2 : IntKind.wrap .i64 (left[j] - (T - left[k])) = left[j] - (T - left[k]) := by rw [wrap_id] <;> omega
      rw [getD_get hkl, getD_get hjl] at c3 c4
      have hnk : ¬ (decide ((k : Int) < 0)) = true := fun hh => absurd (of_decide_eq_true hh) (by omega)
      have hnj' : decide ((j : Int) < 0) = false := decide_eq_false (by omega)
      have hmore := f_indexMore (T := T) (left := left) (by rw [h.ll]; exact h.n12)
      rw [h.ll, h.more hj hqj hnj] at hmore
      have n1 : (nd left).l.set j (.int (left[j] - (T - left[k]))) = (left.set j (left[j] - (T - left[k]))).map D.int := by simp [nd, List.map_set]
      have n2 : (bd done).l.set k (.bool true) = (done.set k true).map D.bool := by simp [bd, List.map_set]
      have n3 : (cd cols).l.set k (cold (left[k], (j : Int))) = (cols.set k (left[k], (j : Int))).map cold := by simp [cd, List.map_set]
      refine ⟨cols', c1, c2, ?_, ?_⟩
      · rw [← c3]
        refine loopF_step (out_bind0 s1 (out_bind0 (l := [.bool false]) (out_else hnk (by simp only [gd_one, D.i_int, hnj']; rfl)) ?_))
        refine out_else (by simp) ?_
        refine out_if (inb_nat (by simpa [nd] using hkl)) (out_if (inb_nat (by simpa [cd] using hkc)) (out_if (inb_nat (by simpa [nd] using hjl)) (out_if (inb_nat (by simpa [bd] using hkd)) ?_)))
        have g1 : gd (nd left).l j = .int left[j] := gd_nd hjl
        have g2 : gd (nd left).l k = .int left[k] := gd_nd hkl
        simp only [gd_zero, gd_one, gd_two, D.i_int, Int.toNat_natCast, g1, g2, w1, w2, n1, n2]
        rw [show (D.pair (.int left[k]) (.pair (.int (j : Int)) .unit)) = cold (left[k], (j : Int)) from rfl, n3]
        rfl
      · rw [← c4]
        refine loopF_step (out_bind0 s2 (out_else hnk (out_call hmore ?_)))
        refine out_if (inb_nat (by simpa [nd] using hkl)) (out_if (inb_nat (by simpa [cd] using hkc)) (out_if (inb_nat (by simpa [nd] using hjl)) (out_if (inb_nat (by simpa [bd] using hkd)) ?_)))
        have g1 : gd (nd left).l j = .int left[j] := gd_nd hjl
        have g2 : gd (nd left).l k = .int left[k] := gd_nd hkl
        simp only [gd_zero, gd_one, gd_two, D.i_int, Int.toNat_natCast, g1, g2, w1, w2, n1, n2]
        rw [show (D.pair (.int left[k]) (.pair (.int (j : Int)) .unit)) = cold (left[k], (j : Int)) from rfl, n3]
        rfl
end Go.Proofs.YtbpfkhhacafcpaaGreatDoor
namespace Go.Proofs.YtbpfkhhacafcpaaGreatDoor
open Go Go.Own
structure Wts (ws : List Int) : Prop where
  n1 : 1 ≤ ws.length
  n12 : ws.length ≤ 12
  b : ∀ w ∈ ws, 1 ≤ w ∧ w ≤ 50
theorem Wts.big {ws : List Int} (h : Wts ws) : ∀ x ∈ ws, 0 ≤ x ∧ x ≤ 10000 := fun x hx => by have := h.b x hx; omega
theorem sum_pos : ∀ {ws : List Int}, 1 ≤ ws.length → (∀ w ∈ ws, 1 ≤ w ∧ w ≤ 50) → 1 ≤ ws.sum
  | [], h, _ => by simp at h
  | a :: l, _, h => by
    have ha := h a (by simp)
    have hl := sum_bound (l := l) (B := 50) fun x hx => by have := h x (by simp [hx]); omega
    rw [List.sum_cons]; omega
theorem Wts.sum {ws : List Int} (h : Wts ws) : 1 ≤ ws.sum ∧ ws.sum ≤ 600 := by
  have h1 := sum_bound (l := ws) (B := 50) fun x hx => by have := h.b x hx; omega
  have h2 := h.n12
  have h3 := sum_pos h.n1 h.b
  omega
def left0 (ws : List Int) : List Int := ws.map (· * (ws.length : Int))
def cols0 (ws : List Int) : List (Int × Int) := (List.range ws.length).map fun i : Nat => (ws.sum, (i : Int))
theorem getD_map_mul {ws : List Int} {i : Nat} (hi : i < ws.length) : (left0 ws).getD i 0 = ws.getD i 0 * ws.length := by
  simp [left0, hi]
theorem sum_left {ws : List Int} (T : Int) : ∀ m, m ≤ ws.length → sumN (fun i => ws.getD i 0 * (ws.length : Int) - T) m = (ws.take m).sum * ws.length - m * T
  | 0, _ => by simp [sumN]
  | m + 1, h => by
    rw [sumN, sum_left T m (by omega), sum_take_succ (by omega)]
    have hm : m < ws.length := by omega
    have e : ws.getD m 0 = ws[m] := by simp [hm]
    rw [e, Int.add_mul, Int.natCast_add, Int.add_mul]
    simp only [Int.natCast_one, Int.one_mul]
    omega
theorem Al.start {ws : List Int} (h : Wts ws) : Al ws.sum ws.length (left0 ws) (List.replicate ws.length false) (cols0 ws) := by
  have hs := h.sum
  refine ⟨by simp [left0], by simp, by simp [cols0], h.n12, by omega, ?_, ?_, ?_, ?_⟩
  · intro i hi
    rw [getD_map_mul hi]
    have hw := h.b _ (List.getElem_mem hi)
    have e : ws.getD i 0 = ws[i] := by simp [hi]
    rw [e]
    have h1 : 0 ≤ ws[i] * (ws.length : Int) := Int.mul_nonneg (by omega) (by omega)
    have h2 : ws[i] * (ws.length : Int) ≤ 50 * (ws.length : Int) := Int.mul_le_mul_of_nonneg_right hw.2 (by omega)
    have h3 := h.n12
    omega
  · intro i hi hd
    simp [hi] at hd
  · intro c hc
    obtain ⟨i, hi, rfl⟩ := List.mem_map.1 hc
    have hi' := List.mem_range.1 hi
    refine ⟨⟨by show 0 ≤ ws.sum; omega, Int.le_refl _⟩, by show 0 ≤ (i : Int); omega, by show (i : Int) < (ws.length : Int); omega⟩
  · have e : sumN (exc ws.sum (left0 ws) (List.replicate ws.length false)) ws.length = sumN (fun i => ws.getD i 0 * (ws.length : Int) - ws.sum) ws.length := by
      refine sumN_congr _ fun i hi => ?_
      unfold exc
      rw [getD_map_mul hi]
      simp [hi]
    rw [e, sum_left ws.sum ws.length (Nat.le_refl _), List.take_length, Int.mul_comm]
    omega
theorem makeOkN {n e : Nat} (h : n ≤ 12) (he : e ≤ 16) : makeOk e (n : Int) = true := by
  have hs : smax = 9223372036854775807 := rfl
  have : n * e ≤ 12 * 16 := Nat.mul_le_mul h he
  simp only [makeOk, Int.toNat_natCast, hs, Bool.and_eq_true, decide_eq_true_eq]
  omega
theorem mul_wrap {ws : List Int} (h : Wts ws) {i : Nat} (hi : i < ws.length) : IntKind.wrap .i64 (ws[i] * (ws.length : Int)) = ws[i] * ws.length := by
  have hw := h.b _ (List.getElem_mem hi)
  have h1 : 0 ≤ ws[i] * (ws.length : Int) := Int.mul_nonneg (by omega) (by omega)
  have h2 : ws[i] * (ws.length : Int) ≤ 50 * (ws.length : Int) := Int.mul_le_mul_of_nonneg_right hw.2 (by omega)
  have h3 := h.n12
  rw [wrap_id] <;> omega
theorem f_GoodWeights {ws : List Int} (h : Wts ws) : e_spec_GoodWeights.F [nd ws] = some (.bool true) := by
  have hs := h.sum
  have hsm : ws.length ≤ smax := by have : smax = 9223372036854775807 := rfl; have := h.n12; omega
  rw [q_spec_GoodWeights]
  refine rn_bind (loop_for' (fun i (_ : Unit) => [.int (ws.take i).sum, .int i]) ws.length (fun _ => ()) (t := 1) (o := [.int ws.sum]) (by simp) ?_ ?_) ?_
  · intro i hi
    have hb := sum_bound (l := ws.take i) (B := 50) fun x hx => by have := h.b x (List.mem_of_mem_take hx); omega
    have hlt : (ws.take i).length ≤ 12 := by have := h.n12; simp; omega
    have hx := h.b _ (List.getElem_mem hi)
    have hw : IntKind.wrap .i64 ((ws.take i).sum + ws[i]) = (ws.take i).sum + ws[i] := by rw [wrap_id] <;> omega
    have hin := f_l1InP ws[i] 0 50
    have hq : inP ws[i] 0 50 = true := by simp [inP]; omega
    rw [hq] at hin
    simp only [gd_zero, gd_one, nd, D.l_lst, D.i_int, Int.toNat_natCast, gd_nd hi, wrap_succ hi hsm, hw, List.length_map]
    rw [← sum_take_succ hi]
    exact out_if (decide_eq_true (by omega)) (out_if (inb_nat hi) (out_call hin (out_else (by simp) rfl)))
  · rw [List.take_length]
    exact out_else (by simp [nd]) rfl
  · have hin := f_l1InP ws.length 1 12
    have hq : inP ws.length 1 12 = true := by have := h.n1; have := h.n12; simp [inP]; omega
    rw [hq] at hin
    have hl : (((nd ws).l.length : Nat) : Int) = ws.length := by simp [nd]
    rw [hl]
    refine rn_bind (r := (0, [.bool true])) (out_call hin (out_if rfl ?_)) rfl
    show (ou 0 [.bool (decide (ws.sum > 0))] : Outc) = _
    rw [decide_eq_true (show ws.sum > 0 by omega)]
theorem f_AliasOf {ws : List Int} (h : Wts ws) : ∃ cols : List (Int × Int), cols.length = ws.length ∧ (∀ c ∈ cols, (0 ≤ c.1 ∧ c.1 ≤ ws.sum) ∧ 0 ≤ c.2 ∧ c.2 < (ws.length : Int)) ∧
    e_spec_AliasOf.F [nd ws] = some (.pair (cd cols) (.pair (.bool true) .unit)) ∧ e_impl_aliasOf.F [nd ws] = some (cd cols) := by
  have hsm : ws.length ≤ smax := by have : smax = 9223372036854775807 := rfl; have := h.n12; omega
  have hn := h.n12
  obtain ⟨cols, c1, c2, c3, c4⟩ := rounds ws.length (Al.start h) (by simp)
  have hl : (((nd ws).l.length : Nat) : Int) = ws.length := by simp [nd]
  have hrep : bd (List.replicate ws.length false) = D.lst (List.replicate ws.length (.bool false)) := by simp [bd]
  refine ⟨cols, c1, c2, ?_, ?_⟩
  · rw [q_spec_AliasOf, hl]
    refine rn_call (f_GoodWeights h) (rn_else (by simp) (rn_call (f_l12Total h.n12 h.big) (rn_if (makeOkN hn (by decide)) (rn_if (makeOkN hn (by decide)) (rn_if (makeOkN hn (by decide)) ?_)))))
    obtain ⟨⟨L, C⟩, ⟨hL, hC, hg⟩, hloop⟩ := loop_inv (f := fun l3 =>
        if (decide ((gd l3 2).i < (ws.length : Int))) then
          if (inb (gd l3 2).i (nd ws).l.length) then
          if (inb (gd l3 2).i (gd l3 0).l.length) then
          if (inb (gd l3 2).i (gd l3 1).l.length) then
          ou 0 [(D.lst ((gd l3 0).l.set (gd l3 2).i.toNat (.int (IntKind.wrap .i64 ((gd (nd ws).l (gd l3 2).i.toNat).i * (ws.length : Int)))))), (D.lst ((gd l3 1).l.set (gd l3 2).i.toNat (.pair (.int ws.sum) (.pair (gd l3 2) .unit)))), (.int (IntKind.wrap .i64 ((gd l3 2).i + 1)))]
          else none
          else none
          else none
        else
          ou 1 [(gd l3 0), (gd l3 1)]) (l := [(D.lst (List.replicate (ws.length : Int).toNat (.int 0))), (D.lst (List.replicate (ws.length : Int).toNat (.pair (.int 0) (.pair (.int 0) .unit)))), (.int 0)])
      (fun i (s : List Int × List (Int × Int)) => [nd s.1, cd s.2, .int i]) (fun i s => s.1.length = ws.length ∧ s.2.length = ws.length ∧ ∀ j, j < i → s.1.getD j 0 = ws.getD j 0 * ws.length ∧ s.2.getD j (0, 0) = (ws.sum, (j : Int))) ws.length (t := 0) (out := fun s => [nd s.1, cd s.2])
      (List.replicate ws.length 0, List.replicate ws.length (0, 0)) (by simp [nd, cd, cold]) ⟨by simp, by simp, fun j hj => by omega⟩ (by
      rintro i ⟨L, C⟩ hi ⟨hL, hC, hg⟩
      simp only at hL hC hg
      refine ⟨(L.set i (ws[i] * ws.length), C.set i (ws.sum, (i : Int))), ?_, by simpa using hL, by simpa using hC, ?_⟩
      · have n1 : (L.map D.int).set i (.int (ws[i] * ws.length)) = (L.set i (ws[i] * ws.length)).map D.int := by simp [List.map_set]
        have n3 : (C.map cold).set i (cold (ws.sum, (i : Int))) = (C.set i (ws.sum, (i : Int))).map cold := by simp [List.map_set]
        simp only [gd_zero, gd_one, gd_two, nd, cd, D.l_lst, D.i_int, Int.toNat_natCast, gd_nd hi, mul_wrap h hi, wrap_succ hi hsm, List.length_map, n1]
        rw [show (D.pair (.int ws.sum) (.pair (.int (i : Int)) .unit)) = cold (ws.sum, (i : Int)) from rfl, n3]
        exact out_if (decide_eq_true (by omega)) (out_if (inb_nat hi) (out_if (inb_nat (by omega)) (out_if (inb_nat (by omega)) rfl)))
      · intro j hj
        show (L.set i (ws[i] * ws.length)).getD j 0 = _ ∧ (C.set i (ws.sum, (i : Int))).getD j (0, 0) = _
        rw [getD_set (by omega), getD_set (by omega)]
        by_cases hji : j = i
        · subst hji; rw [if_pos rfl, if_pos rfl]; exact ⟨by simp [hi], rfl⟩
        · rw [if_neg hji, if_neg hji]; exact hg j (by omega)) (by
      rintro ⟨L, C⟩ _
      exact out_else (by simp) rfl)
    simp only at hL hC hg
    have eL : L = left0 ws := by
      apply List.ext_getElem
      · simp [left0, hL]
      · intro j h1 h2
        have h3 := (hg j (by omega)).1
        have h4 : j < ws.length := by omega
        simp only [left0, List.getElem_map]
        simpa [h1, h4] using h3
    have eC : C = cols0 ws := by
      apply List.ext_getElem
      · simp [cols0, hC]
      · intro j h1 h2
        have h3 := (hg j (by omega)).2
        simp only [cols0, List.getElem_map, List.getElem_range]
        simpa [h1] using h3
    subst eL eC
    rw [hrep] at c3
    exact rn_bind0 hloop (rn_bind0 c3 rfl)
  · rw [q_impl_aliasOf, hl]
    refine rn_call (f_totalOf h.n12 h.big) ?_
    refine rn_bind0 (loop_for' (fun i (s : List Int × List (Int × Int)) => [nd s.1, cd s.2, .int i]) ws.length (fun i => ((left0 ws).take i, (cols0 ws).take i)) (t := 0) (o := [nd (left0 ws), cd (cols0 ws)]) (by simp [nd, cd]) ?_ ?_) ?_
    · intro i hi
      have hil : i < (left0 ws).length := by simpa [left0] using hi
      have hic : i < (cols0 ws).length := by simpa [cols0] using hi
      have k1 : ((left0 ws).take i).length = i := by simp; omega
      have k2 : ((cols0 ws).take i).length = i := by simp; omega
      have g1 : (left0 ws)[i] = ws[i] * ws.length := by simp [left0]
      have g2 : (cols0 ws)[i] = (ws.sum, (i : Int)) := by simp [cols0]
      rw [← List.take_append_getElem hil, ← List.take_append_getElem hic, g1, g2]
      generalize (left0 ws).take i = L at k1
      generalize (cols0 ws).take i = C at k2
      simp only [gd_zero, gd_one, gd_two, nd, cd, D.l_lst, D.i_int, Int.toNat_natCast, gd_nd hi, mul_wrap h hi, wrap_succ hi hsm, List.length_map]
      refine out_if (decide_eq_true (by omega)) (out_if (inb_nat hi) (out_if (appOk1 (by simp; omega)) (out_if ?_ ?_)))
      · have : smax = 9223372036854775807 := rfl
        simp only [appOk, List.length_map, List.length_cons, List.length_nil, this, Bool.and_eq_true, decide_eq_true_eq]
        omega
      · simp [cold]
    · rw [List.take_of_length_le (by simp [left0]), List.take_of_length_le (by simp [cols0])]
      exact out_else (by simp) rfl
    · rw [hrep] at c4
      exact rn_if (makeOkN hn (by decide)) (rn_bind0 c4 rfl)
end Go.Proofs.YtbpfkhhacafcpaaGreatDoor
namespace Go.Proofs.YtbpfkhhacafcpaaGreatDoor
open Go Go.Own
structure Cols (T : Int) (cols : List (Int × Int)) : Prop where
  n1 : 1 ≤ cols.length
  n12 : cols.length ≤ 12
  t : 1 ≤ T ∧ T ≤ 600
  co : ∀ c ∈ cols, (0 ≤ c.1 ∧ c.1 ≤ T) ∧ 0 ≤ c.2 ∧ c.2 < (cols.length : Int)
theorem cold0 (c : Int × Int) : ((cold c).fld 0).i = c.1 := rfl
theorem cold1 (c : Int × Int) : (cold c).fld 1 = .int c.2 := rfl
theorem f_GoodAlias {T : Int} {cols : List (Int × Int)} (h : Cols T cols) : e_spec_GoodAlias.F [cd cols] = some (.bool true) := by
  have hsm : cols.length ≤ smax := by have : smax = 9223372036854775807 := rfl; have := h.n12; omega
  have hl : (((cd cols).l.length : Nat) : Int) = cols.length := by simp [cd]
  have h12 := h.n12
  have h1 := h.n1
  have hw : IntKind.wrap .i64 ((cols.length : Int) - 1) = (cols.length : Int) - 1 := by rw [wrap_id] <;> omega
  rw [q_spec_GoodAlias, hl, hw]
  refine rn_bind (loop_for' (fun i (_ : Unit) => [.int i]) cols.length (fun _ => ()) (t := 1) (o := []) rfl ?_ ?_) ?_
  · intro i hi
    have hc := h.co _ (List.getElem_mem hi)
    have hin := f_l1InP cols[i].2 0 ((cols.length : Int) - 1)
    have hq : inP cols[i].2 0 ((cols.length : Int) - 1) = true := by simp [inP]; omega
    rw [hq] at hin
    simp only [gd_zero, cd, D.l_lst, D.i_int, Int.toNat_natCast, gd_cd hi, cold0, cold1, wrap_succ hi hsm, List.length_map]
    exact out_if (decide_eq_true (by omega)) (out_if (inb_nat hi) (out_bind0 (l := [.bool false]) (out_else (fun hh => absurd (of_decide_eq_true hh) (by omega)) (out_call hin rfl)) rfl))
  · exact out_else (by simp) rfl
  · have hin := f_l1InP cols.length 1 12
    have hq : inP cols.length 1 12 = true := by simp [inP]; omega
    rw [hq] at hin
    exact rn_call hin rfl
theorem f_l12Fits {T : Int} {cols : List (Int × Int)} (h : Cols T cols) : e_spec_l12Fits.F [cd cols, .int T] = some (.bool true) := by
  have hsm : cols.length ≤ smax := by have : smax = 9223372036854775807 := rfl; have := h.n12; omega
  have hl : (((cd cols).l.length : Nat) : Int) = cols.length := by simp [cd]
  have ht := h.t
  rw [q_spec_l12Fits, hl]
  refine rn_bind (loop_for' (fun i (_ : Unit) => [.int i]) cols.length (fun _ => ()) (t := 1) (o := []) rfl ?_ ?_) ?_
  · intro i hi
    have hc := h.co _ (List.getElem_mem hi)
    simp only [gd_zero, cd, D.l_lst, D.i_int, Int.toNat_natCast, gd_cd hi, cold0, wrap_succ hi hsm, List.length_map]
    exact out_if (decide_eq_true (by omega)) (out_if (inb_nat hi) (out_else (fun hh => absurd (of_decide_eq_true hh) (by omega)) rfl))
  · exact out_else (by simp) rfl
  · have hin := f_l1InP T 1 600
    have hq : inP T 1 600 = true := by simp [inP]; omega
    rw [hq] at hin
    exact rn_bind0 (l := [.bool true]) (out_call (f_GoodAlias h) (out_if rfl (out_call hin rfl))) rfl
theorem pick_facts {T : Int} {cols : List (Int × Int)} (h : Cols T cols) {d : Int} (h0 : 0 ≤ d) (h1 : d < (cols.length : Int) * T) : ∃ i : Nat, i < cols.length ∧ e_impl_pickBy.F [cd cols, .int T, .int d] = some (.int i) ∧ e_spec_PickBy.F [cd cols, .int T, .int d] = some (.pair (.int i) (.pair (.bool true) .unit)) := by
  have ht := h.t
  have h12 := h.n12
  have hn1 := h.n1
  have hl : (((cd cols).l.length : Nat) : Int) = cols.length := by simp [cd]
  have hmul : 0 ≤ (cols.length : Int) * T := Int.mul_nonneg (by omega) (by omega)
  have hmul2 : (cols.length : Int) * T ≤ 12 * 600 := by
    calc (cols.length : Int) * T ≤ 12 * T := Int.mul_le_mul_of_nonneg_right (by omega) (by omega)
      _ ≤ 12 * 600 := by omega
  have hq0 : 0 ≤ d.tdiv T := Int.tdiv_nonneg h0 (by omega)
  have hqe : d.tdiv T = d / T := Int.tdiv_eq_ediv_of_nonneg h0
  have hq1 : d.tdiv T < (cols.length : Int) := by rw [hqe]; exact Int.ediv_lt_of_lt_mul (by omega) h1
  obtain ⟨k, hk⟩ := Int.eq_ofNat_of_zero_le hq0
  have hkl : k < cols.length := by omega
  have hw : IntKind.wrap .i64 (d.tdiv T) = (k : Int) := by rw [hk, wrap_id] <;> omega
  have hw1 : IntKind.wrap .i64 ((cols.length : Int) * T) = (cols.length : Int) * T := by rw [wrap_id] <;> omega
  have hw2 : IntKind.wrap .i64 ((cols.length : Int) * T - 1) = (cols.length : Int) * T - 1 := by rw [wrap_id] <;> omega
  have hc := h.co _ (List.getElem_mem hkl)
  have hT : (T != 0) = true := by simp; omega
  have hin := f_l1InP d 0 ((cols.length : Int) * T - 1)
  have hqi : inP d 0 ((cols.length : Int) * T - 1) = true := by simp [inP]; omega
  rw [hqi] at hin
  have hg : gd (cd cols).l ((k : Int)).toNat = cold cols[k] := by
    rw [Int.toNat_natCast]; exact gd_cd hkl
  have hib : inb (k : Int) (cd cols).l.length = true := inb_nat (by simpa [cd] using hkl)
  rw [q_impl_pickBy, q_spec_PickBy, hl]
  simp only [D.i_int, hw, hw1, hw2, hg, cold0, cold1]
  by_cases hb : d.tmod T < cols[k].1
  · exact ⟨k, hkl, rn_if hT (rn_if hib (rn_if (decide_eq_true hb) rfl)), rn_bind0 (l := [.bool false]) (out_call (f_l12Fits h) (out_else (by simp) (out_call hin rfl))) (rn_else (by simp) (rn_if hT (rn_if hib (rn_if (decide_eq_true hb) rfl))))⟩
  · obtain ⟨j, hj⟩ := Int.eq_ofNat_of_zero_le hc.2.1
    refine ⟨j, by omega, ?_, ?_⟩
    · rw [hj]
      exact rn_if hT (rn_if hib (rn_else (fun hh => hb (of_decide_eq_true hh)) rfl))
    · rw [hj]
      exact rn_bind0 (l := [.bool false]) (out_call (f_l12Fits h) (out_else (by simp) (out_call hin rfl))) (rn_else (by simp) (rn_if hT (rn_if hib (rn_else (fun hh => hb (of_decide_eq_true hh)) rfl))))
theorem weights_loop {p : Policy} {l : List Int} (hg : p.good = true) (hl : l.length ≤ p.ts.length) (hn : 1 ≤ l.length) (hm : ∀ x ∈ l, ∃ i : Nat, x = i ∧ i < p.ts.length) : ∃ ws : List Int, ws.length = l.length ∧ Wts ws ∧ loopF (fun l5 =>
          if (decide ((gd l5 1).i < (((nd l).l.length : Nat) : Int))) then
            if (inb (gd l5 1).i (nd l).l.length) then
            if (inb (gd (nd l).l (gd l5 1).i.toNat).i (D.lst (p.ts.map Target.d)).l.length) then
            if (appOk 8 (gd l5 0).l (((gd (D.lst (p.ts.map Target.d)).l (gd (nd l).l (gd l5 1).i.toNat).i.toNat).fld 3) :: ([] : List D))) then
            ou 0 [(D.lst ((gd l5 0).l ++ (((gd (D.lst (p.ts.map Target.d)).l (gd (nd l).l (gd l5 1).i.toNat).i.toNat).fld 3) :: ([] : List D)))), (.int (IntKind.wrap .i64 ((gd l5 1).i + 1)))]
            else none
            else none
            else none
          else
            ou 1 [(gd l5 0)]) [(D.lst []), (.int 0)] = some (0, [nd ws]) := by
  obtain ⟨g1, g2, g3⟩ := Policy.good_facts hg
  have hsm : l.length ≤ smax := by have : smax = 9223372036854775807 := rfl; omega
  obtain ⟨ws, ⟨hz, hb⟩, hloop⟩ := loop_inv (f := fun l5 =>
          if (decide ((gd l5 1).i < (((nd l).l.length : Nat) : Int))) then
            if (inb (gd l5 1).i (nd l).l.length) then
            if (inb (gd (nd l).l (gd l5 1).i.toNat).i (D.lst (p.ts.map Target.d)).l.length) then
            if (appOk 8 (gd l5 0).l (((gd (D.lst (p.ts.map Target.d)).l (gd (nd l).l (gd l5 1).i.toNat).i.toNat).fld 3) :: ([] : List D))) then
            ou 0 [(D.lst ((gd l5 0).l ++ (((gd (D.lst (p.ts.map Target.d)).l (gd (nd l).l (gd l5 1).i.toNat).i.toNat).fld 3) :: ([] : List D)))), (.int (IntKind.wrap .i64 ((gd l5 1).i + 1)))]
            else none
            else none
            else none
          else
            ou 1 [(gd l5 0)]) (l := [(D.lst []), (.int 0)]) (fun i (zs : List Int) => [nd zs, .int i]) (fun i zs => zs.length = i ∧ ∀ z ∈ zs, 1 ≤ z ∧ z ≤ 50) l.length (t := 0) (out := fun zs => [nd zs]) [] (by simp [nd]) ⟨rfl, by simp⟩ (by
    rintro i zs hi ⟨hz, hb⟩
    obtain ⟨k, hk, hkl⟩ := hm _ (List.getElem_mem hi)
    have hw := g3 _ (List.getElem_mem hkl)
    refine ⟨zs ++ [p.ts[k].weight], ?_, by simp [hz], ?_⟩
    · have ef : p.ts[k].d.fld 3 = .int p.ts[k].weight := rfl
      simp only [gd_zero, gd_one, nd, D.l_lst, D.i_int, Int.toNat_natCast, gd_nd hi, hk, gd_t hkl, ef, wrap_succ hi hsm, List.length_map]
      exact out_if (decide_eq_true (by omega)) (out_if (inb_nat hi) (out_if (inb_nat hkl) (out_if (appOk1 (by simp; omega)) (by simp))))
    · intro z hzm
      rcases List.mem_append.1 hzm with h | h
      · exact hb z h
      · simp only [List.mem_singleton] at h; subst h; exact hw) (by
    rintro zs _
    exact out_else (by simp [nd]) rfl)
  exact ⟨ws, hz, ⟨by omega, by omega, hb⟩, hloop⟩
end Go.Proofs.YtbpfkhhacafcpaaGreatDoor
namespace Go.Proofs.YtbpfkhhacafcpaaGreatDoor
open Go Go.Own
theorem Policy.cand_pos {p : Policy} {h : Health} (hg : p.good = true) : 1 ≤ (p.cand h).length := by
  have hmem : ∀ g ∈ p.grp, ∃ i, i < p.ts.length ∧ p.inG g i = true := by
    intro g hg'
    have := (mem_upTo.1 hg').2
    simp only [Policy.has, List.any_eq_true] at this
    obtain ⟨t, ht, he⟩ := this
    obtain ⟨i, hi, rfl⟩ := List.getElem_of_mem ht
    exact ⟨i, hi, by simpa [Policy.inG, hi] using he⟩
  have hgr : p.group h ∈ p.grp := by
    have hne := Policy.grp_ne hg
    have hpos : 0 < p.grp.length := List.length_pos_iff.2 hne
    unfold Policy.group
    cases hf : p.grp.find? (p.anyWell h) with
    | some g => exact List.mem_of_find?_eq_some hf
    | none =>
      show p.grp.getD 0 0 ∈ p.grp
      have : p.grp.getD 0 0 = p.grp[0] := by simp [hpos]
      rw [this]; exact List.getElem_mem hpos
  obtain ⟨i, hi, hq⟩ := hmem _ hgr
  unfold Policy.cand
  split
  · have : (i : Int) ∈ idxs p.ts.length (p.inG (p.group h)) := by
      simp only [idxs, List.mem_map, List.mem_filter, List.mem_range]
      exact ⟨i, ⟨hi, hq⟩, rfl⟩
    exact List.length_pos_iff.2 (List.ne_nil_of_mem this)
  · omega
theorem f_ChooseTarget {p : Policy} {h : Health} (hp : p.In lim) (hh : h.In lim) (d : Int) : ∃ (n : Int) (b : Bool), (b = true → ∃ i : Nat, n = i ∧ i < p.ts.length) ∧ e_impl_ChooseTarget.F [p.d, h.d, .int d] = some (.pair (.int n) (.pair (.bool b) .unit)) ∧ e_spec_ChooseTarget.F [p.d, h.d, .int d] = some (.pair (.int n) (.pair (.bool b) .unit)) := by
  have f1 : p.d.fld 1 = .lst (p.ts.map Target.d) := rfl
  have h1 := f_implPolicy hp
  have h2 := f_specPolicy hp
  have h3 := f_implGoodHealth h (Nat.le_trans hh.len lim_smax)
  have h4 := f_specGoodHealth h hh.fit
  have h5 : e_impl_isCounter.F [.int d] = some (.bool (inP d 0 1152921504606846976)) := by
    rw [q_impl_isCounter]; exact rn_call (f_withinP d 0 1152921504606846976) rfl
  have h6 : e_spec_l9Counter.F [.int d] = some (.bool (inP d 0 1152921504606846976)) := by
    rw [q_spec_l9Counter]; exact rn_call (f_l1InP d 0 1152921504606846976) rfl
  rw [q_impl_ChooseTarget, q_spec_ChooseTarget, f1]
  cases hg : p.good with
  | false =>
    rw [hg] at h1 h2
    exact ⟨0, false, (fun h => nomatch h), rn_bind0 (l := [.bool true]) (out_call h1 (out_if rfl rfl)) (rn_if rfl rfl), rn_bind0 (l := [.bool true]) (out_call h2 (out_if rfl rfl)) (rn_if rfl rfl)⟩
  | true =>
    rw [hg] at h1 h2
    cases hgh : h.good with
    | false =>
      rw [hgh] at h3 h4
      exact ⟨0, false, (fun h => nomatch h), rn_bind0 (l := [.bool true]) (out_call h1 (out_else (by simp) (out_call h3 (out_if rfl rfl)))) (rn_if rfl rfl), rn_bind0 (l := [.bool true]) (out_call h2 (out_else (by simp) (out_call h4 (out_if rfl rfl)))) (rn_if rfl rfl)⟩
    | true =>
      rw [hgh] at h3 h4
      cases hd : inP d 0 1152921504606846976 with
      | false =>
        rw [hd] at h5 h6
        exact ⟨0, false, (fun h => nomatch h), rn_bind0 (l := [.bool true]) (out_call h1 (out_else (by simp) (out_call h3 (out_else (by simp) (out_call h5 rfl))))) (rn_if rfl rfl), rn_bind0 (l := [.bool true]) (out_call h2 (out_else (by simp) (out_call h4 (out_else (by simp) (out_call h6 rfl))))) (rn_if rfl rfl)⟩
      | true =>
        rw [hd] at h5 h6
        have hd0 : 0 ≤ d := by simp [inP] at hd; omega
        obtain ⟨g1, g2, g3⟩ := Policy.good_facts hg
        have hcl := Policy.cand_len p h
        have hcp := Policy.cand_pos (h := h) hg
        obtain ⟨ws, hwl, hw, hloop⟩ := weights_loop (l := p.cand h) hg hcl hcp (fun x hx => Policy.cand_mem hx)
        obtain ⟨cols, c1, c2, c3, c4⟩ := f_AliasOf hw
        have hs := hw.sum
        have hco : Cols ws.sum cols := ⟨by omega, by omega, hs, by rw [c1]; exact c2⟩
        have hlen : (((nd (p.cand h)).l.length : Nat) : Int) = (cols.length : Int) := by simp [nd]; omega
        have hmul : 1 ≤ (cols.length : Int) * ws.sum := by
          have := Int.mul_le_mul (a := 1) (b := 1) (c := (cols.length : Int)) (d := ws.sum) (by omega) (by omega) (by decide) (by omega)
          omega
        have hmul2 : (cols.length : Int) * ws.sum ≤ 12 * 600 := Int.mul_le_mul (by omega) (by omega) (by omega) (by decide)
        have hww : IntKind.wrap .i64 ((cols.length : Int) * ws.sum) = (cols.length : Int) * ws.sum := by rw [wrap_id] <;> omega
        have hne : ((cols.length : Int) * ws.sum != 0) = true := by simp only [bne_iff_ne, ne_eq]; omega
        have hm0 : 0 ≤ d.tmod ((cols.length : Int) * ws.sum) := Int.tmod_nonneg _ hd0
        have hm1 : d.tmod ((cols.length : Int) * ws.sum) < (cols.length : Int) * ws.sum := Int.tmod_lt_of_pos _ (by omega)
        obtain ⟨i, hi, p1, p2⟩ := pick_facts hco hm0 hm1
        have hic : i < (p.cand h).length := by omega
        obtain ⟨k, hk, hkl⟩ := Policy.cand_mem (List.getElem_mem hic)
        have hgi : gd (nd (p.cand h)).l i = .int k := by
          rw [show (nd (p.cand h)).l = (p.cand h).map D.int from rfl, gd_nd hic, hk]
        have hib : inb (i : Int) (nd (p.cand h)).l.length = true := inb_nat (by simpa [nd] using hic)
        refine ⟨k, true, fun _ => ⟨k, rfl, hkl⟩, rn_bind0 (l := [.bool false]) (out_call h1 (out_else (by simp) (out_call h3 (out_else (by simp) (out_call h5 rfl))))) (rn_else (by simp) (rn_call (f_candidatesOf hp hh.len hg) (rn_bind0 hloop ?_))), rn_bind0 (l := [.bool false]) (out_call h2 (out_else (by simp) (out_call h4 (out_else (by simp) (out_call h6 rfl))))) (rn_else (by simp) (rn_call (f_l14Candidates hp hh.fit hh.len hgh hg) (rn_bind0 hloop ?_)))⟩
        · refine rn_call (f_totalOf hw.n12 hw.big) (rn_call c4 ?_)
          simp only [D.i_int, hlen, hww]
          refine rn_if hne (rn_call p1 (rn_if hib ?_))
          simp only [D.i_int, Int.toNat_natCast, hgi]
          rfl
        · refine rn_call c3 (rn_call (f_l12Total hw.n12 hw.big) ?_)
          simp only [D.i_int, hlen, hww]
          refine rn_if hne (rn_call p2 (rn_else (by simp [D.fld]) (rn_if hib ?_)))
          have f0 : (D.pair (.int (i : Int)) (.pair (.bool true) .unit)).fld 0 = .int i := rfl
          simp only [f0, D.i_int, Int.toNat_natCast, hgi]
          rfl
theorem law_FnExactChooseTarget {a b c : D} (ha : Sm smax tPolicy a) (hb : Sm smax tHealth b) (hc : Sm smax (.int .i64) c) : e_laws_FnExactChooseTarget.F [a, b, c] = some (.bool true) := by
  obtain ⟨p, rfl, hi⟩ := policy_of ha
  obtain ⟨h, rfl, hj⟩ := health_of hb
  obtain ⟨d, rfl, _⟩ := hc
  rw [q_laws_FnExactChooseTarget]
  have hlim : lim = 1048576 := rfl
  obtain ⟨r, h1, h2⟩ := f_szPolicy hi (left := 1048576) (by decide) (by decide)
  refine rn_call h1 ?_
  by_cases hr : r < 0
  · exact rn_if (decide_eq_true hr) rfl
  refine rn_else (fun h => hr (of_decide_eq_true h)) ?_
  obtain ⟨hrl, hp⟩ := h2 (by omega)
  obtain ⟨r2, h3, h4⟩ := f_szHealth hj (left := r) (by omega) (by omega)
  refine rn_call h3 ?_
  by_cases hr2 : r2 < 0
  · exact rn_if (decide_eq_true hr2) rfl
  refine rn_else (fun h => hr2 (of_decide_eq_true h)) ?_
  have hh := h4 (by omega)
  have ht := f_toPolicy hp.len
  have ht2 := f_toHealth hh.len
  obtain ⟨n, b, _, hI, hS⟩ := f_ChooseTarget hp hh d
  have hep := f_eqPolicy (p := p) (Nat.le_trans hp.len lim_smax)
  have heh := f_eqHealth (h := h) (Nat.le_trans hh.len lim_smax)
  refine rn_call ht (rn_call ht2 (rn_call hS (rn_call ht (rn_call ht2 (rn_call hI ?_)))))
  refine rn_bind0 (l := [.bool false]) (out_else (by simp [D.fld]) (by simp [D.fld])) ?_
  exact rn_else (by simp) (rn_call ht (rn_call hep (rn_else (by simp) (rn_call ht2 (rn_call heh (rn_else (by simp) rfl))))))
theorem f_AnswerOf {p : Policy} {h : Health} (hp : p.In lim) (hh : h.In lim) (d : Int) : ∃ (n q r : D) (k : Int) (m : List UInt8) (b : Bool), e_impl_AnswerOf.F [p.d, h.d, .int d] = some (.pair (.pair n (.pair (.int k) (.pair q (.pair (.str m) .unit)))) (.pair (.bool b) .unit)) ∧ e_spec_AnswerOf.F [p.d, h.d, .int d] = some (.pair (.pair n (.pair (.int k) (.pair q (.pair (.str m) .unit)))) (.pair (.bool b) .unit)) := by
  obtain ⟨n, b, hb, hI, hS⟩ := f_ChooseTarget hp hh d
  have f1 : p.d.fld 1 = .lst (p.ts.map Target.d) := rfl
  have g0 : (D.pair (.int n) (.pair (.bool b) .unit)).fld 0 = .int n := rfl
  have g1 : (D.pair (.int n) (.pair (.bool b) .unit)).fld 1 = .bool b := rfl
  rw [q_impl_AnswerOf, q_spec_AnswerOf, f1]
  cases hbb : b with
  | false =>
    subst hbb
    exact ⟨.str [], .int 0, .unit, 0, [], false, rn_call hI (rn_if rfl rfl), rn_call hS (rn_if rfl rfl)⟩
  | true =>
    subst hbb
    obtain ⟨i, rfl, hi⟩ := hb rfl
    have hib : inb (i : Int) (D.lst (p.ts.map Target.d)).l.length = true := inb_nat (by simpa using hi)
    have hg : (gd (D.lst (p.ts.map Target.d)).l (D.int (i : Int)).i.toNat).fld 1 = .str p.ts[i].data := by
      simp only [D.i_int, Int.toNat_natCast, D.l_lst, gd_t hi]; rfl
    refine ⟨p.d.fld 0, .int 5, .unit, 1, p.ts[i].data, true, rn_call hI (rn_else (by simp [D.fld]) (rn_if hib ?_)), rn_call hS (rn_else (by simp [D.fld]) (rn_if hib ?_))⟩
    · rw [g0, hg]; rfl
    · rw [g0, hg]; rfl
theorem law_FnExactAnswerOf {a b c : D} (ha : Sm smax tPolicy a) (hb : Sm smax tHealth b) (hc : Sm smax (.int .i64) c) : e_laws_FnExactAnswerOf.F [a, b, c] = some (.bool true) := by
  obtain ⟨p, rfl, hi⟩ := policy_of ha
  obtain ⟨h, rfl, hj⟩ := health_of hb
  obtain ⟨d, rfl, _⟩ := hc
  rw [q_laws_FnExactAnswerOf]
  have hlim : lim = 1048576 := rfl
  obtain ⟨r, h1, h2⟩ := f_szPolicy hi (left := 1048576) (by decide) (by decide)
  refine rn_call h1 ?_
  by_cases hr : r < 0
  · exact rn_if (decide_eq_true hr) rfl
  refine rn_else (fun h => hr (of_decide_eq_true h)) ?_
  obtain ⟨hrl, hp⟩ := h2 (by omega)
  obtain ⟨r2, h3, h4⟩ := f_szHealth hj (left := r) (by omega) (by omega)
  refine rn_call h3 ?_
  by_cases hr2 : r2 < 0
  · exact rn_if (decide_eq_true hr2) rfl
  refine rn_else (fun h => hr2 (of_decide_eq_true h)) ?_
  have hh := h4 (by omega)
  have ht := f_toPolicy hp.len
  have ht2 := f_toHealth hh.len
  obtain ⟨n, q, _, k, m, b, hI, hS⟩ := f_AnswerOf hp hh d
  have hep := f_eqPolicy (p := p) (Nat.le_trans hp.len lim_smax)
  have heh := f_eqHealth (h := h) (Nat.le_trans hh.len lim_smax)
  have her : ∀ x : D, e_laws_eqRecord.F [x, x] = some (.bool true) := by
    intro x
    rw [q_laws_eqRecord]
    exact rn_else (by simp) (rn_else (by simp) (rn_else (by simp) (rn_else (by simp) rfl)))
  refine rn_call ht (rn_call ht2 (rn_call hS (rn_call ht (rn_call ht2 (rn_call hI ?_)))))
  refine rn_bind0 (l := [.bool false]) (out_call (her _) (out_else (by simp) (by simp [D.fld]))) ?_
  exact rn_else (by simp) (rn_call ht (rn_call hep (rn_else (by simp) (rn_call ht2 (rn_call heh (rn_else (by simp) rfl))))))
end Go.Proofs.YtbpfkhhacafcpaaGreatDoor
