/- A layer over the walk: what lies in memory as plain data, each operation by what it does to data; part 36. -/
import Derived.Test.YtajcjfickmmjcaaOwZ2
set_option linter.unusedVariables false
set_option linter.unusedSimpArgs false
namespace Go.Own
noncomputable section
open Go

/-- an operation of one outcome: what it reads and what it writes -/
def A.wpD (X : Ctr) : A → List Nat → St → (List Nat → Wr → Prop) → Prop
  | .ret w, R, _, K => K R w
  | .ask s k, R, S, K => (k (S s)).wpD X (s :: R) S K
  | .need p k, R, S, K => p ∧ k.wpD X R S K
  | .call g as dom nv k, R, _, K => ∃ r o, X g as (fun r' o' => r' = r ∧ o' = o) ∧ (nv = true → r.noview = true) ∧ (k r o).map (·.1) = dom ∧ K R (k r o)
  | .two _ _, _, _, _ => False
  | .fail, _, _, _ => False

theorem A.wpD_wp {X : Ctr} {a : A} {S : St} : ∀ {R : List Nat} {K : List Nat → Wr → Prop} {K' : Wr → Prop}, a.wpD X R S K → (∀ R w, K R w → K' w) → a.wp X S K' := by
  induction a with
  | ret _ => intro R K K' h hk; exact hk _ _ h
  | ask s k ih => intro R K K' h hk; exact ih _ h hk
  | need p k ih => intro R K K' h hk; exact ⟨h.1, ih h.2 hk⟩
  | call g as dom nv k =>
    intro R K K' h hk
    obtain ⟨r, o, h1, h2, h3, h4⟩ := h
    refine ⟨_, h1, ⟨r, o, rfl, rfl⟩, ?_⟩
    rintro r' o' ⟨rfl, rfl⟩
    exact ⟨h2, h3, hk _ _ h4⟩
  | two p k => intro R K K' h; exact h.elim
  | fail => intro R K K' h; exact h.elim

/-- what an operation of one outcome does is told by the slots that it reads -/
theorem A.wpD_out {X : Ctr} {a : A} {S : St} : ∀ {R : List Nat} {K : List Nat → Wr → Prop}, a.wpD X R S K →
    ∃ R' w, K R' w ∧ (∀ s, s ∈ R → s ∈ R') ∧ ∀ S', (∀ s, s ∈ R' → S' s = S s) → ∀ K', K' R' w → a.wpD X R S' K' := by
  induction a with
  | ret w => intro R K h; exact ⟨R, w, h, fun _ h => h, fun _ _ K' h' => h'⟩
  | ask s k ih =>
    intro R K h
    obtain ⟨R', w, h1, h2, h3⟩ := ih _ h
    refine ⟨R', w, h1, fun s' hs => h2 s' (by simp [hs]), fun S' hS K' hK' => ?_⟩
    simp only [A.wpD]
    rw [hS s (h2 s (by simp))]
    exact h3 S' hS K' hK'
  | need p k ih =>
    intro R K h
    obtain ⟨R', w, h1, h2, h3⟩ := ih h.2
    exact ⟨R', w, h1, h2, fun S' hS K' hK' => ⟨h.1, h3 S' hS K' hK'⟩⟩
  | call g as dom nv k =>
    intro R K h
    obtain ⟨r, o, h1, h2, h3, h4⟩ := h
    exact ⟨R, k r o, h4, fun _ h => h, fun S' _ K' hK' => ⟨r, o, h1, h2, h3, hK'⟩⟩
  | two p k => intro R K h; exact h.elim
  | fail => intro R K h; exact h.elim

structure Tr where
  i : Nat
  R : List Nat
  W : List Nat

/-- what stands ahead of each operation in every order -/
def ancs (md : Region.Mode) (ops : List Oper) : List (List Nat) :=
  ops.foldl (fun acc o => acc ++ [(o.after.toList.filter (Region.binds md)).flatMap fun e => e.on :: acc.getD e.on []]) []

@[simp] def dis (a b : List Nat) : Bool := a.all fun s => !b.contains s

def apart (bef : List (List Nat)) (a b : Tr) : Bool := (bef.getD b.i []).contains a.i || (dis a.W b.R && dis a.W b.W && dis b.W a.R)

def apartAll (bef : List (List Nat)) : List Tr → Bool
  | [] => true
  | a :: l => l.all (apart bef a) && apartAll bef l

def opsD (X : Ctr) (Γ : Env) (ops : Array Oper) (bef : List (List Nat)) : List Tr → List Nat → St → (St → Prop) → Prop
  | tr, [], S, K => apartAll bef tr = true ∧ K S
  | tr, i :: is, S, K => match ops[i]? with
    | none => False
    | some o => (opG Γ ops o).wpD X [] S fun R ws => opsD X Γ ops bef (tr ++ [⟨i, R, ws.map (·.1)⟩]) is (S.apply ws) K

variable {P : Program} {Γ : Env} {E : Entry} {S : St} {act : Act} {w : World} {X : Ctr} {ops : Array Oper} {bef : List (List Nat)} {K : St → Prop}

theorem A.wpD_mono {a : A} {S : St} {R : List Nat} {K K' : List Nat → Wr → Prop} (h : a.wpD X R S K) (hk : ∀ R w, K R w → K' R w) : a.wpD X R S K' := by
  obtain ⟨R', w, h1, _, h3⟩ := A.wpD_out h
  exact h3 S (fun _ _ => rfl) _ (hk _ _ h1)

theorem opsD_tr : ∀ {l : List Nat} {tr tr' : List Tr} {S : St}, opsD X Γ ops bef tr l S K → (∀ t, apartAll bef (tr ++ t) = true → apartAll bef (tr' ++ t) = true) → opsD X Γ ops bef tr' l S K
  | [], tr, tr', S, h, ht => ⟨by simpa using ht [] (by simpa using h.1), h.2⟩
  | i :: is, tr, tr', S, h, ht => by
    simp only [opsD] at h ⊢
    split at h
    · exact h.elim
    · refine A.wpD_mono h fun R ws h => opsD_tr h fun t h1 => ?_
      rw [List.append_assoc] at h1 ⊢
      exact ht _ h1

theorem opsD_apart : ∀ {l : List Nat} {tr : List Tr} {S : St}, opsD X Γ ops bef tr l S K → ∃ t, apartAll bef (tr ++ t) = true
  | [], tr, S, h => ⟨[], by simpa using h.1⟩
  | i :: is, tr, S, h => by
    simp only [opsD] at h
    split at h
    · exact h.elim
    · obtain ⟨R, w, h1, _, _⟩ := A.wpD_out h
      obtain ⟨t, ht⟩ := opsD_apart h1
      exact ⟨_, by rw [List.append_assoc] at ht; exact ht⟩

theorem apartAll_append {l1 l2 : List Tr} : apartAll bef (l1 ++ l2) = true ↔ apartAll bef l1 = true ∧ apartAll bef l2 = true ∧ ∀ a, a ∈ l1 → ∀ b, b ∈ l2 → apart bef a b = true := by
  induction l1 with
  | nil => simp [apartAll]
  | cons x l ih =>
    simp only [List.cons_append, apartAll, Bool.and_eq_true, List.all_eq_true, List.mem_append, ih, List.mem_cons, forall_eq_or_imp]
    constructor
    · rintro ⟨h1, h2, h3, h4⟩
      exact ⟨⟨fun y hy => h1 y (.inl hy), h2⟩, h3, fun y hy => h1 y (.inr hy), h4⟩
    · rintro ⟨⟨h1, h2⟩, h3, h4, h5⟩
      exact ⟨fun y hy => hy.elim (h1 y) (h4 y), h2, h3, h5⟩

theorem apply_of_not_mem : ∀ {ws : Wr} {S : St} {s : Nat}, s ∉ ws.map (·.1) → S.apply ws s = S s
  | [], _, _, _ => rfl
  | (d, c) :: ws, S, s, h => by
    simp at h
    simp only [St.apply]
    rw [apply_of_not_mem (by simpa using h.2)]
    exact if_neg h.1

theorem apply_eq_of_mem : ∀ {ws : Wr} {S S' : St} {s : Nat}, s ∈ ws.map (·.1) → S.apply ws s = S'.apply ws s
  | (d, c) :: ws, S, S', s, h => by
    simp only [St.apply]
    by_cases hs : s ∈ ws.map (·.1)
    · exact apply_eq_of_mem hs
    · rw [apply_of_not_mem hs, apply_of_not_mem hs]
      simp at h
      rcases h with rfl | h
      · simp [St.put]
      · exact absurd (by simpa using h) hs

theorem dis_spec {a b : List Nat} (h : dis a b = true) : ∀ s, s ∈ a → s ∉ b := by
  intro s h1 h2
  simp only [dis, List.all_eq_true] at h
  have := h s h1
  simp at this
  exact this h2

theorem apply_comm {S : St} {w1 w2 : Wr} (h : dis (w1.map (·.1)) (w2.map (·.1)) = true) : (S.apply w1).apply w2 = (S.apply w2).apply w1 := by
  funext s
  have hd := dis_spec h
  by_cases h1 : s ∈ w1.map (·.1)
  · rw [apply_of_not_mem (hd s h1)]
    exact apply_eq_of_mem h1
  · rw [apply_of_not_mem h1]
    by_cases h2 : s ∈ w2.map (·.1)
    · exact apply_eq_of_mem h2
    · rw [apply_of_not_mem h2, apply_of_not_mem h2, apply_of_not_mem h1]

/-- two that are apart are swapped -/
theorem opsD_swap {tr : List Tr} {j i : Nat} {l : List Nat} {S : St} (h : opsD X Γ ops bef tr (j :: i :: l) S K) (hji : (bef.getD i []).contains j = false) : opsD X Γ ops bef tr (i :: j :: l) S K := by
  simp only [opsD] at h
  split at h
  · exact h.elim
  · rename_i oj hoj
    obtain ⟨Rj, wj, h1, _, h3⟩ := A.wpD_out h
    split at h1
    · exact h1.elim
    · rename_i oi hoi
      obtain ⟨Ri, wi, g1, _, g3⟩ := A.wpD_out h1
      obtain ⟨t, ht⟩ := opsD_apart g1
      rw [List.append_assoc, List.append_assoc, apartAll_append] at ht
      have hap : apart bef ⟨j, Rj, wj.map (·.1)⟩ ⟨i, Ri, wi.map (·.1)⟩ = true := by
        have := ht.2.1
        simp only [List.cons_append, List.nil_append, apartAll, Bool.and_eq_true, List.all_eq_true] at this
        exact this.1 _ (by simp)
      simp only [apart, hji, Bool.false_or, Bool.and_eq_true] at hap
      obtain ⟨⟨d1, d2⟩, d3⟩ := hap
      simp only [opsD, hoj, hoi]
      refine g3 S (fun s hs => ?_) _ (h3 _ (fun s hs => ?_) _ ?_)
      · rw [apply_of_not_mem]; intro hm; exact dis_spec d1 s hm hs
      · rw [apply_of_not_mem]; intro hm; exact dis_spec d3 s hm hs
      · rw [← apply_comm d2]
        refine opsD_tr g1 fun t ht => ?_
        rw [List.append_assoc, List.append_assoc, apartAll_append] at ht ⊢
        refine ⟨ht.1, ?_, ?_⟩
        · have h2 := ht.2.1
          simp only [List.cons_append, List.nil_append, apartAll, Bool.and_eq_true, List.all_eq_true, List.mem_cons, forall_eq_or_imp] at h2 ⊢
          refine ⟨⟨?_, h2.2.1⟩, h2.1.2, h2.2.2⟩
          have dc : ∀ {a b : List Nat}, dis a b = true → dis b a = true := by
            intro a b hd
            simp only [dis, List.all_eq_true]
            intro s hs
            simp
            exact fun h => dis_spec hd s h hs
          simp only [apart, Bool.or_eq_true, Bool.and_eq_true]
          exact .inr ⟨⟨d3, dc d2⟩, d1⟩
        · intro a ha b hb
          refine ht.2.2 a ha b ?_
          simp only [List.cons_append, List.nil_append, List.mem_cons] at hb ⊢
          rcases hb with h | h | h <;> simp [h]

theorem opsD_cons {tr : List Tr} {i : Nat} {l l' : List Nat} {S : St} (h : opsD X Γ ops bef tr (i :: l) S K) (hl : ∀ tr S, opsD X Γ ops bef tr l S K → opsD X Γ ops bef tr l' S K) : opsD X Γ ops bef tr (i :: l') S K := by
  simp only [opsD] at h ⊢
  split at h
  · exact h.elim
  · exact A.wpD_mono h fun R ws h => hl _ _ h

theorem opsD_front : ∀ {l1 : List Nat} {tr : List Tr} {i : Nat} {l2 : List Nat} {S : St}, opsD X Γ ops bef tr (l1 ++ i :: l2) S K → (∀ j, j ∈ l1 → (bef.getD i []).contains j = false) → opsD X Γ ops bef tr (i :: (l1 ++ l2)) S K
  | [], _, _, _, _, h, _ => h
  | j :: l1, tr, i, l2, S, h, hb => by
    have h2 : opsD X Γ ops bef tr (j :: i :: (l1 ++ l2)) S K := opsD_cons h fun tr S h => opsD_front h fun j hj => hb j (by simp [hj])
    exact opsD_swap h2 (hb j (by simp))

end
end Go.Own
