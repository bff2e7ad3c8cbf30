/- A layer over the walk: what lies in memory as plain data, each operation by what it does to data; part 37. -/
import Derived.Test.YtajcjfickmmjcaaOwZ3
set_option linter.unusedVariables false
set_option linter.unusedSimpArgs false
namespace Go.Own
noncomputable section
open Go

variable {P : Program} {Γ : Env} {E : Entry} {S : St} {act : Act} {w : World} {X : Ctr} {ops : Array Oper} {K : St → Prop} {md : Region.Mode} {Q : Exit → Act → World → Prop}

def ancF (md : Region.Mode) (acc : List (List Nat)) (o : Oper) : List Nat := (o.after.toList.filter (Region.binds md)).flatMap fun e => e.on :: acc.getD e.on []

theorem ancs_fold : ∀ (l : List Oper) (acc : List (List Nat)),
    let r := l.foldl (fun acc o => acc ++ [ancF md acc o]) acc
    r.take acc.length = acc ∧ ∀ i o, l[i]? = some o → r[acc.length + i]? = some (ancF md (r.take (acc.length + i)) o)
  | [], acc => by simp
  | o :: l, acc => by
    simp only [List.foldl_cons]
    obtain ⟨h1, h2⟩ := ancs_fold l (acc ++ [ancF md acc o])
    generalize hr : l.foldl (fun acc o => acc ++ [ancF md acc o]) (acc ++ [ancF md acc o]) = r at h1 h2 ⊢
    simp only [List.length_append, List.length_cons, List.length_nil, Nat.zero_add] at h1 h2
    have ht : r.take acc.length = acc := by
      have := congrArg (List.take acc.length) h1
      rw [List.take_take, Nat.min_eq_left (by omega)] at this
      simpa using this
    refine ⟨ht, fun i o' hi => ?_⟩
    cases i with
    | zero =>
      simp at hi; subst hi
      rw [Nat.add_zero, ht]
      have := congrArg (fun l : List (List Nat) => l[acc.length]?) h1
      simpa [List.getElem?_take] using this
    | succ i =>
      simp at hi
      have := h2 i o' hi
      rw [show acc.length + (i + 1) = acc.length + 1 + i by omega]
      exact this

theorem ancs_spec {i : Nat} {o : Oper} (ho : ops[i]? = some o) : ∀ x, x ∈ (ancs md ops.toList).getD i [] ↔ ∃ e, e ∈ o.after ∧ Region.binds md e = true ∧ (x = e.on ∨ (e.on < i ∧ x ∈ (ancs md ops.toList).getD e.on [])) := by
  intro x
  obtain ⟨_, h⟩ := ancs_fold (md := md) ops.toList []
  have h2 := h i o (by simpa using ho)
  simp only [List.length_nil, Nat.zero_add] at h2
  change (ancs md ops.toList)[i]? = some (ancF md ((ancs md ops.toList).take i) o) at h2
  rw [List.getD_eq_getElem?_getD, h2, Option.getD_some]
  simp only [ancF, List.mem_flatMap, List.mem_filter, List.mem_cons]
  constructor
  · rintro ⟨e, ⟨h1, h2⟩, h3⟩
    refine ⟨e, by simpa using h1, h2, h3.imp id fun h => ?_⟩
    rw [List.getD_eq_getElem?_getD, List.getElem?_take] at h
    split at h
    · rename_i hl; exact ⟨hl, by rw [List.getD_eq_getElem?_getD]; exact h⟩
    · simp at h
  · rintro ⟨e, h1, h2, h3⟩
    refine ⟨e, ⟨by simpa using h1, h2⟩, h3.imp id fun ⟨hl, h⟩ => ?_⟩
    rw [List.getD_eq_getElem?_getD, List.getElem?_take, if_pos hl, ← List.getD_eq_getElem?_getD]
    exact h

def Down (md : Region.Mode) (ops : Array Oper) (listed : Array Bool) : Prop :=
  ∀ x o, listed.getD x false = true → ops[x]? = some o → ∀ e, e ∈ o.after → Region.binds md e = true → listed.getD e.on false = true

theorem Down.anc {listed : Array Bool} (hd : Down md ops listed) : ∀ (i : Nat) o, ops[i]? = some o → (∀ e, e ∈ o.after → Region.binds md e = true → listed.getD e.on false = true) → ∀ x, x ∈ (ancs md ops.toList).getD i [] → listed.getD x false = true := by
  intro i
  induction i using Nat.strongRecOn with
  | ind i ih =>
    intro o ho he x hx
    obtain ⟨e, h1, h2, rfl | ⟨hl, h3⟩⟩ := (ancs_spec ho x).1 hx
    · exact he e h1 h2
    · have hon := he e h1 h2
      have hlt : e.on < ops.size := Nat.lt_trans hl (Array.getElem?_eq_some_iff.1 ho).1
      exact ih e.on hl ops[e.on] (by simp [hlt]) (fun e' h4 h5 => hd e.on _ hon (by simp [hlt]) e' h4 h5) x h3

def downB (md : Region.Mode) (ops : Array Oper) : Bool := (List.range ops.size).all fun i => match ops[i]? with
  | none => true
  | some o => o.after.all fun e => !Region.binds md e || decide (e.on < i)

theorem downB_spec (h : downB md ops = true) {i : Nat} {o : Oper} (ho : ops[i]? = some o) : ∀ e, e ∈ o.after → Region.binds md e = true → e.on < i := by
  intro e he hb
  simp only [downB, List.all_eq_true, List.mem_range] at h
  have := h i (Array.getElem?_eq_some_iff.1 ho).1
  simp only [ho, Array.all_eq_true_iff_forall_mem] at this
  have := this e he
  simpa [hb] using this

theorem any_sound (ok : EnvOk P Γ) (hdn : downB md ops = true) : ∀ (fuel : Nat) (listed : Array Bool) (l : List Nat) (S : St) (act : Act) (w : World) (tr : List Tr),
    opsD (VX P) Γ ops (ancs md ops.toList) tr l S K → listed.size = ops.size → (∀ i, i ∈ l ↔ i < ops.size ∧ listed.getD i true = false) → l.Nodup → l.length = fuel → Down md ops listed → Inv Γ E S act w →
    (∀ S act w, K S → Inv Γ E S act w → Q .normal act w) → wpAny P md ops Q fuel listed act w
  | 0, listed, l, S, act, w, tr, h, hsz, hl, hnd, hlen, hd, hi, hn => by
    cases l with
    | cons _ _ => simp at hlen
    | nil =>
      refine wpAny_done ?_ (hn _ _ _ h.2 hi) 0
      refine List.eq_nil_iff_forall_not_mem.2 fun i hr => ?_
      obtain ⟨h0, o, ho, _⟩ := mem_ready.1 hr
      have := (hl i).2 ⟨(Array.getElem?_eq_some_iff.1 ho).1, h0⟩
      simp at this
  | fuel + 1, listed, l, S, act, w, tr, h, hsz, hl, hnd, hlen, hd, hi, hn => by
    refine ⟨fun hr => ?_, fun i hr => ?_⟩
    · -- the first that is not listed is ready
      exfalso
      have hex : ∃ i, i ∈ l := by cases l with | nil => simp at hlen | cons a _ => exact ⟨a, by simp⟩
      have key : ∀ i, i ∈ l → False := by
        intro i
        induction i using Nat.strongRecOn with
        | ind i ih =>
          intro hm
          obtain ⟨hlt, h0⟩ := (hl i).1 hm
          have : i ∈ Region.ready md ops listed := by
            refine mem_ready.2 ⟨h0, ops[i], by simp [hlt], fun e he hb => ?_⟩
            have hon := downB_spec hdn (i := i) (o := ops[i]) (by simp [hlt]) e he hb
            by_cases h1 : listed.getD e.on true = false
            · exact (ih e.on hon ((hl e.on).2 ⟨by omega, h1⟩)).elim
            · have hlt2 : e.on < listed.size := by omega
              simp [hlt2] at h1 ⊢
              exact h1
          rw [hr] at this
          simp at this
      obtain ⟨i, hm⟩ := hex
      exact key i hm
    · obtain ⟨h0, o, ho, hall⟩ := mem_ready.1 hr
      have hlt := (Array.getElem?_eq_some_iff.1 ho).1
      have hm := (hl i).2 ⟨hlt, h0⟩
      obtain ⟨l1, l2, rfl⟩ := List.append_of_mem hm
      have hfr := opsD_front h fun j hj => by
        cases hc : ((ancs md ops.toList).getD i []).contains j with
        | false => rfl
        | true =>
          exfalso
          have h1 := hd.anc i o ho hall j (by simpa using hc)
          have h2 := ((hl j).1 (by simp [hj])).2
          have hjs : j < listed.size := by rw [hsz]; exact ((hl j).1 (by simp [hj])).1
          simp [hjs] at h1 h2
          rw [h1] at h2; cases h2
      simp only [opsD] at hfr
      simp only [ho] at hfr
      refine opG_sound ok ho (A.wpD_wp hfr (K' := fun ws => ∃ tr, opsD (VX P) Γ ops (ancs md ops.toList) tr (l1 ++ l2) (S.apply ws) K) fun R ws h => ⟨_, h⟩) hi ?_
      rintro ws act' w' ⟨tr', htr⟩ hi'
      have hnd' := hnd
      rw [List.nodup_append, List.nodup_cons] at hnd
      refine any_sound ok hdn fuel _ (l1 ++ l2) _ act' w' tr' htr (by simp [hsz]) ?_ ?_ (by simp at hlen ⊢; omega) ?_ hi' hn
      · intro j
        by_cases hji : j = i
        · subst hji
          constructor
          · intro hm'
            simp only [List.mem_append] at hm'
            exact (hm'.elim (fun h => hnd.2.2 _ h _ (by simp) rfl) (fun h => hnd.2.1.1 h)).elim
          · rintro ⟨h1, h2⟩
            rw [← hsz] at h1
            simp [h1] at h2
        · rw [getD_set_ne true (Ne.symm hji), ← hl j]
          simp [hji]
      · refine hnd'.sublist ?_
        simp
      · intro x o' hx ho' e he hb
        refine getD_set_true ?_
        by_cases hxi : x = i
        · subst hxi
          rw [ho] at ho'; cases ho'
          exact hall e he hb
        · rw [getD_set_ne false (Ne.symm hxi)] at hx
          exact hd x o' hx ho' e he hb

theorem Inv.drawn (hi : Inv Γ E S act w) : Inv Γ E S act { w with drawn := w.drawn + 1 } :=
  ⟨⟨⟨hi.fr.same.os, hi.fr.same.tape, hi.fr.same.output⟩, hi.fr.frame, hi.fr.size, hi.fr.n, hi.fr.fx, hi.fr.df⟩, hi.ex⟩

theorem Ex.draw (ok : EnvOk P Γ) {Q : Exit → St → Prop} {id : Nat} (hdn : downB .any ops = true) (h : opsD (VX P) Γ ops (ancs .any ops.toList) [] (List.range ops.size) S (Q .normal)) : Ex P Γ E (.region id ops true) Q S := by
  intro act w hi
  refine wp_region_any ok.mixed (any_sound ok hdn ops.size _ (List.range ops.size) S _ _ [] h (by simp) ?_ List.nodup_range (by simp) ?_ hi.drawn fun S' _ _ h1 h2 => ⟨S', h1, h2⟩)
  · intro i
    simp only [List.mem_range]
    constructor
    · intro h; exact ⟨h, by simp [h]⟩
    · exact fun h => h.1
  · intro x o hx ho
    have := (Array.getElem?_eq_some_iff.1 ho).1
    simp [this] at hx

end
end Go.Own
