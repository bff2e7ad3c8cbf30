/- A layer over the walk: what lies in memory as plain data, each operation by what it does to data; part 41. -/
import Derived.Test.YtajcjfickmmjcaaOwZ7
set_option linter.unusedVariables false
set_option linter.unusedSimpArgs false
namespace Go.Own
noncomputable section
open Go

@[simp] def Cl.none : Cl := ⟨.undef, ⟨0, 0, 0⟩⟩

/-- slots, as a list -/
def St.of (l : List Cl) : St := fun s => l.getD s Cl.none

@[simp] def setC : List Cl → Nat → Cl → List Cl
  | [], 0, c => [c]
  | [], n + 1, c => Cl.none :: setC [] n c
  | _ :: xs, 0, c => c :: xs
  | x :: xs, n + 1, c => x :: setC xs n c

@[simp] def getC : List Cl → Nat → Cl
  | [], _ => Cl.none
  | x :: _, 0 => x
  | _ :: xs, n + 1 => getC xs n

theorem getC_setC : ∀ (l : List Cl) (d i : Nat) (c : Cl), getC (setC l d c) i = if i = d then c else getC l i
  | [], 0, 0, c => by simp
  | [], 0, i + 1, c => by simp
  | [], d + 1, 0, c => by simp
  | [], d + 1, i + 1, c => by simp [getC_setC [] d i c]
  | x :: xs, 0, 0, c => by simp
  | x :: xs, 0, i + 1, c => by simp
  | x :: xs, d + 1, 0, c => by simp
  | x :: xs, d + 1, i + 1, c => by simp [getC_setC xs d i c]

theorem getC_eq : ∀ (l : List Cl) (i : Nat), l.getD i Cl.none = getC l i
  | [], i => by simp
  | x :: xs, 0 => by simp
  | x :: xs, i + 1 => by
    have := getC_eq xs i
    rw [getC, ← this]
    simp

@[simp] theorem St.of_get (l : List Cl) (s : Nat) : (St.of l) s = getC l s := getC_eq l s

@[simp] theorem St.of_put (l : List Cl) (d : Nat) (c : Cl) : (St.of l).put d c = St.of (setC l d c) := by
  funext i
  rw [St.of_get, getC_setC]
  simp [St.put]

@[simp] def startC : List Arg → List Cl
  | [] => []
  | a :: as => ⟨if a.m = .iop then .box a.t a.d else .val a.t a.d, ⟨0, 0, 0⟩⟩ :: startC as

theorem start_of : ∀ (as : List Arg), start as = St.of (startC as) := by
  intro as
  funext s
  rw [St.of_get]
  unfold start
  induction as generalizing s with
  | nil => simp [Cl.none]
  | cons a as ih =>
    cases s with
    | zero => simp
    | succ s => simpa using ih s

attribute [simp] Cl.setRoot A.wp A.wpD St.apply AV.off Cl.root liveRef livePtr

@[congr] theorem opsW_congr {X : Ctr} {Γ : Env} {ops : Array Oper} {is : List Nat} {S S' : St} {K : St → Prop} (h : S = S') : opsW X Γ ops is S K = opsW X Γ ops is S' K := by rw [h]
@[congr] theorem opsD_congr {X : Ctr} {Γ : Env} {ops : Array Oper} {bef : List (List Nat)} {tr tr' : List Tr} {is : List Nat} {S S' : St} {K : St → Prop} (ht : tr = tr') (h : S = S') : opsD X Γ ops bef tr is S K = opsD X Γ ops bef tr' is S' K := by rw [h, ht]
@[congr] theorem Ex_congr {P : Program} {Γ : Env} {E : Entry} {c : Code} {Q : Exit → St → Prop} {S S' : St} (h : S = S') : Ex P Γ E c Q S = Ex P Γ E c Q S' := by rw [h]

/-- a region's operations, as a list -/
def opsL (X : Ctr) (Γ : Env) (ops : Array Oper) : List Oper → St → (St → Prop) → Prop
  | [], S, K => K S
  | o :: os, S, K => (opG Γ ops o).wp X S fun ws => opsL X Γ ops os (S.apply ws) K

@[congr] theorem opsL_congr {X : Ctr} {Γ : Env} {ops : Array Oper} {os : List Oper} {S S' : St} {K : St → Prop} (h : S = S') : opsL X Γ ops os S K = opsL X Γ ops os S' K := by rw [h]

theorem opsL_nil {X : Ctr} {Γ : Env} {ops : Array Oper} {S : St} {K : St → Prop} (h : K S) : opsL X Γ ops [] S K := h
theorem opsL_cons {X : Ctr} {Γ : Env} {ops : Array Oper} {o : Oper} {os : List Oper} {S : St} {K : St → Prop} (h : (opG Γ ops o).wp X S fun ws => opsL X Γ ops os (S.apply ws) K) : opsL X Γ ops (o :: os) S K := h

theorem opsL_opsW {X : Ctr} {Γ : Env} {ops : Array Oper} {K : St → Prop} : ∀ (os : List Oper) (k : Nat) {S : St}, os = ops.toList.drop k → opsL X Γ ops os S K → opsW X Γ ops ((List.range os.length).map (· + k)) S K
  | [], k, S, _, h => h
  | o :: os, k, S, he, h => by
    have h0 : ops[k]? = some o := by
      have := congrArg (fun l : List Oper => l[0]?) he
      simpa using this.symm
    have ht : os = ops.toList.drop (k + 1) := by
      have := congrArg List.tail he
      simpa using this
    rw [List.length_cons, List.range_succ_eq_map, List.map_cons, List.map_map]
    simp only [opsW, Nat.zero_add, h0]
    refine A.wp_mono (fun ws hw => ?_) h
    have := opsL_opsW os (k + 1) ht hw
    rwa [show ((fun x => x + k) ∘ Nat.succ) = (fun x => x + (k + 1)) from by funext x; simp; omega]

theorem Ex.ops {P : Program} {Γ : Env} {E : Entry} {S : St} (ok : EnvOk P Γ) {Q : Exit → St → Prop} {id : Nat} {ops : Array Oper} (h : opsL (VX P) Γ ops ops.toList S (Q .normal)) : Ex P Γ E (.region id ops false) Q S := by
  refine Ex.region ok ?_
  have := opsL_opsW ops.toList 0 (by simp) h
  simpa using this

theorem opsW_nil {X : Ctr} {Γ : Env} {ops : Array Oper} {S : St} {K : St → Prop} : opsW X Γ ops [] S K = K S := rfl

/-- the next operation of a region -/
theorem opsW_cons {X : Ctr} {Γ : Env} {ops : Array Oper} {i : Nat} {is : List Nat} {S : St} {K : St → Prop} {o : Oper} (ho : ops[i]? = some o) (h : (opG Γ ops o).wp X S fun ws => opsW X Γ ops is (S.apply ws) K) : opsW X Γ ops (i :: is) S K := by
  simp only [opsW, ho]
  exact h

@[simp] theorem A.wp_ite {X : Ctr} {S : St} {K : Wr → Prop} {c : Prop} [Decidable c] {a b : A} : (if c then a else b).wp X S K ↔ (c → a.wp X S K) ∧ (¬ c → b.wp X S K) := by
  split <;> simp_all

end
end Go.Own
