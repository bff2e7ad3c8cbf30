/- A layer over the walk: what lies in memory as plain data, each operation by what it does to data; part 5. -/
import Derived.Test.YtkogmjbmbpcbeaaGreatDoorOwG4
set_option linter.unusedSectionVars false
set_option linter.unusedVariables false
set_option linter.unusedSimpArgs false
namespace Go.Own
open Go
def CapO (h : Heap) (V : Nat → Prop) (S : St) (κ : Nat → K) (v : Value) : Cap → Prop
 | .val t d => t.plain = true ∧ t.agg = false ∧ ∃ k cs, Rep h V t d k cs ∧ v = z0Q t cs
 | .ptr r ver p => PtrC S κ r ver p v
def OV (h : Heap) (V : Nat → Prop) (S : St) (κ : Nat → K) (v : Value) : AV → Prop
 | .nil => v = .slice none 0 0
 | .val t d => t.plain = true ∧ ∃ cs, Rep h V t d t.k0 cs ∧ v = z0Q t cs
 | .ref r ver p t d => RefC h V S κ r ver p t d v
 | .win r ver p e lo n => WinC S κ r ver p e lo n v
 | .ptr r ver p => PtrC S κ r ver p v
 | .clo f l => ∃ vs : Array Value, v = .func (.func f) #[] vs ∧ vs.size = l.length ∧ ∀ (i : Nat) (c : Cap), l[i]? = some c → ∃ u, vs[i]? = some u ∧ CapO h V S κ u c
 | .undef => True
 | _ => False
theorem Ver.le_refl (v : Ver) : v.le v := ⟨Nat.le_refl _, Nat.le_refl _, Nat.le_refl _⟩
theorem zMS (v : Ver) (m : Nat) : (nvp v m).le v := by
 cases m with
 | zero => exact ⟨Nat.le_refl _, Nat.zero_le _, Nat.zero_le _⟩
 | succ m => exact Ver.le_refl v
theorem Rep.toRef {h : Heap} {V : Nat → Prop} {t : T} : ∀ {d κ cs}, Rep h V t d κ cs → z1B h V t d κ cs := by
 induction t with
 | pair a b iha ihb =>
   rintro d κ cs ⟨d1, d2, κ1, κ2, c1, c2, rfl, rfl, rfl, h1, h2⟩
   exact ⟨c1, c2, rfl, rfl, iha h1, ihb h2⟩
 | lst o e ih =>
   intro d κ cs hr
   cases o with
   | false =>
     have hr' := hr
     obtain ⟨xs, _, ⟨_, hk, _⟩ | ⟨b, off, c, arr, ty, fz, ks, _, _, _, _, _, ho⟩⟩ := hr'
     ·subst hk; exact hr
     ·simp at ho; obtain ⟨_, hk, _⟩ := ho; subst hk; exact hr
   | true =>
     obtain ⟨xs, rfl, ⟨_, hk, hc⟩ | ⟨b, off, c, arr, ty, fz, ks, hc, _, _, _, _, ho⟩⟩ := hr
     ·obtain ⟨A, rfl, hA⟩ := hc
      rw [hA rfl]
      exact .inl ⟨hk, rfl⟩
     ·simp at ho; exact .inr ⟨b, off, c, xs.length, ks, ho.2, hc⟩
 | unit => intro d κ cs hr; obtain ⟨_, rfl, _⟩ := id hr; exact hr
 | int k => intro d κ cs hr; obtain ⟨_, _, rfl, _⟩ := id hr; exact hr
 | bool => intro d κ cs hr; obtain ⟨_, _, rfl, _⟩ := id hr; exact hr
 | str => intro d κ cs hr; obtain ⟨_, _, rfl, _⟩ := id hr; exact hr
 | ptr e ih => intro d κ cs hr; obtain ⟨rfl, _⟩ := id hr; exact hr
 | fn f c ih => intro d κ cs hr; obtain ⟨rfl, _⟩ := id hr; exact hr
 | err => intro d κ cs hr; obtain ⟨_, _, rfl, _⟩ := id hr; exact hr
 | gone => intro d κ cs hr; obtain ⟨rfl, _⟩ := id hr; exact hr
theorem Conc.copy {h : Heap} {tm V S κ} (hc : Conc h tm V S κ) (t : Nat) : OV h V S κ (tm t) (z4n t (S t)) := by
 have hcv := hc.cv t
 generalize hS : S t = c at hcv
 obtain ⟨a, v⟩ := c
 cases a with
 | undef => trivial
 | nil => exact hcv.2
 | val ty d =>
   obtain ⟨cs, hr, e⟩ := hcv
   show OV h V S κ (tm t) (if ty.plain = true then .val ty d else zLs t v ty d)
   by_cases hp : ty.plain = true
   ·rw [if_pos hp]
    exact ⟨hp, cs, by rw [← hr.plain_leaf hp]; exact hr, e⟩
   ·rw [if_neg hp]
    have gen : ∀ ver : Ver, ver.le v → (ver.id = v.id ∧ ver.v0 = v.v0) → ∀ d', z1B h V ty d' (κ t) cs → OV h V S κ (tm t) (.ref t ver [] ty d') := by
     intro ver hle _ d' hrr
     refine ⟨by rw [hS]; exact hle, fun tr dr bx hroot _ ht hok => ⟨cs, ?_, e⟩⟩
     rw [hS] at hroot
     cases hroot
     exact hrr
    unfold zLs
    split
    ·exact gen ⟨v.id, v.v0, 0⟩ ⟨Nat.le_refl _, Nat.le_refl _, Nat.zero_le _⟩ ⟨rfl, rfl⟩ (.lst []) hr.toRef
    ·exact gen _ (Ver.le_refl _) ⟨rfl, rfl⟩ _ hr.toRef
 | tup ty d => trivial
 | box ty d =>
   obtain ⟨b, κ0, arr, ty', hk, e, hh, hr⟩ := hcv
   refine ⟨by rw [hS]; exact ⟨Nat.le_refl _, Nat.zero_le _, Nat.zero_le _⟩, fun tr dr bx hroot _ hok => ⟨b, 0, ?_, e⟩⟩
   rw [hS] at hroot
   cases hroot
   simp [loc, addr, hk]
 | bref ty d r ver p =>
   obtain ⟨b, κ0, arr, ty', hk, e, hh, hr, _⟩ := hcv
   refine ⟨by rw [hS]; exact ⟨Nat.le_refl _, Nat.zero_le _, Nat.zero_le _⟩, fun tr dr bx hroot _ hok => ⟨b, 0, ?_, e⟩⟩
   rw [hS] at hroot
   cases hroot
   simp [loc, addr, hk]
 | ref r ver p ty d => exact hcv.2.2
 | win r ver p e lo n => exact hcv.2.2
 | ptr r ver p => exact hcv.2.2
 | clo f l =>
   obtain ⟨_, vs, e, hl, hcs⟩ := hcv
   refine ⟨vs, e, hl, fun i c hi => ?_⟩
   obtain ⟨u, hu, hcc⟩ := hcs i c hi
   refine ⟨u, hu, ?_⟩
   cases c with
   | val t d => exact hcc
   | ptr r ver p => exact hcc.2
class Glb where
 ok : Heap → (Nat → Prop) → Prop
 stable : ∀ {h h' : Heap} {V V' : Nat → Prop}, ok h V → (∀ b, V b → h'[b]? = h[b]?) → (∀ b, V b → V' b) → ok h' V'
variable [Glb]
structure Entry where
 w : World
 V : Nat → Prop
 t : List Nat
 args : Array Value
 g : Glb.ok w.heap V
 lt : ∀ b, V b → b < w.heap.size
 dv : ∀ b, b ∈ t → ¬ V b
structure Same (w w' : World) : Prop where
 os : w'.os = w.os
 tape : w'.tape = w.tape
 output : w'.output = w.output
structure Bnd (E : Entry) (V : Nat → Prop) (κ : Nat → K) : Prop where
 v0 : ∀ b, E.V b → V b
 v1 : ∀ b, V b → E.V b ∨ b ∈ E.t ∨ E.w.heap.size ≤ b
 k : ∀ s b, b ∈ (κ s).blocks → b ∈ E.t ∨ E.w.heap.size ≤ b
structure Fr (Γ : Env) (E : Entry) (act : Act) (w : World) : Prop where
 same : Same E.w w
 frame : ∀ b, b < E.w.heap.size → b ∉ E.t → w.heap[b]? = E.w.heap[b]?
 size : E.w.heap.size ≤ w.heap.size
 n : act.tmps.size = Γ.n
 fx : ∀ i ∈ Γ.fx, act.tmps[i]? = E.args[i]?
 df : act.defers = []
theorem Fr.glob {Γ : Env} {E : Entry} {act : Act} {w : World} (hf : Fr Γ E act w) {V : Nat → Prop} (hV : ∀ b, E.V b → V b) : Glb.ok w.heap V :=
 Glb.stable E.g (fun b hb => hf.frame b (E.lt b hb) (fun hm => E.dv b hm hb)) hV
def tmOf (act : Act) : Nat → Value := fun s => act.tmps.getD s undef
structure Inv (Γ : Env) (E : Entry) (S : St) (act : Act) (w : World) : Prop where
 fr : Fr Γ E act w
 ex : ∃ κ V, Conc w.heap (tmOf act) V S κ ∧ Bnd E V κ
theorem zEs {act : Act} {d : Nat} {v : Value} (h : d < act.tmps.size) : tmOf (act.put (some d) v) = updV (tmOf act) d v := by
 funext s
 unfold tmOf updV Act.put
 by_cases hs : s = d
 ·subst hs; simp [Array.getD, h]
 ·simp [hs, Array.getD_eq_getD_getElem?, Array.getElem?_setIfInBounds, Ne.symm hs]
theorem CV.of_ov {h : Heap} {V S κ v a} {s : Nat} {c : Cl} (ho : OV h V S κ v a) (hoff : a.off s) :
 ∃ k, k.blocks = [] ∧ CV h V (S.put s c) (updK κ s k) s v a := by
 have e1 : ∀ {r}, r ≠ s → (S.put s c) r = S r := fun h => St.put_other S c h
 have e2 : ∀ {r} {k : K}, r ≠ s → (updK κ s k) r = κ r := fun h => z09 κ _ h
 cases a with
 | undef => exact ⟨.leaf, rfl, by simp [CV]⟩
 | nil => exact ⟨.leaf, rfl, by simp, ho⟩
 | val t d =>
   obtain ⟨hp, cs, hr, e⟩ := ho
   exact ⟨t.k0, T.k0_blocks t, cs, by simpa using hr, e⟩
 | tup t d => exact ho.elim
 | box t d => exact ho.elim
 | bref t d r ver p => exact ho.elim
 | ref r ver p t d =>
   have hoff' : r ≠ s := hoff
   refine ⟨.leaf, rfl, by simp, hoff, ?_⟩
   have ho' : RefC h V S κ r ver p t d v := ho
   unfold RefC at *; rw [e1 hoff', e2 hoff']; exact ho'
 | win r ver p e lo n =>
   have hoff' : r ≠ s := hoff
   refine ⟨.leaf, rfl, by simp, hoff, ?_⟩
   have ho' : WinC S κ r ver p e lo n v := ho
   unfold WinC at *; rw [e1 hoff', e2 hoff']; exact ho'
 | ptr r ver p =>
   have hoff' : r ≠ s := hoff
   refine ⟨.leaf, rfl, by simp, hoff, ?_⟩
   have ho' : PtrC S κ r ver p v := ho
   unfold PtrC at *; rw [e1 hoff', e2 hoff']; exact ho'
 | clo f l =>
   obtain ⟨vs, e, hl, hcs⟩ := ho
   refine ⟨.leaf, rfl, by simp, vs, e, hl, fun i cc hi => ?_⟩
   obtain ⟨u, hu, hcc⟩ := hcs i cc hi
   refine ⟨u, hu, ?_⟩
   cases cc with
   | val t d => exact hcc
   | ptr r ver p =>
     have hoff' : r ≠ s := hoff _ (List.mem_of_getElem? hi)
     refine ⟨hoff', ?_⟩
     have ho' : PtrC S κ r ver p u := hcc
     unfold PtrC at *; rw [e1 hoff', e2 hoff']; exact ho'
variable {P : Program} {Γ : Env} {E : Entry} {S : St} {act : Act} {w : World} {X : Ctr}
theorem Inv.set (hi : Fr Γ E act w) {κ V} (hc : Conc w.heap (tmOf act) V S κ) (hb : Bnd E V κ) {d : Nat} (hd : d < Γ.n) (hfx : d ∉ Γ.fx) {a : AV} {k : K} {v : Value}
 (hcv : CV w.heap V (S.put d ⟨a, (S d).v.kill⟩) (updK κ d k) d v a) (hnd : k.blocks.Nodup) (hdj : ∀ s, s ≠ d → ∀ b, b ∈ k.blocks → b ∉ (κ s).blocks) (hdv : ∀ b, b ∈ k.blocks → ¬ V b)
 (hbl : ∀ b, b ∈ k.blocks → b < w.heap.size) (hk : ∀ b, b ∈ k.blocks → b ∈ E.t ∨ E.w.heap.size ≤ b) : Inv Γ E (S.put d ⟨a, (S d).v.kill⟩) (act.put (some d) v) w := by
 have hsz : d < act.tmps.size := by rw [hi.n]; exact hd
 refine ⟨⟨hi.same, hi.frame, hi.size, by simp [Act.put, hi.n], ?_, hi.df⟩, updK κ d k, V, ?_, ?_⟩
 ·intro i him
  rw [← hi.fx i him]
  have : d ≠ i := fun e => hfx (e ▸ him)
  simp [Act.put, Array.getElem?_setIfInBounds, this]
 ·rw [zEs hsz]
  exact hc.set d hcv hnd hdj hdv hbl
 ·refine ⟨hb.v0, hb.v1, fun s b hm => ?_⟩
  by_cases hs : s = d
  ·subst hs; rw [z0U] at hm; exact hk b hm
  ·rw [z09 _ _ hs] at hm; exact hb.k s b hm
theorem Inv.plain (hi : Fr Γ E act w) {κ V} (hc : Conc w.heap (tmOf act) V S κ) (hb : Bnd E V κ) {d : Nat} (hd : d < Γ.n) (hfx : d ∉ Γ.fx) {a : AV} {v : Value} (ho : OV w.heap V S κ v a) (hoff : a.off d) :
 Inv Γ E (S.put d ⟨a, (S d).v.kill⟩) (act.put (some d) v) w := by
 obtain ⟨k, hk, hcv⟩ := CV.of_ov (c := ⟨a, (S d).v.kill⟩) ho hoff
 exact Inv.set hi hc hb hd hfx hcv (by simp [hk]) (by simp [hk]) (by simp [hk]) (by simp [hk]) (by simp [hk])
end Go.Own
