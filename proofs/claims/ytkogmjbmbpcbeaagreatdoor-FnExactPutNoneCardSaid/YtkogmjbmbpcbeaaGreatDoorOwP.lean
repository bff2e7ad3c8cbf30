/- A layer over the walk: what lies in memory as plain data, each operation by what it does to data; part 9. -/
import Derived.Test.YtkogmjbmbpcbeaaGreatDoorOwN
import Derived.Laws.Cover3
import Derived.WideLaws
set_option linter.unusedSectionVars false
set_option linter.unusedVariables false
set_option linter.unusedSimpArgs false
namespace Go.Own
variable [Glb]
open Go
variable {P : Program} {Γ : Env} {E : Entry} {S : St} {act : Act} {w : World} {X : Ctr} {Kt : Wr → Prop} {next : Act → World → Prop}
theorem zGo (ok : EnvOk P Γ) {dst : Option Nat} {t : TypeId} {x y : Operand} (h : (zEY Γ dst t x y).wp X S Kt) (hi : Inv Γ E S act w) (hn : z2V Γ E S Kt next) :
 ∃ v, (Instr.index t (act.eval x) (act.eval y)).run P w = .ok v w ∧ next (act.put dst v) w := by
 obtain ⟨hf, κ, V, hc, hb⟩ := hi
 obtain ⟨a, hk, ho⟩ := z0V h hc
 obtain ⟨b, hk, ho2⟩ := z0V hk hc
 cases a with
 | val τ d =>
   cases τ with
   | str =>
     cases b with
     | val τ2 n =>
       cases τ2 with
       | int k =>
         simp only [A.wp] at hk
         obtain ⟨⟨hT, h0, h1⟩, hk⟩ := hk
         obtain ⟨hv, hs⟩ := zDf ho
         obtain ⟨hv2, _⟩ := z5C ho2
         have hu : P.underlying t = some .string := by have := ok.fits t (by rw [hT]; rfl); rw [hT] at this; exact this
         have hlt : n.i.toNat < d.s.length := by omega
         have hb8 := (d.s[n.i.toNat]'hlt).toNat_lt
         refine ⟨_, ?_, z08 hk hf hc hb (z41 .u8 (byteAt d.s n.i.toNat) ?_) hn⟩
         ·rw [hv, hv2]
          simp only [Instr.index, asIntOf, Sem.run_bind, Sem.run_pure, Result.andThen_ok, run_underlying hu, if_pos h0]
          have : (mkS d.s)[n.i.toNat]? = some (d.s[n.i.toNat]'hlt) := by
           have h2 : n.i.toNat < (mkS d.s).size := by simpa using hlt
           rw [getElem?_pos (mkS d.s) n.i.toNat h2]; rfl
          rw [this]
          simp [byteAt, hlt]
         ·simp only [byteAt]
          rw [List.getD_eq_getElem?_getD, List.getElem?_eq_getElem hlt, Option.getD_some]
          simp [IntKind.min, IntKind.max, IntKind.signed, IntKind.bits]; omega
       | _ => exact hk.elim
     | _ => exact hk.elim
   | _ => exact hk.elim
 | _ => exact hk.elim
theorem zJh {dst : Option Nat} {x : Operand} (h : (zKw Γ dst x).wp X S Kt) (hi : Inv Γ E S act w) (hn : z2V Γ E S Kt next) :
 (∃ a, act.eval x = .pointer (some a)) ∧ next (act.put dst (act.eval x)) w := by
 obtain ⟨hf, κ, V, hc, hb⟩ := hi
 obtain ⟨a, hk, ho⟩ := z0V h hc
 cases a with
 | ptr r ver p =>
   obtain ⟨tr, dr, bx, hroot, hk⟩ := z0h hk
   simp only [A.wp] at hk
   obtain ⟨⟨hl, hok, hbx⟩, hk⟩ := hk
   obtain ⟨b, o, hloc, hv⟩ := ho.2 tr dr bx hroot hl hok
   refine ⟨⟨_, hv⟩, z08 hk hf hc hb ?_ hn⟩
   refine ⟨Ver.le_refl _, fun tr' dr' bx' hr' _ hok' => ?_⟩
   rw [hroot] at hr'; cases hr'
   exact ⟨b, o, hloc, hv⟩
 | val τ d =>
   cases τ with
   | ptr e =>
     have ho' := ho
     obtain ⟨hp, cs, ⟨_, hpe, b, o, arr, tt, fz, ke, rfl, hV, hh, hs, he⟩, hv⟩ := ho
     exact ⟨⟨_, hv⟩, z08 hk hf hc hb ho' hn⟩
   | _ => exact hk.elim
 | _ => exact hk.elim
theorem zIc {dst : Option Nat} {c x y : Operand} (h : (zHn Γ dst c x y).wp X S Kt) (hi : Inv Γ E S act w) (hn : z2V Γ E S Kt next) :
 ∃ b, act.eval c = .bool b ∧ next (act.put dst (if b then act.eval x else act.eval y)) w := by
 obtain ⟨hf, κ, V, hc, hb⟩ := hi
 obtain ⟨a0, hk, ho0⟩ := z0V h hc
 obtain ⟨a1, hk, ho1⟩ := z0V hk hc
 obtain ⟨a2, hk, ho2⟩ := z0V hk hc
 have two : ∀ {d : D} {a b : AV}, OV w.heap V S κ (act.eval c) (.val .bool d) → OV w.heap V S κ (act.eval x) a → OV w.heap V S κ (act.eval y) b → (if d.b = true then out Γ dst a else out Γ dst b).wp X S Kt →
  ∃ b, act.eval c = .bool b ∧ next (act.put dst (if b then act.eval x else act.eval y)) w := by
  intro d a b ho0 ho1 ho2 hk
  refine ⟨_, zBs ho0, ?_⟩
  by_cases hd : d.b = true
  ·rw [if_pos hd] at hk ⊢; exact z08 hk hf hc hb ho1 hn
  ·rw [if_neg hd] at hk ⊢; exact z08 hk hf hc hb ho2 hn
 have same : ∀ {d : D} {t d1 d2}, OV w.heap V S κ (act.eval c) (.val .bool d) → OV w.heap V S κ (act.eval x) (.val t d1) → OV w.heap V S κ (act.eval y) (.val t d2) → (out Γ dst (.val t (if d.b then d1 else d2))).wp X S Kt →
  ∃ b, act.eval c = .bool b ∧ next (act.put dst (if b then act.eval x else act.eval y)) w := by
  intro d t d1 d2 ho0 ho1 ho2 hk
  refine ⟨_, zBs ho0, z08 hk hf hc hb ?_ hn⟩
  cases d.b
  ·simpa using ho2
  ·simpa using ho1
 split at hk
 ·split at hk
  ·rename_i htu
   subst htu
   exact same ho0 ho1 ho2 hk
  ·exact two ho0 ho1 ho2 hk
 ·exact two ho0 ho1 ho2 hk
 ·exact hk.elim
theorem zLC {dst : Option Nat} {op : UnOp} {x : Operand} (h : (opUn Γ dst op x).wp X S Kt) (hi : Inv Γ E S act w) (hn : z2V Γ E S Kt next) :
 ∃ v, (Op.unary op (act.eval x)).run P w = .ok v w ∧ next (act.put dst v) w := by
 obtain ⟨hf, κ, V, hc, hb⟩ := hi
 obtain ⟨a, hk, ho⟩ := z0V h hc
 cases a with
 | val τ d =>
   cases op <;> cases τ <;> (try exact hk.elim)
   ·obtain ⟨hv, _⟩ := z5C ho
    exact ⟨_, by rw [hv]; rfl, z08 hk hf hc hb (z41 _ _ (z4B _ _)) hn⟩
   ·have hv := zBs ho
    exact ⟨_, by rw [hv]; rfl, z08 hk hf hc hb (z4r _) hn⟩
 | _ => cases op <;> exact hk.elim
theorem zIj {k : IntKind} {x : Int} (y : Int) (h : k.min ≤ x ∧ x ≤ k.max) : k.min ≤ x.tmod y ∧ x.tmod y ≤ k.max := by
 have h1 : (x.tmod y).natAbs ≤ x.natAbs := by rw [Int.natAbs_tmod]; exact Nat.mod_le _ _
 have h2 : 0 ≤ x → 0 ≤ x.tmod y := fun h => Int.tmod_nonneg y h
 have h3 : x ≤ 0 → x.tmod y ≤ 0 := by
  intro hx
  have := Int.tmod_nonneg y (show 0 ≤ -x by omega)
  rw [Int.neg_tmod] at this; omega
 have hm : k.min ≤ 0 ∧ 0 ≤ k.max := by cases k <;> simp [IntKind.min, IntKind.max, IntKind.signed, IntKind.bits]
 omega
theorem zIL {k : IntKind} {x : Int} (n : Nat) (h : k.min ≤ x ∧ x ≤ k.max) : k.min ≤ x.fdiv (2 ^ n) ∧ x.fdiv (2 ^ n) ≤ k.max := by
 have hp : (0 : Int) < 2 ^ n := Int.pow_pos (by omega)
 have hm : k.min ≤ 0 ∧ 0 ≤ k.max := by cases k <;> simp [IntKind.min, IntKind.max, IntKind.signed, IntKind.bits]
 rw [Int.fdiv_eq_ediv_of_nonneg _ (Int.le_of_lt hp)]
 by_cases hx : 0 ≤ x
 ·have h1 := Int.ediv_nonneg hx (Int.le_of_lt hp)
  have h2 := Int.ediv_le_self (2 ^ n : Int) hx
  omega
 ·have h1 : x / 2 ^ n ≤ 0 := by
   have := Int.ediv_neg_of_neg_of_pos (show x < 0 by omega) hp
   omega
  have h2 : x ≤ x / 2 ^ n := by
   rw [Int.le_ediv_iff_mul_le hp]
   have : (1 : Int) ≤ 2 ^ n := hp
   have := Int.mul_le_mul_of_nonpos_left (show x ≤ 0 by omega) this
   omega
  omega
theorem zEj {op : BinOp} {t : TypeId} {k : IntKind} {x y : Int} {p : Prop} {τ : T} {d : D} (hk : op ≠ .shl) (hk2 : op ≠ .shr) (hb : zEz op k x y = some (p, τ, d)) (hp : p) (hx : k.min ≤ x ∧ x ≤ k.max) (hy : k.min ≤ y ∧ y ≤ k.max) :
 ∃ v, (binOp op t (.int k x) (.int k y)).run P w = .ok v w ∧ ∀ {h V κ}, OV h V S κ v (.val τ d) := by
 cases op
 all_goals simp only [zEz, reduceCtorEq] at hb
 all_goals
  simp only [Option.some.injEq, Prod.mk.injEq] at hb
  obtain ⟨rfl, rfl, rfl⟩ := hb
 all_goals first
  | exact ⟨_, by simp only [binOp, Op.intArith, if_neg (fun h : k ≠ k => h rfl)]; rfl, fun {_ _ _} => z41 _ _ (z4B _ _)⟩
  | exact ⟨_, by simp only [binOp, Op.intDiv, if_neg (fun h : k ≠ k => h rfl), if_neg hp]; rfl, fun {_ _ _} => z41 _ _ (z4B _ _)⟩
  | exact ⟨_, by simp only [binOp, Op.intDiv, if_neg (fun h : k ≠ k => h rfl), if_neg hp]; rfl, fun {_ _ _} => z41 _ _ (zIj _ hx)⟩
  | exact ⟨_, by simp only [binOp, Op.intBits, if_neg (fun h : k ≠ k => h rfl)]; rfl, fun {_ _ _} => z41 _ _ (z4B _ _)⟩
  | exact ⟨_, by simp only [binOp, Op.intCmp, if_neg (fun h : k ≠ k => h rfl)]; rfl, fun {_ _ _} => z4r _⟩
theorem z5q {op : BinOp} {t : TypeId} {x y : Operand} {a b : Value} (h : (∃ k n, a = .int k n) ∨ (∃ s, a = .string s) ∨ (∃ s, a = .bool s) ∨ (∃ x y z, a = .slice x y z)) : (eqGuard op t x y a b).run P w = .ok () w := by
 rcases h with ⟨k, n, rfl⟩ | ⟨s, rfl⟩ | ⟨s, rfl⟩ | ⟨x, y, z, rfl⟩ <;> cases op <;> rfl
theorem zMT {h : Heap} {V : Nat → Prop} {S : St} {κ : Nat → K} {v : Value} {d : D} (ho : OV h V S κ v (.val .err d)) : ∃ e, d.b = e ∧ ErrV e v := by
 obtain ⟨_, cs, ⟨e, rfl, _, x, rfl, he⟩, hv⟩ := ho
 refine ⟨e, rfl, ?_⟩
 rw [hv]; exact he
theorem zJ4 {op : BinOp} {t : TypeId} {x : Operand} {e : Bool} {v : Value} {ms : Array (String × TypeId)} (hu : P.underlying t = some (.interface ms)) (hv : ErrV e v) :
 (eqGuard op t x (.const .nilIface) v .nilIface).run P w = .ok () w ∧ (Op.equal t v .nilIface).run P w = .ok (!e) w := by
 have hu' : P.underlying t = some (.interface (P.methodsAt t)) := by simp [Program.methodsAt, hu]
 rcases hv with ⟨rfl, rfl⟩ | ⟨rfl, tp, p, rfl⟩
 ·exact ⟨by cases op <;> simp [eqGuard], (run_equal_nil_nil w t hu')⟩
 ·exact ⟨by cases op <;> rfl, (run_equal_held_nil w t tp p hu')⟩
theorem zDx {t : TypeId} {e : Bool} {v : Value} (hv : ErrV e v) : (binOp .eql t v .nilIface).run P w = ((do pure (.bool (← Op.equal t v .nilIface))) : Sem Value).run P w := by
 rcases hv with ⟨rfl, rfl⟩ | ⟨rfl, tp, p, rfl⟩ <;> rfl
theorem zDy {t : TypeId} {e : Bool} {v : Value} (hv : ErrV e v) : (binOp .neq t v .nilIface).run P w = ((do pure (.bool (!(← Op.equal t v .nilIface)))) : Sem Value).run P w := by
 rcases hv with ⟨rfl, rfl⟩ | ⟨rfl, tp, p, rfl⟩ <;> rfl
theorem zIu (ok : EnvOk P Γ) {dst : Option Nat} {op : BinOp} {t : TypeId} {x y : Operand} (h : (zIb Γ dst op t x y).wp X S Kt) (hi : Inv Γ E S act w) (hn : z2V Γ E S Kt next) :
 ∃ v, (do eqGuard op t x y (act.eval x) (act.eval y); binOp op t (act.eval x) (act.eval y) : Sem Value).run P w = .ok v w ∧ next (act.put dst v) w := by
 obtain ⟨hf, κ, V, hc, hb⟩ := hi
 obtain ⟨a, hk, ho⟩ := z0V h hc
 obtain ⟨b, hk, ho2⟩ := z0V hk hc
 cases a with
 | val τ m =>
   cases b with
   | val τ2 n =>
     cases τ <;> cases τ2 <;> (try exact hk.elim)
     ·rename_i k k'
      obtain ⟨hv, hr⟩ := z5C ho
      obtain ⟨hv2, hr2⟩ := z5C ho2
      have hg : (eqGuard op t x y (act.eval x) (act.eval y)).run P w = .ok () w := z5q (.inl ⟨_, _, hv⟩)
      simp only [Sem.run_bind, hg, Result.andThen_ok]
      rw [hv, hv2]
      simp only at hk
      by_cases h1 : op = .shl
      ·rw [if_pos h1] at hk
       simp only [A.wp] at hk
       subst h1
       refine ⟨_, ?_, z08 hk.2 hf hc hb (z41 _ _ (z4B _ _)) hn⟩
       simp [binOp, Op.shift, show ¬ n.i < 0 from by omega]
      ·rw [if_neg h1] at hk
       by_cases h2 : op = .shr
       ·rw [if_pos h2] at hk
        simp only [A.wp] at hk
        subst h2
        refine ⟨_, ?_, z08 hk.2 hf hc hb (z41 _ _ (zIL _ hr)) hn⟩
        simp [binOp, Op.shift, show ¬ n.i < 0 from by omega]
       ·rw [if_neg h2] at hk
        simp only [A.wp] at hk
        obtain ⟨rfl, hk⟩ := hk
        split at hk
        ·rename_i p τ d hbin
         obtain ⟨v, hrun, hov⟩ := zEj (P := P) (S := S) (w := w) (t := t) h1 h2 hbin hk.1 hr hr2
         exact ⟨v, hrun, z08 hk.2 hf hc hb hov hn⟩
        ·exact hk.elim
     ·have hv := zBs ho
      have hv2 := zBs ho2
      have hg : (eqGuard op t x y (act.eval x) (act.eval y)).run P w = .ok () w := z5q (.inr (.inr (.inl ⟨_, hv⟩)))
      simp only [Sem.run_bind, hg, Result.andThen_ok]
      rw [hv, hv2]
      have hu : Γ.ty t = .bool → P.underlying t = some .bool := by
       intro hT; have := ok.fits t (by rw [hT]; rfl); rw [hT] at this; exact this
      cases op <;> simp only [A.wp] at hk <;> (try exact hk.elim)
      ·refine ⟨_, ?_, z08 hk.2 hf hc hb (z4r _) hn⟩
       exact run_eql_bool w t _ _ (hu hk.1)
      ·refine ⟨_, ?_, z08 hk.2 hf hc hb (z4r _) hn⟩
       exact run_neq_bool w t _ _ (hu hk.1)
     ·obtain ⟨hv, hs⟩ := zDf ho
      obtain ⟨hv2, hs2⟩ := zDf ho2
      have hg : (eqGuard op t x y (act.eval x) (act.eval y)).run P w = .ok () w := z5q (.inr (.inl ⟨_, hv⟩))
      simp only [Sem.run_bind, hg, Result.andThen_ok]
      rw [hv, hv2]
      simp only at hk
      split at hk
      ·rename_i p τ d hbin
       cases op
       all_goals simp only [zHL, reduceCtorEq] at hbin
       all_goals
        simp only [Option.some.injEq, Prod.mk.injEq] at hbin
        obtain ⟨rfl, rfl, rfl⟩ := hbin
       all_goals simp only [A.wp] at hk
       ·refine ⟨_, ?_, z08 hk.2 hf hc hb (zDk _ (by rw [List.length_append]; exact hk.1)) hn⟩
        have : ¬ ((m.s.length + n.s.length : Nat) : Int) > IntKind.i64.max := by
         have := hk.1; unfold smax at this
         simp [IntKind.max, IntKind.signed, IntKind.bits]; omega
        simp only [binOp, Op.stringOp, z4E, if_neg this, zIY]
        rfl
       all_goals
        refine ⟨_, ?_, z08 hk.2 hf hc hb (z4r _) hn⟩
        simp only [binOp, Op.stringOp, z5X]
        rfl
      ·exact hk.elim
     ·obtain ⟨e, he, hv⟩ := zMT ho
      have hu : Γ.ty t = .err → ∃ ms, P.underlying t = some (.interface ms) := by
       intro hT; have := ok.fits t (by rw [hT]; rfl); rw [hT] at this; exact this
      simp only at hk
      split at hk
      ·simp only [A.wp] at hk
       obtain ⟨ms, hms⟩ := hu hk.1
       obtain ⟨hg, hr⟩ := zJ4 (op := .eql) (x := x) hms hv
       refine ⟨.bool !m.b, ?_, z08 hk.2 hf hc hb (z4r _) hn⟩
       simp only [Sem.run_bind]
       rw [show act.eval (.const .nilIface) = .nilIface from rfl, hg, Result.andThen_ok]
       simp [zDx hv, hr, he]
      ·simp only [A.wp] at hk
       obtain ⟨ms, hms⟩ := hu hk.1
       obtain ⟨hg, hr⟩ := zJ4 (op := .neq) (x := x) hms hv
       refine ⟨.bool m.b, ?_, z08 hk.2 hf hc hb (z4r _) hn⟩
       simp only [Sem.run_bind]
       rw [show act.eval (.const .nilIface) = .nilIface from rfl, hg, Result.andThen_ok]
       simp [zDy hv, hr, he]
      ·exact hk.elim
   | nil =>
     cases τ with
     | lst o e =>
       obtain ⟨A, c, hv, hA⟩ := zKs ho
       have hv2 : act.eval y = .slice none 0 0 := ho2
       have hg : (eqGuard op t x y (act.eval x) (act.eval y)).run P w = .ok () w := z5q (.inr (.inr (.inr ⟨_, _, _, hv⟩)))
       simp only [Sem.run_bind, hg, Result.andThen_ok]
       rw [hv, hv2]
       have key : ∀ {k : Bool → Own.A}, (Own.A.two (m.l = []) k).wp X S Kt → (k A.isNone).wp X S Kt := by
        intro k h
        cases hA' : A.isNone with
        | true => exact h.1 (hA hA')
        | false => exact h.2
       cases op <;> simp only at hk <;> (try exact hk.elim)
       ·obtain ⟨et, hu, _⟩ := Fits.lst ok hk.1
        have := key (k := fun b => out Γ dst (.val .bool (.bool b))) hk.2
        refine ⟨.bool A.isNone, ?_, z08 this hf hc hb (z4r _) hn⟩
        simp only [binOp]; simp [run_equal_slice_nil w t et A _ c hu]
       ·obtain ⟨et, hu, _⟩ := Fits.lst ok hk.1
        have := key (k := fun b => out Γ dst (.val .bool (.bool !b))) hk.2
        refine ⟨.bool (!A.isNone), ?_, z08 this hf hc hb (z4r _) hn⟩
        simp only [binOp]; simp [run_equal_slice_nil w t et A _ c hu]
     | _ => exact hk.elim
   | _ => cases τ <;> exact hk.elim
 | _ => exact hk.elim
end Go.Own
namespace Go.Own
variable [Glb]
open Go
variable {P : Program} {Γ : Env} {E : Entry} {S : St} {act : Act} {w : World} {X : Ctr} {Kt : Wr → Prop} {next : Act → World → Prop}
theorem zE2 (t : Nat) : act.eval (.tmp t) = tmOf act t := rfl
theorem zEZ {dst : Option Nat} {a : AV} {v : Value} (h : (out Γ dst a).wp X S Kt) (hf : Fr Γ E act w) {κ V} (hc : Conc w.heap (tmOf act) V S κ) (hb : Bnd E V κ) {k : K}
 (hcv : ∀ d, dst = some d → CV w.heap V (S.put d ⟨a, (S d).v.kill⟩) (updK κ d k) d v a) (hnd : k.blocks.Nodup) (hdj : ∀ s b, b ∈ k.blocks → b ∉ (κ s).blocks) (hdv : ∀ b, b ∈ k.blocks → ¬ V b)
 (hbl : ∀ b, b ∈ k.blocks → b < w.heap.size) (hk : ∀ b, b ∈ k.blocks → b ∈ E.t ∨ E.w.heap.size ≤ b) (hn : z2V Γ E S Kt next) : next (act.put dst v) w := by
 unfold out at h
 cases dst with
 | none => exact hn [] _ _ h ⟨hf, κ, V, hc, hb⟩
 | some d =>
   simp only [A.wp] at h
   exact hn _ _ _ h.2 (Inv.set hf hc hb h.1.1 h.1.2.1 (hcv d rfl) hnd (fun s _ => hdj s) hdv hbl hk)
theorem zBr {dst : Option Nat} {ty : TypeId} {v : Value} (h : (nilTo Γ dst ty).wp X S Kt) (hf : Fr Γ E act w) {κ V} (hc : Conc w.heap (tmOf act) V S κ) (hb : Bnd E V κ) (hv : v = .slice none 0 0) (hn : z2V Γ E S Kt next) :
 next (act.put dst v) w := by
 unfold nilTo at h
 split at h
 ·exact zEZ h hf hc hb (k := .leaf) (fun d _ => ⟨_, ⟨[], rfl, .inl ⟨rfl, by simp, none, rfl, fun _ => rfl⟩⟩, hv⟩) (by simp [K.blocks]) (by simp [K.blocks]) (by simp [K.blocks]) (by simp [K.blocks]) (by simp [K.blocks]) hn
 ·exact h.elim
theorem zIZ {dst : Option Nat} {x : Operand} (h : (z7X Γ dst x).wp X S Kt) (hi : Inv Γ E S act w) (hn : z2V Γ E S Kt next) : next (act.put dst (act.eval x)) w := by
 obtain ⟨hf, κ, V, hc, hb⟩ := hi
 unfold z7X at h
 split at h
 ·rename_i t
  simp only [A.wp] at h
  have hcopy := hc.copy t
  have hcv := hc.cv t
  generalize hS : S t = c at h hcopy hcv
  obtain ⟨a, ver⟩ := c
  cases a with
  | tup u d =>
    cases dst with
    | none => exact h.elim
    | some s =>
      simp only [A.wp] at h
      obtain ⟨⟨hs, hfx, hne⟩, h⟩ := h
      have hcc := hc.set t (a := .undef) (k := .leaf) (v := tmOf act t) (by simp [CV]) (by simp [K.blocks]) (by simp [K.blocks]) (by simp [K.blocks]) (by simp [K.blocks])
      rw [z2l] at hcc
      have hb' : Bnd E V (updK κ t .leaf) := ⟨hb.v0, hb.v1, fun s' b hm => by
       by_cases hst : s' = t
       ·subst hst; simp [K.blocks] at hm
       ·rw [z09 _ _ hst] at hm; exact hb.k s' b hm⟩
      have hcv' : CV w.heap V ((S.put t ⟨.undef, (S t).v.kill⟩).put s ⟨.tup u d, ((S.put t ⟨.undef, (S t).v.kill⟩) s).v.kill⟩) (updK (updK κ t .leaf) s (κ t)) s (tmOf act t) (.tup u d) := by
       obtain ⟨cs, hr, vs, e1, e2⟩ := hcv
       exact ⟨cs, by simpa using hr, vs, e1, e2⟩
      have hset := Inv.set (d := s) (a := .tup u d) (k := κ t) (v := tmOf act t) hf hcc hb' hs hfx hcv' (hc.nd t)
       (by
         intro s' hs' b hm
         by_cases hst : s' = t
         ·subst hst; simp [K.blocks]
         ·rw [z09 _ _ hst]; exact hc.dj t s' (Ne.symm hst) b hm)
       (hc.dv t) (hc.bl t) (hb.k t)
      refine hn _ _ _ h ?_
      rw [St.put_other _ _ (Ne.symm hne), hS] at hset
      rw [zE2]; simpa [St.apply] using hset
  | _ => exact z08 h hf hc hb hcopy hn
 ·obtain ⟨a, hk, ho⟩ := z0V h hc
  exact z08 hk hf hc hb ho hn
theorem zEy {dst : Option Nat} {ty : TypeId} {x : Operand} (h : (z8e Γ dst ty x).wp X S Kt) (hi : Inv Γ E S act w) (hn : z2V Γ E S Kt next) : next (act.put dst (act.eval x)) w := by
 obtain ⟨hf, κ, V, hc, hb⟩ := hi
 cases dst with
 | none => exact h.elim
 | some s =>
   unfold z8e at h
   simp only at h
   split at h
   ·rename_i t
    simp only [A.wp] at h
    have hcopy := hc.copy t
    have hcv := hc.cv t
    generalize hS : S t = c at h hcopy hcv
    obtain ⟨a, ver⟩ := c
    cases a with
    | val u d =>
      simp only [A.wp] at h
      obtain ⟨⟨hs, hfx⟩, h⟩ := h
      by_cases hp : u.plain = true
      ·rw [if_pos hp] at h
       have ho : OV w.heap V S κ (act.eval (.tmp t)) (.val u d) := by rw [zE2]; simpa [z4n, hp] using hcopy
       exact hn _ _ _ h (Inv.plain hf hc hb hs hfx ho trivial)
      ·rw [if_neg hp] at h
       simp only [A.wp] at h
       obtain ⟨hne, h⟩ := h
       obtain ⟨cs, hr, e⟩ := hcv
       have hcc := hc.set t (a := .undef) (k := .leaf) (v := tmOf act t) (by simp [CV]) (by simp [K.blocks]) (by simp [K.blocks]) (by simp [K.blocks]) (by simp [K.blocks])
       rw [z2l] at hcc
       have hb' : Bnd E V (updK κ t .leaf) := ⟨hb.v0, hb.v1, fun s' b hm => by
        by_cases hst : s' = t
        ·subst hst; simp [K.blocks] at hm
        ·rw [z09 _ _ hst] at hm; exact hb.k s' b hm⟩
       have hset := Inv.set (d := s) (a := .val u d) (k := κ t) (v := tmOf act t) hf hcc hb' hs hfx ⟨cs, by simpa using hr, e⟩ (hc.nd t)
        (by
          intro s' hs' b hm
          by_cases hst : s' = t
          ·subst hst; simp [K.blocks]
          ·rw [z09 _ _ hst]; exact hc.dj t s' (Ne.symm hst) b hm)
        (hc.dv t) (hc.bl t) (hb.k t)
       refine hn _ _ _ h ?_
       rw [St.put_other _ _ (Ne.symm hne), hS] at hset
       rw [zE2]; simpa [St.apply] using hset
    | nil =>
      exact zBr h hf hc hb hcopy hn
    | undef => exact z08 h hf hc hb hcopy hn
    | tup _ _ => exact z08 h hf hc hb hcopy hn
    | box _ _ => exact z08 h hf hc hb hcopy hn
    | ref r v p u d =>
      simp only at h
      split at h
      ·simp only [A.wp] at h
       obtain ⟨⟨hsn, hfx⟩, h⟩ := h
       obtain ⟨ty', d', ws, κ', kx, h, ht⟩ := z4A h hc
       replace h := z3O h
       have hb' : Bnd E V κ' := ⟨hb.v0, hb.v1, fun s' b hm => hb.k s' b (ht.sub s' b hm)⟩
       have hset := Inv.set (d := s) (a := .val ty' d') (k := kx) (v := act.eval (.tmp t)) hf ht.conc hb' hsn hfx (by obtain ⟨cs, hr, e⟩ := ht.rep; exact ⟨cs, by simpa using hr, e⟩) ht.nd
        (fun s' _ b hm => ht.dj s' b hm) ht.dv (fun b hm => by obtain ⟨q, hq⟩ := ht.src b hm; exact hc.bl q b hq) (fun b hm => by obtain ⟨q, hq⟩ := ht.src b hm; exact hb.k q b hq)
       refine hn _ _ _ h ?_
       rw [St.apply_append]
       exact hset
      ·exact z08 h hf hc hb hcopy hn
    | win r v p e lo n =>
      simp only at h
      split at h
      ·simp only [A.wp] at h
       obtain ⟨⟨hsn, hfx⟩, h⟩ := h
       obtain ⟨ty', d', ws, κ', kx, h, ht⟩ := z4A h hc
       replace h := z3O h
       have hb' : Bnd E V κ' := ⟨hb.v0, hb.v1, fun s' b hm => hb.k s' b (ht.sub s' b hm)⟩
       have hset := Inv.set (d := s) (a := .val ty' d') (k := kx) (v := act.eval (.tmp t)) hf ht.conc hb' hsn hfx (by obtain ⟨cs, hr, e⟩ := ht.rep; exact ⟨cs, by simpa using hr, e⟩) ht.nd
        (fun s' _ b hm => ht.dj s' b hm) ht.dv (fun b hm => by obtain ⟨q, hq⟩ := ht.src b hm; exact hc.bl q b hq) (fun b hm => by obtain ⟨q, hq⟩ := ht.src b hm; exact hb.k q b hq)
       refine hn _ _ _ h ?_
       rw [St.apply_append]
       exact hset
      ·exact z08 h hf hc hb hcopy hn
    | ptr _ _ _ => exact z08 h hf hc hb hcopy hn
    | clo _ _ => exact z08 h hf hc hb hcopy hn
    | bref _ _ _ _ _ => exact z08 h hf hc hb hcopy hn
   ·obtain ⟨a, hk, ho⟩ := z0V h hc
    cases a with
    | nil => exact zBr hk hf hc hb ho hn
    | _ => exact z08 hk hf hc hb ho hn
end Go.Own
