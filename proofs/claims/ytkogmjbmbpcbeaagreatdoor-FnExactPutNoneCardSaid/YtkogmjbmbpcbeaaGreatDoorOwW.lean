/- A layer over the walk: what lies in memory as plain data, each operation by what it does to data; part 14. -/
import Derived.Test.YtkogmjbmbpcbeaaGreatDoorOwV2
set_option linter.unusedSectionVars false
set_option linter.unusedVariables false
set_option linter.unusedSimpArgs false
namespace Go.Own
variable [Glb]
open Go
variable {P : Program} {Γ : Env} {E : Entry} {S : St} {act : Act} {w : World} {X : Ctr} {Kt : Wr → Prop} {next : Act → World → Prop}
def ArgV (h : Heap) (V : Nat → Prop) (a : Arg) (κ : K) (v : Value) : Prop :=
 match a.m with
 | .iop => ∃ b κ0 arr ty, κ = .lst b 0 1 1 (fun _ => κ0) ∧ v = .pointer (some ⟨b, 0, none⟩) ∧ h[b]? = some (.cells arr ty (0, 0)) ∧ Rep h V a.t a.d κ0 arr.toList
 | .vw => a.t.plain = true ∧ ∃ cs, Rep h V a.t a.d κ cs ∧ v = z0Q a.t cs
 | _ => ∃ cs, Rep h V a.t a.d κ cs ∧ v = z0Q a.t cs
def ResV (h : Heap) (V : Nat → Prop) (κ : K) (v : Value) : Res → Prop
 | .one t d => ∃ cs, Rep h V t d κ cs ∧ v = z0Q t cs
 | .many t d => ∃ cs, Rep h V t d κ cs ∧ ∃ vs, v = .tuple vs ∧ ∀ j, t.has j = true → vs[j]? = some (z0Q (t.fld j) ((cs.drop (t.off j)).take (t.fld j).size))
def z4C (P : Program) (g : FuncId) : Prop := ∃ fn, P.funcs[g]? = some fn ∧ (fn.name == "runtime.NumGoroutine") = false ∧ fn.body.isNone = false
structure Pre (h : Heap) (V : Nat → Prop) (as : List Arg) (κs : Nat → K) (vs : List Value) : Prop where
 len : vs.length = as.length
 arg : ∀ (i : Nat) a v, as[i]? = some a → vs[i]? = some v → ArgV h V a (κs i) v
 nd : ∀ i, i < as.length → (κs i).blocks.Nodup
 dj : ∀ i j, i < as.length → j < as.length → i ≠ j → ∀ b, b ∈ (κs i).blocks → b ∉ (κs j).blocks
 dv : ∀ i, i < as.length → ∀ b, b ∈ (κs i).blocks → ¬ V b
 lt : ∀ b, V b → b < h.size
structure Post' (w w' : World) (V V' : Nat → Prop) (as : List Arg) (κs : Nat → K) (vs : List Value) (res : Res) (outs : List D) (κr : K) (κo : Nat → K) (v : Value) : Prop where
 same : Same w w'
 size : w.heap.size ≤ w'.heap.size
 frame : ∀ b, b < w.heap.size → (∀ i, i < as.length → b ∉ (κs i).blocks) → w'.heap[b]? = w.heap[b]?
 v0 : ∀ b, V b → V' b
 v1 : ∀ b, V' b → V b ∨ (∃ i, i < as.length ∧ b ∈ (κs i).blocks) ∨ w.heap.size ≤ b
 lt : ∀ b, V' b → b < w'.heap.size
 res : ResV w'.heap V' κr v res
 nd : κr.blocks.Nodup
 src : ∀ b, b ∈ κr.blocks → (∃ i, i < as.length ∧ b ∈ (κs i).blocks) ∨ w.heap.size ≤ b
 dv : ∀ b, b ∈ κr.blocks → ¬ V' b
 out : ∀ (i : Nat) a u, as[i]? = some a → vs[i]? = some u → (a.m = .io ∨ a.m = .iop) → ArgV w'.heap V' { a with d := outs.getD i .unit } (κo i) u
 ond : ∀ i, i < as.length → (κo i).blocks.Nodup
 osrc : ∀ i, i < as.length → ∀ b, b ∈ (κo i).blocks → (∃ i, i < as.length ∧ b ∈ (κs i).blocks) ∨ w.heap.size ≤ b
 odv : ∀ i, i < as.length → ∀ b, b ∈ (κo i).blocks → ¬ V' b
 odj : ∀ i, i < as.length → ∀ b, b ∈ (κo i).blocks → b ∉ κr.blocks
def z87 (P : Program) (g : FuncId) (as : List Arg) (Post : Res → List D → Prop) : Prop :=
 ∀ (w : World) (V : Nat → Prop) (κs : Nat → K) (vs : List Value), Pre w.heap V as κs vs → Glb.ok w.heap V →
  Calls P g vs.toArray w fun e w' => ∃ res outs κr κo V' v, Post res outs ∧ e = .returned v ∧ Post' w w' V V' as κs vs res outs κr κo v
theorem Rep.noview {h : Heap} {V V' : Nat → Prop} {t : T} : ∀ {d κ cs}, Rep h V t d κ cs → t.noview = true → Rep h V' t d κ cs := by
 induction t with
 | unit => intro d κ cs hr _; exact hr
 | int k => intro d κ cs hr _; exact hr
 | bool => intro d κ cs hr _; exact hr
 | str => intro d κ cs hr _; exact hr
 | pair a b iha ihb =>
   rintro d κ cs ⟨d1, d2, κ1, κ2, c1, c2, rfl, rfl, rfl, h1, h2⟩ hn
   simp at hn
   exact ⟨d1, d2, κ1, κ2, c1, c2, rfl, rfl, rfl, iha h1 hn.1, ihb h2 hn.2⟩
 | lst o e ih =>
   rintro d κ cs ⟨xs, rfl, h1 | ⟨b, off, c, arr, ty, fz, ks, rfl, hc, hh, hs, he, ho⟩⟩ hn
   ·exact ⟨xs, rfl, .inl h1⟩
   ·simp at hn
    obtain ⟨rfl, hn⟩ := hn
    exact ⟨xs, rfl, .inr ⟨b, off, c, arr, ty, fz, ks, rfl, hc, hh, hs, fun i x hx => ih (he i x hx) hn, ho⟩⟩
 | ptr e ih => intro d κ cs _ hn; simp at hn
 | fn f c ih => intro d κ cs _ hn; simp at hn
 | err => intro d κ cs hr _; exact hr
 | gone => intro d κ cs hr _; exact hr
theorem ResV.noview {h : Heap} {V V' : Nat → Prop} {κ v} {r : Res} (hr : ResV h V κ v r) (hn : r.noview = true) : ResV h V' κ v r := by
 cases r with
 | one t d => obtain ⟨cs, h, e⟩ := hr; exact ⟨cs, h.noview hn, e⟩
 | many t d => obtain ⟨cs, h, e⟩ := hr; exact ⟨cs, h.noview hn, e⟩
theorem Rep.sim {h h' : Heap} {V V' : Nat → Prop} {t : T} : ∀ {d d' κ κ' cs}, Rep h V t d κ cs → Rep h' V' t d' κ' cs → SimK t κ κ' ∧ SimD t d d' := by
 induction t with
 | pair a b iha ihb =>
   rintro d d' κ κ' cs ⟨d1, d2, κ1, κ2, c1, c2, rfl, rfl, rfl, h1, h2⟩ ⟨e1, e2, l1, l2, b1, b2, rfl, rfl, he, g1, g2⟩
   have hl : c1.length = b1.length := by rw [h1.length, g1.length]
   obtain ⟨rfl, rfl⟩ := List.append_inj he hl
   exact ⟨⟨(iha h1 g1).1, (ihb h2 g2).1⟩, ⟨(iha h1 g1).2, (ihb h2 g2).2⟩⟩
 | lst o e ih =>
   cases o with
   | false => intros; exact ⟨trivial, trivial⟩
   | true =>
     rintro d d' κ κ' cs ⟨xs, rfl, ⟨rfl, rfl, A, rfl, hA⟩ | ⟨b, off, c, arr, ty, fz, ks, rfl, hc, hh, hs, he, ho⟩⟩ ⟨ys, rfl, ⟨rfl, rfl, A', hq, hA'⟩ | ⟨b', off', c', arr', ty', fz', ks', hq, hc', hh', hs', he', ho'⟩⟩
     ·exact ⟨.inl rfl, rfl⟩
     ·simp [hA rfl] at hq
     ·simp [hA' rfl] at hq
     ·simp at ho ho' hq
      obtain ⟨⟨rfl, rfl⟩, hl, rfl⟩ := hq
      rw [ho.2, ho'.2]
      refine ⟨.inr ⟨b, off, c, xs.length, ks, ks', rfl, by rw [hl]⟩, hl⟩
 | _ => intros; exact ⟨trivial, trivial⟩
theorem zGJ {t : T} {cs cs' : List Value} (h1 : cs.length = t.size) (h2 : cs'.length = t.size) (h : z0Q t cs = z0Q t cs') : cs = cs' := by
 unfold z0Q at h
 by_cases ha : t.agg = true
 ·rw [if_pos ha, if_pos ha] at h
  simp at h; exact h
 ·rw [if_neg ha, if_neg ha] at h
  have e : t.size = 1 := by cases t <;> simp at ha ⊢
  rw [e] at h1 h2
  match cs, cs', h1, h2 with
  | [a], [b], _, _ => simp at h; rw [h]
end Go.Own
namespace Go.Own
variable [Glb]
open Go
variable {P : Program} {Γ : Env} {E : Entry} {S : St} {act : Act} {w : World} {X : Ctr} {Kt : Wr → Prop} {next : Act → World → Prop}
def lent (V : Nat → Prop) (κ : Nat → K) (br : List Nat) : Nat → Prop := fun b => V b ∨ ∃ r, r ∈ br ∧ b ∈ (κ r).blocks
structure IoOk (h : Heap) (V : Nat → Prop) (S : St) (κ : Nat → K) (a : Arg) (i : Io) (ki : K) (v : Value) : Prop where
 c : i.c = S i.r
 av : ArgV h V a ki v
 cs : ∃ bx, (S i.r).root = some (i.t, i.d, bx) ∧
  ((a.m = .io ∧ a.t = i.t.at i.p ∧ Ok i.t i.d i.p ∧ ki = (base bx (κ i.r)).get i.p ∧ ∃ cs, z1B h V a.t a.d ki cs ∧ v = z0Q a.t cs) ∨ (a.m = .iop ∧ i.p = [] ∧ a.t = i.t ∧ bx = true ∧ ki = κ i.r))
theorem ArgV.vw {h : Heap} {V V' : Nat → Prop} {a : Arg} {k : K} {v : Value} (hm : a.m = .vw) (ha : ArgV h V a k v) (hV : ∀ b, V b → V' b) : ArgV h V' a k v := by
 unfold ArgV at *
 rw [hm] at ha ⊢
 obtain ⟨hp, cs, hr, e⟩ := ha
 exact ⟨hp, cs, hr.frame (fun b hb => rfl) (fun b _ => rfl) hV, e⟩
theorem zJU {V : Nat → Prop} {κ : Nat → K} {br : List Nat} (r : Nat) : ∀ q, lent V κ br q → lent V κ (r :: br) q := fun q h => h.imp id (fun ⟨r', h1, h2⟩ => ⟨r', by simp [h1], h2⟩)
theorem z5J : ∀ (l : List Cap) {vs : List Value} {k : T → D → List Nat → A} {κ V}, (evalCaps l k).wp X S Kt → Conc w.heap (tmOf act) V S κ → vs.length = l.length → (∀ (i : Nat) (c : Cap), l[i]? = some c → ∃ u, vs[i]? = some u ∧ CapO w.heap V S κ u c) →
 ∃ T' D' br, (k T' D' br).wp X S Kt ∧ T'.plain = true ∧ ∃ kc, Rep w.heap (lent V κ br) T' D' kc vs
 | [], vs, k, κ, V, h, hc, hl, _ => by
   have : vs = [] := by simpa using hl
   subst this
   exact ⟨_, _, _, h, rfl, .leaf, rfl, rfl, rfl⟩
 | .val t d :: l, vs, k, κ, V, h, hc, hl, hcap => by
   cases vs with
   | nil => simp at hl
   | cons v vs =>
     obtain ⟨u, hu, hp, hag, k1, cs, hr, hv⟩ := hcap 0 _ rfl
     simp at hu
     subst hu
     obtain ⟨T', D', br, h1, h2, kc, h3⟩ := z5J l (vs := vs) h hc (by simpa using hl) (fun i c hi => by
      obtain ⟨u, hu, hcc⟩ := hcap (i + 1) c (by simpa using hi)
      exact ⟨u, by simpa using hu, hcc⟩)
     have hcs : cs = [v] := by
      have hlen := hr.length
      have hs : t.size = 1 := by cases t <;> simp at hag ⊢
      rw [hs] at hlen
      match cs, hlen with
      | [q], _ => rw [hv]; simp [z0Q, hag]
     subst hcs
     refine ⟨_, _, br, h1, by simp [hp, h2], .pair k1 kc, _, _, _, _, [v], vs, rfl, rfl, rfl, ?_, h3⟩
     exact hr.frame (fun b hb => rfl) (fun _ _ => rfl) (fun b hb => .inl hb)
 | .ptr r ver p :: l, vs, k, κ, V, h, hc, hl, hcap => by
   cases vs with
   | nil => simp at hl
   | cons v vs =>
     obtain ⟨u, hu, hptr⟩ := hcap 0 _ rfl
     simp at hu
     subst hu
     simp only [evalCaps] at h
     obtain ⟨tr, dr, bx, hroot, hk⟩ := z0h h
     simp only [A.wp] at hk
     obtain ⟨⟨hlv, hok, hbx⟩, hk⟩ := hk
     obtain ⟨T', D', br, h1, h2, kc, h3⟩ := z5J l (vs := vs) hk hc (by simpa using hl) (fun i c hi => by
      obtain ⟨u, hu, hcc⟩ := hcap (i + 1) c (by simpa using hi)
      exact ⟨u, by simpa using hu, hcc⟩)
     obtain ⟨b, o, hloc, hv⟩ := hptr.2 tr dr bx hroot hlv hok
     obtain ⟨cr, hrep, hm, hnd, hab, hbin, _⟩ := hc.root hroot
     obtain ⟨cs0, hR0, hM0, hIn0, _, hL0, _⟩ := Rep.place p hrep hm hok hnd (fun b o he => (hab b o he).1)
     rw [hloc] at hM0
     obtain ⟨arr, tb, fz, g1, g2, g3, g4⟩ := hM0
     have hview := hR0.toView (V' := lent V κ (r :: br)) (fun b hb => .inl hb) (fun b hb => .inr ⟨r, by simp, hbin b (hIn0 b hb)⟩)
     have hbk : b ∈ (κ r).blocks := by
      rcases (hL0 b o hloc).2 with h | ⟨o', ho'⟩
      ·exact hbin b h
      ·exact (hab b o' ho').2
     have hsz : (tr.at p).view.size = cs0.length := by rw [T.view_size, hR0.length]
     refine ⟨_, _, r :: br, h1, by simp [h2], .pair .leaf kc, _, _, _, _, [v], vs, rfl, rfl, rfl, ⟨rfl, by simp, b, o, arr, tb, fz, (tr.at p).k0, by rw [hv], .inr ⟨r, by simp, hbk⟩, g1, by rw [hsz]; exact g3, ?_⟩, ?_⟩
     ·rw [hsz, g4]; exact hview
     ·exact h3.frame (fun _ _ => rfl) (fun _ _ => rfl) (zJU r)
theorem z8A {m : Mode} {ty : TypeId} {x : Operand} {k : Arg → List Nat → Option Io → A} (h : (evalArg Γ m ty x k).wp X S Kt) {κ V} (hc : Conc w.heap (tmOf act) V S κ) :
 ∃ a b i, (k a b i).wp X S Kt ∧ (i = none → a.m = .vw ∧ ArgV w.heap (lent V κ b) a a.t.k0 (act.eval x)) ∧ (∀ io, i = some io → b = [] ∧ ∃ ki, IoOk w.heap V S κ a io ki (act.eval x)) := by
 unfold evalArg at h
 obtain ⟨a, hk, ho⟩ := z0V h hc
 cases m with
 | vw =>
   simp only at hk
   cases a with
   | val t d =>
     obtain ⟨hp, cs, hr, e⟩ := ho
     exact ⟨_, _, _, hk, fun _ => ⟨rfl, hp, cs, hr.frame (fun b hb => rfl) (fun _ _ => rfl) (fun b hb => .inl hb), e⟩, by simp⟩
   | ref r ver p t d =>
     obtain ⟨tr, dr, bx, hroot, hk⟩ := z0h hk
     simp only [A.wp] at hk
     obtain ⟨⟨hl, hat, hok⟩, hk⟩ := hk
     obtain ⟨cs, href, e⟩ := ho.2 tr dr bx hroot hl hat hok
     obtain ⟨cr, hrep, hm, hnd, hab, hbin, _⟩ := hc.root hroot
     obtain ⟨cs0, hR0, hM0, hIn0, _⟩ := Rep.place p hrep hm hok hnd (fun b o he => (hab b o he).1)
     rw [hat] at hR0
     have hmix := z1B.mix href hR0
     have hv := hmix.toView (V' := lent V κ [r]) (fun b hb => .inl hb) (fun b hb => .inr ⟨r, by simp, hbin b (hIn0 b hb)⟩)
     refine ⟨_, _, _, hk, fun _ => ⟨rfl, by simp, cs, by simpa using hv, ?_⟩, by simp⟩
     rw [e]; unfold z0Q; rw [T.view_agg]
   | nil =>
     simp only at hk
     split at hk
     ·exact ⟨_, _, _, hk, fun _ => ⟨rfl, by simp, _, ⟨[], rfl, .inl ⟨rfl, by simp, none, rfl, fun _ => rfl⟩⟩, ho⟩, by simp⟩
     ·exact hk.elim
   | clo f l =>
     obtain ⟨vs, hv, hvl, hcap⟩ := ho
     obtain ⟨T', D', br, hk, hp, kc, hrep⟩ := z5J l (vs := vs.toList) hk hc (by simpa using hvl) (fun i c hi => by
      obtain ⟨u, hu, hcc⟩ := hcap i c hi
      exact ⟨u, by simpa using hu, hcc⟩)
     exact ⟨_, _, _, hk, fun _ => ⟨rfl, rfl, [act.eval x], ⟨rfl, hp, vs, kc, by rw [hv], hrep⟩, rfl⟩, by simp⟩
   | _ => exact hk.elim
 | io =>
   simp only at hk
   cases a with
   | ref r ver p t d =>
     obtain ⟨tr, dr, bx, hroot, hk⟩ := z0h hk
     simp only [A.wp] at hk
     obtain ⟨⟨hl, hat, hok⟩, hk⟩ := hk
     obtain ⟨cs, href, e⟩ := ho.2 tr dr bx hroot hl hat hok
     obtain ⟨cs0, hR0, hM0⟩ := hc.at hroot hok
     rw [hat] at hR0
     have hmix := z1B.mix href hR0
     refine ⟨_, _, _, hk, by simp, fun io hio => ?_⟩
     cases hio
     exact ⟨rfl, _, rfl, ⟨cs, hmix, e⟩, bx, hroot, .inl ⟨rfl, hat.symm, hok, rfl, cs, hmix.toRef, e⟩⟩
   | _ => exact hk.elim
 | iop =>
   simp only at hk
   cases a with
   | ptr r ver p =>
     cases p with
     | cons _ _ => exact hk.elim
     | nil =>
       obtain ⟨tr, dr, bx, hroot, hk⟩ := z0h hk
       simp only [A.wp] at hk
       obtain ⟨⟨hl, rfl⟩, hk⟩ := hk
       obtain ⟨b, o, hloc, e⟩ := ho.2 tr dr true hroot hl (by trivial)
       obtain ⟨cs, hrep, _, _, _, _, ⟨hf, _⟩ | ⟨_, _, b', κ0, arr, tt, hkr, htm, hh, hcs⟩⟩ := hc.root hroot
       ·cases hf
       ·refine ⟨_, _, _, hk, by simp, fun io hio => ?_⟩
        cases hio
        refine ⟨rfl, κ r, rfl, ⟨b', κ0, arr, tt, hkr, ?_, hh, ?_⟩, true, hroot, .inr ⟨rfl, rfl, rfl, rfl, rfl⟩⟩
        ·simp [loc, addr, hkr] at hloc
         obtain ⟨rfl, rfl⟩ := hloc
         exact e
        ·rw [← hcs]; simpa [base, hkr, K.nth] using hrep
   | _ => exact hk.elim
 | own => exact hk.elim
structure ArgsOk (h : Heap) (V : Nat → Prop) (S : St) (κ : Nat → K) (as : List Arg) (br : List Nat) (io : Option (Nat × Io)) (κs : Nat → K) (vs : List Value) : Prop where
 len : vs.length = as.length
 vw : ∀ (i : Nat) a v, as[i]? = some a → vs[i]? = some v → (∀ x, io = some x → x.1 ≠ i) → a.m = .vw ∧ κs i = a.t.k0 ∧ ArgV h (lent V κ br) a (κs i) v
 io : ∀ j i, io = some (j, i) → j < as.length ∧ ∃ a v, as[j]? = some a ∧ vs[j]? = some v ∧ IoOk h V S κ a i (κs j) v
theorem zBh {V κ} {br b : List Nat} : ∀ q, lent V κ br q → lent V κ (br ++ b) q := fun q h => h.imp id (fun ⟨r, h1, h2⟩ => ⟨r, by simp [h1], h2⟩)
theorem zDb {V κ} {br b : List Nat} : ∀ q, lent V κ b q → lent V κ (br ++ b) q := fun q h => h.imp id (fun ⟨r, h1, h2⟩ => ⟨r, by simp [h1], h2⟩)
theorem ArgsOk.more {h : Heap} {V : Nat → Prop} {κ : Nat → K} {br : List Nat} : ∀ (ex : List Arg) {as : List Arg} {κs : Nat → K} {vs us : List Value}, ArgsOk h V S κ as br none κs vs → us.length = ex.length →
 (∀ (i : Nat) a v, ex[i]? = some a → us[i]? = some v → a.m = .vw ∧ ArgV h (lent V κ br) a a.t.k0 v) → ∃ κs', ArgsOk h V S κ (as ++ ex) br none κs' (vs ++ us)
 | [], as, κs, vs, us, ha, hl, _ => by
   have : us = [] := by simpa using hl
   subst this
   exact ⟨κs, by simpa using ha⟩
 | a :: ex, as, κs, vs, us, ha, hl, hu => by
   cases us with
   | nil => simp at hl
   | cons u us =>
     obtain ⟨hm, hav⟩ := hu 0 a u rfl rfl
     have h1 : ArgsOk h V S κ (as ++ [a]) br none (fun i => if i = as.length then a.t.k0 else κs i) (vs ++ [u]) := by
      refine ⟨by simp [ha.len], ?_, by simp⟩
      intro i a' v' ha' hv' hne
      by_cases hi : i < as.length
      ·rw [List.getElem?_append_left hi] at ha'
       rw [List.getElem?_append_left (by rw [ha.len]; exact hi)] at hv'
       simp only [if_neg (show ¬ i = as.length by omega)]
       exact ha.vw i a' v' ha' hv' (by simp)
      ·have hlt := (List.getElem?_eq_some_iff.1 ha').1
       simp at hlt
       have : i = as.length := by omega
       subst this
       simp at ha'
       subst ha'
       rw [← ha.len] at hv'
       simp at hv'
       subst hv'
       simp only [if_true]
       exact ⟨hm, trivial, hav⟩
     obtain ⟨κs', h2⟩ := ArgsOk.more ex h1 (us := us) (by simpa using hl) (fun i a' v' h1 h2 => hu (i + 1) a' v' (by simpa using h1) (by simpa using h2))
     exact ⟨κs', by simpa using h2⟩
theorem z4D : ∀ (xs : List (Mode × TypeId × Operand)) {as br io} {k : List Arg → List Nat → Option (Nat × Io) → A} {κ V} {κs : Nat → K} {vs : List Value}, (evalArgs Γ xs as br io k).wp X S Kt → Conc w.heap (tmOf act) V S κ →
 ArgsOk w.heap V S κ as br io κs vs → ∃ as' br' io' κs', (k as' br' io').wp X S Kt ∧ ArgsOk w.heap V S κ as' br' io' κs' (vs ++ xs.map fun x => act.eval x.2.2)
 | [], as, br, io, k, κ, V, κs, vs, h, hc, ha => ⟨as, br, io, κs, h, by simpa using ha⟩
 | (m, ty, x) :: xs, as, br, io, k, κ, V, κs, vs, h, hc, ha => by
   simp only [evalArgs] at h
   obtain ⟨a, b, i, hk, hvw, hio⟩ := z8A h hc
   have old : ∀ {io' : Option (Nat × Io)} {kk : K} {b' : List Nat}, (∀ x, io = some x → io' = some x) → (∀ x, io' = some x → x.1 ≠ as.length → io = some x) → 
    (∀ (i : Nat) a' v', as[i]? = some a' → vs[i]? = some v' → (∀ x, io' = some x → x.1 ≠ i) → a'.m = .vw ∧ (if i = as.length then kk else κs i) = a'.t.k0 ∧ ArgV w.heap (lent V κ (br ++ b')) a' (if i = as.length then kk else κs i) v') := by
    intro io' kk b' h1 h2 i a' v' ha' hv' hne
    have hi : i < as.length := (List.getElem?_eq_some_iff.1 ha').1
    rw [if_neg (by omega)]
    obtain ⟨g1, g2, g3⟩ := ha.vw i a' v' ha' hv' (fun x hx => hne x (h1 x hx))
    exact ⟨g1, g2, g3.vw g1 zBh⟩
   cases i with
   | none =>
     simp only at hk
     obtain ⟨hm, hav⟩ := hvw rfl
     have := z4D xs (κs := fun i => if i = as.length then a.t.k0 else κs i) (vs := vs ++ [act.eval x]) hk hc
      ⟨by simp [ha.len], by
       intro i a' v' ha' hv' hne
       by_cases hi : i < as.length
       ·rw [List.getElem?_append_left hi] at ha'
        rw [List.getElem?_append_left (by rw [ha.len]; exact hi)] at hv'
        exact old (fun _ h => h) (fun _ h _ => h) i a' v' ha' hv' hne
       ·have hlt := (List.getElem?_eq_some_iff.1 ha').1
        simp at hlt
        have : i = as.length := by omega
        subst this
        simp at ha'
        subst ha'
        rw [← ha.len] at hv'
        simp at hv'
        subst hv'
        rw [if_pos rfl]
        exact ⟨hm, rfl, hav.vw hm zDb⟩,
       by
        intro j i hi
        obtain ⟨h1, a', v', h2, h3, h4⟩ := ha.io j i hi
        refine ⟨by simp; omega, a', v', by rw [List.getElem?_append_left h1]; exact h2, by rw [List.getElem?_append_left (by rw [ha.len]; exact h1)]; exact h3, ?_⟩
        rw [if_neg (by omega)]; exact h4⟩
     obtain ⟨as', br', io', κs', h1, h2⟩ := this
     exact ⟨as', br', io', κs', h1, by simpa using h2⟩
   | some i0 =>
     obtain ⟨rfl, ki, hki⟩ := hio i0 rfl
     cases io with
     | some _ => exact hk.elim
     | none =>
       simp only at hk
       have := z4D xs (κs := fun i => if i = as.length then ki else κs i) (vs := vs ++ [act.eval x]) hk hc
        ⟨by simp [ha.len], by
         intro i a' v' ha' hv' hne
         have hne' : as.length ≠ i := hne _ rfl
         have hlt := (List.getElem?_eq_some_iff.1 ha').1
         simp at hlt
         have hi : i < as.length := by omega
         rw [List.getElem?_append_left hi] at ha'
         rw [List.getElem?_append_left (by rw [ha.len]; exact hi)] at hv'
         rw [if_neg (by omega)]
         obtain ⟨g1, g2, g3⟩ := ha.vw i a' v' ha' hv' (by simp)
         exact ⟨g1, g2, g3.vw g1 zBh⟩,
         by
          intro j i hi
          simp at hi
          obtain ⟨rfl, rfl⟩ := hi
          refine ⟨by simp, a, act.eval x, by simp, by rw [← ha.len]; simp, ?_⟩
          simp only [if_true]; exact hki⟩
       obtain ⟨as', br', io', κs', h1, h2⟩ := this
       exact ⟨as', br', io', κs', h1, by simpa using h2⟩
end Go.Own
