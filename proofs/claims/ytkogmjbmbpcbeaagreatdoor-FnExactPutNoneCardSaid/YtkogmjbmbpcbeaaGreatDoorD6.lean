/- A layer over the walk: what lies in memory as plain data, each operation by what it does to data; part 24. -/
import Derived.Test.YtkogmjbmbpcbeaaGreatDoorD3
set_option linter.unusedSectionVars false
set_option linter.unusedVariables false
set_option linter.unusedSimpArgs false
namespace Go.Own
variable [Glb]
noncomputable section
open Go
inductive PE where
 | out (n : Nat) (xs : List X)
 | assert (x : X) (k : PE)
 | ite (x : X) (a b : PE)
 | call (i : Nat) (xs : List X) (k : PE)
 | bind (p ks : PE)
 | loop (init : List X) (body ks : PE)
 | alt (a b : PE)
 | take (m : Nat) (k : PE)
 | any (x : X) (p q : PE)
 | bot
 deriving Inhabited
abbrev Outc := Option (Nat × List D)
def z7k (f : List D → Outc) : Nat → List D → Outc
 | 0, _ => none
 | n + 1, l => match f l with
   | none => none
   | some (0, l') => z7k f n l'
   | some (t + 1, l') => some (t, l')
open Classical in
def z0f (f : List D → Outc) (l : List D) : Outc := if h : ∃ n r, z7k f n l = some r then some h.choose_spec.choose else none
theorem zDa {f : List D → Outc} : ∀ {n : Nat} {l : List D} {r}, z7k f n l = some r → z7k f (n + 1) l = some r
 | 0, l, r, h => by cases h
 | n + 1, l, r, h => by
   unfold z7k at h ⊢
   cases hf : f l with
   | none => rw [hf] at h; cases h
   | some q =>
     obtain ⟨t, l'⟩ := q
     rw [hf] at h
     cases t with
     | zero => exact zDa h
     | succ t => exact h
theorem zDZ {f : List D → Outc} {n m : Nat} {l : List D} {r} (h : z7k f n l = some r) (hm : n ≤ m) : z7k f m l = some r := by
 induction hm with
 | refl => exact h
 | step _ ih => exact zDa ih
theorem zEP {f : List D → Outc} {n : Nat} {l : List D} {r} (h : z7k f n l = some r) : z0f f l = some r := by
 have hex : ∃ n r, z7k f n l = some r := ⟨n, r, h⟩
 unfold z0f
 rw [dif_pos hex]
 have h2 := hex.choose_spec.choose_spec
 have h3 := zDZ h (Nat.le_max_left n hex.choose)
 have h4 := zDZ h2 (Nat.le_max_right n hex.choose)
 rw [h3] at h4
 exact h4.symm
theorem z9N {f : List D → Outc} {l : List D} {r} (h : z0f f l = some r) : ∃ n, z7k f n l = some r := by
 unfold z0f at h
 split at h
 ·rename_i hex
  simp only [Option.some.injEq] at h
  exact ⟨_, by rw [← h]; exact hex.choose_spec.choose_spec⟩
 ·cases h
theorem z1j {f : List D → Outc} {l l' : List D} (h : f l = some (0, l')) : z0f f l = z0f f l' := by
 cases hr : z0f f l' with
 | some r =>
   obtain ⟨n, hn⟩ := z9N hr
   exact zEP (n := n + 1) (by unfold z7k; rw [h]; exact hn)
 | none =>
   cases hr2 : z0f f l with
   | none => rfl
   | some r =>
     obtain ⟨n, hn⟩ := z9N hr2
     cases n with
     | zero => cases hn
     | succ n =>
       unfold z7k at hn; rw [h] at hn
       rw [zEP hn] at hr; cases hr
theorem z1F {f : List D → Outc} {l l' : List D} {t : Nat} (h : f l = some (t + 1, l')) : z0f f l = some (t, l') :=
 zEP (n := 1) (by unfold z7k; rw [h])
def zJi (l : List D) : Nat → Nat → List D
 | _, 0 => []
 | k, m + 1 => l.getD k .unit :: zJi l (k + 1) m
theorem zER (l : List D) : ∀ (m k : Nat), k + m = l.length → zJi l k m = l.drop k
 | 0, k, h => by rw [zJi, List.drop_eq_nil_of_le (by omega)]
 | m + 1, k, h => by
   rw [zJi, zER l m (k + 1) (by omega), List.drop_eq_getElem_cons (show k < l.length by omega), List.getD_eq_getElem?_getD, List.getElem?_eq_getElem (show k < l.length by omega)]
   rfl
def sel2 (n : Nat) (a : Outc) (b : Nat → Outc) : Outc := match n with
 | 0 => a
 | n + 1 => b n
open Classical in
def two (c : Bool) (p q : Outc) : Outc := if c then (if p = q then q else none) else q
theorem zLB {c : Bool} {p q : Outc} {o} (h : two c p q = some o) : q = some o ∧ (c = true → p = some o) := by
 unfold two at h
 split at h
 ·rename_i hc
  split at h
  ·rename_i hpq; exact ⟨h, fun _ => hpq ▸ h⟩
  ·cases h
 ·rename_i hc; exact ⟨h, fun h => absurd h hc⟩
theorem zMZ {c : Bool} {p q : Outc} (h : c = true → p = q) : two c p q = q := by
 unfold two
 split
 ·rename_i hc; rw [if_pos (h hc)]
 ·rfl
def den (cs : List Ent) : PE → List D → Nat → List D → Outc
 | .out n xs, ρ, _, _ => some (n, xs.map (X.den ρ))
 | .assert x k, ρ, n, l => if (x.den ρ).b = true then den cs k ρ n l else none
 | .ite x a b, ρ, n, l => if (x.den ρ).b = true then den cs a ρ n l else den cs b ρ n l
 | .call i xs k, ρ, n, l => (zCY cs i (xs.map (X.den ρ))).bind fun r => den cs k (ρ ++ [r]) n l
 | .bind p ks, ρ, _, _ => (den cs p ρ 0 []).bind fun o => den cs ks ρ o.1 o.2
 | .loop init body ks, ρ, _, _ => (z0f (fun l => den cs body ρ 0 l) (init.map (X.den ρ))).bind fun o => den cs ks ρ o.1 o.2
 | .alt a b, ρ, n, l => sel2 n (den cs a ρ 0 l) fun n => den cs b ρ n l
 | .take m k, ρ, n, l => den cs k (ρ ++ zJi l 0 m) n []
 | .any x p q, ρ, n, l => two (x.den ρ).l.isEmpty (den cs p ρ n l) (den cs q ρ n l)
 | .bot, _, _, _ => none
abbrev Fs := List (X × Bool)
def ltF (d : Nat) (f : Fs) : Bool := f.all fun x => x.1.lt d
structure Wf (ρ : List D) (S : List SC) (f : Fs) (d : Nat) : Prop where
 len : ρ.length = d
 lt : ltL d S = true
 facts : zA0 ρ f
 flt : ltF d f = true
def zIm (f : Fs) : List X → PE → PE
 | [], k => k
 | a :: as, k => match zBf f a with
   | some true => zIm f as k
   | _ => .assert a (zIm ((a, true) :: f) as k)
def zFM : List X → Fs → Fs
 | [], f => f
 | a :: as, f => zFM as ((a, true) :: f)
theorem z8x {cs : List Ent} {ρ : List D} : ∀ {as : List X} {f : Fs} {k : PE} {n : Nat} {l : List D} {o}, zA0 ρ f → den cs (zIm f as k) ρ n l = some o → (∀ a ∈ as, (a.den ρ).b = true) ∧ den cs k ρ n l = some o
 | [], f, k, n, l, o, _, h => ⟨by simp, h⟩
 | a :: as, f, k, n, l, o, hf, h => by
   unfold zIm at h
   split at h
   ·rename_i hk
    obtain ⟨h1, h2⟩ := z8x hf h
    refine ⟨fun x hx => ?_, h2⟩
    simp only [List.mem_cons] at hx
    rcases hx with rfl | hx
    ·exact z7A hf hk
    ·exact h1 x hx
   ·simp only [den] at h
    split at h
    ·rename_i hb
     obtain ⟨h1, h2⟩ := z8x (by
      intro x b hm
      simp only [List.mem_cons, Prod.mk.injEq] at hm
      rcases hm with ⟨rfl, rfl⟩ | hm
      ·exact hb
      ·exact hf x b hm) h
     refine ⟨fun x hx => ?_, h2⟩
     simp only [List.mem_cons] at hx
     rcases hx with rfl | hx
     ·exact hb
     ·exact h1 x hx
    ·cases h
theorem zBA {ρ : List D} : ∀ {as : List X} {f : Fs}, zA0 ρ f → (∀ a ∈ as, (a.den ρ).b = true) → zA0 ρ (zFM as f)
 | [], _, hf, _ => hf
 | a :: as, f, hf, ha => zBA (as := as) (by
    intro x b hm
    simp only [List.mem_cons, Prod.mk.injEq] at hm
    rcases hm with ⟨rfl, rfl⟩ | hm
    ·exact ha _ (by simp)
    ·exact hf x b hm) fun x hx => ha x (by simp [hx])
def ltW (d : Nat) (w : SWr) : Bool := w.all fun x => x.2.av.lt d
theorem zAt {d : Nat} : ∀ {l : List SC} {s : Nat} {c : SC}, ltL d l = true → c.av.lt d = true → ltL d (sset l s c) = true
 | [], 0, c, _, h => by simp [sset, ltL, h]
 | [], s + 1, c, h0, h => by
   have := zAt (l := []) (s := s) (c := c) (d := d) rfl h
   simp only [sset, ltL, List.all_cons, Bool.and_eq_true]
   exact ⟨rfl, this⟩
 | x :: l, 0, c, h0, h => by simp [sset, ltL] at h0 ⊢; exact ⟨h, h0.2⟩
 | x :: l, s + 1, c, h0, h => by
   simp [ltL] at h0
   have := zAt (l := l) (s := s) (c := c) (d := d) (by simp [ltL]; exact h0.2) h
   simp only [ltL] at this
   simp [sset, ltL]
   exact ⟨h0.1, by simpa using this⟩
theorem z9O {d : Nat} : ∀ {w : SWr} {l : List SC}, ltL d l = true → ltW d w = true → ltL d (z8o l w) = true
 | [], _, h, _ => h
 | (s, c) :: w, l, h, hw => by
   simp only [ltW, List.all_cons, Bool.and_eq_true] at hw
   exact z9O (w := w) (zAt h hw.1) hw.2
theorem X.lt_mono {d e : Nat} (h : d ≤ e) : ∀ {x : X}, x.lt d = true → x.lt e = true
 | .v n, hx => by simp [X.lt] at hx ⊢; omega
 | .u, _ | .i _, _ | .b _, _ | .s _, _ | .nil, _ | .z _, _ => rfl
 | .un o x, hx => X.lt_mono h (x := x) hx
 | .bi o x y, hx => by simp [X.lt] at hx ⊢; exact ⟨X.lt_mono h hx.1, X.lt_mono h hx.2⟩
 | .tri o x y w, hx => by simp [X.lt] at hx ⊢; exact ⟨X.lt_mono h hx.1, X.lt_mono h hx.2.1, X.lt_mono h hx.2.2⟩
theorem z0L.lt_mono {d e : Nat} (h : d ≤ e) {p : z0L} (hp : z0L.lt d p = true) : z0L.lt e p = true := by
 simp only [z0L.lt, List.all_eq_true] at hp ⊢
 intro a ha
 have := hp a ha
 cases a with
 | f j => rfl
 | i x => exact X.lt_mono h this
theorem SV.lt_mono {d e : Nat} (h : d ≤ e) {a : SV} (ha : a.lt d = true) : a.lt e = true := by
 cases a <;> simp only [SV.lt, Bool.and_eq_true] at ha ⊢
 case val => exact X.lt_mono h ha
 case tup => exact X.lt_mono h ha
 case box => exact X.lt_mono h ha
 case ref => exact ⟨z0L.lt_mono h ha.1, X.lt_mono h ha.2⟩
 case win => exact ⟨z0L.lt_mono h ha.1, X.lt_mono h ha.2.1, X.lt_mono h ha.2.2⟩
 case ptr => exact z0L.lt_mono h ha
 case bref => exact ⟨z0L.lt_mono h ha.1, X.lt_mono h ha.2⟩
 case clo f l =>
  rw [List.all_eq_true] at ha ⊢
  intro c hc
  have := ha c hc
  cases c with
  | val t x => exact X.lt_mono h this
  | ptr r v p => exact z0L.lt_mono h this
theorem zKm {d e : Nat} (h : d ≤ e) {l : List SC} (hl : ltL d l = true) : ltL e l = true := by
 simp only [ltL, List.all_eq_true] at hl ⊢
 exact fun c hc => SV.lt_mono h (hl c hc)
theorem zAs {d e : Nat} (h : d ≤ e) {f : Fs} (hf : ltF d f = true) : ltF e f = true := by
 simp only [ltF, List.all_eq_true] at hf ⊢
 exact fun c hc => X.lt_mono h (hf c hc)
theorem zA0.append {ρ l : List D} {f : Fs} (hf : zA0 ρ f) (hl : ltF ρ.length f = true) : zA0 (ρ ++ l) f := by
 intro x b hm
 simp only [ltF, List.all_eq_true] at hl
 rw [X.den_append l (hl _ hm)]
 exact hf x b hm
theorem z7B {d : Nat} : ∀ {as : List X} {f : Fs}, ltF d f = true → (as.all (X.lt d)) = true → ltF d (zFM as f) = true
 | [], _, h, _ => h
 | a :: as, f, h, ha => by
   simp only [List.all_cons, Bool.and_eq_true] at ha
   exact z7B (as := as) (by simp only [ltF, List.all_cons, Bool.and_eq_true]; exact ⟨ha.1, h⟩) ha.2
def zHE (cs : List Ent) (f : Fs) (d : Nat) (S : List SC) (r : OpR) (k : List SC → Fs → Nat → Option PE) : Option PE :=
 if r.as.all (X.lt d) then
  match r.call with
  | none => if ltW d r.W then (k (z8o S r.W) (zFM r.as f) d).map (zIm f r.as) else none
  | some (i, xs) => if ltW (d + 1) r.W then (k (z8o S r.W) (zFM r.as f) (d + 1)).map fun p => zIm f r.as (.call i xs p) else none
 else none
def Kok (cs : List Ent) (o : Nat × List D) (ρ0 : List D) (k : List SC → Fs → Nat → Option PE) (K : St → Prop) : Prop :=
 ∀ S f d pe l, k S f d = some pe → Wf (ρ0 ++ l) S f d → den cs pe (ρ0 ++ l) 0 [] = some o → K (z0s (ρ0 ++ l) S)
section
variable {P : Program} {cs : List Ent} {Γ : Env}
theorem zHF {ρ : List D} {S : List SC} {f : Fs} {d : Nat} {o} {r : OpR} {k : List SC → Fs → Nat → Option PE} {pe : PE} {a : A} (hsim : Sim P cs ρ S (some r) a) (h : zHE cs f d S r k = some pe) (hw : Wf ρ S f d) (hd : den cs pe ρ 0 [] = some o) :
 ∃ w : SWr, ∃ l f' d' pe', k (z8o S w) f' d' = some pe' ∧ Wf (ρ ++ l) (z8o S w) f' d' ∧ den cs pe' (ρ ++ l) 0 [] = some o ∧ z0s (ρ ++ l) (z8o S w) = (z0s ρ S).apply (z1r (ρ ++ l) w) ∧ w = r.W ∧
  ∀ R0 K, (∀ R', (∀ s ∈ R', s ∈ R0 ∨ s ∈ r.R) → K R' (z1r (ρ ++ l) w)) → a.wpD (VX P) R0 (z0s ρ S) K := by
 unfold zHE at h
 split at h
 case isFalse => cases h
 rename_i has
 cases hc : r.call with
 | none =>
   rw [hc] at h
   simp only at h
   split at h
   case isFalse => cases h
   rename_i hlw
   simp only [Option.map_eq_some_iff] at h
   obtain ⟨pe', hk, rfl⟩ := h
   obtain ⟨h1, h2⟩ := z8x hw.facts hd
   refine ⟨r.W, [], _, _, pe', hk, ?_, by simpa using h2, ?_, rfl, fun R0 K hK => ?_⟩
   ·rw [List.append_nil]
    exact ⟨hw.len, z9O hw.lt hlw, zBA hw.facts h1, z7B hw.flt has⟩
   ·rw [List.append_nil, z5o]
   ·refine hsim r rfl R0 K ⟨h1, ?_⟩
    rw [hc]
    intro R' hR'
    have := hK R' hR'
    rwa [List.append_nil] at this
 | some q =>
   obtain ⟨i, xs⟩ := q
   rw [hc] at h
   simp only at h
   split at h
   case isFalse => cases h
   rename_i hlw
   simp only [Option.map_eq_some_iff] at h
   obtain ⟨pe', hk, rfl⟩ := h
   obtain ⟨h1, h2⟩ := z8x hw.facts hd
   simp only [den, Option.bind_eq_some_iff] at h2
   obtain ⟨out, ho, h3⟩ := h2
   have hl := hw.len
   refine ⟨r.W, [out], _, _, pe', hk, ?_, h3, ?_, rfl, fun R0 K hK => ?_⟩
   ·refine ⟨by simp [hl], z9O (zKm (by omega) hw.lt) hlw, ?_, zAs (by omega) (z7B hw.flt has)⟩
    exact zA0.append (zBA hw.facts h1) (by rw [hl]; exact z7B hw.flt has)
   ·rw [← z5o, zF6 (by rw [hl]; exact hw.lt)]
   ·refine hsim r rfl R0 K ⟨h1, ?_⟩
    rw [hc]
    exact ⟨out, ho, hK⟩
def zHC (c c' : SC) : Bool := match c.av, c'.av with
 | .val (.lst true e) _, .val (.lst true e') _ => decide (e = e') && (decide (c.v.id = c'.v.id) && decide (c.v.v0 = c'.v.v0))
 | .box t _, .box t' _ => decide (t.shape = t'.shape) && decide (c.v.id = c'.v.id)
 | _, _ => false
theorem zG4 {ρ ρ' : List D} {c c' : SC} (h : zHC c c' = true) : z8H (c.conc ρ) (c'.conc ρ') = true := by
 obtain ⟨a, v⟩ := c
 obtain ⟨a', v'⟩ := c'
 unfold zHC at h
 split at h
 ·rename_i h1 h2
  simp only at h1 h2 h
  subst h1 h2
  exact h
 ·rename_i h1 h2
  simp only at h1 h2 h
  subst h1 h2
  exact h
 ·cases h
def sgX (o : Oper) (S : List SC) (w : SWr) : List Nat := if (exOf o).isSome then [] else (w.map (·.1)).filter fun s => zHC (sget S s) (sget (z8o S w) s)
def z4y (Γ : Env) (cs : List Ent) (ops : Array Oper) (fin : List Tr → Bool) : List Oper → Nat → List Tr → List SC → Fs → Nat → (List SC → Fs → Nat → Option PE) → Option PE
 | [], _, tr, S, f, d, k => if fin tr then k S f d else none
 | o :: os, i, tr, S, f, d, k =>
   let run (f : Fs) : Option PE := match sopA Γ cs S f d o with
    | none => none
    | some r => zHE cs f d S r fun S' f d => z4y Γ cs ops fin os (i + 1) (tr ++ [⟨i, r.R, r.W.map (·.1), exOf o, mvOf o, sgX o S r.W⟩]) S' f d k
   let hole (f : Fs) : Option PE := match sout Γ S o.dst (.tup .unit .u) with
    | none => none
    | some r => zHE cs f d S r fun S' f d => z4y Γ cs ops fin os (i + 1) (tr ++ [⟨i, r.R, r.W.map (·.1), exOf o, mvOf o, sgX o S r.W⟩]) S' f d k
   match o.guard with
   | none => run f
   | some (j, want) => match (ops[j]?).bind (·.dst) with
     | none => none
     | some s =>
       let run' (f : Fs) : Option PE := match sopA Γ cs S f d o with
        | none => none
        | some r => zHE cs f d S r fun S' f d => z4y Γ cs ops fin os (i + 1) (tr ++ [⟨i, s :: r.R, r.W.map (·.1), exOf o, mvOf o, sgX o S r.W⟩]) S' f d k
       let hole' (f : Fs) : Option PE := match sout Γ S o.dst (.tup .unit .u) with
        | none => none
        | some r => zHE cs f d S r fun S' f d => z4y Γ cs ops fin os (i + 1) (tr ++ [⟨i, s :: r.R, r.W.map (·.1), exOf o, mvOf o, sgX o S r.W⟩]) S' f d k
       match (sget S s).av with
       | .val .bool x => match zBf f x with
         | some b => if b == want then run' f else hole' f
         | none => if x.lt d then
            (if want then run' ((x, true) :: f) else hole' ((x, true) :: f)).bind fun p =>
            (if want then hole' ((x, false) :: f) else run' ((x, false) :: f)).map fun q => .ite x p q
           else none
       | .tup .unit _ => hole' f
       | _ => none
def Tr.Cm (a b : Tr) : Prop := a.x = b.x ∧ a.m = b.m ∧ ∀ s ∈ b.g, s ∈ a.g
theorem zM3 {ρ ρ' : List D} {S : List SC} {w : SWr} {o : Oper} : ∀ s ∈ sgX o S w, s ∈ (if (exOf o).isSome then [] else gOf (z0s ρ S) (z1r ρ' w)) := by
 intro s hs
 unfold sgX at hs
 split at hs
 ·cases hs
 ·rename_i hx
  rw [if_neg hx]
  obtain ⟨h1, h2⟩ := List.mem_filter.mp hs
  refine List.mem_filter.mpr ⟨by rw [z5R]; exact h1, ?_⟩
  rw [z2a (S' := z0s ρ' S) (by rw [z5R]; exact h1), z5o, z0g, z0g]
  exact zG4 h2
def TrLe : List Tr → List Tr → Prop
 | [], [] => True
 | a :: l, b :: m => a.i = b.i ∧ (a.W = b.W ∧ a.Cm b) ∧ (∀ s ∈ a.R, s ∈ b.R) ∧ TrLe l m
 | _, _ => False
theorem TrLe.snoc : ∀ {l m : List Tr} {a b : Tr}, TrLe l m → a.i = b.i → a.W = b.W → a.Cm b → (∀ s ∈ a.R, s ∈ b.R) → TrLe (l ++ [a]) (m ++ [b])
 | [], [], _, _, _, h1, h2, hx, h3 => ⟨h1, ⟨h2, hx⟩, h3, trivial⟩
 | [], _ :: _, _, _, h, _, _, _, _ => h.elim
 | _ :: _, [], _, _, h, _, _, _, _ => h.elim
 | x :: l, y :: m, a, b, h, h1, h2, hx, h3 => ⟨h.1, h.2.1, h.2.2.1, TrLe.snoc h.2.2.2 h1 h2 hx h3⟩
theorem zGY {a b b' : List Nat} (h : dis a b = true) (hs : ∀ s ∈ b', s ∈ b) : dis a b' = true := by
 simp only [dis, List.all_eq_true, Bool.not_eq_true', List.contains_eq_mem, decide_eq_false_iff_not] at h ⊢
 exact fun s hs' hm => h s hs' (hs s hm)
theorem zFh {a a' b b' : Tr} (h : zBq a b = true) (ha : a'.W = a.W ∧ a'.Cm a) (hb : (b'.W = b.W ∧ b'.Cm b) ∧ ∀ s ∈ b'.R, s ∈ b.R) : zBq a' b' = true := by
 unfold zBq at h ⊢
 rw [ha.2.2.1, ha.1, hb.1.1]
 cases hm : a.m with
 | none => rw [hm] at h; cases h
 | some p =>
   rw [hm] at h
   simp only [Bool.and_eq_true, List.contains_eq_mem, decide_eq_true_eq] at h ⊢
   exact ⟨zGY h.1 hb.2, h.2.1, h.2.2.1, hb.1.2.2.2 _ h.2.2.2⟩
theorem zKO {bef : List (List Nat)} {a a' b b' : Tr} (h : z7L bef a b = true) (ha : a'.i = a.i ∧ (a'.W = a.W ∧ a'.Cm a) ∧ ∀ s ∈ a'.R, s ∈ a.R) (hb : b'.i = b.i ∧ (b'.W = b.W ∧ b'.Cm b) ∧ ∀ s ∈ b'.R, s ∈ b.R) : z7L bef a' b' = true := by
 unfold z7L at h ⊢
 rw [ha.1, hb.1, ha.2.1.1, hb.2.1.1, ha.2.1.2.1, hb.2.1.2.1]
 simp only [Bool.or_eq_true, Bool.and_eq_true] at h ⊢
 rcases h with h | ⟨⟨h1, h2⟩, h3⟩ | h | h | h
 ·exact .inl h
 ·exact .inr (.inl ⟨⟨zGY h1 hb.2.2, h2⟩, zGY h3 ha.2.2⟩)
 ·exact .inr (.inr (.inl h))
 ·exact .inr (.inr (.inr (.inl (zFh h ha.2.1 hb.2))))
 ·exact .inr (.inr (.inr (.inr (zFh h hb.2.1 ha.2))))
theorem TrLe.mem : ∀ {l m : List Tr}, TrLe l m → ∀ a ∈ l, ∃ b ∈ m, a.i = b.i ∧ (a.W = b.W ∧ a.Cm b) ∧ ∀ s ∈ a.R, s ∈ b.R
 | [], _, _, _, h => by cases h
 | _ :: _, [], h, _, _ => h.elim
 | x :: l, y :: m, h, a, ha => by
   simp only [List.mem_cons] at ha
   rcases ha with rfl | ha
   ·exact ⟨y, by simp, h.1, h.2.1, h.2.2.1⟩
   ·obtain ⟨b, hb, h2⟩ := h.2.2.2.mem a ha
    exact ⟨b, by simp [hb], h2⟩
theorem zAx {bef : List (List Nat)} : ∀ {l m : List Tr}, TrLe l m → z1H bef m = true → z1H bef l = true
 | [], _, _, _ => rfl
 | _ :: _, [], h, _ => h.elim
 | x :: l, y :: m, h, hm => by
   simp only [z1H, Bool.and_eq_true, List.all_eq_true] at hm ⊢
   refine ⟨fun b hb => ?_, zAx h.2.2.2 hm.2⟩
   obtain ⟨b', hb', h2⟩ := h.2.2.2.mem b hb
   exact zKO (hm.1 b' hb') ⟨h.1, h.2.1, h.2.2.1⟩ h2
def opsF (X : Ctr) (Γ : Env) (ops : Array Oper) (Fin : List Tr → Prop) : List Tr → Nat → List Oper → St → (St → Prop) → Prop
 | tr, _, [], S, K => Fin tr ∧ K S
 | tr, i, o :: os, S, K => (opG Γ ops o).wpD X [] S fun R ws => opsF X Γ ops Fin (tr ++ [⟨i, R, ws.map (·.1), exOf o, mvOf o, if (exOf o).isSome then [] else gOf S ws⟩]) (i + 1) os (S.apply ws) K
theorem zFn {X : Ctr} {ops : Array Oper} {bef : List (List Nat)} {K : St → Prop} : ∀ (os : List Oper) {tr : List Tr} {i : Nat} {S : St}, opsF X Γ ops (fun tr => z1H bef tr = true) tr i os S K → opsE X Γ ops bef tr i os S K
 | [], _, _, _, h => h
 | _ :: os, _, _, _, h => A.wpD_mono h fun _ _ h => zFn os h
theorem zCD {X : Ctr} {ops : Array Oper} {Fin : List Tr → Prop} {K : St → Prop} : ∀ (os : List Oper) {tr : List Tr} {i : Nat} {S : St}, opsF X Γ ops Fin tr i os S K → opsL X Γ ops os S K
 | [], _, _, _, h => h.2
 | _ :: os, _, _, _, h => A.wpD_wp h fun _ _ h => zCD os h
theorem z4i (hcs : ∀ e ∈ cs, e.Ok P) {ops : Array Oper} {Fin : List Tr → Prop} {fin : List Tr → Bool} (hfin : ∀ tr tr', TrLe tr' tr → fin tr = true → Fin tr') {o : Nat × List D} {ρ0 : List D} {K : St → Prop} :
 ∀ (os : List Oper) {i : Nat} {tr tr' : List Tr} {S : List SC} {f : Fs} {d : Nat} {k : List SC → Fs → Nat → Option PE} {pe : PE} {l : List D}, z4y Γ cs ops fin os i tr S f d k = some pe → Kok cs o ρ0 k K → Wf (ρ0 ++ l) S f d → den cs pe (ρ0 ++ l) 0 [] = some o → TrLe tr' tr →
  opsF (VX P) Γ ops Fin tr' i os (z0s (ρ0 ++ l) S) K
 | [], i, tr, tr', S, f, d, k, pe, l, h, hk, hw, hd, ht => by
   simp only [z4y] at h
   split at h
   ·rename_i hf
    exact ⟨hfin _ _ ht hf, hk S f d pe l h hw hd⟩
   ·cases h
 | op :: os, i, tr, tr', S, f, d, k, pe, l, h, hk, hw, hd, ht => by
   have step : ∀ {R0 : List Nat} {f : Fs} {pe : PE} {a : A} {m : OR}, Sim P cs (ρ0 ++ l) S m a → Wf (ρ0 ++ l) S f d → den cs pe (ρ0 ++ l) 0 [] = some o →
    (match m with
      | none => none
      | some r => zHE cs f d S r fun S' f d => z4y Γ cs ops fin os (i + 1) (tr ++ [⟨i, R0 ++ r.R, r.W.map (·.1), exOf op, mvOf op, sgX op S r.W⟩]) S' f d k) = some pe →
    a.wpD (VX P) R0 (z0s (ρ0 ++ l) S) fun R ws => opsF (VX P) Γ ops Fin (tr' ++ [⟨i, R, ws.map (·.1), exOf op, mvOf op, if (exOf op).isSome then [] else gOf (z0s (ρ0 ++ l) S) ws⟩]) (i + 1) os ((z0s (ρ0 ++ l) S).apply ws) K := by
    intro R0 f pe a m hs hw hd h
    cases m with
    | none => cases h
    | some r =>
      simp only at h
      obtain ⟨w, l', f', d', pe', h1, h2, h3, h4, rfl, h5⟩ := zHF hs h hw hd
      refine h5 R0 _ fun R' hR' => ?_
      rw [List.append_assoc] at h2 h3 h4
      have := z4i hcs hfin os h1 hk h2 h3 (tr' := tr' ++ [⟨i, R', r.W.map (·.1), exOf op, mvOf op, if (exOf op).isSome then [] else gOf (z0s (ρ0 ++ l) S) (z1r (ρ0 ++ (l ++ l')) r.W)⟩]) (ht.snoc rfl rfl ⟨rfl, rfl, zM3⟩ fun s hs => by simpa using hR' s hs)
      rw [h4] at this
      rw [List.append_assoc, z5R]
      exact this
   have hlS : ltL (ρ0 ++ l).length S = true := by rw [hw.len]; exact hw.lt
   have hop : ∀ {f : Fs}, zA0 (ρ0 ++ l) f → Sim P cs (ρ0 ++ l) S (sopA Γ cs S f d op) (opA Γ op) := by
    intro f hf
    have := Sim.opA (Γ := Γ) hcs hlS hf (o := op)
    rwa [hw.len] at this
   have hhole : Sim P cs (ρ0 ++ l) S (sout Γ S op.dst (.tup .unit .u)) (out Γ op.dst (.tup .unit .unit)) := Sim.out' rfl
   show (opG Γ ops op).wpD (VX P) [] _ _
   unfold z4y at h
   unfold opG
   cases hg : op.guard with
   | none =>
     rw [hg] at h
     exact step (R0 := []) (hop hw.facts) hw hd (by simpa using h)
   | some g =>
     obtain ⟨j, want⟩ := g
     rw [hg] at h
     simp only at h ⊢
     cases hs : (ops[j]?).bind (·.dst) with
     | none => rw [hs] at h; cases h
     | some s =>
       rw [hs] at h
       simp only at h ⊢
       simp only [A.wpD]
       rw [z0g]
       generalize hsc : sget S s = c at h
       obtain ⟨av, ver⟩ := c
       have hlc := z6v hw.lt s
       rw [hsc] at hlc
       simp only [SC.conc]
       cases av with
       | val ty x =>
         cases ty with
         | bool =>
           simp only [SV.conc] at h ⊢
           cases hk' : zBf f x with
           | some b =>
             rw [hk'] at h
             simp only at h
             have hb := z7A hw.facts hk'
             rw [hb]
             by_cases hbw : b = want
             ·subst hbw
              simp only [BEq.rfl, if_true] at h ⊢
              exact step (R0 := [s]) (hop hw.facts) hw hd h
             ·rw [if_neg (by simpa using hbw)] at h
              rw [if_neg hbw]
              exact step (R0 := [s]) hhole hw hd h
           | none =>
             rw [hk'] at h
             simp only at h
             split at h
             case isFalse => cases h
             rename_i hlx
             simp only [Option.bind_eq_some_iff, Option.map_eq_some_iff] at h
             obtain ⟨p, hp, q, hq, rfl⟩ := h
             simp only [den] at hd
             have hw' : ∀ b, (x.den (ρ0 ++ l)).b = b → Wf (ρ0 ++ l) S ((x, b) :: f) d := by
              intro b hb
              refine ⟨hw.len, hw.lt, ?_, ?_⟩
              ·intro y c hm
               simp only [List.mem_cons, Prod.mk.injEq] at hm
               rcases hm with ⟨rfl, rfl⟩ | hm
               ·exact hb
               ·exact hw.facts y c hm
              ·have := hw.flt
               simp only [ltF, List.all_cons, Bool.and_eq_true] at this ⊢
               exact ⟨hlx, this⟩
             cases hx : (x.den (ρ0 ++ l)).b with
             | true =>
               rw [hx] at hd
               simp only [if_true] at hd
               have hw2 := hw' true hx
               cases want with
               | true =>
                 simp only [if_true] at hp ⊢
                 exact step (R0 := [s]) (hop hw2.facts) hw2 hd hp
               | false =>
                 simp only [Bool.false_eq_true, if_false] at hp
                 rw [if_neg (by simp)]
                 exact step (R0 := [s]) hhole hw2 hd hp
             | false =>
               rw [hx] at hd
               simp only [Bool.false_eq_true, if_false] at hd
               have hw2 := hw' false hx
               cases want with
               | true =>
                 simp only [if_true] at hq
                 rw [if_neg (by simp)]
                 exact step (R0 := [s]) hhole hw2 hd hq
               | false =>
                 simp only [Bool.false_eq_true, if_false] at hq
                 rw [if_pos rfl]
                 exact step (R0 := [s]) (hop hw2.facts) hw2 hd hq
         | _ => cases h
       | tup ty x =>
         cases ty with
         | unit =>
           simp only [SV.conc] at h ⊢
           exact step (R0 := [s]) hhole hw hd h
         | _ => cases h
       | _ => cases h
end
end
end Go.Own
namespace Go.Own
variable [Glb]
noncomputable section
open Go
def SCap.beq : SCap → SCap → Bool
 | .val t x, .val u y => decide (t = u) && x.beq y
 | .ptr r v p, .ptr r' v' p' => Nat.beq r r' && (decide (v = v') && z0L.beq p p')
 | _, _ => false
def z90 : List SCap → List SCap → Bool
 | [], [] => true
 | a :: l, b :: m => a.beq b && z90 l m
 | _, _ => false
def SV.beq : SV → SV → Bool
 | .undef, .undef => true
 | .nil, .nil => true
 | .val t x, .val u y => decide (t = u) && x.beq y
 | .tup t x, .tup u y => decide (t = u) && x.beq y
 | .box t x, .box u y => decide (t = u) && x.beq y
 | .ref r v p t x, .ref r' v' p' t' x' => Nat.beq r r' && (decide (v = v') && (z0L.beq p p' && (decide (t = t') && x.beq x')))
 | .win r v p e lo n, .win r' v' p' e' lo' n' => Nat.beq r r' && (decide (v = v') && (z0L.beq p p' && (decide (e = e') && (lo.beq lo' && n.beq n'))))
 | .ptr r v p, .ptr r' v' p' => Nat.beq r r' && (decide (v = v') && z0L.beq p p')
 | .clo f l, .clo g m => decide (f = g) && z90 l m
 | .bref t x r v p, .bref t' x' r' v' p' => Nat.beq r r' && (decide (v = v') && (z0L.beq p p' && (decide (t = t') && x.beq x')))
 | _, _ => false
def SC.beq (a b : SC) : Bool := decide (a.v = b.v) && a.av.beq b.av
theorem SCap.eq_of_beq {a b : SCap} (h : a.beq b = true) : a = b := by
 cases a <;> cases b <;> simp [SCap.beq] at h
 ·rw [h.1, X.eq_of_beq h.2]
 ·rw [h.1, h.2.1, z0L.eq_of_beq h.2.2]
theorem zDR : ∀ {l m : List SCap}, z90 l m = true → l = m
 | [], [], _ => rfl
 | [], _ :: _, h => by simp [z90] at h
 | _ :: _, [], h => by simp [z90] at h
 | a :: l, b :: m, h => by simp [z90] at h; rw [SCap.eq_of_beq h.1, zDR h.2]
theorem SV.eq_of_beq {a b : SV} (h : a.beq b = true) : a = b := by
 cases a <;> cases b <;> simp [SV.beq] at h
 ·rfl
 ·rfl
 ·rw [h.1, X.eq_of_beq h.2]
 ·rw [h.1, X.eq_of_beq h.2]
 ·rw [h.1, X.eq_of_beq h.2]
 ·rw [h.1, h.2.1, z0L.eq_of_beq h.2.2.1, h.2.2.2.1, X.eq_of_beq h.2.2.2.2]
 ·rw [h.1, h.2.1, z0L.eq_of_beq h.2.2.1, h.2.2.2.1, X.eq_of_beq h.2.2.2.2.1, X.eq_of_beq h.2.2.2.2.2]
 ·rw [h.1, h.2.1, z0L.eq_of_beq h.2.2]
 ·rw [h.1, zDR h.2]
 ·rw [h.1, h.2.1, z0L.eq_of_beq h.2.2.1, h.2.2.2.1, X.eq_of_beq h.2.2.2.2]
theorem SC.eq_of_beq {a b : SC} (h : a.beq b = true) : a = b := by
 obtain ⟨a, v⟩ := a; obtain ⟨b, w⟩ := b
 simp [SC.beq] at h
 rw [h.1, SV.eq_of_beq h.2]
def SCap.roots : SCap → List Nat
 | .ptr r _ _ => [r]
 | _ => []
def SV.roots : SV → List Nat
 | .ref r .. => [r]
 | .win r .. => [r]
 | .ptr r .. => [r]
 | .bref _ _ r _ _ => [r]
 | .clo _ l => l.flatMap SCap.roots
 | _ => []
theorem SV.roots_conc (ρ : List D) (a : SV) : (a.conc ρ).roots = a.roots := by
 cases a <;> simp [SV.conc, SV.roots, List.flatMap_map]
 congr 1
 funext c
 cases c <;> rfl
structure Plan where
 keep : List Nat
 pass : List (Nat × Nat × T)
 lean : List Nat
inductive Hint where
 | join (es : List (Nat × Plan))
 | loop (h : Plan) (es : List (Nat × Plan))
 | frz (l : List Nat)
def zMK : List (Nat × Hint) → List Nat
 | [] => []
 | (_, .frz l) :: _ => l
 | _ :: hs => zMK hs
def mkSV (k : Nat) (t : T) (x : X) : SV := if Nat.beq k 0 then .val t x else if Nat.beq k 1 then .tup t x else .box t x
def zLQ : T → Bool
 | .lst true _ => true
 | _ => false
theorem zGz {t : T} (h : zLQ t = true) : ∃ e, t = .lst true e := by
 cases t with
 | lst o e => cases o with
   | true => exact ⟨e, rfl⟩
   | false => cases h
 | _ => cases h
def Fit (a : SV) (k : Nat) (t : T) (x : X) : Prop := a = mkSV k t x ∨ (a = .nil ∧ k = 0 ∧ (∃ e, t = .lst true e) ∧ x = .nil)
def z4b : List (Nat × Nat × T) → List SC → Option (List X)
 | [], _ => some []
 | (s, k, t) :: ps, S => match (sget S s).av with
   | .val u x => if Nat.beq k 0 && decide (u = t) then (z4b ps S).map (x :: ·) else none
   | .tup u x => if Nat.beq k 1 && decide (u = t) then (z4b ps S).map (x :: ·) else none
   | .box u x => if Nat.beq k 2 && decide (u = t) then (z4b ps S).map (x :: ·) else none
   | .nil => if Nat.beq k 0 && zLQ t then (z4b ps S).map (X.nil :: ·) else none
   | _ => none
def zFd (keep : List Nat) (S0 S : List SC) : Bool := keep.all fun s => (sget S s).beq (sget S0 s) && (sget S0 s).av.roots.all (inN keep)
def z5P : List (Nat × Nat × T) → Nat → List SC → List SC
 | [], _, l => l
 | (s, k, t) :: ps, i, l => z5P ps (i + 1) (sset l s ⟨mkSV k t (.v i), ⟨0, 0, 0⟩⟩)
def z9k : List Nat → List SC → List SC → List SC
 | [], _, l => l
 | s :: ks, S0, l => z9k ks S0 (sset l s (sget S0 s))
def SV.reset : SV → SV
 | .ref r _ p t x => .ref r ⟨0, 0, 0⟩ p t x
 | .bref t x r _ p => .bref t x r ⟨0, 0, 0⟩ p
 | .win r _ p e lo n => .win r ⟨0, 0, 0⟩ p e lo n
 | .ptr r _ p => .ptr r ⟨0, 0, 0⟩ p
 | _ => .undef
def zCf : List Nat → List SC → List SC → List SC
 | [], _, l => l
 | s :: ks, S0, l => zCf ks S0 (sset l s ⟨(sget S0 s).av.reset, ⟨0, 0, 0⟩⟩)
def z3Y (p : Plan) (S0 : List SC) (d : Nat) : List SC := zCf p.lean S0 (z9k p.keep S0 (z5P p.pass d []))
def zIS (p : Plan) (S : List SC) (r : Nat) (l : Bool) : Bool := l && (!inN p.keep r && (!inN p.lean r && ((sget S r).root.isSome && (sget (z5P p.pass 0 []) r).root.isSome)))
def zJQ (p : Plan) (S : List SC) : SV → SV → Bool
 | .ref r _ q t x, .ref r' v q' t' x' => Nat.beq r' r && (z0L.beq q' q && (decide (t' = t) && (x'.beq x && zIS p S r (z1M v (sget S r).v (z1X q)))))
 | .bref t x r _ q, .bref t' x' r' v q' => Nat.beq r' r && (z0L.beq q' q && (decide (t' = t) && (x'.beq x && zIS p S r (z1M v (sget S r).v (z1X q)))))
 | .win r _ q e lo n, .win r' v q' e' lo' n' => Nat.beq r' r && (z0L.beq q' q && (decide (e' = e) && (lo'.beq lo && (n'.beq n && zIS p S r (z1M v (sget S r).v (z1X q))))))
 | .ptr r _ q, .ptr r' v q' => Nat.beq r' r && (z0L.beq q' q && zIS p S r (z3u v (sget S r).v (z1X q)))
 | _, _ => false
def zHh (p : Plan) (S0 S : List SC) : Bool := p.lean.all fun s => !inN p.keep s && zJQ p S (sget S0 s).av (sget S s).av
theorem z4T : ∀ (l : List SC) (s s' : Nat) (c : SC), sget (sset l s c) s' = if s' = s then c else sget l s'
 | [], 0, 0, c => by simp [sset, sget]
 | [], 0, s' + 1, c => by simp [sset, sget]
 | [], s + 1, 0, c => by simp [sset, sget]
 | [], s + 1, s' + 1, c => by simp [sset, sget, z4T [] s s' c]
 | x :: xs, 0, 0, c => by simp [sset, sget]
 | x :: xs, 0, s' + 1, c => by simp [sset, sget]
 | x :: xs, s + 1, 0, c => by simp [sset, sget]
 | x :: xs, s + 1, s' + 1, c => by simp [sset, sget, z4T xs s s' c]
theorem z4S : ∀ (ks : List Nat) (S0 l : List SC) (s : Nat), sget (z9k ks S0 l) s = if s ∈ ks then sget S0 s else sget l s
 | [], _, _, _ => by simp [z9k]
 | a :: ks, S0, l, s => by
   rw [z9k, z4S ks S0, z4T]
   by_cases h : s ∈ ks
   ·simp [h]
   ·by_cases h2 : s = a
    ·subst h2; simp [h]
    ·simp [h, h2]
theorem z6w : ∀ (ks : List Nat) (S0 l : List SC) (s : Nat), sget (zCf ks S0 l) s = if s ∈ ks then ⟨(sget S0 s).av.reset, ⟨0, 0, 0⟩⟩ else sget l s
 | [], _, _, _ => by simp [zCf]
 | a :: ks, S0, l, s => by
   rw [zCf, z6w ks S0, z4T]
   by_cases h : s ∈ ks
   ·simp [h]
   ·by_cases h2 : s = a
    ·subst h2; simp [h]
    ·simp [h, h2]
theorem zG2 : ∀ (ps : List (Nat × Nat × T)) (i : Nat) (l : List SC) (r : Nat), (sget l r).v = ⟨0, 0, 0⟩ → (sget (z5P ps i l) r).v = ⟨0, 0, 0⟩
 | [], _, _, _, h => h
 | (s, k, t) :: ps, i, l, r, h => by
   refine zG2 ps (i + 1) _ r ?_
   rw [z4T]
   by_cases hs : r = s
   ·rw [if_pos hs]
   ·rw [if_neg hs]; exact h
theorem SV.reset_lt {a : SV} {n : Nat} (h : a.lt n = true) : a.reset.lt n = true := by
 cases a <;> first | rfl | exact h
theorem z7a {r : Nat} : ∀ (ps : List (Nat × Nat × T)) (i j : Nat) (l l' : List SC), ((sget l r).root.isSome = true → (sget l' r).root.isSome = true) → (sget (z5P ps i l) r).root.isSome = true → (sget (z5P ps j l') r).root.isSome = true
 | [], _, _, _, _, h, h1 => h h1
 | (s, k, t) :: ps, i, j, l, l', h, h1 => by
   refine z7a ps (i + 1) (j + 1) _ _ ?_ h1
   rw [z4T, z4T]
   by_cases hs : r = s
   ·rw [if_pos hs, if_pos hs]
    unfold mkSV
    intro _
    split
    ·rfl
    ·split <;> rfl
   ·rw [if_neg hs, if_neg hs]; exact h
def zIq (ρL ρc : List D) (S l : List SC) (s : Nat) : Prop :=
 sget l s = SC.nul ∨ ∃ k t n x, (sget l s).av = mkSV k t (.v n) ∧ Fit (sget S s).av k t x ∧ (X.v n).den ρc = x.den ρL
theorem z6e (k : Nat) (t : T) (x : X) (ρ : List D) : (mkSV k t x).conc ρ = if Nat.beq k 0 then .val t (x.den ρ) else if Nat.beq k 1 then .tup t (x.den ρ) else .box t (x.den ρ) := by
 unfold mkSV; split <;> (try split) <;> rfl
theorem zIX (k : Nat) (t : T) (x : X) : (mkSV k t x).roots = [] := by
 unfold mkSV; split <;> (try split) <;> rfl
theorem z9y {s k : Nat} {t : T} {ps : List (Nat × Nat × T)} {S : List SC} {xs : List X} (h : z4b ((s, k, t) :: ps) S = some xs) :
 ∃ x ys, xs = x :: ys ∧ z4b ps S = some ys ∧ Fit (sget S s).av k t x := by
 unfold z4b at h
 split at h
 ·rename_i u x hav
  split at h
  ·rename_i hb
   simp only [Bool.and_eq_true, decide_eq_true_eq] at hb
   simp only [Option.map_eq_some_iff] at h
   obtain ⟨ys, h1, rfl⟩ := h
   exact ⟨x, ys, rfl, h1, .inl (by rw [hav, hb.2]; simp [mkSV, hb.1])⟩
  ·cases h
 ·rename_i u x hav
  split at h
  ·rename_i hb
   simp only [Bool.and_eq_true, decide_eq_true_eq] at hb
   simp only [Option.map_eq_some_iff] at h
   obtain ⟨ys, h1, rfl⟩ := h
   refine ⟨x, ys, rfl, h1, .inl ?_⟩
   have := Nat.eq_of_beq_eq_true hb.1
   subst this
   rw [hav, hb.2]; rfl
  ·cases h
 ·rename_i u x hav
  split at h
  ·rename_i hb
   simp only [Bool.and_eq_true, decide_eq_true_eq] at hb
   simp only [Option.map_eq_some_iff] at h
   obtain ⟨ys, h1, rfl⟩ := h
   refine ⟨x, ys, rfl, h1, .inl ?_⟩
   have := Nat.eq_of_beq_eq_true hb.1
   subst this
   rw [hav, hb.2]; rfl
  ·cases h
 ·rename_i hav
  split at h
  ·rename_i hb
   simp only [Bool.and_eq_true] at hb
   simp only [Option.map_eq_some_iff] at h
   obtain ⟨ys, h1, rfl⟩ := h
   exact ⟨_, ys, rfl, h1, .inr ⟨hav, Nat.eq_of_beq_eq_true hb.1, zGz hb.2, rfl⟩⟩
  ·cases h
 ·cases h
theorem z7u : ∀ {ps : List (Nat × Nat × T)} {S : List SC} {xs : List X}, z4b ps S = some xs → xs.length = ps.length
 | [], _, _, h => by cases h; rfl
 | (s, k, t) :: ps, S, xs, h => by
   obtain ⟨x, ys, rfl, h1, _⟩ := z9y h
   simp [z7u h1]
theorem zDs {ρL ρc : List D} {S : List SC} : ∀ {ps : List (Nat × Nat × T)} {i : Nat} {l : List SC} {xs : List X}, z4b ps S = some xs → (∀ j x, xs[j]? = some x → (X.v (i + j)).den ρc = x.den ρL) → (∀ s, zIq ρL ρc S l s) →
 ∀ s, zIq ρL ρc S (z5P ps i l) s
 | [], i, l, xs, _, _, hl, s => hl s
 | (a, k, t) :: ps, i, l, xs, h, hx, hl, s => by
   obtain ⟨x, ys, rfl, h1, h2⟩ := z9y h
   refine zDs (i := i + 1) h1 (fun j y hy => ?_) (fun s => ?_) s
   ·have := hx (j + 1) y (by simpa using hy)
    rwa [show i + 1 + j = i + (j + 1) by omega]
   ·unfold zIq
    rw [z4T]
    by_cases hs : s = a
    ·subst hs
     rw [if_pos rfl]
     exact .inr ⟨k, t, i, x, rfl, h2, by simpa using hx 0 x (by simp)⟩
    ·rw [if_neg hs]; exact hl s
theorem zBe {keep : List Nat} {S0 S : List SC} (h : zFd keep S0 S = true) {s : Nat} (hs : s ∈ keep) : sget S s = sget S0 s ∧ ∀ r ∈ (sget S0 s).av.roots, r ∈ keep := by
 simp only [zFd, List.all_eq_true, Bool.and_eq_true] at h
 obtain ⟨h1, h2⟩ := h s hs
 exact ⟨SC.eq_of_beq h1, fun r hr => z3S.1 (h2 r hr)⟩
theorem zF7 {ρ l : List D} {p : Plan} {S0 S : List SC} {xs : List X} {d : Nat} (hd : ρ.length = d) (hS0 : ltL d S0 = true) (hx : z4b p.pass S = some xs) (hk : zFd p.keep S0 S = true) (hln : zHh p S0 S = true) :
 Weak (z0s (ρ ++ l) S) (z0s (ρ ++ xs.map (X.den (ρ ++ l))) (z3Y p S0 d)) := by
 have hpass := zDs (ρL := ρ ++ l) (ρc := ρ ++ xs.map (X.den (ρ ++ l))) (S := S) (i := d) (l := []) hx (by
  intro j x hj
  have hlt := (List.getElem?_eq_some_iff.1 hj).1
  subst hd
  simp only [X.den, List.getD_eq_getElem?_getD]
  rw [List.getElem?_append_right (by omega)]
  simp [hj]) (fun s => .inl rfl)
 have base : ∀ s, s ∉ p.lean → sget (z3Y p S0 d) s = sget (z9k p.keep S0 (z5P p.pass d [])) s := fun s hs => by
  unfold z3Y; rw [z6w, if_neg hs]
 have rootOf : ∀ r b, zIS p S r b = true → b = true ∧ (z0s (ρ ++ xs.map (X.den (ρ ++ l))) (z3Y p S0 d) r).root = (z0s (ρ ++ l) S r).root ∧ (z0s (ρ ++ xs.map (X.den (ρ ++ l))) (z3Y p S0 d) r).av ≠ .undef ∧ (z0s (ρ ++ xs.map (X.den (ρ ++ l))) (z3Y p S0 d) r).v = ⟨0, 0, 0⟩ := by
  intro r b h
  unfold zIS at h
  simp only [Bool.and_eq_true, Bool.not_eq_true', ← Bool.not_eq_true, z3S] at h
  obtain ⟨h1, h2, h3, h4, h5⟩ := h
  refine ⟨h1, ?_⟩
  rw [z0g, z0g, base r h3, z4S, if_neg h2]
  have h6 := z7a p.pass 0 d [] [] id h5
  rcases hpass r with h | ⟨k, t, n, x, g1, g2, g3⟩
  ·rw [h] at h6; cases h6
  ·rcases g2 with g2 | ⟨g2, _⟩
   ·have e : (SC.conc (ρ ++ xs.map (X.den (ρ ++ l))) (sget (z5P p.pass d []) r)).av = (SC.conc (ρ ++ l) (sget S r)).av := by
     show (sget _ r).av.conc _ = (sget S r).av.conc _
     rw [g1, g2, z6e, z6e, g3]
    refine ⟨?_, ?_, zG2 p.pass d [] r rfl⟩
    ·unfold Cl.root
     rw [e]
    ·rw [e]
     intro hu
     have : (SC.conc (ρ ++ l) (sget S r)).root = none := by unfold Cl.root; rw [hu]
     rw [SC.root_conc] at this
     rw [Option.map_eq_none_iff] at this
     rw [this] at h4; cases h4
   ·have : (sget S r).root = none := by unfold SC.root; rw [g2]
    rw [this] at h4; cases h4
 simp only [zHh, List.all_eq_true, Bool.and_eq_true, Bool.not_eq_true', ← Bool.not_eq_true, z3S] at hln
 have apartK : ∀ s, s ∈ p.keep → s ∉ p.lean := fun s h1 h2 => (hln s h2).1 h1
 have kept : ∀ s, s ∈ p.keep → s ∉ p.lean → z0s (ρ ++ xs.map (X.den (ρ ++ l))) (z3Y p S0 d) s = z0s (ρ ++ l) S s := by
  intro s hs hsl
  rw [z0g, z0g, base s hsl]
  rw [z4S, if_pos hs, (zBe hk hs).1]
  have hlt := z6v hS0 s
  rw [← hd] at hlt
  rw [SC.conc_append hlt, SC.conc_append hlt]
 intro s
 by_cases hsl : s ∈ p.lean
 ·refine .inr (.inr (.inr ?_))
  have h1 := (hln s hsl).2
  have hlt := z6v hS0 s
  rw [← hd] at hlt
  have e1 : (z0s (ρ ++ xs.map (X.den (ρ ++ l))) (z3Y p S0 d) s).av = ((sget S0 s).av.reset).conc (ρ ++ l) := by
   rw [z0g]
   unfold z3Y
   rw [z6w, if_pos hsl]
   show SV.conc _ _ = _
   have : ((sget S0 s).av.reset).lt ρ.length = true := SV.reset_lt hlt
   rw [SV.conc_append this, SV.conc_append this]
  have e2 : (z0s (ρ ++ l) S s).av = (sget S s).av.conc (ρ ++ l) := by rw [z0g]; rfl
  rw [e1, e2]
  have hv : ∀ r, (z0s (ρ ++ l) S r).v = (sget S r).v := fun r => by rw [z0g]; rfl
  generalize (sget S0 s).av = a at h1
  generalize (sget S s).av = b at h1
  cases a <;> cases b <;> simp only [zJQ, Bool.and_eq_true, decide_eq_true_eq, Bool.false_eq_true] at h1
  case ref.ref =>
   obtain ⟨k1, k2, k3, k4, k5⟩ := h1
   have k1 := Nat.eq_of_beq_eq_true k1
   obtain ⟨m1, m2, m3, m4⟩ := rootOf _ _ k5
   subst k1 k3
   refine ⟨_, ⟨rfl, rfl, ?_, rfl, ?_, ?_, ?_⟩, m2, m3⟩
   ·rw [z0L.eq_of_beq k2]
   ·rw [X.eq_of_beq k4]
   ·rw [m4]
   ·rw [hv, z0T, z0L.eq_of_beq k2]; exact z0R m1
  case bref.bref =>
   obtain ⟨k1, k2, k3, k4, k5⟩ := h1
   have k1 := Nat.eq_of_beq_eq_true k1
   obtain ⟨m1, m2, m3, m4⟩ := rootOf _ _ k5
   subst k1 k3
   refine ⟨_, ⟨rfl, rfl, ?_, rfl, ?_, ?_, ?_⟩, m2, m3⟩
   ·rw [z0L.eq_of_beq k2]
   ·rw [X.eq_of_beq k4]
   ·rw [m4]
   ·rw [hv, z0T, z0L.eq_of_beq k2]; exact z0R m1
  case win.win =>
   obtain ⟨k1, k2, k3, k4, k6, k5⟩ := h1
   have k1 := Nat.eq_of_beq_eq_true k1
   obtain ⟨m1, m2, m3, m4⟩ := rootOf _ _ k5
   subst k1 k3
   refine ⟨_, ⟨rfl, rfl, ?_, rfl, ?_, ?_, ?_, ?_⟩, m2, m3⟩
   ·rw [z0L.eq_of_beq k2]
   ·rw [X.eq_of_beq k4]
   ·rw [X.eq_of_beq k6]
   ·rw [m4]
   ·rw [hv, z0T, z0L.eq_of_beq k2]; exact z0R m1
  case ptr.ptr =>
   obtain ⟨k1, k2, k5⟩ := h1
   have k1 := Nat.eq_of_beq_eq_true k1
   obtain ⟨m1, m2, m3, m4⟩ := rootOf _ _ k5
   subst k1
   refine ⟨_, ⟨rfl, rfl, ?_, ?_, ?_⟩, m2, m3⟩
   ·rw [z0L.eq_of_beq k2]
   ·rw [m4]
   ·rw [hv, z0T, z0L.eq_of_beq k2]; exact z1s m1
 by_cases hs : s ∈ p.keep
 ·have h2 := (zBe hk hs).2
  have : (z0s (ρ ++ xs.map (X.den (ρ ++ l))) (z3Y p S0 d) s).av.roots = (sget S0 s).av.roots := by
   rw [z0g, base s hsl]
   rw [z4S, if_pos hs]
   exact SV.roots_conc _ _
  refine .inr (.inl ⟨by rw [kept s hs hsl], fun r hr => ?_⟩)
  rw [this] at hr
  exact kept r (h2 r hr) (apartK r (h2 r hr))
 ·have hg : sget (z3Y p S0 d) s = sget (z5P p.pass d []) s := by
   rw [base s hsl, z4S, if_neg hs]
  rw [z0g, z0g, hg]
  rcases hpass s with h | ⟨k, t, n, x, h1, h2, h3⟩
  ·rw [h]; exact .inl rfl
  ·right
   rcases h2 with h2 | ⟨h2, rfl, ⟨e, rfl⟩, rfl⟩
   ·left
    constructor
    ·show (sget _ s).av.conc _ = (sget S s).av.conc _
     rw [h1, h2, z6e, z6e, h3]
    ·intro r hr
     change r ∈ ((sget _ s).av.conc _).roots at hr
     rw [SV.roots_conc, h1, zIX] at hr
     cases hr
   ·right; left
    refine ⟨?_, e, ?_⟩
    ·show (sget S s).av.conc _ = _
     rw [h2]; rfl
    ·show (sget _ s).av.conc _ = _
     rw [h1, z6e, h3]; rfl
theorem Weak.refl (S : St) : Weak S S := fun _ => .inr (.inl ⟨rfl, fun _ _ => rfl⟩)
def zJ5 : Exit → Option Nat
 | .normal => some 0
 | .ret => some 1
 | .exit id => some (id + 2)
 | _ => none
def zAr (n : Nat) : List (Nat × Plan) → Nat → Option (Nat × Plan)
 | [], _ => none
 | (m, p) :: es, i => if Nat.beq m n then some (i, p) else zAr n es (i + 1)
def zH9 (S : List SC) (s k : Nat) (t : T) : List SC :=
 match (sget S s).av with
 | .ref r v p u x => match (sget S r).root with
   | some (tr, xr, _) => if Nat.beq k 0 && (decide (u = t) && (decide (sAt tr p = t) && (zCb tr p && (!Nat.beq s r && z1M v (sget S r).v 0)))) then
      sset (sset S r ((sget S r).setRoot (z82 tr p t.moved) xr (sget S r).v.head)) s ⟨.val t (smix t x (getX xr p)), (sget S s).v.kill⟩ else S
   | none => S
 | _ => S
def z42 : List (Nat × Nat × T) → List SC → List SC
 | [], S => S
 | (s, k, t) :: ps, S => z42 ps (zH9 S s k t)
theorem zIe {Γ : Env} {E : Entry} {ρ : List D} (S : List SC) (s k : Nat) (t : T) : Wk Γ E (z0s ρ S) (z0s ρ (zH9 S s k t)) := by
 unfold zH9
 split
 case h_2 => exact Wk.refl _
 rename_i r v p u x hs
 split
 case h_2 => exact Wk.refl _
 rename_i tr xr bx hr
 split
 case isFalse => exact Wk.refl _
 rename_i hb
 simp only [Bool.and_eq_true, decide_eq_true_eq, Bool.not_eq_true'] at hb
 obtain ⟨_, rfl, hat, hfl, hne, hl⟩ := hb
 have hS : (z0s ρ S s).av = .ref r v (z0L.conc ρ p) u (x.den ρ) := by rw [z0g]; simp only [SC.conc, hs, SV.conc]
 have hR : (z0s ρ S r).root = some (tr, xr.den ρ, bx) := by rw [z0g, SC.root_conc, hr]; rfl
 have hv : (z0s ρ S r).v = (sget S r).v := by rw [z0g]; rfl
 have hv2 : (z0s ρ S s).v = (sget S s).v := by rw [z0g]; rfl
 have := zK8 (Γ := Γ) (E := E) hS hR (z2D hne) (by rw [hv]; exact z0R hl) (by rw [z4J]; exact hfl) (by rw [z10]; exact hat)
 rw [hv, hv2, z4R, ← z1L, ← z7G, z0g, ← SC.setRoot_conc] at this
 rw [← z4m, ← z4m]
 exact this
theorem z6t {Γ : Env} {E : Entry} {ρ : List D} : ∀ (ps : List (Nat × Nat × T)) (S : List SC), Wk Γ E (z0s ρ S) (z0s ρ (z42 ps S))
 | [], S => Wk.refl _
 | (s, k, t) :: ps, S => (zIe S s k t).trans (z6t ps _)
def zHA (S : List SC) (s : Nat) : List SC :=
 match (sget S s).av with
 | .bref t x r v p => match (sget S r).root with
   | some (tr, xr, _) => if decide (sAt tr p = t) && (zCb tr p && (!Nat.beq s r && z1M v (sget S r).v 0)) then
      sset (sset S r ((sget S r).setRoot (z82 tr p t.moved) xr (sget S r).v.head)) s ⟨.box t (smix t x (getX xr p)), (sget S s).v.kill⟩ else S
   | none => S
 | _ => S
def z64 : List ResultVar → List SC → List SC
 | [], S => S
 | .cell a _ :: rs, S => z64 rs (zHA S a)
 | .tmp _ :: rs, S => z64 rs S
theorem zHB {Γ : Env} {E : Entry} {ρ : List D} (S : List SC) (s : Nat) : Wk Γ E (z0s ρ S) (z0s ρ (zHA S s)) := by
 unfold zHA
 split
 case h_2 => exact Wk.refl _
 rename_i t x r v p hs
 split
 case h_2 => exact Wk.refl _
 rename_i tr xr bx hr
 split
 case isFalse => exact Wk.refl _
 rename_i hb
 simp only [Bool.and_eq_true, decide_eq_true_eq, Bool.not_eq_true'] at hb
 obtain ⟨hat, hfl, hne, hl⟩ := hb
 have hS : (z0s ρ S s).av = .bref t (x.den ρ) r v (z0L.conc ρ p) := by rw [z0g]; simp only [SC.conc, hs, SV.conc]
 have hR : (z0s ρ S r).root = some (tr, xr.den ρ, bx) := by rw [z0g, SC.root_conc, hr]; rfl
 have hv : (z0s ρ S r).v = (sget S r).v := by rw [z0g]; rfl
 have hv2 : (z0s ρ S s).v = (sget S s).v := by rw [z0g]; rfl
 have := zIf (Γ := Γ) (E := E) hS hR (z2D hne) (by rw [hv]; exact z0R hl) (by rw [z4J]; exact hfl) (by rw [z10]; exact hat)
 rw [hv, hv2, z4R, ← z1L, ← z7G, z0g, ← SC.setRoot_conc] at this
 rw [← z4m, ← z4m]
 exact this
theorem z83 {Γ : Env} {E : Entry} {ρ : List D} : ∀ (rs : List ResultVar) (S : List SC), Wk Γ E (z0s ρ S) (z0s ρ (z64 rs S))
 | [], S => Wk.refl _
 | .cell a _ :: rs, S => (zHB S a).trans (z83 rs _)
 | .tmp _ :: rs, S => z83 rs S
def zGp (es : List (Nat × Plan)) (i0 : Nat) (S0 : List SC) (e : Exit) (S : List SC) : Option PE :=
 match zJ5 e with
 | none => none
 | some n => match zAr n es 0 with
   | none => none
   | some (i, p) => if zFd p.keep S0 (z42 p.pass S) && zHh p S0 (z42 p.pass S) then (z4b p.pass (z42 p.pass S)).map (.out (i0 + i)) else none
def zHT : Nat → Exit
 | 0 => .normal
 | 1 => .ret
 | n + 2 => .exit n
theorem zJ6 {e : Exit} {n : Nat} (h : zJ5 e = some n) : zHT n = e := by
 cases e <;> simp [zJ5] at h <;> subst h <;> rfl
def zFA (S0 : List SC) (f : Fs) (d : Nat) (k : Exit → List SC → Fs → Nat → Option PE) : List (Nat × Plan) → Option PE
 | [] => some .bot
 | (n, p) :: es => if ltL (d + p.pass.length) (z3Y p S0 d) then (k (zHT n) (z3Y p S0 d) f (d + p.pass.length)).bind fun a => (zFA S0 f d k es).map (.alt (.take p.pass.length a)) else none
theorem z8G {n : Nat} : ∀ {es : List (Nat × Plan)} {k i : Nat} {p : Plan}, zAr n es k = some (i, p) → k ≤ i ∧ es[i - k]? = some (n, p)
 | [], _, _, _, h => by cases h
 | (m, q) :: es, k, i, p, h => by
   unfold zAr at h
   split at h
   ·rename_i hb
    simp only [Option.some.injEq, Prod.mk.injEq] at h
    obtain ⟨rfl, rfl⟩ := h
    have := Nat.eq_of_beq_eq_true hb
    subst this
    exact ⟨Nat.le_refl _, by simp⟩
   ·obtain ⟨h1, h2⟩ := z8G h
    refine ⟨by omega, ?_⟩
    rw [show i - k = (i - (k + 1)) + 1 by omega]
    simpa using h2
theorem z91 {cs : List Ent} {S0 : List SC} {f : Fs} {d : Nat} {k : Exit → List SC → Fs → Nat → Option PE} {ρ : List D} {o} : ∀ {es : List (Nat × Plan)} {ks : PE} {i : Nat} {n : Nat} {p : Plan} {l : List D}, zFA S0 f d k es = some ks → es[i]? = some (n, p) → den cs ks ρ i l = some o → l.length = p.pass.length →
 ltL (d + p.pass.length) (z3Y p S0 d) = true ∧ ∃ pe, k (zHT n) (z3Y p S0 d) f (d + p.pass.length) = some pe ∧ den cs pe (ρ ++ l) 0 [] = some o
 | [], _, _, _, _, _, _, h, _, _ => by simp at h
 | (m, q) :: es, ks, i, n, p, l, h, hi, hd, hll => by
   unfold zFA at h
   split at h
   case isFalse => cases h
   rename_i hlt
   simp only [Option.bind_eq_some_iff, Option.map_eq_some_iff] at h
   obtain ⟨a, ha, b, hb, rfl⟩ := h
   cases i with
   | zero =>
     simp only [List.getElem?_cons_zero, Option.some.injEq, Prod.mk.injEq] at hi
     obtain ⟨rfl, rfl⟩ := hi
     simp only [den, sel2] at hd
     rw [zER l q.pass.length 0 (by omega)] at hd
     exact ⟨hlt, a, ha, hd⟩
   | succ i =>
     exact z91 hb (by simpa using hi) (by simpa [den, sel2] using hd) hll
def zEA (key : Nat) : List (Nat × Hint) → Option Hint
 | [] => none
 | (m, h) :: l => if Nat.beq m key then some h else zEA key l
abbrev Kont := Exit → List SC → Fs → Nat → Option PE
def finOf (draw : Bool) (ops : Array Oper) : List Tr → Bool := if draw then z1H (ancs .any ops.toList) else fun _ => true
def zJg (ops : List Oper) : Option (List Oper × Nat × TypeId × Nat × Bool) :=
 match ops.reverse with
 | ⟨some s, .binOp op t (.tmp x) (.const (.slice none 0 0)) _, _, _, _, none⟩ :: os => match op with
   | .eql => some (os.reverse, s, t, x, true)
   | .neq => some (os.reverse, s, t, x, false)
   | _ => none
 | _ => none
def nilK (Γ : Env) (s : Nat) (t : TypeId) (x : Nat) (eq : Bool) (k : List SC → Fs → Nat → Option PE) : List SC → Fs → Nat → Option PE := fun S f d =>
 match (sget S x).av with
 | .val (.lst o e) y => if z7N Γ s && (y.lt d && ((T.lst o e).plain && (Γ.ty t).lsts)) then
    (k (sset S s ⟨.val .bool (.b eq), (sget S s).v.kill⟩) f d).bind fun p => (k (sset S s ⟨.val .bool (.b !eq), (sget S s).v.kill⟩) f d).map fun q => .any y p q
   else none
 | _ => none
def sx (Γ : Env) (cs : List Ent) (hs : List (Nat × Hint)) : Code → Nat → List SC → Fs → Nat → Kont → Option PE
 | .skip, _, S, f, d, k => k .normal S f d
 | .label _, _, S, f, d, k => k .normal S f d
 | .exit id, _, S, f, d, k => k (.exit id) S f d
 | .ret, _, S, f, d, k => k .ret S f d
 | .region _ ops draw, _, S, f, d, k =>
   if draw then
    if zI8 .any ops then z4y Γ cs ops (z1H (ancs .any ops.toList)) ops.toList 0 [] S f d (k .normal) else none
   else match zJg ops.toList with
    | some (os, s, t, x, eq) => z4y Γ cs ops (fun _ => true) os 0 [] S f d (nilK Γ s t x eq (k .normal))
    | none => z4y Γ cs ops (fun _ => true) ops.toList 0 [] S f d (k .normal)
 | .seq a b, key, S, f, d, k =>
   let k' : Kont := fun e S f d => match e with
    | .normal => sx Γ cs hs b (2 * key + 1) S f d k
    | e => k e S f d
   match zEA key hs with
   | some (.join es) => (sx Γ cs hs a (2 * key) S f d fun e S' _ _ => zGp es 0 S e S').bind fun pa => (zFA S f d k' es).map (.bind pa)
   | _ => sx Γ cs hs a (2 * key) S f d k'
 | .cond x a b, key, S, f, d, k =>
   match x with
   | .tmp s => match (sget S s).av with
     | .val .bool x => match zBf f x with
       | some true => sx Γ cs hs a (2 * key) S f d k
       | some false => sx Γ cs hs b (2 * key + 1) S f d k
       | none => if x.lt d then (sx Γ cs hs a (2 * key) S ((x, true) :: f) d k).bind fun p => (sx Γ cs hs b (2 * key + 1) S ((x, false) :: f) d k).map (.ite x p) else none
     | _ => none
   | .const (.bool true) => sx Γ cs hs a (2 * key) S f d k
   | .const (.bool false) => sx Γ cs hs b (2 * key + 1) S f d k
   | _ => none
 | .block id c, key, S, f, d, k => sx Γ cs hs c (2 * key) S f d fun e S f d => match e with
    | .exit id' => if Nat.beq id' id then k .normal S f d else k (.exit id') S f d
    | e => k e S f d
 | .loop c, key, S, f, d, k =>
   match zEA key hs with
   | some (.loop h es) =>
     if ltL d (z42 h.pass S) && ((zFd h.keep (z42 h.pass S) (z42 h.pass S) && zHh h (z42 h.pass S) (z42 h.pass S)) && ltL (d + h.pass.length) (z3Y h (z42 h.pass S) d)) then
      (z4b h.pass (z42 h.pass S)).bind fun xs => (sx Γ cs hs c (2 * key) (z3Y h (z42 h.pass S) d) f (d + h.pass.length) fun e S' _ _ => match e with
        | .normal => zGp [(0, h)] 0 (z42 h.pass S) .normal S'
        | e => zGp es 1 (z42 h.pass S) e S').bind fun body => (zFA (z42 h.pass S) f d k es).map (.loop xs (.take h.pass.length body))
     else none
   | _ => none
 | _, _, _, _, _, _ => none
variable {P : Program} {Γ : Env} {E : Entry} {cs : List Ent}
theorem Wf.fact {ρ : List D} {S : List SC} {f : Fs} {d : Nat} (hw : Wf ρ S f d) {x : X} {b : Bool} (hl : x.lt d = true) (hb : (x.den ρ).b = b) : Wf ρ S ((x, b) :: f) d := by
 refine ⟨hw.len, hw.lt, ?_, ?_⟩
 ·intro y c hm
  simp only [List.mem_cons, Prod.mk.injEq] at hm
  rcases hm with ⟨rfl, rfl⟩ | hm
  ·exact hb
  ·exact hw.facts y c hm
 ·have := hw.flt
  simp only [ltF, List.all_cons, Bool.and_eq_true] at this ⊢
  exact ⟨hl, this⟩
def zLF (Γ : Env) (E : Entry) (Q : Exit → St → Prop) : Prop := ∀ e S S', Wk Γ E S S' → Q e S' → Q e S
theorem z9I {es : List (Nat × Plan)} {i0 : Nat} {S0 S : List SC} {e : Exit} {pe : PE} {ρ l : List D} {o : Nat × List D} {d : Nat} (h : zGp es i0 S0 e S = some pe) (hd : den cs pe (ρ ++ l) 0 [] = some o) (hlen : ρ.length = d) (hS0 : ltL d S0 = true) :
 ∃ i n p, es[i]? = some (n, p) ∧ zHT n = e ∧ o.1 = i0 + i ∧ o.2.length = p.pass.length ∧ Wk Γ E (z0s (ρ ++ l) S) (z0s (ρ ++ o.2) (z3Y p S0 d)) := by
 unfold zGp at h
 split at h
 ·cases h
 ·rename_i n hn
  split at h
  ·cases h
  ·rename_i i p hp
   obtain ⟨_, hp⟩ := z8G hp
   rw [Nat.sub_zero] at hp
   split at h
   case isFalse => cases h
   rename_i hk
   simp only [Bool.and_eq_true] at hk
   simp only [Option.map_eq_some_iff] at h
   obtain ⟨xs, hx, rfl⟩ := h
   simp only [den, Option.some.injEq] at hd
   subst hd
   exact ⟨i, n, p, hp, zJ6 hn, rfl, by simp [z7u hx], (z6t _ _).trans (zF7 hlen hS0 hx hk.1 hk.2).wk⟩
theorem zCE {X : Ctr} {ops : Array Oper} {K : St → Prop} {l2 : List Oper} : ∀ (l1 : List Oper) {S : St}, opsL X Γ ops l1 S (fun S => opsL X Γ ops l2 S K) → opsL X Γ ops (l1 ++ l2) S K
 | [], _, h => h
 | _ :: os, _, h => A.wp_mono (fun _ h => zCE os h) h
theorem zFo {X : Ctr} {ops : Array Oper} {K K' : St → Prop} (hk : ∀ S, K S → K' S) : ∀ (l : List Oper) {S : St}, opsL X Γ ops l S K → opsL X Γ ops l S K'
 | [], _, h => hk _ h
 | _ :: os, _, h => A.wp_mono (fun _ h => zFo hk os h) h
theorem zDe {ops os : List Oper} {s t x eq} (h : zJg ops = some (os, s, t, x, eq)) :
 ∃ last : Oper, ops = os ++ [last] ∧ last.guard = none ∧ ∃ u, last.dst = some s ∧ last.op = .binOp (if eq then .eql else .neq) t (.tmp x) (.const (.slice none 0 0)) u := by
 unfold zJg at h
 split at h
 ·rename_i s' op t' x' u a b c os' hr
  have hr' : ops = os'.reverse ++ [⟨some s', .binOp op t' (.tmp x') (.const (.slice none 0 0)) u, a, b, c, none⟩] := by
   have := congrArg List.reverse hr
   simpa using this
  split at h <;> simp only [Option.some.injEq, Prod.mk.injEq, reduceCtorEq] at h
  ·obtain ⟨rfl, rfl, rfl, rfl, rfl⟩ := h
   exact ⟨_, hr', rfl, _, rfl, rfl⟩
  ·obtain ⟨rfl, rfl, rfl, rfl, rfl⟩ := h
   exact ⟨_, hr', rfl, _, rfl, rfl⟩
 ·cases h
theorem zGw {ops os : List Oper} {s t x eq} (h : zJg ops = some (os, s, t, x, eq)) : ∃ last, ops = os ++ [last] := by
 obtain ⟨last, h, _⟩ := zDe h
 exact ⟨last, h⟩
theorem zIa {ops : Array Oper} {os : List Oper} {s t x eq} (hn : zJg ops.toList = some (os, s, t, x, eq)) {k : List SC → Fs → Nat → Option PE} {ρ : List D} {l : List D} {S : List SC} {f : Fs} {d : Nat} {pe : PE} {o} {K : St → Prop}
 (h : nilK Γ s t x eq k S f d = some pe) (hw : Wf (ρ ++ l) S f d) (hd : den cs pe (ρ ++ l) 0 [] = some o) (hK : Kok cs o ρ k K) :
 ∃ last, ops.toList = os ++ [last] ∧ opsL (VX P) Γ ops [last] (z0s (ρ ++ l) S) K := by
 obtain ⟨last, hl, hg, u, hdst, hop⟩ := zDe hn
 refine ⟨last, hl, ?_⟩
 unfold nilK at h
 split at h
 case h_2 => cases h
 rename_i lo e y hy
 split at h
 case isFalse => cases h
 rename_i hb
 simp only [Bool.and_eq_true] at hb
 obtain ⟨hb1, hb2, hb3, hb4⟩ := hb
 simp only [Option.bind_eq_some_iff, Option.map_eq_some_iff] at h
 obtain ⟨p, hp, q, hq, rfl⟩ := h
 simp only [den] at hd
 obtain ⟨hq', hp'⟩ := zLB hd
 have wf : ∀ b : Bool, Wf (ρ ++ l) (sset S s ⟨.val .bool (.b b), (sget S s).v.kill⟩) f d := fun b => ⟨hw.len, zAt hw.lt rfl, hw.facts, hw.flt⟩
 have c1 := fun (h : (y.den (ρ ++ l)).l.isEmpty = true) => hK _ _ _ _ _ hp (wf eq) (hp' h)
 have c2 := hK _ _ _ _ _ hq (wf !eq) hq'
 rw [← z4m] at c2
 have c1' := fun (h : (y.den (ρ ++ l)).l.isEmpty = true) => by have := c1 h; rw [← z4m] at this; exact this
 have hds := z0r hb1
 have hav : (z0s (ρ ++ l) S x).av = .val (.lst lo e) (y.den (ρ ++ l)) := by
  rw [z0g]; simp only [SC.conc, hy, SV.conc]
 have hv : (z0s (ρ ++ l) S s).v = (sget S s).v := by rw [z0g]; rfl
 show (opG Γ ops last).wp (VX P) _ _
 unfold opG
 rw [hg]
 simp only
 unfold opA
 rw [hop, hdst]
 have hag : (Γ.ty t).agg = false := by
  revert hb2 hb3 hb4
  generalize Γ.ty t = T
  cases T <;> simp
 simp only [hag, Bool.false_eq_true, if_false]
 cases eq with
 | true =>
   simp only [if_true]
   simp only [zIb, opd, A.wp, z4n, hav, hb3, if_true, out, hb4, hv, true_and]
   refine ⟨fun hl => ⟨⟨hds.1, hds.2, trivial⟩, ?_⟩, ⟨hds.1, hds.2, trivial⟩, ?_⟩
   ·exact c1' (by simp [hl])
   ·exact c2
 | false =>
   simp only [Bool.false_eq_true, if_false]
   simp only [zIb, opd, A.wp, z4n, hav, hb3, if_true, out, hb4, hv, true_and]
   refine ⟨fun hl => ⟨⟨hds.1, hds.2, trivial⟩, ?_⟩, ⟨hds.1, hds.2, trivial⟩, ?_⟩
   ·exact c1' (by simp [hl])
   ·exact c2
theorem zL7 (ok : EnvOk P Γ) (hcs : ∀ e ∈ cs, e.Ok P) {hs : List (Nat × Hint)} : ∀ (c : Code) {key : Nat} {S : List SC} {f : Fs} {d : Nat} {k : Kont} {pe : PE} {ρ : List D} {o : Nat × List D} {Q : Exit → St → Prop},
 sx Γ cs hs c key S f d k = some pe → Wf ρ S f d → den cs pe ρ 0 [] = some o → zLF Γ E Q →
 (∀ e S' f' d' pe' l, k e S' f' d' = some pe' → Wf (ρ ++ l) S' f' d' → den cs pe' (ρ ++ l) 0 [] = some o → Q e (z0s (ρ ++ l) S')) → Ex P Γ E c Q (z0s ρ S) := by
 intro c
 have nil : ∀ {ρ : List D}, ρ ++ [] = ρ := fun {ρ} => List.append_nil ρ
 induction c with
 | skip =>
   intro key S f d k pe ρ o Q h hw hd _ hk
   refine Ex.skip ?_
   have := hk .normal S f d pe [] h (by rwa [nil]) (by rwa [nil])
   rwa [nil] at this
 | label l =>
   intro key S f d k pe ρ o Q h hw hd _ hk
   refine Ex.label ?_
   have := hk .normal S f d pe [] h (by rwa [nil]) (by rwa [nil])
   rwa [nil] at this
 | exit id =>
   intro key S f d k pe ρ o Q h hw hd _ hk
   refine Ex.exit ?_
   have := hk (.exit id) S f d pe [] h (by rwa [nil]) (by rwa [nil])
   rwa [nil] at this
 | ret =>
   intro key S f d k pe ρ o Q h hw hd _ hk
   refine Ex.ret ?_
   have := hk .ret S f d pe [] h (by rwa [nil]) (by rwa [nil])
   rwa [nil] at this
 | region id ops draw =>
   intro key S f d k pe ρ o Q h hw hd _ hk
   have hK : Kok cs o ρ (k .normal) (Q .normal) := fun S' f' d' pe' l h1 h2 h3 => hk .normal S' f' d' pe' l h1 h2 h3
   unfold sx at h
   cases draw with
   | true =>
     simp only [if_true] at h
     split at h
     case isFalse => cases h
     rename_i hdn
     refine Ex.opsAny ok hdn ?_
     have := z4i (Γ := Γ) (ρ0 := ρ) (l := []) (tr' := []) hcs (Fin := fun tr => z1H (ancs .any ops.toList) tr = true) (fun tr tr' h1 h2 => zAx h1 h2) ops.toList h hK (by rwa [nil]) (by rwa [nil]) trivial
     rw [nil] at this
     exact zFn _ this
   | false =>
     simp only [Bool.false_eq_true, if_false] at h
     split at h
     ·rename_i os s t x eq hn
      have := z4i (Γ := Γ) (ρ0 := ρ) (l := []) (tr' := []) hcs (Fin := fun _ => True) (K := fun S => ∃ last, ops.toList = os ++ [last] ∧ opsL (VX P) Γ ops [last] S (Q .normal)) (fun _ _ _ _ => trivial) os h ?_ (by rwa [nil]) (by rwa [nil]) trivial
      ·rw [nil] at this
       refine Ex.ops ok ?_
       have h2 := zCD _ this
       rw [show ops.toList = os ++ [ops.toList.getLast?.getD default] by
        obtain ⟨last, hl⟩ := zGw hn
        rw [hl]; simp]
       refine zCE os (zFo (fun S h => ?_) os h2)
       obtain ⟨last, hl, h⟩ := h
       rw [hl]
       simpa using h
      ·intro S' f' d' pe' l h1 h2 h3
       exact zIa hn h1 h2 h3 hK
     ·have := z4i (Γ := Γ) (ρ0 := ρ) (l := []) (tr' := []) hcs (Fin := fun _ => True) (fun _ _ _ _ => trivial) ops.toList h hK (by rwa [nil]) (by rwa [nil]) trivial
      rw [nil] at this
      exact Ex.ops ok (zCD _ this)
 | seq a b iha ihb =>
   intro key S f d k pe ρ o Q h hw hd hQ hk
   have hlen := hw.len
   refine Ex.seq ?_
   have hcl : zLF Γ E (zGI (Ex P Γ E b Q) Q) := by
    intro e S S' hW h
    cases e with
    | normal => exact Ex.wk hW h
    | _ => exact hQ _ _ _ hW h
   unfold sx at h
   simp only at h
   have plain : sx Γ cs hs a (2 * key) S f d (fun e S f d => match e with
    | .normal => sx Γ cs hs b (2 * key + 1) S f d k
    | e => k e S f d) = some pe → Ex P Γ E a (zGI (Ex P Γ E b Q) Q) (z0s ρ S) := by
    intro h
    refine iha h hw hd hcl ?_
    intro e S' f' d' pe' l h1 h2 h3
    cases e with
    | normal =>
      refine ihb h1 h2 h3 hQ fun e S2 f2 d2 pe2 l2 g1 g2 g3 => ?_
      rw [List.append_assoc] at g2 g3 ⊢
      exact hk e S2 f2 d2 pe2 (l ++ l2) g1 g2 g3
    | _ => exact hk _ S' f' d' pe' l h1 h2 h3
   split at h
   ·rename_i es hes
    simp only [Option.bind_eq_some_iff, Option.map_eq_some_iff] at h
    obtain ⟨pa, hpa, ks, hks, rfl⟩ := h
    simp only [den, Option.bind_eq_some_iff] at hd
    obtain ⟨o1, hd1, hd2⟩ := hd
    refine iha (k := fun e S' _ _ => zGp es 0 S e S') hpa hw hd1 hcl ?_
    intro e S' f' d' pe' l h1 h2 h3
    obtain ⟨i, n, p, g1, g2, g3, g4, g5⟩ := z9I h1 h3 hlen hw.lt
    rw [Nat.zero_add] at g3
    rw [g3] at hd2
    obtain ⟨g6, pe2, g7, g8⟩ := z91 hks g1 hd2 g4
    have hw2 : Wf (ρ ++ o1.2) (z3Y p S d) f (d + p.pass.length) := ⟨by simp [hlen, g4], g6, hw.facts.append (by rw [hlen]; exact hw.flt), zAs (by omega) hw.flt⟩
    refine hcl e _ _ g5 ?_
    rw [g2] at g7
    cases e with
    | normal =>
      refine ihb g7 hw2 g8 hQ fun e S2 f2 d2 pe2 l2 k1 k2 k3 => ?_
      rw [List.append_assoc] at k2 k3 ⊢
      exact hk e S2 f2 d2 pe2 (o1.2 ++ l2) k1 k2 k3
    | _ => exact hk _ _ f _ pe2 o1.2 g7 hw2 g8
   ·exact plain h
 | cond x a b iha ihb =>
   intro key S f d k pe ρ o Q h hw hd hQ hk
   unfold sx at h
   cases x with
   | tmp s =>
     simp only at h
     refine Ex.cond ?_
     simp only [zKZ]
     rw [z0g]
     have hlc := z6v hw.lt s
     generalize sget S s = c at h hlc
     obtain ⟨av, ver⟩ := c
     simp only [SC.conc]
     cases av with
     | val ty x =>
       cases ty with
       | bool =>
         simp only [SV.conc] at h ⊢
         cases hk' : zBf f x with
         | some bb =>
           rw [hk'] at h
           have hb := z7A hw.facts hk'
           cases bb with
           | true => exact ⟨fun _ => iha h hw hd hQ hk, fun hf => by rw [hb] at hf; cases hf⟩
           | false => exact ⟨fun hf => (by rw [hb] at hf; cases hf), fun _ => ihb h hw hd hQ hk⟩
         | none =>
           rw [hk'] at h
           simp only at h
           split at h
           case isFalse => cases h
           rename_i hlx
           simp only [Option.bind_eq_some_iff, Option.map_eq_some_iff] at h
           obtain ⟨p, hp, q, hq, rfl⟩ := h
           simp only [den] at hd
           refine ⟨fun hb => ?_, fun hb => ?_⟩
           ·rw [if_pos hb] at hd
            exact iha hp (hw.fact hlx hb) hd hQ hk
           ·rw [if_neg (by rw [hb]; simp)] at hd
            exact ihb hq (hw.fact hlx hb) hd hQ hk
       | _ => cases h
     | _ => cases h
   | const v =>
     cases v with
     | bool bb =>
       refine Ex.cond ?_
       simp only [zKZ]
       cases bb with
       | true => exact ⟨fun _ => iha h hw hd hQ hk, fun hf => by cases hf⟩
       | false => exact ⟨fun hf => (by cases hf), fun _ => ihb h hw hd hQ hk⟩
     | _ => cases h
   | _ => cases h
 | block id c ih =>
   intro key S f d k pe ρ o Q h hw hd hQ hk
   unfold sx at h
   refine Ex.block (ih h hw hd ?_ ?_)
   ·intro e S S' hW h
    cases e with
    | exit id' =>
      simp only [zAz] at h ⊢
      by_cases hi : id' = id
      ·rw [if_pos hi] at h ⊢; exact hQ _ _ _ hW h
      ·rw [if_neg hi] at h ⊢; exact hQ _ _ _ hW h
    | _ => exact hQ _ _ _ hW h
   ·intro e S' f' d' pe' l h1 h2 h3
    cases e with
    | exit id' =>
      simp only [zAz] at h1 ⊢
      by_cases hi : id' = id
      ·subst hi
       rw [if_pos rfl]
       simp only [Nat.beq_refl, if_true] at h1
       exact hk _ S' f' d' pe' l h1 h2 h3
      ·rw [if_neg hi]
       have : Nat.beq id' id = false := by
        cases hb : Nat.beq id' id with
        | false => rfl
        | true => exact absurd (Nat.eq_of_beq_eq_true hb) hi
       simp only [this, Bool.false_eq_true, if_false] at h1
       exact hk _ S' f' d' pe' l h1 h2 h3
    | _ => exact hk _ S' f' d' pe' l h1 h2 h3
 | loop c ih =>
   intro key S f d k pe ρ o Q h hw hd hQ hk
   have hlen := hw.len
   unfold sx at h
   split at h
   case h_2 => cases h
   rename_i hp es hes
   split at h
   case isFalse => cases h
   rename_i hkp
   simp only [Bool.and_eq_true] at hkp
   refine Ex.wk (z6t hp.pass S) ?_
   replace hw : Wf ρ (z42 hp.pass S) f d := ⟨hw.len, hkp.1, hw.facts, hw.flt⟩
   replace hkp := hkp.2
   generalize z42 hp.pass S = S at *
   simp only [Option.bind_eq_some_iff, Option.map_eq_some_iff] at h
   obtain ⟨xs, hxs, body, hbody, ks, hks, rfl⟩ := h
   simp only [den, Option.bind_eq_some_iff] at hd
   obtain ⟨o1, hd1, hd2⟩ := hd
   obtain ⟨n, hn⟩ := z9N hd1
   have hw0 : Wk Γ E (z0s ρ S) (z0s (ρ ++ xs.map (X.den ρ)) (z3Y hp S d)) := by
    have := zF7 (l := []) hlen hw.lt hxs hkp.1.1 hkp.1.2
    rw [nil] at this
    exact this.wk
   refine Ex.loop (fun n S' => ∃ l, z7k (fun l => den cs (.take hp.pass.length body) ρ 0 l) n l = some o1 ∧ l.length = hp.pass.length ∧ Wk Γ E S' (z0s (ρ ++ l) (z3Y hp S d))) (n := n) ⟨_, hn, by simp [z7u hxs], hw0⟩ ?_
   rintro n S1 ⟨l, hit, hll, hW⟩
   refine Ex.wk hW ?_
   cases n with
   | zero => cases hit
   | succ n =>
     unfold z7k at hit
     simp only [den] at hit
     rw [zER l hp.pass.length 0 (by omega), List.drop_zero] at hit
     cases hdl : den cs body (ρ ++ l) 0 [] with
     | none => rw [hdl] at hit; cases hit
     | some ob =>
       rw [hdl] at hit
       have hwh : Wf (ρ ++ l) (z3Y hp S d) f (d + hp.pass.length) := ⟨by simp [hlen, hll], hkp.2, hw.facts.append (by rw [hlen]; exact hw.flt), zAs (by omega) hw.flt⟩
       refine ih hbody hwh hdl ?_ ?_
       ·intro e S S' hW h
        cases e with
        | normal =>
          obtain ⟨m, h1, l', h2, h3, h4⟩ := h
          exact ⟨m, h1, l', h2, h3, hW.trans h4⟩
        | _ => exact hQ _ _ _ hW h
       ·intro e S' f' d' pe' l' h1 h2 h3
        rw [List.append_assoc] at h3 ⊢
        have other : e ≠ .normal → zGp es 1 S e S' = some pe' → Q e (z0s (ρ ++ (l ++ l')) S') := by
         intro hne h1
         obtain ⟨i, m, p, g1, g2, g3, g4, g5⟩ := z9I h1 h3 hlen hw.lt
         obtain ⟨t, vals⟩ := ob
         simp only at g3 g4 g5 hit
         subst g3
         rw [Nat.add_comm] at hit
         simp only [Option.some.injEq] at hit
         subst hit
         simp only at hd2
         obtain ⟨g6, pe2, g7, g8⟩ := z91 hks g1 hd2 g4
         rw [g2] at g7
         exact hQ _ _ _ g5 (hk e _ f _ pe2 vals g7 ⟨by simp [hlen, g4], g6, hw.facts.append (by rw [hlen]; exact hw.flt), zAs (by omega) hw.flt⟩ g8)
        cases e with
        | normal =>
          obtain ⟨i, m, p, g1, g2, g3, g4, g5⟩ := z9I h1 h3 hlen hw.lt
          have hi : i = 0 := by
           have := (List.getElem?_eq_some_iff.1 g1).1
           simpa using this
          subst hi
          simp only [List.getElem?_cons_zero, Option.some.injEq, Prod.mk.injEq] at g1
          obtain ⟨rfl, rfl⟩ := g1
          obtain ⟨t, vals⟩ := ob
          simp only at g3 g4 g5 hit
          subst g3
          simp only at hit
          exact ⟨n, Nat.lt_succ_self n, vals, hit, g4, g5⟩
        | _ => exact other (by simp) h1
 | _ =>
   intro key S f d k pe ρ o Q h hw hd hQ hk
   unfold sx at h
   cases h
end
end Go.Own
