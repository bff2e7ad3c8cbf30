/- A layer over the walk: what lies in memory as plain data, each operation by what it does to data; part 24. -/
import Derived.Test.YtbacjgkmkkphdaaGreatDoorD3
set_option linter.unusedSectionVars false
set_option linter.unusedVariables false
set_option linter.unusedSimpArgs false
namespace Go.Own
variable [Glb]
noncomputable section
open Go
inductive PE where
 | out (n : Nat) (xs : List X)
 | assert (x : X) (k : PE)
 | ite (x : X) (a b : PE)
 | call (i : Nat) (xs : List X) (k : PE)
 | bind (p ks : PE)
 | loop (init : List X) (body ks : PE)
 | alt (a b : PE)
 | take (m : Nat) (k : PE)
 | any (x : X) (p q : PE)
 | bot
 deriving Inhabited
abbrev Outc := Option (Nat × List D)
def iterF (f : List D → Outc) : Nat → List D → Outc
 | 0, _ => none
 | n + 1, l => match f l with
   | none => none
   | some (0, l') => iterF f n l'
   | some (t + 1, l') => some (t, l')
open Classical in
def loopF (f : List D → Outc) (l : List D) : Outc := if h : ∃ n r, iterF f n l = some r then some h.choose_spec.choose else none
theorem iterF_succ {f : List D → Outc} : ∀ {n : Nat} {l : List D} {r}, iterF f n l = some r → iterF f (n + 1) l = some r
 | 0, l, r, h => by cases h
 | n + 1, l, r, h => by
   unfold iterF at h ⊢
   cases hf : f l with
   | none => rw [hf] at h; cases h
   | some q =>
     obtain ⟨t, l'⟩ := q
     rw [hf] at h
     cases t with
     | zero => exact iterF_succ h
     | succ t => exact h
theorem iterF_mono {f : List D → Outc} {n m : Nat} {l : List D} {r} (h : iterF f n l = some r) (hm : n ≤ m) : iterF f m l = some r := by
 induction hm with
 | refl => exact h
 | step _ ih => exact iterF_succ ih
theorem loopF_of {f : List D → Outc} {n : Nat} {l : List D} {r} (h : iterF f n l = some r) : loopF f l = some r := by
 have hex : ∃ n r, iterF f n l = some r := ⟨n, r, h⟩
 unfold loopF
 rw [dif_pos hex]
 have h2 := hex.choose_spec.choose_spec
 have h3 := iterF_mono h (Nat.le_max_left n hex.choose)
 have h4 := iterF_mono h2 (Nat.le_max_right n hex.choose)
 rw [h3] at h4
 exact h4.symm
theorem loopF_some {f : List D → Outc} {l : List D} {r} (h : loopF f l = some r) : ∃ n, iterF f n l = some r := by
 unfold loopF at h
 split at h
 ·rename_i hex
  simp only [Option.some.injEq] at h
  exact ⟨_, by rw [← h]; exact hex.choose_spec.choose_spec⟩
 ·cases h
theorem loopF_step {f : List D → Outc} {l l' : List D} (h : f l = some (0, l')) : loopF f l = loopF f l' := by
 cases hr : loopF f l' with
 | some r =>
   obtain ⟨n, hn⟩ := loopF_some hr
   exact loopF_of (n := n + 1) (by unfold iterF; rw [h]; exact hn)
 | none =>
   cases hr2 : loopF f l with
   | none => rfl
   | some r =>
     obtain ⟨n, hn⟩ := loopF_some hr2
     cases n with
     | zero => cases hn
     | succ n =>
       unfold iterF at hn; rw [h] at hn
       rw [loopF_of hn] at hr; cases hr
theorem loopF_exit {f : List D → Outc} {l l' : List D} {t : Nat} (h : f l = some (t + 1, l')) : loopF f l = some (t, l') :=
 loopF_of (n := 1) (by unfold iterF; rw [h])
def normL (l : List D) : Nat → Nat → List D
 | _, 0 => []
 | k, m + 1 => l.getD k .unit :: normL l (k + 1) m
theorem normL_eq (l : List D) : ∀ (m k : Nat), k + m = l.length → normL l k m = l.drop k
 | 0, k, h => by rw [normL, List.drop_eq_nil_of_le (by omega)]
 | m + 1, k, h => by
   rw [normL, normL_eq l m (k + 1) (by omega), List.drop_eq_getElem_cons (show k < l.length by omega), List.getD_eq_getElem?_getD, List.getElem?_eq_getElem (show k < l.length by omega)]
   rfl
def sel2 (n : Nat) (a : Outc) (b : Nat → Outc) : Outc := match n with
 | 0 => a
 | n + 1 => b n
open Classical in
def two (c : Bool) (p q : Outc) : Outc := if c then (if p = q then q else none) else q
theorem two_some {c : Bool} {p q : Outc} {o} (h : two c p q = some o) : q = some o ∧ (c = true → p = some o) := by
 unfold two at h
 split at h
 ·rename_i hc
  split at h
  ·rename_i hpq; exact ⟨h, fun _ => hpq ▸ h⟩
  ·cases h
 ·rename_i hc; exact ⟨h, fun h => absurd h hc⟩
theorem two_eq {c : Bool} {p q : Outc} (h : c = true → p = q) : two c p q = q := by
 unfold two
 split
 ·rename_i hc; rw [if_pos (h hc)]
 ·rfl
def den (cs : List Ent) : PE → List D → Nat → List D → Outc
 | .out n xs, ρ, _, _ => some (n, xs.map (X.den ρ))
 | .assert x k, ρ, n, l => if (x.den ρ).b = true then den cs k ρ n l else none
 | .ite x a b, ρ, n, l => if (x.den ρ).b = true then den cs a ρ n l else den cs b ρ n l
 | .call i xs k, ρ, n, l => (runEnt cs i (xs.map (X.den ρ))).bind fun r => den cs k (ρ ++ [r]) n l
 | .bind p ks, ρ, _, _ => (den cs p ρ 0 []).bind fun o => den cs ks ρ o.1 o.2
 | .loop init body ks, ρ, _, _ => (loopF (fun l => den cs body ρ 0 l) (init.map (X.den ρ))).bind fun o => den cs ks ρ o.1 o.2
 | .alt a b, ρ, n, l => sel2 n (den cs a ρ 0 l) fun n => den cs b ρ n l
 | .take m k, ρ, n, l => den cs k (ρ ++ normL l 0 m) n []
 | .any x p q, ρ, n, l => two (x.den ρ).l.isEmpty (den cs p ρ n l) (den cs q ρ n l)
 | .bot, _, _, _ => none
abbrev Fs := List (X × Bool)
def ltF (d : Nat) (f : Fs) : Bool := f.all fun x => x.1.lt d
structure Wf (ρ : List D) (S : List SC) (f : Fs) (d : Nat) : Prop where
 len : ρ.length = d
 lt : ltL d S = true
 facts : Facts ρ f
 flt : ltF d f = true
def wrapA (f : Fs) : List X → PE → PE
 | [], k => k
 | a :: as, k => match known f a with
   | some true => wrapA f as k
   | _ => .assert a (wrapA ((a, true) :: f) as k)
def factsA : List X → Fs → Fs
 | [], f => f
 | a :: as, f => factsA as ((a, true) :: f)
theorem wrapA_den {cs : List Ent} {ρ : List D} : ∀ {as : List X} {f : Fs} {k : PE} {n : Nat} {l : List D} {o}, Facts ρ f → den cs (wrapA f as k) ρ n l = some o → (∀ a ∈ as, (a.den ρ).b = true) ∧ den cs k ρ n l = some o
 | [], f, k, n, l, o, _, h => ⟨by simp, h⟩
 | a :: as, f, k, n, l, o, hf, h => by
   unfold wrapA at h
   split at h
   ·rename_i hk
    obtain ⟨h1, h2⟩ := wrapA_den hf h
    refine ⟨fun x hx => ?_, h2⟩
    simp only [List.mem_cons] at hx
    rcases hx with rfl | hx
    ·exact known_spec hf hk
    ·exact h1 x hx
   ·simp only [den] at h
    split at h
    ·rename_i hb
     obtain ⟨h1, h2⟩ := wrapA_den (by
      intro x b hm
      simp only [List.mem_cons, Prod.mk.injEq] at hm
      rcases hm with ⟨rfl, rfl⟩ | hm
      ·exact hb
      ·exact hf x b hm) h
     refine ⟨fun x hx => ?_, h2⟩
     simp only [List.mem_cons] at hx
     rcases hx with rfl | hx
     ·exact hb
     ·exact h1 x hx
    ·cases h
theorem factsA_ok {ρ : List D} : ∀ {as : List X} {f : Fs}, Facts ρ f → (∀ a ∈ as, (a.den ρ).b = true) → Facts ρ (factsA as f)
 | [], _, hf, _ => hf
 | a :: as, f, hf, ha => factsA_ok (as := as) (by
    intro x b hm
    simp only [List.mem_cons, Prod.mk.injEq] at hm
    rcases hm with ⟨rfl, rfl⟩ | hm
    ·exact ha _ (by simp)
    ·exact hf x b hm) fun x hx => ha x (by simp [hx])
def ltW (d : Nat) (w : SWr) : Bool := w.all fun x => x.2.av.lt d
theorem ltL_sset {d : Nat} : ∀ {l : List SC} {s : Nat} {c : SC}, ltL d l = true → c.av.lt d = true → ltL d (sset l s c) = true
 | [], 0, c, _, h => by simp [sset, ltL, h]
 | [], s + 1, c, h0, h => by
   have := ltL_sset (l := []) (s := s) (c := c) (d := d) rfl h
   simp only [sset, ltL, List.all_cons, Bool.and_eq_true]
   exact ⟨rfl, this⟩
 | x :: l, 0, c, h0, h => by simp [sset, ltL] at h0 ⊢; exact ⟨h, h0.2⟩
 | x :: l, s + 1, c, h0, h => by
   simp [ltL] at h0
   have := ltL_sset (l := l) (s := s) (c := c) (d := d) (by simp [ltL]; exact h0.2) h
   simp only [ltL] at this
   simp [sset, ltL]
   exact ⟨h0.1, by simpa using this⟩
theorem ltL_sapply {d : Nat} : ∀ {w : SWr} {l : List SC}, ltL d l = true → ltW d w = true → ltL d (sapply l w) = true
 | [], _, h, _ => h
 | (s, c) :: w, l, h, hw => by
   simp only [ltW, List.all_cons, Bool.and_eq_true] at hw
   exact ltL_sapply (w := w) (ltL_sset h hw.1) hw.2
theorem X.lt_mono {d e : Nat} (h : d ≤ e) : ∀ {x : X}, x.lt d = true → x.lt e = true
 | .v n, hx => by simp [X.lt] at hx ⊢; omega
 | .u, _ | .i _, _ | .b _, _ | .s _, _ | .nil, _ | .z _, _ => rfl
 | .un o x, hx => X.lt_mono h (x := x) hx
 | .bi o x y, hx => by simp [X.lt] at hx ⊢; exact ⟨X.lt_mono h hx.1, X.lt_mono h hx.2⟩
 | .tri o x y w, hx => by simp [X.lt] at hx ⊢; exact ⟨X.lt_mono h hx.1, X.lt_mono h hx.2.1, X.lt_mono h hx.2.2⟩
theorem SPath.lt_mono {d e : Nat} (h : d ≤ e) {p : SPath} (hp : SPath.lt d p = true) : SPath.lt e p = true := by
 simp only [SPath.lt, List.all_eq_true] at hp ⊢
 intro a ha
 have := hp a ha
 cases a with
 | f j => rfl
 | i x => exact X.lt_mono h this
theorem SV.lt_mono {d e : Nat} (h : d ≤ e) {a : SV} (ha : a.lt d = true) : a.lt e = true := by
 cases a <;> simp only [SV.lt, Bool.and_eq_true] at ha ⊢
 case val => exact X.lt_mono h ha
 case tup => exact X.lt_mono h ha
 case box => exact X.lt_mono h ha
 case ref => exact ⟨SPath.lt_mono h ha.1, X.lt_mono h ha.2⟩
 case win => exact ⟨SPath.lt_mono h ha.1, X.lt_mono h ha.2.1, X.lt_mono h ha.2.2⟩
 case ptr => exact SPath.lt_mono h ha
 case bref => exact ⟨SPath.lt_mono h ha.1, X.lt_mono h ha.2⟩
 case clo f l =>
  rw [List.all_eq_true] at ha ⊢
  intro c hc
  have := ha c hc
  cases c with
  | val t x => exact X.lt_mono h this
  | ptr r v p => exact SPath.lt_mono h this
theorem ltL_mono {d e : Nat} (h : d ≤ e) {l : List SC} (hl : ltL d l = true) : ltL e l = true := by
 simp only [ltL, List.all_eq_true] at hl ⊢
 exact fun c hc => SV.lt_mono h (hl c hc)
theorem ltF_mono {d e : Nat} (h : d ≤ e) {f : Fs} (hf : ltF d f = true) : ltF e f = true := by
 simp only [ltF, List.all_eq_true] at hf ⊢
 exact fun c hc => X.lt_mono h (hf c hc)
theorem Facts.append {ρ l : List D} {f : Fs} (hf : Facts ρ f) (hl : ltF ρ.length f = true) : Facts (ρ ++ l) f := by
 intro x b hm
 simp only [ltF, List.all_eq_true] at hl
 rw [X.den_append l (hl _ hm)]
 exact hf x b hm
theorem ltF_factsA {d : Nat} : ∀ {as : List X} {f : Fs}, ltF d f = true → (as.all (X.lt d)) = true → ltF d (factsA as f) = true
 | [], _, h, _ => h
 | a :: as, f, h, ha => by
   simp only [List.all_cons, Bool.and_eq_true] at ha
   exact ltF_factsA (as := as) (by simp only [ltF, List.all_cons, Bool.and_eq_true]; exact ⟨ha.1, h⟩) ha.2
def stepR (cs : List Ent) (f : Fs) (d : Nat) (S : List SC) (r : OpR) (k : List SC → Fs → Nat → Option PE) : Option PE :=
 if r.as.all (X.lt d) then
  match r.call with
  | none => if ltW d r.W then (k (sapply S r.W) (factsA r.as f) d).map (wrapA f r.as) else none
  | some (i, xs) => if ltW (d + 1) r.W then (k (sapply S r.W) (factsA r.as f) (d + 1)).map fun p => wrapA f r.as (.call i xs p) else none
 else none
def Kok (cs : List Ent) (o : Nat × List D) (ρ0 : List D) (k : List SC → Fs → Nat → Option PE) (K : St → Prop) : Prop :=
 ∀ S f d pe l, k S f d = some pe → Wf (ρ0 ++ l) S f d → den cs pe (ρ0 ++ l) 0 [] = some o → K (concL (ρ0 ++ l) S)
section
variable {P : Program} {cs : List Ent} {Γ : Env}
theorem stepR_sound {ρ : List D} {S : List SC} {f : Fs} {d : Nat} {o} {r : OpR} {k : List SC → Fs → Nat → Option PE} {pe : PE} {a : A} (hsim : Sim P cs ρ S (some r) a) (h : stepR cs f d S r k = some pe) (hw : Wf ρ S f d) (hd : den cs pe ρ 0 [] = some o) :
 ∃ w : SWr, ∃ l f' d' pe', k (sapply S w) f' d' = some pe' ∧ Wf (ρ ++ l) (sapply S w) f' d' ∧ den cs pe' (ρ ++ l) 0 [] = some o ∧ concL (ρ ++ l) (sapply S w) = (concL ρ S).apply (concW (ρ ++ l) w) ∧ w = r.W ∧
  ∀ R0 K, (∀ R', (∀ s ∈ R', s ∈ R0 ∨ s ∈ r.R) → K R' (concW (ρ ++ l) w)) → a.wpD (VX P) R0 (concL ρ S) K := by
 unfold stepR at h
 split at h
 case isFalse => cases h
 rename_i has
 cases hc : r.call with
 | none =>
   rw [hc] at h
   simp only at h
   split at h
   case isFalse => cases h
   rename_i hlw
   simp only [Option.map_eq_some_iff] at h
   obtain ⟨pe', hk, rfl⟩ := h
   obtain ⟨h1, h2⟩ := wrapA_den hw.facts hd
   refine ⟨r.W, [], _, _, pe', hk, ?_, by simpa using h2, ?_, rfl, fun R0 K hK => ?_⟩
   ·rw [List.append_nil]
    exact ⟨hw.len, ltL_sapply hw.lt hlw, factsA_ok hw.facts h1, ltF_factsA hw.flt has⟩
   ·rw [List.append_nil, concL_apply]
   ·refine hsim r rfl R0 K ⟨h1, ?_⟩
    rw [hc]
    intro R' hR'
    have := hK R' hR'
    rwa [List.append_nil] at this
 | some q =>
   obtain ⟨i, xs⟩ := q
   rw [hc] at h
   simp only at h
   split at h
   case isFalse => cases h
   rename_i hlw
   simp only [Option.map_eq_some_iff] at h
   obtain ⟨pe', hk, rfl⟩ := h
   obtain ⟨h1, h2⟩ := wrapA_den hw.facts hd
   simp only [den, Option.bind_eq_some_iff] at h2
   obtain ⟨out, ho, h3⟩ := h2
   have hl := hw.len
   refine ⟨r.W, [out], _, _, pe', hk, ?_, h3, ?_, rfl, fun R0 K hK => ?_⟩
   ·refine ⟨by simp [hl], ltL_sapply (ltL_mono (by omega) hw.lt) hlw, ?_, ltF_mono (by omega) (ltF_factsA hw.flt has)⟩
    exact Facts.append (factsA_ok hw.facts h1) (by rw [hl]; exact ltF_factsA hw.flt has)
   ·rw [← concL_apply, concL_append (by rw [hl]; exact hw.lt)]
   ·refine hsim r rfl R0 K ⟨h1, ?_⟩
    rw [hc]
    exact ⟨out, ho, hK⟩
def sgentle (c c' : SC) : Bool := match c.av, c'.av with
 | .val (.lst true e) _, .val (.lst true e') _ => decide (e = e') && (decide (c.v.id = c'.v.id) && decide (c.v.v0 = c'.v.v0))
 | .box t _, .box t' _ => decide (t.shape = t'.shape) && decide (c.v.id = c'.v.id)
 | _, _ => false
theorem sgentle_conc {ρ ρ' : List D} {c c' : SC} (h : sgentle c c' = true) : gentle (c.conc ρ) (c'.conc ρ') = true := by
 obtain ⟨a, v⟩ := c
 obtain ⟨a', v'⟩ := c'
 unfold sgentle at h
 split at h
 ·rename_i h1 h2
  simp only at h1 h2 h
  subst h1 h2
  exact h
 ·rename_i h1 h2
  simp only at h1 h2 h
  subst h1 h2
  exact h
 ·cases h
def sgX (o : Oper) (S : List SC) (w : SWr) : List Nat := if (exOf o).isSome then [] else (w.map (·.1)).filter fun s => sgentle (sget S s) (sget (sapply S w) s)
def sregion (Γ : Env) (cs : List Ent) (ops : Array Oper) (fin : List Tr → Bool) : List Oper → Nat → List Tr → List SC → Fs → Nat → (List SC → Fs → Nat → Option PE) → Option PE
 | [], _, tr, S, f, d, k => if fin tr then k S f d else none
 | o :: os, i, tr, S, f, d, k =>
   let run (f : Fs) : Option PE := match sopA Γ cs S f d o with
    | none => none
    | some r => stepR cs f d S r fun S' f d => sregion Γ cs ops fin os (i + 1) (tr ++ [⟨i, r.R, r.W.map (·.1), exOf o, mvOf o, sgX o S r.W⟩]) S' f d k
   let hole (f : Fs) : Option PE := match sout Γ S o.dst (.tup .unit .u) with
    | none => none
    | some r => stepR cs f d S r fun S' f d => sregion Γ cs ops fin os (i + 1) (tr ++ [⟨i, r.R, r.W.map (·.1), exOf o, mvOf o, sgX o S r.W⟩]) S' f d k
   match o.guard with
   | none => run f
   | some (j, want) => match (ops[j]?).bind (·.dst) with
     | none => none
     | some s =>
       let run' (f : Fs) : Option PE := match sopA Γ cs S f d o with
        | none => none
        | some r => stepR cs f d S r fun S' f d => sregion Γ cs ops fin os (i + 1) (tr ++ [⟨i, s :: r.R, r.W.map (·.1), exOf o, mvOf o, sgX o S r.W⟩]) S' f d k
       let hole' (f : Fs) : Option PE := match sout Γ S o.dst (.tup .unit .u) with
        | none => none
        | some r => stepR cs f d S r fun S' f d => sregion Γ cs ops fin os (i + 1) (tr ++ [⟨i, s :: r.R, r.W.map (·.1), exOf o, mvOf o, sgX o S r.W⟩]) S' f d k
       match (sget S s).av with
       | .val .bool x => match known f x with
         | some b => if b == want then run' f else hole' f
         | none => if x.lt d then
            (if want then run' ((x, true) :: f) else hole' ((x, true) :: f)).bind fun p =>
            (if want then hole' ((x, false) :: f) else run' ((x, false) :: f)).map fun q => .ite x p q
           else none
       | .tup .unit _ => hole' f
       | _ => none
def Tr.Cm (a b : Tr) : Prop := a.x = b.x ∧ a.m = b.m ∧ ∀ s ∈ b.g, s ∈ a.g
theorem sgX_sub {ρ ρ' : List D} {S : List SC} {w : SWr} {o : Oper} : ∀ s ∈ sgX o S w, s ∈ (if (exOf o).isSome then [] else gOf (concL ρ S) (concW ρ' w)) := by
 intro s hs
 unfold sgX at hs
 split at hs
 ·cases hs
 ·rename_i hx
  rw [if_neg hx]
  obtain ⟨h1, h2⟩ := List.mem_filter.mp hs
  refine List.mem_filter.mpr ⟨by rw [concW_fst]; exact h1, ?_⟩
  rw [apply_eq_of_mem (S' := concL ρ' S) (by rw [concW_fst]; exact h1), concL_apply, concL_get, concL_get]
  exact sgentle_conc h2
def TrLe : List Tr → List Tr → Prop
 | [], [] => True
 | a :: l, b :: m => a.i = b.i ∧ (a.W = b.W ∧ a.Cm b) ∧ (∀ s ∈ a.R, s ∈ b.R) ∧ TrLe l m
 | _, _ => False
theorem TrLe.snoc : ∀ {l m : List Tr} {a b : Tr}, TrLe l m → a.i = b.i → a.W = b.W → a.Cm b → (∀ s ∈ a.R, s ∈ b.R) → TrLe (l ++ [a]) (m ++ [b])
 | [], [], _, _, _, h1, h2, hx, h3 => ⟨h1, ⟨h2, hx⟩, h3, trivial⟩
 | [], _ :: _, _, _, h, _, _, _, _ => h.elim
 | _ :: _, [], _, _, h, _, _, _, _ => h.elim
 | x :: l, y :: m, a, b, h, h1, h2, hx, h3 => ⟨h.1, h.2.1, h.2.2.1, TrLe.snoc h.2.2.2 h1 h2 hx h3⟩
theorem dis_sub {a b b' : List Nat} (h : dis a b = true) (hs : ∀ s ∈ b', s ∈ b) : dis a b' = true := by
 simp only [dis, List.all_eq_true, Bool.not_eq_true', List.contains_eq_mem, decide_eq_false_iff_not] at h ⊢
 exact fun s hs' hm => h s hs' (hs s hm)
theorem mvPair_le {a a' b b' : Tr} (h : mvPair a b = true) (ha : a'.W = a.W ∧ a'.Cm a) (hb : (b'.W = b.W ∧ b'.Cm b) ∧ ∀ s ∈ b'.R, s ∈ b.R) : mvPair a' b' = true := by
 unfold mvPair at h ⊢
 rw [ha.2.2.1, ha.1, hb.1.1]
 cases hm : a.m with
 | none => rw [hm] at h; cases h
 | some p =>
   rw [hm] at h
   simp only [Bool.and_eq_true, List.contains_eq_mem, decide_eq_true_eq] at h ⊢
   exact ⟨dis_sub h.1 hb.2, h.2.1, h.2.2.1, hb.1.2.2.2 _ h.2.2.2⟩
theorem apart_le {bef : List (List Nat)} {a a' b b' : Tr} (h : apart bef a b = true) (ha : a'.i = a.i ∧ (a'.W = a.W ∧ a'.Cm a) ∧ ∀ s ∈ a'.R, s ∈ a.R) (hb : b'.i = b.i ∧ (b'.W = b.W ∧ b'.Cm b) ∧ ∀ s ∈ b'.R, s ∈ b.R) : apart bef a' b' = true := by
 unfold apart at h ⊢
 rw [ha.1, hb.1, ha.2.1.1, hb.2.1.1, ha.2.1.2.1, hb.2.1.2.1]
 simp only [Bool.or_eq_true, Bool.and_eq_true] at h ⊢
 rcases h with h | ⟨⟨h1, h2⟩, h3⟩ | h | h | h
 ·exact .inl h
 ·exact .inr (.inl ⟨⟨dis_sub h1 hb.2.2, h2⟩, dis_sub h3 ha.2.2⟩)
 ·exact .inr (.inr (.inl h))
 ·exact .inr (.inr (.inr (.inl (mvPair_le h ha.2.1 hb.2))))
 ·exact .inr (.inr (.inr (.inr (mvPair_le h hb.2.1 ha.2))))
theorem TrLe.mem : ∀ {l m : List Tr}, TrLe l m → ∀ a ∈ l, ∃ b ∈ m, a.i = b.i ∧ (a.W = b.W ∧ a.Cm b) ∧ ∀ s ∈ a.R, s ∈ b.R
 | [], _, _, _, h => by cases h
 | _ :: _, [], h, _, _ => h.elim
 | x :: l, y :: m, h, a, ha => by
   simp only [List.mem_cons] at ha
   rcases ha with rfl | ha
   ·exact ⟨y, by simp, h.1, h.2.1, h.2.2.1⟩
   ·obtain ⟨b, hb, h2⟩ := h.2.2.2.mem a ha
    exact ⟨b, by simp [hb], h2⟩
theorem apartAll_le {bef : List (List Nat)} : ∀ {l m : List Tr}, TrLe l m → apartAll bef m = true → apartAll bef l = true
 | [], _, _, _ => rfl
 | _ :: _, [], h, _ => h.elim
 | x :: l, y :: m, h, hm => by
   simp only [apartAll, Bool.and_eq_true, List.all_eq_true] at hm ⊢
   refine ⟨fun b hb => ?_, apartAll_le h.2.2.2 hm.2⟩
   obtain ⟨b', hb', h2⟩ := h.2.2.2.mem b hb
   exact apart_le (hm.1 b' hb') ⟨h.1, h.2.1, h.2.2.1⟩ h2
def opsF (X : Ctr) (Γ : Env) (ops : Array Oper) (Fin : List Tr → Prop) : List Tr → Nat → List Oper → St → (St → Prop) → Prop
 | tr, _, [], S, K => Fin tr ∧ K S
 | tr, i, o :: os, S, K => (opG Γ ops o).wpD X [] S fun R ws => opsF X Γ ops Fin (tr ++ [⟨i, R, ws.map (·.1), exOf o, mvOf o, if (exOf o).isSome then [] else gOf S ws⟩]) (i + 1) os (S.apply ws) K
theorem opsF_opsE {X : Ctr} {ops : Array Oper} {bef : List (List Nat)} {K : St → Prop} : ∀ (os : List Oper) {tr : List Tr} {i : Nat} {S : St}, opsF X Γ ops (fun tr => apartAll bef tr = true) tr i os S K → opsE X Γ ops bef tr i os S K
 | [], _, _, _, h => h
 | _ :: os, _, _, _, h => A.wpD_mono h fun _ _ h => opsF_opsE os h
theorem opsF_opsL {X : Ctr} {ops : Array Oper} {Fin : List Tr → Prop} {K : St → Prop} : ∀ (os : List Oper) {tr : List Tr} {i : Nat} {S : St}, opsF X Γ ops Fin tr i os S K → opsL X Γ ops os S K
 | [], _, _, _, h => h.2
 | _ :: os, _, _, _, h => A.wpD_wp h fun _ _ h => opsF_opsL os h
theorem sregion_sound (hcs : ∀ e ∈ cs, e.Ok P) {ops : Array Oper} {Fin : List Tr → Prop} {fin : List Tr → Bool} (hfin : ∀ tr tr', TrLe tr' tr → fin tr = true → Fin tr') {o : Nat × List D} {ρ0 : List D} {K : St → Prop} :
 ∀ (os : List Oper) {i : Nat} {tr tr' : List Tr} {S : List SC} {f : Fs} {d : Nat} {k : List SC → Fs → Nat → Option PE} {pe : PE} {l : List D}, sregion Γ cs ops fin os i tr S f d k = some pe → Kok cs o ρ0 k K → Wf (ρ0 ++ l) S f d → den cs pe (ρ0 ++ l) 0 [] = some o → TrLe tr' tr →
  opsF (VX P) Γ ops Fin tr' i os (concL (ρ0 ++ l) S) K
 | [], i, tr, tr', S, f, d, k, pe, l, h, hk, hw, hd, ht => by
   simp only [sregion] at h
   split at h
   ·rename_i hf
    exact ⟨hfin _ _ ht hf, hk S f d pe l h hw hd⟩
   ·cases h
 | op :: os, i, tr, tr', S, f, d, k, pe, l, h, hk, hw, hd, ht => by
   have step : ∀ {R0 : List Nat} {f : Fs} {pe : PE} {a : A} {m : OR}, Sim P cs (ρ0 ++ l) S m a → Wf (ρ0 ++ l) S f d → den cs pe (ρ0 ++ l) 0 [] = some o →
    (match m with
      | none => none
      | some r => stepR cs f d S r fun S' f d => sregion Γ cs ops fin os (i + 1) (tr ++ [⟨i, R0 ++ r.R, r.W.map (·.1), exOf op, mvOf op, sgX op S r.W⟩]) S' f d k) = some pe →
    a.wpD (VX P) R0 (concL (ρ0 ++ l) S) fun R ws => opsF (VX P) Γ ops Fin (tr' ++ [⟨i, R, ws.map (·.1), exOf op, mvOf op, if (exOf op).isSome then [] else gOf (concL (ρ0 ++ l) S) ws⟩]) (i + 1) os ((concL (ρ0 ++ l) S).apply ws) K := by
    intro R0 f pe a m hs hw hd h
    cases m with
    | none => cases h
    | some r =>
      simp only at h
      obtain ⟨w, l', f', d', pe', h1, h2, h3, h4, rfl, h5⟩ := stepR_sound hs h hw hd
      refine h5 R0 _ fun R' hR' => ?_
      rw [List.append_assoc] at h2 h3 h4
      have := sregion_sound hcs hfin os h1 hk h2 h3 (tr' := tr' ++ [⟨i, R', r.W.map (·.1), exOf op, mvOf op, if (exOf op).isSome then [] else gOf (concL (ρ0 ++ l) S) (concW (ρ0 ++ (l ++ l')) r.W)⟩]) (ht.snoc rfl rfl ⟨rfl, rfl, sgX_sub⟩ fun s hs => by simpa using hR' s hs)
      rw [h4] at this
      rw [List.append_assoc, concW_fst]
      exact this
   have hlS : ltL (ρ0 ++ l).length S = true := by rw [hw.len]; exact hw.lt
   have hop : ∀ {f : Fs}, Facts (ρ0 ++ l) f → Sim P cs (ρ0 ++ l) S (sopA Γ cs S f d op) (opA Γ op) := by
    intro f hf
    have := Sim.opA (Γ := Γ) hcs hlS hf (o := op)
    rwa [hw.len] at this
   have hhole : Sim P cs (ρ0 ++ l) S (sout Γ S op.dst (.tup .unit .u)) (out Γ op.dst (.tup .unit .unit)) := Sim.out' rfl
   show (opG Γ ops op).wpD (VX P) [] _ _
   unfold sregion at h
   unfold opG
   cases hg : op.guard with
   | none =>
     rw [hg] at h
     exact step (R0 := []) (hop hw.facts) hw hd (by simpa using h)
   | some g =>
     obtain ⟨j, want⟩ := g
     rw [hg] at h
     simp only at h ⊢
     cases hs : (ops[j]?).bind (·.dst) with
     | none => rw [hs] at h; cases h
     | some s =>
       rw [hs] at h
       simp only at h ⊢
       simp only [A.wpD]
       rw [concL_get]
       generalize hsc : sget S s = c at h
       obtain ⟨av, ver⟩ := c
       have hlc := sget_lt hw.lt s
       rw [hsc] at hlc
       simp only [SC.conc]
       cases av with
       | val ty x =>
         cases ty with
         | bool =>
           simp only [SV.conc] at h ⊢
           cases hk' : known f x with
           | some b =>
             rw [hk'] at h
             simp only at h
             have hb := known_spec hw.facts hk'
             rw [hb]
             by_cases hbw : b = want
             ·subst hbw
              simp only [BEq.rfl, if_true] at h ⊢
              exact step (R0 := [s]) (hop hw.facts) hw hd h
             ·rw [if_neg (by simpa using hbw)] at h
              rw [if_neg hbw]
              exact step (R0 := [s]) hhole hw hd h
           | none =>
             rw [hk'] at h
             simp only at h
             split at h
             case isFalse => cases h
             rename_i hlx
             simp only [Option.bind_eq_some_iff, Option.map_eq_some_iff] at h
             obtain ⟨p, hp, q, hq, rfl⟩ := h
             simp only [den] at hd
             have hw' : ∀ b, (x.den (ρ0 ++ l)).b = b → Wf (ρ0 ++ l) S ((x, b) :: f) d := by
              intro b hb
              refine ⟨hw.len, hw.lt, ?_, ?_⟩
              ·intro y c hm
               simp only [List.mem_cons, Prod.mk.injEq] at hm
               rcases hm with ⟨rfl, rfl⟩ | hm
               ·exact hb
               ·exact hw.facts y c hm
              ·have := hw.flt
               simp only [ltF, List.all_cons, Bool.and_eq_true] at this ⊢
               exact ⟨hlx, this⟩
             cases hx : (x.den (ρ0 ++ l)).b with
             | true =>
               rw [hx] at hd
               simp only [if_true] at hd
               have hw2 := hw' true hx
               cases want with
               | true =>
                 simp only [if_true] at hp ⊢
                 exact step (R0 := [s]) (hop hw2.facts) hw2 hd hp
               | false =>
                 simp only [Bool.false_eq_true, if_false] at hp
                 rw [if_neg (by simp)]
                 exact step (R0 := [s]) hhole hw2 hd hp
             | false =>
               rw [hx] at hd
               simp only [Bool.false_eq_true, if_false] at hd
               have hw2 := hw' false hx
               cases want with
               | true =>
                 simp only [if_true] at hq
                 rw [if_neg (by simp)]
                 exact step (R0 := [s]) hhole hw2 hd hq
               | false =>
                 simp only [Bool.false_eq_true, if_false] at hq
                 rw [if_pos rfl]
                 exact step (R0 := [s]) (hop hw2.facts) hw2 hd hq
         | _ => cases h
       | tup ty x =>
         cases ty with
         | unit =>
           simp only [SV.conc] at h ⊢
           exact step (R0 := [s]) hhole hw hd h
         | _ => cases h
       | _ => cases h
end
end
end Go.Own
namespace Go.Own
variable [Glb]
noncomputable section
open Go
def SCap.beq : SCap → SCap → Bool
 | .val t x, .val u y => decide (t = u) && x.beq y
 | .ptr r v p, .ptr r' v' p' => Nat.beq r r' && (decide (v = v') && SPath.beq p p')
 | _, _ => false
def capsBeq : List SCap → List SCap → Bool
 | [], [] => true
 | a :: l, b :: m => a.beq b && capsBeq l m
 | _, _ => false
def SV.beq : SV → SV → Bool
 | .undef, .undef => true
 | .nil, .nil => true
 | .val t x, .val u y => decide (t = u) && x.beq y
 | .tup t x, .tup u y => decide (t = u) && x.beq y
 | .box t x, .box u y => decide (t = u) && x.beq y
 | .ref r v p t x, .ref r' v' p' t' x' => Nat.beq r r' && (decide (v = v') && (SPath.beq p p' && (decide (t = t') && x.beq x')))
 | .win r v p e lo n, .win r' v' p' e' lo' n' => Nat.beq r r' && (decide (v = v') && (SPath.beq p p' && (decide (e = e') && (lo.beq lo' && n.beq n'))))
 | .ptr r v p, .ptr r' v' p' => Nat.beq r r' && (decide (v = v') && SPath.beq p p')
 | .clo f l, .clo g m => decide (f = g) && capsBeq l m
 | .bref t x r v p, .bref t' x' r' v' p' => Nat.beq r r' && (decide (v = v') && (SPath.beq p p' && (decide (t = t') && x.beq x')))
 | _, _ => false
def SC.beq (a b : SC) : Bool := decide (a.v = b.v) && a.av.beq b.av
theorem SCap.eq_of_beq {a b : SCap} (h : a.beq b = true) : a = b := by
 cases a <;> cases b <;> simp [SCap.beq] at h
 ·rw [h.1, X.eq_of_beq h.2]
 ·rw [h.1, h.2.1, SPath.eq_of_beq h.2.2]
theorem capsBeq_eq : ∀ {l m : List SCap}, capsBeq l m = true → l = m
 | [], [], _ => rfl
 | [], _ :: _, h => by simp [capsBeq] at h
 | _ :: _, [], h => by simp [capsBeq] at h
 | a :: l, b :: m, h => by simp [capsBeq] at h; rw [SCap.eq_of_beq h.1, capsBeq_eq h.2]
theorem SV.eq_of_beq {a b : SV} (h : a.beq b = true) : a = b := by
 cases a <;> cases b <;> simp [SV.beq] at h
 ·rfl
 ·rfl
 ·rw [h.1, X.eq_of_beq h.2]
 ·rw [h.1, X.eq_of_beq h.2]
 ·rw [h.1, X.eq_of_beq h.2]
 ·rw [h.1, h.2.1, SPath.eq_of_beq h.2.2.1, h.2.2.2.1, X.eq_of_beq h.2.2.2.2]
 ·rw [h.1, h.2.1, SPath.eq_of_beq h.2.2.1, h.2.2.2.1, X.eq_of_beq h.2.2.2.2.1, X.eq_of_beq h.2.2.2.2.2]
 ·rw [h.1, h.2.1, SPath.eq_of_beq h.2.2]
 ·rw [h.1, capsBeq_eq h.2]
 ·rw [h.1, h.2.1, SPath.eq_of_beq h.2.2.1, h.2.2.2.1, X.eq_of_beq h.2.2.2.2]
theorem SC.eq_of_beq {a b : SC} (h : a.beq b = true) : a = b := by
 obtain ⟨a, v⟩ := a; obtain ⟨b, w⟩ := b
 simp [SC.beq] at h
 rw [h.1, SV.eq_of_beq h.2]
def SCap.roots : SCap → List Nat
 | .ptr r _ _ => [r]
 | _ => []
def SV.roots : SV → List Nat
 | .ref r .. => [r]
 | .win r .. => [r]
 | .ptr r .. => [r]
 | .bref _ _ r _ _ => [r]
 | .clo _ l => l.flatMap SCap.roots
 | _ => []
theorem SV.roots_conc (ρ : List D) (a : SV) : (a.conc ρ).roots = a.roots := by
 cases a <;> simp [SV.conc, SV.roots, List.flatMap_map]
 congr 1
 funext c
 cases c <;> rfl
structure Plan where
 keep : List Nat
 pass : List (Nat × Nat × T)
inductive Hint where
 | join (es : List (Nat × Plan))
 | loop (h : Plan) (es : List (Nat × Plan))
 | frz (l : List Nat)
def frzOf : List (Nat × Hint) → List Nat
 | [] => []
 | (_, .frz l) :: _ => l
 | _ :: hs => frzOf hs
def mkSV (k : Nat) (t : T) (x : X) : SV := if Nat.beq k 0 then .val t x else if Nat.beq k 1 then .tup t x else .box t x
def ownLst : T → Bool
 | .lst true _ => true
 | _ => false
theorem ownLst_spec {t : T} (h : ownLst t = true) : ∃ e, t = .lst true e := by
 cases t with
 | lst o e => cases o with
   | true => exact ⟨e, rfl⟩
   | false => cases h
 | _ => cases h
def Fit (a : SV) (k : Nat) (t : T) (x : X) : Prop := a = mkSV k t x ∨ (a = .nil ∧ k = 0 ∧ (∃ e, t = .lst true e) ∧ x = .nil)
def outVals : List (Nat × Nat × T) → List SC → Option (List X)
 | [], _ => some []
 | (s, k, t) :: ps, S => match (sget S s).av with
   | .val u x => if Nat.beq k 0 && decide (u = t) then (outVals ps S).map (x :: ·) else none
   | .tup u x => if Nat.beq k 1 && decide (u = t) then (outVals ps S).map (x :: ·) else none
   | .box u x => if Nat.beq k 2 && decide (u = t) then (outVals ps S).map (x :: ·) else none
   | .nil => if Nat.beq k 0 && ownLst t then (outVals ps S).map (X.nil :: ·) else none
   | _ => none
def keepOk (keep : List Nat) (S0 S : List SC) : Bool := keep.all fun s => (sget S s).beq (sget S0 s) && (sget S0 s).av.roots.all (inN keep)
def setPass : List (Nat × Nat × T) → Nat → List SC → List SC
 | [], _, l => l
 | (s, k, t) :: ps, i, l => setPass ps (i + 1) (sset l s ⟨mkSV k t (.v i), ⟨0, 0, 0⟩⟩)
def setKeep : List Nat → List SC → List SC → List SC
 | [], _, l => l
 | s :: ks, S0, l => setKeep ks S0 (sset l s (sget S0 s))
def contSt (p : Plan) (S0 : List SC) (d : Nat) : List SC := setKeep p.keep S0 (setPass p.pass d [])
theorem sget_sset : ∀ (l : List SC) (s s' : Nat) (c : SC), sget (sset l s c) s' = if s' = s then c else sget l s'
 | [], 0, 0, c => by simp [sset, sget]
 | [], 0, s' + 1, c => by simp [sset, sget]
 | [], s + 1, 0, c => by simp [sset, sget]
 | [], s + 1, s' + 1, c => by simp [sset, sget, sget_sset [] s s' c]
 | x :: xs, 0, 0, c => by simp [sset, sget]
 | x :: xs, 0, s' + 1, c => by simp [sset, sget]
 | x :: xs, s + 1, 0, c => by simp [sset, sget]
 | x :: xs, s + 1, s' + 1, c => by simp [sset, sget, sget_sset xs s s' c]
theorem sget_setKeep : ∀ (ks : List Nat) (S0 l : List SC) (s : Nat), sget (setKeep ks S0 l) s = if s ∈ ks then sget S0 s else sget l s
 | [], _, _, _ => by simp [setKeep]
 | a :: ks, S0, l, s => by
   rw [setKeep, sget_setKeep ks S0, sget_sset]
   by_cases h : s ∈ ks
   ·simp [h]
   ·by_cases h2 : s = a
    ·subst h2; simp [h]
    ·simp [h, h2]
def PassOk (ρL ρc : List D) (S l : List SC) (s : Nat) : Prop :=
 sget l s = SC.nul ∨ ∃ k t n x, (sget l s).av = mkSV k t (.v n) ∧ Fit (sget S s).av k t x ∧ (X.v n).den ρc = x.den ρL
theorem mkSV_conc (k : Nat) (t : T) (x : X) (ρ : List D) : (mkSV k t x).conc ρ = if Nat.beq k 0 then .val t (x.den ρ) else if Nat.beq k 1 then .tup t (x.den ρ) else .box t (x.den ρ) := by
 unfold mkSV; split <;> (try split) <;> rfl
theorem mkSV_roots (k : Nat) (t : T) (x : X) : (mkSV k t x).roots = [] := by
 unfold mkSV; split <;> (try split) <;> rfl
theorem outVals_cons {s k : Nat} {t : T} {ps : List (Nat × Nat × T)} {S : List SC} {xs : List X} (h : outVals ((s, k, t) :: ps) S = some xs) :
 ∃ x ys, xs = x :: ys ∧ outVals ps S = some ys ∧ Fit (sget S s).av k t x := by
 unfold outVals at h
 split at h
 ·rename_i u x hav
  split at h
  ·rename_i hb
   simp only [Bool.and_eq_true, decide_eq_true_eq] at hb
   simp only [Option.map_eq_some_iff] at h
   obtain ⟨ys, h1, rfl⟩ := h
   exact ⟨x, ys, rfl, h1, .inl (by rw [hav, hb.2]; simp [mkSV, hb.1])⟩
  ·cases h
 ·rename_i u x hav
  split at h
  ·rename_i hb
   simp only [Bool.and_eq_true, decide_eq_true_eq] at hb
   simp only [Option.map_eq_some_iff] at h
   obtain ⟨ys, h1, rfl⟩ := h
   refine ⟨x, ys, rfl, h1, .inl ?_⟩
   have := Nat.eq_of_beq_eq_true hb.1
   subst this
   rw [hav, hb.2]; rfl
  ·cases h
 ·rename_i u x hav
  split at h
  ·rename_i hb
   simp only [Bool.and_eq_true, decide_eq_true_eq] at hb
   simp only [Option.map_eq_some_iff] at h
   obtain ⟨ys, h1, rfl⟩ := h
   refine ⟨x, ys, rfl, h1, .inl ?_⟩
   have := Nat.eq_of_beq_eq_true hb.1
   subst this
   rw [hav, hb.2]; rfl
  ·cases h
 ·rename_i hav
  split at h
  ·rename_i hb
   simp only [Bool.and_eq_true] at hb
   simp only [Option.map_eq_some_iff] at h
   obtain ⟨ys, h1, rfl⟩ := h
   exact ⟨_, ys, rfl, h1, .inr ⟨hav, Nat.eq_of_beq_eq_true hb.1, ownLst_spec hb.2, rfl⟩⟩
  ·cases h
 ·cases h
theorem outVals_len : ∀ {ps : List (Nat × Nat × T)} {S : List SC} {xs : List X}, outVals ps S = some xs → xs.length = ps.length
 | [], _, _, h => by cases h; rfl
 | (s, k, t) :: ps, S, xs, h => by
   obtain ⟨x, ys, rfl, h1, _⟩ := outVals_cons h
   simp [outVals_len h1]
theorem setPass_ok {ρL ρc : List D} {S : List SC} : ∀ {ps : List (Nat × Nat × T)} {i : Nat} {l : List SC} {xs : List X}, outVals ps S = some xs → (∀ j x, xs[j]? = some x → (X.v (i + j)).den ρc = x.den ρL) → (∀ s, PassOk ρL ρc S l s) →
 ∀ s, PassOk ρL ρc S (setPass ps i l) s
 | [], i, l, xs, _, _, hl, s => hl s
 | (a, k, t) :: ps, i, l, xs, h, hx, hl, s => by
   obtain ⟨x, ys, rfl, h1, h2⟩ := outVals_cons h
   refine setPass_ok (i := i + 1) h1 (fun j y hy => ?_) (fun s => ?_) s
   ·have := hx (j + 1) y (by simpa using hy)
    rwa [show i + 1 + j = i + (j + 1) by omega]
   ·unfold PassOk
    rw [sget_sset]
    by_cases hs : s = a
    ·subst hs
     rw [if_pos rfl]
     exact .inr ⟨k, t, i, x, rfl, h2, by simpa using hx 0 x (by simp)⟩
    ·rw [if_neg hs]; exact hl s
theorem keepOk_spec {keep : List Nat} {S0 S : List SC} (h : keepOk keep S0 S = true) {s : Nat} (hs : s ∈ keep) : sget S s = sget S0 s ∧ ∀ r ∈ (sget S0 s).av.roots, r ∈ keep := by
 simp only [keepOk, List.all_eq_true, Bool.and_eq_true] at h
 obtain ⟨h1, h2⟩ := h s hs
 exact ⟨SC.eq_of_beq h1, fun r hr => inN_spec.1 (h2 r hr)⟩
theorem cont_weak {ρ l : List D} {p : Plan} {S0 S : List SC} {xs : List X} {d : Nat} (hd : ρ.length = d) (hS0 : ltL d S0 = true) (hx : outVals p.pass S = some xs) (hk : keepOk p.keep S0 S = true) :
 Weak (concL (ρ ++ l) S) (concL (ρ ++ xs.map (X.den (ρ ++ l))) (contSt p S0 d)) := by
 have hpass := setPass_ok (ρL := ρ ++ l) (ρc := ρ ++ xs.map (X.den (ρ ++ l))) (S := S) (i := d) (l := []) hx (by
  intro j x hj
  have hlt := (List.getElem?_eq_some_iff.1 hj).1
  subst hd
  simp only [X.den, List.getD_eq_getElem?_getD]
  rw [List.getElem?_append_right (by omega)]
  simp [hj]) (fun s => .inl rfl)
 have kept : ∀ s, s ∈ p.keep → concL (ρ ++ xs.map (X.den (ρ ++ l))) (contSt p S0 d) s = concL (ρ ++ l) S s := by
  intro s hs
  rw [concL_get, concL_get]
  unfold contSt
  rw [sget_setKeep, if_pos hs, (keepOk_spec hk hs).1]
  have hlt := sget_lt hS0 s
  rw [← hd] at hlt
  rw [SC.conc_append hlt, SC.conc_append hlt]
 intro s
 by_cases hs : s ∈ p.keep
 ·refine .inr (.inl ⟨by rw [kept s hs], fun r hr => kept r ?_⟩)
  have h2 := (keepOk_spec hk hs).2
  have : (concL (ρ ++ xs.map (X.den (ρ ++ l))) (contSt p S0 d) s).av.roots = (sget S0 s).av.roots := by
   rw [concL_get]
   unfold contSt
   rw [sget_setKeep, if_pos hs]
   exact SV.roots_conc _ _
  rw [this] at hr
  exact h2 r hr
 ·have hg : sget (contSt p S0 d) s = sget (setPass p.pass d []) s := by
   unfold contSt; rw [sget_setKeep, if_neg hs]
  rw [concL_get, concL_get, hg]
  rcases hpass s with h | ⟨k, t, n, x, h1, h2, h3⟩
  ·rw [h]; exact .inl rfl
  ·right
   rcases h2 with h2 | ⟨h2, rfl, ⟨e, rfl⟩, rfl⟩
   ·left
    constructor
    ·show (sget _ s).av.conc _ = (sget S s).av.conc _
     rw [h1, h2, mkSV_conc, mkSV_conc, h3]
    ·intro r hr
     change r ∈ ((sget _ s).av.conc _).roots at hr
     rw [SV.roots_conc, h1, mkSV_roots] at hr
     cases hr
   ·right
    refine ⟨?_, e, ?_⟩
    ·show (sget S s).av.conc _ = _
     rw [h2]; rfl
    ·show (sget _ s).av.conc _ = _
     rw [h1, mkSV_conc, h3]; rfl
theorem Weak.trans {S1 S2 S3 : St} (h1 : Weak S1 S2) (h2 : Weak S2 S3) : Weak S1 S3 := by
 intro s
 rcases h2 s with h | ⟨h3, h4⟩ | ⟨h3, e, h4⟩
 ·exact .inl h
 ·rcases h1 s with h | ⟨h5, h6⟩ | ⟨h5, e, h6⟩
  ·left; rw [h3]; exact h
  ·refine .inr (.inl ⟨h3.trans h5, fun r hr => ?_⟩)
   rw [h4 r hr]
   exact h6 r (by rw [← h3]; exact hr)
  ·exact .inr (.inr ⟨h5, e, h3.trans h6⟩)
 ·rcases h1 s with h | ⟨h5, h6⟩ | ⟨h5, e', h6⟩
  ·rw [h3] at h; cases h
  ·exact .inr (.inr ⟨h5.symm.trans h3, e, h4⟩)
  ·rw [h3] at h6; cases h6
theorem Weak.refl (S : St) : Weak S S := fun _ => .inr (.inl ⟨rfl, fun _ _ => rfl⟩)
def exitNo : Exit → Option Nat
 | .normal => some 0
 | .ret => some 1
 | .exit id => some (id + 2)
 | _ => none
def findPlan (n : Nat) : List (Nat × Plan) → Nat → Option (Nat × Plan)
 | [], _ => none
 | (m, p) :: es, i => if Nat.beq m n then some (i, p) else findPlan n es (i + 1)
def settle1 (S : List SC) (s k : Nat) (t : T) : List SC :=
 match (sget S s).av with
 | .ref r v p u x => match (sget S r).root with
   | some (tr, xr, _) => if Nat.beq k 0 && (decide (u = t) && (decide (sAt tr p = t) && (sFlat tr p && (!Nat.beq s r && liveRefB v (sget S r).v 0)))) then
      sset (sset S r ((sget S r).setRoot (sSetT tr p t.moved) xr (sget S r).v.head)) s ⟨.val t (smix t x (getX xr p)), (sget S s).v.kill⟩ else S
   | none => S
 | _ => S
def settle : List (Nat × Nat × T) → List SC → List SC
 | [], S => S
 | (s, k, t) :: ps, S => settle ps (settle1 S s k t)
theorem settle1_wk {Γ : Env} {E : Entry} {ρ : List D} (S : List SC) (s k : Nat) (t : T) : Wk Γ E (concL ρ S) (concL ρ (settle1 S s k t)) := by
 unfold settle1
 split
 case h_2 => exact Wk.refl _
 rename_i r v p u x hs
 split
 case h_2 => exact Wk.refl _
 rename_i tr xr bx hr
 split
 case isFalse => exact Wk.refl _
 rename_i hb
 simp only [Bool.and_eq_true, decide_eq_true_eq, Bool.not_eq_true'] at hb
 obtain ⟨_, rfl, hat, hfl, hne, hl⟩ := hb
 have hS : (concL ρ S s).av = .ref r v (SPath.conc ρ p) u (x.den ρ) := by rw [concL_get]; simp only [SC.conc, hs, SV.conc]
 have hR : (concL ρ S r).root = some (tr, xr.den ρ, bx) := by rw [concL_get, SC.root_conc, hr]; rfl
 have hv : (concL ρ S r).v = (sget S r).v := by rw [concL_get]; rfl
 have hv2 : (concL ρ S s).v = (sget S s).v := by rw [concL_get]; rfl
 have := settle_wk (Γ := Γ) (E := E) hS hR (nbeq_ne hne) (by rw [hv]; exact liveRefB_spec hl) (by rw [flat_conc]; exact hfl) (by rw [at_conc]; exact hat)
 rw [hv, hv2, setT_conc, ← getX_den, ← smix_den, concL_get, ← SC.setRoot_conc] at this
 rw [← concL_put, ← concL_put]
 exact this
theorem settleAll_wk {Γ : Env} {E : Entry} {ρ : List D} : ∀ (ps : List (Nat × Nat × T)) (S : List SC), Wk Γ E (concL ρ S) (concL ρ (settle ps S))
 | [], S => Wk.refl _
 | (s, k, t) :: ps, S => (settle1_wk S s k t).trans (settleAll_wk ps _)
def leafJ (es : List (Nat × Plan)) (i0 : Nat) (S0 : List SC) (e : Exit) (S : List SC) : Option PE :=
 match exitNo e with
 | none => none
 | some n => match findPlan n es 0 with
   | none => none
   | some (i, p) => if keepOk p.keep S0 (settle p.pass S) then (outVals p.pass (settle p.pass S)).map (.out (i0 + i)) else none
def exitOf : Nat → Exit
 | 0 => .normal
 | 1 => .ret
 | n + 2 => .exit n
theorem exitNo_of {e : Exit} {n : Nat} (h : exitNo e = some n) : exitOf n = e := by
 cases e <;> simp [exitNo] at h <;> subst h <;> rfl
def contsJ (S0 : List SC) (f : Fs) (d : Nat) (k : Exit → List SC → Fs → Nat → Option PE) : List (Nat × Plan) → Option PE
 | [] => some .bot
 | (n, p) :: es => if ltL (d + p.pass.length) (contSt p S0 d) then (k (exitOf n) (contSt p S0 d) f (d + p.pass.length)).bind fun a => (contsJ S0 f d k es).map (.alt (.take p.pass.length a)) else none
theorem findPlan_spec {n : Nat} : ∀ {es : List (Nat × Plan)} {k i : Nat} {p : Plan}, findPlan n es k = some (i, p) → k ≤ i ∧ es[i - k]? = some (n, p)
 | [], _, _, _, h => by cases h
 | (m, q) :: es, k, i, p, h => by
   unfold findPlan at h
   split at h
   ·rename_i hb
    simp only [Option.some.injEq, Prod.mk.injEq] at h
    obtain ⟨rfl, rfl⟩ := h
    have := Nat.eq_of_beq_eq_true hb
    subst this
    exact ⟨Nat.le_refl _, by simp⟩
   ·obtain ⟨h1, h2⟩ := findPlan_spec h
    refine ⟨by omega, ?_⟩
    rw [show i - k = (i - (k + 1)) + 1 by omega]
    simpa using h2
theorem contsJ_den {cs : List Ent} {S0 : List SC} {f : Fs} {d : Nat} {k : Exit → List SC → Fs → Nat → Option PE} {ρ : List D} {o} : ∀ {es : List (Nat × Plan)} {ks : PE} {i : Nat} {n : Nat} {p : Plan} {l : List D}, contsJ S0 f d k es = some ks → es[i]? = some (n, p) → den cs ks ρ i l = some o → l.length = p.pass.length →
 ltL (d + p.pass.length) (contSt p S0 d) = true ∧ ∃ pe, k (exitOf n) (contSt p S0 d) f (d + p.pass.length) = some pe ∧ den cs pe (ρ ++ l) 0 [] = some o
 | [], _, _, _, _, _, _, h, _, _ => by simp at h
 | (m, q) :: es, ks, i, n, p, l, h, hi, hd, hll => by
   unfold contsJ at h
   split at h
   case isFalse => cases h
   rename_i hlt
   simp only [Option.bind_eq_some_iff, Option.map_eq_some_iff] at h
   obtain ⟨a, ha, b, hb, rfl⟩ := h
   cases i with
   | zero =>
     simp only [List.getElem?_cons_zero, Option.some.injEq, Prod.mk.injEq] at hi
     obtain ⟨rfl, rfl⟩ := hi
     simp only [den, sel2] at hd
     rw [normL_eq l q.pass.length 0 (by omega)] at hd
     exact ⟨hlt, a, ha, hd⟩
   | succ i =>
     exact contsJ_den hb (by simpa using hi) (by simpa [den, sel2] using hd) hll
def findHint (key : Nat) : List (Nat × Hint) → Option Hint
 | [] => none
 | (m, h) :: l => if Nat.beq m key then some h else findHint key l
abbrev Kont := Exit → List SC → Fs → Nat → Option PE
def nilOp (ops : List Oper) : Option (List Oper × Nat × TypeId × Nat × Bool) :=
 match ops.reverse with
 | ⟨some s, .binOp op t (.tmp x) (.const (.slice none 0 0)) _, _, _, _, none⟩ :: os => match op with
   | .eql => some (os.reverse, s, t, x, true)
   | .neq => some (os.reverse, s, t, x, false)
   | _ => none
 | _ => none
def nilK (Γ : Env) (s : Nat) (t : TypeId) (x : Nat) (eq : Bool) (k : List SC → Fs → Nat → Option PE) : List SC → Fs → Nat → Option PE := fun S f d =>
 match (sget S x).av with
 | .val (.lst o e) y => if okDst Γ s && (y.lt d && ((T.lst o e).plain && (Γ.ty t).lsts)) then
    (k (sset S s ⟨.val .bool (.b eq), (sget S s).v.kill⟩) f d).bind fun p => (k (sset S s ⟨.val .bool (.b !eq), (sget S s).v.kill⟩) f d).map fun q => .any y p q
   else none
 | _ => none
def sx (Γ : Env) (cs : List Ent) (hs : List (Nat × Hint)) : Code → Nat → List SC → Fs → Nat → Kont → Option PE
 | .skip, _, S, f, d, k => k .normal S f d
 | .label _, _, S, f, d, k => k .normal S f d
 | .exit id, _, S, f, d, k => k (.exit id) S f d
 | .ret, _, S, f, d, k => k .ret S f d
 | .region _ ops draw, _, S, f, d, k =>
   if draw then
    if downB .any ops then sregion Γ cs ops (apartAll (ancs .any ops.toList)) ops.toList 0 [] S f d (k .normal) else none
   else match nilOp ops.toList with
    | some (os, s, t, x, eq) => sregion Γ cs ops (fun _ => true) os 0 [] S f d (nilK Γ s t x eq (k .normal))
    | none => sregion Γ cs ops (fun _ => true) ops.toList 0 [] S f d (k .normal)
 | .seq a b, key, S, f, d, k =>
   let k' : Kont := fun e S f d => match e with
    | .normal => sx Γ cs hs b (2 * key + 1) S f d k
    | e => k e S f d
   match findHint key hs with
   | some (.join es) => (sx Γ cs hs a (2 * key) S f d fun e S' _ _ => leafJ es 0 S e S').bind fun pa => (contsJ S f d k' es).map (.bind pa)
   | _ => sx Γ cs hs a (2 * key) S f d k'
 | .cond x a b, key, S, f, d, k =>
   match x with
   | .tmp s => match (sget S s).av with
     | .val .bool x => match known f x with
       | some true => sx Γ cs hs a (2 * key) S f d k
       | some false => sx Γ cs hs b (2 * key + 1) S f d k
       | none => if x.lt d then (sx Γ cs hs a (2 * key) S ((x, true) :: f) d k).bind fun p => (sx Γ cs hs b (2 * key + 1) S ((x, false) :: f) d k).map (.ite x p) else none
     | _ => none
   | .const (.bool true) => sx Γ cs hs a (2 * key) S f d k
   | .const (.bool false) => sx Γ cs hs b (2 * key + 1) S f d k
   | _ => none
 | .block id c, key, S, f, d, k => sx Γ cs hs c (2 * key) S f d fun e S f d => match e with
    | .exit id' => if Nat.beq id' id then k .normal S f d else k (.exit id') S f d
    | e => k e S f d
 | .loop c, key, S, f, d, k =>
   match findHint key hs with
   | some (.loop h es) =>
     if ltL d (settle h.pass S) && (keepOk h.keep (settle h.pass S) (settle h.pass S) && ltL (d + h.pass.length) (contSt h (settle h.pass S) d)) then
      (outVals h.pass (settle h.pass S)).bind fun xs => (sx Γ cs hs c (2 * key) (contSt h (settle h.pass S) d) f (d + h.pass.length) fun e S' _ _ => match e with
        | .normal => leafJ [(0, h)] 0 (settle h.pass S) .normal S'
        | e => leafJ es 1 (settle h.pass S) e S').bind fun body => (contsJ (settle h.pass S) f d k es).map (.loop xs (.take h.pass.length body))
     else none
   | _ => none
 | _, _, _, _, _, _ => none
variable {P : Program} {Γ : Env} {E : Entry} {cs : List Ent}
theorem Wf.fact {ρ : List D} {S : List SC} {f : Fs} {d : Nat} (hw : Wf ρ S f d) {x : X} {b : Bool} (hl : x.lt d = true) (hb : (x.den ρ).b = b) : Wf ρ S ((x, b) :: f) d := by
 refine ⟨hw.len, hw.lt, ?_, ?_⟩
 ·intro y c hm
  simp only [List.mem_cons, Prod.mk.injEq] at hm
  rcases hm with ⟨rfl, rfl⟩ | hm
  ·exact hb
  ·exact hw.facts y c hm
 ·have := hw.flt
  simp only [ltF, List.all_cons, Bool.and_eq_true] at this ⊢
  exact ⟨hl, this⟩
def Closed (Γ : Env) (E : Entry) (Q : Exit → St → Prop) : Prop := ∀ e S S', Wk Γ E S S' → Q e S' → Q e S
theorem leafJ_spec {es : List (Nat × Plan)} {i0 : Nat} {S0 S : List SC} {e : Exit} {pe : PE} {ρ l : List D} {o : Nat × List D} {d : Nat} (h : leafJ es i0 S0 e S = some pe) (hd : den cs pe (ρ ++ l) 0 [] = some o) (hlen : ρ.length = d) (hS0 : ltL d S0 = true) :
 ∃ i n p, es[i]? = some (n, p) ∧ exitOf n = e ∧ o.1 = i0 + i ∧ o.2.length = p.pass.length ∧ Wk Γ E (concL (ρ ++ l) S) (concL (ρ ++ o.2) (contSt p S0 d)) := by
 unfold leafJ at h
 split at h
 ·cases h
 ·rename_i n hn
  split at h
  ·cases h
  ·rename_i i p hp
   obtain ⟨_, hp⟩ := findPlan_spec hp
   rw [Nat.sub_zero] at hp
   split at h
   case isFalse => cases h
   rename_i hk
   simp only [Option.map_eq_some_iff] at h
   obtain ⟨xs, hx, rfl⟩ := h
   simp only [den, Option.some.injEq] at hd
   subst hd
   exact ⟨i, n, p, hp, exitNo_of hn, rfl, by simp [outVals_len hx], (settleAll_wk _ _).trans (cont_weak hlen hS0 hx hk).wk⟩
theorem opsL_append {X : Ctr} {ops : Array Oper} {K : St → Prop} {l2 : List Oper} : ∀ (l1 : List Oper) {S : St}, opsL X Γ ops l1 S (fun S => opsL X Γ ops l2 S K) → opsL X Γ ops (l1 ++ l2) S K
 | [], _, h => h
 | _ :: os, _, h => A.wp_mono (fun _ h => opsL_append os h) h
theorem opsL_mono {X : Ctr} {ops : Array Oper} {K K' : St → Prop} (hk : ∀ S, K S → K' S) : ∀ (l : List Oper) {S : St}, opsL X Γ ops l S K → opsL X Γ ops l S K'
 | [], _, h => hk _ h
 | _ :: os, _, h => A.wp_mono (fun _ h => opsL_mono hk os h) h
theorem nilOp_last {ops os : List Oper} {s t x eq} (h : nilOp ops = some (os, s, t, x, eq)) :
 ∃ last : Oper, ops = os ++ [last] ∧ last.guard = none ∧ ∃ u, last.dst = some s ∧ last.op = .binOp (if eq then .eql else .neq) t (.tmp x) (.const (.slice none 0 0)) u := by
 unfold nilOp at h
 split at h
 ·rename_i s' op t' x' u a b c os' hr
  have hr' : ops = os'.reverse ++ [⟨some s', .binOp op t' (.tmp x') (.const (.slice none 0 0)) u, a, b, c, none⟩] := by
   have := congrArg List.reverse hr
   simpa using this
  split at h <;> simp only [Option.some.injEq, Prod.mk.injEq, reduceCtorEq] at h
  ·obtain ⟨rfl, rfl, rfl, rfl, rfl⟩ := h
   exact ⟨_, hr', rfl, _, rfl, rfl⟩
  ·obtain ⟨rfl, rfl, rfl, rfl, rfl⟩ := h
   exact ⟨_, hr', rfl, _, rfl, rfl⟩
 ·cases h
theorem nilOp_split {ops os : List Oper} {s t x eq} (h : nilOp ops = some (os, s, t, x, eq)) : ∃ last, ops = os ++ [last] := by
 obtain ⟨last, h, _⟩ := nilOp_last h
 exact ⟨last, h⟩
theorem nilK_sound {ops : Array Oper} {os : List Oper} {s t x eq} (hn : nilOp ops.toList = some (os, s, t, x, eq)) {k : List SC → Fs → Nat → Option PE} {ρ : List D} {l : List D} {S : List SC} {f : Fs} {d : Nat} {pe : PE} {o} {K : St → Prop}
 (h : nilK Γ s t x eq k S f d = some pe) (hw : Wf (ρ ++ l) S f d) (hd : den cs pe (ρ ++ l) 0 [] = some o) (hK : Kok cs o ρ k K) :
 ∃ last, ops.toList = os ++ [last] ∧ opsL (VX P) Γ ops [last] (concL (ρ ++ l) S) K := by
 obtain ⟨last, hl, hg, u, hdst, hop⟩ := nilOp_last hn
 refine ⟨last, hl, ?_⟩
 unfold nilK at h
 split at h
 case h_2 => cases h
 rename_i lo e y hy
 split at h
 case isFalse => cases h
 rename_i hb
 simp only [Bool.and_eq_true] at hb
 obtain ⟨hb1, hb2, hb3, hb4⟩ := hb
 simp only [Option.bind_eq_some_iff, Option.map_eq_some_iff] at h
 obtain ⟨p, hp, q, hq, rfl⟩ := h
 simp only [den] at hd
 obtain ⟨hq', hp'⟩ := two_some hd
 have wf : ∀ b : Bool, Wf (ρ ++ l) (sset S s ⟨.val .bool (.b b), (sget S s).v.kill⟩) f d := fun b => ⟨hw.len, ltL_sset hw.lt rfl, hw.facts, hw.flt⟩
 have c1 := fun (h : (y.den (ρ ++ l)).l.isEmpty = true) => hK _ _ _ _ _ hp (wf eq) (hp' h)
 have c2 := hK _ _ _ _ _ hq (wf !eq) hq'
 rw [← concL_put] at c2
 have c1' := fun (h : (y.den (ρ ++ l)).l.isEmpty = true) => by have := c1 h; rw [← concL_put] at this; exact this
 have hds := okDst_spec hb1
 have hav : (concL (ρ ++ l) S x).av = .val (.lst lo e) (y.den (ρ ++ l)) := by
  rw [concL_get]; simp only [SC.conc, hy, SV.conc]
 have hv : (concL (ρ ++ l) S s).v = (sget S s).v := by rw [concL_get]; rfl
 show (opG Γ ops last).wp (VX P) _ _
 unfold opG
 rw [hg]
 simp only
 unfold opA
 rw [hop, hdst]
 have hag : (Γ.ty t).agg = false := by
  revert hb2 hb3 hb4
  generalize Γ.ty t = T
  cases T <;> simp
 simp only [hag, Bool.false_eq_true, if_false]
 cases eq with
 | true =>
   simp only [if_true]
   simp only [opBin, opd, A.wp, copyOf, hav, hb3, if_true, out, hb4, hv, true_and]
   refine ⟨fun hl => ⟨⟨hds.1, hds.2, trivial⟩, ?_⟩, ⟨hds.1, hds.2, trivial⟩, ?_⟩
   ·exact c1' (by simp [hl])
   ·exact c2
 | false =>
   simp only [Bool.false_eq_true, if_false]
   simp only [opBin, opd, A.wp, copyOf, hav, hb3, if_true, out, hb4, hv, true_and]
   refine ⟨fun hl => ⟨⟨hds.1, hds.2, trivial⟩, ?_⟩, ⟨hds.1, hds.2, trivial⟩, ?_⟩
   ·exact c1' (by simp [hl])
   ·exact c2
theorem sx_sound (ok : EnvOk P Γ) (hcs : ∀ e ∈ cs, e.Ok P) {hs : List (Nat × Hint)} : ∀ (c : Code) {key : Nat} {S : List SC} {f : Fs} {d : Nat} {k : Kont} {pe : PE} {ρ : List D} {o : Nat × List D} {Q : Exit → St → Prop},
 sx Γ cs hs c key S f d k = some pe → Wf ρ S f d → den cs pe ρ 0 [] = some o → Closed Γ E Q →
 (∀ e S' f' d' pe' l, k e S' f' d' = some pe' → Wf (ρ ++ l) S' f' d' → den cs pe' (ρ ++ l) 0 [] = some o → Q e (concL (ρ ++ l) S')) → Ex P Γ E c Q (concL ρ S) := by
 intro c
 have nil : ∀ {ρ : List D}, ρ ++ [] = ρ := fun {ρ} => List.append_nil ρ
 induction c with
 | skip =>
   intro key S f d k pe ρ o Q h hw hd _ hk
   refine Ex.skip ?_
   have := hk .normal S f d pe [] h (by rwa [nil]) (by rwa [nil])
   rwa [nil] at this
 | label l =>
   intro key S f d k pe ρ o Q h hw hd _ hk
   refine Ex.label ?_
   have := hk .normal S f d pe [] h (by rwa [nil]) (by rwa [nil])
   rwa [nil] at this
 | exit id =>
   intro key S f d k pe ρ o Q h hw hd _ hk
   refine Ex.exit ?_
   have := hk (.exit id) S f d pe [] h (by rwa [nil]) (by rwa [nil])
   rwa [nil] at this
 | ret =>
   intro key S f d k pe ρ o Q h hw hd _ hk
   refine Ex.ret ?_
   have := hk .ret S f d pe [] h (by rwa [nil]) (by rwa [nil])
   rwa [nil] at this
 | region id ops draw =>
   intro key S f d k pe ρ o Q h hw hd _ hk
   have hK : Kok cs o ρ (k .normal) (Q .normal) := fun S' f' d' pe' l h1 h2 h3 => hk .normal S' f' d' pe' l h1 h2 h3
   unfold sx at h
   cases draw with
   | true =>
     simp only [if_true] at h
     split at h
     case isFalse => cases h
     rename_i hdn
     refine Ex.opsAny ok hdn ?_
     have := sregion_sound (Γ := Γ) (ρ0 := ρ) (l := []) (tr' := []) hcs (Fin := fun tr => apartAll (ancs .any ops.toList) tr = true) (fun tr tr' h1 h2 => apartAll_le h1 h2) ops.toList h hK (by rwa [nil]) (by rwa [nil]) trivial
     rw [nil] at this
     exact opsF_opsE _ this
   | false =>
     simp only [Bool.false_eq_true, if_false] at h
     split at h
     ·rename_i os s t x eq hn
      have := sregion_sound (Γ := Γ) (ρ0 := ρ) (l := []) (tr' := []) hcs (Fin := fun _ => True) (K := fun S => ∃ last, ops.toList = os ++ [last] ∧ opsL (VX P) Γ ops [last] S (Q .normal)) (fun _ _ _ _ => trivial) os h ?_ (by rwa [nil]) (by rwa [nil]) trivial
      ·rw [nil] at this
       refine Ex.ops ok ?_
       have h2 := opsF_opsL _ this
       rw [show ops.toList = os ++ [ops.toList.getLast?.getD default] by
        obtain ⟨last, hl⟩ := nilOp_split hn
        rw [hl]; simp]
       refine opsL_append os (opsL_mono (fun S h => ?_) os h2)
       obtain ⟨last, hl, h⟩ := h
       rw [hl]
       simpa using h
      ·intro S' f' d' pe' l h1 h2 h3
       exact nilK_sound hn h1 h2 h3 hK
     ·have := sregion_sound (Γ := Γ) (ρ0 := ρ) (l := []) (tr' := []) hcs (Fin := fun _ => True) (fun _ _ _ _ => trivial) ops.toList h hK (by rwa [nil]) (by rwa [nil]) trivial
      rw [nil] at this
      exact Ex.ops ok (opsF_opsL _ this)
 | seq a b iha ihb =>
   intro key S f d k pe ρ o Q h hw hd hQ hk
   have hlen := hw.len
   refine Ex.seq ?_
   have hcl : Closed Γ E (thenS (Ex P Γ E b Q) Q) := by
    intro e S S' hW h
    cases e with
    | normal => exact Ex.wk hW h
    | _ => exact hQ _ _ _ hW h
   unfold sx at h
   simp only at h
   have plain : sx Γ cs hs a (2 * key) S f d (fun e S f d => match e with
    | .normal => sx Γ cs hs b (2 * key + 1) S f d k
    | e => k e S f d) = some pe → Ex P Γ E a (thenS (Ex P Γ E b Q) Q) (concL ρ S) := by
    intro h
    refine iha h hw hd hcl ?_
    intro e S' f' d' pe' l h1 h2 h3
    cases e with
    | normal =>
      refine ihb h1 h2 h3 hQ fun e S2 f2 d2 pe2 l2 g1 g2 g3 => ?_
      rw [List.append_assoc] at g2 g3 ⊢
      exact hk e S2 f2 d2 pe2 (l ++ l2) g1 g2 g3
    | _ => exact hk _ S' f' d' pe' l h1 h2 h3
   split at h
   ·rename_i es hes
    simp only [Option.bind_eq_some_iff, Option.map_eq_some_iff] at h
    obtain ⟨pa, hpa, ks, hks, rfl⟩ := h
    simp only [den, Option.bind_eq_some_iff] at hd
    obtain ⟨o1, hd1, hd2⟩ := hd
    refine iha (k := fun e S' _ _ => leafJ es 0 S e S') hpa hw hd1 hcl ?_
    intro e S' f' d' pe' l h1 h2 h3
    obtain ⟨i, n, p, g1, g2, g3, g4, g5⟩ := leafJ_spec h1 h3 hlen hw.lt
    rw [Nat.zero_add] at g3
    rw [g3] at hd2
    obtain ⟨g6, pe2, g7, g8⟩ := contsJ_den hks g1 hd2 g4
    have hw2 : Wf (ρ ++ o1.2) (contSt p S d) f (d + p.pass.length) := ⟨by simp [hlen, g4], g6, hw.facts.append (by rw [hlen]; exact hw.flt), ltF_mono (by omega) hw.flt⟩
    refine hcl e _ _ g5 ?_
    rw [g2] at g7
    cases e with
    | normal =>
      refine ihb g7 hw2 g8 hQ fun e S2 f2 d2 pe2 l2 k1 k2 k3 => ?_
      rw [List.append_assoc] at k2 k3 ⊢
      exact hk e S2 f2 d2 pe2 (o1.2 ++ l2) k1 k2 k3
    | _ => exact hk _ _ f _ pe2 o1.2 g7 hw2 g8
   ·exact plain h
 | cond x a b iha ihb =>
   intro key S f d k pe ρ o Q h hw hd hQ hk
   unfold sx at h
   cases x with
   | tmp s =>
     simp only at h
     refine Ex.cond ?_
     simp only [condS]
     rw [concL_get]
     have hlc := sget_lt hw.lt s
     generalize sget S s = c at h hlc
     obtain ⟨av, ver⟩ := c
     simp only [SC.conc]
     cases av with
     | val ty x =>
       cases ty with
       | bool =>
         simp only [SV.conc] at h ⊢
         cases hk' : known f x with
         | some bb =>
           rw [hk'] at h
           have hb := known_spec hw.facts hk'
           cases bb with
           | true => exact ⟨fun _ => iha h hw hd hQ hk, fun hf => by rw [hb] at hf; cases hf⟩
           | false => exact ⟨fun hf => (by rw [hb] at hf; cases hf), fun _ => ihb h hw hd hQ hk⟩
         | none =>
           rw [hk'] at h
           simp only at h
           split at h
           case isFalse => cases h
           rename_i hlx
           simp only [Option.bind_eq_some_iff, Option.map_eq_some_iff] at h
           obtain ⟨p, hp, q, hq, rfl⟩ := h
           simp only [den] at hd
           refine ⟨fun hb => ?_, fun hb => ?_⟩
           ·rw [if_pos hb] at hd
            exact iha hp (hw.fact hlx hb) hd hQ hk
           ·rw [if_neg (by rw [hb]; simp)] at hd
            exact ihb hq (hw.fact hlx hb) hd hQ hk
       | _ => cases h
     | _ => cases h
   | const v =>
     cases v with
     | bool bb =>
       refine Ex.cond ?_
       simp only [condS]
       cases bb with
       | true => exact ⟨fun _ => iha h hw hd hQ hk, fun hf => by cases hf⟩
       | false => exact ⟨fun hf => (by cases hf), fun _ => ihb h hw hd hQ hk⟩
     | _ => cases h
   | _ => cases h
 | block id c ih =>
   intro key S f d k pe ρ o Q h hw hd hQ hk
   unfold sx at h
   refine Ex.block (ih h hw hd ?_ ?_)
   ·intro e S S' hW h
    cases e with
    | exit id' =>
      simp only [blockS_exit] at h ⊢
      by_cases hi : id' = id
      ·rw [if_pos hi] at h ⊢; exact hQ _ _ _ hW h
      ·rw [if_neg hi] at h ⊢; exact hQ _ _ _ hW h
    | _ => exact hQ _ _ _ hW h
   ·intro e S' f' d' pe' l h1 h2 h3
    cases e with
    | exit id' =>
      simp only [blockS_exit] at h1 ⊢
      by_cases hi : id' = id
      ·subst hi
       rw [if_pos rfl]
       simp only [Nat.beq_refl, if_true] at h1
       exact hk _ S' f' d' pe' l h1 h2 h3
      ·rw [if_neg hi]
       have : Nat.beq id' id = false := by
        cases hb : Nat.beq id' id with
        | false => rfl
        | true => exact absurd (Nat.eq_of_beq_eq_true hb) hi
       simp only [this, Bool.false_eq_true, if_false] at h1
       exact hk _ S' f' d' pe' l h1 h2 h3
    | _ => exact hk _ S' f' d' pe' l h1 h2 h3
 | loop c ih =>
   intro key S f d k pe ρ o Q h hw hd hQ hk
   have hlen := hw.len
   unfold sx at h
   split at h
   case h_2 => cases h
   rename_i hp es hes
   split at h
   case isFalse => cases h
   rename_i hkp
   simp only [Bool.and_eq_true] at hkp
   refine Ex.wk (settleAll_wk hp.pass S) ?_
   replace hw : Wf ρ (settle hp.pass S) f d := ⟨hw.len, hkp.1, hw.facts, hw.flt⟩
   replace hkp := hkp.2
   generalize settle hp.pass S = S at *
   simp only [Option.bind_eq_some_iff, Option.map_eq_some_iff] at h
   obtain ⟨xs, hxs, body, hbody, ks, hks, rfl⟩ := h
   simp only [den, Option.bind_eq_some_iff] at hd
   obtain ⟨o1, hd1, hd2⟩ := hd
   obtain ⟨n, hn⟩ := loopF_some hd1
   have hw0 : Wk Γ E (concL ρ S) (concL (ρ ++ xs.map (X.den ρ)) (contSt hp S d)) := by
    have := cont_weak (l := []) hlen hw.lt hxs hkp.1
    rw [nil] at this
    exact this.wk
   refine Ex.loop (fun n S' => ∃ l, iterF (fun l => den cs (.take hp.pass.length body) ρ 0 l) n l = some o1 ∧ l.length = hp.pass.length ∧ Wk Γ E S' (concL (ρ ++ l) (contSt hp S d))) (n := n) ⟨_, hn, by simp [outVals_len hxs], hw0⟩ ?_
   rintro n S1 ⟨l, hit, hll, hW⟩
   refine Ex.wk hW ?_
   cases n with
   | zero => cases hit
   | succ n =>
     unfold iterF at hit
     simp only [den] at hit
     rw [normL_eq l hp.pass.length 0 (by omega), List.drop_zero] at hit
     cases hdl : den cs body (ρ ++ l) 0 [] with
     | none => rw [hdl] at hit; cases hit
     | some ob =>
       rw [hdl] at hit
       have hwh : Wf (ρ ++ l) (contSt hp S d) f (d + hp.pass.length) := ⟨by simp [hlen, hll], hkp.2, hw.facts.append (by rw [hlen]; exact hw.flt), ltF_mono (by omega) hw.flt⟩
       refine ih hbody hwh hdl ?_ ?_
       ·intro e S S' hW h
        cases e with
        | normal =>
          obtain ⟨m, h1, l', h2, h3, h4⟩ := h
          exact ⟨m, h1, l', h2, h3, hW.trans h4⟩
        | _ => exact hQ _ _ _ hW h
       ·intro e S' f' d' pe' l' h1 h2 h3
        rw [List.append_assoc] at h3 ⊢
        have other : e ≠ .normal → leafJ es 1 S e S' = some pe' → Q e (concL (ρ ++ (l ++ l')) S') := by
         intro hne h1
         obtain ⟨i, m, p, g1, g2, g3, g4, g5⟩ := leafJ_spec h1 h3 hlen hw.lt
         obtain ⟨t, vals⟩ := ob
         simp only at g3 g4 g5 hit
         subst g3
         rw [Nat.add_comm] at hit
         simp only [Option.some.injEq] at hit
         subst hit
         simp only at hd2
         obtain ⟨g6, pe2, g7, g8⟩ := contsJ_den hks g1 hd2 g4
         rw [g2] at g7
         exact hQ _ _ _ g5 (hk e _ f _ pe2 vals g7 ⟨by simp [hlen, g4], g6, hw.facts.append (by rw [hlen]; exact hw.flt), ltF_mono (by omega) hw.flt⟩ g8)
        cases e with
        | normal =>
          obtain ⟨i, m, p, g1, g2, g3, g4, g5⟩ := leafJ_spec h1 h3 hlen hw.lt
          have hi : i = 0 := by
           have := (List.getElem?_eq_some_iff.1 g1).1
           simpa using this
          subst hi
          simp only [List.getElem?_cons_zero, Option.some.injEq, Prod.mk.injEq] at g1
          obtain ⟨rfl, rfl⟩ := g1
          obtain ⟨t, vals⟩ := ob
          simp only at g3 g4 g5 hit
          subst g3
          simp only at hit
          exact ⟨n, Nat.lt_succ_self n, vals, hit, g4, g5⟩
        | _ => exact other (by simp) h1
 | _ =>
   intro key S f d k pe ρ o Q h hw hd hQ hk
   unfold sx at h
   cases h
end
end Go.Own
