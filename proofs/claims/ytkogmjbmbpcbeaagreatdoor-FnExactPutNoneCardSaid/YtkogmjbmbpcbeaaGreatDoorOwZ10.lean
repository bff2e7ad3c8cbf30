/- A layer over the walk: what lies in memory as plain data, each operation by what it does to data; part 20. -/
import Derived.Test.YtkogmjbmbpcbeaaGreatDoorOwZ7
set_option linter.unusedSectionVars false
set_option linter.unusedVariables false
set_option linter.unusedSimpArgs false
namespace Go.Own
variable [Glb]
noncomputable section
open Go
def Cap.roots : Cap → List Nat
 | .ptr r _ _ => [r]
 | _ => []
@[simp] def AV.roots : AV → List Nat
 | .ref r .. => [r]
 | .win r .. => [r]
 | .ptr r .. => [r]
 | .bref _ _ r _ _ => [r]
 | .clo _ l => l.flatMap Cap.roots
 | _ => []
def AV.Leans : AV → AV → Nat → Ver → Ver → Prop
 | .ref r1 v p t d, .ref r2 v' p' t' d', r, c, c' => r1 = r ∧ r2 = r ∧ p' = p ∧ t' = t ∧ d' = d ∧ v' = c' ∧ z1Q v c (depth p)
 | .bref t d r1 v p, .bref t' d' r2 v' p', r, c, c' => r1 = r ∧ r2 = r ∧ p' = p ∧ t' = t ∧ d' = d ∧ v' = c' ∧ z1Q v c (depth p)
 | .win r1 v p e lo n, .win r2 v' p' e' lo' n', r, c, c' => r1 = r ∧ r2 = r ∧ p' = p ∧ e' = e ∧ lo' = lo ∧ n' = n ∧ v' = c' ∧ z1Q v c (depth p)
 | .ptr r1 v p, .ptr r2 v' p', r, c, c' => r1 = r ∧ r2 = r ∧ p' = p ∧ v' = c' ∧ z3t v c (depth p)
 | _, _, _, _, _ => False
def Weak (S S' : St) : Prop := ∀ s, (S' s).av = .undef ∨ ((S' s).av = (S s).av ∧ ∀ r, r ∈ (S' s).av.roots → S' r = S r) ∨ ((S s).av = .nil ∧ ∃ e, (S' s).av = .val (.lst true e) (.lst [])) ∨
 ∃ r, (S s).av.Leans (S' s).av r (S r).v (S' r).v ∧ (S' r).root = (S r).root ∧ (S' r).av ≠ .undef
variable {P : Program} {Γ : Env} {E : Entry} {S S' : St} {act : Act} {w : World} {Q : Exit → St → Prop}
theorem Weak.inv (hw : Weak S S') (hi : Inv Γ E S act w) : Inv Γ E S' act w := by
 obtain ⟨hf, κ, V, hc, hb⟩ := hi
 open Classical in
 let κ' : Nat → K := fun s => if (S' s).av = .undef then .leaf else κ s
 have hsub : ∀ s b, b ∈ (κ' s).blocks → b ∈ (κ s).blocks := by
  intro s b hb
  by_cases hu : (S' s).av = .undef
  ·simp [κ', hu, K.blocks] at hb
  ·simpa [κ', hu] using hb
 have hroot : ∀ r, S' r = S r → κ' r = κ r := by
  intro r hr
  by_cases hu : (S' r).av = .undef
  ·have := hc.cv r
   rw [← hr, hu] at this
   simp only [κ', hu, if_true]
   exact this.symm
  ·simp [κ', hu]
 refine ⟨hf, κ', V, ⟨fun s => ?_, fun s => ?_, fun s s' hss b hb hm => hc.dj s s' hss b (hsub s b hb) (hsub s' b hm), fun s b hb => hc.dv s b (hsub s b hb), hc.lt, fun s b hb => hc.bl s b (hsub s b hb)⟩, ⟨hb.v0, hb.v1, fun s b h => hb.k s b (hsub s b h)⟩⟩
 ·rcases hw s with hu | ⟨he, hr⟩ | ⟨hn, e, he⟩ | ⟨r, hle, hro, hun⟩
  ·rw [hu]; simp [CV, κ', hu]
  rotate_left
  ·have hcv := hc.cv s
   rw [hn] at hcv
   obtain ⟨h1, h2⟩ := hcv
   have hk : κ' s = .leaf := by simp [κ', he, h1]
   rw [he]
   exact ⟨[.slice none 0 0], ⟨[], rfl, .inl ⟨rfl, hk, none, rfl, fun _ => rfl⟩⟩, h2⟩
  ·have hcv := hc.cv s
   have hkr : κ' r = κ r := by simp [κ', hun]
   have hks : κ' s = κ s := by
    have : (S' s).av ≠ .undef := by
     intro h
     rw [h] at hle
     cases ha : (S s).av <;> simp [ha, AV.Leans] at hle
    simp [κ', this]
   generalize (S s).av = a at hcv hle
   generalize (S' s).av = a' at hle
   cases a <;> cases a' <;> simp only [AV.Leans] at hle
   case ref.ref =>
    obtain ⟨rfl, rfl, rfl, rfl, rfl, rfl, hlv⟩ := hle
    simp only [CV, RefC] at hcv ⊢
    rw [hks]
    obtain ⟨g1, g2, _, g3⟩ := hcv
    refine ⟨g1, g2, Ver.le_refl _, fun tr dr bx h1 _ h3 h4 => ?_⟩
    rw [hro] at h1
    rw [hkr]
    exact g3 tr dr bx h1 hlv h3 h4
   case bref.bref =>
    obtain ⟨rfl, rfl, rfl, rfl, rfl, rfl, hlv⟩ := hle
    simp only [CV, RefC] at hcv ⊢
    rw [hks]
    obtain ⟨b, κ0, arr, ty, k1, k2, k3, k4, k5, g2, _, g3⟩ := hcv
    refine ⟨b, κ0, arr, ty, k1, k2, k3, k4, k5, g2, Ver.le_refl _, fun tr dr bx h1 _ h3 h4 => ?_⟩
    rw [hro] at h1
    rw [hkr]
    exact g3 tr dr bx h1 hlv h3 h4
   case win.win =>
    obtain ⟨rfl, rfl, rfl, rfl, rfl, rfl, rfl, hlv⟩ := hle
    simp only [CV, WinC] at hcv ⊢
    rw [hks]
    obtain ⟨g1, g2, _, g3⟩ := hcv
    refine ⟨g1, g2, Ver.le_refl _, fun tr dr bx h1 _ h3 h4 => ?_⟩
    rw [hro] at h1
    rw [hkr]
    exact g3 tr dr bx h1 hlv h3 h4
   case ptr.ptr =>
    obtain ⟨rfl, rfl, rfl, rfl, hlv⟩ := hle
    simp only [CV, PtrC] at hcv ⊢
    rw [hks]
    obtain ⟨g1, g2, _, g3⟩ := hcv
    refine ⟨g1, g2, Ver.le_refl _, fun tr dr bx h1 _ h4 => ?_⟩
    rw [hro] at h1
    rw [hkr]
    exact g3 tr dr bx h1 hlv h4
  ·by_cases hu : (S' s).av = .undef
   ·rw [hu]; simp [CV, κ', hu]
   ·have hk : κ' s = κ s := by simp [κ', hu]
    have hcv := hc.cv s
    rw [← he] at hcv
    generalize (S' s).av = a at hcv hr
    cases a with
    | undef => simp only [CV] at hcv ⊢; rw [hk]; exact hcv
    | nil => simp only [CV] at hcv ⊢; rw [hk]; exact hcv
    | val t d => simp only [CV] at hcv ⊢; rw [hk]; exact hcv
    | tup t d => simp only [CV] at hcv ⊢; rw [hk]; exact hcv
    | box t d => simp only [CV] at hcv ⊢; rw [hk]; exact hcv
    | bref t d r ver p =>
      have h1 := hr r (by simp)
      have h2 := hroot r h1
      simp only [CV, RefC] at hcv ⊢
      rw [hk, h1, h2]; exact hcv
    | ref r ver p t d =>
      have h1 := hr r (by simp)
      have h2 := hroot r h1
      simp only [CV, RefC] at hcv ⊢
      rw [hk, h1, h2]; exact hcv
    | win r ver p e lo n =>
      have h1 := hr r (by simp)
      have h2 := hroot r h1
      simp only [CV, WinC] at hcv ⊢
      rw [hk, h1, h2]; exact hcv
    | ptr r ver p =>
      have h1 := hr r (by simp)
      have h2 := hroot r h1
      simp only [CV, PtrC] at hcv ⊢
      rw [hk, h1, h2]; exact hcv
    | clo f l =>
      simp only [CV] at hcv ⊢
      rw [hk]
      obtain ⟨g1, vs, g2, g3, g4⟩ := hcv
      refine ⟨g1, vs, g2, g3, fun i c hi => ?_⟩
      obtain ⟨u, hu, hcc⟩ := g4 i c hi
      refine ⟨u, hu, ?_⟩
      cases c with
      | val t d => exact hcc
      | ptr r ver p =>
        have h1 := hr r (by
         simp only [AV.roots, List.mem_flatMap]
         exact ⟨_, List.mem_of_getElem? hi, by simp [Cap.roots]⟩)
        have h2 := hroot r h1
        simp only [CapC, PtrC] at hcc ⊢
        rw [h1, h2]; exact hcc
 ·by_cases hu : (S' s).av = .undef
  ·simp [κ', hu, K.blocks]
  ·simp only [κ', hu, if_false]; exact hc.nd s
def Wk (Γ : Env) (E : Entry) (S S' : St) : Prop := ∀ act w, Inv Γ E S act w → Inv Γ E S' act w
theorem Weak.wk (hw : Weak S S') : Wk Γ E S S' := fun _ _ hi => hw.inv hi
theorem Wk.refl (S : St) : Wk Γ E S S := fun _ _ h => h
theorem Wk.trans {S1 S2 S3 : St} (h1 : Wk Γ E S1 S2) (h2 : Wk Γ E S2 S3) : Wk Γ E S1 S3 := fun act w h => h2 act w (h1 act w h)
theorem Ex.wk {c : Code} (hw : Wk Γ E S S') (h : Ex P Γ E c Q S') : Ex P Γ E c Q S := fun act w hi => h act w (hw act w hi)
theorem Ex.weak {c : Code} (hw : Weak S S') (h : Ex P Γ E c Q S') : Ex P Γ E c Q S := fun act w hi => h act w (hw.inv hi)
theorem Ex.while {α : Type} {c : Code} (p : α → Prop) (f : α → List Cl) (μ : α → Nat) (x0 : α) (h0 : p x0 ∧ Weak S (St.of (f x0)))
 (round : ∀ x, p x → Ex P Γ E c (zGI (fun S' => ∃ y, p y ∧ μ y < μ x ∧ Weak S' (St.of (f y))) Q) (St.of (f x))) : Ex P Γ E (.loop c) Q S := by
 refine Ex.weak h0.2 (Ex.loop (fun n S => ∃ x, p x ∧ μ x = n ∧ Weak S (St.of (f x))) (n := μ x0) ⟨x0, h0.1, rfl, fun s => .inr (.inl ⟨rfl, fun _ _ => rfl⟩)⟩ ?_)
 rintro n S ⟨x, hx, rfl, hw⟩
 refine Ex.weak hw ((round x hx).mono ?_)
 intro e S' hq
 cases e with
 | normal =>
   obtain ⟨y, h1, h2, h3⟩ := hq
   exact ⟨_, h2, y, h1, rfl, h3⟩
 | _ => exact hq
@[simp] def zGN (l l' : List Cl) : List Cl → List Cl → Prop
 | _, [] => True
 | [], c :: cs => c.av = .undef ∧ zGN l l' [] cs
 | c :: cs, c' :: cs' => (c'.av = .undef ∨ (c'.av = c.av ∧ ∀ r, r ∈ c'.av.roots → getC l' r = getC l r)) ∧ zGN l l' cs cs'
theorem zCn {l l' : List Cl} : ∀ {cs cs' : List Cl}, zGN l l' cs cs' → ∀ s, (getC cs' s).av = .undef ∨ ((getC cs' s).av = (getC cs s).av ∧ ∀ r, r ∈ (getC cs' s).av.roots → getC l' r = getC l r)
 | _, [], _, s => by simp
 | [], c :: cs, h, 0 => by
   simp only [zGN] at h
   exact .inl h.1
 | [], c :: cs, h, s + 1 => by
   simp only [zGN] at h
   have := zCn h.2 s
   simpa using this
 | c :: cs, c' :: cs', h, 0 => by
   simp only [zGN] at h
   exact h.1
 | c :: cs, c' :: cs', h, s + 1 => by
   simp only [zGN] at h
   exact zCn h.2 s
theorem Weak.of {l l' : List Cl} (h : zGN l l' l l') : Weak (St.of l) (St.of l') := fun s => by
 have := zCn h s
 rcases this with h | h
 ·exact .inl (by simpa using h)
 ·exact .inr (.inl (by simpa using h))
def opsE (X : Ctr) (Γ : Env) (ops : Array Oper) (bef : List (List Nat)) : List Tr → Nat → List Oper → St → (St → Prop) → Prop
 | tr, _, [], S, K => z1H bef tr = true ∧ K S
 | tr, i, o :: os, S, K => (opG Γ ops o).wpD X [] S fun R ws => opsE X Γ ops bef (tr ++ [⟨i, R, ws.map (·.1), exOf o, mvOf o, if (exOf o).isSome then [] else gOf S ws⟩]) (i + 1) os (S.apply ws) K
@[congr] theorem opsE_congr {X : Ctr} {Γ : Env} {ops : Array Oper} {bef : List (List Nat)} {tr tr' : List Tr} {i i' : Nat} {os : List Oper} {S S' : St} {K : St → Prop} (ht : tr = tr') (hi : i = i') (h : S = S') : opsE X Γ ops bef tr i os S K = opsE X Γ ops bef tr' i' os S' K := by rw [h, ht, hi]
theorem opsE_nil {X : Ctr} {Γ : Env} {ops : Array Oper} {bef : List (List Nat)} {tr : List Tr} {i : Nat} {S : St} {K : St → Prop} (ha : z1H bef tr = true) (h : K S) : opsE X Γ ops bef tr i [] S K := ⟨ha, h⟩
theorem opsE_cons {X : Ctr} {Γ : Env} {ops : Array Oper} {bef : List (List Nat)} {tr : List Tr} {i : Nat} {o : Oper} {os : List Oper} {S : St} {K : St → Prop}
 (h : (opG Γ ops o).wpD X [] S fun R ws => opsE X Γ ops bef (tr ++ [⟨i, R, ws.map (·.1), exOf o, mvOf o, if (exOf o).isSome then [] else gOf S ws⟩]) (i + 1) os (S.apply ws) K) : opsE X Γ ops bef tr i (o :: os) S K := h
theorem zFm {X : Ctr} {Γ : Env} {ops : Array Oper} {bef : List (List Nat)} {K : St → Prop} : ∀ (os : List Oper) (k : Nat) {tr : List Tr} {S : St}, os = ops.toList.drop k → opsE X Γ ops bef tr k os S K → opsD X Γ ops bef tr ((List.range os.length).map (· + k)) S K
 | [], k, tr, S, _, h => h
 | o :: os, k, tr, S, he, h => by
   have h0 : ops[k]? = some o := by
    have := congrArg (fun l : List Oper => l[0]?) he
    simpa using this.symm
   have ht : os = ops.toList.drop (k + 1) := by
    have := congrArg List.tail he
    simpa using this
   rw [List.length_cons, List.range_succ_eq_map, List.map_cons, List.map_map]
   simp only [opsD, Nat.zero_add, h0]
   refine A.wpD_mono h fun R ws hw => ?_
   have := zFm os (k + 1) ht hw
   rwa [show ((fun x => x + k) ∘ Nat.succ) = (fun x => x + (k + 1)) from by funext x; simp; omega]
theorem Ex.opsAny (ok : EnvOk P Γ) {id : Nat} {ops : Array Oper} (hdn : zI8 .any ops = true) (h : opsE (VX P) Γ ops (ancs .any ops.toList) [] 0 ops.toList S (Q .normal)) : Ex P Γ E (.region id ops true) Q S := by
 refine Ex.draw ok hdn ?_
 have := zFm ops.toList 0 (by simp) h
 simpa using this
@[simp] theorem A.wpD_ite {X : Ctr} {S : St} {R : List Nat} {K : List Nat → Wr → Prop} {c : Prop} [Decidable c] {a b : A} : (if c then a else b).wpD X R S K ↔ (c → a.wpD X R S K) ∧ (¬ c → b.wpD X R S K) := by
 split <;> simp_all
abbrev zM8 (P : Program) (g : FuncId) (as : List Arg) (R : Res) (O : List D) : Prop := z87 P g as (fun r o => r = R ∧ o = O)
theorem VX.gives1 {P : Program} {g : FuncId} {as : List Arg} {R : Res} {O : List D} {K : Res → Prop} (hc : z4C P g) (hv : zM8 P g as R O) (h : K R) :
 ∃ r, (∃ o, VX P g as (fun r' o' => r' = r ∧ o' = o)) ∧ K r := ⟨R, ⟨O, ⟨hc, hv⟩⟩, h⟩
theorem VX.gives {P : Program} {g : FuncId} {as : List Arg} {R : Res} {O : List D} {K : Res → List D → Prop} (hc : z4C P g) (hv : zM8 P g as R O) (h : K R O) :
 ∃ r o, VX P g as (fun r' o' => r' = r ∧ o' = o) ∧ K r o := ⟨R, O, ⟨hc, hv⟩, h⟩
end
end Go.Own
namespace Go.Own
variable [Glb]
noncomputable section
open Go
def T.fits : T → D → Prop
 | .unit, d => d = .unit
 | .int k, d => ∃ n, d = .int n ∧ k.min ≤ n ∧ n ≤ k.max
 | .bool, d => ∃ b, d = .bool b
 | .str, d => ∃ s, d = .str s ∧ s.length ≤ smax
 | .pair a b, d => ∃ x y, d = .pair x y ∧ a.fits x ∧ b.fits y
 | .lst _ e, d => ∃ xs, d = .lst xs ∧ xs.length ≤ smax ∧ ∀ x ∈ xs, e.fits x
 | _, _ => True
theorem Rep.fits {h : Heap} {V : Nat → Prop} {t : T} : ∀ {d κ cs}, Rep h V t d κ cs → t.fits d := by
 induction t with
 | unit => rintro d κ cs ⟨rfl, _⟩; rfl
 | int k => rintro d κ cs ⟨n, rfl, _, _, hn⟩; exact ⟨n, rfl, hn⟩
 | bool => rintro d κ cs ⟨b, rfl, _⟩; exact ⟨b, rfl⟩
 | str => rintro d κ cs ⟨s, rfl, _, _, hs⟩; exact ⟨s, rfl, hs⟩
 | pair a b iha ihb => rintro d κ cs ⟨d1, d2, κ1, κ2, c1, c2, rfl, _, _, h1, h2⟩; exact ⟨_, _, rfl, iha h1, ihb h2⟩
 | lst o e ih =>
   rintro d κ cs ⟨xs, rfl, ⟨rfl, _, _⟩ | ⟨b, off, c, arr, ty, fz, ks, _, hl, _, _, he, _⟩⟩
   ·exact ⟨[], rfl, by simp, by simp⟩
   ·refine ⟨xs, rfl, hl.2, fun x hx => ?_⟩
    obtain ⟨i, hi⟩ := List.getElem?_of_mem hx
    exact ih (he i x hi)
 | _ => intros; trivial
theorem ArgV.fits {h : Heap} {V : Nat → Prop} {a : Arg} {κ : K} {v : Value} (ha : ArgV h V a κ v) : a.t.fits a.d := by
 unfold ArgV at ha
 split at ha
 ·obtain ⟨_, _, _, _, _, _, _, hr⟩ := ha; exact hr.fits
 ·obtain ⟨_, cs, hr, _⟩ := ha; exact hr.fits
 ·obtain ⟨cs, hr, _⟩ := ha; exact hr.fits
theorem z87.fits {P : Program} {g : FuncId} {as : List Arg} {Post : Res → List D → Prop} (h : (∀ a, a ∈ as → a.t.fits a.d) → z87 P g as Post) : z87 P g as Post := by
 intro w V κs vs hp hg
 refine h ?_ w V κs vs hp hg
 intro a ha
 obtain ⟨i, hi⟩ := List.getElem?_of_mem ha
 have hl := hp.len
 have hlt : i < vs.length := by rw [hl]; exact (List.getElem?_eq_some_iff.1 hi).1
 exact (hp.arg i a vs[i] hi (by simp [hlt])).fits
theorem wrap_i64 {n : Int} (h1 : -9223372036854775808 ≤ n) (h2 : n ≤ 9223372036854775807) : IntKind.wrap .i64 n = n := by
 simp only [IntKind.wrap, IntKind.signed, IntKind.bits]
 simp
 omega
end
end Go.Own
namespace Go.Own
attribute [simp] z19
@[simp] theorem size_mk (a : Array UInt8) : (ByteArray.mk a).size = a.size := rfl
@[simp] theorem empty_mk : (⟨#[]⟩ : ByteArray) = ByteArray.empty := rfl
end Go.Own
