/- A layer over the walk: what lies in memory as plain data, each operation by what it does to data; part 27. -/
import Derived.Test.YtajcjfickmmjcaaOwV
import Derived.Laws.Slices
set_option linter.unusedVariables false
set_option linter.unusedSimpArgs false
namespace Go.Own
open Go
noncomputable section
section
variable (Γ : Env)

@[simp] def bnd (x : Option Operand) (k : Option D → A) : A := match x with
  | none => k none
  | some x => opd x fun a => match a with
    | .val (.int _) n => k (some n)
    | _ => .fail

def loOf : Option D → Int
  | none => 0
  | some n => n.i
def hiOf (len : Nat) : Option D → Int
  | none => len
  | some n => n.i

@[simp] def opSlice (dst : Option Nat) (t : TypeId) (x : Operand) (lo hi mx : Option Operand) : A := match mx with
  | some _ => .fail
  | none => opd x fun a => bnd lo fun l => bnd hi fun h => match a with
    | .val .str d => .need (Γ.ty t = .str ∧ 0 ≤ loOf l ∧ loOf l ≤ hiOf d.s.length h ∧ hiOf d.s.length h ≤ d.s.length) (out Γ dst (.val .str (.str ((d.s.take (hiOf d.s.length h).toNat).drop (loOf l).toNat))))
    | .val (.lst false e) d => .need ((Γ.ty t).lsts = true ∧ e.view = (Γ.ty t).elem.view ∧ 0 ≤ loOf l ∧ loOf l ≤ hiOf d.l.length h ∧ hiOf d.l.length h ≤ d.l.length)
        (out Γ dst (.val (.lst false e) (.lst ((d.l.take (hiOf d.l.length h).toNat).drop (loOf l).toNat))))
    | .ref r v p (.lst true e) _ => rootOf r fun cr tr dr _ =>
        .need (liveRef v cr.v (depth p) ∧ tr.at p = .lst true e ∧ Ok tr dr p ∧ (Γ.ty t).lsts = true ∧ e.view = (Γ.ty t).elem.view ∧ 0 ≤ loOf l ∧ loOf l ≤ hiOf (dr.get p).l.length h ∧ hiOf (dr.get p).l.length h ≤ (dr.get p).l.length)
          (out Γ dst (.win r cr.v p e (loOf l).toNat ((hiOf (dr.get p).l.length h).toNat - (loOf l).toNat)))
    | _ => .fail

def lesser (a b : Int) : Int := if b < a then b else a
def greater (a b : Int) : Int := if b > a then b else a

/-- the least, the greatest of numbers -/
@[simp] def opMinMax (mx : Bool) (dst : Option Nat) (xs : List Operand) : A := match xs with
  | [x, y] => opd x fun a => opd y fun b => match a, b with
    | .val (.int k) m, .val (.int k') n => .need (k = k') (out Γ dst (.val (.int k) (.int (if mx then greater m.i n.i else lesser m.i n.i))))
    | _, _ => .fail
  | [x, y, z] => opd x fun a => opd y fun b => opd z fun c => match a, b, c with
    | .val (.int k) m, .val (.int k') n, .val (.int k'') q => .need (k = k' ∧ k = k'') (out Γ dst (.val (.int k) (.int (if mx then greater (greater m.i n.i) q.i else lesser (lesser m.i n.i) q.i))))
    | _, _, _ => .fail
  | _ => .fail
end

variable {P : Program} {Γ : Env} {E : Entry} {S : St} {act : Act} {w : World} {X : Ctr} {Kt : Wr → Prop} {next : Act → World → Prop}

theorem run_bounds (isSlice : Bool) (len cap : Nat) {lo hi : Option Value} {l h : Nat} (hlo : (lo = none ∧ l = 0) ∨ ∃ k i, lo = some (.int k i) ∧ 0 ≤ i ∧ l = i.toNat)
    (hhi : (hi = none ∧ h = len) ∨ ∃ k i, hi = some (.int k i) ∧ 0 ≤ i ∧ h = i.toNat) (h1 : l ≤ h) (h2 : h ≤ cap) : (Instr.sliceBounds isSlice len cap lo hi none).run P w = .ok (l, h, cap) w := by
  rcases hlo with ⟨rfl, rfl⟩ | ⟨kl, i, rfl, hi0, rfl⟩ <;> rcases hhi with ⟨rfl, rfl⟩ | ⟨kh, j, rfl, hj0, rfl⟩
  · simp [Instr.sliceBounds]
  · have e : (j.toNat : Int) = j := Int.toNat_of_nonneg hj0
    cases isSlice <;> simp [Instr.sliceBounds, run_sliceBound, *, (by omega : j ≤ (cap : Int))]
  · have e : (i.toNat : Int) = i := Int.toNat_of_nonneg hi0
    cases isSlice <;> simp [Instr.sliceBounds, run_sliceBound, *, (by omega : i ≤ (h : Int))]
  · have e : (i.toNat : Int) = i := Int.toNat_of_nonneg hi0
    have e2 : (j.toNat : Int) = j := Int.toNat_of_nonneg hj0
    cases isSlice <;> simp [Instr.sliceBounds, run_sliceBound, *, (by omega : j ≤ (cap : Int)), (by omega : i ≤ j)]

theorem bnd_sound {x : Option Operand} {k : Option D → A} (h : (bnd x k).wp X S Kt) {κ V} (hc : Conc w.heap (tmOf act) V S κ) :
    ∃ d, (k d).wp X S Kt ∧ ((x = none ∧ d = none) ∨ ∃ o k n, x = some o ∧ d = some n ∧ act.eval o = .int k n.i) := by
  cases x with
  | none => exact ⟨none, h, .inl ⟨rfl, rfl⟩⟩
  | some o =>
    have h' : (opd o fun a => match a with
      | .val (.int _) n => k (some n)
      | _ => .fail).wp X S Kt := h
    obtain ⟨a, hk, ho⟩ := opd_sound h' hc
    cases a with
    | val t n =>
      cases t with
      | int k => exact ⟨some n, hk, .inr ⟨o, k, n, rfl, rfl, (of_int ho).1⟩⟩
      | _ => exact hk.elim
    | _ => exact hk.elim

theorem bnd_lo {x : Option Operand} {d : Option D} (h : (x = none ∧ d = none) ∨ ∃ o k n, x = some o ∧ d = some n ∧ act.eval o = .int k n.i) (h0 : 0 ≤ loOf d) :
    (x.map act.eval = none ∧ (loOf d).toNat = 0) ∨ ∃ k i, x.map act.eval = some (.int k i) ∧ 0 ≤ i ∧ (loOf d).toNat = i.toNat := by
  rcases h with ⟨rfl, rfl⟩ | ⟨o, k, n, rfl, rfl, e⟩
  · exact .inl ⟨rfl, rfl⟩
  · exact .inr ⟨k, n.i, by simp [e], h0, rfl⟩
theorem bnd_hi {x : Option Operand} {d : Option D} {len : Nat} (h : (x = none ∧ d = none) ∨ ∃ o k n, x = some o ∧ d = some n ∧ act.eval o = .int k n.i) (h0 : 0 ≤ hiOf len d) :
    (x.map act.eval = none ∧ (hiOf len d).toNat = len) ∨ ∃ k i, x.map act.eval = some (.int k i) ∧ 0 ≤ i ∧ (hiOf len d).toNat = i.toNat := by
  rcases h with ⟨rfl, rfl⟩ | ⟨o, k, n, rfl, rfl, e⟩
  · exact .inl ⟨rfl, by simp [hiOf]⟩
  · exact .inr ⟨k, n.i, by simp [e], h0, rfl⟩

theorem extract_mkS (s : List UInt8) (l h : Nat) (hh : h ≤ s.length) : (mkS s).extract l h = mkS ((s.take h).drop l) := by
  ext1
  simp [mkS, ByteArray.extract, ByteArray.copySlice]
  rw [List.drop_take]

/-- a part of a list that is read -/
theorem Rep.part {h : Heap} {V : Nat → Prop} {e : T} {xs : List D} {κ : K} {A : Option Addr} {n c l m : Nat} (hr : Rep h V (.lst false e) (.lst xs) κ [.slice A n c]) (h1 : l ≤ m) (h2 : m ≤ xs.length) :
    m ≤ c ∧ n = xs.length ∧ Rep h V (.lst false e) (.lst ((xs.take m).drop l)) .leaf [sliced A l m c e.size] := by
  obtain ⟨ys, hy, ⟨rfl, rfl, hcs⟩ | ⟨b, off, c', arr, ty, fz, ks, hcs, hl, hh, hs, he, ho⟩⟩ := hr
  · cases hy
    simp only [List.length_nil, Nat.le_zero_eq] at h2
    subst h2
    simp only [Nat.le_zero_eq] at h1
    subst h1
    simp at hcs
    obtain ⟨rfl, rfl, rfl⟩ := hcs
    refine ⟨by omega, rfl, ?_⟩
    exact ⟨[], by simp, .inl ⟨rfl, rfl, by simp [sliced]⟩⟩
  · cases hy
    simp only [List.cons.injEq, Value.slice.injEq, and_true] at hcs
    obtain ⟨rfl, rfl, rfl⟩ := hcs
    simp at ho
    have hlen := hl.1
    refine ⟨by omega, rfl, (xs.take m).drop l, rfl, .inr ⟨b, if c = l then off else off + l * e.size, c - l, arr, ty, fz, fun i => ks (l + i), ?_, ?_, hh, ?_, ?_, by simp; exact ⟨ho.1, ho.2.2⟩⟩⟩
    · simp only [sliced, List.length_drop, List.length_take, Nat.min_eq_left h2]
      congr 2
      by_cases hcl : c = l
      · rw [if_pos hcl, if_pos hcl]
      · rw [if_neg hcl, if_neg hcl]
        simp only [Option.map_some]
        congr 1
        unfold Addr.add
        split <;> simp_all
    · refine ⟨by simp; omega, ?_⟩
      have := hl.2
      simp; omega
    · have h3 : (c - l) * e.size = c * e.size - l * e.size := Nat.sub_mul c l e.size
      have h4 : l * e.size ≤ c * e.size := Nat.mul_le_mul_right _ (by omega)
      split <;> omega
    · intro i x hx
      rw [List.getElem?_drop, List.getElem?_take] at hx
      split at hx
      · rename_i hi
        have := he (l + i) x hx
        have hcl : ¬ c = l := by omega
        rw [if_neg hcl]
        rw [Nat.add_mul] at this
        rwa [show off + l * e.size + i * e.size = off + (l * e.size + i * e.size) by omega]
      · cases hx

theorem sliceAt_run (ok : EnvOk P Γ) {t : TypeId} (hls : (Γ.ty t).lsts = true) {A : Option Addr} {n c l h : Nat} {lo hi : Option Value} {sz : Nat} (hsz : sz = (Γ.ty t).elem.size) (hlo : (lo = none ∧ l = 0) ∨ ∃ k i, lo = some (.int k i) ∧ 0 ≤ i ∧ l = i.toNat)
    (hhi : (hi = none ∧ h = n) ∨ ∃ k i, hi = some (.int k i) ∧ 0 ≤ i ∧ h = i.toNat) (h1 : l ≤ h) (h2 : h ≤ c) : (Instr.sliceAt t (.slice A n c) lo hi none).run P w = .ok (sliced A l h c sz) w := by
  obtain ⟨et, hu, he, hok⟩ := Fits.lst ok hls
  have hel : P.elem t = et := by simp [Program.elem, hu]
  have hu' : P.underlying t = some (.slice (P.elem t)) := by rw [hel]; exact hu
  rw [run_sliceAt_slice (P := P) (w := w) t _ lo hi none hu', run_slice_any (P := P) (w := w) t A n c hu', run_bounds true n c hlo hhi h1 h2]
  simp only [Result.andThen_ok]
  rw [hel, ok.sizeOf hok]
  simp only [Result.andThen_ok]
  rw [he, hsz]

theorem slice_sound (ok : EnvOk P Γ) {dst : Option Nat} {t : TypeId} {x : Operand} {lo hi mx : Option Operand} (h : (opSlice Γ dst t x lo hi mx).wp X S Kt) (hi' : Inv Γ E S act w) (hn : Next' Γ E S Kt next) :
    ∃ v, (Instr.sliceAt t (act.eval x) (lo.map act.eval) (hi.map act.eval) (mx.map act.eval)).run P w = .ok v w ∧ next (act.put dst v) w := by
  obtain ⟨hf, κ, V, hc, hb⟩ := hi'
  unfold opSlice at h
  split at h
  · exact h.elim
  obtain ⟨a, hk, ho⟩ := opd_sound h hc
  obtain ⟨l, hk, hl⟩ := bnd_sound hk hc
  obtain ⟨m, hk, hm⟩ := bnd_sound hk hc
  simp only [Option.map_none]
  cases a with
  | val τ d =>
    cases τ with
    | str =>
      simp only [A.wp] at hk
      obtain ⟨⟨hT, h0, h1, h2⟩, hk⟩ := hk
      obtain ⟨hv, hs⟩ := of_str ho
      have hu : P.underlying t = some .string := by have := ok.fits t (by rw [hT]; rfl); rw [hT] at this; exact this
      refine ⟨_, ?_, out_sound hk hf hc hb (ov_str _ ?_) hn⟩
      · rw [hv, run_sliceAt_string (P := P) (w := w) t _ _ _ _ hu]
        have hbd := run_bounds (P := P) (w := w) false d.s.length d.s.length (bnd_lo hl h0) (bnd_hi (len := d.s.length) hm (by omega)) (by omega) (by omega)
        simp only [Instr.slice, Sem.run_bind, run_underlying hu, Result.andThen_ok, Option.isSome_none, Bool.false_eq_true, if_false, mkS_size, hbd, Sem.run_pure]
        rw [extract_mkS _ _ _ (by omega)]
      · simp only [List.length_drop, List.length_take]; omega
    | lst o e =>
      cases o with
      | true => exact hk.elim
      | false =>
        simp only [A.wp] at hk
        obtain ⟨⟨hls, hev, h0, h1, h2⟩, hk⟩ := hk
        obtain ⟨hp, cs, hr, hv⟩ := ho
        obtain ⟨xs, hd, _⟩ := id hr
        subst hd
        have hcs : ∃ A n c, cs = [.slice A n c] := by
          obtain ⟨_, _, ⟨_, _, _, rfl, _⟩ | ⟨_, _, _, _, _, _, _, rfl, _⟩⟩ := id hr
          · exact ⟨_, _, _, rfl⟩
          · exact ⟨_, _, _, rfl⟩
        obtain ⟨A, n, c, rfl⟩ := hcs
        simp only [D.l_lst] at h1 h2 hk
        have hlh : (loOf l).toNat ≤ (hiOf xs.length m).toNat := by omega
        obtain ⟨g1, g2, g3⟩ := hr.part hlh (by omega)
        subst g2
        have hsz : e.size = (Γ.ty t).elem.size := by rw [← T.view_size, hev, T.view_size]
        refine ⟨_, ?_, out_sound hk hf hc hb ⟨hp, _, g3, rfl⟩ hn⟩
        have hv' : act.eval x = .slice A xs.length c := hv
        rw [hv', sliceAt_run (w := w) ok hls hsz (bnd_lo hl h0) (bnd_hi (len := xs.length) hm (by omega)) hlh g1]
        rfl
    | _ => exact hk.elim
  | ref r ver p τ d =>
    cases τ with
    | lst o e =>
      cases o with
      | false => exact hk.elim
      | true =>
        obtain ⟨tr, dr, bx, hroot, hk⟩ := rootOf_sound hk
        simp only [A.wp] at hk
        obtain ⟨⟨hlv, hat, hok, hls, hev, h0, h1, h2⟩, hk⟩ := hk
        have hsz : e.size = (Γ.ty t).elem.size := by rw [← T.view_size, hev, T.view_size]
        have hlh : (loOf l).toNat ≤ (hiOf (dr.get p).l.length m).toNat := by omega
        rcases hc.refl_list hroot hat hok hlv ho with ⟨hv, hnil, hk0⟩ | ⟨b, off, c, arr, ty, fz, ks, hv, hkl, hlen, hh, hfr, hsize, hel⟩
        · have hz : (hiOf (dr.get p).l.length m).toNat = 0 := by rw [hnil] at h2 ⊢; simp at h2 ⊢; omega
          have hz1 : (loOf l).toNat = 0 := by omega
          refine ⟨sliced none (loOf l).toNat (hiOf (dr.get p).l.length m).toNat 0 e.size, ?_, out_sound hk hf hc hb ?_ hn⟩
          · rw [hv]
            have hlz : (dr.get p).l.length = 0 := by rw [hnil]; rfl
            exact sliceAt_run ok hls hsz (bnd_lo hl h0) (by rw [hlz]; exact bnd_hi (len := 0) hm (by rw [hlz] at h1; omega)) hlh (by omega)
          · refine ⟨Ver.le_refl _, fun tr' dr' bx' hr' _ hat' hok' => ?_⟩
            rw [hroot] at hr'; cases hr'
            left
            exact ⟨hk0, hz1, by omega, by rw [hz, hz1]; rfl⟩
        · have hlc := hlen.1
          refine ⟨sliced (some ⟨b, off, none⟩) (loOf l).toNat (hiOf (dr.get p).l.length m).toNat c e.size, ?_, out_sound hk hf hc hb ?_ hn⟩
          · rw [hv]
            exact sliceAt_run ok hls hsz (bnd_lo hl h0) (bnd_hi (len := (dr.get p).l.length) hm (by omega)) hlh (by omega)
          · refine ⟨Ver.le_refl _, fun tr' dr' bx' hr' _ hat' hok' => ?_⟩
            rw [hroot] at hr'; cases hr'
            right
            refine ⟨b, off, c, (dr.get p).l.length, ks, hkl, by omega, ?_⟩
            by_cases hcl : c = (loOf l).toNat
            · right
              refine ⟨hcl.symm, by omega, ?_⟩
              unfold sliced
              rw [if_pos hcl, ← hcl]
              congr 1 <;> omega
            · left
              unfold sliced
              rw [if_neg hcl, Option.map_some]
              congr 2
              unfold Addr.add
              split
              · rename_i h0; rw [h0, Nat.add_zero]
              · rfl
    | _ => exact hk.elim
  | _ => exact hk.elim

theorem run_min2 (k : IntKind) (a b : Int) : (Builtin.min2 (.int k a) (.int k b)).run P w = .ok (.int k (lesser a b)) w := rfl
theorem run_max2 (k : IntKind) (a b : Int) : (Builtin.max2 (.int k a) (.int k b)).run P w = .ok (.int k (greater a b)) w := rfl
theorem lesser_range {k : IntKind} {a b : Int} (ha : k.min ≤ a ∧ a ≤ k.max) (hb : k.min ≤ b ∧ b ≤ k.max) : k.min ≤ lesser a b ∧ lesser a b ≤ k.max := by unfold lesser; split <;> assumption
theorem greater_range {k : IntKind} {a b : Int} (ha : k.min ≤ a ∧ a ≤ k.max) (hb : k.min ≤ b ∧ b ≤ k.max) : k.min ≤ greater a b ∧ greater a b ≤ k.max := by unfold greater; split <;> assumption

def minMaxRun (mx : Bool) (vs : List Value) : Sem Value := if mx then Builtin.max_ #[] 0 vs.toArray else Builtin.min_ #[] 0 vs.toArray

theorem minMax_sound {mx : Bool} {dst : Option Nat} {xs : List Operand} (h : (opMinMax Γ mx dst xs).wp X S Kt) (hi : Inv Γ E S act w) (hn : Next' Γ E S Kt next) :
    ∃ v, (minMaxRun mx (xs.map act.eval)).run P w = .ok v w ∧ next (act.put dst v) w := by
  obtain ⟨hf, κ, V, hc, hb⟩ := hi
  unfold opMinMax at h
  split at h
  · rename_i x y
    obtain ⟨a, hk, ho⟩ := opd_sound h hc
    obtain ⟨b, hk, ho2⟩ := opd_sound hk hc
    cases a with
    | val t m =>
      cases b with
      | val t2 n =>
        cases t <;> cases t2 <;> (try exact hk.elim)
        simp only [A.wp] at hk
        obtain ⟨rfl, hk⟩ := hk
        obtain ⟨hv, hr⟩ := of_int ho
        obtain ⟨hv2, hr2⟩ := of_int ho2
        cases mx with
        | true =>
          refine ⟨_, ?_, out_sound hk hf hc hb (ov_int _ _ (greater_range hr hr2)) hn⟩
          simp [minMaxRun, Builtin.max_, hv, hv2, run_max2]
        | false =>
          refine ⟨_, ?_, out_sound hk hf hc hb (ov_int _ _ (lesser_range hr hr2)) hn⟩
          simp [minMaxRun, Builtin.min_, hv, hv2, run_min2]
      | _ => cases t <;> exact hk.elim
    | _ => exact hk.elim
  · rename_i x y z
    obtain ⟨a, hk1, ho⟩ := opd_sound h hc
    obtain ⟨b, hk2, ho2⟩ := opd_sound hk1 hc
    obtain ⟨c, hk, ho3⟩ := opd_sound hk2 hc
    clear hk1 hk2
    cases a with
    | val t m =>
      cases b with
      | val t2 n =>
        cases c with
        | val t3 q =>
          cases t <;> cases t2 <;> (try exact hk.elim) <;> cases t3 <;> (try exact hk.elim)
          simp only [A.wp] at hk
          obtain ⟨⟨rfl, rfl⟩, hk⟩ := hk
          obtain ⟨hv, hr⟩ := of_int ho
          obtain ⟨hv2, hr2⟩ := of_int ho2
          obtain ⟨hv3, hr3⟩ := of_int ho3
          cases mx with
          | true =>
            refine ⟨_, ?_, out_sound hk hf hc hb (ov_int _ _ (greater_range (greater_range hr hr2) hr3)) hn⟩
            simp [minMaxRun, Builtin.max_, hv, hv2, hv3, run_max2]
          | false =>
            refine ⟨_, ?_, out_sound hk hf hc hb (ov_int _ _ (lesser_range (lesser_range hr hr2) hr3)) hn⟩
            simp [minMaxRun, Builtin.min_, hv, hv2, hv3, run_min2]
        | _ => cases t <;> cases t2 <;> exact hk.elim
      | _ => cases t <;> exact hk.elim
    | _ => exact hk.elim
  · exact h.elim
end
end Go.Own
