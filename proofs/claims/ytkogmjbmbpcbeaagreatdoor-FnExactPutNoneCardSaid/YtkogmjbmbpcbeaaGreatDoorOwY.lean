/- A layer over the walk: what lies in memory as plain data, each operation by what it does to data; part 15. -/
import Derived.Test.YtkogmjbmbpcbeaaGreatDoorOwW
set_option linter.unusedSectionVars false
set_option linter.unusedVariables false
set_option linter.unusedSimpArgs false
namespace Go.Own
variable [Glb]
open Go
variable {P : Program} {Γ : Env} {E : Entry} {S : St} {act : Act} {w : World} {Kt : Wr → Prop} {next : Act → World → Prop}
def VX (P : Program) : Ctr := fun g as Post => z4C P g ∧ z87 P g as Post
theorem ResV.cv {h : Heap} {V : Nat → Prop} {S : St} {κ : Nat → K} {s : Nat} {kr : K} {v : Value} {res : Res} (hr : ResV h V kr v res) : CV h V S (updK κ s kr) s v res.av := by
 cases res with
 | one t d => obtain ⟨cs, hr, e⟩ := hr; exact ⟨cs, by simpa using hr, e⟩
 | many t d => obtain ⟨cs, hr, e⟩ := hr; exact ⟨cs, by simpa using hr, e⟩
theorem Rep.lt_size {h : Heap} {V : Nat → Prop} {κ v} {res : Res} (hr : ResV h V κ v res) : ∀ b, b ∈ κ.blocks → b < h.size := by
 cases res with
 | one t d => obtain ⟨cs, hr, e⟩ := hr; exact hr.blocks_lt
 | many t d => obtain ⟨cs, hr, e⟩ := hr; exact hr.blocks_lt
theorem zKj {V : Nat → Prop} : ∀ (p : Path) {h : Heap} {t d κ cs} {A : Pt}, Rep h V t d κ cs → Ok t d p → (A.isSome = true ∨ depth p ≠ 0) → (loc t κ A p).isSome = true := by
 intro p
 induction p with
 | nil => intro h t d κ cs A hr _ hd; simp at hd; simpa [loc] using hd
 | cons s p ih =>
   intro h t d κ cs A hr hok hd
   cases s with
   | f j =>
     simp at hok
     obtain ⟨c1, cj, c2, _, _, hj, _⟩ := Rep.fld j hr hok.1
     simp only [loc]
     exact ih hj hok.2 (by simp at hd; rcases hd with h | h; exact .inl (by cases A <;> simp_all); exact .inr h)
   | i n =>
     simp at hok
     cases t <;> simp at hok
     obtain ⟨rfl, hn, hok⟩ := hok
     obtain ⟨xs, rfl, ⟨rfl, _, _⟩ | ⟨b, off, c, arr, ty, fz, ks, rfl, hc, hh, hs, he, ho⟩⟩ := hr
     ·simp at hn
     ·simp at ho hn hok
      obtain ⟨_, rfl⟩ := ho
      have hx : xs[n]? = some (xs[n]?.getD D.unit) := by rw [List.getElem?_eq_getElem hn]; rfl
      simp only [loc]
      exact ih (he n _ hx) hok (.inl rfl)
theorem zF2 {s : Nat} {g : FuncId} {as : List Arg} {br : List Nat} {io : Option (Nat × Io)} {κs : Nat → K} {vs : List Value} {κ V} (hsn : s < Γ.n) (hfx : s ∉ Γ.fx) (hk : (callA s g (S s).v as br io).wp (VX P) S Kt) (hargs : ArgsOk w.heap V S κ as br io κs vs)
 (hf : Fr Γ E act w) (hc : Conc w.heap (tmOf act) V S κ) (hb : Bnd E V κ) (hn : z2V Γ E S Kt next) :
 z4C P g ∧ Calls P g vs.toArray w fun e w' => ∃ v, e = .returned v ∧ next (act.put (some s) v) w' := by
 have hlentlt : ∀ b, lent V κ br b → b < w.heap.size := by
  rintro b (hv | ⟨r, _, hr⟩)
  ·exact hc.lt b hv
  ·exact hc.bl r b hr
 -- an argument that is read owns nothing
 have hvwb : ∀ i, i < as.length → (∀ x, io = some x → x.1 ≠ i) → (κs i).blocks = [] := by
  intro i hi hne
  have hlen := hargs.len
  obtain ⟨_, h2, _⟩ := hargs.vw i as[i] (vs[i]'(by rw [hlen]; exact hi)) (List.getElem?_eq_getElem hi) (List.getElem?_eq_getElem _) hne
  rw [h2]; simp
 have hnvf : ∀ {res : Res} {V'}, ((!br.isEmpty) = true → res.noview = true) → (∀ b, lent V κ br b → V' b) → ∀ {h' kr v}, ResV h' V' kr v res → ResV h' (if br = [] then V' else V) kr v res := by
  intro res V' hnv _ h' kr v hr
  by_cases hbr : br = []
  ·rwa [if_pos hbr]
  ·rw [if_neg hbr]; exact hr.noview (hnv (by cases br <;> simp_all))
 cases io with
 | none =>
   simp only [callA, A.wp] at hk
   obtain ⟨Post, ⟨hcall, hval⟩, _, hpost⟩ := hk
   refine ⟨hcall, ?_⟩
   have hkb : ∀ i, i < as.length → (κs i).blocks = [] := fun i hi => hvwb i hi (by simp)
   have hpre : Pre w.heap (lent V κ br) as κs vs :=
    ⟨hargs.len, fun i a v ha hv => (hargs.vw i a v ha hv (by simp)).2.2, fun i hi => by simp [hkb i hi], fun i j hi hj _ b hm => by simp [hkb i hi] at hm, fun i hi b hm => by simp [hkb i hi] at hm, hlentlt⟩
   refine (hval w _ κs _ hpre (hf.glob fun b h => .inl (hb.v0 b h))).mono ?_
   rintro e w' ⟨res, outs, κr, κo, V', v, hp, rfl, hpo⟩
   refine ⟨v, rfl, ?_⟩
   obtain ⟨hnv, _, hK⟩ := hpost res outs hp
   have hfr : ∀ b, b < w.heap.size → w'.heap[b]? = w.heap[b]? := fun b hb' => hpo.frame b hb' (fun i hi hm => by simp [hkb i hi] at hm)
   have hnew : ∀ b, b ∈ κr.blocks → w.heap.size ≤ b := fun b hm => (hpo.src b hm).resolve_left (fun ⟨i, hi, h⟩ => by simp [hkb i hi] at h)
   have hV' : ∀ b, (if br = [] then V' else V) b → V b ∨ w.heap.size ≤ b := by
    intro b hm
    by_cases hbr : br = []
    ·rw [if_pos hbr] at hm
     rcases hpo.v1 b hm with h | ⟨i, hi, h⟩ | h
     ·rcases h with h | ⟨r, hr, _⟩
      ·exact .inl h
      ·rw [hbr] at hr; simp at hr
     ·simp [hkb i hi] at h
     ·exact .inr h
    ·rw [if_neg hbr] at hm; exact .inl hm
   have hVs : ∀ b, V b → (if br = [] then V' else V) b := by
    intro b hm
    by_cases hbr : br = []
    ·rw [if_pos hbr]; exact hpo.v0 b (.inl hm)
    ·rw [if_neg hbr]; exact hm
   have hc' : Conc w'.heap (tmOf act) (if br = [] then V' else V) S κ := hc.frame (fun s' b hm => hfr b (hc.bl s' b hm)) (fun b hm => hfr b (hc.lt b hm)) hVs
    (fun s' b hm hv => (hV' b hv).elim (hc.dv s' b hm) (fun h => by have := hc.bl s' b hm; omega))
    (fun b hm => (hV' b hm).elim (fun h => Nat.lt_of_lt_of_le (hc.lt b h) hpo.size) (fun _ => by
      by_cases hbr : br = []
      ·rw [if_pos hbr] at hm; exact hpo.lt b hm
      ·rw [if_neg hbr] at hm; exact Nat.lt_of_lt_of_le (hc.lt b hm) hpo.size)) hpo.size
   have hf' : Fr Γ E act w' := ⟨⟨hpo.same.os.trans hf.same.os, hpo.same.tape.trans hf.same.tape, hpo.same.output.trans hf.same.output⟩, fun b h1 h2 => by rw [hfr b (Nat.lt_of_lt_of_le h1 hf.size)]; exact hf.frame b h1 h2,
    Nat.le_trans hf.size hpo.size, hf.n, hf.fx, hf.df⟩
   have hb' : Bnd E (if br = [] then V' else V) κ := ⟨fun b h => hVs b (hb.v0 b h), fun b hm => (hV' b hm).elim (hb.v1 b) (fun h => .inr (.inr (Nat.le_trans hf.size h))), hb.k⟩
   refine hn _ _ _ hK ?_
   refine Inv.set hf' hc' hb' hsn hfx (hnvf hnv hpo.v0 hpo.res).cv hpo.nd (fun s' _ b hm hm' => by have := hc.bl s' b hm'; have := hnew b hm; omega) ?_ (Rep.lt_size hpo.res) (fun b hm => .inr (Nat.le_trans hf.size (hnew b hm)))
   intro b hm hv
   rcases hV' b hv with h | h
   ·have := hc.lt b h; have := hnew b hm; omega
   ·by_cases hbr : br = []
    ·rw [if_pos hbr] at hv; exact hpo.dv b hm hv
    ·rw [if_neg hbr] at hv; have := hc.lt b hv; omega
 | some x =>
   obtain ⟨j, i⟩ := x
   simp only [callA, A.wp] at hk
   obtain ⟨⟨hrb, hrs, hnvio⟩, Post, ⟨hcall, hval⟩, _, hpost⟩ := hk
   refine ⟨hcall, ?_⟩
   obtain ⟨hj, a, v0, haj, hvj, hio⟩ := hargs.io j i rfl
   obtain ⟨bx, hroot, hcase⟩ := hio.cs
   obtain ⟨cr, hrepr, hmr, hndr, habr, hbinr, hcr⟩ := hc.root hroot
   have hkb : ∀ q, q < as.length → q ≠ j → (κs q).blocks = [] := fun q hq hne => hvwb q hq (by rintro x hx; cases hx; exact fun e => hne e.symm)
   have hkj : ∀ b, b ∈ (κs j).blocks → b ∈ (κ i.r).blocks := by
    rcases hcase with ⟨_, _, hok, hki, _⟩ | ⟨_, _, _, _, hki⟩
    ·rw [hki]
     obtain ⟨_, _, _, hIn0, _⟩ := Rep.place i.p hrepr hmr hok hndr (fun b o he => (habr b o he).1)
     exact fun b hm => hbinr b (hIn0 b hm)
    ·rw [hki]; exact fun b hm => hm
   have hkjn : (κs j).blocks.Nodup := by
    rcases hcase with ⟨_, _, hok, hki, _⟩ | ⟨_, _, _, _, hki⟩
    ·rw [hki]
     obtain ⟨_, _, _, _, hNd0, _⟩ := Rep.place i.p hrepr hmr hok hndr (fun b o he => (habr b o he).1)
     exact hNd0
    ·rw [hki]; exact hc.nd i.r
   have htouch : ∀ b, (∃ q, q < as.length ∧ b ∈ (κs q).blocks) → b ∈ (κs j).blocks := by
    rintro b ⟨q, hq, hm⟩
    by_cases hqj : q = j
    ·rwa [hqj] at hm
    ·simp [hkb q hq hqj] at hm
   have hkjV : ∀ b, b ∈ (κs j).blocks → ¬ lent V κ br b := by
    rintro b hm (hv | ⟨r, hr, hm'⟩)
    ·exact hc.dv i.r b (hkj b hm) hv
    ·have : r ≠ i.r := by rintro rfl; exact hrb hr
     exact hc.dj r i.r this b hm' (hkj b hm)
   have hpre : Pre w.heap (lent V κ br) as κs vs := by
    refine ⟨hargs.len, ?_, ?_, ?_, ?_, hlentlt⟩
    ·intro q a' v' ha' hv'
     by_cases hqj : q = j
     ·subst hqj
      rw [haj] at ha'; cases ha'
      rw [hvj] at hv'; cases hv'
      have hav := hio.av
      unfold ArgV at hav ⊢
      rcases hcase with ⟨hm, _⟩ | ⟨hm, _⟩
      ·rw [hm] at hav ⊢
       obtain ⟨cs, hr, e⟩ := hav
       exact ⟨cs, hr.frame (fun _ _ => rfl) (fun _ _ => rfl) (fun b h => .inl h), e⟩
      ·rw [hm] at hav ⊢
       obtain ⟨b, κ0, arr, ty, h1, h2, h3, hr⟩ := hav
       exact ⟨b, κ0, arr, ty, h1, h2, h3, hr.frame (fun _ _ => rfl) (fun _ _ => rfl) (fun b h => .inl h)⟩
     ·exact (hargs.vw q a' v' ha' hv' (by rintro x hx; cases hx; exact fun e => hqj e.symm)).2.2
    ·intro q hq
     by_cases hqj : q = j
     ·rw [hqj]; exact hkjn
     ·simp [hkb q hq hqj]
    ·intro q q' hq hq' hne b hm
     by_cases hqj : q = j
     ·have : q' ≠ j := by omega
      simp [hkb q' hq' this]
     ·simp [hkb q hq hqj] at hm
    ·intro q hq b hm
     by_cases hqj : q = j
     ·rw [hqj] at hm; exact hkjV b hm
     ·simp [hkb q hq hqj] at hm
   refine (hval w _ κs _ hpre (hf.glob fun b h => .inl (hb.v0 b h))).mono ?_
   rintro e w' ⟨res, outs, κr, κo, V', v, hp, rfl, hpo⟩
   refine ⟨v, rfl, ?_⟩
   obtain ⟨hnv, _, hK⟩ := hpost res outs hp
   have hfr : ∀ b, b < w.heap.size → b ∉ (κs j).blocks → w'.heap[b]? = w.heap[b]? := fun b hb' hnm => hpo.frame b hb' (fun q hq hm => hnm (htouch b ⟨q, hq, hm⟩))
   have hVn1 : ∀ b, (if br = [] then V' else V) b → V b ∨ b ∈ (κs j).blocks ∨ w.heap.size ≤ b := by
    intro b hm
    by_cases hbr : br = []
    ·rw [if_pos hbr] at hm
     rcases hpo.v1 b hm with h | h | h
     ·rcases h with h | ⟨r, hr, _⟩
      ·exact .inl h
      ·rw [hbr] at hr; simp at hr
     ·exact .inr (.inl (htouch b h))
     ·exact .inr (.inr h)
    ·rw [if_neg hbr] at hm; exact .inl hm
   have hVs : ∀ b, V b → (if br = [] then V' else V) b := by
    intro b hm
    by_cases hbr : br = []
    ·rw [if_pos hbr]; exact hpo.v0 b (.inl hm)
    ·rw [if_neg hbr]; exact hm
   have hVlt : ∀ b, (if br = [] then V' else V) b → b < w'.heap.size := by
    intro b hm
    by_cases hbr : br = []
    ·rw [if_pos hbr] at hm; exact hpo.lt b hm
    ·rw [if_neg hbr] at hm; exact Nat.lt_of_lt_of_le (hc.lt b hm) hpo.size
   have hVk : ∀ s' b, s' ≠ i.r → b ∈ (κ s').blocks → ¬ (if br = [] then V' else V) b := by
    intro s' b hs' hm hv
    rcases hVn1 b hv with h | h | h
    ·exact hc.dv s' b hm h
    ·exact hc.dj s' i.r hs' b hm (hkj b h)
    ·have := hc.bl s' b hm; omega
   -- what is given back
   have hout := hpo.out j a v0 haj hvj (by rcases hcase with ⟨h, _⟩ | ⟨h, _⟩ <;> simp [h])
   have hosrc : ∀ b, b ∈ (κo j).blocks → b ∈ (κs j).blocks ∨ w.heap.size ≤ b := fun b hm => (hpo.osrc j hj b hm).imp (htouch b) id
   have hodv : ∀ b, b ∈ (κo j).blocks → ¬ (if br = [] then V' else V) b := by
    intro b hm hv
    by_cases hbr : br = []
    ·rw [if_pos hbr] at hv; exact hpo.odv j hj b hm hv
    ·rw [if_neg hbr] at hv; exact hpo.odv j hj b hm (hpo.v0 b (.inl hv))
   have hgetj : as.getD j default = a := by rw [List.getD_eq_getElem?_getD, haj]; rfl
   have hconv : ∀ {t d k cs}, a.t = t → Rep w'.heap V' t d k cs → Rep w'.heap (if br = [] then V' else V) t d k cs := by
    intro t d k cs ht hr
    by_cases hbr : br = []
    ·rwa [if_pos hbr]
    ·rw [if_neg hbr]
     refine hr.noview ?_
     rw [← ht, ← hgetj]; exact hnvio.resolve_left hbr
   have hf' : Fr Γ E act w' := ⟨⟨hpo.same.os.trans hf.same.os, hpo.same.tape.trans hf.same.tape, hpo.same.output.trans hf.same.output⟩, fun b h1 h2 => by
    rw [hfr b (Nat.lt_of_lt_of_le h1 hf.size) (fun hm => (hb.k i.r b (hkj b hm)).elim h2 (fun h => by omega))]; exact hf.frame b h1 h2,
    Nat.le_trans hf.size hpo.size, hf.n, hf.fx, hf.df⟩
   -- the root turned, then the result
   have fin : ∀ {c' : Cl} {κ1 : Nat → K}, Conc w'.heap (tmOf act) (if br = [] then V' else V) (S.put i.r c') κ1 → (∀ b, b ∈ (κ1 i.r).blocks → b ∈ (κ i.r).blocks ∨ (b ∈ (κo j).blocks ∧ (w.heap.size ≤ b))) → (∀ s', s' ≠ i.r → κ1 s' = κ s') →
    (∀ b, b ∈ κr.blocks → b ∉ (κ1 i.r).blocks) → Kt [(i.r, c'), (s, ⟨res.av, (S s).v.kill⟩)] → next (act.put (some s) v) w' := by
    intro c' κ1 hc1 hm1 ho1 hdr hK
    have hb' : Bnd E (if br = [] then V' else V) κ1 := ⟨fun b h => hVs b (hb.v0 b h), fun b hm => (hVn1 b hm).elim (hb.v1 b) (fun h => h.elim (fun h => .inr (hb.k i.r b (hkj b h))) (fun h => .inr (.inr (Nat.le_trans hf.size h)))), fun s' b hm => by
     by_cases hs' : s' = i.r
     ·subst hs'
      rcases hm1 b hm with h | h
      ·exact hb.k _ b h
      ·exact .inr (Nat.le_trans hf.size h.2)
     ·rw [ho1 s' hs'] at hm; exact hb.k s' b hm⟩
    refine hn _ _ _ hK ?_
    have hSs : (S.put i.r c') s = S s := St.put_other _ _ (Ne.symm hrs)
    have := Inv.set (d := s) (a := res.av) (k := κr) (v := v) hf' hc1 hb' hsn hfx (hnvf hnv hpo.v0 hpo.res).cv hpo.nd
     (by
       intro s' _ b hm hm'
       by_cases hs' : s' = i.r
       ·subst hs'; exact hdr b hm hm'
       ·rw [ho1 s' hs'] at hm'
        rcases hpo.src b hm with h | h
        ·exact hc.dj s' i.r hs' b hm' (hkj b (htouch b h))
        ·have := hc.bl s' b hm'; omega)
     (by
       intro b hm hv
       by_cases hbr : br = []
       ·rw [if_pos hbr] at hv; exact hpo.dv b hm hv
       ·rw [if_neg hbr] at hv
        exact hpo.dv b hm (hpo.v0 b (.inl hv)))
     (Rep.lt_size hpo.res) (fun b hm => (hpo.src b hm).elim (fun h => hb.k i.r b (hkj b (htouch b h))) (fun h => .inr (Nat.le_trans hf.size h)))
    rw [hSs] at this
    exact this
   have hosl : ∀ b, b ∈ (κo j).blocks → b ∈ (κ i.r).blocks ∨ w.heap.size ≤ b := fun b hm => (hosrc b hm).imp (hkj b) id
   have hVold : ∀ b, V b → w'.heap[b]? = w.heap[b]? := fun b hv => hfr b (hc.lt b hv) (fun hm => hc.dv i.r b (hkj b hm) hv)
   have hslots : ∀ s', s' ≠ i.r → ∀ b, b ∈ (κ s').blocks → w'.heap[b]? = w.heap[b]? := fun s' hs' b hm => hfr b (hc.bl s' b hm) (fun hm' => hc.dj s' i.r hs' b hm (hkj b hm'))
   have hic := hio.c
   rw [hgetj] at hK
   rcases hcase with ⟨hm, hat, hok, hki, cs, href, hv0⟩ | ⟨hm, hp0, hat, rfl, hki⟩
   ·-- by value
    rw [if_neg (by rw [hm]; decide), hic] at hK
    unfold ArgV at hout
    simp only [hm] at hout
    obtain ⟨cs', hro, hv1⟩ := hout
    have hcs : cs = cs' := zGJ href.length hro.length (hv0.symm.trans hv1)
    subst hcs
    have hav := hio.av
    unfold ArgV at hav
    rw [hm] at hav
    obtain ⟨cs2, hra, hv2⟩ := hav
    have hcs2 : cs = cs2 := zGJ href.length hra.length (hv0.symm.trans hv2)
    subst hcs2
    have hsim := Rep.sim hra hro
    have hro' := hconv rfl hro
    rw [hki] at hsim
    have hfrb : ∀ b, b ∈ (base bx (κ i.r)).blocks → b ∉ ((base bx (κ i.r)).get i.p).blocks → w'.heap[b]? = w.heap[b]? := fun b h1 h2 => hfr b (hc.bl i.r b (hbinr b h1)) (by rw [hki]; exact h2)
    have key : ∃ cs0, Rep w.heap V (i.t.at i.p) (i.d.get i.p) ((base bx (κ i.r)).get i.p) cs0 ∧ (∀ b, b ∈ ((base bx (κ i.r)).get i.p).blocks → b ∈ (base bx (κ i.r)).blocks) ∧
     ∀ {d' κ'}, Rep w'.heap (if br = [] then V' else V) (i.t.at i.p) d' κ' cs0 → (∀ b, b ∈ κ'.blocks → b ∉ (base bx (κ i.r)).blocks ∨ b ∈ ((base bx (κ i.r)).get i.p).blocks) → κ'.blocks.Nodup →
      Rep w'.heap (if br = [] then V' else V) i.t (i.d.set i.p d') ((base bx (κ i.r)).set i.p κ') cr ∧ ((base bx (κ i.r)).set i.p κ').blocks.Nodup ∧
       ∀ b, b ∈ ((base bx (κ i.r)).set i.p κ').blocks → b ∈ κ'.blocks ∨ (b ∈ (base bx (κ i.r)).blocks ∧ b ∉ ((base bx (κ i.r)).get i.p).blocks) := by
     by_cases hd : depth i.p = 0
     ·have hfl := z7E i.p hd hok
      obtain ⟨c1, c0, c2, hcc, hl1, hrf, hinf, hndf, hre⟩ := Rep.flat i.p hrepr hfl
      refine ⟨c0, hrf, hinf, fun {d' κ'} hnew hsub hnd' => ?_⟩
      have := hre (h' := w'.heap) (V' := if br = [] then V' else V) (t' := i.t.at i.p) hnew hndr hfrb hVold hVs
      rw [T.set_at i.p i.t hd, ← hcc] at this
      exact ⟨this.1, this.2.1 hsub hnd', this.2.2⟩
     ·obtain ⟨cs0, hR0, hM0, hIn0, hNd0, hL0, hW0⟩ := Rep.place i.p hrepr hmr hok hndr (fun b o he => (habr b o he).1)
      refine ⟨cs0, hR0, hIn0, fun {d' κ'} hnew hsub hnd' => ?_⟩
      have hbox : ∀ b o, addr bx (κ i.r) = some (b, o) → w'.heap[b]? = w.heap[b]? := by
       intro b o he
       have := habr b o he
       exact hfr b (hc.bl i.r b this.2) (by rw [hki]; exact fun h => this.1 (hIn0 b h))
      obtain ⟨⟨b, o⟩, hloc⟩ := Option.isSome_iff_exists.1 (zKj i.p (A := addr bx (κ i.r)) hrepr hok (.inr hd))
      rw [hloc] at hM0
      have hbL := hL0 b o hloc
      have hbs : w'.heap[b]? = w.heap[b]? := by
       rcases hbL.2 with h | ⟨o', h⟩
       ·exact hfrb b h hbL.1
       ·exact hbox b o' h
      obtain ⟨cs3, h1, h2, h3, h4, h5⟩ := hW0 hloc hnew (zCp.same hM0 hbs) (fun b' hb1 hb2 _ => hfrb b' hb1 hb2) (fun b' o' he _ => hbox b' o' he) hVold hVs
      have hcs3 : cs3 = cr := by
       rcases hcr with ⟨_, _, _, hn⟩ | ⟨rfl, _, b', κ0', arr', ty', hk', _, hh', hcr⟩
       ·exact h3 hn
       ·have ha : addr true (κ i.r) = some (b', 0) := by simp [addr, hk']
        obtain ⟨arr1, ty1, fz1, e1, e2, e3⟩ := h2 b' 0 ha
        rw [hbox b' 0 ha, e1] at e3
        rw [hh'] at e1; cases e1
        have hl3 : cs3.length = arr'.toList.length := by rw [h1.length, ← hrepr.length, hcr]
        simp only [Option.some.injEq, Obj.cells.injEq] at e3
        have e4 := congrArg Array.toList e3.1
        have e5 : spl arr'.toList 0 cs3 = cs3 := by
         unfold spl
         rw [List.drop_eq_nil_of_le (by omega)]; simp
        rw [hcr]
        simp only [e5] at e4
        exact e4.symm
      subst hcs3
      exact ⟨h1, h4 hsub hnd', h5⟩
    obtain ⟨cs0, hR0, hIn0, hmk⟩ := key
    rw [← hat] at hR0
    have href0 : z1B w'.heap (if br = [] then V' else V) a.t (i.d.get i.p) (κo j) cs0 := (hR0.toRef.sim hsim.1).frame hVold hVs
    have hnew := z1B.mixR href0 hro'
    have hsim0 := Rep.sim hR0 hnew
    rw [hat] at hnew hsim0
    have hsub : ∀ b, b ∈ (κo j).blocks → b ∉ (base bx (κ i.r)).blocks ∨ b ∈ ((base bx (κ i.r)).get i.p).blocks := by
     intro b hm'
     rcases hosrc b hm' with h | h
     ·rw [hki] at h; exact .inr h
     ·exact .inl (fun h2 => by have := hc.bl i.r b (hbinr b h2); omega)
    obtain ⟨hrk, hndk, hmk⟩ := hmk hnew hsub (hpo.ond j hj)
    have hsk : SimK i.t (base bx (κ i.r)) ((base bx (κ i.r)).set i.p (κo j)) := SimK.set i.p hok (fun _ => hsim0.1)
    have hsd : SimD i.t i.d (i.d.set i.p (D.mixR (i.t.at i.p) (i.d.get i.p) (outs.getD j .unit))) := SimD.set i.p hok (fun _ => hsim0.2)
    have hbrb : bx = true → ∀ b κ0, κ i.r = .lst b 0 1 1 (fun _ => κ0) → b ∉ (κs j).blocks := by
     intro hbx b κ0 hk0
     have ha : addr bx (κ i.r) = some (b, 0) := by subst hbx; simp [addr, hk0]
     rw [hki]; exact fun h => (habr b 0 ha).1 (hIn0 b h)
    have hc3 := hc.reroot3 (V' := if br = [] then V' else V) hroot (t' := i.t) (d' := i.d.set i.p (D.mixR (i.t.at i.p) (i.d.get i.p) (outs.getD j .unit))) (v := (S i.r).v.cont) (k0 := (base bx (κ i.r)).set i.p (κo j)) (h' := w'.heap)
     (Keeps.cont (Cl.setRoot_root hroot).2 hroot (Cl.setRoot_root hroot).1 (by rw [zAy (fun h => hc.addr_box hroot h)]; exact hsk) hsd (z3m _ _ _))
     (by
       intro hbx cs'' hr'' htm
       rcases hcr with ⟨_, _, htm', _⟩ | ⟨hb2, _⟩
       ·exact ⟨cr, hrk, htm'⟩
       ·rw [hbx] at hb2; cases hb2)
     (by
       intro hbx b κ0 arr ty hk0 hh0
       rcases hcr with ⟨hb2, _⟩ | ⟨_, _, b', κ0', arr', ty', hk', _, hh', hcr⟩
       ·rw [hbx] at hb2; cases hb2
       ·rw [hk'] at hk0; simp only [K.lst.injEq] at hk0; obtain ⟨rfl, _⟩ := hk0
        rw [hh'] at hh0; cases hh0
        refine ⟨arr, ty, ?_, by rw [← hcr]; exact hrk⟩
        rw [hfr b' (hc.bl i.r b' (by rw [hk']; simp [K.blocks])) (hbrb hbx b' κ0' hk')]; exact hh')
     hndk
     (fun b hm' => (hmk b hm').elim (fun h => (hosrc b h).elim (fun h2 => by rw [hki] at h2; exact .inl (hIn0 b h2)) (fun h2 => .inr ⟨fun s' h3 => by have := hc.bl s' b h3; omega, by
       have := Rep.blocks_lt hro b h; exact this⟩)) (fun h => .inl h.1))
     (fun b hm' => (hmk b hm').elim (hodv b) (fun h hv => by
       rcases hVn1 b hv with h2 | h2 | h2
       ·exact hc.dv i.r b (hbinr b h.1) h2
       ·rw [hki] at h2; exact h.2 h2
       ·have := hc.bl i.r b (hbinr b h.1); omega))
     hslots hVold hpo.size hVs (fun s' hs' b hm' => hVk s' b hs' hm') hVlt
     (by
       intro hbx b κ0 hk0 hv
       have hbm : b ∈ (κ i.r).blocks := by rw [hk0]; simp [K.blocks]
       rcases hVn1 b hv with h2 | h2 | h2
       ·exact hc.dv i.r b hbm h2
       ·exact hbrb hbx b κ0 hk0 h2
       ·have := hc.bl i.r b hbm; omega)
    have hmem : ∀ b, b ∈ (z1C bx (κ i.r) ((base bx (κ i.r)).set i.p (κo j))).blocks → b ∈ ((base bx (κ i.r)).set i.p (κo j)).blocks ∨ (b ∈ (κ i.r).blocks ∧ b ∉ (κs j).blocks) := by
     intro b hm'
     cases bx with
     | false => exact .inl (by simpa [z1C] using hm')
     | true =>
       obtain ⟨b0, κ0, hk0⟩ := hc.addr_box hroot rfl
       simp only [z1C, hk0, if_true, K.blocks, List.mem_cons, List.mem_flatMap, List.mem_range] at hm'
       rcases hm' with rfl | ⟨_, _, hm'⟩
       ·exact .inr ⟨by rw [hk0]; simp [K.blocks], hbrb rfl b κ0 hk0⟩
       ·exact .inl (by rw [hk0]; exact hm')
    refine fin hc3 ?_ (fun s' hs' => z09 _ _ hs') ?_ hK
    ·intro b hm'
     rw [z0U] at hm'
     rcases hmem b hm' with h | h
     ·rcases hmk b h with h | h
      ·rcases hosrc b h with h2 | h2
       ·exact .inl (hkj b h2)
       ·exact .inr ⟨h, h2⟩
      ·exact .inl (hbinr b h.1)
     ·exact .inl h.1
    ·intro b hm' hm2
     rw [z0U] at hm2
     have hold : b ∈ (κ i.r).blocks → b ∉ (κs j).blocks → False := by
      intro h1 h2
      rcases hpo.src b hm' with h3 | h3
      ·exact h2 (htouch b h3)
      ·have := hc.bl i.r b h1; omega
     rcases hmem b hm2 with h | h
     ·rcases hmk b h with h | h
      ·exact hpo.odj j hj b h hm'
      ·exact hold (hbinr b h.1) (by rw [hki]; exact h.2)
     ·exact hold h.1 h.2
   ·-- by its address
    rw [if_pos hm, hic] at hK
    unfold ArgV at hout
    simp only [hm] at hout
    obtain ⟨b1, κ1, arr1, ty1, hko, hv1, hh1, hro⟩ := hout
    have hro' := hconv rfl hro
    rw [hat] at hro'
    have hav := hio.av
    unfold ArgV at hav
    rw [hm] at hav
    obtain ⟨b0, κ0, arr0, ty0, hk0, hv0, hh0, hr0⟩ := hav
    rw [hv0] at hv1
    simp only [Value.pointer.injEq, Option.some.injEq, Addr.mk.injEq, and_true] at hv1
    subst hv1
    rw [hki] at hk0
    have hb0 : b0 ∈ (κ i.r).blocks := by rw [hk0]; simp [K.blocks]
    have hond := hpo.ond j hj
    rw [hko] at hond
    have hond' := K.nodup_lst.1 hond
    have hk1 : ∀ b, b ∈ κ1.blocks → b ∈ (κo j).blocks := fun b h => by rw [hko]; exact K.mem_nth (n := 0) (ks := fun _ => κ1) (by omega) h
    have hb1 : b0 ∉ κ1.blocks := hond'.1 0 (by omega)
    have hc3 := hc.reroot3 (V' := if br = [] then V' else V) hroot (t' := i.t) (d' := outs.getD j .unit) (v := (S i.r).v.head) (k0 := κ1) (h' := w'.heap)
     (Keeps.head (Cl.setRoot_root hroot).2 hroot (Cl.setRoot_root hroot).1 rfl (z3m _ _ _))
     (by intro hbx; cases hbx)
     (by
       intro _ b κ0' arr ty hk0' hh0'
       rw [hk0] at hk0'; simp only [K.lst.injEq] at hk0'; obtain ⟨rfl, _⟩ := hk0'
       exact ⟨arr1, ty1, hh1, hro'⟩)
     (hond'.2.1 0 (by omega))
     (fun b hm' => (hosrc b (hk1 b hm')).elim (fun h => by
       rw [hki] at h
       rcases (show b = b0 ∨ b ∈ κ0.blocks by
        rw [hk0] at h
        simp only [K.blocks, List.mem_cons, List.mem_flatMap, List.mem_range] at h
        exact h.imp id (fun ⟨_, _, h⟩ => h)) with rfl | h
       ·exact absurd hm' hb1
       ·exact .inl (by simpa [base, hk0, K.nth] using h)) (fun h2 => .inr ⟨fun s' h3 => by have := hc.bl s' b h3; omega, Rep.blocks_lt hro b hm'⟩))
     (fun b hm' => hodv b (hk1 b hm'))
     hslots hVold hpo.size hVs (fun s' hs' b hm' => hVk s' b hs' hm') hVlt
     (by
       intro _ b κ0' hk0' hv
       rw [hk0] at hk0'; simp only [K.lst.injEq] at hk0'; obtain ⟨rfl, _⟩ := hk0'
       exact hodv b0 (by rw [hko]; simp [K.blocks]) hv)
    have hmem : ∀ b, b ∈ (z1C true (κ i.r) κ1).blocks → b ∈ (κo j).blocks := by
     intro b hm'
     simp only [z1C, hk0, if_true] at hm'
     rw [hko]; exact hm'
    refine fin hc3 ?_ (fun s' hs' => z09 _ _ hs') ?_ hK
    ·intro b hm'
     rw [z0U] at hm'
     exact (hosrc b (hmem b hm')).imp (hkj b) (fun h => ⟨hmem b hm', h⟩)
    ·intro b hm' hm2
     rw [z0U] at hm2
     exact hpo.odj j hj b (hmem b hm2) hm'
structure GArgs (w : World) (tm : Nat → Value) (V : Nat → Prop) (S : St) (κ0 : Nat → K) (as : List Arg) (br : List Nat) (ws : Wr) (κ : Nat → K) (κs : Nat → K) (vs : List Value) : Prop where
 conc : Conc w.heap tm V (S.apply ws) κ
 len : vs.length = as.length
 arg : ∀ (i : Nat) a v, as[i]? = some a → vs[i]? = some v → (a.m = .own ∧ ∃ cs, Rep w.heap V a.t a.d (κs i) cs ∧ v = z0Q a.t cs) ∨ (a.m = .vw ∧ (κs i).blocks = [] ∧ ArgV w.heap (lent V κ0 br) a (κs i) v)
 nd : ∀ i, i < as.length → (κs i).blocks.Nodup
 dd : ∀ i j, i < as.length → j < as.length → i ≠ j → ∀ b, b ∈ (κs i).blocks → b ∉ (κs j).blocks
 dj : ∀ i, i < as.length → ∀ s b, b ∈ (κs i).blocks → b ∉ (κ s).blocks
 dv : ∀ i, i < as.length → ∀ b, b ∈ (κs i).blocks → ¬ V b
 sub : ∀ s b, b ∈ (κ s).blocks → b ∈ (κ0 s).blocks
 src : ∀ i, i < as.length → ∀ b, b ∈ (κs i).blocks → ∃ s, b ∈ (κ0 s).blocks
 oth : ∀ s, s ∉ ws.map (·.1) → κ s = κ0 s
theorem GArgs.more {tm : Nat → Value} {V S κ0 as br ws κ κs vs} (h : GArgs w tm V S κ0 as br ws κ κs vs) {a : Arg} {v : Value} {k : K} {br' : List Nat} {ws' : Wr} {κ' : Nat → K} (hc : Conc w.heap tm V (S.apply (ws ++ ws')) κ')
 (ha : (a.m = .own ∧ ∃ cs, Rep w.heap V a.t a.d k cs ∧ v = z0Q a.t cs) ∨ (a.m = .vw ∧ k.blocks = [] ∧ ArgV w.heap (lent V κ0 (br ++ br')) a k v))
 (hnd : k.blocks.Nodup) (hdj : ∀ s b, b ∈ k.blocks → b ∉ (κ' s).blocks) (hdv : ∀ b, b ∈ k.blocks → ¬ V b) (hsub : ∀ s b, b ∈ (κ' s).blocks → b ∈ (κ s).blocks) (hsrc : ∀ b, b ∈ k.blocks → ∃ s, b ∈ (κ s).blocks)
 (hoth : ∀ s, s ∉ ws'.map (·.1) → κ' s = κ s) : GArgs w tm V S κ0 (as ++ [a]) (br ++ br') (ws ++ ws') κ' (fun i => if i = as.length then k else κs i) (vs ++ [v]) := by
 have hlt : ∀ {i}, i < (as ++ [a]).length → i ≠ as.length → i < as.length := by intro i h1 h2; simp at h1; omega
 have hkn : ∀ i, i < as.length → ∀ b, b ∈ k.blocks → b ∉ (κs i).blocks := by
  intro i hi b hb hb'
  obtain ⟨s, hs⟩ := hsrc b hb
  exact h.dj i hi s b hb' hs
 refine ⟨hc, by simp [h.len], ?_, ?_, ?_, ?_, ?_, fun s b hb => h.sub s b (hsub s b hb), ?_, ?_⟩
 ·intro i x u hx hu
  by_cases hi : i = as.length
  ·subst hi
   have hu' : (vs ++ [v])[vs.length]? = some u := by rw [h.len]; exact hu
   simp at hx hu'
   subst hx; subst hu'
   simpa using ha
  ·have hil : i < as.length := hlt (List.getElem?_eq_some_iff.1 hx).1 hi
   rw [List.getElem?_append_left hil] at hx
   rw [List.getElem?_append_left (by rw [h.len]; exact hil)] at hu
   rw [if_neg hi]
   rcases h.arg i x u hx hu with h1 | ⟨h1, h2, h3⟩
   ·exact .inl h1
   ·exact .inr ⟨h1, h2, h3.vw h1 zBh⟩
 ·intro i hi
  by_cases e : i = as.length
  ·simp [e]; exact hnd
  ·simp [e]; exact h.nd i (hlt hi e)
 ·intro i j hi hj hij b hb hb'
  by_cases e : i = as.length
  ·simp only [e, if_true] at hb
   have e' : j ≠ as.length := by omega
   simp only [if_neg e'] at hb'
   exact hkn j (hlt hj e') b hb hb'
  ·simp only [if_neg e] at hb
   by_cases e' : j = as.length
   ·simp only [e', if_true] at hb'
    exact hkn i (hlt hi e) b hb' hb
   ·simp only [if_neg e'] at hb'
    exact h.dd i j (hlt hi e) (hlt hj e') hij b hb hb'
 ·intro i hi s b hb
  by_cases e : i = as.length
  ·simp only [e, if_true] at hb; exact hdj s b hb
  ·simp only [if_neg e] at hb; exact fun hm => h.dj i (hlt hi e) s b hb (hsub s b hm)
 ·intro i hi b hb
  by_cases e : i = as.length
  ·simp only [e, if_true] at hb; exact hdv b hb
  ·simp only [if_neg e] at hb; exact h.dv i (hlt hi e) b hb
 ·intro i hi b hb
  by_cases e : i = as.length
  ·simp only [e, if_true] at hb
   obtain ⟨s, hs⟩ := hsrc b hb
   exact ⟨s, h.sub s b hs⟩
  ·simp only [if_neg e] at hb; exact h.src i (hlt hi e) b hb
 ·intro s hs
  simp at hs
  rw [hoth s (by simpa using hs.2), h.oth s (by simpa using hs.1)]
theorem z7c : ∀ (xs : List (Mode × TypeId × Operand)) {as br ws} {k : List Arg → List Nat → Wr → A} {κ0 κ V} {κs : Nat → K} {vs : List Value}, (evalG Γ xs as br ws k).wp (VX P) S Kt → Conc w.heap (tmOf act) V S κ0 →
 GArgs w (tmOf act) V S κ0 as br ws κ κs vs → ∃ as' br' ws' κ' κs', (k as' br' ws').wp (VX P) S Kt ∧ GArgs w (tmOf act) V S κ0 as' br' ws' κ' κs' (vs ++ xs.map fun x => act.eval x.2.2)
 | [], as, br, ws, k, κ0, κ, V, κs, vs, h, hc, hg => ⟨as, br, ws, κ, κs, h, by simpa using hg⟩
 | (m, ty, x) :: xs, as, br, ws, k, κ0, κ, V, κs, vs, h, hc, hg => by
   have other : ∀ {m : Mode}, (evalArg Γ m ty x fun a b i => match i with
    | none => evalG Γ xs (as ++ [a]) (br ++ b) ws k
    | some _ => .fail).wp (VX P) S Kt → ∃ as' br' ws' κ' κs', (k as' br' ws').wp (VX P) S Kt ∧ GArgs w (tmOf act) V S κ0 as' br' ws' κ' κs' (vs ++ ((m, ty, x) :: xs).map fun x => act.eval x.2.2) := by
    intro m h
    obtain ⟨a, b, i, hk, hvw, _⟩ := z8A h hc
    cases i with
    | some _ => exact hk.elim
    | none =>
      obtain ⟨hm, hav⟩ := hvw rfl
      have hm' := hg.more (a := a) (v := act.eval x) (k := a.t.k0) (br' := b) (ws' := []) (κ' := κ) (by simpa using hg.conc) (.inr ⟨hm, by simp, hav.vw hm zDb⟩) (by simp) (by simp) (by simp) (fun _ _ h => h) (by simp) (fun _ _ => rfl)
      rw [List.append_nil] at hm'
      obtain ⟨as', br', ws', κ', κs', h1, h2⟩ := z7c xs hk hc hm'
      exact ⟨as', br', ws', κ', κs', h1, by simpa using h2⟩
   cases m with
   | own =>
     simp only [evalG] at h
     obtain ⟨t, d, ws', κ', kx, hk, ht⟩ := z3o h hg.conc
     have hm' := hg.more (a := ⟨.own, t, d⟩) (v := act.eval x) (k := kx) (br' := []) (ws' := ws') (κ' := κ') (by rw [St.apply_append]; exact ht.conc) (.inl ⟨rfl, ht.rep⟩) ht.nd ht.dj ht.dv ht.sub ht.src ht.oth
     rw [List.append_nil] at hm'
     obtain ⟨as', br', ws'', κ'', κs', h1, h2⟩ := z7c xs hk hc hm'
     exact ⟨as', br', ws'', κ'', κs', h1, by simpa using h2⟩
   | vw => exact other (by simp only [evalG] at h; exact h)
   | io => exact other (by simp only [evalG] at h; exact h)
   | iop => exact other (by simp only [evalG] at h; exact h)
theorem zGS {dst : Option Nat} {g : FuncId} {xs : List (Mode × TypeId × Operand)} (h : (zC7 Γ dst g xs).wp (VX P) S Kt) (hi : Inv Γ E S act w) (hn : z2V Γ E S Kt next) :
 z4C P g ∧ Calls P g (xs.map fun x => act.eval x.2.2).toArray w fun e w' => ∃ v, e = .returned v ∧ next (act.put dst v) w' := by
 obtain ⟨hf, κ, V, hc, hb⟩ := hi
 cases dst with
 | none => exact h.elim
 | some s =>
 unfold zC7 at h
 simp only [A.wp] at h
 obtain ⟨⟨hsn, hfx⟩, h⟩ := h
 obtain ⟨as, br, ws, κ1, κs, hk, hg⟩ := z7c xs (as := []) (br := []) (ws := []) (κs := fun _ => .leaf) (κ := κ) (vs := []) h hc ⟨hc, rfl, by simp, by simp, by simp, by simp, by simp, fun _ _ h => h, by simp, fun _ _ => rfl⟩
 simp only [List.nil_append] at hg
 simp only [A.wp] at hk
 obtain ⟨⟨hsw, hbrw⟩, Post, ⟨hcall, hval⟩, _, hpost⟩ := hk
 refine ⟨hcall, ?_⟩
 have hSs : (S.apply ws) s = S s := St.apply_other _ S hsw
 have hlentlt : ∀ b, lent V κ br b → b < w.heap.size := by
  rintro b (hv | ⟨r, _, hr⟩)
  ·exact hc.lt b hv
  ·exact hc.bl r b hr
 let Tch : Nat → Prop := fun b => ∃ i, i < as.length ∧ b ∈ (κs i).blocks
 have tdj : ∀ s b, Tch b → b ∉ (κ1 s).blocks := fun s b ⟨i, hi, h⟩ => hg.dj i hi s b h
 have tdv : ∀ b, Tch b → ¬ V b := fun b ⟨i, hi, h⟩ => hg.dv i hi b h
 have tsrc : ∀ b, Tch b → ∃ s, b ∈ (κ s).blocks := fun b ⟨i, hi, h⟩ => hg.src i hi b h
 have hkxV : ∀ b, Tch b → ¬ lent V κ br b := by
  rintro b hm (hv | ⟨r, hr, hm'⟩)
  ·exact tdv b hm hv
  ·rw [← hg.oth r (hbrw r hr)] at hm'
   exact tdj r b hm hm'
 have hpre : Pre w.heap (lent V κ br) as κs (xs.map fun x => act.eval x.2.2) := by
  refine ⟨hg.len, ?_, hg.nd, hg.dd, fun i hi b hm => hkxV b ⟨i, hi, hm⟩, hlentlt⟩
  intro i a v ha hv
  rcases hg.arg i a v ha hv with ⟨h1, cs, hr, e⟩ | ⟨_, _, h3⟩
  ·unfold ArgV
   rw [h1]
   exact ⟨cs, hr.frame (fun _ _ => rfl) (fun _ _ => rfl) (fun b h => .inl h), e⟩
  ·exact h3
 refine (hval w _ κs _ hpre (hf.glob fun b h => .inl (hb.v0 b h))).mono ?_
 rintro e w' ⟨res, outs, κr, κo, V', v, hp, rfl, hpo⟩
 refine ⟨v, rfl, ?_⟩
 obtain ⟨hnv, _, hK⟩ := hpost res outs hp
 have hfr : ∀ b, b < w.heap.size → ¬ Tch b → w'.heap[b]? = w.heap[b]? := fun b hb' hnm => hpo.frame b hb' (fun q hq hm => hnm ⟨q, hq, hm⟩)
 have hnvf : ∀ {h' kr v}, ResV h' V' kr v res → ResV h' (if br = [] then V' else V) kr v res := by
  intro h' kr v hr
  by_cases hbr : br = []
  ·rwa [if_pos hbr]
  ·rw [if_neg hbr]; exact hr.noview (hnv (by cases br <;> simp_all))
 have hVn1 : ∀ b, (if br = [] then V' else V) b → V b ∨ Tch b ∨ w.heap.size ≤ b := by
  intro b hm
  by_cases hbr : br = []
  ·rw [if_pos hbr] at hm
   rcases hpo.v1 b hm with h | h | h
   ·rcases h with h | ⟨r, hr, _⟩
    ·exact .inl h
    ·rw [hbr] at hr; simp at hr
   ·exact .inr (.inl h)
   ·exact .inr (.inr h)
  ·rw [if_neg hbr] at hm; exact .inl hm
 have hVs : ∀ b, V b → (if br = [] then V' else V) b := by
  intro b hm
  by_cases hbr : br = []
  ·rw [if_pos hbr]; exact hpo.v0 b (.inl hm)
  ·rw [if_neg hbr]; exact hm
 have hVlt : ∀ b, (if br = [] then V' else V) b → b < w'.heap.size := by
  intro b hm
  by_cases hbr : br = []
  ·rw [if_pos hbr] at hm; exact hpo.lt b hm
  ·rw [if_neg hbr] at hm; exact Nat.lt_of_lt_of_le (hc.lt b hm) hpo.size
 have hc1 := hg.conc
 have hc' : Conc w'.heap (tmOf act) (if br = [] then V' else V) (S.apply ws) κ1 := hc1.frame (fun s' b hm => hfr b (hc1.bl s' b hm) (fun h => tdj s' b h hm)) (fun b hm => hfr b (hc.lt b hm) (fun h => tdv b h hm)) hVs
  (fun s' b hm hv => (hVn1 b hv).elim (hc1.dv s' b hm) (fun h => h.elim (fun h => tdj s' b h hm) (fun h => by have := hc1.bl s' b hm; omega))) hVlt hpo.size
 have hkE : ∀ b, Tch b → b ∈ E.t ∨ E.w.heap.size ≤ b := fun b hm => by
  obtain ⟨q, hq⟩ := tsrc b hm
  exact hb.k q b hq
 have hf' : Fr Γ E act w' := ⟨⟨hpo.same.os.trans hf.same.os, hpo.same.tape.trans hf.same.tape, hpo.same.output.trans hf.same.output⟩, fun b h1 h2 => by
  rw [hfr b (Nat.lt_of_lt_of_le h1 hf.size) (fun hm => (hkE b hm).elim h2 (fun h => by omega))]; exact hf.frame b h1 h2,
  Nat.le_trans hf.size hpo.size, hf.n, hf.fx, hf.df⟩
 have hb' : Bnd E (if br = [] then V' else V) κ1 := ⟨fun b h => hVs b (hb.v0 b h), fun b hm => (hVn1 b hm).elim (hb.v1 b) (fun h => h.elim (fun h => .inr (hkE b h)) (fun h => .inr (.inr (Nat.le_trans hf.size h)))), fun s' b hm => hb.k s' b (hg.sub s' b hm)⟩
 refine hn _ _ _ hK ?_
 rw [St.apply_append]
 have hrs : ∀ b, b ∈ κr.blocks → Tch b ∨ w.heap.size ≤ b := fun b hm => (hpo.src b hm).imp id id
 have := Inv.set (d := s) (a := res.av) (k := κr) (v := v) hf' hc' hb' hsn hfx (hnvf hpo.res).cv hpo.nd
  (fun s' _ b hm hm' => (hrs b hm).elim (fun h => tdj s' b h hm') (fun h => by have := hc1.bl s' b hm'; omega))
  (by
    intro b hm hv
    by_cases hbr : br = []
    ·rw [if_pos hbr] at hv; exact hpo.dv b hm hv
    ·rw [if_neg hbr] at hv; exact hpo.dv b hm (hpo.v0 b (.inl hv)))
  (Rep.lt_size hpo.res) (fun b hm => (hrs b hm).elim (hkE b) (fun h => .inr (Nat.le_trans hf.size h)))
 rw [hSs] at this
 exact this
theorem zI6 {dst : Option Nat} {g : FuncId} {xs : List (Mode × TypeId × Operand)} (h : (zFk Γ dst g xs).wp (VX P) S Kt) (hi : Inv Γ E S act w) (hn : z2V Γ E S Kt next) :
 z4C P g ∧ Calls P g (xs.map fun x => act.eval x.2.2).toArray w fun e w' => ∃ v, e = .returned v ∧ next (act.put dst v) w' := by
 unfold zFk at h
 split at h
 ·exact zGS h hi hn
 obtain ⟨hf, κ, V, hc, hb⟩ := hi
 cases dst with
 | none => exact h.elim
 | some s =>
   simp only [A.wp] at h
   obtain ⟨⟨hsn, hfx⟩, h⟩ := h
   obtain ⟨as, br, io, κs, hk, hargs⟩ := z4D xs (κs := fun _ => .leaf) (vs := []) h hc ⟨rfl, by simp, by simp⟩
   simp only [List.nil_append] at hargs
   exact zF2 hsn hfx hk hargs hf hc hb hn
theorem zF5 {h : Heap} {V : Nat → Prop} : ∀ (T' : T) {d : D} {kc : K} {us : List Value}, zF4 T' = true → T'.plain = true → Rep h V T' d kc us → us.length = (z6L T' d).length ∧ ∀ (i : Nat) a v, (z6L T' d)[i]? = some a → us[i]? = some v → a.m = .vw ∧ ArgV h V a a.t.k0 v
 | .pair t T', d, kc, us, ho, hp, hr => by
   simp only [zF4, Bool.and_eq_true, Bool.not_eq_true', T.plain] at ho hp
   obtain ⟨d1, d2, κ1, κ2, c1, c2, rfl, rfl, rfl, h1, h2⟩ := hr
   obtain ⟨g1, g2⟩ := zF5 T' ho.2 hp.2 h2
   have hs : t.size = 1 := by have := ho.1; cases t <;> simp at this ⊢
   have hl := h1.length
   rw [hs] at hl
   match c1, hl with
   | [q], _ =>
     refine ⟨by simp [g1], fun i a v ha hv => ?_⟩
     cases i with
     | zero =>
       simp at ha hv
       subst ha hv
       refine ⟨rfl, hp.1, [q], ?_, by simp [z0Q, ho.1]⟩
       rw [← h1.plain_leaf hp.1]; exact h1
     | succ i =>
       simp only [z6L, List.getElem?_cons_succ, D.snd_pair] at ha
       exact g2 i a v ha (by simpa using hv)
 | .unit, d, kc, us, _, _, hr => by
   obtain ⟨_, _, rfl⟩ := hr
   exact ⟨rfl, by simp⟩
 | .int _, _, _, _, ho, _, _ | .bool, _, _, _, ho, _, _ | .str, _, _, _, ho, _, _ | .lst _ _, _, _, _, ho, _, _ | .ptr _, _, _, _, ho, _, _ | .fn _ _, _, _, _, ho, _, _ | .err, _, _, _, ho, _, _ | .gone, _, _, _, ho, _, _ => by simp at ho
theorem zGT {dst : Option Nat} {q : Nat} {xs : List (TypeId × Operand)} (h : (zC8 Γ dst q xs).wp (VX P) S Kt) (hi : Inv Γ E S act w) (hn : z2V Γ E S Kt next) :
 ∃ f caps, act.eval (.tmp q) = .func (.func f) #[] caps ∧ z4C P f ∧ Calls P f ((xs.map fun x => act.eval x.2) ++ caps.toList).toArray w fun e w' => ∃ v, e = .returned v ∧ next (act.put dst v) w' := by
 obtain ⟨hf, κ, V, hc, hb⟩ := hi
 cases dst with
 | none => exact h.elim
 | some s =>
   unfold zC8 at h
   simp only [A.wp] at h
   obtain ⟨⟨hsn, hfx⟩, h⟩ := h
   obtain ⟨as, br, io, κs, hk, hargs⟩ := z4D _ (κs := fun _ => .leaf) (vs := []) h hc ⟨rfl, by simp, by simp⟩
   simp only [List.nil_append, List.map_map] at hargs
   cases io with
   | some _ => exact hk.elim
   | none =>
     simp only [A.wp] at hk
     have hcv := hc.cv q
     generalize hS : S q = c at hk hcv
     obtain ⟨av, ver⟩ := c
     cases av with
     | val ty d =>
       cases ty with
       | fn f T' =>
         simp only at hk
         obtain ⟨hco, hk⟩ := hk
         obtain ⟨cs, ⟨_, hp, caps, kc, rfl, hrc⟩, hv⟩ := hcv
         have hv' : act.eval (.tmp q) = .func (.func f) #[] caps := hv
         have hrc' : Rep w.heap (lent V κ br) T' d kc caps.toList := hrc.frame (fun _ _ => rfl) (fun _ _ => rfl) (fun b hb => .inl hb)
         obtain ⟨g1, g2⟩ := zF5 T' hco hp hrc'
         obtain ⟨κs', hargs'⟩ := hargs.more (z6L T' d) g1 g2
         obtain ⟨h1, h2⟩ := zF2 hsn hfx hk hargs' hf hc hb hn
         exact ⟨f, caps, hv', h1, h2⟩
       | _ => exact hk.elim
     | _ => exact hk.elim
end Go.Own
namespace Go.Own
variable [Glb]
noncomputable section
open Go
@[simp] def zip3 : List Mode → List TypeId → List Operand → List (Mode × TypeId × Operand)
 | m :: ms, t :: ts, x :: xs => (m, t, x) :: zip3 ms ts xs
 | _, _, _ => []
@[simp] def opA (Γ : Env) (o : Oper) : A :=
 match o.op with
 | .move x => z7X Γ o.dst x
 | .assign x => z8e Γ o.dst o.type x
 | .pick c a b => zHn Γ o.dst c a b
 | .alloc t => zEV Γ o.dst t
 | .box t x => zJk Γ o.dst t x
 | .build t ps => zC6 Γ o.dst t ps.toList
 | .buildSlice t n ps => z4O Γ o.dst t n ps.toList
 | .load t x => zCA Γ o.dst t x
 | .store t x y => match o.dst with
   | none => z8f Γ t x y
   | some _ => .fail
 | .nilCheck x => zKw Γ o.dst x
 | .binOp op t x y _ => if (Γ.ty t).agg then zKu Γ o.dst op t x y else zIb Γ o.dst op t x y
 | .unOp op _ x => opUn Γ o.dst op x
 | .convert s t x => if (Γ.ty t).lsts then zEW Γ o.dst s t x else zHm Γ o.dst s t x
 | .makeSlice t l c => z61 Γ o.dst t l c
 | .fieldAddr t x j => z2t Γ o.dst t x j
 | .field t x j => zEX Γ o.dst t x j
 | .indexAddr t x i => z60 Γ o.dst t x i
 | .index t x i => zEY Γ o.dst t x i
 | .slice t x lo hi mx => zCB Γ o.dst t x lo hi mx
 | .extract x j => z1q Γ o.dst x j
 | .makeFunc fn first caps => match fn with
   | .func f => .need (first.size = 0) (z9X Γ o.dst f caps.toList)
   | _ => .fail
 | .call c => match c.callee with
   | .builtin .len => match c.args.toList, c.argTypes.toList with
     | [x], t :: _ => zKv Γ o.dst t x
     | _, _ => .fail
   | .builtin .append => match c.args.toList, c.argTypes.toList with
     | [x, y], [t, u] => z8d Γ o.dst t u x y
     | _, _ => .fail
   | .builtin .min => z7F Γ false o.dst c.args.toList
   | .builtin .max => z7F Γ true o.dst c.args.toList
   | .builtin .clear => match c.args.toList, c.argTypes.toList with
     | [x], [t] => zC9 Γ o.dst t x
     | _, _ => .fail
   | .value (.tmp q) => .need (c.argTypes.size = c.args.size) (zC8 Γ o.dst q (c.argTypes.toList.zip c.args.toList))
   | .value (.func g) => .need ((Γ.sig g).length = c.args.size ∧ c.argTypes.size = c.args.size) (zFk Γ o.dst g (zip3 (Γ.sig g) c.argTypes.toList c.args.toList))
   | _ => .fail
 | _ => .fail
theorem zI4 : ∀ {ms : List Mode} {ts : List TypeId} {xs : List Operand}, ms.length = xs.length → ts.length = xs.length → (zip3 ms ts xs).map (fun x => x.2.2) = xs
 | [], [], [], _, _ => rfl
 | m :: ms, t :: ts, x :: xs, h1, h2 => by simp at h1 h2; simp [zI4 h1 h2]
 | [], _, _ :: _, h, _ => by simp at h
 | _, [], _ :: _, _, h => by simp at h
 | _ :: _, _, [], h, _ => by simp at h
 | _, _ :: _, [], _, h => by simp at h
variable {P : Program} {Γ : Env} {E : Entry} {S : St} {act : Act} {w : World} {Kt : Wr → Prop} {next : Act → World → Prop} {Q : Exit → Act → World → Prop}
theorem z3C {o : Oper} {s : Sem Value} {w' : World} (he : execOp act.eval o = (do pure (.value (← s)))) (h : ∃ v, s.run P w = .ok v w' ∧ next (act.put o.dst v) w') : o.wp P act w next Q := by
 obtain ⟨v, h1, h2⟩ := h
 unfold Oper.wp
 rw [he, Sem.run_bind, h1]
 exact h2
theorem z6z {o : Oper} {s : Sem Value} (he : execOp act.eval o = (do pure (.value (← s)))) (h : ∃ v w', s.run P w = .ok v w' ∧ next (act.put o.dst v) w') : o.wp P act w next Q := by
 obtain ⟨v, w', h1, h2⟩ := h
 exact z3C he ⟨v, h1, h2⟩
theorem z6M {κ V} : ∀ (xs : List Operand) {k : List Cap → A}, (capsOf xs k).wp (VX P) S Kt → Conc w.heap (tmOf act) V S κ →
 ∃ l, (k l).wp (VX P) S Kt ∧ l.length = xs.length ∧ ∀ (i : Nat) (c : Cap), l[i]? = some c → ∃ u, (xs.map act.eval)[i]? = some u ∧ CapO w.heap V S κ u c
 | [], k, h, _ => ⟨[], h, rfl, by simp⟩
 | x :: xs, k, h, hc => by
   unfold capsOf at h
   obtain ⟨a, hk, ho⟩ := z0V h hc
   cases a with
   | val t d =>
     simp only [A.wp] at hk
     obtain ⟨⟨hp, ha⟩, hk⟩ := hk
     obtain ⟨l, h1, h2, h3⟩ := z6M xs hk hc
     refine ⟨_, h1, by simp [h2], fun i c hi => ?_⟩
     cases i with
     | zero =>
       simp at hi; subst hi
       obtain ⟨_, cs, hr, e⟩ := ho
       exact ⟨_, rfl, hp, ha, _, cs, hr, e⟩
     | succ i => exact h3 i c (by simpa using hi)
   | ptr r v p =>
     obtain ⟨l, h1, h2, h3⟩ := z6M xs hk hc
     refine ⟨_, h1, by simp [h2], fun i c hi => ?_⟩
     cases i with
     | zero =>
       simp at hi; subst hi
       exact ⟨_, rfl, ho⟩
     | succ i => exact h3 i c (by simpa using hi)
   | _ => exact hk.elim
theorem zD7 {dst : Option Nat} {f : FuncId} {caps : Array Operand} (h : (z9X Γ dst f caps.toList).wp (VX P) S Kt) (hi : Inv Γ E S act w) (hn : z2V Γ E S Kt next) :
 ∃ v, (Instr.makeFunc (.func f) (#[].map act.eval) (caps.map act.eval)).run P w = .ok v w ∧ next (act.put dst v) w := by
 obtain ⟨hf, κ, V, hc, hb⟩ := hi
 obtain ⟨l, h1, h2, h3⟩ := z6M caps.toList h hc
 refine ⟨_, rfl, z08 h1 hf hc hb ⟨caps.map act.eval, by simp, by simp [h2], fun i c hc => ?_⟩ hn⟩
 obtain ⟨u, hu, hcc⟩ := h3 i c hc
 exact ⟨u, by simpa using hu, hcc⟩
theorem zHo (ok : EnvOk P Γ) {o : Oper} (h : (opA Γ o).wp (VX P) S Kt) (hi : Inv Γ E S act w) (hn : z2V Γ E S Kt next) : o.wp P act w next Q := by
 obtain ⟨dst, op, ty, pos, aft, grd⟩ := o
 cases op with
 | move x =>
   show next _ _
   exact zIZ h hi hn
 | assign x =>
   show next _ _
   exact zEy h hi hn
 | pick c x y =>
   obtain ⟨b, h1, h2⟩ := zIc h hi hn
   unfold Oper.wp
   simp only [execOp, h1, asBool]
   exact h2
 | alloc t => exact z6z rfl (zGO ok h hi hn)
 | box t x => exact z6z rfl (zIv ok h hi hn)
 | build t ps => exact z3C rfl (zGR ok h hi hn)
 | buildSlice t n ps => exact z6z rfl (zA1 ok h hi hn)
 | load t x => exact z3C rfl (zGs ok h hi hn)
 | store t x y =>
   cases dst with
   | some _ => exact h.elim
   | none =>
     obtain ⟨w', h1, h2⟩ := zGC ok h hi hn
     unfold Oper.wp
     simp only [execOp, Sem.run_bind, h1, Result.andThen_ok]
     exact h2
 | nilCheck x =>
   obtain ⟨⟨a, h1⟩, h2⟩ := zJh h hi hn
   unfold Oper.wp
   simp only [execOp, h1]
   rw [h1] at h2
   exact h2
 | binOp op t x y u =>
   simp only [opA] at h
   split at h
   ·exact z3C rfl (zJ3 ok h hi hn)
   ·exact z3C rfl (zIu ok h hi hn)
 | unOp op t x => exact z3C rfl (zLC h hi hn)
 | convert s t x =>
   simp only [opA] at h
   split at h
   ·exact z6z rfl (zGW ok h hi hn)
   ·exact z3C rfl (zI7 ok h hi hn)
 | makeSlice t l c => exact z6z rfl (zBk ok h hi hn)
 | fieldAddr t x j => exact z3C rfl (zBB ok h hi hn)
 | field t x j => exact z3C rfl (zGk ok h hi hn)
 | indexAddr t x i => exact z3C rfl (zBa ok h hi hn)
 | index t x i => exact z3C rfl (zGo ok h hi hn)
 | slice t x lo hi' mx => exact z3C rfl (zHD ok h hi hn)
 | extract x j => exact z3C rfl (zE3 h hi hn)
 | makeFunc fn first caps =>
   cases fn with
   | func f =>
     simp only [opA, A.wp] at h
     obtain ⟨h0, h⟩ := h
     have hfirst : first = #[] := Array.size_eq_zero_iff.1 h0
     subst hfirst
     exact z3C rfl (zD7 h hi hn)
   | _ => exact h.elim
 | call c =>
   obtain ⟨callee, args, ats⟩ := c
   simp only [opA] at h
   split at h
   ·split at h
    ·rename_i x t ts hx ht
     have hx' : args = #[x] := by rw [← Array.toArray_toList (xs := args), hx]
     have ht' : ats[0]? = some t := by rw [← Array.getElem?_toList, ht]; rfl
     subst hx'
     obtain ⟨v, h1, h2⟩ := zJR ok ht' h hi hn (ats := ats) (ty := ty)
     unfold Oper.wp
     simp only [execOp, resolve, Sem.run_bind, Sem.run_pure, Result.andThen_ok, invoke, builtin, List.map_toArray, List.map_cons, List.map_nil, h1]
     exact h2
    ·exact h.elim
   ·split at h
    ·rename_i x y t u hx ht
     have hx' : args = #[x, y] := by rw [← Array.toArray_toList (xs := args), hx]
     have ht' : ats = #[t, u] := by rw [← Array.toArray_toList (xs := ats), ht]
     subst hx' ht'
     obtain ⟨v, w', h1, h2⟩ := zEw ok h hi hn (ty := ty)
     unfold Oper.wp
     simp only [execOp, resolve, Sem.run_bind, Sem.run_pure, Result.andThen_ok, invoke, builtin, List.map_toArray, List.map_cons, List.map_nil, h1]
     exact h2
    ·exact h.elim
   ·obtain ⟨v, h1, h2⟩ := z9w h hi hn
    have hargs : args.map act.eval = (args.toList.map act.eval).toArray := by rw [← Array.toList_map, Array.toArray_toList]
    unfold Oper.wp
    simp only [execOp, resolve, Sem.run_bind, Sem.run_pure, Result.andThen_ok, invoke, builtin, hargs]
    have h3 : (Builtin.min_ ats ty (args.toList.map act.eval).toArray).run P w = .ok v w := h1
    simp only [h3, Result.andThen_ok]
    exact h2
   ·obtain ⟨v, h1, h2⟩ := z9w h hi hn
    have hargs : args.map act.eval = (args.toList.map act.eval).toArray := by rw [← Array.toList_map, Array.toArray_toList]
    unfold Oper.wp
    simp only [execOp, resolve, Sem.run_bind, Sem.run_pure, Result.andThen_ok, invoke, builtin, hargs]
    have h3 : (Builtin.max_ ats ty (args.toList.map act.eval).toArray).run P w = .ok v w := h1
    simp only [h3, Result.andThen_ok]
    exact h2
   ·split at h
    ·rename_i x t hx ht
     have hx' : args = #[x] := by rw [← Array.toArray_toList (xs := args), hx]
     have ht' : ats = #[t] := by rw [← Array.toArray_toList (xs := ats), ht]
     subst hx' ht'
     obtain ⟨v, w', h1, h2⟩ := zGU ok h hi hn (ty := ty)
     unfold Oper.wp
     simp only [execOp, resolve, Sem.run_bind, Sem.run_pure, Result.andThen_ok, invoke, builtin, List.map_toArray, List.map_cons, List.map_nil, h1]
     exact h2
    ·exact h.elim
   ·rename_i q
    simp only [A.wp] at h
    obtain ⟨h1, h⟩ := h
    obtain ⟨f, caps, hv, ⟨fn, hf, hng, hbd⟩, hcall⟩ := zGT h hi hn
    have hxs : (((ats.toList.zip args.toList).map fun x => act.eval x.2) ++ caps.toList).toArray = args.map act.eval ++ caps := by
     have : (ats.toList.zip args.toList).map (fun x => act.eval x.2) = args.toList.map act.eval := by
      rw [show (fun x : TypeId × Operand => act.eval x.2) = act.eval ∘ (fun x => x.2) from rfl, ← List.map_map]
      congr 1
      exact List.map_snd_zip (by simp [h1])
     rw [this, ← Array.toList_map, ← Array.toList_append, Array.toArray_toList]
    rw [hxs] at hcall
    unfold Oper.wp
    have hex : (execOp act.eval { dst := dst, op := Op.call { callee := Callee.value (Operand.tmp q), args := args, argTypes := ats }, type := ty, pos := pos, after := aft, guard := grd }).run P w = .ok (.enter f (args.map act.eval ++ caps)) w := by
     simp only [execOp, resolve, hv, Deferred.ofValue, Sem.run_bind, Sem.run_pure, Result.andThen_ok, invoke, callFunc, Array.empty_append]
     rw [show (program.run P w) = .ok P w from rfl]
     simp only [Result.andThen_ok, hf, hng, hbd, if_false, Bool.false_eq_true]
     rfl
    rw [hex, Oper.upon_enter]
    refine Calls.mono hcall ?_
    rintro e w' ⟨v, rfl, hv⟩
    exact hv
   ·rename_i g
    simp only [A.wp] at h
    obtain ⟨⟨h1, h2⟩, h⟩ := h
    obtain ⟨⟨fn, hf, hng, hbd⟩, hcall⟩ := zI6 h hi hn
    have hxs : ((zip3 (Γ.sig g) ats.toList args.toList).map fun x => act.eval x.2.2).toArray = args.map act.eval := by
     have := zI4 (ms := Γ.sig g) (ts := ats.toList) (xs := args.toList) (by simpa using h1) (by simpa using h2)
     rw [show (fun x : Mode × TypeId × Operand => act.eval x.2.2) = act.eval ∘ (fun x => x.2.2) from rfl, ← List.map_map, this, ← Array.toList_map, Array.toArray_toList]
    rw [hxs] at hcall
    unfold Oper.wp
    have hex : (execOp act.eval { dst := dst, op := Op.call { callee := Callee.value (Operand.func g), args := args, argTypes := ats }, type := ty, pos := pos, after := aft, guard := grd }).run P w = .ok (.enter g (args.map act.eval)) w := by
     simp only [execOp, resolve, Act.eval, Deferred.ofValue, Sem.run_bind, Sem.run_pure, Result.andThen_ok, invoke, callFunc, Array.append_empty, Array.empty_append]
     rw [show (program.run P w) = .ok P w from rfl]
     simp only [Result.andThen_ok, hf, hng, hbd, if_false, Bool.false_eq_true]
     rfl
    rw [hex, Oper.upon_enter]
    refine Calls.mono hcall ?_
    rintro e w' ⟨v, rfl, hv⟩
    exact hv
   ·exact h.elim
 | _ => exact h.elim
end
end Go.Own
