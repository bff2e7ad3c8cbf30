/- A layer over the walk: what lies in memory as plain data, each operation by what it does to data; part 8. -/
import Derived.Test.YtobighfemobgjaaGreatDoorOwL
import Derived.IntWalk
set_option linter.unusedSectionVars false
set_option linter.unusedVariables false
set_option linter.unusedSimpArgs false
namespace Go.Own
variable [Glb]
open Go
variable {P : Program} {Γ : Env} {E : Entry} {S : St} {act : Act} {w : World} {X : Ctr} {Kt : Wr → Prop}
theorem run_storeVar {P : Program} {Γ : Env} (ok : EnvOk P Γ) {t : TypeId} (ht : (Γ.ty t).ok = true) {h V τ d κ cs b o} {w w' : World} (hr : Rep h V τ d κ cs) (hs : τ.sound = true) (hv : τ.view = (Γ.ty t).view)
    (hst : (storeCells ⟨b, o, none⟩ cs).run P w = .ok () w') : (storeVar t ⟨b, o, none⟩ (toVal τ cs)).run P w = .ok () w' := by
  have hk := T.view_kind hv
  have hc := toVal_size hr hs
  unfold storeVar
  rw [Sem.run_bind, ok.sizeOf ht]
  simp only [Result.andThen_ok]
  have hsz : (toVal τ cs).cells.size = (Γ.ty t).size := by
    rw [← Array.length_toList, hc, hr.length, hk.2]
  rw [if_neg (by simp [hsz]), hc]
  exact hst
theorem store_sound (ok : EnvOk P Γ) {t : TypeId} {x y : Operand} (h : (opStore Γ t x y).wp X S Kt) (hi : Inv Γ E S act w) {next : Act → World → Prop} (hn : Next' Γ E S Kt next) :
    ∃ w', (Instr.storeAt t (act.eval x) (act.eval y)).run P w = .ok () w' ∧ next act w' := by
  obtain ⟨hf, κ, V, hc, hb⟩ := hi
  obtain ⟨a, hk, ho⟩ := opd_sound h hc
  cases a with
  | ptr r ver p =>
    obtain ⟨tr, dr, bx, hroot, hk⟩ := rootOf_sound hk
    simp only [A.wp] at hk
    obtain ⟨⟨hl, hok, hbx⟩, hk⟩ := hk
    obtain ⟨b, o, hloc, hv⟩ := ho.2 tr dr bx hroot hl hok
    obtain ⟨ty, d, ws, κ', kx, hk, ht⟩ := take_sound hk hc
    simp only [A.wp] at hk
    obtain ⟨⟨hview, hty, hsz, hrw⟩, hk⟩ := hk
    have hb' := hb.taken ht
    obtain ⟨cs, hrep, hval⟩ := ht.rep
    have hS1 : (S.apply ws) r = S r := St.apply_other ws S hrw
    have hK1 : κ' r = κ r := ht.oth r hrw
    have hroot1 : ((S.apply ws) r).root = some (tr, dr, bx) := by rw [hS1]; exact hroot
    have hsound : ty.sound = true := by
      rw [← T.view_sound, hview, T.view_sound]; exact ok.sound t hty
    have hlt : ∀ b, b ∈ kx.blocks → b < w.heap.size := fun b hb => let ⟨s, hs⟩ := ht.src b hb; hc.bl s b hs
    have hshape : ∀ (hs : (tr.at p).shape = ty.shape), _ := fun hs => Conc.store (P := P) ht.conc hroot1 hok (by rw [hK1]; exact hloc) hrep hs hsound hsz ht.nd ht.dj ht.dv hlt
    have fin : ∀ {c' : Cl} {arr}, b ∈ (κ' r).blocks → (∃ κ2, Conc (w.setRow b arr).heap (tmOf act) V ((S.apply ws).put r c') κ2 ∧ ∀ s b, b ∈ (κ2 s).blocks → b ∈ kx.blocks ∨ ∃ s, b ∈ (κ' s).blocks) → Kt (ws ++ [(r, c')]) → next act (w.setRow b arr) := by
      intro c' arr hbr ⟨κ2, hc2, hm2⟩ hK
      refine hn _ _ _ hK ⟨hf.write (hb'.1.k r b hbr), κ2, V, ?_, hb.v0, hb.v1, fun s b h => (hm2 s b h).elim (hb'.2 b) (fun ⟨s, hs⟩ => hb'.1.k s b hs)⟩
      rw [St.apply_append]; exact hc2
    by_cases h1 : ty.plain = true ∧ tr.at p = ty
    · rw [if_pos h1] at hk
      obtain ⟨arr, hrun, hbr, hA, _⟩ := hshape (by rw [h1.2])
      refine ⟨_, by rw [hv, hval]; exact run_storeVar ok hty hrep hsound hview hrun, ?_⟩
      refine fin hbr ?_ (by simpa [A.wp, hS1] using hk)
      have := hA ⟨h1.2.symm, .inr h1.1⟩
      rwa [hS1] at this
    · rw [if_neg h1] at hk
      by_cases h2 : depth p = 0
      · rw [if_pos h2] at hk
        simp only [A.wp] at hk
        obtain ⟨arr, hrun, hbr, _, hB⟩ := hshape hk.1
        refine ⟨_, by rw [hv, hval]; exact run_storeVar ok hty hrep hsound hview hrun, ?_⟩
        refine fin hbr ?_ (by simpa [hS1] using hk.2)
        have := hB h2
        rwa [hS1] at this
      · rw [if_neg h2] at hk
        simp only [A.wp] at hk
        obtain ⟨arr, hrun, hbr, hA, _⟩ := hshape (by rw [hk.1])
        refine ⟨_, by rw [hv, hval]; exact run_storeVar ok hty hrep hsound hview hrun, ?_⟩
        refine fin hbr ?_ (by simpa [hS1] using hk.2)
        have := hA ⟨hk.1.symm, .inl h2⟩
        rwa [hS1] at this
  | _ => exact hk.elim
end Go.Own
namespace Go.Own
variable [Glb]
open Go
variable {P : Program} {Γ : Env} {E : Entry} {S : St} {act : Act} {w : World} {X : Ctr} {Kt : Wr → Prop} {next : Act → World → Prop}
theorem wrap_range (k : IntKind) (n : Int) : k.min ≤ k.wrap n ∧ k.wrap n ≤ k.max := by
  cases k <;> simp only [IntKind.wrap, IntKind.min, IntKind.max, IntKind.bits, IntKind.signed] <;> simp <;> (try split) <;> omega
theorem ov_int {h V κ} (k : IntKind) (n : Int) (hn : k.min ≤ n ∧ n ≤ k.max) : OV h V S κ (.int k n) (.val (.int k) (.int n)) := ⟨rfl, _, ⟨n, rfl, rfl, rfl, hn⟩, rfl⟩
theorem ov_bool {h V κ} (b : Bool) : OV h V S κ (.bool b) (.val .bool (.bool b)) := ⟨rfl, _, ⟨b, rfl, rfl, rfl⟩, rfl⟩
theorem ov_str {h V κ} (s : List UInt8) (hs : s.length ≤ smax) : OV h V S κ (.string (mkS s)) (.val .str (.str s)) := ⟨rfl, _, ⟨s, rfl, rfl, rfl, hs⟩, rfl⟩
theorem of_int {h V κ v k d} (ho : OV h V S κ v (.val (.int k) d)) : v = .int k d.i ∧ k.min ≤ d.i ∧ d.i ≤ k.max := by
  obtain ⟨_, cs, ⟨n, rfl, _, rfl, hn⟩, rfl⟩ := ho; exact ⟨rfl, hn⟩
theorem of_bool {h V κ v d} (ho : OV h V S κ v (.val .bool d)) : v = .bool d.b := by
  obtain ⟨_, cs, ⟨n, rfl, _, rfl⟩, rfl⟩ := ho; rfl
theorem of_str {h V κ v d} (ho : OV h V S κ v (.val .str d)) : v = .string (mkS d.s) ∧ d.s.length ≤ smax := by
  obtain ⟨_, cs, ⟨n, rfl, _, rfl, hn⟩, rfl⟩ := ho; exact ⟨rfl, hn⟩
theorem i64_nat {n : Nat} (h : n ≤ smax) : IntKind.i64.min ≤ (n : Int) ∧ (n : Int) ≤ IntKind.i64.max := by
  unfold smax at h; simp [IntKind.min, IntKind.max, IntKind.signed, IntKind.bits]; omega
theorem Conc.list {h : Heap} {tm V κ} (hc : Conc h tm V S κ) {r : Nat} {tr dr bx} (hroot : (S r).root = some (tr, dr, bx)) {p : Path} {e : T} (hat : tr.at p = .lst true e) (hok : Ok tr dr p) :
    ∃ cs, Rep h V (.lst true e) (dr.get p) ((base bx (κ r)).get p) cs ∧ (dr.get p).l.length ≤ smax := by
  obtain ⟨cs0, hr, _⟩ := hc.at hroot hok
  rw [hat] at hr
  refine ⟨cs0, hr, ?_⟩
  obtain ⟨xs, h, ⟨rfl, _⟩ | ⟨b, off, c, arr, ty, fz, ks, _, hl, _⟩⟩ := hr
  · rw [h]; simp [smax]
  · rw [h]; exact hl.2
theorem Conc.refl_list {h : Heap} {tm V κ} (hc : Conc h tm V S κ) {r : Nat} {tr dr bx} (hroot : (S r).root = some (tr, dr, bx)) {p : Path} {e : T} (hat : tr.at p = .lst true e) (hok : Ok tr dr p) {ver d v}
    (hl : liveRef ver (S r).v (depth p)) (ho : RefC h V S κ r ver p (.lst true e) d v) :
    (v = .slice none 0 0 ∧ (dr.get p).l = [] ∧ (base bx (κ r)).get p = .leaf) ∨ ∃ b off c arr ty fz ks, v = .slice (some ⟨b, off, none⟩) (dr.get p).l.length c ∧ (base bx (κ r)).get p = .lst b off c (dr.get p).l.length ks ∧ LenOk (dr.get p).l.length c ∧ h[b]? = some (.cells arr ty fz) ∧ Free fz arr.size ∧ off + c * e.size ≤ arr.size ∧
      (∀ i x, (dr.get p).l[i]? = some x → Rep h V e x (ks i) ((arr.toList.drop (off + i * e.size)).take e.size)) := by
  obtain ⟨cs, hr, _⟩ := hc.list hroot hat hok
  obtain ⟨cs', href, rfl⟩ := ho.2 tr dr bx hroot hl hat hok
  obtain ⟨xs, hx, ⟨rfl, hk, _, rfl, _⟩ | ⟨b, off, c, arr, ty, fz, ks, rfl, hlen, hh, hs, he, hown⟩⟩ := hr
  · left
    rcases href with ⟨_, rfl⟩ | ⟨b, off, c, n, ks, h1, _⟩
    · exact ⟨rfl, by rw [hx]; rfl, hk⟩
    · rw [hk] at h1; cases h1
  · right
    simp at hown
    rcases href with ⟨h1, _⟩ | ⟨b', off', c', n', ks', h1, rfl⟩
    · rw [hown.2] at h1; cases h1
    · rw [hown.2] at h1; simp only [K.lst.injEq] at h1; obtain ⟨rfl, rfl, rfl, rfl, _⟩ := h1
      rw [hx]
      exact ⟨b, off, c, arr, ty, fz, ks, rfl, hown.2, hlen, hh, hown.1, hs, he⟩
theorem of_list {h V κ v o e d} (ho : OV h V S κ v (.val (.lst o e) d)) : ∃ A c, v = .slice A d.l.length c ∧ d.l.length ≤ smax := by
  obtain ⟨_, cs, ⟨xs, rfl, ⟨rfl, _, A, rfl, hA⟩ | ⟨b, off, c, arr, ty, fz, ks, rfl, hlen, _⟩⟩, rfl⟩ := ho
  · exact ⟨A, 0, rfl, by simp [smax]⟩
  · exact ⟨_, c, rfl, hlen.2⟩
theorem of_list0 {h V κ v o e d} (ho : OV h V S κ v (.val (.lst o e) d)) : ∃ A c, v = .slice A d.l.length c ∧ (A.isNone = true → d.l = []) := by
  obtain ⟨_, cs, ⟨xs, rfl, ⟨rfl, _, A, rfl, hA⟩ | ⟨b, off, c, arr, ty, fz, ks, rfl, hlen, _⟩⟩, rfl⟩ := ho
  · exact ⟨A, 0, rfl, fun _ => rfl⟩
  · exact ⟨_, c, rfl, fun h => by cases h⟩
theorem Fits.lst {t : TypeId} (ok : EnvOk P Γ) (h : (Γ.ty t).lsts = true) : ∃ et, P.underlying t = some (.slice et) ∧ Γ.ty et = (Γ.ty t).elem ∧ (Γ.ty et).ok = true := by
  have hf := ok.fits t (by revert h; cases Γ.ty t <;> simp)
  generalize Γ.ty t = T at hf h
  cases T <;> simp at h
  obtain ⟨_, et, hu, he, hok⟩ := hf
  exact ⟨et, hu, he, by rw [he]; exact hok⟩
theorem len_sound (ok : EnvOk P Γ) {dst : Option Nat} {t : TypeId} {ats : Array TypeId} {ty : TypeId} {x : Operand} (ha : ats[0]? = some t) (h : (opLen Γ dst t x).wp X S Kt) (hi : Inv Γ E S act w) (hn : Next' Γ E S Kt next) :
    ∃ v, (Builtin.len_ ats ty #[act.eval x]).run P w = .ok v w ∧ next (act.put dst v) w := by
  obtain ⟨hf, κ, V, hc, hb⟩ := hi
  obtain ⟨a, hk, ho⟩ := opd_sound h hc
  have slice : ∀ {A n c}, act.eval x = .slice A n c → (Γ.ty t).lsts = true → (Builtin.len_ ats ty #[act.eval x]).run P w = .ok (.int .i64 n) w := by
    intro A n c hv hl
    obtain ⟨et, hu, _⟩ := Fits.lst ok hl
    rw [hv]
    simp only [Builtin.len_, ha, List.getElem?_toArray, List.getElem?_cons_zero, Sem.run_bind, run_underlying hu, Result.andThen_ok]
    rfl
  cases a with
  | val τ d =>
    cases τ with
    | str =>
      simp only [A.wp] at hk
      obtain ⟨hv, hs⟩ := of_str ho
      have hu : P.underlying t = some .string := by have := ok.fits t (by rw [hk.1]; rfl); rw [hk.1] at this; exact this
      refine ⟨_, ?_, out_sound hk.2 hf hc hb (ov_int _ _ (i64_nat hs)) hn⟩
      rw [hv]
      simp only [Builtin.len_, ha, List.getElem?_toArray, List.getElem?_cons_zero, Sem.run_bind, run_underlying hu, Result.andThen_ok]
      rfl
    | lst o e =>
      simp only [A.wp] at hk
      obtain ⟨A, c, hv, hs⟩ := of_list ho
      exact ⟨_, slice hv hk.1, out_sound hk.2 hf hc hb (ov_int _ _ (i64_nat hs)) hn⟩
    | _ => exact hk.elim
  | ref r ver p τ d =>
    cases τ with
    | lst o e =>
      cases o with
      | true =>
        obtain ⟨tr, dr, bx, hroot, hk⟩ := rootOf_sound hk
        simp only [A.wp] at hk
        obtain ⟨⟨hl, hat, hok, hls⟩, hk⟩ := hk
        obtain ⟨cs, _, hs⟩ := hc.list hroot hat hok
        have hv : ∃ A c, act.eval x = .slice A (dr.get p).l.length c := by
          rcases hc.refl_list hroot hat hok hl ho with ⟨h1, h2, _⟩ | ⟨b, off, c, _, _, _, _, h1, _⟩
          · exact ⟨none, 0, by rw [h2]; exact h1⟩
          · exact ⟨_, c, h1⟩
        obtain ⟨A, c, hv⟩ := hv
        exact ⟨_, slice hv hls, out_sound hk hf hc hb (ov_int _ _ (i64_nat hs)) hn⟩
      | false => exact hk.elim
    | _ => exact hk.elim
  | win r ver p e lo n =>
    obtain ⟨tr, dr, bx, hroot, hk⟩ := rootOf_sound hk
    simp only [A.wp] at hk
    obtain ⟨⟨hl, hat, hok, hls, hs⟩, hk⟩ := hk
    have hv : ∃ A c, act.eval x = .slice A n c := by
      rcases ho.2 tr dr bx hroot hl hat hok with ⟨_, _, rfl, h1⟩ | ⟨b, off, c, m, ks, _, _, h1 | ⟨_, rfl, h1⟩⟩
      · exact ⟨_, _, h1⟩
      · exact ⟨_, _, h1⟩
      · exact ⟨_, _, h1⟩
    obtain ⟨A, c, hv⟩ := hv
    exact ⟨_, slice hv hls, out_sound hk hf hc hb (ov_int _ _ (i64_nat hs)) hn⟩
  | nil =>
    simp only [A.wp] at hk
    exact ⟨_, slice (n := 0) ho hk.1, out_sound hk.2 hf hc hb (ov_int _ 0 (by simp [IntKind.min, IntKind.max, IntKind.signed, IntKind.bits])) hn⟩
  | _ => exact hk.elim
end Go.Own
