/- What the functions compute, in plain words. -/
import Derived.Test.YtbanjbafckgghaaDoorP2
set_option linter.unusedSectionVars false
set_option linter.unusedVariables false
set_option linter.unusedSimpArgs false
/-! Health: the exact laws. -/
namespace Go.Proofs.YtbanjbafckgghaaDoor
open Go Go.Own

theorem Health.take_len (h : Health) (p : Prb) : (h.take p).1.hosts.length ≤ h.hosts.length := by
  unfold Health.take
  split
  · simp [Health.probed_len]
  · simp [Health.nul]

theorem law_FnExactTakeProbe {a b : D} (ha : Sm smax tHealth a) (hb : Sm smax tPrb b) : e_laws_FnExactTakeProbe.F [a, b] = some (.bool true) := by
  obtain ⟨h, rfl, hi⟩ := health_of ha
  obtain ⟨p, rfl, hp⟩ := prb_of hb
  obtain ⟨r, h1, h2⟩ := f_szHealth hi (left := 1048576) (by decide) (by decide)
  rw [q_laws_FnExactTakeProbe]
  refine rn_call h1 ?_
  by_cases hr : r < 0
  · exact rn_if (decide_eq_true hr) rfl
  refine rn_else (fun h => hr (of_decide_eq_true h)) ?_
  have hs := h2 (by omega)
  have hls := Nat.le_trans hs.len lim_smax
  have ht := f_toHealth hs.len
  have htp := f_toProbe p
  have hst := f_specTake hs.fit p
  have hit := f_implTake hls p
  have hlim : lim = 1048576 := rfl
  have h10 := pow18
  have htl := Nat.le_trans (Health.take_len h p) hs.len
  have heq := f_eqHealth (h := (h.take p).1) (Nat.le_trans htl lim_smax)
  have heq0 := f_eqHealth (h := h) hls
  have hm0 := f_markHealth (h := h) (k := 1) (by decide) (by have := hs.len; omega)
  have hm1 := f_markHealth (h := (h.take p).1) (k := 1) (by decide) (by omega)
  have hh1 := f_heldHealth (h := (h.take p).1) (n := (h.take p).1.hosts.length) (k := 1) (by decide) (by omega)
  have f0 : (taken (h.take p)).fld 0 = (h.take p).1.d := rfl
  refine rn_call ht (rn_call htp (rn_call hst (rn_call ht (rn_call htp (rn_call hit ?_)))))
  refine rn_bind (r := (0, [.bool false])) ?_ ?_
  · rw [f0]
    exact out_call heq (out_else (by simp) (out_else (by simp) (by simp)))
  simp only [sel2_zero, gd_zero]
  refine rn_else (by simp) (rn_call ht (rn_call heq0 (rn_else (by simp) (rn_call hm0 ?_))))
  refine rn_bind (r := (0, [.bool false])) ?_ ?_
  · rw [f0]
    refine out_else ?_ (out_call heq (out_else (by simp) (out_else (by simp) (by simp))))
    intro hc
    have hc' : (1 : Int) + 3 * h.hosts.length < 0 := of_decide_eq_true hc
    omega
  simp only [sel2_zero, gd_zero]
  refine rn_else (by simp) ?_
  rw [f0]
  refine rn_call hm1 (rn_call hh1 (rn_else ?_ (rn_else (by simp) ?_)))
  · intro hc
    have hc' : (1 : Int) + 3 * (h.take p).1.hosts.length < 0 := of_decide_eq_true hc
    omega
  refine rn_call ht (rn_call htp (rn_call hit ?_))
  refine rn_bind (r := (0, [.bool false])) ?_ ?_
  · rw [f0]
    exact out_call heq (out_else (by simp) (out_else (by simp) (by simp)))
  simp only [sel2_zero, gd_zero]
  refine rn_else (by simp) (rn_call hh1 (rn_else ?_ (rn_else (by simp) rfl)))
  intro hc
  have hc' : (1 : Int) + 3 * (h.take p).1.hosts.length < 0 := of_decide_eq_true hc
  omega

theorem playG_len {ps : List Prb} : ∀ {i : Nat} {s s' : Health × Nat}, foldE playG i s ps = .inl s' → s'.1.hosts.length = s.1.hosts.length := by
  induction ps with
  | nil => intro i s s' h; cases h; rfl
  | cons p ps ih =>
    intro i s s' h
    unfold foldE playG at h
    by_cases hc : inR p.host 0 (s.1.hosts.length - 1) = true
    · rw [if_pos hc] at h
      rw [ih h]
      simp [Health.probed_len]
    · rw [if_neg hc] at h; cases h
theorem start_len (r f : Int) (ls : List (List UInt8)) : (Health.start r f ls).1.hosts.length ≤ ls.length := by
  unfold Health.start
  split
  · simp [Health.new_len]
  · simp [Health.nul]
theorem play_len (r f : Int) (ls : List (List UInt8)) (ps : List Prb) : (Health.play r f ls ps).h.hosts.length ≤ ls.length := by
  unfold Health.play
  split
  · simp [Pl.nul, Health.nul]
  · split
    · rename_i s hs
      simp only
      rw [playG_len hs]
      exact start_len r f ls
    · simp [Pl.nul, Health.nul]

theorem law_FnExactPlayProbes {a b c d : D} (ha : Sm smax (.int .i64) a) (hb : Sm smax (.int .i64) b) (hc : Sm smax (.lst false .str) c) (hd : Sm smax (.lst false tPrb) d) :
    e_laws_FnExactPlayProbes.F [a, b, c, d] = some (.bool true) := by
  obtain ⟨r, rfl, -⟩ := sm_int ha
  obtain ⟨f, rfl, -⟩ := sm_int hb
  obtain ⟨ls, rfl, hl, hm⟩ := strs_of hc
  obtain ⟨ps, rfl, hpl⟩ := prbs_of hd
  obtain ⟨r1, h1, h2, h3⟩ := f_szStringS (left := 1048576) hl hm (by decide) (by decide)
  rw [q_laws_FnExactPlayProbes]
  refine rn_call h1 ?_
  by_cases hr : r1 < 0
  · exact rn_if (decide_eq_true hr) rfl
  refine rn_else (fun h => hr (of_decide_eq_true h)) ?_
  have hlim : lim = 1048576 := rfl
  have h10 := pow18
  obtain ⟨r2, h4, h5⟩ := f_szProbeS (left := r1) hpl (by omega) (by omega)
  refine rn_call h4 ?_
  by_cases hr2 : r2 < 0
  · exact rn_if (decide_eq_true hr2) rfl
  refine rn_else (fun h => hr2 (of_decide_eq_true h)) ?_
  obtain ⟨hll, hml⟩ := h3 (by omega)
  have hpl := h5 (by omega)
  have hts := f_toStringS hll
  have htp := f_toProbeS hpl
  have hsp := f_specPlay r f ls ps hll hml
  have hip := f_implPlay r f ls ps
  have hln := play_len r f ls ps
  have heq := f_eqHealth (h := (Health.play r f ls ps).h) (by rw [smax_eq]; omega)
  have hes := f_eqStringS (ls := ls) (Nat.le_trans hll lim_smax)
  have hep := f_eqProbeS (ps := ps) (Nat.le_trans hpl lim_smax)
  obtain ⟨y1, hms⟩ := f_markStringS (ls := ls) (k := 1) (by decide) (by omega)
  obtain ⟨y2, hmp⟩ := f_markProbeS (ps := ps) (k := 1 + ls.length) (by omega) (by omega)
  have hm1 := f_markHealth (h := (Health.play r f ls ps).h) (k := 1) (by decide) (by omega)
  have hh1 := f_heldHealth (h := (Health.play r f ls ps).h) (n := (Health.play r f ls ps).h.hosts.length) (k := 1) (by decide) (by omega)
  have f0 : (Health.play r f ls ps).d.fld 0 = (Health.play r f ls ps).h.d := rfl
  refine rn_call hts (rn_call htp (rn_call hsp (rn_call hts (rn_call htp (rn_call hip ?_)))))
  refine rn_bind (r := (0, [.bool false])) ?_ ?_
  · rw [f0]
    exact out_call heq (out_else (by simp) (out_else (by simp) (by simp)))
  simp only [sel2_zero, gd_zero]
  refine rn_else (by simp) (rn_call hts (rn_call hes (rn_else (by simp) (rn_call htp (rn_call hep (rn_else (by simp) (rn_call hms (rn_call hmp ?_))))))))
  refine rn_bind (r := (0, [.bool false])) ?_ ?_
  · rw [f0]
    refine out_else ?_ (out_call heq (out_else (by simp) (out_else (by simp) (by simp))))
    intro hc
    have hc' : (1 : Int) + ls.length + 2 * ps.length < 0 := of_decide_eq_true hc
    omega
  simp only [sel2_zero, gd_zero]
  refine rn_else (by simp) ?_
  rw [f0]
  refine rn_call hm1 (rn_call hh1 (rn_else ?_ (rn_else (by simp) ?_)))
  · intro hc
    have hc' : (1 : Int) + 3 * (Health.play r f ls ps).h.hosts.length < 0 := of_decide_eq_true hc
    omega
  refine rn_call hts (rn_call htp (rn_call hip ?_))
  refine rn_bind (r := (0, [.bool false])) ?_ ?_
  · rw [f0]
    exact out_call heq (out_else (by simp) (out_else (by simp) (by simp)))
  simp only [sel2_zero, gd_zero]
  refine rn_else (by simp) (rn_call hh1 (rn_else ?_ (rn_else (by simp) rfl)))
  intro hc
  have hc' : (1 : Int) + 3 * (Health.play r f ls ps).h.hosts.length < 0 := of_decide_eq_true hc
  omega
end Go.Proofs.YtbanjbafckgghaaDoor

/-! What the laws draw. -/
namespace Go.Own
variable [Glb]
open Go
/-- a cursor over bytes -/
def cuD (bs : List D) (p : Nat) (a : Int) : D := .pair (.lst bs) (.pair (.int p) (.pair (.int a) .unit))
def Cu (bs : List D) (k : Nat) (c : D) : Prop := ∃ p a, c = cuD bs p a ∧ p ≤ k
theorem Cu.mono {bs : List D} {k m : Nat} {c : D} (h : Cu bs k c) (hk : k ≤ m) : Cu bs m c := by
  obtain ⟨p, a, rfl, h⟩ := h; exact ⟨p, a, rfl, by omega⟩
def Bytes (bs : List D) : Prop := ∀ x ∈ bs, ∃ n : Int, x = .int n ∧ 0 ≤ n ∧ n ≤ 255
theorem bytes_ofD {B : Nat} {o : Bool} {d : D} (h : Sm B (.lst o (.int .u8)) d) : ∃ bs, d = .lst bs ∧ Bytes bs := by
  obtain ⟨xs, rfl, _, h⟩ := h
  refine ⟨xs, rfl, fun x hx => ?_⟩
  obtain ⟨n, rfl, h1, h2⟩ := h x hx
  have e1 : IntKind.min .u8 = 0 := by decide
  have e2 : IntKind.max .u8 = 255 := by decide
  exact ⟨n, rfl, by omega, by omega⟩
theorem and255 (x : Int) : ∃ n : Nat, (D.ofBin (binInt .and .u64 x 255)).i = (n : Int) ∧ n ≤ 255 := by
  have h1 : (BitVec.ofInt 64 x &&& BitVec.ofInt 64 255).toNat ≤ 255 := by
    rw [BitVec.toNat_and]
    exact Nat.le_trans Nat.and_le_right (by decide)
  refine ⟨_, ?_, h1⟩
  show IntKind.wrap .u64 ((BitVec.ofInt 64 x &&& BitVec.ofInt 64 255).toNat : Int) = _
  generalize (BitVec.ofInt 64 x &&& BitVec.ofInt 64 255).toNat = m at h1
  have : IntKind.wrap .u64 (m : Int) = (m : Int) % 18446744073709551616 := by
    simp [IntKind.wrap, IntKind.bits, IntKind.signed]
  rw [this]
  omega
end Go.Own
namespace Go.Proofs.YtbanjbafckgghaaDoor
open Go Go.Own

theorem f_next {bs : List D} (hb : Bytes bs) {k : Nat} {c : D} (hc : Cu bs k c) (hk : k ≤ 1000000) :
    ∃ (n : Nat) (c' : D), e_spec_l1Cur_next.F [c] = some (.pair (.int n) (.pair c' .unit)) ∧ n ≤ 255 ∧ Cu bs (k + 1) c' := by
  obtain ⟨p, a, rfl, hp⟩ := hc
  rw [q_spec_l1Cur_next]
  have f0 : ((cuD bs p a).fld 0).l = bs := rfl
  have f1 : ((cuD bs p a).fld 1).i = p := rfl
  have f2 : ((cuD bs p a).fld 2).i = a := rfl
  have hw : IntKind.wrap .i64 ((p : Int) + 1) = ((p + 1 : Nat) : Int) := by rw [wrap_id] <;> omega
  have hset : ∀ x : Int, ((cuD bs p a).setFld 1 (.int ((p + 1 : Nat) : Int))).setFld 2 (.int x) = cuD bs (p + 1) x := fun _ => rfl
  simp only [f0, f1, f2, hw, hset]
  by_cases hlt : p < bs.length
  · obtain ⟨n, hn, hn0, hn1⟩ := hb _ (List.getElem_mem hlt)
    have hg : gd bs p = .int n := (gd_lt hlt).trans hn
    have hwn : IntKind.wrap .i64 n = n := by rw [wrap_id] <;> omega
    obtain ⟨m, rfl⟩ := Int.eq_ofNat_of_zero_le hn0
    refine ⟨m, cuD bs (p + 1) _, rn_bind (r := (0, [.int m])) (out_if (decide_eq_true (by omega)) (out_if (inb_nat hlt) ?_)) (rn_if (decide_eq_true (by omega)) rfl), by omega, p + 1, _, rfl, by omega⟩
    simp [hg, hwn]
  · obtain ⟨m, hm, hm2⟩ := and255 ((IntKind.wrap .u64 ((IntKind.wrap .u64 ((IntKind.wrap .u64 (a * 6364136223846793005)) + (IntKind.wrap .u64 0))) + 1442695040888963407)).fdiv (2 ^ min 40 (IntKind.bits .u64)))
    by_cases hle : ((p + 1 : Nat) : Int) ≤ (bs.length : Int)
    · omega
    refine ⟨m, cuD bs (p + 1) (IntKind.wrap .u64 ((IntKind.wrap .u64 ((IntKind.wrap .u64 (a * 6364136223846793005)) + (IntKind.wrap .u64 0))) + 1442695040888963407)), rn_bind (r := (0, [.int 0])) (out_else (fun h => by have := of_decide_eq_true h; omega) rfl) (rn_else (fun h => hle (of_decide_eq_true h)) (rn_if (by decide) ?_)), hm2, p + 1, _, rfl, by omega⟩
    simp only [gd_zero, D.i_int, hm]
    have : IntKind.wrap .i64 (m : Int) = m := by rw [wrap_id] <;> omega
    rw [this]; rfl

theorem tmod_nat {n : Nat} {x : Int} (hx : 0 < x) : ∃ v : Nat, (n : Int).tmod x = v ∧ (v : Int) < x := by
  rw [Int.tmod_eq_emod_of_nonneg (by omega)]
  have h1 := Int.emod_nonneg (n : Int) (show x ≠ 0 by omega)
  have h2 := Int.emod_lt_of_pos (n : Int) hx
  exact ⟨((n : Int) % x).toNat, by omega, by omega⟩

theorem f_pick {bs : List D} (hb : Bytes bs) {k : Nat} {c : D} (hc : Cu bs k c) (hk : k ≤ 900000) (x : Int) :
    ∃ (v : Nat) (c' : D), e_spec_l1Cur_pick.F [c, .int x] = some (.pair (.int v) (.pair c' .unit)) ∧ ((v : Int) < x ∨ v = 0) ∧ Cu bs (k + 2) c' := by
  rw [q_spec_l1Cur_pick]
  by_cases h1 : x ≤ 1
  · exact ⟨0, c, rn_if (decide_eq_true h1) rfl, .inr rfl, hc.mono (by omega)⟩
  obtain ⟨n, c1, hn, hn2, hc1⟩ := f_next hb hc (by omega)
  by_cases h2 : x > 200
  · obtain ⟨m, c2, hm, hm2, hc2⟩ := f_next hb hc1 (by omega)
    have w : IntKind.wrap .i64 (IntKind.wrap .i64 ((n : Int) * 256) + m) = ((n * 256 + m : Nat) : Int) := by
      rw [wrap_id (x := (n : Int) * 256) (by omega) (by omega), wrap_id] <;> omega
    obtain ⟨v, hv, hv2⟩ := tmod_nat (n := n * 256 + m) (x := x) (by omega)
    refine ⟨v, c2, rn_else (fun h => h1 (of_decide_eq_true h)) (rn_call hn (rn_bind (r := (0, [c2, .int ((n * 256 + m : Nat) : Int)])) (out_if (decide_eq_true h2) (out_call hm ?_)) (rn_if (by simp; omega) ?_))), .inl hv2, hc2.mono (by omega)⟩
    · simp only [D.fld, D.fst_pair, D.snd_pair, D.i_int, w]
    · simp only [gd_one, gd_zero, D.i_int, hv]; rfl
  · obtain ⟨v, hv, hv2⟩ := tmod_nat (n := n) (x := x) (by omega)
    refine ⟨v, c1, rn_else (fun h => h1 (of_decide_eq_true h)) (rn_call hn (rn_bind (r := (0, [c1, .int n])) (out_else (fun h => h2 (of_decide_eq_true h)) rfl) (rn_if (by simp; omega) ?_))), .inl hv2, hc1.mono (by omega)⟩
    simp [hv]

theorem f_one {bs : List D} (hb : Bytes bs) {k : Nat} {c : D} (hc : Cu bs k c) (hk : k ≤ 900000) (x : Int) :
    ∃ (b : Bool) (c' : D), e_spec_l1Cur_one.F [c, .int x] = some (.pair (.bool b) (.pair c' .unit)) ∧ Cu bs (k + 2) c' := by
  obtain ⟨v, c', h, _, hc'⟩ := f_pick hb hc hk x
  rw [q_spec_l1Cur_one]
  exact ⟨_, c', rn_call h rfl, hc'⟩

theorem f_of {bs : List D} (hb : Bytes bs) {k : Nat} {c : D} (hc : Cu bs k c) (hk : k ≤ 900000) {xs : List D} (hx : 0 < xs.length) :
    ∃ (x : D) (c' : D), e_spec_l1Cur_of.F [c, .lst xs] = some (.pair x (.pair c' .unit)) ∧ x ∈ xs ∧ Cu bs (k + 2) c' := by
  obtain ⟨v, c', h, hv, hc'⟩ := f_pick hb hc hk xs.length
  have hlt : v < xs.length := by omega
  rw [q_spec_l1Cur_of]
  refine ⟨gd xs v, c', rn_call h (rn_if (inb_nat hlt) ?_), ?_, hc'⟩
  · simp
  · rw [gd_lt hlt]; exact List.getElem_mem hlt

def poolS : List (List UInt8) := [[97, 46, 101, 120, 46, 99, 111, 109], [98, 46, 101, 120, 46, 99, 111, 109], [99, 46, 101, 120, 46, 99, 111, 109], [100, 46, 101, 120, 46, 99, 111, 109]]
theorem f_hosts {bs : List D} (hb : Bytes bs) {k : Nat} {c : D} (hc : Cu bs k c) (hk : k ≤ 800000) :
    ∃ (ls : List (List UInt8)) (c' : D), e_spec_l1Cur_hosts.F [c] = some (.pair (.lst (ls.map D.str)) (.pair c' .unit)) ∧ ls.length ≤ 5 ∧ (∀ s ∈ ls, s.length ≤ 8) ∧ Cu bs (k + 6) c' := by
  obtain ⟨v, c1, h1, hv, hc1⟩ := f_pick hb hc (by omega) 4
  obtain ⟨b, c2, h2, hc2⟩ := f_one hb hc1 (by omega) 30
  have hv4 : v ≤ 3 := by omega
  have hw : IntKind.wrap .i64 (1 + (v : Int)) = ((v + 1 : Nat) : Int) := by rw [wrap_id] <;> omega
  have hpl : ∀ n : Nat, n ≤ 4 → (poolS.take n).length ≤ 4 ∧ ∀ s ∈ poolS.take n, s.length ≤ 8 := by
    intro n hn
    refine ⟨by rw [List.length_take]; omega, fun s hs => ?_⟩
    have h0 : ∀ s ∈ poolS, s.length ≤ 8 := by decide
    exact h0 s (List.mem_of_mem_take hs)
  have htk : (((D.str [97, 46, 101, 120, 46, 99, 111, 109]) :: ((D.str [98, 46, 101, 120, 46, 99, 111, 109]) :: ((D.str [99, 46, 101, 120, 46, 99, 111, 109]) :: ((D.str [100, 46, 101, 120, 46, 99, 111, 109]) :: ([] : List D))))).drop 0).take ((v + 1 : Nat) : Int).toNat = (poolS.take (v + 1)).map D.str := by
    rw [List.map_take]; rfl
  rw [q_spec_l1Cur_hosts]
  have hsl : slOk 0 ((v + 1 : Nat) : Int) 4 = true := by simp [slOk]; omega
  have hwin : winOk 0 ((v + 1 : Nat) : Int).toNat ((D.str [97, 46, 101, 120, 46, 99, 111, 109]) :: ((D.str [98, 46, 101, 120, 46, 99, 111, 109]) :: ((D.str [99, 46, 101, 120, 46, 99, 111, 109]) :: ((D.str [100, 46, 101, 120, 46, 99, 111, 109]) :: ([] : List D))))) = true := by simp [winOk]; omega
  have hpv := hpl (v + 1) (by omega)
  have hcase : ∃ (ls : List (List UInt8)) (c' : D), ls.length ≤ 5 ∧ (∀ s ∈ ls, s.length ≤ 8) ∧ Cu bs (k + 6) c' ∧ ((if b = true then
      if (appOk 16 ([] : List D) ((poolS.take (v + 1)).map D.str)) then
      (e_spec_l1Cur_of.F [c2, (D.lst ((D.str []) :: ((D.str [97, 46, 101, 120, 46, 99, 111, 109]) :: ((D.str [65]) :: ([] : List D)))))]).bind fun r3 =>
      if (appOk 16 (([] : List D) ++ ((poolS.take (v + 1)).map D.str)) ((r3.fld 0) :: ([] : List D))) then
      ou 0 [(r3.fld 1), (D.lst ((([] : List D) ++ ((poolS.take (v + 1)).map D.str)) ++ ((r3.fld 0) :: ([] : List D))))]
      else none
      else none
    else
      ou 0 [c2, (D.lst ((poolS.take (v + 1)).map D.str))]) = some (0, [c', .lst (ls.map D.str)])) := by
    cases b with
    | false =>
      exact ⟨poolS.take (v + 1), c2, by omega, hpv.2, hc2.mono (by omega), rfl⟩
    | true =>
      obtain ⟨x, c3, h3, hx, hc3⟩ := f_of hb hc2 (by omega) (xs := ((D.str []) :: ((D.str [97, 46, 101, 120, 46, 99, 111, 109]) :: ((D.str [65]) :: ([] : List D))))) (by simp)
      have hxs : ∃ s : List UInt8, x = .str s ∧ s.length ≤ 8 := by
        simp only [List.mem_cons, List.not_mem_nil, or_false] at hx
        rcases hx with rfl | rfl | rfl <;> exact ⟨_, rfl, by decide⟩
      obtain ⟨s, rfl, hs⟩ := hxs
      refine ⟨poolS.take (v + 1) ++ [s], c3, by simp only [List.length_append, List.length_singleton]; omega, ?_, hc3.mono (by omega), ?_⟩
      · intro t ht
        simp only [List.mem_append, List.mem_singleton] at ht
        rcases ht with ht | rfl
        · exact hpv.2 t ht
        · exact hs
      · have hsm : smax = 9223372036854775807 := smax_eq
        refine out_if rfl (out_if (by simp [appOk, smax_eq]; omega) (out_call h3 (out_if (by simp [appOk, smax_eq]; omega) ?_)))
        simp
  obtain ⟨ls, c', hl, hm, hc', hcase⟩ := hcase
  refine ⟨ls, c', rn_call h1 ?_, hl, hm, hc'⟩
  simp only [D.fld, D.fst_pair, D.snd_pair, D.i_int, hw]
  refine rn_if hsl (rn_if hwin ?_)
  rw [show ((((v + 1 : Nat) : Int).toNat - 0 : Nat) : Int).toNat = ((v + 1 : Nat) : Int).toNat by simp, htk]
  exact rn_bind (out_call h2 hcase) rfl
end Go.Proofs.YtbanjbafckgghaaDoor

/-! What the laws draw: probes and a health. -/
namespace Go.Own
variable [Glb]
open Go
theorem sel0 {a : Outc} {b : Nat → Outc} {R : Outc} (h : a = R) : sel2 0 a b = R := h
/-- a loop that counts down -/
theorem loop_down {σ : Type} {f : List D → Outc} {l : List D} (enc : Nat → σ → List D) (Inv : Nat → σ → Prop) {t : Nat} {out : σ → List D} (n : Nat) (s0 : σ) (hl : l = enc n s0) (h0 : Inv n s0)
    (h : ∀ m s, Inv (m + 1) s → ∃ s', f (enc (m + 1) s) = some (0, enc m s') ∧ Inv m s') (hn : ∀ s, Inv 0 s → f (enc 0 s) = some (t + 1, out s)) : ∃ s, Inv 0 s ∧ loopF f l = some (t, out s) := by
  subst hl
  induction n generalizing s0 with
  | zero => exact ⟨s0, h0, loopF_exit (hn s0 h0)⟩
  | succ m ih =>
    obtain ⟨s', h1, h2⟩ := h m s0 h0
    obtain ⟨s, h3, h4⟩ := ih s' h2
    exact ⟨s, h3, by rw [loopF_step h1]; exact h4⟩
end Go.Own
namespace Go.Proofs.YtbanjbafckgghaaDoor
open Go Go.Own

theorem prbs_set {ps : List Prb} {i : Nat} {p : Prb} : (ps.map Prb.d).set i p.d = (ps.set i p).map Prb.d := by simp [List.map_set]

theorem f_probes {bs : List D} (hb : Bytes bs) {k : Nat} {c : D} (hc : Cu bs k c) (hk : k ≤ 700000) (x : Int) :
    ∃ (ps : List Prb) (c' : D), e_spec_l1Cur_probes.F [c, .int x] = some (.pair (.lst (ps.map Prb.d)) (.pair c' .unit)) ∧ ps.length ≤ 201 ∧ Cu bs (k + 1000) c' := by
  obtain ⟨v, c1, h1, hv, hc1⟩ := f_pick hb hc (by omega) 30
  obtain ⟨b, c2, h2, hc2⟩ := f_one hb hc1 (by omega) 20
  rw [q_spec_l1Cur_probes]
  -- how many
  have hn : ∃ (n : Nat) (c3 : D), n ≤ 201 ∧ Cu bs (k + 6) c3 ∧ (if b = true then
      (e_spec_l1Cur_pick.F [c2, (.int 2)]).bind fun r4 =>
      ou 0 [(r4.fld 1), (.int (IntKind.wrap .i64 (200 + (r4.fld 0).i)))]
    else
      ou 0 [c2, .int v]) = some (0, [c3, .int n]) := by
    cases b with
    | false => exact ⟨v, c2, by omega, hc2.mono (by omega), rfl⟩
    | true =>
      obtain ⟨w, c3, h3, hw, hc3⟩ := f_pick hb hc2 (by omega) 2
      have hww : IntKind.wrap .i64 (200 + (w : Int)) = ((200 + w : Nat) : Int) := by rw [wrap_id] <;> omega
      refine ⟨200 + w, c3, by omega, hc3.mono (by omega), out_if rfl (out_call h3 ?_)⟩
      simp only [D.fld, D.fst_pair, D.snd_pair, D.i_int, hww]
  obtain ⟨n, c3, hn2, hc3, hn⟩ := hn
  refine (?_ : ∃ (ps : List Prb) (c' : D), rn _ = _ ∧ _)
  -- the loop
  have hloop := loop_down (f := fun l5 =>
        if (decide ((gd l5 2).i > 0)) then
          (e_spec_l1Cur_pick.F [(gd l5 0), .int x]).bind fun r8 =>
          (e_spec_l1Cur_one.F [(r8.fld 1), (.int 2)]).bind fun r9 =>
          if (appOk 16 (gd l5 1).l ((.pair (r8.fld 0) (.pair (r9.fld 0) .unit)) :: ([] : List D))) then
          ou 0 [(r9.fld 1), (D.lst ((gd l5 1).l ++ ((.pair (r8.fld 0) (.pair (r9.fld 0) .unit)) :: ([] : List D)))), (.int (IntKind.wrap .i64 ((gd l5 2).i - 1)))]
          else none
        else
          ou 1 [(gd l5 0), (gd l5 1)]) (l := [c3, (D.lst []), .int n]) (t := 0) (out := fun (s : D × List Prb) => [s.1, .lst (s.2.map Prb.d)])
    (fun m (s : D × List Prb) => [s.1, .lst (s.2.map Prb.d), .int m]) (fun m s => Cu bs (k + 6 + 4 * (n - m)) s.1 ∧ s.2.length = n - m ∧ m ≤ n) n (c3, []) rfl ⟨by simpa using hc3, by simp, Nat.le_refl _⟩ ?_ ?_
  · obtain ⟨⟨c5, ps⟩, ⟨hc5, hlp, _⟩, hl⟩ := hloop
    simp only at hc5 hlp
    -- one may be out of place
    have hlast : ∃ (ps' : List Prb) (c6 : D), ps'.length = ps.length ∧ Cu bs (k + 8 + 4 * n) c6 ∧ ((if (decide (((D.lst (ps.map Prb.d)).l.length : Int) > 0)) then
            (e_spec_l1Cur_one.F [c5, (.int 40)]).bind fun r7 =>
            ou 0 [(r7.fld 1), (r7.fld 0)]
          else
            ou 0 [c5, (.bool false)]).bind fun o7 =>
        sel2 o7.1 (if (gd o7.2 1).b then
            if (inb 0 (D.lst (ps.map Prb.d)).l.length) then
            ou 0 [(gd o7.2 0), (D.lst ((D.lst (ps.map Prb.d)).l.set 0 ((gd (D.lst (ps.map Prb.d)).l 0).setFld 0 (.int x))))]
            else none
          else
            ou 0 [(gd o7.2 0), D.lst (ps.map Prb.d)]) fun _ => none) = some (0, [c6, .lst (ps'.map Prb.d)]) := by
      have hlen : (D.lst (ps.map Prb.d)).l.length = ps.length := by simp
      rw [hlen]
      by_cases h0 : ps.length = 0
      · refine ⟨ps, c5, rfl, hc5.mono (by omega), out_bind (r := (0, [c5, .bool false])) (out_else (fun h => by have := of_decide_eq_true h; omega) rfl) (sel0 (out_else (by simp) rfl))⟩
      · obtain ⟨b7, c7, h7, hc7⟩ := f_one hb hc5 (by omega) 40
        cases b7 with
        | false => exact ⟨ps, c7, rfl, hc7.mono (by omega), out_bind (r := (0, [c7, .bool false])) (out_if (decide_eq_true (by omega)) (out_call h7 rfl)) (sel0 (out_else (by simp) rfl))⟩
        | true =>
          refine ⟨ps.set 0 ⟨x, (ps[0]'(by omega)).fine⟩, c7, by simp, hc7.mono (by omega), out_bind (r := (0, [c7, .bool true])) (out_if (decide_eq_true (by omega)) (out_call h7 rfl)) (sel0 (out_if rfl (out_if (inb_nat (i := 0) (n := ps.length) (by omega)) ?_)))⟩
          have hg : gd (D.lst (ps.map Prb.d)).l 0 = (ps[0]'(by omega)).d := gd_prbs (by omega)
          rw [hg, ← prbs_set]; rfl
    obtain ⟨ps', c6, hl6, hc6, hlast⟩ := hlast
    refine ⟨ps', c6, rn_call h1 (rn_bind (out_call h2 hn) ?_), by omega, hc6.mono (by omega)⟩
    simp only [sel2_zero, gd_zero, gd_one]
    refine rn_bind hl ?_
    simp only [sel2_zero, gd_zero, gd_one]
    exact rn_bind hlast rfl
  · rintro m ⟨s1, s2⟩ ⟨hi1, hi2, hi3⟩
    simp only at hi1 hi2
    obtain ⟨w, c8, h8, _, hc8⟩ := f_pick hb hi1 (by omega) x
    obtain ⟨b9, c9, h9, hc9⟩ := f_one hb hc8 (by omega) 2
    refine ⟨(c9, s2 ++ [⟨w, b9⟩]), out_if (decide_eq_true (by simp)) (out_call h8 (out_call h9 (out_if ?_ ?_))), hc9.mono (by omega), by simp; omega, by omega⟩
    · simp [appOk, smax_eq]; omega
    · have : IntKind.wrap .i64 (((m + 1 : Nat) : Int) - 1) = m := by rw [wrap_id] <;> omega
      simp only [gd_two, gd_one, D.i_int, this]
      simp [Prb.d]
  · rintro ⟨s1, s2⟩ _
    rfl

theorem f_drawPlay {bs : List D} (hb : Bytes bs) : ∃ (r f : Nat) (ls : List (List UInt8)) (ps : List Prb), e_spec_DrawPlayProbes.F [.lst bs] = some (.pair (.int r) (.pair (.int f) (.pair (.lst (ls.map D.str)) (.pair (.lst (ps.map Prb.d)) .unit)))) ∧
    ls.length ≤ 5 ∧ (∀ s ∈ ls, s.length ≤ 8) := by
  have hc0 : Cu bs 0 (cuD bs 0 0) := ⟨0, 0, rfl, by omega⟩
  obtain ⟨ls, c1, h1, hl, hm, hc1⟩ := f_hosts hb hc0 (by omega)
  obtain ⟨r, c2, h2, hr, hc2⟩ := f_pick hb hc1 (by omega) 3
  obtain ⟨f, c3, h3, hf, hc3⟩ := f_pick hb hc2 (by omega) 3
  obtain ⟨ps, c4, h4, hp, hc4⟩ := f_probes hb hc3 (by omega) ls.length
  rw [q_spec_DrawPlayProbes]
  refine ⟨1 + r, 1 + f, ls, ps, rn_call h1 (rn_call h2 (rn_call h3 ?_)), hl, hm⟩
  have hlen : ((D.pair (.lst (ls.map D.str)) (.pair c1 .unit)).fld 0).l.length = ls.length := by simp
  rw [hlen]
  refine rn_call h4 ?_
  have w1 : IntKind.wrap .i64 (1 + (r : Int)) = ((1 + r : Nat) : Int) := by rw [wrap_id] <;> omega
  have w2 : IntKind.wrap .i64 (1 + (f : Int)) = ((1 + f : Nat) : Int) := by rw [wrap_id] <;> omega
  simp only [D.fld, D.fst_pair, D.snd_pair, D.i_int, w1, w2]
  rfl

theorem play_good {r f : Int} {ls : List (List UInt8)} {ps : List Prb} (h : (Health.play r f ls ps).ok = true) : (Health.play r f ls ps).h.good = true := by
  have key : ∀ (ps : List Prb) (i : Nat) (s s' : Health × Nat), PlInv i s → foldE playG i s ps = .inl s' → s'.1.good = true := by
    intro ps
    induction ps with
    | nil => intro i s s' hi h; cases h; exact hi.1
    | cons p ps ih =>
      intro i s s' hi h
      unfold foldE at h
      cases hg : playG i s p with
      | inl t => rw [hg] at h; exact ih (i + 1) t s' (playG_inv hi hg) h
      | inr e => rw [hg] at h; cases h
  unfold Health.play at h ⊢
  split
  · rename_i hc; rw [if_pos hc] at h; cases h
  · rename_i hc
    rw [if_neg hc] at h
    simp only [Bool.or_eq_true, Bool.not_eq_true', decide_eq_true_eq, not_or, Bool.not_eq_false] at hc
    cases hf : foldE playG 0 ((Health.start r f ls).1, 0) ps with
    | inl s => exact key ps 0 _ s ⟨start_good hc.1, Nat.le_refl _⟩ hf
    | inr e => rw [hf] at h; cases h
theorem health0 : (Health.new 2 2 [[97, 46, 101, 120, 46, 99, 111, 109]]).good = true := by decide +kernel

theorem f_health {bs : List D} (hb : Bytes bs) {k : Nat} {c : D} (hc : Cu bs k c) (hk : k ≤ 600000) :
    ∃ (h : Health) (c' : D), e_spec_l1Cur_health.F [c] = some (.pair h.d (.pair c' .unit)) ∧ h.Fit ∧ h.hosts.length ≤ 12 ∧ Cu bs (k + 2000) c' := by
  obtain ⟨ls, c1, h1, hl, hm, hc1⟩ := f_hosts hb hc (by omega)
  obtain ⟨ps, c2, h2, hp, hc2⟩ := f_probes hb hc1 (by omega) ls.length
  obtain ⟨r, c4, h4, hr, hc4⟩ := f_pick hb hc2 (by omega) 3
  obtain ⟨f, c5, h5, hf, hc5⟩ := f_pick hb hc4 (by omega) 3
  have hlim : lim = 1048576 := rfl
  rw [q_spec_l1Cur_health]
  have hlen : ((D.pair (.lst (ls.map D.str)) (.pair c1 .unit)).fld 0).l.length = ls.length := by simp
  have hplen : ((D.pair (.lst (ps.map Prb.d)) (.pair c2 .unit)).fld 0).l.length = ps.length := by simp
  have hcut : ∃ qs : List Prb, qs.length ≤ 40 ∧ (if (decide ((ps.length : Int) > 40)) then
      if (slOk 0 40 (ps.length : Int)) then
      if (winOk 0 ((40 - 0 : Nat) : Int).toNat ((D.pair (.lst (ps.map Prb.d)) (.pair c2 .unit)).fld 0).l) then
      ou 0 [(D.lst ((((D.pair (.lst (ps.map Prb.d)) (.pair c2 .unit)).fld 0).l.drop 0).take ((40 - 0 : Nat) : Int).toNat))]
      else none
      else none
    else
      ou 0 [((D.pair (.lst (ps.map Prb.d)) (.pair c2 .unit)).fld 0)]) = some (0, [.lst (qs.map Prb.d)]) := by
    by_cases h40 : ps.length > 40
    · refine ⟨ps.take 40, by simp; omega, out_if (decide_eq_true (by omega)) (out_if (by simp [slOk]; omega) (out_if (by simp [winOk]; omega) ?_))⟩
      simp [List.map_take]
    · exact ⟨ps, by omega, out_else (fun h => by have := of_decide_eq_true h; omega) rfl⟩
  obtain ⟨qs, hq, hcut⟩ := hcut
  have w1 : IntKind.wrap .i64 (1 + (r : Int)) = ((1 + r : Nat) : Int) := by rw [wrap_id] <;> omega
  have w2 : IntKind.wrap .i64 (1 + (f : Int)) = ((1 + f : Nat) : Int) := by rw [wrap_id] <;> omega
  have hpl := f_specPlay (1 + r : Nat) (1 + f : Nat) ls qs (by omega) (fun s hs => by have := hm s hs; omega)
  -- a good one
  have hg : ∃ h : Health, h.good = true ∧ (if (!(Health.play (1 + r : Nat) (1 + f : Nat) ls qs).ok) then
        (e_spec_NewHealth.F [(.int 2), (.int 2), (D.lst ((D.str [97, 46, 101, 120, 46, 99, 111, 109]) :: ([] : List D)))]).bind fun r7 =>
        ou 0 [(r7.fld 0)]
      else
        ou 0 [(Health.play (1 + r : Nat) (1 + f : Nat) ls qs).h.d]) = some (0, [h.d]) := by
    cases hok : (Health.play (1 + r : Nat) (1 + f : Nat) ls qs).ok with
    | true => exact ⟨_, play_good hok, rfl⟩
    | false =>
      have hn := f_specNew 2 2 [[97, 46, 101, 120, 46, 99, 111, 109]] (by decide) (by decide)
      unfold Health.start at hn
      rw [health0] at hn
      exact ⟨_, health0, out_if rfl (out_call hn rfl)⟩
  obtain ⟨h, hgd, hg⟩ := hg
  have hln := Health.len_R hgd
  have hfit := Health.good_fit hgd
  obtain ⟨b8, c8, h8, hc8⟩ := f_one hb hc5 (by omega) 20
  have hfin : ∃ (h' : Health) (c9 : D), h'.Fit ∧ h'.hosts.length ≤ 12 ∧ Cu bs (k + 2000) c9 ∧ (if b8 = true then
          if (inb 0 (h.d.fld 2).l.length) then
          (e_spec_l1Cur_pick.F [c8, (.int 4)]).bind fun r9 =>
          ou 0 [(r9.fld 1), (h.d.setFld 2 (D.lst ((h.d.fld 2).l.set 0 ((gd (h.d.fld 2).l 0).setFld 2 (.int (IntKind.wrap .i64 (((gd (h.d.fld 2).l 0).fld 2).i + (r9.fld 0).i)))))))]
          else none
        else
          ou 0 [c8, h.d]) = some (0, [c9, h'.d]) := by
    cases b8 with
    | false => exact ⟨h, c8, hfit, hln.2, hc8.mono (by omega), rfl⟩
    | true =>
      obtain ⟨w, c9, h9, hw, hc9⟩ := f_pick hb hc8 (by omega) 4
      have h0 : 0 < h.hosts.length := by omega
      have hd2 : (h.d.fld 2).l = h.hosts.map Host.d := rfl
      have hg0 : gd (h.hosts.map Host.d) 0 = (h.hosts[0]).d := gd_hosts h0
      have hrng := wrap_range64 ((h.hosts[0]).row + w)
      refine ⟨h.put 0 ⟨(h.hosts[0]).name, (h.hosts[0]).up, IntKind.wrap .i64 ((h.hosts[0]).row + w)⟩, c9, ⟨by simpa [Health.put] using hfit.len, ?_, ?_, hfit.rise, hfit.fall⟩, by simpa [Health.put] using hln.2, hc9.mono (by omega), out_if rfl (out_if (by rw [hd2]; simpa using inb_nat h0) (out_call h9 ?_))⟩
      · intro x hx
        rcases List.mem_or_eq_of_mem_set hx with hx | rfl
        · exact hfit.nm x hx
        · exact hfit.nm (h.hosts[0]) (List.getElem_mem h0)
      · intro x hx
        rcases List.mem_or_eq_of_mem_set hx with hx | rfl
        · exact hfit.row x hx
        · exact hrng
      · rw [hd2, hg0, Health.put_d]
        rfl
  obtain ⟨h', c9, hf', hl', hc9, hfin⟩ := hfin
  refine ⟨h', c9, rn_call h1 ?_, hf', hl', hc9⟩
  rw [hlen]
  refine rn_call h2 ?_
  rw [hplen]
  refine rn_bind hcut ?_
  simp only [sel2_zero, gd_zero]
  refine rn_call h4 (rn_call h5 ?_)
  simp only [D.fld, D.fst_pair, D.snd_pair, D.i_int, w1, w2]
  refine rn_call hpl (rn_bind hg ?_)
  simp only [sel2_zero, gd_zero]
  refine rn_bind (out_call h8 hfin) ?_
  rfl

theorem f_drawTake {bs : List D} (hb : Bytes bs) : ∃ (h : Health) (p : Prb), e_spec_DrawTakeProbe.F [.lst bs] = some (.pair h.d (.pair p.d .unit)) ∧ h.Fit ∧ h.hosts.length ≤ 12 := by
  have hc0 : Cu bs 0 (cuD bs 0 0) := ⟨0, 0, rfl, by omega⟩
  obtain ⟨h, c1, h1, hf, hl, hc1⟩ := f_health hb hc0 (by omega)
  have hlen : (((D.pair h.d (.pair c1 .unit)).fld 0).fld 2).l.length = h.hosts.length := by simp [Health.d]
  rw [q_spec_DrawTakeProbe]
  obtain ⟨v, c2, h2, hv, hc2⟩ := f_pick hb hc1 (by omega) (IntKind.wrap .i64 ((h.hosts.length : Int) + 2))
  obtain ⟨b, c3, h3, hc3⟩ := f_one hb hc2 (by omega) 2
  refine ⟨h, ⟨IntKind.wrap .i64 ((v : Int) - 1), b⟩, rn_call h1 ?_, hf, hl⟩
  rw [hlen]
  exact rn_call h2 (rn_call h3 rfl)
theorem f_drawUp {bs : List D} (hb : Bytes bs) : ∃ (h : Health), e_spec_DrawUpIn.F [.lst bs] = some h.d ∧ h.Fit ∧ h.hosts.length ≤ 12 := by
  have hc0 : Cu bs 0 (cuD bs 0 0) := ⟨0, 0, rfl, by omega⟩
  obtain ⟨h, c1, h1, hf, hl, hc1⟩ := f_health hb hc0 (by omega)
  have h2 : e_spec_DrawGoodHealth.F [.lst bs] = some h.d := by
    rw [q_spec_DrawGoodHealth]; exact rn_call h1 rfl
  rw [q_spec_DrawUpIn]
  exact ⟨h, rn_call h2 rfl, hf, hl⟩
end Go.Proofs.YtbanjbafckgghaaDoor

/-! Health: the law of probes. -/
namespace Go.Proofs.YtbanjbafckgghaaDoor
open Go Go.Own

theorem host_beq (x : Host) : D.beq x.d x.d = true := by simp [Host.d, D.beq]

theorem f_sameHealths {h : Health} (hl : h.hosts.length ≤ smax) : e_laws_sameHealths.F [h.d, h.d] = some (.bool true) := by
  have hd2 : (h.d.fld 2).l = h.hosts.map Host.d := rfl
  have hlen : (h.d.fld 2).l.length = h.hosts.length := by rw [hd2]; simp
  rw [q_laws_sameHealths, hlen]
  refine rn_bind (r := (0, [.bool false])) (out_else (by simp) (out_else (by simp) (by simp))) ?_
  simp only [sel2_zero, gd_zero]
  refine rn_else (by simp) ?_
  refine rn_bind (loop_for' (fun i (_ : Unit) => [.int i]) h.hosts.length (fun _ => ()) (t := 1) (o := []) rfl ?_ ?_) rfl
  · intro i hi
    have hg : gd (h.hosts.map Host.d) i = (h.hosts[i]).d := gd_hosts hi
    refine out_if (by simpa using hi) (out_if (by simpa using inb_nat hi) (out_if (by simpa using inb_nat hi) ?_))
    simp only [gd_zero, D.i_int, Int.toNat_natCast, hd2, hg, host_beq]
    simp [wrap_succ hi hl]
  · simp

theorem good_distinct {h : Health} (hg : h.good = true) {i j : Nat} (hi : i < h.hosts.length) (hj : j < i) : (h.hosts[j]'(by omega)).name ≠ h.hosts[i].name := by
  simp only [Health.good, Bool.and_eq_true] at hg
  have := allN_true.1 hg.2.2 i hi
  unfold nameOk at this
  rw [Health.names_get hi] at this
  simp only [Bool.and_eq_true, Bool.not_eq_true'] at this
  have hs := this.2.2
  intro he
  unfold seen at hs
  rw [List.any_eq_false] at hs
  have hm : (h.hosts[j]'(by omega)).name ∈ h.names.take i := by
    rw [List.mem_take_iff_getElem]
    refine ⟨j, by simp [Health.names]; omega, by simp [Health.names]⟩
  exact hs _ hm (by simp [he])

theorem f_findHost {h : Health} (hg : h.good = true) {i : Nat} (hi : i < h.hosts.length) : e_impl_Health_findHost.F [h.d, .str h.hosts[i].name] = some (.int i) := by
  have hl : h.hosts.length ≤ smax := by have := (Health.len_R hg).2; rw [smax_eq]; omega
  have hd2 : h.d.fld 2 = .lst (h.hosts.map Host.d) := rfl
  rw [q_impl_Health_findHost, hd2]
  have key : e_slices_IndexFunc_impl_Host_impl_Host__impl_Health_findHost_1.F [.lst (h.hosts.map Host.d), .pair (.str h.hosts[i].name) .unit] = some (.int i) := by
    rw [q_slices_IndexFunc_impl_Host_impl_Host__impl_Health_findHost_1]
    have hp : ∀ j (hj : j < h.hosts.length), e_impl_Health_findHost_1.F [(h.hosts[j]).d, .str h.hosts[i].name] = some (.bool ((h.hosts[j]).name == h.hosts[i].name)) := by
      intro j hj; rw [q_impl_Health_findHost_1]; rfl
    have := loop_find (f := fun l2 =>
      if (decide ((gd l2 0).i < ((D.lst (h.hosts.map Host.d)).l.length : Int))) then
        if (inb (gd l2 0).i (D.lst (h.hosts.map Host.d)).l.length) then
        (e_impl_Health_findHost_1.F [(gd (D.lst (h.hosts.map Host.d)).l (gd l2 0).i.toNat), ((D.pair (.str h.hosts[i].name) .unit).fld 0)]).bind fun r3 =>
        if r3.b then
          ou 1 [(gd l2 0)]
        else
          ou 0 [(.int (IntKind.wrap .i64 ((gd l2 0).i + 1)))]
        else none
      else
        ou 2 []) (l := [.int 0]) (fun j => [.int j]) h.hosts.length (fun j => !((h.host j).name == h.hosts[i].name)) (t1 := 0) (t2 := 1) (o1 := fun j => [.int j]) (o2 := []) rfl ?_ ?_ ?_
    · rcases this with ⟨hall, _⟩ | ⟨k, hk, hpk, hbk, hloop⟩
      · exfalso
        have := hall i hi
        simp [Health.host_lt hi] at this
      · have hki : k = i := by
          simp only [Bool.not_eq_false', beq_iff_eq] at hpk
          rw [Health.host_lt hk] at hpk
          by_cases h1 : k < i
          · exact absurd hpk (good_distinct hg hi h1)
          · by_cases h2 : i < k
            · exfalso
              have := hbk i h2
              simp [Health.host_lt hi] at this
            · omega
        subst hki
        exact rn_bind hloop rfl
    · intro j hj h1
      have h1' : ((h.hosts[j]).name == h.hosts[i].name) = false := by
        rw [Health.host_lt hj] at h1; simpa using h1
      have := hp j hj
      rw [h1'] at this
      simp [hj, inb_nat hj, wrap_succ hj hl, gd_hosts hj, this]
    · intro j hj h1
      have h1' : ((h.hosts[j]).name == h.hosts[i].name) = true := by
        rw [Health.host_lt hj] at h1; simpa using h1
      have := hp j hj
      rw [h1'] at this
      simp [hj, inb_nat hj, gd_hosts hj, this]
    · simp
  exact rn_call key rfl

theorem f_isUp {h : Health} (hg : h.good = true) {i : Nat} (hi : i < h.hosts.length) : e_impl_IsUp.F [h.d, .str h.hosts[i].name] = some (.pair (.bool h.hosts[i].up) (.pair (.bool true) .unit)) := by
  have hl : h.hosts.length ≤ smax := by have := (Health.len_R hg).2; rw [smax_eq]; omega
  have hgd := f_implGoodHealth h hl
  rw [hg] at hgd
  have hd2 : (h.d.fld 2).l = h.hosts.map Host.d := rfl
  have hg0 : gd (h.hosts.map Host.d) i = (h.hosts[i]).d := gd_hosts hi
  rw [q_impl_IsUp]
  refine rn_call hgd (rn_else (by simp) (rn_call (f_findHost hg hi) (rn_else ?_ ?_)))
  · intro hc
    have hc' : (i : Int) < 0 := of_decide_eq_true hc
    omega
  · rw [hd2]
    refine rn_if (by simpa using inb_nat hi) ?_
    simp only [D.i_int, Int.toNat_natCast, hg0]
    rfl

theorem f_rowOf {h : Health} (hg : h.good = true) {i : Nat} (hi : i < h.hosts.length) : e_impl_RowOf.F [h.d, .int i] = some (.pair (.int h.hosts[i].row) (.pair (.bool true) .unit)) := by
  have hl : h.hosts.length ≤ smax := by have := (Health.len_R hg).2; rw [smax_eq]; omega
  have hgd := f_implGoodHealth h hl
  rw [hg] at hgd
  have hd2 : (h.d.fld 2).l = h.hosts.map Host.d := rfl
  have hg0 : gd (h.hosts.map Host.d) i = (h.hosts[i]).d := gd_hosts hi
  have hw := f_within' i 0 (h.hosts.length - 1)
  have hr : inR (i : Int) 0 (h.hosts.length - 1) = true := by simp [inR]; omega
  rw [hr] at hw
  rw [q_impl_RowOf, hd2, List.length_map, wrap_len hl]
  refine rn_bind (r := (0, [.bool false])) (out_call hgd (out_else (by simp) (out_call hw rfl))) ?_
  simp only [sel2_zero, gd_zero]
  refine rn_else (by simp) (rn_if (by simpa using inb_nat hi) ?_)
  simp only [D.i_int, Int.toNat_natCast, hg0]
  rfl

/-- the places that are up -/
def Health.ups (h : Health) : List (List UInt8) := (h.hosts.filter (·.up)).map (·.name)
def upsAt (h : Health) (i : Nat) : D := .lst ((((h.hosts.take i).filter (·.up)).map (·.name)).map D.str)
theorem upsAt_len (h : Health) (i : Nat) (hl : h.hosts.length ≤ 12) {x : D} : appOk 16 (upsAt h i).l [x] = true := by
  have : (upsAt h i).l.length ≤ 12 := by
    simp only [upsAt, D.l_lst, List.length_map]
    have h1 := List.length_filter_le (·.up) (h.hosts.take i)
    rw [List.length_take] at h1
    omega
  unfold appOk
  simp [smax_eq]; omega
theorem upsAt_succ {h : Health} {i : Nat} (hi : i < h.hosts.length) : upsAt h (i + 1) = if h.hosts[i].up then .lst ((upsAt h i).l ++ [.str h.hosts[i].name]) else upsAt h i := by
  unfold upsAt
  rw [List.take_succ_eq_append_getElem hi]
  cases hu : h.hosts[i].up <;> simp [List.filter_append, hu, -List.take_append_getElem]
theorem up_loop {h : Health} (hl : h.hosts.length ≤ 12) : loopF (fun l2 =>
        if (decide ((gd l2 1).i < ((h.d.fld 2).l.length : Int))) then
          (if (inb (gd l2 1).i (h.d.fld 2).l.length) then
            if ((gd (h.d.fld 2).l (gd l2 1).i.toNat).fld 1).b then
              if (appOk 16 (gd l2 0).l (((gd (h.d.fld 2).l (gd l2 1).i.toNat).fld 0) :: ([] : List D))) then
              ou 0 [(D.lst ((gd l2 0).l ++ (((gd (h.d.fld 2).l (gd l2 1).i.toNat).fld 0) :: ([] : List D))))]
              else none
            else
              ou 0 [(gd l2 0)]
            else none).bind fun o4 =>
          sel2 o4.1 (ou 0 [(gd o4.2 0), (.int (IntKind.wrap .i64 ((gd l2 1).i + 1)))]) fun _ => none
        else
          ou 1 [(gd l2 0)]) [(D.lst []), (.int 0)] = some (0, [.lst (h.ups.map D.str)]) := by
  have hd2 : (h.d.fld 2).l = h.hosts.map Host.d := rfl
  have hlen : (h.d.fld 2).l.length = h.hosts.length := by rw [hd2]; simp
  have hall : upsAt h h.hosts.length = .lst (h.ups.map D.str) := by simp [upsAt, Health.ups]
  refine loop_for' (fun i (z : D) => [z, .int i]) h.hosts.length (upsAt h) (by simp [upsAt]) ?_ ?_
  · intro i hi
    have hg : gd (h.hosts.map Host.d) i = (h.hosts[i]).d := gd_hosts hi
    have f1 : ((h.hosts[i]).d.fld 1).b = h.hosts[i].up := rfl
    have f0 : (h.hosts[i]).d.fld 0 = .str h.hosts[i].name := rfl
    rw [hlen]
    simp only [gd_zero, gd_one, D.i_int, Int.toNat_natCast, hd2, hg, f0, f1]
    refine out_if (decide_eq_true (by omega)) (out_bind (r := (0, [upsAt h (i + 1)])) (out_if (inb_nat hi) ?_) ?_)
    · rw [upsAt_succ hi]
      cases hu : h.hosts[i].up with
      | false => rfl
      | true => exact out_if rfl (out_if (upsAt_len h i hl) rfl)
    · simp only [sel2_zero, gd_zero]
      rw [wrap_succ hi (by rw [smax_eq]; omega)]
  · rw [hall, hlen]
    simp

def upped (h : Health) : D := if h.good = true then .pair (.lst (h.ups.map D.str)) (.pair (.bool true) .unit) else .pair (.lst []) (.pair (.bool false) .unit)
theorem f_implUp {h : Health} (hl : h.hosts.length ≤ 12) : e_impl_UpIn.F [h.d] = some (upped h) := by
  have hgd := f_implGoodHealth h (by rw [smax_eq]; omega)
  rw [q_impl_UpIn]
  refine rn_call hgd ?_
  unfold upped
  cases hg : h.good with
  | false => exact rn_if rfl rfl
  | true => exact rn_else (by simp) (rn_bind (up_loop hl) rfl)
theorem f_specUp {h : Health} (hf : h.Fit) (hl : h.hosts.length ≤ 12) : e_spec_UpIn.F [h.d] = some (upped h) := by
  have hgd := f_specGoodHealth h hf
  rw [q_spec_UpIn]
  refine rn_call hgd ?_
  unfold upped
  cases hg : h.good with
  | false => exact rn_if rfl rfl
  | true => exact rn_else (by simp) (rn_bind (up_loop hl) rfl)
theorem f_sameTexts {ls : List (List UInt8)} (hl : ls.length ≤ smax) : e_laws_sameTexts.F [.lst (ls.map D.str), .lst (ls.map D.str)] = some (.bool true) := by
  rw [q_laws_sameTexts, if_neg (by simp)]
  refine rn_bind (loop_for' (fun i (_ : Unit) => [.int i]) ls.length (fun _ => ()) (t := 1) (o := []) rfl ?_ ?_) rfl
  · intro i hi
    simp [hi, gd_strs hi, inb_nat hi, wrap_succ hi hl]
  · simp

theorem ups_host {h : Health} {s : List UInt8} (hs : s ∈ h.ups) : ∃ i, ∃ hi : i < h.hosts.length, s = h.hosts[i].name ∧ h.hosts[i].up = true := by
  obtain ⟨x, hx, rfl⟩ := List.mem_map.1 hs
  obtain ⟨h1, h2⟩ := List.mem_filter.1 hx
  obtain ⟨i, hi, rfl⟩ := List.getElem_of_mem h1
  exact ⟨i, hi, rfl, h2⟩

/-- what a taken probe leaves alone -/
theorem probed_other {h : Health} {i j : Nat} (fine : Bool) (hj : j < h.hosts.length) (hne : j ≠ i) : (h.probed i fine).1.hosts[j]'(by rw [Health.probed_len]; exact hj) = h.hosts[j] := by
  simp only [Health.probed, Health.put]
  rw [List.getElem_set_ne (Ne.symm hne)]
theorem probed_same {h : Health} {i : Nat} (fine : Bool) (hi : i < h.hosts.length) : (h.probed i fine).1.hosts[i]'(by rw [Health.probed_len]; exact hi) = (h.stepH h.hosts[i] fine).1 := by
  simp only [Health.probed, Health.put, Health.host_lt hi, List.getElem_set_self]
theorem step_flip (h : Health) (x : Host) (fine : Bool) : (h.stepH x fine).2 = !((h.stepH x fine).1.up == x.up) := by
  unfold Health.stepH
  split
  · simp
  · split
    · simp
    · cases x.up <;> rfl

theorem law_FnProbes {a b : D} (ha : Sm smax (.lst false (.int .u8)) a) (hb : Sm smax (.lst false (.int .u8)) b) : e_laws_FnProbes.F [a, b] = some (.bool true) := by
  obtain ⟨xs, rfl, hxs⟩ := bytes_ofD ha
  obtain ⟨bs, rfl, hbs⟩ := bytes_ofD hb
  rw [q_laws_FnProbes]
  by_cases hbig : (IntKind.wrap .i64 (((D.lst xs).l.length : Int) + ((D.lst bs).l.length : Int))) > 1048576
  · exact rn_if (decide_eq_true hbig) rfl
  refine rn_else (fun h => hbig (of_decide_eq_true h)) ?_
  obtain ⟨h, p, h1, hf, hl⟩ := f_drawTake hxs
  have hsm : h.hosts.length ≤ smax := by rw [smax_eq]; omega
  have h2 := f_implTake hsm p
  have h3 := f_specTake hf p
  have htl := Health.take_len h p
  have hse := f_sameHealths (h := (h.take p).1) (by omega)
  have hgi := f_implGoodHealth h hsm
  have hgs := f_specGoodHealth h hf
  have f0 : (taken (h.take p)).fld 0 = (h.take p).1.d := rfl
  have f1 : (taken (h.take p)).fld 1 = .bool (h.take p).2.1 := rfl
  have f2 : (taken (h.take p)).fld 2 = .bool (h.take p).2.2 := rfl
  refine rn_call h1 (rn_call h2 (rn_call h3 ?_))
  refine rn_bind (r := (0, [.bool false])) ?_ ?_
  · rw [f0]
    exact out_else (by simp) (out_else (by simp) (out_call hse (out_else (by simp) (out_call hgi (out_call hgs (by simp))))))
  simp only [sel2_zero, gd_zero]
  refine rn_else (by simp) ?_
  refine rn_bind (r := (0, [])) ?_ ?_
  · -- the probe
    rw [f2, f1, f0]
    have r0 : (D.pair h.d (.pair p.d .unit)).fld 0 = h.d := rfl
    have r1 : ((D.pair h.d (.pair p.d .unit)).fld 1).fld 0 = .int p.host := rfl
    rw [r0, r1]
    by_cases hok : (h.good && inR p.host 0 (h.hosts.length - 1)) = true
    · have htk : h.take p = ((h.probed p.host.toNat p.fine).1, (h.probed p.host.toNat p.fine).2, true) := by unfold Health.take; rw [if_pos hok]
      rw [htk]
      simp only [Bool.and_eq_true] at hok
      have hg := hok.1
      have hr := hok.2
      simp only [inR, Bool.and_eq_true, decide_eq_true_eq] at hr
      obtain ⟨ph, pf⟩ := p
      obtain ⟨n, rfl⟩ := Int.eq_ofNat_of_zero_le hr.1
      have hn : n < h.hosts.length := by simp only at hr; omega
      simp only [D.i_int, Int.toNat_natCast]
      have hpl := Health.probed_len h n pf
      have hp2 : (((h.probed n pf).1.d).fld 2).l = (h.probed n pf).1.hosts.map Host.d := rfl
      have hh2 : (h.d.fld 2).l = h.hosts.map Host.d := rfl
      have hpll : ((h.probed n pf).1.hosts.map Host.d).length = h.hosts.length := by rw [List.length_map, hpl]
      have hhl : (h.hosts.map Host.d).length = h.hosts.length := by simp
      simp only [hp2, hh2, hpll, hhl]
      refine out_if rfl ?_
      refine out_bind (r := (1, [])) (loop_for' (fun i (_ : Unit) => [.int i]) h.hosts.length (fun _ => ()) rfl ?_ ?_) ?_
      · intro i hi
        have g1 : gd (h.hosts.map Host.d) i = (h.hosts[i]).d := gd_hosts hi
        have g2 : gd ((h.probed n pf).1.hosts.map Host.d) i = ((h.probed n pf).1.hosts[i]'(by omega)).d := gd_hosts (by omega)
        refine out_if (decide_eq_true (by simp; omega)) (out_bind (r := (0, [.bool false])) ?_ ?_)
        · by_cases hin : i = n
          · subst hin
            exact out_else (by simp) rfl
          · refine out_if (by simp; omega) (out_if (inb_nat hi) (out_if (inb_nat hi) ?_))
            simp only [gd_zero, D.i_int, Int.toNat_natCast, g1, g2, probed_other pf hi hin, host_beq]
            rfl
        · refine sel0 (out_else (by simp) ?_)
          simp [wrap_succ hi hsm]
      · simp
      · simp only [sel2_one]
        have g1 : gd (h.hosts.map Host.d) n = (h.hosts[n]).d := gd_hosts hn
        have g2 : gd ((h.probed n pf).1.hosts.map Host.d) n = ((h.probed n pf).1.hosts[n]'(by omega)).d := gd_hosts (by omega)
        have hpg := Health.probed_good hg hn pf
        have hgp := f_implGoodHealth (h.probed n pf).1 (by omega)
        rw [hpg] at hgp
        refine sel0 (out_bind (r := (0, [.bool false])) (out_if (inb_nat hn) (out_if (inb_nat hn) (out_else ?_ (out_call hgp rfl)))) ?_)
        · simp only [g1, g2, probed_same pf hn]
          have e1 : ((h.stepH h.hosts[n] pf).1.d.fld 1).b = (h.stepH h.hosts[n] pf).1.up := rfl
          have e2 : (h.hosts[n].d.fld 1).b = h.hosts[n].up := rfl
          have e3 : (h.probed n pf).2 = (h.stepH h.hosts[n] pf).2 := by simp [Health.probed, Health.host_lt hn]
          rw [e1, e2, e3, step_flip]
          simp
        · exact sel0 (out_else (by simp) rfl)
    · have htk : h.take p = (Health.nul, false, false) := by unfold Health.take; rw [if_neg hok]
      rw [htk]
      exact out_else (by simp) rfl
  · simp only [sel2_zero]
    obtain ⟨g, k1, kf, kl⟩ := f_drawUp hbs
    have k2 := f_implUp kl
    have k3 := f_specUp kf kl
    refine rn_call k1 (rn_call k2 (rn_call k3 ?_))
    unfold upped
    cases hg : g.good with
    | false =>
      simp only [Bool.false_eq_true, if_false]
      refine rn_bind (r := (0, [.bool false])) (out_else (by simp) (out_call (f_sameTexts (ls := []) (by decide)) rfl)) ?_
      simp only [sel2_zero, gd_zero]
      refine rn_else (by simp) ?_
      refine rn_bind (loop_for' (fun i (_ : Unit) => [.int i]) 0 (fun _ => ()) (t := 1) (o := []) rfl ?_ ?_) rfl
      · intro i hi; omega
      · simp
    | true =>
      simp only [if_true]
      have hul : g.ups.length ≤ 12 := by
        have := List.length_filter_le (·.up) g.hosts
        simp only [Health.ups, List.length_map]; omega
      have hus : g.ups.length ≤ smax := by rw [smax_eq]; omega
      refine rn_bind (r := (0, [.bool false])) (out_else (by simp) (out_call (f_sameTexts hus) rfl)) ?_
      simp only [sel2_zero, gd_zero]
      refine rn_else (by simp) ?_
      refine rn_bind (loop_for' (fun i (_ : Unit) => [.int i]) g.ups.length (fun _ => ()) (t := 1) (o := []) rfl ?_ ?_) rfl
      · intro i hi
        have hgs := gd_strs hi
        obtain ⟨j, hj, hs, hup⟩ := ups_host (h := g) (List.getElem_mem hi)
        have hq := f_isUp hg hj
        rw [← hs, hup] at hq
        have hgs' : gd (g.ups.map D.str) i = .str g.ups[i] := by rw [hgs]; simp [hi]
        simp [hi, inb_nat hi, hgs', hq, wrap_succ hi hus]
      · simp
end Go.Proofs.YtbanjbafckgghaaDoor
