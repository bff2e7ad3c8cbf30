/- What the functions compute, in plain words. -/
import Derived.Test.YtbacjgkmkkphdaaGreatDoorP4
set_option linter.unusedSectionVars false
set_option linter.unusedVariables false
set_option linter.unusedSimpArgs false
namespace Go.Own
variable [Glb]
open Go
def cuD (bs : List D) (p : Nat) (a : Int) : D := .pair (.lst bs) (.pair (.int p) (.pair (.int a) .unit))
def Cu (bs : List D) (k : Nat) (c : D) : Prop := ∃ p a, c = cuD bs p a ∧ p ≤ k
theorem Cu.mono {bs : List D} {k m : Nat} {c : D} (h : Cu bs k c) (hk : k ≤ m) : Cu bs m c := by
 obtain ⟨p, a, rfl, h⟩ := h; exact ⟨p, a, rfl, by omega⟩
def Bytes (bs : List D) : Prop := ∀ x ∈ bs, ∃ n : Int, x = .int n ∧ 0 ≤ n ∧ n ≤ 255
theorem bytes_ofD {B : Nat} {o : Bool} {d : D} (h : Sm B (.lst o (.int .u8)) d) : ∃ bs, d = .lst bs ∧ Bytes bs := by
 obtain ⟨xs, rfl, _, h⟩ := h
 refine ⟨xs, rfl, fun x hx => ?_⟩
 obtain ⟨n, rfl, h1, h2⟩ := h x hx
 have e1 : IntKind.min .u8 = 0 := by decide
 have e2 : IntKind.max .u8 = 255 := by decide
 exact ⟨n, rfl, by omega, by omega⟩
theorem and255 (x : Int) : ∃ n : Nat, (D.ofBin (binInt .and .u64 x 255)).i = (n : Int) ∧ n ≤ 255 := by
 have h1 : (BitVec.ofInt 64 x &&& BitVec.ofInt 64 255).toNat ≤ 255 := by
  rw [BitVec.toNat_and]
  exact Nat.le_trans Nat.and_le_right (by decide)
 refine ⟨_, ?_, h1⟩
 show IntKind.wrap .u64 ((BitVec.ofInt 64 x &&& BitVec.ofInt 64 255).toNat : Int) = _
 generalize (BitVec.ofInt 64 x &&& BitVec.ofInt 64 255).toNat = m at h1
 have : IntKind.wrap .u64 (m : Int) = (m : Int) % 18446744073709551616 := by
  simp [IntKind.wrap, IntKind.bits, IntKind.signed]
 rw [this]
 omega
end Go.Own
namespace Go.Proofs.YtbacjgkmkkphdaaGreatDoor
open Go Go.Own
theorem f_next {bs : List D} (hb : Bytes bs) {k : Nat} {c : D} (hc : Cu bs k c) (hk : k ≤ 1000000) :
 ∃ (n : Nat) (c' : D), e_spec_l1Cur_next.F [c] = some (.pair (.int n) (.pair c' .unit)) ∧ n ≤ 255 ∧ Cu bs (k + 1) c' := by
 obtain ⟨p, a, rfl, hp⟩ := hc
 rw [q_spec_l1Cur_next]
 have f0 : ((cuD bs p a).fld 0).l = bs := rfl
 have f1 : ((cuD bs p a).fld 1).i = p := rfl
 have f2 : ((cuD bs p a).fld 2).i = a := rfl
 have hw : IntKind.wrap .i64 ((p : Int) + 1) = ((p + 1 : Nat) : Int) := by rw [wrap_id] <;> omega
 have hset : ∀ x : Int, ((cuD bs p a).setFld 1 (.int ((p + 1 : Nat) : Int))).setFld 2 (.int x) = cuD bs (p + 1) x := fun _ => rfl
 simp only [f0, f1, f2, hw, hset]
 by_cases hlt : p < bs.length
 ·obtain ⟨n, hn, hn0, hn1⟩ := hb _ (List.getElem_mem hlt)
  have hg : gd bs p = .int n := (gd_lt hlt).trans hn
  have hwn : IntKind.wrap .i64 n = n := by rw [wrap_id] <;> omega
  obtain ⟨m, rfl⟩ := Int.eq_ofNat_of_zero_le hn0
  refine ⟨m, cuD bs (p + 1) _, rn_bind (r := (0, [.int m])) (out_if (decide_eq_true (by omega)) (out_if (inb_nat hlt) ?_)) (rn_if (decide_eq_true (by omega)) rfl), by omega, p + 1, _, rfl, by omega⟩
  simp [hg, hwn]
 ·obtain ⟨m, hm, hm2⟩ := and255 ((IntKind.wrap .u64 ((IntKind.wrap .u64 ((IntKind.wrap .u64 (a * 6364136223846793005)) + (IntKind.wrap .u64 0))) + 1442695040888963407)).fdiv (2 ^ min 40 (IntKind.bits .u64)))
  by_cases hle : ((p + 1 : Nat) : Int) ≤ (bs.length : Int)
  ·omega
  refine ⟨m, cuD bs (p + 1) (IntKind.wrap .u64 ((IntKind.wrap .u64 ((IntKind.wrap .u64 (a * 6364136223846793005)) + (IntKind.wrap .u64 0))) + 1442695040888963407)), rn_bind (r := (0, [.int 0])) (out_else (fun h => by have := of_decide_eq_true h; omega) rfl) (rn_else (fun h => hle (of_decide_eq_true h)) (rn_if (by decide) ?_)), hm2, p + 1, _, rfl, by omega⟩
  simp only [gd_zero, D.i_int, hm]
  have : IntKind.wrap .i64 (m : Int) = m := by rw [wrap_id] <;> omega
  rw [this]; rfl
theorem tmod_nat {n : Nat} {x : Int} (hx : 0 < x) : ∃ v : Nat, (n : Int).tmod x = v ∧ (v : Int) < x := by
 rw [Int.tmod_eq_emod_of_nonneg (by omega)]
 have h1 := Int.emod_nonneg (n : Int) (show x ≠ 0 by omega)
 have h2 := Int.emod_lt_of_pos (n : Int) hx
 exact ⟨((n : Int) % x).toNat, by omega, by omega⟩
theorem f_pick {bs : List D} (hb : Bytes bs) {k : Nat} {c : D} (hc : Cu bs k c) (hk : k ≤ 900000) (x : Int) :
 ∃ (v : Nat) (c' : D), e_spec_l1Cur_pick.F [c, .int x] = some (.pair (.int v) (.pair c' .unit)) ∧ ((v : Int) < x ∨ v = 0) ∧ Cu bs (k + 2) c' := by
 rw [q_spec_l1Cur_pick]
 by_cases h1 : x ≤ 1
 ·exact ⟨0, c, rn_if (decide_eq_true h1) rfl, .inr rfl, hc.mono (by omega)⟩
 obtain ⟨n, c1, hn, hn2, hc1⟩ := f_next hb hc (by omega)
 by_cases h2 : x > 200
 ·obtain ⟨m, c2, hm, hm2, hc2⟩ := f_next hb hc1 (by omega)
  have w : IntKind.wrap .i64 (IntKind.wrap .i64 ((n : Int) * 256) + m) = ((n * 256 + m : Nat) : Int) := by
   rw [wrap_id (x := (n : Int) * 256) (by omega) (by omega), wrap_id] <;> omega
  obtain ⟨v, hv, hv2⟩ := tmod_nat (n := n * 256 + m) (x := x) (by omega)
  refine ⟨v, c2, rn_else (fun h => h1 (of_decide_eq_true h)) (rn_call hn (rn_bind (r := (0, [c2, .int ((n * 256 + m : Nat) : Int)])) (out_if (decide_eq_true h2) (out_call hm ?_)) (rn_if (by simp; omega) ?_))), .inl hv2, hc2.mono (by omega)⟩
  ·simp only [D.fld, D.fst_pair, D.snd_pair, D.i_int, w]
  ·simp only [gd_one, gd_zero, D.i_int, hv]; rfl
 ·obtain ⟨v, hv, hv2⟩ := tmod_nat (n := n) (x := x) (by omega)
  refine ⟨v, c1, rn_else (fun h => h1 (of_decide_eq_true h)) (rn_call hn (rn_bind (r := (0, [c1, .int n])) (out_else (fun h => h2 (of_decide_eq_true h)) rfl) (rn_if (by simp; omega) ?_))), .inl hv2, hc1.mono (by omega)⟩
  simp [hv]
theorem f_one {bs : List D} (hb : Bytes bs) {k : Nat} {c : D} (hc : Cu bs k c) (hk : k ≤ 900000) (x : Int) :
 ∃ (b : Bool) (c' : D), e_spec_l1Cur_one.F [c, .int x] = some (.pair (.bool b) (.pair c' .unit)) ∧ Cu bs (k + 2) c' := by
 obtain ⟨v, c', h, _, hc'⟩ := f_pick hb hc hk x
 rw [q_spec_l1Cur_one]
 exact ⟨_, c', rn_call h rfl, hc'⟩
theorem f_of {bs : List D} (hb : Bytes bs) {k : Nat} {c : D} (hc : Cu bs k c) (hk : k ≤ 900000) {xs : List D} (hx : 0 < xs.length) :
 ∃ (x : D) (c' : D), e_spec_l1Cur_of.F [c, .lst xs] = some (.pair x (.pair c' .unit)) ∧ x ∈ xs ∧ Cu bs (k + 2) c' := by
 obtain ⟨v, c', h, hv, hc'⟩ := f_pick hb hc hk xs.length
 have hlt : v < xs.length := by omega
 rw [q_spec_l1Cur_of]
 refine ⟨gd xs v, c', rn_call h (rn_if (inb_nat hlt) ?_), ?_, hc'⟩
 ·simp
 ·rw [gd_lt hlt]; exact List.getElem_mem hlt
theorem f_among {bs : List D} (hb : Bytes bs) {k : Nat} {c : D} (hc : Cu bs k c) (hk : k ≤ 900000) {xs : List D} (hx : 0 < xs.length) :
 ∃ (x : D) (c' : D), e_spec_l1Cur_among.F [c, .lst xs] = some (.pair x (.pair c' .unit)) ∧ x ∈ xs ∧ Cu bs (k + 2) c' := by
 obtain ⟨v, c', h, hv, hc'⟩ := f_pick hb hc hk xs.length
 have hlt : v < xs.length := by omega
 rw [q_spec_l1Cur_among]
 refine ⟨gd xs v, c', rn_call h (rn_if (inb_nat hlt) ?_), ?_, hc'⟩
 ·simp
 ·rw [gd_lt hlt]; exact List.getElem_mem hlt
end Go.Proofs.YtbacjgkmkkphdaaGreatDoor
namespace Go.Own
open Go
def OKo (o : Outc) (Q : Nat × List D → Prop) : Prop := ∃ r, o = some r ∧ Q r
def Tot (o : Option D) (P : D → Prop) : Prop := ∃ d, o = some d ∧ P d
theorem ok_ou {t : Nat} {l : List D} {Q : Nat × List D → Prop} (h : Q (t, l)) : OKo (ou t l) Q := ⟨_, rfl, h⟩
theorem ok_if {c : Prop} [Decidable c] {a b : Outc} {Q : Nat × List D → Prop} (h1 : c → OKo a Q) (h2 : ¬ c → OKo b Q) : OKo (if c then a else b) Q := by
 split
 ·exact h1 ‹_›
 ·exact h2 ‹_›
theorem ok_ifT {c : Prop} [Decidable c] {a b : Outc} {Q : Nat × List D → Prop} (h : c) (h1 : OKo a Q) : OKo (if c then a else b) Q := by rw [if_pos h]; exact h1
theorem ok_bind {o : Outc} {k : Nat × List D → Outc} {P Q : Nat × List D → Prop} (h : OKo o P) (hk : ∀ r, P r → OKo (k r) Q) : OKo (o.bind k) Q := by
 obtain ⟨r, rfl, hr⟩ := h; exact hk r hr
theorem ok_tot {o : Option D} {k : D → Outc} {P : D → Prop} {Q : Nat × List D → Prop} (h : Tot o P) (hk : ∀ d, P d → OKo (k d) Q) : OKo (o.bind k) Q := by
 obtain ⟨r, rfl, hr⟩ := h; exact hk r hr
theorem ok_call {o : Option D} {k : D → Outc} {d : D} {Q : Nat × List D → Prop} (h : o = some d) (hk : OKo (k d) Q) : OKo (o.bind k) Q := by
 rw [h]; exact hk
theorem ok_mono {o : Outc} {P Q : Nat × List D → Prop} (h : OKo o P) (hk : ∀ r, P r → Q r) : OKo o Q := by
 obtain ⟨r, h, hr⟩ := h; exact ⟨r, h, hk r hr⟩
theorem ok_sel0 {a : Outc} {b : Nat → Outc} {Q : Nat × List D → Prop} (h : OKo a Q) : OKo (sel2 0 a b) Q := h
def ResP (P : D → Prop) (r : Nat × List D) : Prop := ∃ d, r = (0, [d]) ∧ P d
theorem tot_rn {o : Outc} {P : D → Prop} (h : OKo o (ResP P)) : Tot (rn o) P := by
 obtain ⟨_, rfl, d, rfl, hd⟩ := h; exact ⟨d, rfl, hd⟩
theorem ok_loop {f : List D → Outc} {Q : Nat × List D → Prop} (Inv : Nat → List D → Prop) (h : ∀ m l, Inv m l → OKo (f l) (fun r => (∃ m', m' < m ∧ r.1 = 0 ∧ Inv m' r.2) ∨ (∃ t, r.1 = t + 1 ∧ Q (t, r.2)))) : ∀ (m : Nat) {l : List D}, Inv m l → OKo (loopF f l) Q := by
 intro m
 induction m using Nat.strongRecOn with
 | ind m ih =>
   intro l hl
   obtain ⟨⟨t, o⟩, hf, hq⟩ := h m l hl
   rcases hq with ⟨m', hm, rfl, hi⟩ | ⟨t', rfl, hq⟩
   ·obtain ⟨r, hr, hQ⟩ := ih m' hm hi
    exact ⟨r, (loopF_step hf).trans hr, hQ⟩
   ·exact ⟨_, loopF_exit hf, hq⟩
def StrB (B : Nat) (d : D) : Prop := ∃ s : List UInt8, d = .str s ∧ s.length ≤ B
def IntD (d : D) : Prop := ∃ n : Int, d = .int n
def BoolD (d : D) : Prop := ∃ n : Bool, d = .bool n
def Dr (bs : List D) (m : Nat) (P : D → Prop) (d : D) : Prop := ∃ x c', d = .pair x (.pair c' .unit) ∧ P x ∧ Cu bs m c'
def strsB (B : Nat) : List D → Bool
 | [] => true
 | .str s :: l => decide (s.length ≤ B) && strsB B l
 | _ :: _ => false
theorem strsB_mem {B : Nat} : ∀ {l : List D}, strsB B l = true → ∀ x ∈ l, StrB B x
 | [], _, x, hx => by cases hx
 | .str s :: l, h, x, hx => by
   unfold strsB at h
   simp only [Bool.and_eq_true, decide_eq_true_eq] at h
   rcases List.mem_cons.1 hx with rfl | hx
   ·exact ⟨s, rfl, h.1⟩
   ·exact strsB_mem h.2 x hx
 | .unit :: _, h, _, _ => by cases h
 | .int _ :: _, h, _, _ => by cases h
 | .bool _ :: _, h, _, _ => by cases h
 | .pair _ _ :: _, h, _, _ => by cases h
 | .lst _ :: _, h, _, _ => by cases h
def intsB : List D → Bool
 | [] => true
 | .int _ :: l => intsB l
 | _ :: _ => false
theorem intsB_mem : ∀ {l : List D}, intsB l = true → ∀ x ∈ l, IntD x
 | [], _, x, hx => by cases hx
 | .int s :: l, h, x, hx => by
   rcases List.mem_cons.1 hx with rfl | hx
   ·exact ⟨s, rfl⟩
   ·exact intsB_mem (by unfold intsB at h; exact h) x hx
 | .unit :: _, h, _, _ => by cases h
 | .str _ :: _, h, _, _ => by cases h
 | .bool _ :: _, h, _, _ => by cases h
 | .pair _ _ :: _, h, _, _ => by cases h
 | .lst _ :: _, h, _, _ => by cases h
end Go.Own
namespace Go.Proofs.YtbacjgkmkkphdaaGreatDoor
open Go Go.Own
variable {bs : List D} {k : Nat} {c : D}
theorem d_pick (hb : Bytes bs) (hc : Cu bs k c) (hk : k ≤ 900000) (x : Int) : Tot (e_spec_l1Cur_pick.F [c, .int x]) (Dr bs (k + 2) (fun d => ∃ v : Nat, d = .int v ∧ ((v : Int) < x ∨ v = 0))) := by
 obtain ⟨v, c', h, hv, hc'⟩ := f_pick hb hc hk x
 exact ⟨_, h, _, _, rfl, ⟨v, rfl, hv⟩, hc'⟩
theorem d_one (hb : Bytes bs) (hc : Cu bs k c) (hk : k ≤ 900000) (x : Int) : Tot (e_spec_l1Cur_one.F [c, .int x]) (Dr bs (k + 2) BoolD) := by
 obtain ⟨v, c', h, hc'⟩ := f_one hb hc hk x
 exact ⟨_, h, _, _, rfl, ⟨v, rfl⟩, hc'⟩
theorem d_of {B : Nat} {xs : List D} (hb : Bytes bs) (hc : Cu bs k c) (hk : k ≤ 900000) (hs : strsB B xs = true) (hx : 0 < xs.length) : Tot (e_spec_l1Cur_of.F [c, .lst xs]) (Dr bs (k + 2) (StrB B)) := by
 obtain ⟨v, c', h, hv, hc'⟩ := f_of hb hc hk hx
 exact ⟨_, h, _, _, rfl, strsB_mem hs v hv, hc'⟩
theorem d_among {xs : List D} (hb : Bytes bs) (hc : Cu bs k c) (hk : k ≤ 900000) (hs : intsB xs = true) (hx : 0 < xs.length) : Tot (e_spec_l1Cur_among.F [c, .lst xs]) (Dr bs (k + 2) IntD) := by
 obtain ⟨v, c', h, hv, hc'⟩ := f_among hb hc hk hx
 exact ⟨_, h, _, _, rfl, intsB_mem hs v hv, hc'⟩
theorem d_target (hb : Bytes bs) (hc : Cu bs k c) (hk : k ≤ 900000) : Tot (e_spec_l1Cur_target.F [c]) (Dr bs (k + 2) (StrB 20)) := by
 rw [q_spec_l1Cur_target]
 refine tot_rn (ok_tot (d_of (B := 20) hb hc hk rfl (by simp)) ?_)
 rintro _ ⟨x, c', rfl, hx, hc'⟩
 exact ok_ou ⟨_, rfl, _, _, rfl, hx, hc'⟩
theorem d_name (hb : Bytes bs) (hc : Cu bs k c) (hk : k ≤ 800000) : Tot (e_spec_l1Cur_name.F [c]) (Dr bs (k + 20) (StrB 100)) := by
 rw [q_spec_l1Cur_name]
 have hsm := smax_eq
 refine tot_rn (ok_tot (d_pick hb hc (by omega) 40) ?_)
 rintro _ ⟨_, c1, rfl, ⟨v, rfl, hv⟩, hc1⟩
 refine ok_if (fun _ => ok_tot (d_of (B := 100) hb hc1 (by omega) rfl (by simp)) ?_) (fun _ => ok_if (fun _ => ok_tot (d_of (B := 100) hb hc1 (by omega) rfl (by simp)) ?_) (fun _ => ok_tot (d_of (B := 20) hb hc1 (by omega) rfl (by simp)) ?_))
 ·rintro _ ⟨x, c', rfl, hx, hc'⟩
  exact ok_ou ⟨_, rfl, _, _, rfl, hx, hc'.mono (by omega)⟩
 ·rintro _ ⟨x, c', rfl, hx, hc'⟩
  exact ok_ou ⟨_, rfl, _, _, rfl, hx, hc'.mono (by omega)⟩
 ·rintro _ ⟨_, c2, rfl, ⟨s, rfl, hs⟩, hc2⟩
  refine ok_tot (d_pick hb hc2 (by omega) 3) ?_
  rintro _ ⟨_, c3, rfl, ⟨n, rfl, hn⟩, hc3⟩
  have hn3 : n ≤ 2 := by omega
  refine ok_bind (P := fun r => ∃ c' s, r = (0, [c', .str s]) ∧ s.length ≤ 100 ∧ Cu bs (k + 20) c') (ok_loop (fun m l => ∃ c' s, l = [c', .str s, .int (m : Int)] ∧ m ≤ 2 ∧ s.length + 25 * m ≤ 75 ∧ Cu bs (k + 6 + 2 * (2 - m)) c') ?_ n ⟨c3, s, rfl, hn3, by omega, hc3.mono (by omega)⟩) ?_
  ·rintro m _ ⟨c', s, rfl, hm, hs, hc'⟩
   refine ok_if (fun h => ok_tot (d_of (B := 20) hb hc' (by omega) rfl (by simp)) ?_) (fun h => ok_ou (.inr ⟨0, rfl, c', s, rfl, by omega, hc'.mono (by omega)⟩))
   rintro _ ⟨_, c4, rfl, ⟨s4, rfl, hs4⟩, hc4⟩
   have h0 : (0 : Int) < m := of_decide_eq_true h
   refine ok_ifT (by simp [catOk]; omega) (ok_ifT (by simp [catOk, gd]; omega) (ok_ou (.inl ⟨m - 1, by omega, rfl, c4, (s4 ++ [46]) ++ s, ?_, by omega, by simp; omega, hc4.mono (by omega)⟩)))
   have hw : IntKind.wrap .i64 ((m : Int) - 1) = ((m - 1 : Nat) : Int) := by rw [wrap_id] <;> omega
   show [c4, D.str ((s4 ++ [46]) ++ s), D.int (IntKind.wrap .i64 ((m : Int) - 1))] = _
   rw [hw]
  ·rintro _ ⟨c', s, rfl, hs, hc'⟩
   exact ok_sel0 (ok_ou ⟨_, rfl, _, _, rfl, ⟨s, rfl, hs⟩, hc'⟩)
theorem d_asked (hb : Bytes bs) (hc : Cu bs k c) (hk : k ≤ 700000) : Tot (e_spec_l1Cur_asked.F [c]) (Dr bs (k + 22) (StrB 100)) := by
 rw [q_spec_l1Cur_asked]
 refine tot_rn (ok_tot (d_one hb hc (by omega) 6) ?_)
 rintro _ ⟨_, c1, rfl, ⟨v, rfl⟩, hc1⟩
 refine ok_if (fun _ => ok_tot (d_name hb hc1 (by omega)) ?_) (fun _ => ok_tot (d_of (B := 100) hb hc1 (by omega) rfl (by simp)) ?_)
 ·rintro _ ⟨x, c', rfl, hx, hc'⟩
  exact ok_ou ⟨_, rfl, _, _, rfl, hx, hc'.mono (by omega)⟩
 ·rintro _ ⟨x, c', rfl, hx, hc'⟩
  exact ok_ou ⟨_, rfl, _, _, rfl, hx, hc'.mono (by omega)⟩
end Go.Proofs.YtbacjgkmkkphdaaGreatDoor
namespace Go.Proofs.YtbacjgkmkkphdaaGreatDoor
open Go Go.Own
def RecB (B : Nat) (d : D) : Prop := ∃ r : Rec, d = r.d ∧ r.In B
theorem Rec.In.mono {B C : Nat} {r : Rec} (h : r.In B) (hB : B ≤ C) : r.In C := ⟨Nat.le_trans h.name hB, Nat.le_trans h.data hB⟩
def chgD (p : Int × Rec) : D := .pair (.int p.1) (.pair p.2.d .unit)
def BatB (n B : Nat) (d : D) : Prop := ∃ l : List (Int × Rec), d = .lst (l.map chgD) ∧ l.length ≤ n ∧ ∀ p ∈ l, p.2.In B
variable {bs : List D} {k : Nat} {c : D}
theorem num_small {v : Nat} (h : v ≤ 100) : e_spec_l1Num.F [.int v] = some (.str (Lib.itoa v)) ∧ (Lib.itoa v).length ≤ 18 := by
 have hp18 : (10 : Int) ^ 18 = 1000000000000000000 := by decide
 exact ⟨f_num (by omega) (by omega), itoa_len (by omega) (by omega)⟩
def CR (bs : List D) (m B : Nat) (r : Nat × List D) : Prop := ∃ c' x, r = (0, [c', x]) ∧ Cu bs m c' ∧ RecB B x
theorem d_record (hb : Bytes bs) (hc : Cu bs k c) (hk : k ≤ 700000) : Tot (e_spec_l1Cur_record.F [c]) (Dr bs (k + 50) (RecB 150)) := by
 rw [q_spec_l1Cur_record]
 have hsm := smax_eq
 refine tot_rn (ok_tot (d_name hb hc (by omega)) ?_)
 rintro _ ⟨_, c1, rfl, ⟨n, rfl, hn⟩, hc1⟩
 refine ok_tot (d_among hb hc1 (by omega) rfl (by simp)) ?_
 rintro _ ⟨_, c2, rfl, ⟨t, rfl⟩, hc2⟩
 refine ok_tot (d_among hb hc2 (by omega) rfl (by simp)) ?_
 rintro _ ⟨_, c3, rfl, ⟨l, rfl⟩, hc3⟩
 have hc3' : Cu bs (k + 24) c3 := hc3.mono (by omega)
 have mk : ∀ (c' : D) (s : List UInt8), Cu bs (k + 30) c' → s.length ≤ 100 → CR bs (k + 30) 150 (0, [c', .pair (.str n) (.pair (.int t) (.pair (.int l) (.pair (.str s) .unit)))]) := fun c' s h hs => ⟨_, _, rfl, h, ⟨n, t, l, s⟩, rfl, ⟨Nat.le_trans hn (by decide), Nat.le_trans hs (by decide)⟩⟩
 refine ok_bind (P := CR bs (k + 30) 150) ?_ ?_
 ·refine ok_if (fun _ => ok_tot (d_of (B := 20) hb hc3' (by omega) rfl (by simp)) ?_) (fun _ => ok_bind (P := fun r => ∃ b : Bool, r = (0, [.bool b])) (ok_if (fun _ => ok_ou ⟨_, rfl⟩) (fun _ => ok_ou ⟨_, rfl⟩)) ?_)
  ·rintro _ ⟨_, c4, rfl, ⟨s, rfl, hs⟩, hc4⟩
   exact ok_ou (mk _ _ (hc4.mono (by omega)) (by omega))
  ·rintro _ ⟨b, rfl⟩
   refine ok_sel0 (ok_if (fun _ => ok_tot (d_target hb hc3' (by omega)) ?_) (fun _ => ok_if (fun _ => ok_tot (d_pick hb hc3' (by omega) 20) ?_) (fun _ => ok_if (fun _ => ok_tot (d_pick hb hc3' (by omega) 30) ?_) (fun _ => ok_tot (d_of (B := 20) hb hc3' (by omega) rfl (by simp)) ?_))))
   ·rintro _ ⟨_, c4, rfl, ⟨s, rfl, hs⟩, hc4⟩
    exact ok_ou (mk _ _ (hc4.mono (by omega)) (by omega))
   ·rintro _ ⟨_, c4, rfl, ⟨v, rfl, hv⟩, hc4⟩
    obtain ⟨h1, h2⟩ := num_small (v := v) (by omega)
    refine ok_call (d := .str (Lib.itoa v)) h1 (ok_ou (mk _ _ (hc4.mono (by omega)) (by omega)))
   ·rintro _ ⟨_, c4, rfl, ⟨v, rfl, hv⟩, hc4⟩
    obtain ⟨h1, h2⟩ := num_small (v := v) (by omega)
    refine ok_call (d := .str (Lib.itoa v)) h1 (ok_ifT (by simp [catOk]; omega) (ok_tot (d_target hb hc4 (by omega)) ?_))
    rintro _ ⟨_, c5, rfl, ⟨s, rfl, hs⟩, hc5⟩
    refine ok_ifT (by simp [catOk, D.fld]; omega) (ok_ou (mk _ _ (hc5.mono (by omega)) ?_))
    show ((Lib.itoa v ++ [32]) ++ s).length ≤ 100
    simp; omega
   ·rintro _ ⟨_, c4, rfl, ⟨s, rfl, hs⟩, hc4⟩
    exact ok_ou (mk _ _ (hc4.mono (by omega)) (by omega))
 ·rintro _ ⟨c4, _, rfl, hc4, ⟨r, rfl, hr⟩⟩
  refine ok_sel0 (ok_bind (P := CR bs (k + 50) 150) ?_ ?_)
  ·refine ok_tot (d_pick hb hc4 (by omega) 40) ?_
   rintro _ ⟨_, c5, rfl, ⟨v, rfl, hv⟩, hc5⟩
   refine ok_if (fun _ => ok_tot (d_among hb hc5 (by omega) rfl (by simp)) ?_) (fun _ => ok_if (fun _ => ok_tot (d_of (B := 20) hb hc5 (by omega) rfl (by simp)) ?_) (fun _ => ok_if (fun _ => ok_tot (d_pick hb hc5 (by omega) 20) ?_) (fun _ => ok_ou ⟨_, _, rfl, hc5.mono (by omega), r, rfl, hr⟩)))
   ·rintro _ ⟨_, c6, rfl, ⟨s, rfl⟩, hc6⟩
    exact ok_ou ⟨_, _, rfl, hc6.mono (by omega), ⟨r.name, r.type, s, r.data⟩, rfl, ⟨hr.name, hr.data⟩⟩
   ·rintro _ ⟨_, c6, rfl, ⟨s, rfl, hs⟩, hc6⟩
    exact ok_ou ⟨_, _, rfl, hc6.mono (by omega), ⟨r.name, r.type, r.ttl, s⟩, rfl, ⟨hr.name, by simp only; omega⟩⟩
   ·rintro _ ⟨_, c6, rfl, ⟨s, rfl, _⟩, hc6⟩
    exact ok_ou ⟨_, _, rfl, hc6.mono (by omega), ⟨r.name, s, r.ttl, r.data⟩, rfl, ⟨hr.name, hr.data⟩⟩
  ·rintro _ ⟨c5, _, rfl, hc5, hx⟩
   exact ok_sel0 (ok_ou ⟨_, rfl, _, _, rfl, hx, hc5⟩)
theorem d_inZone (hb : Bytes bs) (hc : Cu bs k c) (hk : k ≤ 600000) : Tot (e_spec_l1Cur_inZone.F [c]) (Dr bs (k + 80) (RecB 150)) := by
 rw [q_spec_l1Cur_inZone]
 refine tot_rn (ok_tot (d_record hb hc (by omega)) ?_)
 rintro _ ⟨_, c1, rfl, ⟨r, rfl, hr⟩, hc1⟩
 refine ok_tot (d_one hb hc1 (by omega) 12) ?_
 rintro _ ⟨_, c2, rfl, ⟨b, rfl⟩, hc2⟩
 refine ok_if (fun _ => ok_ou ⟨_, rfl, _, _, rfl, ⟨r, rfl, hr⟩, hc2.mono (by omega)⟩) (fun _ => ok_tot (d_of (B := 20) hb hc2 (by omega) rfl (by simp)) ?_)
 rintro _ ⟨_, c3, rfl, ⟨n, rfl, hn⟩, hc3⟩
 refine ok_bind (P := CR bs (k + 60) 150) ?_ ?_
 ·refine ok_bind (P := fun x => ∃ (c' : D) (b : Bool), x = (0, [c', .bool b]) ∧ Cu bs (k + 60) c') ?_ ?_
  ·refine ok_if (fun _ => ok_tot (d_one hb hc3 (by omega) 4) ?_) (fun _ => ok_ou ⟨_, _, rfl, hc3.mono (by omega)⟩)
   rintro _ ⟨_, c4, rfl, ⟨b, rfl⟩, hc4⟩
   exact ok_ou ⟨_, _, rfl, hc4.mono (by omega)⟩
  ·rintro _ ⟨c', b, rfl, hc'⟩
   exact ok_sel0 (ok_if (fun _ => ok_ou ⟨_, _, rfl, hc', ⟨n, 1, 60, [49, 46, 50, 46, 51, 46, 52]⟩, rfl, ⟨by simp only; omega, by show 7 ≤ 150; decide⟩⟩) (fun _ => ok_ou ⟨_, _, rfl, hc', ⟨n, r.type, 60, r.data⟩, rfl, ⟨by simp only; omega, hr.data⟩⟩))
 ·rintro _ ⟨c4, _, rfl, hc4, ⟨r2, rfl, hr2⟩⟩
  refine ok_sel0 (ok_bind (P := CR bs (k + 80) 150) (ok_bind (P := fun x => ∃ (c' : D) (b : Bool), x = (0, [c', .bool b]) ∧ Cu bs (k + 80) c') ?_ ?_) ?_)
  ·refine ok_if (fun _ => ok_if (fun _ => ok_tot (d_one hb hc4 (by omega) 2) ?_) (fun _ => ok_ou ⟨_, _, rfl, hc4.mono (by omega)⟩)) (fun _ => ok_ou ⟨_, _, rfl, hc4.mono (by omega)⟩)
   rintro _ ⟨_, c5, rfl, ⟨b, rfl⟩, hc5⟩
   exact ok_ou ⟨_, _, rfl, hc5.mono (by omega)⟩
  ·rintro _ ⟨c', b, rfl, hc'⟩
   exact ok_sel0 (ok_if (fun _ => ok_ou ⟨_, _, rfl, hc', ⟨r2.name, 2, r2.ttl, [110, 115, 46, 115, 117, 98, 46, 101, 120, 46, 99, 111, 109]⟩, rfl, ⟨hr2.name, by show 13 ≤ 150; decide⟩⟩) (fun _ => ok_ou ⟨_, _, rfl, hc', r2, rfl, hr2⟩))
  ·rintro _ ⟨c5, _, rfl, hc5, hx⟩
   exact ok_sel0 (ok_ou ⟨_, rfl, _, _, rfl, hx, hc5⟩)
theorem d_batch (hb : Bytes bs) (hc : Cu bs k c) (hk : k ≤ 500000) : Tot (e_spec_l1Cur_batch.F [c]) (Dr bs (k + 2000) (BatB 13 150)) := by
 rw [q_spec_l1Cur_batch]
 have hsm := smax_eq
 refine tot_rn (ok_tot (d_pick hb hc (by omega) 3) ?_)
 rintro _ ⟨_, c1, rfl, ⟨v, rfl, hv⟩, hc1⟩
 refine ok_bind (P := fun x => ∃ (c' : D) (n : Nat), x = (0, [c', .int (n : Int)]) ∧ Cu bs (k + 10) c' ∧ 1 ≤ n ∧ n ≤ 13) ?_ ?_
 ·refine ok_tot (d_one hb hc1 (by omega) 40) ?_
  rintro _ ⟨_, c2, rfl, ⟨b, rfl⟩, hc2⟩
  refine ok_if (fun _ => ok_tot (d_pick hb hc2 (by omega) 2) ?_) (fun _ => ok_ou ?_)
  ·rintro _ ⟨_, c3, rfl, ⟨w, rfl, hw⟩, hc3⟩
   have hww : IntKind.wrap .i64 (12 + (w : Int)) = ((12 + w : Nat) : Int) := by rw [wrap_id] <;> omega
   refine ok_ou ⟨c3, 12 + w, ?_, hc3.mono (by omega), by omega, by omega⟩
   rw [← hww]; rfl
  ·have hww : IntKind.wrap .i64 (1 + (v : Int)) = ((1 + v : Nat) : Int) := by rw [wrap_id] <;> omega
   refine ⟨c2, 1 + v, ?_, hc2.mono (by omega), by omega, by omega⟩
   rw [← hww]; rfl
 ·rintro _ ⟨c2, n, rfl, hc2, hn1, hn⟩
  refine ok_sel0 (ok_bind (P := fun r => ∃ (c' : D) (l : List (Int × Rec)), r = (0, [c', .lst (l.map chgD)]) ∧ 0 < l.length ∧ l.length ≤ 13 ∧ (∀ p ∈ l, p.2.In 150) ∧ Cu bs (k + 10 + 100 * 13) c') (ok_loop (fun m l => ∃ (c' : D) (xs : List (Int × Rec)), l = [c', .lst (xs.map chgD), .int (m : Int)] ∧ xs.length + m = n ∧ (∀ p ∈ xs, p.2.In 150) ∧ Cu bs (k + 10 + 100 * xs.length) c') ?_ n ⟨c2, [], rfl, by simp, by simp, hc2.mono (by simp)⟩) ?_)
  ·rintro m _ ⟨c', xs, rfl, hm, hx, hc'⟩
   refine ok_if (fun h => ok_tot (d_among hb hc' (by omega) rfl (by simp)) ?_) (fun h => ok_ou (.inr ⟨0, rfl, c', xs, rfl, ?_, by omega, hx, hc'.mono (by omega)⟩))
   ·rintro _ ⟨_, c4, rfl, ⟨t, rfl⟩, hc4⟩
    refine ok_tot (d_inZone hb hc4 (by omega)) ?_
    rintro _ ⟨_, c5, rfl, ⟨r, rfl, hr⟩, hc5⟩
    have h0 : (0 : Int) < m := of_decide_eq_true h
    have happ : appOk 56 (xs.map chgD) [chgD (t, r)] = true := by simp [appOk]; omega
    have hw : IntKind.wrap .i64 ((m : Int) - 1) = ((m - 1 : Nat) : Int) := by rw [wrap_id] <;> omega
    refine ok_ifT happ (ok_ou (.inl ⟨m - 1, by omega, rfl, c5, xs ++ [(t, r)], ?_, by simp; omega, ?_, hc5.mono (by simp; omega)⟩))
    ·show [c5, D.lst (xs.map chgD ++ [chgD (t, r)]), D.int (IntKind.wrap .i64 ((m : Int) - 1))] = _
     rw [hw]; simp
    ·intro p hp
     rcases List.mem_append.1 hp with hp | hp
     ·exact hx p hp
     ·rw [List.mem_singleton.1 hp]; exact hr
   ·have h0 : ¬ (0 : Int) < m := fun hh => h (decide_eq_true hh)
    omega
  ·rintro _ ⟨c3, l, rfl, hl0, hl, hx, hc3⟩
   refine ok_sel0 (ok_bind (P := fun r => ∃ (c' : D) (l : List (Int × Rec)), r = (0, [c', .lst (l.map chgD)]) ∧ l.length ≤ 13 ∧ (∀ p ∈ l, p.2.In 150) ∧ Cu bs (k + 2000) c') ?_ ?_)
   ·refine ok_tot (d_one hb hc3 (by omega) 60) ?_
    rintro _ ⟨_, c4, rfl, ⟨b, rfl⟩, hc4⟩
    refine ok_if (fun _ => ok_tot (d_pick hb hc4 (by omega) 6) ?_) (fun _ => ok_ou ⟨_, _, rfl, hl, hx, hc4.mono (by omega)⟩)
    rintro _ ⟨_, c5, rfl, ⟨v, rfl, _⟩, hc5⟩
    match l, hl0, hl, hx with
    | p :: l, _, hl, hx =>
      refine ok_ifT (inb_nat (by simp)) (ok_ou ⟨c5, ((v : Int), p.2) :: l, rfl, hl, ?_, hc5.mono (by omega)⟩)
      intro q hq
      rcases List.mem_cons.1 hq with rfl | hq
      ·exact hx p (by simp)
      ·exact hx q (by simp [hq])
   ·rintro _ ⟨c4, l, rfl, hl, hx, hc4⟩
    exact ok_sel0 (ok_ou ⟨_, rfl, _, _, rfl, ⟨l, rfl, hl, hx⟩, hc4⟩)
end Go.Proofs.YtbacjgkmkkphdaaGreatDoor
namespace Go.Own
open Go
theorem ok_up {f : List D → Outc} {Q : Nat × List D → Prop} (n : Nat) (Inv : Nat → List D → Prop) {l : List D} (h0 : Inv 0 l) (h : ∀ i l, i < n → Inv i l → OKo (f l) (fun r => (r.1 = 0 ∧ Inv (i + 1) r.2) ∨ (∃ t, r.1 = t + 1 ∧ Q (t, r.2)))) (hn : ∀ l, Inv n l → OKo (f l) (fun r => ∃ t, r.1 = t + 1 ∧ Q (t, r.2))) : OKo (loopF f l) Q := by
 refine ok_loop (fun m l => ∃ i, i + m = n ∧ Inv i l) ?_ n ⟨0, by omega, h0⟩
 rintro m l ⟨i, hi, hI⟩
 by_cases hlt : i < n
 ·refine ok_mono (h i l hlt hI) ?_
  rintro r (⟨h1, h2⟩ | h2)
  ·exact .inl ⟨m - 1, by omega, h1, i + 1, by omega, h2⟩
  ·exact .inr h2
 ·have : i = n := by omega
  subst this
  exact ok_mono (hn l hI) fun r hr => .inr hr
end Go.Own
namespace Go.Proofs.YtbacjgkmkkphdaaGreatDoor
open Go Go.Own
def RsB (n B : Nat) (d : D) : Prop := ∃ ys : List Rec, d = .lst (ys.map Rec.d) ∧ ys.length ≤ n ∧ ∀ r ∈ ys, r.In B
theorem app1 {α : Type} {eb : Nat} {g : α → D} {xs : List α} {y : D} (h : xs.length ≤ 1000000) (he : eb ≤ 1000000) : appOk eb (xs.map g) [y] = true := by
 have hsm := smax_eq
 have : (xs.length + 1) * eb ≤ 1000001 * 1000000 := Nat.mul_le_mul (by omega) he
 simp only [appOk, List.length_map, List.length_singleton, Bool.and_eq_true, decide_eq_true_eq]
 omega
theorem appN {eb : Nat} {xs ys : List D} (h : xs.length + ys.length ≤ 1000001) (he : eb ≤ 1000000) : appOk eb xs ys = true := by
 have hsm := smax_eq
 have : (xs.length + ys.length) * eb ≤ 1000001 * 1000000 := Nat.mul_le_mul h he
 simp only [appOk, Bool.and_eq_true, decide_eq_true_eq]
 omega
theorem wrap1 {i : Nat} (h : i ≤ 1000000) : IntKind.wrap .i64 ((i : Int) + 1) = ((i + 1 : Nat) : Int) := by rw [wrap_id] <;> omega
theorem d_drop {xs : List Rec} {n B : Nat} (hl : xs.length ≤ n) (hn : n ≤ 1000000) (hx : ∀ r ∈ xs, r.In B) (x : Rec) : Tot (e_spec_l6Drop.F [.lst (xs.map Rec.d), x.d]) (RsB n B) := by
 rw [q_spec_l6Drop]
 refine tot_rn (ok_bind (P := fun r => ∃ d, r = (0, [d]) ∧ RsB n B d) (ok_up xs.length (fun i l => ∃ ys : List Rec, l = [.lst (ys.map Rec.d), .int (i : Int)] ∧ ys.length ≤ i ∧ ∀ r ∈ ys, r.In B) ⟨[], rfl, by simp, by simp⟩ ?_ ?_) ?_)
 ·rintro i _ hi ⟨ys, rfl, hy, hyx⟩
  have hg : gd (xs.map Rec.d) i = xs[i].d := gd_rec hi
  refine ok_ifT (decide_eq_true (by simpa using hi)) (ok_bind (P := fun r => ∃ ys : List Rec, r = (0, [.lst (ys.map Rec.d)]) ∧ ys.length ≤ i + 1 ∧ ∀ r ∈ ys, r.In B) (ok_ifT (inb_nat (by simpa using hi)) (ok_bind (P := fun r => ∃ b : Bool, r = (0, [.bool b])) (ok_if (fun _ => ok_ou ⟨_, rfl⟩) (fun _ => ok_if (fun _ => ok_ou ⟨_, rfl⟩) (fun _ => ok_ou ⟨_, rfl⟩))) ?_)) ?_)
  ·rintro _ ⟨b, rfl⟩
   refine ok_sel0 (ok_if (fun _ => ok_ifT (app1 (xs := ys) (by omega) (by decide)) (ok_ou ⟨ys ++ [xs[i]], ?_, by simp; omega, ?_⟩)) (fun _ => ok_ou ⟨ys, rfl, by omega, hyx⟩))
   ·show (0, [D.lst (ys.map Rec.d ++ [gd (xs.map Rec.d) i])]) = _
    rw [hg]; simp
   ·intro r hr
    rcases List.mem_append.1 hr with hr | hr
    ·exact hyx r hr
    ·rw [List.mem_singleton.1 hr]; exact hx _ (List.getElem_mem hi)
  ·rintro _ ⟨zs, rfl, hz, hzx⟩
   refine ok_sel0 (ok_ou (.inl ⟨rfl, zs, ?_, hz, hzx⟩))
   show [D.lst (zs.map Rec.d), D.int (IntKind.wrap .i64 ((i : Int) + 1))] = _
   rw [wrap1 (by omega)]
 ·rintro _ ⟨ys, rfl, hy, hyx⟩
  refine ok_if (fun h => ?_) (fun h => ok_ou ⟨0, rfl, _, rfl, ys, rfl, by omega, hyx⟩)
  have h2 : ((xs.length : Nat) : Int) < (((xs.map Rec.d).length : Nat) : Int) := of_decide_eq_true h
  simp at h2
 ·rintro _ ⟨d, rfl, hd⟩
  exact ok_sel0 (ok_ou ⟨d, rfl, hd⟩)
theorem d_put {xs : List Rec} {n B : Nat} (hl : xs.length ≤ n) (hn : n ≤ 999999) (hB : B ≤ lim) (hx : ∀ r ∈ xs, r.In B) {x : Rec} (hr : x.In B) : Tot (e_spec_l3Put.F [.lst (xs.map Rec.d), x.d]) (RsB (n + 1) B) := by
 rw [q_spec_l3Put]
 have hlim : lim = 1048576 := rfl
 refine tot_rn (ok_bind (P := fun r => ∃ i : Nat, r = (0, [.int (i : Int)]) ∧ i ≤ xs.length) (ok_up xs.length (fun i l => l = [.int (i : Int)]) rfl ?_ ?_) ?_)
 ·rintro i _ hi rfl
  have hg : gd (xs.map Rec.d) i = xs[i].d := gd_rec hi
  obtain ⟨m, hm, _⟩ := f_l3Compare ((hx _ (List.getElem_mem hi)).mono hB) (hr.mono hB)
  refine ok_bind (P := fun r => ∃ b : Bool, r = (0, [.bool b])) (ok_ifT (decide_eq_true (by simpa using hi)) (ok_ifT (inb_nat (by simpa using hi)) ?_)) ?_
  ·show OKo ((e_spec_l3Compare.F [gd (xs.map Rec.d) i, x.d]).bind _) _
   rw [hg]
   exact ok_call hm (ok_ou ⟨_, rfl⟩)
  ·rintro _ ⟨b, rfl⟩
   refine ok_sel0 (ok_if (fun _ => ok_ou (.inl ⟨rfl, ?_⟩)) (fun _ => ok_ou (.inr ⟨0, rfl, i, rfl, by omega⟩)))
   show [D.int (IntKind.wrap .i64 ((i : Int) + 1))] = _
   rw [wrap1 (by omega)]
 ·rintro _ rfl
  refine ok_bind (P := fun r => r = (0, [.bool false])) (ok_if (fun h => ?_) (fun h => ok_ou rfl)) ?_
  ·have h2 : ((xs.length : Nat) : Int) < (((xs.map Rec.d).length : Nat) : Int) := of_decide_eq_true h
   simp at h2
  ·rintro _ rfl
   exact ok_sel0 (ok_if (fun h => by cases h) (fun _ => ok_ou ⟨0, rfl, xs.length, rfl, by omega⟩))
 ·rintro _ ⟨i, rfl, hi⟩
  refine ok_sel0 (ok_bind (P := fun r => ∃ b : Bool, r = (0, [.bool b])) (ok_if (fun h => ok_ifT ?_ (ok_ou ⟨_, rfl⟩)) (fun _ => ok_ou ⟨_, rfl⟩)) ?_)
  ·have h2 : (i : Int) < (((xs.map Rec.d).length : Nat) : Int) := of_decide_eq_true h
   exact inb_nat (by simp at h2 ⊢; exact h2)
  ·rintro _ ⟨b, rfl⟩
   refine ok_sel0 (ok_if (fun _ => ok_ou ⟨_, rfl, xs, rfl, by omega, hx⟩) (fun _ => ?_))
   have e1 : (((xs.map Rec.d).drop 0).take (((i : Int).toNat - 0 : Nat) : Int).toNat) = (xs.take i).map Rec.d := by simp [List.map_take]
   have e2 : (((xs.map Rec.d).drop (i : Int).toNat).take (((((xs.map Rec.d).length : Nat) : Int).toNat - (i : Int).toNat : Nat) : Int).toNat) = (xs.drop i).map Rec.d := by simp [List.map_drop]; exact List.take_of_length_le (by simp)
   have hs1 : slOk 0 (i : Int) (((xs.map Rec.d).length : Nat) : Int) = true := by simp [slOk]; omega
   have hs2 : slOk (i : Int) (((xs.map Rec.d).length : Nat) : Int) (((xs.map Rec.d).length : Nat) : Int) = true := by simp [slOk]; omega
   refine ok_ifT hs1 ?_
   simp only [D.l_lst, gd_zero, D.i_int, e1, e2]
   refine ok_ifT (appN (by simp; omega) (by decide)) (ok_ifT (appN (by simp; omega) (by decide)) (ok_ifT hs2 (ok_ifT (appN (by simp; omega) (by decide)) (ok_ou ⟨_, rfl, xs.take i ++ [x] ++ xs.drop i, by simp, ?_, ?_⟩))))
   ·simp; omega
   ·intro r hr'
    simp only [List.mem_append, List.mem_singleton] at hr'
    rcases hr' with (h | rfl) | h
    ·exact hx r (List.mem_of_mem_take h)
    ·exact hr
    ·exact hx r (List.mem_of_mem_drop h)
end Go.Proofs.YtbacjgkmkkphdaaGreatDoor
