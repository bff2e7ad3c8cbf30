/- What the functions compute, in plain words. -/
import Derived.Test.YtllbponcjpcbnaaGreatDoorP6
set_option linter.unusedSectionVars false
set_option linter.unusedVariables false
set_option linter.unusedSimpArgs false
namespace Go.Own
variable [Glb]
open Go
theorem zJF {l : List D} {i j : Nat} {x : D} (h : i ≠ j) : gd (l.set i x) j = gd l j := by
 unfold gd
 simp [List.getElem?_set_ne h]
theorem zQz {l : List D} {i j : Nat} {v : D} : (upd l i j v).length = l.length := by simp [upd]
theorem zQ4 {l : List D} {i j k : Nat} {v : D} : (upd2 l i j k v).length = l.length := by simp [upd2]
theorem zRe {l : List D} {i j m : Nat} {v : D} (h : i ≠ m) : gd (upd l i j v) m = gd l m := by unfold upd; exact zJF h
theorem zIY {l : List D} {i j k m : Nat} {v : D} (h : i ≠ m) : gd (upd2 l i j k v) m = gd l m := by unfold upd2; exact zJF h
theorem zPg {α : Type} {F : List D → Outc} {f : α → D} {xs : List α} {k0 : Int} (B : Int) (hB : 0 ≤ B) (hk0 : 0 ≤ k0)
 (hstep : ∀ (i : Nat) (hi : i < xs.length) (zs : List D) (k : Int), zs.length = xs.length → gd zs i = f xs[i] → 0 ≤ k → k ≤ k0 + i * B → ∃ (zs' : List D) (k' : Int), F [.lst zs, .int k, .int i] = some (0, [.lst zs', .int k', .int ((i + 1 : Nat) : Int)]) ∧ zs'.length = xs.length ∧ (∀ j, i < j → gd zs' j = gd zs j) ∧ 0 ≤ k' ∧ k' ≤ k + B)
 (hend : ∀ (zs : List D) (k : Int), zs.length = xs.length → F [.lst zs, .int k, .int xs.length] = some (1, [.lst zs, .int k])) :
 ∃ (zs : List D) (k : Int), 0 ≤ k ∧ k ≤ k0 + xs.length * B ∧ z0b F [.lst (xs.map f), .int k0, .int 0] = some (0, [.lst zs, .int k]) := by
 obtain ⟨s, hs, hloop⟩ := zM1 (f := F) (l := [.lst (xs.map f), .int k0, .int 0]) (fun i (s : List D × Int) => [.lst s.1, .int s.2, .int i]) (fun i s => s.1.length = xs.length ∧ (∀ j (hj : j < xs.length), i ≤ j → gd s.1 j = f xs[j]) ∧ 0 ≤ s.2 ∧ s.2 ≤ k0 + i * B) xs.length (t := 0) (out := fun s => [.lst s.1, .int s.2]) (xs.map f, k0) rfl ⟨by simp, fun j hj _ => by rw [z9w (by simpa using hj)]; simp, hk0, by simp⟩ (by
  rintro i ⟨zs, k⟩ hi ⟨hzl, hzg, h0, h1⟩
  obtain ⟨zs', k', hF, hl', hn', h0', h1'⟩ := hstep i hi zs k hzl (hzg i hi (Nat.le_refl _)) h0 h1
  refine ⟨(zs', k'), hF, hl', fun j hj hij => ?_, h0', ?_⟩
  ·exact (hn' j (by omega)).trans (hzg j hj (by omega))
  ·simp only at h1 h1' ⊢
   have : ((i + 1 : Nat) : Int) * B = i * B + B := by rw [Int.natCast_add, Int.add_mul]; simp
   rw [this]; omega) (by
  rintro ⟨zs, k⟩ ⟨hzl, _⟩
  exact hend zs k hzl)
 exact ⟨s.1, s.2, hs.2.2.1, hs.2.2.2, hloop⟩
end Go.Own
namespace Go.Proofs.YtllbponcjpcbnaaGreatDoor
open Go Go.Own
theorem zKO {k : Int} (h0 : 0 ≤ k) (h1 : k ≤ 100000000000000000) : IntKind.wrap .i64 (k + 1) = k + 1 := z0a (by omega) (by omega)
theorem mulB {n : Nat} {B : Int} (hn : n ≤ lim) (h0 : 0 ≤ B) (h1 : B ≤ 20000000) : (n : Int) * B ≤ 1048576 * 20000000 ∧ 0 ≤ (n : Int) * B := by
 have hlim : lim = 1048576 := rfl
 constructor
 ·exact Int.mul_le_mul (by omega) h1 h0 (by omega)
 ·exact Int.mul_nonneg (by omega) h0
def zR1 (e : List D → Option D) (d : D) : Prop := ∀ k : Int, 0 ≤ k → k ≤ 10000000000000000 → ∃ (k' : Int) (y : D), 0 ≤ k' ∧ k' ≤ k + 30000000000000 ∧ e [d, .int k] = some (.pair (.int k') (.pair y .unit))
theorem zQS {α : Type} {f : α → D} {c : List D → Option D} {xs : List α} (hl : xs.length ≤ smax) (hc : ∀ x ∈ xs, c [f x, f x] = some (.bool true)) : rn (
 if (((D.lst (xs.map f)).l.length : Int) != ((D.lst (xs.map f)).l.length : Int)) then
  ou 0 [(.bool false)]
 else
  (z0b (fun l2 =>
    if (decide ((gd l2 0).i < ((D.lst (xs.map f)).l.length : Int))) then
     if (inb (gd l2 0).i (D.lst (xs.map f)).l.length) then
     if (inb (gd l2 0).i (D.lst (xs.map f)).l.length) then
     (c [(gd (D.lst (xs.map f)).l (gd l2 0).i.toNat), (gd (D.lst (xs.map f)).l (gd l2 0).i.toNat)]).bind fun r3 =>
     if (!r3.b) then
      ou 1 []
     else
      ou 0 [(.int (IntKind.wrap .i64 ((gd l2 0).i + 1)))]
     else none
     else none
    else
     ou 2 []) [(.int 0)]).bind fun o2 =>
  sel2 o2.1 (ou 0 [(.bool false)]) fun n4 =>
  sel2 n4 (ou 0 [(.bool true)]) fun _ => none) = some (.bool true) := by
 rw [if_neg (by simp)]
 refine z0J (z1R (fun i (_ : Unit) => [.int i]) xs.length (fun _ => ()) (t := 1) (o := []) rfl ?_ ?_) rfl
 ·intro i hi
  have := hc _ (List.getElem_mem hi)
  simp [hi, z5s hi, z0B hi, z0I hi hl, this]
 ·simp
theorem zQy {α : Type} {f : α → D} {c : List D → Option D} {xs : List α} {z : D} {eb : Nat} (he : eb ≤ 16777216) (hl : xs.length ≤ lim) (hc : ∀ x ∈ xs, c [f x] = some (f x)) : rn (
 if (makeOk eb ((D.lst (xs.map f)).l.length : Int)) then
 (z0b (fun l1 =>
   if (decide ((gd l1 1).i < ((D.lst (xs.map f)).l.length : Int))) then
    if (inb (gd l1 1).i (D.lst (xs.map f)).l.length) then
    (c [(gd (D.lst (xs.map f)).l (gd l1 1).i.toNat)]).bind fun r3 =>
    if (inb (gd l1 1).i (gd l1 0).l.length) then
    ou 0 [(D.lst ((gd l1 0).l.set (gd l1 1).i.toNat r3)), (.int (IntKind.wrap .i64 ((gd l1 1).i + 1)))]
    else none
    else none
   else
    ou 1 [(gd l1 0)]) [(D.lst (List.replicate ((D.lst (xs.map f)).l.length : Int).toNat z)), (.int 0)]).bind fun o1 =>
 sel2 o1.1 (ou 0 [(gd o1.2 0)]) fun _ => none
 else none) = some (.lst (xs.map f)) := by
 have hlen : (D.lst (xs.map f)).l.length = xs.length := by simp
 rw [hlen]; refine z0U (z6z hl he) ?_
 refine z0J (z1R (fun i (zs : List D) => [.lst zs, .int i]) xs.length (z7Z (xs.map f) z) (t := 0) (o := [.lst (xs.map f)]) (by simp [z9C]) ?_ ?_) rfl
 ·intro i hi
  have hm : i < (xs.map f).length := by simpa using hi
  have hf := zAr (z := z) hm
  have ht := hc _ (List.getElem_mem hi)
  rw [List.getElem_map] at hf
  simp [hi, z5s hi, z0B hi, z0I hi (Nat.le_trans hl z10), z7F (Nat.le_of_lt hm), hf, ht]
 ·have := zAq (xs := xs.map f) (z := z)
  rw [List.length_map] at this
  simp [this]
def SzOk {α : Type} (f : α → D) (c : Int → D → Int) (Q : α → Prop) : Prop := ∀ (x : α) (s : Int), 0 ≤ s → s ≤ lim → c s (f x) ≤ s ∧ (0 ≤ c s (f x) → Q x)
theorem zQx {α : Type} {f : α → D} {c : Int → D → Int} {e : List D → Option D} {Q : α → Prop} {xs : List α} {left : Int} (hQ : SzOk f c Q) (hl : xs.length ≤ smax) (h0 : 0 ≤ left) (h1 : left ≤ lim)
 (hc : ∀ x ∈ xs, ∀ s : Int, 0 ≤ s → s ≤ lim → e [f x, .int s] = some (.int (c s (f x)))) : rn (
 if (decide ((IntKind.wrap .i64 ((D.int left).i - ((D.lst (xs.map f)).l.length : Int))) < 0)) then
  ou 0 [(.int (-1))]
 else
  (z0b (fun l2 =>
    if (decide ((gd l2 1).i < ((D.lst (xs.map f)).l.length : Int))) then
     if (inb (gd l2 1).i (D.lst (xs.map f)).l.length) then
     (e [(gd (D.lst (xs.map f)).l (gd l2 1).i.toNat), (gd l2 0)]).bind fun r4 =>
     if (decide (r4.i < 0)) then
      ou 1 [(.int (-1))]
     else
      ou 0 [r4, (.int (IntKind.wrap .i64 ((gd l2 1).i + 1)))]
     else none
    else
     ou 2 [(gd l2 0)]) [(.int (IntKind.wrap .i64 ((D.int left).i - ((D.lst (xs.map f)).l.length : Int)))), (.int 0)]).bind fun o2 =>
  sel2 o2.1 (ou 0 [(gd o2.2 0)]) fun n4 =>
  sel2 n4 (ou 0 [(gd o2.2 0)]) fun _ => none) = some (.int (szL c (xs.map f) left)) := by
 have hw := z6y h0 h1 hl
 have hlen : (D.lst (xs.map f)).l.length = (xs.map f).length := rfl
 have hlen' : (xs.map f).length = xs.length := by simp
 rw [hlen]
 have hw' : IntKind.wrap .i64 (left - ((xs.map f).length : Int)) = left - (xs.map f).length := by rw [hlen']; exact hw
 by_cases hlt : left - ((xs.map f).length : Int) < 0
 ·refine z0U (by rw [D.i_int, hw']; exact decide_eq_true hlt) ?_
  unfold szL
  rw [if_pos hlt]; rfl
 ·refine z04 (by rw [D.i_int, hw']; exact fun hc => hlt (of_decide_eq_true hc)) ?_
  simp only [D.l_lst, D.i_int, hw']
  refine z0J (zML (c := c) hlt h1 ?_ ?_ ?_) ?_
  ·intro x hx' s h1 h2
   obtain ⟨y, hy, rfl⟩ := List.mem_map.1 hx'
   exact (hQ y s h1 h2).1
  ·intro i s hi h1 h2
   have hi' : i < xs.length := by simpa using hi
   have hg : (xs.map f)[i] = f xs[i] := by simp
   have hz := hc _ (List.getElem_mem hi') s h1 h2
   rw [hg]
   constructor <;> intro hc <;> simp [hi', z5s hi', z0B hi', z0I hi' hl, hz, hc]
  ·intro s; simp
  ·rcases zKK c (xs.map f) left with h | h <;> simp [h]
theorem zRa {α : Type} {f : α → D} {c : Int → D → Int} {Q : α → Prop} (hinj : ∀ x y : α, f x = f y → x = y) (hQ : SzOk f c Q) (xs : List α) {left : Int} (h0 : 0 ≤ left) (h1 : left ≤ lim) :
 szL c (xs.map f) left ≤ left ∧ (0 ≤ szL c (xs.map f) left → xs.length ≤ lim ∧ ∀ x ∈ xs, Q x) := by
 have hs := zMM (c := c) (Q := fun d => ∃ y : α, d = f y ∧ Q y) (xs := xs.map f) (left := left) h1 (by
  intro x hx' s h1 h2
  obtain ⟨y, hy, rfl⟩ := List.mem_map.1 hx'
  exact ⟨(hQ y s h1 h2).1, fun h => ⟨y, rfl, (hQ y s h1 h2).2 h⟩⟩) h0
 refine ⟨hs.1, fun hp => ?_⟩
 have := hs.2 hp
 refine ⟨by simpa using this.1, fun x hx => ?_⟩
 obtain ⟨y, hy, hyl⟩ := this.2 (f x) (List.mem_map.2 ⟨x, hx, rfl⟩)
 rw [hinj _ _ hy]; exact hyl
theorem zMW (p : Int × Rec) : z3a.F [chgD p, chgD p] = some (.bool true) := by
 rw [zEy]
 have f1 : (chgD p).fld 1 = p.2.d := rfl
 rw [f1]
 exact z04 (by simp) (z01 (zGX p.2) rfl)
theorem zKn {xs : List (Int × Rec)} (hl : xs.length ≤ smax) : z3w.F [.lst (xs.map chgD), .lst (xs.map chgD)] = some (.bool true) := by
 rw [zCm]; exact zQS (c := z3a.F) hl (fun p _ => zMW p)
theorem zNh {a : Ask} (hl : a.ch.length ≤ smax) : z4i.F [a.d, a.d] = some (.bool true) := by
 rw [zGG]
 have f2 : a.d.fld 2 = .lst (a.ch.map chgD) := rfl
 rw [f2]
 exact z04 (by simp) (z04 (by simp) (z01 (zKn hl) rfl))
theorem zMf (p : Int × Rec) : z3c.F [chgD p] = some (chgD p) := by
 rw [zF5]
 have f1 : (chgD p).fld 1 = p.2.d := rfl
 rw [f1]
 exact z01 (zGd p.2) rfl
theorem zKw {xs : List (Int × Rec)} (hl : xs.length ≤ lim) : z44.F [.lst (xs.map chgD)] = some (.lst (xs.map chgD)) := by
 rw [zCv]; exact zQy (c := z3c.F) (by decide) hl (fun p _ => zMf p)
theorem zNs {a : Ask} (hl : a.ch.length ≤ lim) : z2g.F [a.d] = some a.d := by
 rw [zGK]
 have f2 : a.d.fld 2 = .lst (a.ch.map chgD) := rfl
 rw [f2]
 exact z01 (zKw hl) rfl
def zNA (s : Int) (x : D) : Int := if z7l s (x.fld 1) < 0 then -1 else z7l s (x.fld 1)
theorem zMe {p : Int × Rec} {left : Int} (hp : p.2.In smax) (h0 : 0 ≤ left) (h1 : left ≤ lim) : z3b.F [chgD p, .int left] = some (.int (zNA left (chgD p))) := by
 rw [zF3]
 have f1 : (chgD p).fld 1 = p.2.d := rfl
 unfold zNA
 rw [f1]
 refine z01 (zGc hp h0 h1) ?_
 by_cases h : z7l left p.2.d < 0
 ·rw [if_pos h]; exact z0U (decide_eq_true h) rfl
 ·rw [if_neg h]; exact z04 (fun h' => h (of_decide_eq_true h')) rfl
theorem zMK : SzOk chgD zNA (fun p => p.2.In lim) := by
 intro p s h0 h1
 have f1 : (chgD p).fld 1 = p.2.d := rfl
 have := z8j (x := p.2) s h0 h1
 unfold zNA
 rw [f1]
 split
 ·exact ⟨by omega, fun h => by omega⟩
 ·exact this
theorem zPA (x y : Int × Rec) (h : chgD x = chgD y) : x = y := by
 obtain ⟨a, r⟩ := x
 obtain ⟨b, s⟩ := y
 simp only [chgD, D.pair.injEq, D.int.injEq] at h
 rw [h.1, Rec.d_inj h.2.1]
theorem zNq {a : Ask} {left : Int} (ha : a.In smax) (h0 : 0 ≤ left) (h1 : left ≤ lim) : ∃ r, z4k.F [a.d, .int left] = some (.int r) ∧ r ≤ left ∧ (0 ≤ r → a.In lim) := by
 have f2 : a.d.fld 2 = .lst (a.ch.map chgD) := rfl
 have hs : z41.F [.lst (a.ch.map chgD), .int left] = some (.int (szL zNA (a.ch.map chgD) left)) := by
  rw [zCs]
  exact zQx (e := z3b.F) zMK ha.len h0 h1 (fun p hp s h0 h1 => zMe (ha.all p hp) h0 h1)
 have hok := zRa (f := chgD) zPA zMK a.ch h0 h1
 rw [zGI, f2]
 by_cases h : szL zNA (a.ch.map chgD) left < 0
 ·exact ⟨-1, z01 hs (z0U (decide_eq_true h) rfl), by omega, by omega⟩
 ·exact ⟨_, z01 hs (z04 (fun h' => h (of_decide_eq_true h')) rfl), hok.1, fun hp => ⟨(hok.2 hp).1, (hok.2 hp).2⟩⟩
abbrev tChg : T := .pair (.int .i64) (.pair tRec .unit)
abbrev tAsk : T := .pair (.int .i64) (.pair (.int .i64) (.pair (.lst false tChg) .unit))
theorem zR6 {B : Nat} {d : D} (h : Sm B tChg d) : ∃ x : Int × Rec, d = chgD x ∧ x.2.In B := by
 obtain ⟨_, _, rfl, ⟨n, rfl, _⟩, _, _, rfl, hr, rfl⟩ := h
 obtain ⟨r, rfl, hr2⟩ := zQG hr
 exact ⟨⟨n, r⟩, rfl, hr2⟩
theorem zR3 {B : Nat} {d : D} (h : Sm B tAsk d) : ∃ x : Ask, d = x.d ∧ x.In B := by
 obtain ⟨_, _, rfl, ⟨n, rfl, _⟩, _, _, rfl, ⟨m, rfl, _⟩, _, _, rfl, ⟨xs, rfl, hl, hc⟩, rfl⟩ := h
 obtain ⟨ys, rfl, hys⟩ := zHo (g := chgD) (Q := fun x => x.2.In B) (fun x hx => zR6 (hc x hx))
 exact ⟨⟨n, m, ys⟩, rfl, by simpa using hl, hys⟩
theorem zMv {xs : List (Int × Rec)} (hl : xs.length ≤ lim) (k : Int) (h0 : 0 ≤ k) (h1 : k ≤ 10000000000000000) : ∃ (k' : Int) (y : D), 0 ≤ k' ∧ k' ≤ k + 5242880 ∧ z2Z.F [.lst (xs.map chgD), .int k] = some (.pair (.int k') (.pair y .unit)) := by
 have hlim : lim = 1048576 := rfl
 have hsm := Nat.le_trans hl z10
 have h10 := zEm
 rw [zAV]
 have hm := mulB (n := xs.length) (B := 5) hl (by decide) (by decide)
 obtain ⟨zs, k', g0, g1, hloop⟩ := zPg (f := chgD) (xs := xs) (k0 := k) 5 (by decide) h0 (F := fun l2 =>
  if (decide ((gd l2 2).i < ((gd l2 0).l.length : Int))) then
   if (inb (gd l2 2).i (gd l2 0).l.length) then
   (z0m.F [(.int (IntKind.wrap .i64 ((gd l2 1).i + 1)))]).bind fun r5 =>
   (z0m.F [(.int (IntKind.wrap .i64 ((IntKind.wrap .i64 ((IntKind.wrap .i64 ((IntKind.wrap .i64 ((gd l2 1).i + 1)) + 1)) + 1)) + 1)))]).bind fun r6 =>
   ou 0 [(D.lst (upd2 (upd2 (upd2 (upd2 (upd (gd l2 0).l (gd l2 2).i.toNat 0 (gd l2 1)) (gd l2 2).i.toNat 1 0 r5) (gd l2 2).i.toNat 1 1 (.int (IntKind.wrap .i64 ((IntKind.wrap .i64 ((gd l2 1).i + 1)) + 1)))) (gd l2 2).i.toNat 1 2 (.int (IntKind.wrap .i64 ((IntKind.wrap .i64 ((IntKind.wrap .i64 ((gd l2 1).i + 1)) + 1)) + 1)))) (gd l2 2).i.toNat 1 3 r6)), (.int (IntKind.wrap .i64 ((IntKind.wrap .i64 ((IntKind.wrap .i64 ((IntKind.wrap .i64 ((IntKind.wrap .i64 ((gd l2 1).i + 1)) + 1)) + 1)) + 1)) + 1))), (.int (IntKind.wrap .i64 ((gd l2 2).i + 1)))]
   else none
  else
   ou 1 [(gd l2 0), (gd l2 1)]) (by
  intro i hi zs k2 hzl hg hk0 hk1
  have hi2 := mulB (n := i) (B := 5) (by omega) (by decide) (by decide)
  have e0 : gd [D.lst zs, D.int k2, D.int (i : Int)] 0 = .lst zs := rfl
  have e1 : gd [D.lst zs, D.int k2, D.int (i : Int)] 1 = .int k2 := rfl
  have e2 : gd [D.lst zs, D.int k2, D.int (i : Int)] 2 = .int i := rfl
  have m1 := zGi (k := k2 + 1) (by omega) (by omega)
  have m2 := zGi (k := k2 + 1 + 1 + 1 + 1) (by omega) (by omega)
  refine ⟨upd2 (upd2 (upd2 (upd2 (upd zs i 0 (.int k2)) i 1 0 (.str (mtA (k2 + 1)))) i 1 1 (.int (k2 + 1 + 1))) i 1 2 (.int (k2 + 1 + 1 + 1))) i 1 3 (.str (mtA (k2 + 1 + 1 + 1 + 1))), k2 + 1 + 1 + 1 + 1 + 1, ?_, by simp only [zQz, zQ4]; exact hzl, ?_, by omega, by omega⟩
  ·simp only [e0, e1, e2, D.l_lst, D.i_int, Int.toNat_natCast, zKO (k := k2) (by omega) (by omega), zKO (k := k2 + 1) (by omega) (by omega), zKO (k := k2 + 1 + 1) (by omega) (by omega), zKO (k := k2 + 1 + 1 + 1) (by omega) (by omega), zKO (k := k2 + 1 + 1 + 1 + 1) (by omega) (by omega), z0I hi hsm]
   exact z02 (decide_eq_true (show (i : Int) < (zs.length : Int) by omega)) (z02 (z0B (by omega)) (z05 m1 (z05 m2 rfl)))
  ·intro j hj
   have hne : i ≠ j := by omega
   rw [zIY hne, zIY hne, zIY hne, zIY hne, zRe hne]) (by
  intro zs k2 hzl
  exact z00 (by simp [hzl]) rfl)
 exact ⟨k', .lst zs, g0, by omega, z0J hloop rfl⟩
theorem zOF {xs : List (Int × Rec)} (hl : xs.length ≤ lim) : zR1 z2Z.F (.lst (xs.map chgD)) := by
 intro k h0 h1
 obtain ⟨k', y, g0, g1, h⟩ := zMv hl k h0 h1
 exact ⟨k', y, g0, by omega, h⟩
theorem zKt {a : Ask} (hl : a.ch.length ≤ lim) : zR1 z3z.F a.d := by
 intro k h0 h1
 have f2 : a.d.fld 2 = .lst (a.ch.map chgD) := rfl
 obtain ⟨k', y, g0, g1, hm⟩ := zOF hl k h0 h1
 rw [zCq, f2]
 exact ⟨k', _, g0, g1, z01 hm rfl⟩
def dmk (k : Int) : Dn := ⟨k, k + 1, k + 2, k + 3⟩
def dmk4 (k : Int) (i : Nat) : D := (dmk (k + 4 * i)).d
def z4G (k : Int) (n : Nat) : List Dn := (List.range n).map fun i : Nat => dmk (k + 4 * i)
theorem zOD (k : Int) (n : Nat) : (List.range n).map (dmk4 k) = (z4G k n).map Dn.d := by
 simp only [z4G, List.map_map]
 rfl
theorem zEB (k : Int) (n : Nat) : (z4G k n).length = n := by simp [z4G]
theorem zJ5 {xs : List Dn} {k : Int} (h0 : 0 ≤ k) (h1 : k + 4 * xs.length < 10 ^ 18) :
 z40.F [.lst (xs.map Dn.d), .int k] = some (.pair (.int (k + 4 * xs.length)) (.pair (.lst ((z4G k xs.length).map Dn.d)) .unit)) := by
 have h10 := zEm
 have hl : xs.length ≤ smax := by simp [smax]; omega
 have hml : (xs.map Dn.d).length = xs.length := by simp
 rw [zCr]
 refine z0J (z1R (fun i (zs : List D) => [.lst zs, .int (k + 4 * i), .int i]) xs.length (over (dmk4 k) (xs.map Dn.d)) (t := 0) (o := [.lst ((z4G k xs.length).map Dn.d), .int (k + 4 * xs.length)]) (by simp [zJn]) ?_ ?_) rfl
 ·intro i hi
  have hi' : i < (xs.map Dn.d).length := by simpa using hi
  have w1 : IntKind.wrap .i64 (k + 4 * (i : Int) + 1) = k + 4 * i + 1 := by rw [z0a] <;> omega
  have w2 : IntKind.wrap .i64 (k + 4 * (i : Int) + 1 + 1) = k + 4 * i + 2 := by rw [z0a] <;> omega
  have w3 : IntKind.wrap .i64 (k + 4 * (i : Int) + 2 + 1) = k + 4 * i + 3 := by rw [z0a] <;> omega
  have w4 : IntKind.wrap .i64 (k + 4 * (i : Int) + 3 + 1) = k + 4 * ((i + 1 : Nat) : Int) := by rw [z0a] <;> omega
  have hol : (over (dmk4 k) (xs.map Dn.d) i).length = xs.length := by rw [zEj (Nat.le_of_lt hi'), hml]
  have hol' : i < (over (dmk4 k) (xs.map Dn.d) i).length := by rw [hol]; exact hi
  have hg : gd (over (dmk4 k) (xs.map Dn.d) i) i = xs[i].d := (zOR hi').trans (zC2 hi)
  refine z02 (by simp [hol]; omega) (z02 ?_ ?_)
  ·simp only [z14, z7y, D.l_lst, D.i_int, hol]; exact z0B hi
  ·simp only [upd, z14, z4c, z7y, D.l_lst, D.i_int, Int.toNat_natCast, List.set_set, zQB hol', hg, w1, w2, w3, w4, z0I hi hl]
   rw [zJm hi']
   all_goals rfl
 ·have := zM8 (ys := dmk4 k) (xs := xs.map Dn.d)
  have h2 : (z4G k xs.length).length = xs.length := zEB _ _
  rw [hml, zOD] at this
  simp [this, h2]
theorem zJ0 {n : Nat} {k : Int} (h0 : 0 ≤ k) (h1 : k + 4 * n < 10 ^ 18) : z3y.F [.lst ((z4G k n).map Dn.d), .int k] = some (.int (k + 4 * n)) := by
 have h10 := zEm
 have hl : n ≤ smax := by simp [smax]; omega
 have hml : (z4G k n).length = n := zEB _ _
 have hlen : (D.lst ((z4G k n).map Dn.d)).l.length = n := by simp [hml]
 rw [zCp, hlen]
 refine z0J (z1R (fun i (_ : Unit) => [.int (k + 4 * i), .int i]) n (fun _ => ()) (t := 1) (o := [.int (k + 4 * n)]) (by simp) ?_ ?_) rfl
 ·intro i hi
  have w1 : IntKind.wrap .i64 (k + 4 * (i : Int) + 1) = k + 4 * i + 1 := by rw [z0a] <;> omega
  have w2 : IntKind.wrap .i64 (k + 4 * (i : Int) + 1 + 1) = k + 4 * i + 2 := by rw [z0a] <;> omega
  have w3 : IntKind.wrap .i64 (k + 4 * (i : Int) + 2 + 1) = k + 4 * i + 3 := by rw [z0a] <;> omega
  have w4 : IntKind.wrap .i64 (k + 4 * (i : Int) + 3 + 1) = k + 4 * ((i + 1 : Nat) : Int) := by rw [z0a] <;> omega
  have hg : gd ((z4G k n).map Dn.d) i = (dmk (k + 4 * i)).d := by
   rw [zC2 (by rw [hml]; exact hi)]; simp [z4G]
  refine z02 (by simpa using hi) (z02 (by simpa using z0B hi) ?_)
  simp only [z14, z4c, D.l_lst, D.i_int, Int.toNat_natCast, hg, w1, w2, w3, w4, z0I hi hl]
  have f0 : (dmk (k + 4 * i)).d.fld 0 = .int (k + 4 * i) := rfl
  have f1 : (dmk (k + 4 * i)).d.fld 1 = .int (k + 4 * i + 1) := rfl
  have f2 : (dmk (k + 4 * i)).d.fld 2 = .int (k + 4 * i + 2) := rfl
  have f3 : (dmk (k + 4 * i)).d.fld 3 = .int (k + 4 * i + 3) := rfl
  rw [f0, f1, f2, f3]
  exact z00 (by simp) (z00 (by simp) (z00 (by simp) (z00 (by simp) rfl)))
 ·simp
end Go.Proofs.YtllbponcjpcbnaaGreatDoor
namespace Go.Proofs.YtllbponcjpcbnaaGreatDoor
open Go Go.Own
theorem zKg {c : Ctl} {a : Ask} (hc : c.In lim) (ha : a.In lim) : ∃ (c' : Ctl) (d : Dn) (b : Bool), c'.In lim ∧ z3A.F [c.d, a.d] = some (takD c' d b) ∧ z47.F [c.d, a.d] = some (takD c' d b) := by
 have hI := zHC hc
 have hS := zAp hc
 rw [zCh, zCy]
 cases hg : c.good with
 | false =>
   rw [hg] at hI hS
   exact ⟨nulC, Dn.nul, false, ⟨⟨by simp [nulC], by simp [nulC], by simp [nulC]⟩, by simp [nulC]⟩, z01 hI (z0U rfl rfl), z01 hS (z0U rfl rfl)⟩
 | true =>
   rw [hg] at hI hS
   obtain ⟨c', d, b, hc', _, h1, h2⟩ := zRG hc (zP9 hg) ha
   exact ⟨c', d, b, hc', z01 hI (z04 (by simp) (z01 h1 rfl)), z01 hS (z04 (by simp) (z01 (zPN hc) (z01 h2 rfl)))⟩
theorem zQf (c : Ctl) (x y : D) : D.mix (.pair (.pair .str (.pair (.int .i64) (.pair (.lst true (.pair .str (.pair (.int .i64) (.pair (.int .i64) (.pair .str .unit))))) .unit))) (.pair (.lst true (.pair (.int .i64) (.pair (.int .i64) (.pair (.int .i64) (.pair (.int .i64) .unit))))) (.pair (.int .i64) .unit))) c.d ((c.d.setFld 0 (.pair ((c.d.fld 0).fld 0) (.pair ((c.d.fld 0).fld 1) (.pair x .unit)))).setFld 1 y) = .pair (.pair (.str c.zone.apex) (.pair (.int c.zone.counter) (.pair x .unit))) (.pair y (.pair (.int c.many) .unit)) := by
 unfold D.mix
 split
 ·rfl
 ·rfl
theorem z8w {c : Ctl} (hc : c.In lim) : ∃ y : D, z2a.F [c.d, .int 1] = some (.pair (.int (1 + 4 * c.zone.recs.length + 4 * c.last.length)) (.pair y .unit)) ∧ (y.fld 0).fld 2 = .lst ((z4H 1 c.zone.recs.length).map Rec.d) ∧ y.fld 1 = .lst ((z4G (1 + 4 * c.zone.recs.length) c.last.length).map Dn.d) := by
 have h10 := zEm
 have hlim : lim = 1048576 := rfl
 have hz := hc.zone.len
 have hl := hc.len
 have f0 : c.d.fld 0 = c.zone.d := rfl
 have f1 : c.d.fld 1 = .lst (c.last.map Dn.d) := rfl
 obtain ⟨m, hm, hm2⟩ := zMd (z := c.zone) (k := 1) (by decide) (by omega)
 have hd := zJ5 (xs := c.last) (k := 1 + 4 * c.zone.recs.length) (by omega) (by omega)
 have hq := zQf c (m.fld 2) (.lst ((z4G (1 + 4 * c.zone.recs.length) c.last.length).map Dn.d))
 rw [f0] at hq
 rw [zAW, f0, f1]
 refine ⟨.pair (.pair (.str c.zone.apex) (.pair (.int c.zone.counter) (.pair (.lst ((z4H 1 c.zone.recs.length).map Rec.d)) .unit))) (.pair (.lst ((z4G (1 + 4 * c.zone.recs.length) c.last.length).map Dn.d)) (.pair (.int c.many) .unit)), z01 hm (z01 hd ?_), rfl, rfl⟩
 show some (D.pair _ (.pair (D.mix _ c.d ((c.d.setFld 0 (.pair (c.zone.d.fld 0) (.pair (c.zone.d.fld 1) (.pair (m.fld 2) .unit)))).setFld 1 (.lst ((z4G (1 + 4 * c.zone.recs.length) c.last.length).map Dn.d)))) .unit)) = _
 rw [hq, hm2]
 rfl
theorem zFW {a : List UInt8} {cn : Int} {n m : Nat} {z : D} (hn : n ≤ lim) (hm : m ≤ lim) : z2Y.F [.pair (.pair (.str a) (.pair (.int cn) (.pair (.lst ((z4H 1 n).map Rec.d)) .unit))) (.pair (.lst ((z4G (1 + 4 * n) m).map Dn.d)) (.pair z .unit)), .int 1] = some (.int (1 + 4 * n + 4 * m)) := by
 have h10 := zEm
 have hlim : lim = 1048576 := rfl
 rw [zAT]
 have hz := zMX (a := a) (c := cn) (n := n) (k := 1) (by decide) (by omega)
 have hd := zJ0 (n := m) (k := 1 + 4 * n) (by omega) (by omega)
 exact z01 hz (z04 (fun h => absurd (of_decide_eq_true h) (by rw [D.i_int]; omega)) (z01 hd (z04 (fun h => absurd (of_decide_eq_true h) (by rw [D.i_int]; omega)) rfl)))
theorem zJA {c : Ctl} {left : Int} (hc : c.In smax) (h0 : 0 ≤ left) (h1 : left ≤ lim) : ∃ r, z42.F [c.d, .int left] = some (.int r) ∧ r ≤ left ∧ (0 ≤ r → c.In lim) := by
 rw [zCt]
 have f0 : c.d.fld 0 = c.zone.d := rfl
 have f1 : c.d.fld 1 = .lst (c.last.map Dn.d) := rfl
 rw [f0, f1]
 have hz := zPS (left := left) hc.zone h0 h1
 have hzs := zOu (z := c.zone) left h0 h1
 by_cases hlt : szZn left c.zone.d < 0
 ·exact ⟨-1, z01 hz (z0U (decide_eq_true hlt) rfl), by omega, by omega⟩
 ·obtain ⟨r, hr, hle, hrl⟩ := zNr (left := szZn left c.zone.d) hc.len (by omega) (by omega)
  by_cases hlt2 : r < 0
  ·exact ⟨-1, z01 hz (z04 (fun h => hlt (of_decide_eq_true h)) (z01 hr (z0U (decide_eq_true hlt2) rfl))), by omega, by omega⟩
  ·exact ⟨r, z01 hz (z04 (fun h => hlt (of_decide_eq_true h)) (z01 hr (z04 (fun h => hlt2 (of_decide_eq_true h)) rfl))), by omega, fun hp => ⟨hzs.2 (by omega), hrl hp⟩⟩
theorem z8n {x y : D} (hx : Sm smax tCtl x) (hy : Sm smax tAsk y) : z3m.F [x, y] = some (.bool true) := by
 obtain ⟨c, rfl, hi⟩ := zR9 hx
 obtain ⟨a, rfl, hai⟩ := zR3 hy
 have hlim : lim = 1048576 := rfl
 rw [z7S]
 obtain ⟨r, h1, h2, h3⟩ := zJA hi (left := 1048576) (by decide) (by decide)
 refine z01 h1 ?_
 by_cases hr : r < 0
 ·exact z0U (decide_eq_true hr) rfl
 refine z04 (fun h => hr (of_decide_eq_true h)) ?_
 have hc := h3 (by omega)
 obtain ⟨r2, h4, _, h5⟩ := zNq hai (left := r) (by omega) (by omega)
 refine z01 h4 ?_
 by_cases hr2 : r2 < 0
 ·exact z0U (decide_eq_true hr2) rfl
 refine z04 (fun h => hr2 (of_decide_eq_true h)) ?_
 have ha := h5 (by omega)
 have hto := zKx hc
 have hta := zNs ha.len
 obtain ⟨c', d, b, hc', hI, hS⟩ := zKg hc ha
 have heqc := zDR hc.smax
 have heqc' := zDR hc'.smax
 have heqd := zLm d
 have heqa := zNh (a := a) (Nat.le_trans ha.len z10)
 have A0 : (takD c' d b).fld 0 = c'.d := rfl
 have A1 : (takD c' d b).fld 1 = d.d := rfl
 have A2 : ((takD c' d b).fld 2).b = b := rfl
 have hzl := hc.zone.len
 have hll := hc.len
 have hzl' := hc'.zone.len
 have hll' := hc'.len
 obtain ⟨y0, hm0, _, _⟩ := z8w hc
 obtain ⟨y1, hm1, hy2, hy3⟩ := z8w hc'
 obtain ⟨k2, y2, hk2, _, hm2⟩ := zKt ha.len (1 + 4 * c.zone.recs.length + 4 * c.last.length) (by omega) (by omega)
 have hheld := zFW (a := c'.zone.apex) (cn := c'.zone.counter) (z := .int c'.many) hzl' hll'
 have M1 : (D.pair (.int (1 + 4 * (c'.zone.recs.length : Int) + 4 * (c'.last.length : Int))) (.pair y1 .unit)).fld 1 = y1 := rfl
 have hobj : (D.pair (.pair ((c'.d.fld 0).fld 0) (.pair ((c'.d.fld 0).fld 1) (.pair ((y1.fld 0).fld 2) .unit))) (.pair (y1.fld 1) (.pair (c'.d.fld 2) .unit))) = .pair (.pair (.str c'.zone.apex) (.pair (.int c'.zone.counter) (.pair (.lst ((z4H 1 c'.zone.recs.length).map Rec.d)) .unit))) (.pair (.lst ((z4G (1 + 4 * c'.zone.recs.length) c'.last.length).map Dn.d)) (.pair (.int c'.many) .unit)) := by
  rw [hy2, hy3]; rfl
 refine z01 hto (z01 hta (z01 hS (z01 hto (z01 hta (z01 hI ?_)))))
 rw [A0, A1, A2]
 have same : ((z1T.F [c'.d, c'.d]).bind fun r10 => if (!r10.b) = true then ou 0 [(.bool true)] else (z2F.F [d.d, d.d]).bind fun r11 => if (!r11.b) = true then ou 0 [(.bool true)] else ou 0 [(.bool (!(b == b)))] : Outc) = some (0, [.bool false]) := z05 heqc' (z00 (by simp) (z05 heqd (z00 (by simp) (by simp))))
 refine z06 (l := [.bool false]) same (z04 (by simp) (z01 hto (z01 heqc (z04 (by simp) (z01 hta (z01 heqa (z04 (by simp) (z01 hm0 (z01 hm2 ?_)))))))))
 refine z06 (l := [.bool false]) (z00 (fun h => absurd (of_decide_eq_true h) (by show ¬ k2 < 0; omega)) same) (z04 (by simp) (z01 hm1 ?_))
 rw [M1, hobj]
 refine z01 hheld (z04 (fun h => absurd (of_decide_eq_true h) (by rw [D.i_int]; omega)) (z04 (by simp [D.fld]) (z01 hto (z01 hta (z01 hI ?_)))))
 rw [A0, A1, A2]
 refine z06 (l := [.bool false]) same (z04 (by simp) ?_)
 exact z01 hheld (z04 (fun h => absurd (of_decide_eq_true h) (by rw [D.i_int]; omega)) (z04 (by simp [D.fld]) rfl))
end Go.Proofs.YtllbponcjpcbnaaGreatDoor
