/- What the functions compute, in plain words. -/
import Derived.Test.YtllbponcjpcbnaaGreatDoorP6
set_option linter.unusedSectionVars false
set_option linter.unusedVariables false
set_option linter.unusedSimpArgs false
namespace Go.Own
variable [Glb]
open Go
theorem zIl {l : List D} {i j : Nat} {x : D} (h : i ≠ j) : gd (l.set i x) j = gd l j := by
 unfold gd
 simp [List.getElem?_set_ne h]
theorem zL3 {l : List D} {i j : Nat} {v : D} : (upd l i j v).length = l.length := by simp [upd]
theorem zPl {l : List D} {i j k : Nat} {v : D} : (upd2 l i j k v).length = l.length := by simp [upd2]
theorem zLx {l : List D} {i j m : Nat} {v : D} (h : i ≠ m) : gd (upd l i j v) m = gd l m := by unfold upd; exact zIl h
theorem zI4 {l : List D} {i j k m : Nat} {v : D} (h : i ≠ m) : gd (upd2 l i j k v) m = gd l m := by unfold upd2; exact zIl h
theorem zPt {l : List D} {i j : Nat} {v : D} (h : i < l.length) : gd (upd l i j v) i = (gd l i).setFld j v := by unfold upd; exact zNa h
theorem zLa {α : Type} {F : List D → Outc} {f : α → D} {xs : List α} {k0 : Int} (B : Int) (hB : 0 ≤ B) (hk0 : 0 ≤ k0)
 (hstep : ∀ (i : Nat) (hi : i < xs.length) (zs : List D) (k : Int), zs.length = xs.length → gd zs i = f xs[i] → 0 ≤ k → k ≤ k0 + i * B → ∃ (zs' : List D) (k' : Int), F [.lst zs, .int k, .int i] = some (0, [.lst zs', .int k', .int ((i + 1 : Nat) : Int)]) ∧ zs'.length = xs.length ∧ (∀ j, i < j → gd zs' j = gd zs j) ∧ 0 ≤ k' ∧ k' ≤ k + B)
 (hend : ∀ (zs : List D) (k : Int), zs.length = xs.length → F [.lst zs, .int k, .int xs.length] = some (1, [.lst zs, .int k])) :
 ∃ (zs : List D) (k : Int), 0 ≤ k ∧ k ≤ k0 + xs.length * B ∧ z0a F [.lst (xs.map f), .int k0, .int 0] = some (0, [.lst zs, .int k]) := by
 obtain ⟨s, hs, hloop⟩ := zLZ (f := F) (l := [.lst (xs.map f), .int k0, .int 0]) (fun i (s : List D × Int) => [.lst s.1, .int s.2, .int i]) (fun i s => s.1.length = xs.length ∧ (∀ j (hj : j < xs.length), i ≤ j → gd s.1 j = f xs[j]) ∧ 0 ≤ s.2 ∧ s.2 ≤ k0 + i * B) xs.length (t := 0) (out := fun s => [.lst s.1, .int s.2]) (xs.map f, k0) rfl ⟨by simp, fun j hj _ => by rw [z9g (by simpa using hj)]; simp, hk0, by simp⟩ (by
  rintro i ⟨zs, k⟩ hi ⟨hzl, hzg, h0, h1⟩
  obtain ⟨zs', k', hF, hl', hn', h0', h1'⟩ := hstep i hi zs k hzl (hzg i hi (Nat.le_refl _)) h0 h1
  refine ⟨(zs', k'), hF, hl', fun j hj hij => ?_, h0', ?_⟩
  ·exact (hn' j (by omega)).trans (hzg j hj (by omega))
  ·simp only at h1 h1' ⊢
   have : ((i + 1 : Nat) : Int) * B = i * B + B := by rw [Int.natCast_add, Int.add_mul]; simp
   rw [this]; omega) (by
  rintro ⟨zs, k⟩ ⟨hzl, _⟩
  exact hend zs k hzl)
 exact ⟨s.1, s.2, hs.2.2.1, hs.2.2.2, hloop⟩
end Go.Own
namespace Go.Proofs.YtllbponcjpcbnaaGreatDoor
open Go Go.Own
theorem zF4 {k : Int} (h0 : 0 ≤ k) (h1 : k ≤ 100000000000000000) : IntKind.wrap .i64 (k + 1) = k + 1 := z0c (by omega) (by omega)
theorem mulB {n : Nat} {B : Int} (hn : n ≤ lim) (h0 : 0 ≤ B) (h1 : B ≤ 20000000) : (n : Int) * B ≤ 1048576 * 20000000 ∧ 0 ≤ (n : Int) * B := by
 have hlim : lim = 1048576 := rfl
 constructor
 ·exact Int.mul_le_mul (by omega) h1 h0 (by omega)
 ·exact Int.mul_nonneg (by omega) h0
theorem zNG {α : Type} {f : α → D} {c : List D → Option D} {xs : List α} (hl : xs.length ≤ smax) (hc : ∀ x ∈ xs, c [f x, f x] = some (.bool true)) : rn (
 if (((D.lst (xs.map f)).l.length : Int) != ((D.lst (xs.map f)).l.length : Int)) then
  ou 0 [(.bool false)]
 else
  (z0a (fun l2 =>
    if (decide ((gd l2 0).i < ((D.lst (xs.map f)).l.length : Int))) then
     if (inb (gd l2 0).i (D.lst (xs.map f)).l.length) then
     if (inb (gd l2 0).i (D.lst (xs.map f)).l.length) then
     (c [(gd (D.lst (xs.map f)).l (gd l2 0).i.toNat), (gd (D.lst (xs.map f)).l (gd l2 0).i.toNat)]).bind fun r3 =>
     if (!r3.b) then
      ou 1 []
     else
      ou 0 [(.int (IntKind.wrap .i64 ((gd l2 0).i + 1)))]
     else none
     else none
    else
     ou 2 []) [(.int 0)]).bind fun o2 =>
  sel2 o2.1 (ou 0 [(.bool false)]) fun n4 =>
  sel2 n4 (ou 0 [(.bool true)]) fun _ => none) = some (.bool true) := by
 rw [if_neg (by simp)]
 refine z0K (z1R (fun i (_ : Unit) => [.int i]) xs.length (fun _ => ()) (t := 1) (o := []) rfl ?_ ?_) rfl
 ·intro i hi
  have := hc _ (List.getElem_mem hi)
  simp [hi, z5V hi, z0B hi, z0N hi hl, this]
 ·simp
theorem zOf {α : Type} {f : α → D} {c : List D → Option D} {xs : List α} {z : D} {eb : Nat} (he : eb ≤ 16777216) (hl : xs.length ≤ lim) (hc : ∀ x ∈ xs, c [f x] = some (f x)) : rn (
 if (makeOk eb ((D.lst (xs.map f)).l.length : Int)) then
 (z0a (fun l1 =>
   if (decide ((gd l1 1).i < ((D.lst (xs.map f)).l.length : Int))) then
    if (inb (gd l1 1).i (D.lst (xs.map f)).l.length) then
    (c [(gd (D.lst (xs.map f)).l (gd l1 1).i.toNat)]).bind fun r3 =>
    if (inb (gd l1 1).i (gd l1 0).l.length) then
    ou 0 [(D.lst ((gd l1 0).l.set (gd l1 1).i.toNat r3)), (.int (IntKind.wrap .i64 ((gd l1 1).i + 1)))]
    else none
    else none
   else
    ou 1 [(gd l1 0)]) [(D.lst (List.replicate ((D.lst (xs.map f)).l.length : Int).toNat z)), (.int 0)]).bind fun o1 =>
 sel2 o1.1 (ou 0 [(gd o1.2 0)]) fun _ => none
 else none) = some (.lst (xs.map f)) := by
 have hlen : (D.lst (xs.map f)).l.length = xs.length := by simp
 rw [hlen]; refine z0U (zAu hl he) ?_
 refine z0K (z1R (fun i (zs : List D) => [.lst zs, .int i]) xs.length (z8l (xs.map f) z) (t := 0) (o := [.lst (xs.map f)]) (by simp [zKU]) ?_ ?_) rfl
 ·intro i hi
  have hm : i < (xs.map f).length := by simpa using hi
  have hf := zML (z := z) hm
  have ht := hc _ (List.getElem_mem hi)
  rw [List.getElem_map] at hf
  simp [hi, z5V hi, z0B hi, z0N hi (Nat.le_trans hl z1A), zGy (Nat.le_of_lt hm), hf, ht]
 ·have := zMK (xs := xs.map f) (z := z)
  rw [List.length_map] at this
  simp [this]
def SzOk {α : Type} (f : α → D) (c : Int → D → Int) (Q : α → Prop) : Prop := ∀ (x : α) (s : Int), 0 ≤ s → s ≤ lim → c s (f x) ≤ s ∧ (0 ≤ c s (f x) → Q x)
theorem zOd {α : Type} {f : α → D} {c : Int → D → Int} {e : List D → Option D} {Q : α → Prop} {xs : List α} {left : Int} (hQ : SzOk f c Q) (hl : xs.length ≤ smax) (h0 : 0 ≤ left) (h1 : left ≤ lim)
 (hc : ∀ x ∈ xs, ∀ s : Int, 0 ≤ s → s ≤ lim → e [f x, .int s] = some (.int (c s (f x)))) : rn (
 if (decide ((IntKind.wrap .i64 ((D.int left).i - ((D.lst (xs.map f)).l.length : Int))) < 0)) then
  ou 0 [(.int (-1))]
 else
  (z0a (fun l2 =>
    if (decide ((gd l2 1).i < ((D.lst (xs.map f)).l.length : Int))) then
     if (inb (gd l2 1).i (D.lst (xs.map f)).l.length) then
     (e [(gd (D.lst (xs.map f)).l (gd l2 1).i.toNat), (gd l2 0)]).bind fun r4 =>
     if (decide (r4.i < 0)) then
      ou 1 [(.int (-1))]
     else
      ou 0 [r4, (.int (IntKind.wrap .i64 ((gd l2 1).i + 1)))]
     else none
    else
     ou 2 [(gd l2 0)]) [(.int (IntKind.wrap .i64 ((D.int left).i - ((D.lst (xs.map f)).l.length : Int)))), (.int 0)]).bind fun o2 =>
  sel2 o2.1 (ou 0 [(gd o2.2 0)]) fun n4 =>
  sel2 n4 (ou 0 [(gd o2.2 0)]) fun _ => none) = some (.int (szL c (xs.map f) left)) := by
 have hw := zDl h0 h1 hl
 have hlen : (D.lst (xs.map f)).l.length = (xs.map f).length := rfl
 have hlen' : (xs.map f).length = xs.length := by simp
 rw [hlen]
 have hw' : IntKind.wrap .i64 (left - ((xs.map f).length : Int)) = left - (xs.map f).length := by rw [hlen']; exact hw
 by_cases hlt : left - ((xs.map f).length : Int) < 0
 ·refine z0U (by rw [D.i_int, hw']; exact decide_eq_true hlt) ?_
  unfold szL
  rw [if_pos hlt]; rfl
 ·refine z04 (by rw [D.i_int, hw']; exact fun hc => hlt (of_decide_eq_true hc)) ?_
  simp only [D.l_lst, D.i_int, hw']
  refine z0K (zPe (c := c) hlt h1 ?_ ?_ ?_) ?_
  ·intro x hx' s h1 h2
   obtain ⟨y, hy, rfl⟩ := List.mem_map.1 hx'
   exact (hQ y s h1 h2).1
  ·intro i s hi h1 h2
   have hi' : i < xs.length := by simpa using hi
   have hg : (xs.map f)[i] = f xs[i] := by simp
   have hz := hc _ (List.getElem_mem hi') s h1 h2
   rw [hg]
   constructor <;> intro hc <;> simp [hi', z5V hi', z0B hi', z0N hi' hl, hz, hc]
  ·intro s; simp
  ·rcases zOc c (xs.map f) left with h | h <;> simp [h]
theorem zQ2 {α : Type} {f : α → D} {c : Int → D → Int} {Q : α → Prop} (hinj : ∀ x y : α, f x = f y → x = y) (hQ : SzOk f c Q) (xs : List α) {left : Int} (h0 : 0 ≤ left) (h1 : left ≤ lim) :
 szL c (xs.map f) left ≤ left ∧ (0 ≤ szL c (xs.map f) left → xs.length ≤ lim ∧ ∀ x ∈ xs, Q x) := by
 have hs := zPf (c := c) (Q := fun d => ∃ y : α, d = f y ∧ Q y) (xs := xs.map f) (left := left) h1 (by
  intro x hx' s h1 h2
  obtain ⟨y, hy, rfl⟩ := List.mem_map.1 hx'
  exact ⟨(hQ y s h1 h2).1, fun h => ⟨y, rfl, (hQ y s h1 h2).2 h⟩⟩) h0
 refine ⟨hs.1, fun hp => ?_⟩
 have := hs.2 hp
 refine ⟨by simpa using this.1, fun x hx => ?_⟩
 obtain ⟨y, hy, hyl⟩ := this.2 (f x) (List.mem_map.2 ⟨x, hx, rfl⟩)
 rw [hinj _ _ hy]; exact hyl
theorem zM6 (p : Int × Rec) : z3T.F [chgD p, chgD p] = some (.bool true) := by
 rw [zEa]
 have f1 : (chgD p).fld 1 = p.2.d := rfl
 rw [f1]
 exact z04 (by simp) (z02 (zGC p.2) rfl)
theorem zKK {xs : List (Int × Rec)} (hl : xs.length ≤ smax) : z3u.F [.lst (xs.map chgD), .lst (xs.map chgD)] = some (.bool true) := by
 rw [zCV]; exact zNG (c := z3T.F) hl (fun p _ => zM6 p)
theorem zNR {a : Ask} (hl : a.ch.length ≤ smax) : z45.F [a.d, a.d] = some (.bool true) := by
 rw [zFw]
 have f2 : a.d.fld 2 = .lst (a.ch.map chgD) := rfl
 rw [f2]
 exact z04 (by simp) (z04 (by simp) (z02 (zKK hl) rfl))
theorem zMH (p : Int × Rec) : z3W.F [chgD p] = some (chgD p) := by
 rw [zEj]
 have f1 : (chgD p).fld 1 = p.2.d := rfl
 rw [f1]
 exact z02 (zMI p.2) rfl
theorem zKS {xs : List (Int × Rec)} (hl : xs.length ≤ lim) : z3x.F [.lst (xs.map chgD)] = some (.lst (xs.map chgD)) := by
 rw [zCb]; exact zOf (c := z3W.F) (by decide) hl (fun p _ => zMH p)
theorem zNZ {a : Ask} (hl : a.ch.length ≤ lim) : z48.F [a.d] = some a.d := by
 rw [zFz]
 have f2 : a.d.fld 2 = .lst (a.ch.map chgD) := rfl
 rw [f2]
 exact z02 (zKS hl) rfl
def zJr (s : Int) (x : D) : Int := if zJs s (x.fld 1) < 0 then -1 else zJs s (x.fld 1)
theorem zME {p : Int × Rec} {left : Int} (hp : p.2.In smax) (h0 : 0 ≤ left) (h1 : left ≤ lim) : z3V.F [chgD p, .int left] = some (.int (zJr left (chgD p))) := by
 rw [zEg]
 have f1 : (chgD p).fld 1 = p.2.d := rfl
 unfold zJr
 rw [f1]
 refine z02 (zMF hp h0 h1) ?_
 by_cases h : zJs left p.2.d < 0
 ·rw [if_pos h]; exact z0U (decide_eq_true h) rfl
 ·rw [if_neg h]; exact z04 (fun h' => h (of_decide_eq_true h')) rfl
theorem zLu : SzOk chgD zJr (fun p => p.2.In lim) := by
 intro p s h0 h1
 have f1 : (chgD p).fld 1 = p.2.d := rfl
 have := zMs (x := p.2) s h0 h1
 unfold zJr
 rw [f1]
 split
 ·exact ⟨by omega, fun h => by omega⟩
 ·exact this
theorem zLD (x y : Int × Rec) (h : chgD x = chgD y) : x = y := by
 obtain ⟨a, r⟩ := x
 obtain ⟨b, s⟩ := y
 simp only [chgD, D.pair.injEq, D.int.injEq] at h
 rw [h.1, Rec.d_inj h.2.1]
abbrev tChg : T := .pair (.int .i64) (.pair tRec .unit)
abbrev tAsk : T := .pair (.int .i64) (.pair (.int .i64) (.pair (.lst false tChg) .unit))
theorem zQk {B : Nat} {d : D} (h : Sm B tChg d) : ∃ x : Int × Rec, d = chgD x ∧ x.2.In B := by
 obtain ⟨_, _, rfl, ⟨n, rfl, _⟩, _, _, rfl, hr, rfl⟩ := h
 obtain ⟨r, rfl, hr2⟩ := zR8 hr
 exact ⟨⟨n, r⟩, rfl, hr2⟩
theorem zQh {B : Nat} {d : D} (h : Sm B tAsk d) : ∃ x : Ask, d = x.d ∧ x.In B := by
 obtain ⟨_, _, rfl, ⟨n, rfl, _⟩, _, _, rfl, ⟨m, rfl, _⟩, _, _, rfl, ⟨xs, rfl, hl, hc⟩, rfl⟩ := h
 obtain ⟨ys, rfl, hys⟩ := zKe (g := chgD) (Q := fun x => x.2.In B) (fun x hx => zQk (hc x hx))
 exact ⟨⟨n, m, ys⟩, rfl, by simpa using hl, hys⟩
theorem zMa {xs : List (Int × Rec)} (hl : xs.length ≤ lim) (k : Int) (h0 : 0 ≤ k) (h1 : k ≤ 10000000000000000) : ∃ (k' : Int) (y : D), 0 ≤ k' ∧ k' ≤ k + 5242880 ∧ z2b.F [.lst (xs.map chgD), .int k] = some (.pair (.int k') (.pair y .unit)) := by
 have hlim : lim = 1048576 := rfl
 have hsm := Nat.le_trans hl z1A
 have h10 := zBg
 rw [zAG]
 have hm := mulB (n := xs.length) (B := 5) hl (by decide) (by decide)
 obtain ⟨zs, k', g0, g1, hloop⟩ := zLa (f := chgD) (xs := xs) (k0 := k) 5 (by decide) h0 (F := fun l2 =>
  if (decide ((gd l2 2).i < ((gd l2 0).l.length : Int))) then
   if (inb (gd l2 2).i (gd l2 0).l.length) then
   (z0k.F [(.int (IntKind.wrap .i64 ((gd l2 1).i + 1)))]).bind fun r5 =>
   (z0k.F [(.int (IntKind.wrap .i64 ((IntKind.wrap .i64 ((IntKind.wrap .i64 ((IntKind.wrap .i64 ((gd l2 1).i + 1)) + 1)) + 1)) + 1)))]).bind fun r6 =>
   ou 0 [(D.lst (upd2 (upd2 (upd2 (upd2 (upd (gd l2 0).l (gd l2 2).i.toNat 0 (gd l2 1)) (gd l2 2).i.toNat 1 0 r5) (gd l2 2).i.toNat 1 1 (.int (IntKind.wrap .i64 ((IntKind.wrap .i64 ((gd l2 1).i + 1)) + 1)))) (gd l2 2).i.toNat 1 2 (.int (IntKind.wrap .i64 ((IntKind.wrap .i64 ((IntKind.wrap .i64 ((gd l2 1).i + 1)) + 1)) + 1)))) (gd l2 2).i.toNat 1 3 r6)), (.int (IntKind.wrap .i64 ((IntKind.wrap .i64 ((IntKind.wrap .i64 ((IntKind.wrap .i64 ((IntKind.wrap .i64 ((gd l2 1).i + 1)) + 1)) + 1)) + 1)) + 1))), (.int (IntKind.wrap .i64 ((gd l2 2).i + 1)))]
   else none
  else
   ou 1 [(gd l2 0), (gd l2 1)]) (by
  intro i hi zs k2 hzl hg hk0 hk1
  have hi2 := mulB (n := i) (B := 5) (by omega) (by decide) (by decide)
  have e0 : gd [D.lst zs, D.int k2, D.int (i : Int)] 0 = .lst zs := rfl
  have e1 : gd [D.lst zs, D.int k2, D.int (i : Int)] 1 = .int k2 := rfl
  have e2 : gd [D.lst zs, D.int k2, D.int (i : Int)] 2 = .int i := rfl
  have m1 := zGK (k := k2 + 1) (by omega) (by omega)
  have m2 := zGK (k := k2 + 1 + 1 + 1 + 1) (by omega) (by omega)
  refine ⟨upd2 (upd2 (upd2 (upd2 (upd zs i 0 (.int k2)) i 1 0 (.str (mtA (k2 + 1)))) i 1 1 (.int (k2 + 1 + 1))) i 1 2 (.int (k2 + 1 + 1 + 1))) i 1 3 (.str (mtA (k2 + 1 + 1 + 1 + 1))), k2 + 1 + 1 + 1 + 1 + 1, ?_, by simp only [zL3, zPl]; exact hzl, ?_, by omega, by omega⟩
  ·simp only [e0, e1, e2, D.l_lst, D.i_int, Int.toNat_natCast, zF4 (k := k2) (by omega) (by omega), zF4 (k := k2 + 1) (by omega) (by omega), zF4 (k := k2 + 1 + 1) (by omega) (by omega), zF4 (k := k2 + 1 + 1 + 1) (by omega) (by omega), zF4 (k := k2 + 1 + 1 + 1 + 1) (by omega) (by omega), z0N hi hsm]
   exact z01 (decide_eq_true (show (i : Int) < (zs.length : Int) by omega)) (z01 (z0B (by omega)) (z05 m1 (z05 m2 rfl)))
  ·intro j hj
   have hne : i ≠ j := by omega
   rw [zI4 hne, zI4 hne, zI4 hne, zI4 hne, zLx hne]) (by
  intro zs k2 hzl
  exact z00 (by simp [hzl]) rfl)
 exact ⟨k', .lst zs, g0, by omega, z0K hloop rfl⟩
def dmk (k : Int) : Dn := ⟨k, k + 1, k + 2, k + 3⟩
def dmk4 (k : Int) (i : Nat) : D := (dmk (k + 4 * i)).d
def z3b (k : Int) (n : Nat) : List Dn := (List.range n).map fun i : Nat => dmk (k + 4 * i)
theorem zNu (k : Int) (n : Nat) : (List.range n).map (dmk4 k) = (z3b k n).map Dn.d := by
 simp only [z3b, List.map_map]
 rfl
theorem zDp (k : Int) (n : Nat) : (z3b k n).length = n := by simp [z3b]
theorem zBX {xs : List Dn} {k : Int} (h0 : 0 ≤ k) (h1 : k + 4 * xs.length < 10 ^ 18) :
 z2c.F [.lst (xs.map Dn.d), .int k] = some (.pair (.int (k + 4 * xs.length)) (.pair (.lst ((z3b k xs.length).map Dn.d)) .unit)) := by
 have h10 := zBg
 have hl : xs.length ≤ smax := by simp [smax]; omega
 have hml : (xs.map Dn.d).length = xs.length := by simp
 rw [zCZ]
 refine z0K (z1R (fun i (zs : List D) => [.lst zs, .int (k + 4 * i), .int i]) xs.length (over (dmk4 k) (xs.map Dn.d)) (t := 0) (o := [.lst ((z3b k xs.length).map Dn.d), .int (k + 4 * xs.length)]) (by simp [zJK]) ?_ ?_) rfl
 ·intro i hi
  have hi' : i < (xs.map Dn.d).length := by simpa using hi
  have w1 : IntKind.wrap .i64 (k + 4 * (i : Int) + 1) = k + 4 * i + 1 := by rw [z0c] <;> omega
  have w2 : IntKind.wrap .i64 (k + 4 * (i : Int) + 1 + 1) = k + 4 * i + 2 := by rw [z0c] <;> omega
  have w3 : IntKind.wrap .i64 (k + 4 * (i : Int) + 2 + 1) = k + 4 * i + 3 := by rw [z0c] <;> omega
  have w4 : IntKind.wrap .i64 (k + 4 * (i : Int) + 3 + 1) = k + 4 * ((i + 1 : Nat) : Int) := by rw [z0c] <;> omega
  have hol : (over (dmk4 k) (xs.map Dn.d) i).length = xs.length := by rw [zEM (Nat.le_of_lt hi'), hml]
  have hol' : i < (over (dmk4 k) (xs.map Dn.d) i).length := by rw [hol]; exact hi
  have hg : gd (over (dmk4 k) (xs.map Dn.d) i) i = xs[i].d := (zO8 hi').trans (zKW hi)
  refine z01 (by simp [hol]; omega) (z01 ?_ ?_)
  ·simp only [z14, z7m, D.l_lst, D.i_int, hol]; exact z0B hi
  ·simp only [upd, z14, z4d, z7m, D.l_lst, D.i_int, Int.toNat_natCast, List.set_set, zNa hol', hg, w1, w2, w3, w4, z0N hi hl]
   rw [zJJ hi']
   all_goals rfl
 ·have := zLh (ys := dmk4 k) (xs := xs.map Dn.d)
  have h2 : (z3b k xs.length).length = xs.length := zDp _ _
  rw [hml, zNu] at this
  simp [this, h2]
theorem zBV {n : Nat} {k : Int} (h0 : 0 ≤ k) (h1 : k + 4 * n < 10 ^ 18) : z1T.F [.lst ((z3b k n).map Dn.d), .int k] = some (.int (k + 4 * n)) := by
 have h10 := zBg
 have hl : n ≤ smax := by simp [smax]; omega
 have hml : (z3b k n).length = n := zDp _ _
 have hlen : (D.lst ((z3b k n).map Dn.d)).l.length = n := by simp [hml]
 rw [zCY, hlen]
 refine z0K (z1R (fun i (_ : Unit) => [.int (k + 4 * i), .int i]) n (fun _ => ()) (t := 1) (o := [.int (k + 4 * n)]) (by simp) ?_ ?_) rfl
 ·intro i hi
  have w1 : IntKind.wrap .i64 (k + 4 * (i : Int) + 1) = k + 4 * i + 1 := by rw [z0c] <;> omega
  have w2 : IntKind.wrap .i64 (k + 4 * (i : Int) + 1 + 1) = k + 4 * i + 2 := by rw [z0c] <;> omega
  have w3 : IntKind.wrap .i64 (k + 4 * (i : Int) + 2 + 1) = k + 4 * i + 3 := by rw [z0c] <;> omega
  have w4 : IntKind.wrap .i64 (k + 4 * (i : Int) + 3 + 1) = k + 4 * ((i + 1 : Nat) : Int) := by rw [z0c] <;> omega
  have hg : gd ((z3b k n).map Dn.d) i = (dmk (k + 4 * i)).d := by
   rw [zKW (by rw [hml]; exact hi)]; simp [z3b]
  refine z01 (by simpa using hi) (z01 (by simpa using z0B hi) ?_)
  simp only [z14, z4d, D.l_lst, D.i_int, Int.toNat_natCast, hg, w1, w2, w3, w4, z0N hi hl]
  have f0 : (dmk (k + 4 * i)).d.fld 0 = .int (k + 4 * i) := rfl
  have f1 : (dmk (k + 4 * i)).d.fld 1 = .int (k + 4 * i + 1) := rfl
  have f2 : (dmk (k + 4 * i)).d.fld 2 = .int (k + 4 * i + 2) := rfl
  have f3 : (dmk (k + 4 * i)).d.fld 3 = .int (k + 4 * i + 3) := rfl
  rw [f0, f1, f2, f3]
  exact z00 (by simp) (z00 (by simp) (z00 (by simp) (z00 (by simp) rfl)))
 ·simp
end Go.Proofs.YtllbponcjpcbnaaGreatDoor
namespace Go.Proofs.YtllbponcjpcbnaaGreatDoor
open Go Go.Own
theorem zQN (c : Ctl) (x y : D) : D.mix (.pair (.pair .str (.pair (.int .i64) (.pair (.lst true (.pair .str (.pair (.int .i64) (.pair (.int .i64) (.pair .str .unit))))) .unit))) (.pair (.lst true (.pair (.int .i64) (.pair (.int .i64) (.pair (.int .i64) (.pair (.int .i64) .unit))))) (.pair (.int .i64) .unit))) c.d ((c.d.setFld 0 (.pair ((c.d.fld 0).fld 0) (.pair ((c.d.fld 0).fld 1) (.pair x .unit)))).setFld 1 y) = .pair (.pair (.str c.zone.apex) (.pair (.int c.zone.counter) (.pair x .unit))) (.pair y (.pair (.int c.many) .unit)) := by
 unfold D.mix
 split
 ·rfl
 ·rfl
theorem zFC {c : Ctl} (hc : c.In lim) : ∃ y : D, z39.F [c.d, .int 1] = some (.pair (.int (1 + 4 * c.zone.recs.length + 4 * c.last.length)) (.pair y .unit)) ∧ (y.fld 0).fld 2 = .lst ((z3m 1 c.zone.recs.length).map Rec.d) ∧ y.fld 1 = .lst ((z3b (1 + 4 * c.zone.recs.length) c.last.length).map Dn.d) := by
 have h10 := zBg
 have hlim : lim = 1048576 := rfl
 have hz := hc.zone.len
 have hl := hc.len
 have f0 : c.d.fld 0 = c.zone.d := rfl
 have f1 : c.d.fld 1 = .lst (c.last.map Dn.d) := rfl
 obtain ⟨m, hm, hm2⟩ := zMC (z := c.zone) (k := 1) (by decide) (by omega)
 have hd := zBX (xs := c.last) (k := 1 + 4 * c.zone.recs.length) (by omega) (by omega)
 have hq := zQN c (m.fld 2) (.lst ((z3b (1 + 4 * c.zone.recs.length) c.last.length).map Dn.d))
 rw [f0] at hq
 rw [zAH, f0, f1]
 refine ⟨.pair (.pair (.str c.zone.apex) (.pair (.int c.zone.counter) (.pair (.lst ((z3m 1 c.zone.recs.length).map Rec.d)) .unit))) (.pair (.lst ((z3b (1 + 4 * c.zone.recs.length) c.last.length).map Dn.d)) (.pair (.int c.many) .unit)), z02 hm (z02 hd ?_), rfl, rfl⟩
 show some (D.pair _ (.pair (D.mix _ c.d ((c.d.setFld 0 (.pair (c.zone.d.fld 0) (.pair (c.zone.d.fld 1) (.pair (m.fld 2) .unit)))).setFld 1 (.lst ((z3b (1 + 4 * c.zone.recs.length) c.last.length).map Dn.d)))) .unit)) = _
 rw [hq, hm2]
 rfl
theorem zFB {a : List UInt8} {cn : Int} {n m : Nat} {z : D} (hn : n ≤ lim) (hm : m ≤ lim) : z1g.F [.pair (.pair (.str a) (.pair (.int cn) (.pair (.lst ((z3m 1 n).map Rec.d)) .unit))) (.pair (.lst ((z3b (1 + 4 * n) m).map Dn.d)) (.pair z .unit)), .int 1] = some (.int (1 + 4 * n + 4 * m)) := by
 have h10 := zBg
 have hlim : lim = 1048576 := rfl
 rw [zAE]
 have hz := zM7 (a := a) (c := cn) (n := n) (k := 1) (by decide) (by omega)
 have hd := zBV (n := m) (k := 1 + 4 * n) (by omega) (by omega)
 exact z02 hz (z04 (fun h => absurd (of_decide_eq_true h) (by rw [D.i_int]; omega)) (z02 hd (z04 (fun h => absurd (of_decide_eq_true h) (by rw [D.i_int]; omega)) rfl)))
end Go.Proofs.YtllbponcjpcbnaaGreatDoor
