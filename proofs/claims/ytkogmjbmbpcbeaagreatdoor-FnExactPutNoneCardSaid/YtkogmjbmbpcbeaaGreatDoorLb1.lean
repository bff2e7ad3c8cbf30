/- Functions of the library as entries, out of the contracts of the shelf. -/
import Derived.Test.YtkogmjbmbpcbeaaGreatDoorOwZ12
import Derived.Below
import Derived.Shelf.LaysM
import Derived.Shelf.Strings.Split
import Derived.Shelf.Strings.SlTrimAscii
import Derived.Shelf.Strconv.AtoiAll
import Derived.Shelf.Strconv.Itoa3
import Derived.Shelf.Strings.Cut
import Derived.Shelf.Strings.Search3
import Derived.Lib.AppendIntMem
import Derived.Shelf.Small.Strs
import Derived.Shelf.Spec.SlicesInsertGrow
import Derived.Shelf.SlGeneric
import Derived.Shelf.SlBodiesN
import Derived.Deep.RegionLaw
import Derived.Deep.LoopGhost
import Derived.Lib.SliceRun
set_option linter.unusedSectionVars false
set_option linter.unusedVariables false
set_option linter.unusedSimpArgs false
namespace Go.Own
variable [Glb]
open Go Go.Proofs Go.RowKit Go.Shelf
theorem z3W {w w' : World} {V : Nat → Prop} {az : List Arg} {κs : Nat → K} {vs : List Value} {res : Res} {outs : List D} {κr : K} {v : Value} (hp : Pre w.heap V az κs vs) (hvw : ∀ a ∈ az, a.m = .vw) (hb : Below w.heap.size w w')
 (hr : ResV w'.heap V κr v res) (hn : κr.blocks.Nodup) (hs : ∀ b ∈ κr.blocks, w.heap.size ≤ b) : Post' w w' V V az κs vs res outs κr (fun _ => .leaf) v := by
 refine ⟨⟨hb.os, hb.tape, hb.output⟩, hb.size, fun b h1 _ => hb.block b h1, fun _ h => h, fun _ h => .inl h, fun b h => Nat.lt_of_lt_of_le (hp.lt b h) hb.size, hr, hn, fun b h => .inr (hs b h), fun b h hv => ?_, fun i a u ha _ hm => ?_, by simp [K.blocks], by simp [K.blocks], by simp [K.blocks], by simp [K.blocks]⟩
 ·have := hs b h; have := hp.lt b hv; omega
 ·have := hvw a (List.mem_of_getElem? ha)
  rw [this] at hm; rcases hm with h | h <;> cases h
theorem z4t {h : Heap} {V : Nat → Prop} {az : List Arg} {κs : Nat → K} {vs : List Value} (hp : Pre h V az κs vs) {i : Nat} {d : D} (ha : az[i]? = some ⟨.vw, .str, d⟩) : ∃ s, d = .str s ∧ vs[i]? = some (.string (mkS s)) ∧ s.length ≤ smax := by
 have hi := (List.getElem?_eq_some_iff.1 ha).1
 have hi' : i < vs.length := by rw [hp.len]; exact hi
 obtain ⟨_, cs, ⟨s, rfl, _, rfl, hs⟩, e⟩ := hp.arg i _ vs[i] ha (by simp [hi'])
 exact ⟨s, rfl, by simp [hi', e, z0Q, T.agg], hs⟩
theorem zJW {α : Type} {l : List α} {a b : α} (hl : l.length = 2) (h0 : l[0]? = some a) (h1 : l[1]? = some b) : l = [a, b] := by
 match l, hl with
 | [x, y], _ => simp at h0 h1; rw [h0, h1]
theorem zBg (b off c n : Nat) : (K.lst b off c n fun _ => .leaf).blocks = [b] := by
 have : ∀ l : List Nat, l.flatMap (fun _ => ([] : List Nat)) = [] := by intro l; induction l <;> simp_all
 simp only [K.blocks, this]
theorem zG6 (sep : ByteArray) (save : Nat) (hs : save ≤ sep.size) : ∀ (k : Nat) (s : ByteArray), ∀ p ∈ Lib.splitB sep save k s, p.size ≤ s.size
 | 0, s, p, hp => by simp only [Lib.splitB, List.mem_singleton] at hp; rw [hp]; exact Nat.le_refl _
 | k + 1, s, p, hp => by
   unfold Lib.splitB at hp
   split at hp
   ·simp only [List.mem_singleton] at hp; rw [hp]; exact Nat.le_refl _
   ·simp only [List.mem_cons] at hp
    rcases hp with rfl | hp
    ·simp only [ByteArray.size_extract]; omega
    ·have := zG6 sep save hs k _ p hp
     simp only [ByteArray.size_extract] at this
     omega
def zCi (s sep : List UInt8) : List (List UInt8) := (Lib.splitB (mkS sep) 0 (Lib.countB (mkS s) (mkS sep)) (mkS s)).map (·.data.toList)
def zG8 : List D → Option D
 | [a, b] => if a.s.length < 4294967281 ∧ 1 ≤ b.s.length then some (.lst ((zCi a.s b.s).map .str)) else none
 | _ => none
def zG7 (g : FuncId) : Ent := ⟨g, [(.vw, .str), (.vw, .str)], true, .lst true .str, zG8⟩
theorem zKC {P : Program} {ρ : Ren} {g : FuncId} {fn : Func} (L : LaysM.n146 P ρ) (hg : ρ.f 146 = g) (hf : P.funcs[g]? = some fn) (hn : (fn.name == "runtime.NumGoroutine") = false) (hb : fn.body.isNone = false)
 (hm : ∀ h V, Glb.ok h V → ∃ m arr ty fz, h[ρ.g 1]? = some (.cells arr ty fz) ∧ arr[0]? = some (.int .i64 m)) : (zG7 g).Ok P := by
 refine ⟨⟨fn, hf, hn, hb⟩, fun ds out hl ho => ?_⟩
 match ds, hl with
 | [a, b], _ =>
   intro w V κs vs hp hglb
   obtain ⟨s, rfl, hv0, hs⟩ := z4t hp (i := 0) (d := a) rfl
   obtain ⟨sep, rfl, hv1, hsep⟩ := z4t hp (i := 1) (d := b) rfl
   have hvs := zJW (by rw [hp.len]; rfl) hv0 hv1
   subst hvs
   have hc : s.length < 4294967281 ∧ 1 ≤ sep.length := Decidable.byContradiction fun h => by
    have : zG8 [.str s, .str sep] = none := if_neg h
    rw [show (zG7 g).F = zG8 from rfl, this] at ho
    cases ho
   have ho' : some (D.lst ((zCi s sep).map .str)) = some out := by
    rw [← ho]; exact (if_pos hc).symm
   cases ho'
   obtain ⟨m, arr, ty, fz, h1, h2⟩ := hm _ _ hglb
   have hcell : w.cell? ⟨ρ.g 1, 0, none⟩ = some (.int .i64 m) := by simp [World.cell?, h1, h2]
   subst hg
   refine (Any.strings_Split { L with } L.i9 (mkS s) (mkS sep) m w (by simpa using hc.1) hcell (by simpa using hc.2)).mono ?_
   rintro e w' ⟨rfl, rfl⟩
   have hlen := Lib.splitB_all (mkS sep) (by simpa using hc.2) 0 _ (mkS s) rfl
   have hbl : Below w.heap.size w (w.alloc (.cells ((Lib.splitB (mkS sep) 0 (Lib.countB (mkS s) (mkS sep)) (mkS s)).map Value.string).toArray (ρ.t 9))) := Below.alloc (Below.refl _ _) (Nat.le_refl _) _
   refine ⟨_, _, .lst w.heap.size 0 (Lib.countB (mkS s) (mkS sep) + 1) (Lib.countB (mkS s) (mkS sep) + 1) (fun _ => .leaf), fun _ => .leaf, V, _, ⟨rfl, rfl⟩, rfl, z3W hp (by simp [zG7, z14]) hbl ?_ ?_ ?_⟩
   ·refine ⟨[.slice (some ⟨w.heap.size, 0, none⟩) (Lib.countB (mkS s) (mkS sep) + 1) (Lib.countB (mkS s) (mkS sep) + 1)], ?_, rfl⟩
    have hcl := Lib.countB_le (mkS sep) (by simpa using hc.2) (mkS s).size (mkS s) (Nat.le_refl _)
    rw [z4E] at hcl
    have hll : ((zCi s sep).map D.str).length = Lib.countB (mkS s) (mkS sep) + 1 := by simp [zCi, hlen]
    have hsm : Lib.countB (mkS s) (mkS sep) + 1 ≤ smax := by rw [z19]; omega
    refine ⟨_, rfl, .inr ⟨w.heap.size, 0, _, ((Lib.splitB (mkS sep) 0 (Lib.countB (mkS s) (mkS sep)) (mkS s)).map Value.string).toArray, ρ.t 9, (0, 0), fun _ => .leaf, by rw [hll], ⟨by rw [hll]; exact Nat.le_refl _, by rw [hll]; exact hsm⟩, by show (w.heap.push _)[w.heap.size]? = _; exact Array.getElem?_push_size, by rw [List.size_toArray, List.length_map, hlen]; simp only [T.size]; omega, ?_, ?_⟩⟩
    ·intro i x hx
     simp only [zCi, List.map_map, List.getElem?_map, Option.map_eq_some_iff] at hx
     obtain ⟨p, hp', rfl⟩ := hx
     have hi := (List.getElem?_eq_some_iff.1 hp').1
     have hps : p.data.toList.length ≤ s.length := by
      have := zG6 (mkS sep) 0 (Nat.zero_le _) _ (mkS s) p (List.mem_of_getElem? hp')
      rw [z4E] at this
      rw [Array.length_toList]; exact this
     refine ⟨p.data.toList, rfl, rfl, ?_, Nat.le_trans hps hs⟩
     rw [zKq]
     simp only [T.size, Nat.mul_one, Nat.zero_add]
     rw [List.drop_eq_getElem_cons (by simpa using hi)]
     obtain ⟨_, he⟩ := List.getElem?_eq_some_iff.1 hp'
     simp [he]
    ·simp only [if_true]
     exact ⟨fun o _ => by simp, by rw [hll]⟩
   ·rw [zBg]; simp
   ·rw [zBg]; simp
def zKJ : List D → Option D
 | [a, b] => if b.s.length < 4294967281 ∧ b.s.all (fun c => decide (c.toNat < 128)) = true then some (.str (Lib.trimS a.s b.s)) else none
 | _ => none
def zKI (g : FuncId) : Ent := ⟨g, [(.vw, .str), (.vw, .str)], true, .str, zKJ⟩
theorem zL9 (l cs : List UInt8) : (Lib.trimS l cs).length ≤ l.length := by
 have h1 : (Lib.trimRightS l cs).length ≤ l.length := by
  unfold Lib.trimRightS
  rw [List.length_reverse]
  exact Nat.le_trans (List.dropWhile_sublist _).length_le (by simp)
 exact Nat.le_trans (List.dropWhile_sublist _).length_le h1
theorem zHq {h : Heap} {V : Nat → Prop} {s : List UInt8} (hs : s.length ≤ smax) : ResV h V .leaf (.string (mkS s)) (.one .str (.str s)) := ⟨_, ⟨s, rfl, rfl, rfl, hs⟩, by simp [z0Q, T.agg]⟩
theorem zL8 {P : Program} {ρ : Ren} {g : FuncId} {fn : Func} (L : Lays.n160 P ρ) (h116 : (P.info? (ρ.t 116)).map (fun i => (i.zero, i.size)) = some (some (.agg (Array.replicate 256 (.bool false))), 256)) (hg : ρ.f 160 = g) (hf : P.funcs[g]? = some fn) (hn : (fn.name == "runtime.NumGoroutine") = false) (hb : fn.body.isNone = false) : (zKI g).Ok P := by
 refine ⟨⟨fn, hf, hn, hb⟩, fun ds out hl ho => ?_⟩
 match ds, hl with
 | [a, b], _ =>
   intro w V κs vs hp hglb
   obtain ⟨s, rfl, hv0, hs⟩ := z4t hp (i := 0) (d := a) rfl
   obtain ⟨cs, rfl, hv1, hcs⟩ := z4t hp (i := 1) (d := b) rfl
   have hvs := zJW (by rw [hp.len]; rfl) hv0 hv1
   subst hvs
   have hc : cs.length < 4294967281 ∧ cs.all (fun c => decide (c.toNat < 128)) = true := Decidable.byContradiction fun h => by
    have : zKJ [.str s, .str cs] = none := if_neg h
    rw [show (zKI g).F = zKJ from rfl, this] at ho
    cases ho
   have ho' : some (D.str (Lib.trimS s cs)) = some out := by
    rw [← ho]; exact (if_pos hc).symm
   cases ho'
   subst hg
   refine (Any.strings_Trim_laid L h116 (mkS s) (mkS cs) w (by simpa [smax] using hs) (by simpa using hc.1) (ascii_of_all (by simpa using hc.2))).mono ?_
   rintro e w' ⟨rfl, hbl⟩
   rw [z2Y, z2Y]
   exact ⟨_, _, .leaf, fun _ => .leaf, V, _, ⟨rfl, rfl⟩, rfl, z3W hp (by simp [zKI, z14]) hbl (zHq (Nat.le_trans (zL9 _ _) hs)) (by simp [K.blocks]) (by simp [K.blocks])⟩
end Go.Own
namespace Go.Own
variable [Glb]
open Go Go.Proofs Go.RowKit Go.Shelf
theorem zLq {h : Heap} {V : Nat → Prop} {az : List Arg} {κs : Nat → K} {vs : List Value} (hp : Pre h V az κs vs) {i : Nat} {k : IntKind} {d : D} (ha : az[i]? = some ⟨.vw, .int k, d⟩) : ∃ n, d = .int n ∧ vs[i]? = some (.int k n) ∧ k.min ≤ n ∧ n ≤ k.max := by
 have hi := (List.getElem?_eq_some_iff.1 ha).1
 have hi' : i < vs.length := by rw [hp.len]; exact hi
 obtain ⟨_, cs, ⟨n, rfl, _, rfl, hn⟩, e⟩ := hp.arg i _ vs[i] ha (by simp [hi'])
 exact ⟨n, rfl, by simp [hi', e, z0Q, T.agg], hn⟩
theorem zMR {α : Type} {l : List α} {a : α} (hl : l.length = 1) (h0 : l[0]? = some a) : l = [a] := by
 match l, hl with
 | [x], _ => simp at h0; rw [h0]
theorem zJw {h : Heap} {V : Nat → Prop} (b : Bool) : ResV h V .leaf (.bool b) (.one .bool (.bool b)) := ⟨_, ⟨b, rfl, rfl, rfl⟩, by simp [z0Q, T.agg]⟩
def z6P : List D → Option D
 | [a, b] => if a.s.length < 4294967281 then some (.bool (Lib.contains a.s b.s)) else none
 | _ => none
def z6O (g : FuncId) : Ent := ⟨g, [(.vw, .str), (.vw, .str)], true, .bool, z6P⟩
theorem zF8 {P : Program} {ρ : Ren} {g : FuncId} {fn : Func} (L : Lays.n144 P ρ) (hg : ρ.f 144 = g) (hf : P.funcs[g]? = some fn) (hn : (fn.name == "runtime.NumGoroutine") = false) (hb : fn.body.isNone = false)
 (hm : ∀ h V, Glb.ok h V → ∃ m arr ty fz, h[ρ.g 1]? = some (.cells arr ty fz) ∧ arr[0]? = some (.int .i64 m)) : (z6O g).Ok P := by
 refine ⟨⟨fn, hf, hn, hb⟩, fun ds out hl ho => ?_⟩
 match ds, hl with
 | [a, b], _ =>
   intro w V κs vs hp hglb
   obtain ⟨s, rfl, hv0, hs⟩ := z4t hp (i := 0) (d := a) rfl
   obtain ⟨sep, rfl, hv1, hsep⟩ := z4t hp (i := 1) (d := b) rfl
   have hvs := zJW (by rw [hp.len]; rfl) hv0 hv1
   subst hvs
   have hc : s.length < 4294967281 := Decidable.byContradiction fun h => by
    have : z6P [.str s, .str sep] = none := if_neg h
    rw [show (z6O g).F = z6P from rfl, this] at ho
    cases ho
   have ho' : some (D.bool (Lib.contains s sep)) = some out := by
    rw [← ho]; exact (if_pos hc).symm
   cases ho'
   obtain ⟨m, arr, ty, fz, h1, h2⟩ := hm _ _ hglb
   have hcell : w.cell? ⟨ρ.g 1, 0, none⟩ = some (.int .i64 m) := by simp [World.cell?, h1, h2]
   subst hg
   refine (Any.strings_Contains L (mkS s) (mkS sep) m w (by simpa using hc) hcell).mono ?_
   rintro e w' ⟨rfl, rfl⟩
   rw [z2Y, z2Y]
   exact ⟨_, _, .leaf, fun _ => .leaf, V, _, ⟨rfl, rfl⟩, rfl, z3W hp (by simp [z6O, z14]) (Below.refl _ _) (zJw _) (by simp [K.blocks]) (by simp [K.blocks])⟩
def zJO : List D → Option D
 | [a] => if (Lib.itoa a.i).length ≤ smax then some (.str (Lib.itoa a.i)) else none
 | _ => none
def zJN (g : FuncId) : Ent := ⟨g, [(.vw, .int .i64)], true, .str, zJO⟩
theorem zKf {P : Program} {ρ : Ren} {g t : FuncId} {fn : Func} (L : LaysM.n171 P ρ) (hg : ρ.f 171 = g) (hf : P.funcs[g]? = some fn) (hn : (fn.name == "runtime.NumGoroutine") = false) (hb : fn.body.isNone = false)
 (hgt : P.globalNamed "internal/strconv.uint64pow10" = some t) (htab : ∀ h V, Glb.ok h V → ∃ ty fz, h[t]? = some (.cells (Lib.pow10Tab.map fun z => Value.int .u64 z).toArray ty fz)) : (zJN g).Ok P := by
 refine ⟨⟨fn, hf, hn, hb⟩, fun ds out hl ho => ?_⟩
 match ds, hl with
 | [a], _ =>
   intro w V κs vs hp hglb
   obtain ⟨n, rfl, hv0, h0, h1⟩ := zLq hp (i := 0) (d := a) rfl
   have hvs := zMR (by rw [hp.len]; rfl) hv0
   subst hvs
   have hc : (Lib.itoa n).length ≤ smax := Decidable.byContradiction fun h => by
    have : zJO [.int n] = none := if_neg h
    rw [show (zJN g).F = zJO from rfl, this] at ho
    cases ho
   have ho' : some (D.str (Lib.itoa n)) = some out := by
    rw [← ho]; exact (if_pos hc).symm
   cases ho'
   obtain ⟨ty, fz, ht⟩ := htab _ _ hglb
   have hT : Lib.TabIs P w "internal/strconv.uint64pow10" .u64 Lib.pow10Tab := by
    unfold Lib.TabIs World.var?
    rw [hgt]
    simp [ht]
   subst hg
   refine (Any.strconv_Itoa L n h0 h1 w hT).mono ?_
   rintro e w' ⟨rfl, k, os, rfl⟩
   exact ⟨_, _, .leaf, fun _ => .leaf, V, _, ⟨rfl, rfl⟩, rfl, z3W hp (by simp [zJN, z14]) (Lib.below_grow _ _ (Nat.le_refl _) k os) (zHq hc) (by simp [K.blocks]) (by simp [K.blocks])⟩
def cutD (c : List UInt8 × List UInt8 × Bool) : D := .pair (.str c.1) (.pair (.str c.2.1) (.pair (.bool c.2.2) .unit))
def cutF : List D → Option D
 | [a, b] => if a.s.length < 4294967281 then some (cutD (Lib.cut a.s b.s)) else none
 | _ => none
def cutE (g : FuncId) : Ent := ⟨g, [(.vw, .str), (.vw, .str)], false, .pair .str (.pair .str (.pair .bool .unit)), cutF⟩
theorem zJ0 (s sep : List UInt8) : (Lib.cut s sep).1.length ≤ s.length ∧ (Lib.cut s sep).2.1.length ≤ s.length := by
 unfold Lib.cut
 split
 ·simp; omega
 ·simp
theorem zL1 {h : Heap} {V : Nat → Prop} {a b : List UInt8} {f : Bool} (ha : a.length ≤ smax) (hb : b.length ≤ smax) :
 ResV h V (.pair .leaf (.pair .leaf (.pair .leaf .leaf))) (.tuple #[.string (mkS a), .string (mkS b), .bool f]) (.many (.pair .str (.pair .str (.pair .bool .unit))) (cutD (a, b, f))) := by
 refine ⟨[.string (mkS a), .string (mkS b), .bool f], ⟨_, _, _, _, [.string (mkS a)], [.string (mkS b), .bool f], rfl, rfl, rfl, ⟨a, rfl, rfl, rfl, ha⟩, ⟨_, _, _, _, [.string (mkS b)], [.bool f], rfl, rfl, rfl, ⟨b, rfl, rfl, rfl, hb⟩, ⟨_, _, _, _, [.bool f], [], rfl, rfl, rfl, ⟨f, rfl, rfl, rfl⟩, ⟨rfl, rfl, rfl⟩⟩⟩⟩, _, rfl, fun j hj => ?_⟩
 match j, hj with
 | 0, _ => rfl
 | 1, _ => rfl
 | 2, _ => rfl
theorem zLX {P : Program} {ρ : Ren} {g : FuncId} {fn : Func} (L : Lays.n145 P ρ) (hg : ρ.f 145 = g) (hf : P.funcs[g]? = some fn) (hn : (fn.name == "runtime.NumGoroutine") = false) (hb : fn.body.isNone = false)
 (hm : ∀ h V, Glb.ok h V → ∃ m arr ty fz, h[ρ.g 1]? = some (.cells arr ty fz) ∧ arr[0]? = some (.int .i64 m)) : (cutE g).Ok P := by
 refine ⟨⟨fn, hf, hn, hb⟩, fun ds out hl ho => ?_⟩
 match ds, hl with
 | [a, b], _ =>
   intro w V κs vs hp hglb
   obtain ⟨s, rfl, hv0, hs⟩ := z4t hp (i := 0) (d := a) rfl
   obtain ⟨sep, rfl, hv1, hsep⟩ := z4t hp (i := 1) (d := b) rfl
   have hvs := zJW (by rw [hp.len]; rfl) hv0 hv1
   subst hvs
   have hc : s.length < 4294967281 := Decidable.byContradiction fun h => by
    have : cutF [.str s, .str sep] = none := if_neg h
    rw [show (cutE g).F = cutF from rfl, this] at ho
    cases ho
   have ho' : some (cutD (Lib.cut s sep)) = some out := by
    rw [← ho]; exact (if_pos hc).symm
   cases ho'
   obtain ⟨m, arr, ty, fz, h1, h2⟩ := hm _ _ hglb
   have hcell : w.cell? ⟨ρ.g 1, 0, none⟩ = some (.int .i64 m) := by simp [World.cell?, h1, h2]
   subst hg
   refine (Any.strings_Cut L (mkS s) (mkS sep) m w (by simpa using hc) hcell).mono ?_
   rintro e w' ⟨rfl, n, rfl⟩
   rw [z2Y, z2Y]
   have hle := zJ0 s sep
   exact ⟨_, _, .pair .leaf (.pair .leaf (.pair .leaf .leaf)), fun _ => .leaf, V, _, ⟨rfl, rfl⟩, rfl, z3W hp (by simp [cutE, z14]) ⟨rfl, rfl, rfl, Nat.le_refl _, fun _ _ => rfl⟩ (zL1 (Nat.le_trans hle.1 hs) (Nat.le_trans hle.2 hs)) (by simp [K.blocks]) (by simp [K.blocks])⟩
def z8z (s : List UInt8) : D := match Lib.atoiAll s with
 | .ok v => .pair (.int v) (.pair (.bool false) .unit)
 | .range => .pair (.int (Lib.atoiSat s)) (.pair (.bool true) .unit)
 | _ => .pair (.int 0) (.pair (.bool true) .unit)
def zIt : List D → Option D
 | [a] => if a.s.length ≤ 281474976710656 then some (z8z a.s) else none
 | _ => none
def zGP (g : FuncId) : Ent := ⟨g, [(.vw, .str)], false, .pair (.int .i64) (.pair .err .unit), zIt⟩
theorem zEi {h : Heap} {V : Nat → Prop} {n : Int} {b : Bool} {v : Value} (h0 : -9223372036854775808 ≤ n) (h1 : n ≤ 9223372036854775807) (hv : ErrV b v) :
 ResV h V (.pair .leaf (.pair .leaf .leaf)) (.tuple #[.int .i64 n, v]) (.many (.pair (.int .i64) (.pair .err .unit)) (.pair (.int n) (.pair (.bool b) .unit))) := by
 refine ⟨[.int .i64 n, v], ⟨_, _, _, _, [.int .i64 n], [v], rfl, rfl, rfl, ⟨n, rfl, rfl, rfl, h0, h1⟩, ⟨_, _, _, _, [v], [], rfl, rfl, rfl, ⟨b, rfl, rfl, v, rfl, hv⟩, ⟨rfl, rfl, rfl⟩⟩⟩, _, rfl, fun j hj => ?_⟩
 match j, hj with
 | 0, _ => rfl
 | 1, _ => rfl
theorem zKQ {P : Program} {ρ : Ren} {g : FuncId} {fn : Func} (L : LaysC.n172 P ρ) (hg : ρ.f 172 = g) (hf : P.funcs[g]? = some fn) (hn : (fn.name == "runtime.NumGoroutine") = false) (hb : fn.body.isNone = false)
 (hS : ∀ h V, Glb.ok h V → ∃ ev arr ty fz, h[ρ.g 15]? = some (.cells arr ty fz) ∧ arr[0]? = some ev ∧ (ev = .nilIface ∨ ∃ te pe, ev = .iface te pe))
 (hR : ∀ h V, Glb.ok h V → ∃ ev arr ty fz, h[ρ.g 16]? = some (.cells arr ty fz) ∧ arr[0]? = some ev ∧ (ev = .nilIface ∨ ∃ te pe, ev = .iface te pe)) : (zGP g).Ok P := by
 refine ⟨⟨fn, hf, hn, hb⟩, fun ds out hl ho => ?_⟩
 match ds, hl with
 | [a], _ =>
   intro w V κs vs hp hglb
   obtain ⟨s, rfl, hv0, hs⟩ := z4t hp (i := 0) (d := a) rfl
   have hvs := zMR (by rw [hp.len]; rfl) hv0
   subst hvs
   have hc : s.length ≤ 281474976710656 := Decidable.byContradiction fun h => by
    have : zIt [.str s] = none := if_neg h
    rw [show (zGP g).F = zIt from rfl, this] at ho
    cases ho
   have ho' : some (z8z s) = some out := by
    rw [← ho]; exact (if_pos hc).symm
   cases ho'
   obtain ⟨ev, arr, ty, fz, h1, h2, h3⟩ := hS _ _ hglb
   have hcell : w.cell? ⟨ρ.g 15, 0, none⟩ = some ev := by simp [World.cell?, h1, h2]
   obtain ⟨ev2, arr2, ty2, fz2, h4, h5, h6⟩ := hR _ _ hglb
   have hcell2 : w.cell? ⟨ρ.g 16, 0, none⟩ = some ev2 := by simp [World.cell?, h4, h5]
   subst hg
   cases hq : Lib.atoiAll s with
   | ok v =>
     have hb := Lib.atoiAll_bounds hq
     refine (Any.strconv_Atoi_ok L (mkS s) (by rw [z4E]; omega) v (by rw [z2Y]; exact hq) w).mono ?_
     rintro e w' ⟨rfl, hw⟩
     have hbl : Below w.heap.size w w' := by
      rcases hw with rfl | ⟨t, rfl⟩
      ·exact Below.refl _ _
      ·exact Lib.bytesWorld_below _ _ _
     have hd : z8z s = .pair (.int v) (.pair (.bool false) .unit) := by unfold z8z; rw [hq]
     rw [hd]
     exact ⟨_, _, .pair .leaf (.pair .leaf .leaf), fun _ => .leaf, V, _, ⟨rfl, rfl⟩, rfl, z3W hp (by simp [zGP, z14]) hbl (zEi hb.1 hb.2 (.inl ⟨rfl, rfl⟩)) (by simp [K.blocks]) (by simp [K.blocks])⟩
   | range =>
     have hb := Lib.atoiSat_bounds s
     refine (Any.strconv_Atoi_range L (mkS s) (by rw [z4E]; omega) (by rw [z2Y]; exact hq) ev2 w hcell2 h6).mono ?_
     rintro e w' ⟨N, rfl, _, _, hbl⟩
     have hd : z8z s = .pair (.int (Lib.atoiSat s)) (.pair (.bool true) .unit) := by unfold z8z; rw [hq]
     rw [hd, z2Y]
     exact ⟨_, _, .pair .leaf (.pair .leaf .leaf), fun _ => .leaf, V, _, ⟨rfl, rfl⟩, rfl, z3W hp (by simp [zGP, z14]) hbl (zEi hb.1 hb.2 (.inr ⟨rfl, _, _, rfl⟩)) (by simp [K.blocks]) (by simp [K.blocks])⟩
   | _ =>
     refine (Any.strconv_Atoi_syntax L (mkS s) (by rw [z4E]; omega) (by rw [z2Y]; exact hq) ev w hcell h3).mono ?_
     rintro e w' ⟨N, rfl, _, _, hbl⟩
     have hd : z8z s = .pair (.int 0) (.pair (.bool true) .unit) := by unfold z8z; rw [hq]
     rw [hd]
     exact ⟨_, _, .pair .leaf (.pair .leaf .leaf), fun _ => .leaf, V, _, ⟨rfl, rfl⟩, rfl, z3W hp (by simp [zGP, z14]) hbl (zEi (by omega) (by omega) (.inr ⟨rfl, _, _, rfl⟩)) (by simp [K.blocks]) (by simp [K.blocks])⟩
end Go.Own
namespace Go.Own
variable [Glb]
open Go Go.Proofs Go.RowKit Go.Shelf
theorem zL2 {h : Heap} {V : Nat → Prop} {n : Int} (h0 : -9223372036854775808 ≤ n) (h1 : n ≤ 9223372036854775807) : ResV h V .leaf (.int .i64 n) (.one (.int .i64) (.int n)) := ⟨_, ⟨n, rfl, rfl, rfl, h0, h1⟩, by simp [z0Q, T.agg]⟩
theorem z54 : ∀ a b : List UInt8, -1 ≤ Lib.compareBytes a b ∧ Lib.compareBytes a b ≤ 1
 | [], [] => by simp [Lib.compareBytes]
 | [], _ :: _ => by simp [Lib.compareBytes]
 | _ :: _, [] => by simp [Lib.compareBytes]
 | a :: l, b :: m => by
   unfold Lib.compareBytes
   split
   ·decide
   ·split
    ·decide
    ·exact z54 l m
def zHP : List D → Option D
 | [a, b] => some (.int (Lib.compareBytes a.s b.s))
 | _ => none
def zAp (g : FuncId) : Ent := ⟨g, [(.vw, .str), (.vw, .str)], true, .int .i64, zHP⟩
theorem zGV {P : Program} {ρ : Ren} {g : FuncId} {fn : Func} (L : Lays.n106 P ρ) (hg : ρ.f 106 = g) (hf : P.funcs[g]? = some fn) (hn : (fn.name == "runtime.NumGoroutine") = false) (hb : fn.body.isNone = false) : (zAp g).Ok P := by
 refine ⟨⟨fn, hf, hn, hb⟩, fun ds out hl ho => ?_⟩
 match ds, hl with
 | [a, b], _ =>
   intro w V κs vs hp hglb
   obtain ⟨s, rfl, hv0, hs⟩ := z4t hp (i := 0) (d := a) rfl
   obtain ⟨t, rfl, hv1, ht⟩ := z4t hp (i := 1) (d := b) rfl
   have hvs := zJW (by rw [hp.len]; rfl) hv0 hv1
   subst hvs
   have ho' : some (D.int (Lib.compareBytes s t)) = some out := ho
   cases ho'
   subst hg
   have hbd := z54 s t
   refine (Any.strings_Compare L (mkS s) (mkS t) w).mono ?_
   rintro e w' ⟨rfl, rfl⟩
   rw [z2Y, z2Y]
   exact ⟨_, _, .leaf, fun _ => .leaf, V, _, ⟨rfl, rfl⟩, rfl, z3W hp (by simp [zAp, z14]) (Below.refl _ _) (zL2 (by omega) (by omega)) (by simp [K.blocks]) (by simp [K.blocks])⟩
end Go.Own
set_option linter.unusedVariables false
set_option linter.unusedSimpArgs false
namespace Go.Proofs
open Go.Shelf Go.RowKit Go.Lib
variable {P : Program} {ρ : Ren}
structure InsL (P : Program) (ρ : Ren) (i0 : TypeInfo) (zv : Value) : Prop where
 mixed : P.follows .mixedOrders = true
 f22 : Bears P (ρ.f 22) (Body2.n22 ρ)
 f29 : ∀ (args : Array Value) (w : World), (callFunc (ρ.f 29) args).run P w = ((Extern.SlicesOverlaps.overlaps #[(ρ.t 24), (ρ.t 24)] #[(ρ.t 4)] args).run P w).andThen fun v w' => .ok (.value v) w'
 t0 : P.underlying (ρ.t 0) = some (TypeDesc.tuple #[])
 a0 : ∀ w, (isAgg (ρ.t 0)).run P w = .ok false w
 z0 : ∀ w, (Go.sizeOf (ρ.t 0)).run P w = .ok 1 w
 v0 : ∀ w, (zeroValue (ρ.t 0)).run P w = .ok (Value.tuple #[]) w
 t3 : P.underlying (ρ.t 3) = some (TypeDesc.int IntKind.i64)
 a3 : ∀ w, (isAgg (ρ.t 3)).run P w = .ok false w
 z3 : ∀ w, (Go.sizeOf (ρ.t 3)).run P w = .ok 1 w
 v3 : ∀ w, (zeroValue (ρ.t 3)).run P w = .ok (Value.int IntKind.i64 0) w
 t4 : P.underlying (ρ.t 4) = some (TypeDesc.bool)
 a4 : ∀ w, (isAgg (ρ.t 4)).run P w = .ok false w
 z4 : ∀ w, (Go.sizeOf (ρ.t 4)).run P w = .ok 1 w
 v4 : ∀ w, (zeroValue (ρ.t 4)).run P w = .ok (Value.bool false) w
 z9 : ∀ w, (Go.sizeOf (ρ.t 9)).run P w = .ok i0.size w
 t24 : P.underlying (ρ.t 24) = some (TypeDesc.slice (ρ.t 9))
 a24 : ∀ w, (isAgg (ρ.t 24)).run P w = .ok false w
 z24 : ∀ w, (Go.sizeOf (ρ.t 24)).run P w = .ok 1 w
 v24 : ∀ w, (zeroValue (ρ.t 24)).run P w = .ok (Value.slice none 0 0) w
 i9 : P.info? (ρ.t 9) = some i0
 iz : i0.zero = some zv
 is : 0 < i0.size
 ic : zv.cells.size = i0.size
theorem zDP {P : Program} (w : World) (tS tR e : TypeId) (ht : P.underlying tS = some (.slice e)) (size : Nat) (hz : ∀ w, (Go.sizeOf e).run P w = .ok size w)
 (a b : Addr) (la ca lb cb : Nat) (hne : a.block ≠ b.block) (tA tB : TypeId) (kA kB : Nat)
 (hsa : w.shape? a.block = some (tA, kA)) (hsb : w.shape? b.block = some (tB, kB)) (hkA : kA ≠ 0)
 (hfb : w.frozen? b = false) (hfe : w.frozen? { block := b.block, off := kB } = false) :
 (Extern.SlicesOverlaps.overlaps #[tS, tS] #[tR] #[.slice (some a) la ca, .slice (some b) lb cb]).run P w = .ok (.bool false) w := by
 have hnb : (a.block != b.block) = true := by simpa using hne
 have hnb' : (a.block == b.block) = false := by simpa using hne
 change Sem.run P (α := Value) (do
  let some t := (#[tS, tS] : Array TypeId)[0]? | stuck "slices.overlaps: no parameter types"
  let .slice elem ← underlying t | stuck "slices.overlaps: slice type expected"
  let size ← sizeOf elem
  match (some a : Option Addr), (some b : Option Addr) with
  | some a, some b =>
    if la = 0 ∨ lb = 0 ∨ size = 0 then pure (Value.bool false)
    else if a.block != b.block && (← frozen a) && (← frozen b) then unsupported .addressObserved
    else do
     if a.block != b.block then do
      noView a; noView b
      if ← mayBeOne a b then return Value.bool ((← choose (.extern "sameAddr.stringBytes" 2)) == 1)
     pure (Value.bool (a.block == b.block && a.off < b.off + lb * size && b.off < a.off + la * size))
  | _, _ => pure (Value.bool false)) w = _
 by_cases h0 : la = 0 ∨ lb = 0 ∨ size = 0
 ·simp [run_underlying ht, hz, h0]
 ·cases kA with
  | zero => exact absurd rfl hkA
  | succ kA =>
    cases h1 : w.frozen? a <;> cases h2 : w.frozen? { block := a.block, off := kA + 1 } <;> simp [run_underlying ht, hz, h0, hnb, hnb', frozen, noView, viewAt, mayBeOne, stringish, shape, Sem.run, hsa, hsb, hfb, hfe, h1, h2]
theorem z3x (w : World) (dT sT ty elem : TypeId) (i0 : TypeInfo) (b o dLen dCap : Nat) (a : Addr) (sLen sCap : Nat) (cs : List Value) (m : Nat)
 (hu : P.underlying dT = some (.slice elem)) (hs : P.info? elem = some i0) (hm : m = Nat.min sLen dLen) (hn : cs.length = m * i0.size)
 (hsrc : ∀ j v, cs[j]? = some v → w.cell? (a.add j) = some v) (hc : ∀ j, j < cs.length → (w.cell? ⟨b, o + j, none⟩).isSome = true) (hf : ∀ j, j < cs.length → w.frozen? ⟨b, o + j, none⟩ = false) (h1 : ∀ v ∈ cs, v.oneCell' = true) :
 (Builtin.copy_ #[dT, sT] ty #[.slice (some ⟨b, o, none⟩) dLen dCap, .slice (some a) sLen sCap]).run P w = .ok (goInt m) (w.setCells b o cs) := by
 have hl := run_loadCells_list (P := P) w a cs hsrc
 have hst := run_storeCells_cells (P := P) b o cs 0 w (by simpa using hc) (by simpa using hf) h1
 simp [Builtin.copy_, run_underlying hu, Builtin.lenOf, Builtin.firstCells, sizeOf, typeInfo, hs, ← hm, ← hn, hl, hst]
set_option maxHeartbeats 4000000 in
set_option maxRecDepth 100000 in
theorem zJK {i0 : TypeInfo} {zv : Value} (L : InsL P ρ i0 zv) (b off n c i vb voff m vc : Nat) (cs vs : List Value) (w : World) (hi : i < n) (hm : 0 < m) (hroom : n + m ≤ c) (hc63 : n + m ≤ 9223372036854775807) (hvb : vb ≠ b)
 (hcl : cs.length = n * i0.size) (hvl : vs.length = m * i0.size)
 (hcs : ∀ j v, cs[j]? = some v → w.cell? ⟨b, off + j, none⟩ = some v) (hsp : ∀ j, j < (n + m) * i0.size → (w.cell? ⟨b, off + j, none⟩).isSome = true) (hfz : ∀ j, j < (n + m) * i0.size → w.frozen? ⟨b, off + j, none⟩ = false)
 (hvs : ∀ j v, vs[j]? = some v → w.cell? ⟨vb, voff + j, none⟩ = some v) (h1c : ∀ v ∈ cs, v.oneCell' = true) (h1v : ∀ v ∈ vs, v.oneCell' = true)
 (tA tB : TypeId) (kA kB : Nat) (hsa : w.shape? vb = some (tA, kA)) (hsb : w.shape? b = some (tB, kB)) (hkA : kA ≠ 0) (hfb : w.frozen? ⟨b, off + (i + m) * i0.size, none⟩ = false) (hfe : w.frozen? ⟨b, kB, none⟩ = false) :
 Calls P (ρ.f 22) #[.slice (some ⟨b, off, none⟩) n c, .int .i64 i, .slice (some ⟨vb, voff, none⟩) m vc] w fun e w' =>
  e = .returned (.slice (some ⟨b, off, none⟩) (n + m) c) ∧ w' = (w.drew.setCells b (off + (i + m) * i0.size) (cs.drop (i * i0.size))).setCells b (off + i * i0.size) vs := by
 have t0 := L.t0; have a0 := L.a0; have z0 := L.z0; have v0 := L.v0; have t3 := L.t3; have a3 := L.a3; have z3 := L.z3; have v3 := L.v3; have t4 := L.t4; have a4 := L.a4; have z4 := L.z4; have v4 := L.v4; have z9 := L.z9; have t24 := L.t24; have a24 := L.a24; have z24 := L.z24; have v24 := L.v24
 have u0 := run_underlying L.t0; have u3 := run_underlying L.t3; have u4 := run_underlying L.t4; have u24 := run_underlying L.t24
 obtain ⟨K, hK⟩ : ∃ K, K = i0.size := ⟨_, rfl⟩
 have hz1 : ¬ ((m : Int) = 0) := by omega
 have hz2 : ¬ ((i : Int) = (n : Int)) := by omega
 have hov : ∀ lb cb, (callFunc (ρ.f 29) #[.slice (some ⟨vb, voff, none⟩) m vc, .slice (some ⟨b, off + (i + m) * i0.size, none⟩) lb cb]).run P w = .ok (.value (.bool false)) w := fun lb cb => by
  rw [L.f29, zDP w (ρ.t 24) (ρ.t 4) (ρ.t 9) L.t24 i0.size L.z9 ⟨vb, voff, none⟩ ⟨b, off + (i + m) * i0.size, none⟩ m vc lb cb hvb tA tB kA kB hsa hsb hkA hfb hfe]
  rfl
 have hmn : (i + m) * i0.size + (n - i) * i0.size = (n + m) * i0.size := by rw [← Nat.add_mul]; congr 1 <;> omega
 have hmn2 : i * i0.size + (n + m - i) * i0.size = (n + m) * i0.size := by rw [← Nat.add_mul]; congr 1 <;> omega
 have hmn3 : m * i0.size ≤ (n + m - i) * i0.size := Nat.mul_le_mul_right _ (by omega)
 have hdl : (cs.drop (i * i0.size)).length = (n - i) * i0.size := by rw [List.length_drop, hcl, ← Nat.sub_mul]
 have mixed := L.mixed
 have hw1 : IntKind.i64.wrap ((i : Int) + (m : Int)) = (i : Int) + (m : Int) := by rw [IntKind.wrap_i64]; omega
 have hb1 : (0 : Int) ≤ (i : Int) + (m : Int) := by omega
 have hin : i ≤ n := by omega
 have htn : ((i : Int) + (m : Int)).toNat = i + m := by omega
 have hb2 : ¬ (c = i + m) := by omega
 have hb3 : (i : Int) ≤ (n : Int) + (m : Int) := by omega
 have hb4 : ¬ (c = i) := by omega
 have hcp1 : ∀ ty dc sc, (Builtin.copy_ #[(ρ.t 24), (ρ.t 24)] ty #[.slice (some ⟨b, off + (i + m) * i0.size, none⟩) (n + m - (i + m)) dc, .slice (some ⟨b, off + i * i0.size, none⟩) (n + m - i) sc]).run P w.drew = .ok (goInt ((n - i : Nat) : Int)) (w.drew.setCells b (off + (i + m) * i0.size) (cs.drop (i * i0.size))) := fun ty dc sc =>
  z3x w.drew _ _ ty (ρ.t 9) i0 b (off + (i + m) * i0.size) (n + m - (i + m)) dc ⟨b, off + i * i0.size, none⟩ (n + m - i) sc (cs.drop (i * i0.size)) (n - i) L.t24 L.i9 (by simp only [Nat.min_def]; split <;> omega) hdl
   (fun j v hj => by rw [Addr.add_lit, Nat.add_assoc]; exact hcs (i * i0.size + j) v (by rwa [List.getElem?_drop] at hj))
   (fun j hj => by rw [Nat.add_assoc]; exact hsp _ (by omega)) (fun j hj => by rw [Nat.add_assoc]; exact hfz _ (by omega)) (fun v hv => h1c v (List.mem_of_mem_drop hv))
 obtain ⟨W1, hW1⟩ : ∃ W1, W1 = w.drew.setCells b (off + (i + m) * i0.size) (cs.drop (i * i0.size)) := ⟨_, rfl⟩
 have hsp1 : ∀ k, k < (n + m) * i0.size → (W1.cell? ⟨b, off + k, none⟩).isSome = true := fun k hk => by
  rw [hW1]
  exact isSome_setCells b _ _ _ (fun j hj => by rw [Nat.add_assoc]; exact hsp _ (by omega)) _ (hsp k hk)
 have hcp2 : ∀ (W : World), (∀ x, W.cell? x = W1.cell? x) → (∀ x, W.frozen? x = W1.frozen? x) → ∀ ty dc, (Builtin.copy_ #[(ρ.t 24), (ρ.t 24)] ty #[.slice (some ⟨b, off + i * i0.size, none⟩) (n + m - i) dc, .slice (some ⟨vb, voff, none⟩) m vc]).run P W = .ok (goInt (m : Int)) (W.setCells b (off + i * i0.size) vs) := fun W hWc hWf ty dc =>
  z3x W _ _ ty (ρ.t 9) i0 b (off + i * i0.size) (n + m - i) dc ⟨vb, voff, none⟩ m vc vs m L.t24 L.i9 (by simp only [Nat.min_def]; split <;> omega) hvl
   (fun j v hj => by
     rw [Addr.add_lit, hWc, hW1, World.cell?_setCells_out b _ _ _ _ (fun h _ => absurd h hvb)]
     exact hvs j v hj)
   (fun j hj => by rw [hWc, Nat.add_assoc]; exact hsp1 _ (by omega)) (fun j hj => by rw [hWf, hW1, World.frozen?_setCells, Nat.add_assoc]; exact hfz _ (by omega)) h1v
 rw [← hW1] at hcp1
 obtain ⟨_, _, FG⟩ := L.f22
 go_enter FG, Body2.n22_ntmps ρ
 go_wp2_with (simp only [hov])
 go_region_law_o (refine step_copy_runI rfl _ _ (ρ.t 24) (ρ.t 24) rfl _ _ (by simp [Act.eval, Act.put]) (by simp [Act.eval, Act.put]) (hcp1 _ _ _) ?_)
 go_wp2_with (at_builtin; refine wpList_copy_runI _ rfl _ _ (ρ.t 24) (ρ.t 24) rfl _ _ rfl rfl (hcp2 _ (fun _ => rfl) (fun _ => rfl) _ _) ?_)
 go_ret
 first | exact ⟨rfl, rfl⟩ | exact ⟨rfl, by rw [hW1]⟩
theorem InsL.src {i0 : TypeInfo} {zv : Value} (L : InsL P ρ i0 zv) (w : World) (vb voff m vc : Nat) (vs : List Value) (hvl : vs.length = m * i0.size) (hvs : ∀ j v, vs[j]? = some v → w.cell? ⟨vb, voff + j, none⟩ = some v) (h1v : ∀ v ∈ vs, v.oneCell' = true) :
 Src P i0.size (ρ.t 24) (.slice (some ⟨vb, voff, none⟩) m vc) m vs w :=
 Src.ofSlice w L.t24 ⟨vb, voff, none⟩ m vc vs hvl (fun j u hj => by rw [Addr.add_lit]; exact hvs j u hj) h1v
set_option maxHeartbeats 4000000 in
set_option maxRecDepth 100000 in
theorem zFY {i0 : TypeInfo} {zv : Value} (L : InsL P ρ i0 zv) (b off n c vb voff m vc : Nat) (vs : List Value) (w : World) (hm : 0 < m) (hroom : n + m ≤ c) (hc63 : n + m ≤ 9223372036854775807)
 (hvl : vs.length = m * i0.size) (hsp : ∀ j, j < m * i0.size → (w.cell? ⟨b, off + n * i0.size + j, none⟩).isSome = true) (hfz : ∀ j, j < m * i0.size → w.frozen? ⟨b, off + n * i0.size + j, none⟩ = false)
 (hvs : ∀ j v, vs[j]? = some v → w.cell? ⟨vb, voff + j, none⟩ = some v) (h1v : ∀ v ∈ vs, v.oneCell' = true) :
 Calls P (ρ.f 22) #[.slice (some ⟨b, off, none⟩) n c, .int .i64 n, .slice (some ⟨vb, voff, none⟩) m vc] w fun e w' =>
  e = .returned (.slice (some ⟨b, off, none⟩) (n + m) c) ∧ w' = w.setCells b (off + n * i0.size) vs := by
 have t0 := L.t0; have a0 := L.a0; have z0 := L.z0; have v0 := L.v0; have t3 := L.t3; have a3 := L.a3; have z3 := L.z3; have v3 := L.v3; have t4 := L.t4; have a4 := L.a4; have z4 := L.z4; have v4 := L.v4; have z9 := L.z9; have t24 := L.t24; have a24 := L.a24; have z24 := L.z24; have v24 := L.v24
 have u0 := run_underlying L.t0; have u3 := run_underlying L.t3; have u4 := run_underlying L.t4; have u24 := run_underlying L.t24
 have mixed := L.mixed
 have hz1 : ¬ ((m : Int) = 0) := by omega
 have hsrc := L.src w vb voff m vc vs hvl hvs h1v
 obtain ⟨_, _, FG⟩ := L.f22
 go_enter FG, Body2.n22_ntmps ρ
 go_wp2_with (at_builtin; refine wpList_append_room_src _ rfl _ _ (ρ.t 24) (ρ.t 24) rfl (ρ.t 9) i0 L.t24 L.i9 b off n c rfl _ rfl m vs hsrc hroom (by rw [hvl]; exact hsp) (by rw [hvl]; exact hfz) ?_)
 go_ret
 exact ⟨rfl, rfl⟩
set_option maxHeartbeats 4000000 in
set_option maxRecDepth 100000 in
theorem z9v {i0 : TypeInfo} {zv : Value} (L : InsL P ρ i0 zv) (base : Option Addr) (n c vb voff m vc : Nat) (cs vs : List Value) (w : World) (hm : 0 < m) (hnc : n ≤ c) (hroom : c < n + m) (h63 : ((n + m : Nat) : Int) ≤ 9223372036854775807) (hbig : Builtin.nextslicecap (n + m) c * i0.bytes ≤ 281474976710656)
 (hcl : cs.length = n * i0.size) (hvl : vs.length = m * i0.size) (hnil : base = none → n = 0)
 (hcs : ∀ a, base = some a → ∀ j v, cs[j]? = some v → w.cell? (a.add j) = some v)
 (hvs : ∀ j v, vs[j]? = some v → w.cell? ⟨vb, voff + j, none⟩ = some v) (h1v : ∀ v ∈ vs, v.oneCell' = true) :
 Calls P (ρ.f 22) #[.slice base n c, .int .i64 n, .slice (some ⟨vb, voff, none⟩) m vc] w fun e w' =>
  e = .returned (.slice (some ⟨w.heap.size, 0, none⟩) (n + m) (grownCap w (n + m) c (ρ.t 9))) ∧
  w' = w.drew.alloc (.cells ((cs ++ vs).toArray ++ Builtin.zeroCells zv.cells (grownCap w (n + m) c (ρ.t 9) - (n + m))) (ρ.t 9)) := by
 have t0 := L.t0; have a0 := L.a0; have z0 := L.z0; have v0 := L.v0; have t3 := L.t3; have a3 := L.a3; have z3 := L.z3; have v3 := L.v3; have t4 := L.t4; have a4 := L.a4; have z4 := L.z4; have v4 := L.v4; have z9 := L.z9; have t24 := L.t24; have a24 := L.a24; have z24 := L.z24; have v24 := L.v24
 have u0 := run_underlying L.t0; have u3 := run_underlying L.t3; have u4 := run_underlying L.t4; have u24 := run_underlying L.t24
 have mixed := L.mixed
 have hz1 : ¬ ((m : Int) = 0) := by omega
 have hsrc := L.src w vb voff m vc vs hvl hvs h1v
 have hold : (Builtin.firstCells i0.size n (.slice base n c)).run P w.drew = .ok cs.toArray w.drew := by
  cases base with
  | none =>
    have h0 := hnil rfl
    subst h0
    rw [Nat.zero_mul] at hcl
    rw [List.length_eq_zero_iff.1 hcl]
    exact run_firstCells_none w.drew i0.size 0 0 c
  | some a => exact run_firstCells_some w.drew i0.size n a n c cs hcl (fun j v hj => hcs a rfl j v hj)
 have hrun : ∀ ty, (Builtin.append_ #[(ρ.t 24), (ρ.t 24)] ty #[.slice base n c, .slice (some ⟨vb, voff, none⟩) m vc]).run P w = _ := fun ty =>
  run_append_grow_src w (ρ.t 24) (ρ.t 24) ty (ρ.t 9) i0 _ L.t24 L.i9 L.iz base n c cs hold _ m vs hsrc hroom h63 hbig
 obtain ⟨_, _, FG⟩ := L.f22
 go_enter FG, Body2.n22_ntmps ρ
 cases base with
 | none =>
   have h0 := hnil rfl
   subst h0
   go_wp2_with (at_builtin; refine Lib.wpList_append_run _ rfl _ _ _ _ rfl _ _ rfl rfl _ _ (hrun _) ?_)
   all_goals (go_ret; exact ⟨rfl, rfl⟩)
 | some a =>
   obtain ⟨ab, ao, asp⟩ := a
   go_wp2_with (at_builtin; refine Lib.wpList_append_run _ rfl _ _ _ _ rfl _ _ rfl rfl _ _ (hrun _) ?_)
   all_goals (go_ret; exact ⟨rfl, rfl⟩)
theorem z38 (a : Array Value) (n : Nat) : (Builtin.zeroCells a n).size = n * a.size := by
 simp [Builtin.zeroCells, Nat.mul_comm]
set_option maxHeartbeats 4000000 in
set_option maxRecDepth 100000 in
theorem zKc {i0 : TypeInfo} {zv : Value} (L : InsL P ρ i0 zv) (b off n c i vb voff m vc : Nat) (cs vs : List Value) (w : World) (hi : i < n) (hm : 0 < m) (hnc : n ≤ c) (hroom : c < n + m) (h63 : ((n + m : Nat) : Int) ≤ 9223372036854775807) (hbig : Builtin.nextslicecap (n + m) c * i0.bytes ≤ 281474976710656) (hbig2 : (n + m) * i0.bytes ≤ 281474976710656)
 (hcl : cs.length = n * i0.size) (hvl : vs.length = m * i0.size)
 (hcs : ∀ j v, cs[j]? = some v → w.cell? ⟨b, off + j, none⟩ = some v)
 (hvs : ∀ j v, vs[j]? = some v → w.cell? ⟨vb, voff + j, none⟩ = some v) (h1c : ∀ v ∈ cs, v.oneCell' = true) (h1v : ∀ v ∈ vs, v.oneCell' = true) :
 Calls P (ρ.f 22) #[.slice (some ⟨b, off, none⟩) n c, .int .i64 i, .slice (some ⟨vb, voff, none⟩) m vc] w fun e w' =>
  e = .returned (.slice (some ⟨w.heap.size, 0, none⟩) (n + m) (grownCap w (n + m) c (ρ.t 9))) ∧
  w' = (((w.alloc (.cells ((cs.take (i * i0.size)).toArray ++ Builtin.zeroCells zv.cells (n + m - i) ++ Builtin.zeroCells zv.cells (grownCap w (n + m) c (ρ.t 9) - (n + m))) (ρ.t 9))).drew.setCells w.heap.size (i * i0.size) vs).drew).setCells w.heap.size ((i + m) * i0.size) (cs.drop (i * i0.size)) := by
 have t0 := L.t0; have a0 := L.a0; have z0 := L.z0; have v0 := L.v0; have t3 := L.t3; have a3 := L.a3; have z3 := L.z3; have v3 := L.v3; have t4 := L.t4; have a4 := L.a4; have z4 := L.z4; have v4 := L.v4; have z9 := L.z9; have t24 := L.t24; have a24 := L.a24; have z24 := L.z24; have v24 := L.v24
 have u0 := run_underlying L.t0; have u3 := run_underlying L.t3; have u4 := run_underlying L.t4; have u24 := run_underlying L.t24
 have mixed := L.mixed
 have hs0 := L.is
 have hz1 : ¬ ((m : Int) = 0) := by omega
 have hz2 : ¬ ((i : Int) = (n : Int)) := by omega
 have hz3 : (c : Int) < (n : Int) + (m : Int) := by omega
 have hn0 : 0 < n * i0.size := Nat.mul_pos (by omega) hs0
 have hm0 : 0 < m * i0.size := Nat.mul_pos hm hs0
 have hbw : b < w.heap.size := block_lt_of_cell (hcs 0 _ (List.getElem?_eq_getElem (by omega)))
 have hvw : vb < w.heap.size := block_lt_of_cell (hvs 0 _ (List.getElem?_eq_getElem (by omega)))
 have hkk : (n : Int) + (m : Int) - (i : Int) = ((n + m - i : Nat) : Int) := by omega
 have hik : i + (n + m - i) = n + m := by omega
 have hmn : (i + m) * i0.size + (n - i) * i0.size = (n + m) * i0.size := by rw [← Nat.add_mul]; congr 1 <;> omega
 have hmn2 : i * i0.size + (n + m - i) * i0.size = (n + m) * i0.size := by rw [← Nat.add_mul]; congr 1 <;> omega
 have hmn3 : m * i0.size ≤ (n + m - i) * i0.size := Nat.mul_le_mul_right _ (by omega)
 have hmn4 : i * i0.size ≤ n * i0.size := Nat.mul_le_mul_right _ (by omega)
 have hold : (Builtin.firstCells i0.size i (.slice (some ⟨b, off, none⟩) i c)).run P w.drew = .ok (cs.take (i * i0.size)).toArray w.drew := by
  exact run_firstCells_some w.drew i0.size i ⟨b, off, none⟩ i c (cs.take (i * i0.size)) (by rw [List.length_take]; omega) (fun j v hj => by
   rw [Addr.add_lit]
   rw [List.getElem?_take] at hj
   split at hj
   ·exact hcs j v hj
   ·cases hj)
 have hle : (n + m - i) * i0.bytes ≤ 281474976710656 := Nat.le_trans (Nat.mul_le_mul_right _ (by omega)) hbig2
 have hrz : ∀ ty, (Builtin.append_ #[(ρ.t 24), (ρ.t 3)] ty #[.slice (some ⟨b, off, none⟩) i c, .int .i64 ((n : Int) + (m : Int) - (i : Int))]).run P w =
  .ok (.slice (some ⟨w.heap.size, 0, none⟩) (n + m) (grownCap w (n + m) c (ρ.t 9))) (w.drew.alloc (.cells ((cs.take (i * i0.size)).toArray ++ Builtin.zeroCells zv.cells (n + m - i) ++ Builtin.zeroCells zv.cells (grownCap w (n + m) c (ρ.t 9) - (n + m))) (ρ.t 9))) := fun ty => by
  have h := Lib.run_append_grow_zeros w (ρ.t 24) (ρ.t 3) ty (ρ.t 9) i0 _ .i64 .i64 L.t24 L.t3 L.i9 L.iz (some ⟨b, off, none⟩) i c (cs.take (i * i0.size)) hold (n + m - i) (by omega) hs0 (by omega) (by omega) hle (by rw [hik]; exact hbig)
  rw [hik] at h
  rw [hkk]
  exact h
 obtain ⟨G, hG⟩ : ∃ G, G = grownCap w (n + m) c (ρ.t 9) := ⟨_, rfl⟩
 obtain ⟨ROW, hROW⟩ : ∃ ROW : Array Value, ROW = (cs.take (i * i0.size)).toArray ++ Builtin.zeroCells zv.cells (n + m - i) ++ Builtin.zeroCells zv.cells (G - (n + m)) := ⟨_, rfl⟩
 rw [← hG] at hrz ⊢
 rw [← hROW] at hrz ⊢
 have hRl : (n + m) * i0.size ≤ ROW.size := by
  rw [hROW]
  simp only [Array.size_append, z38, L.ic, List.size_toArray, List.length_take, hcl]
  omega
 obtain ⟨W1, hW1⟩ : ∃ W1, W1 = w.drew.alloc (.cells ROW (ρ.t 9)) := ⟨_, rfl⟩
 rw [← hW1] at hrz
 have hN : ∀ j, j < (n + m) * i0.size → (W1.cell? ⟨w.heap.size, j, none⟩).isSome = true := fun j hj => by
  rw [hW1, World.cell?_alloc_at (w := w.drew) ROW _ w.heap.size j rfl, Array.getElem?_eq_getElem (by omega)]; rfl
 have hNf : ∀ j, W1.frozen? ⟨w.heap.size, j, none⟩ = false := fun j => by rw [hW1]; exact World.frozen?_alloc_at (w := w.drew) ROW _ w.heap.size j rfl
 have hOb : ∀ j v, w.cell? ⟨b, j, none⟩ = some v → W1.cell? ⟨b, j, none⟩ = some v := fun j v h => by rw [hW1, World.cell?_alloc_past (w := w.drew) _ b j hbw]; exact h
 have hOv : ∀ j v, w.cell? ⟨vb, j, none⟩ = some v → W1.cell? ⟨vb, j, none⟩ = some v := fun j v h => by rw [hW1, World.cell?_alloc_past (w := w.drew) _ vb j hvw]; exact h
 have hcpA : ∀ (W : World), (∀ x, W.cell? x = W1.cell? x) → (∀ x, W.frozen? x = W1.frozen? x) → ∀ ty dc, (Builtin.copy_ #[(ρ.t 24), (ρ.t 24)] ty #[.slice (some ⟨w.heap.size, i * i0.size, none⟩) (n + m - i) dc, .slice (some ⟨vb, voff, none⟩) m vc]).run P W = .ok (goInt (m : Int)) (W.setCells w.heap.size (i * i0.size) vs) := fun W hWc hWf ty dc =>
  z3x W _ _ ty (ρ.t 9) i0 w.heap.size (i * i0.size) (n + m - i) dc ⟨vb, voff, none⟩ m vc vs m L.t24 L.i9 (by simp only [Nat.min_def]; split <;> omega) hvl
   (fun j v hj => by rw [Addr.add_lit, hWc]; exact hOv _ v (hvs j v hj))
   (fun j hj => by rw [hWc]; exact hN _ (by omega)) (fun j hj => by rw [hWf]; exact hNf _) h1v
 have hGn : n + m ≤ G := by rw [hG]; exact grownCap_ge w _ _ _
 have hG63 : G ≤ 9223372036854775807 := by
  have := grownCap_le_maxLen w (n + m) c (ρ.t 9) (by unfold maxLen; omega)
  rw [← hG] at this
  unfold maxLen at this
  omega
 have hGi : ¬ (G = i) := by omega
 have hGim : ¬ (G = i + m) := by omega
 have hci : ¬ (c = i) := by omega
 have hbN : b ≠ w.heap.size := by omega
 have hdl : (cs.drop (i * i0.size)).length = (n - i) * i0.size := by rw [List.length_drop, hcl, ← Nat.sub_mul]
 have hcpB : ∀ (W : World), (∀ x, W.cell? x = (W1.setCells w.heap.size (i * i0.size) vs).cell? x) → (∀ x, W.frozen? x = (W1.setCells w.heap.size (i * i0.size) vs).frozen? x) → ∀ ty dc sc, (Builtin.copy_ #[(ρ.t 24), (ρ.t 24)] ty #[.slice (some ⟨w.heap.size, (i + m) * i0.size, none⟩) (n + m - (i + m)) dc, .slice (some ⟨b, off + i * i0.size, none⟩) (n - i) sc]).run P W = .ok (goInt ((n - i : Nat) : Int)) (W.setCells w.heap.size ((i + m) * i0.size) (cs.drop (i * i0.size))) := fun W hWc hWf ty dc sc =>
  z3x W _ _ ty (ρ.t 9) i0 w.heap.size ((i + m) * i0.size) (n + m - (i + m)) dc ⟨b, off + i * i0.size, none⟩ (n - i) sc (cs.drop (i * i0.size)) (n - i) L.t24 L.i9 (by simp only [Nat.min_def]; split <;> omega) hdl
   (fun j v hj => by
     rw [Addr.add_lit, hWc, World.cell?_setCells_out _ _ _ _ _ (fun h _ => absurd h hbN), Nat.add_assoc]
     exact hOb _ v (hcs (i * i0.size + j) v (by rwa [List.getElem?_drop] at hj)))
   (fun j hj => by rw [hWc]; exact isSome_setCells _ _ _ _ (fun t ht => hN _ (by omega)) _ (hN _ (by omega)))
   (fun j hj => by rw [hWf, World.frozen?_setCells]; exact hNf _) (fun v hv => h1c v (List.mem_of_mem_drop hv))
 subst hW1
 have hE1 : ∀ x, ((w.alloc (.cells ROW (ρ.t 9))).drew).cell? x = (w.drew.alloc (.cells ROW (ρ.t 9))).cell? x := fun x => rfl
 have hE2 : ∀ x, ((w.alloc (.cells ROW (ρ.t 9))).drew).frozen? x = (w.drew.alloc (.cells ROW (ρ.t 9))).frozen? x := fun x => rfl
 have hF1 : ∀ x, (((w.alloc (.cells ROW (ρ.t 9))).drew.setCells w.heap.size (i * i0.size) vs).drew).cell? x = ((w.drew.alloc (.cells ROW (ρ.t 9))).setCells w.heap.size (i * i0.size) vs).cell? x := fun x => rfl
 have hF2 : ∀ x, (((w.alloc (.cells ROW (ρ.t 9))).drew.setCells w.heap.size (i * i0.size) vs).drew).frozen? x = ((w.drew.alloc (.cells ROW (ρ.t 9))).setCells w.heap.size (i * i0.size) vs).frozen? x := fun x => rfl
 have hw1 : IntKind.i64.wrap ((i : Int) + (m : Int)) = (i : Int) + (m : Int) := by rw [IntKind.wrap_i64]; omega
 have hb1 : (0 : Int) ≤ (i : Int) + (m : Int) := by omega
 have hin : i ≤ n := by omega
 have htn : ((i : Int) + (m : Int)).toNat = i + m := by omega
 have hb3 : (i : Int) ≤ (n : Int) := by omega
 clear hkk hik hold hROW hG hRl
 obtain ⟨_, _, FG⟩ := L.f22
 go_enter FG, Body2.n22_ntmps ρ
 go_wp2_with (first
  | (at_builtin; refine Lib.wpList_append_run _ rfl _ _ _ _ rfl _ _ rfl rfl _ _ (hrz _) ?_)
  | (at_builtin; refine wpList_copy_runI _ rfl _ _ (ρ.t 24) (ρ.t 24) rfl _ _ rfl rfl (hcpA _ hE1 hE2 _ _) ?_)
  | (at_builtin; refine wpList_copy_runI _ rfl _ _ (ρ.t 24) (ρ.t 24) rfl _ _ rfl rfl (hcpB _ (fun _ => rfl) (fun _ => rfl) _ _ _) ?_))
 go_region_law_o (refine step_copy_runI rfl _ _ (ρ.t 24) (ρ.t 24) rfl (.slice (some ⟨w.heap.size, (i + m) * i0.size, none⟩) (n + m - (i + m)) (G - (i + m))) (.slice (some ⟨b, off + i * i0.size, none⟩) (n - i) (c - i)) (by simp [Act.eval, Act.put]) (by simp [Act.eval, Act.put]) (hcpB _ hF1 hF2 (ρ.t 3) (G - (i + m)) (c - i)) ?_)
 go_wp2
 go_ret
 exact ⟨rfl, rfl⟩
end Go.Proofs
namespace Go.Own
variable [Glb]
open Go Go.Proofs Go.RowKit Go.Shelf
variable {P : Program} {ρ : Ren}
def setL (arr : Array Value) (o : Nat) : List Value → Array Value
 | [] => arr
 | v :: r => setL (arr.setIfInBounds o v) (o + 1) r
theorem z2j : ∀ (vs : List Value) (o : Nat) (arr : Array Value), (setL arr o vs).size = arr.size
 | [], _, _ => rfl
 | v :: r, o, arr => by rw [setL, z2j r]; simp
theorem z2O (b : Nat) : ∀ (vs : List Value) (o : Nat) (w : World) {arr ty fz}, w.heap[b]? = some (.cells arr ty fz) →
 (w.setCells b o vs).heap[b]? = some (.cells (setL arr o vs) ty fz) ∧ (∀ k, k ≠ b → (w.setCells b o vs).heap[k]? = w.heap[k]?) ∧ (w.setCells b o vs).heap.size = w.heap.size ∧ Same w (w.setCells b o vs)
 | [], o, w, arr, ty, fz, h => ⟨h, fun _ _ => rfl, rfl, ⟨rfl, rfl, rfl⟩⟩
 | v :: r, o, w, arr, ty, fz, h => by
   have h1 : (w.setCell ⟨b, o, none⟩ v).heap[b]? = some (.cells (arr.setIfInBounds o v) ty fz) := by
    simp [World.setCell, Array.getElem?_modify, h]
   obtain ⟨a1, a2, a3, a4⟩ := z2O b r (o + 1) (w.setCell ⟨b, o, none⟩ v) h1
   refine ⟨a1, fun k hk => (a2 k hk).trans ?_, a3.trans ?_, ?_⟩
   ·simp [World.setCell, Array.getElem?_modify, Ne.symm hk]
   ·simp [World.setCell]
   ·exact ⟨a4.os, a4.tape, a4.output⟩
theorem z55 {w : World} {b O : Nat} {arr ty fz} {CS : List Value} (h : w.heap[b]? = some (.cells arr ty fz)) (hc : ∀ j, j < CS.length → w.cell? ⟨b, O + j, none⟩ = CS[j]?) : (arr.toList.drop O).take CS.length = CS := by
 apply List.ext_getElem?
 intro j
 by_cases hj : j < CS.length
 ·rw [List.getElem?_take_of_lt hj, List.getElem?_drop]
  have := hc j hj
  simp only [World.cell?, h] at this
  simpa using this
 ·rw [List.getElem?_eq_none (by rw [List.length_take]; omega), List.getElem?_eq_none (by omega)]
structure InsQ (w w' : World) (b n : Nat) (e : Ending) (sz : Nat) (CS : List Value) : Prop where
 ex : ∃ B O C arr ty fz, e = .returned (.slice (some ⟨B, O, none⟩) n C) ∧ n ≤ C ∧ w'.heap[B]? = some (.cells arr ty fz) ∧ Free fz (arr.size + 1) ∧ O + C * sz ≤ arr.size ∧ (arr.toList.drop O).take CS.length = CS ∧ (B = b ∨ w.heap.size ≤ B)
 old : ∀ k, k < w.heap.size → k ≠ b → w'.heap[k]? = w.heap[k]?
 size : w.heap.size ≤ w'.heap.size
 same : Same w w'
theorem zE0 {w : World} {b off : Nat} {arr ty fz} {n : Nat} (h : w.heap[b]? = some (.cells arr ty fz)) {cs : List Value} (hcs : (arr.toList.drop off).take n = cs) : ∀ j v, cs[j]? = some v → w.cell? ⟨b, off + j, none⟩ = some v := by
 intro j v hj
 subst hcs
 have hlt := (List.getElem?_eq_some_iff.1 hj).1
 rw [List.length_take] at hlt
 rw [List.getElem?_take_of_lt (by omega), List.getElem?_drop] at hj
 simp only [World.cell?, h]
 simpa using hj
theorem z5Q {w : World} {b k : Nat} {arr ty fz} (h : w.heap[b]? = some (.cells arr ty fz)) (hk : k < arr.size) : (w.cell? ⟨b, k, none⟩).isSome = true := by
 simp [World.cell?, h, Array.getElem?_eq_getElem hk]
theorem z6N {w : World} {b k n : Nat} {arr ty fz} (h : w.heap[b]? = some (.cells arr ty fz)) (hf : Free fz n) (hk : k < n) : w.frozen? ⟨b, k, none⟩ = false := by
 simp only [World.frozen?, h]
 exact hf k hk
theorem zJJ {i0 : TypeInfo} {zv : Value} (L : InsL P ρ i0 zv) {b off n c i vb voff m vc : Nat} {cs vs : List Value} {w : World} {arr arr2 : Array Value} {ty ty2 : TypeId} {fz fz2 : Nat × Nat}
 (hn : n ≤ c) (hi : i ≤ n) (hm : 0 < m) (hbig : (n + m) * i0.bytes ≤ 140737488355328) (h63 : n + m ≤ smax)
 (hb : w.heap[b]? = some (.cells arr ty fz)) (hf : Free fz (arr.size + 1)) (ho : off + c * i0.size ≤ arr.size) (hcs : (arr.toList.drop off).take (n * i0.size) = cs) (hcl : cs.length = n * i0.size)
 (hv : w.heap[vb]? = some (.cells arr2 ty2 fz2)) (ho2 : voff + m * i0.size ≤ arr2.size) (hvs : (arr2.toList.drop voff).take (m * i0.size) = vs) (hvl : vs.length = m * i0.size)
 (hne : vb ≠ b) (h1c : ∀ v ∈ cs, v.oneCell' = true) (h1v : ∀ v ∈ vs, v.oneCell' = true) :
 Calls P (ρ.f 22) #[.slice (some ⟨b, off, none⟩) n c, .int .i64 i, .slice (some ⟨vb, voff, none⟩) m vc] w fun e w' => InsQ w w' b (n + m) e i0.size (cs.take (i * i0.size) ++ vs ++ cs.drop (i * i0.size)) := by
 have hs0 := L.is
 have hsm := z19
 have hmul : n * i0.size ≤ c * i0.size := Nat.mul_le_mul_right _ hn
 have hin : i * i0.size ≤ n * i0.size := Nat.mul_le_mul_right _ hi
 have hm0 : 0 < m * i0.size := Nat.mul_pos hm hs0
 have hnm : n * i0.size + m * i0.size = (n + m) * i0.size := (Nat.add_mul _ _ _).symm
 have him : i * i0.size + m * i0.size = (i + m) * i0.size := (Nat.add_mul _ _ _).symm
 have hCS : (cs.take (i * i0.size) ++ vs ++ cs.drop (i * i0.size)).length = (n + m) * i0.size := by
  simp only [List.length_append, List.length_take, List.length_drop, hcl, hvl]; omega
 have hget : ∀ j, j < (n + m) * i0.size → (cs.take (i * i0.size) ++ vs ++ cs.drop (i * i0.size))[j]? = if j < i * i0.size then cs[j]? else if j < (i + m) * i0.size then vs[j - i * i0.size]? else cs[j - m * i0.size]? := by
  intro j hj
  have hl1 : (cs.take (i * i0.size)).length = i * i0.size := by rw [List.length_take]; omega
  have hl2 : (cs.take (i * i0.size) ++ vs).length = (i + m) * i0.size := by rw [List.length_append, hl1, hvl]; omega
  by_cases h1 : j < i * i0.size
  ·rw [if_pos h1, List.append_assoc, List.getElem?_append_left (by omega), List.getElem?_take_of_lt h1]
  ·rw [if_neg h1]
   by_cases h2 : j < (i + m) * i0.size
   ·rw [if_pos h2, List.getElem?_append_left (by omega), List.getElem?_append_right (by omega), hl1]
   ·rw [if_neg h2, List.getElem?_append_right (by omega), hl2, List.getElem?_drop]
    congr 1; omega
 have hcc := zE0 hb hcs
 have hcv := zE0 hv hvs
 have hbw : b < w.heap.size := (Array.getElem?_eq_some_iff.1 hb).1
 have hvw : vb < w.heap.size := (Array.getElem?_eq_some_iff.1 hv).1
 by_cases hin' : i < n
 ·by_cases hroom : n + m ≤ c
  ·have hroom2 : (n + m) * i0.size ≤ c * i0.size := Nat.mul_le_mul_right _ hroom
   refine (zJK L b off n c i vb voff m vc cs vs w hin' hm hroom (by unfold smax at h63; exact h63) hne hcl hvl hcc (fun j hj => z5Q hb (by omega)) (fun j hj => z6N hb hf (by omega)) hcv h1c h1v ty2 ty arr2.size arr.size (by simp [World.shape?, hv]) (by simp [World.shape?, hb]) (by omega) (z6N hb hf (by omega)) (z6N hb hf (by omega))).mono ?_
   rintro e w' ⟨rfl, rfl⟩
   obtain ⟨a1, a2, a3, a4⟩ := z2O b (cs.drop (i * i0.size)) (off + (i + m) * i0.size) w.drew hb
   obtain ⟨b1, b2, b3, b4⟩ := z2O b vs (off + i * i0.size) _ a1
   have hdl : (cs.drop (i * i0.size)).length = n * i0.size - i * i0.size := by rw [List.length_drop, hcl]
   refine ⟨⟨b, off, c, _, ty, fz, rfl, hroom, b1, ?_, ?_, ?_, .inl rfl⟩, fun k hk hkb => (b2 k hkb).trans (a2 k hkb), ?_, ?_⟩
   ·rw [z2j, z2j]; exact hf
   ·rw [z2j, z2j]; exact ho
   ·refine z55 b1 fun j hj => ?_
    rw [hCS] at hj
    rw [hget j hj]
    have hsp : ∀ k, k < c * i0.size → (w.drew.cell? ⟨b, off + k, none⟩).isSome = true := fun k hk => z5Q (w := w) hb (by omega)
    by_cases h1 : j < i * i0.size
    ·rw [if_pos h1, World.cell?_setCells_out _ _ _ _ _ (fun _ _ => by show off + j < off + i * i0.size ∨ _; omega), World.cell?_setCells_out _ _ _ _ _ (fun _ _ => by show off + j < off + (i + m) * i0.size ∨ _; omega)]
     have : ∃ v, cs[j]? = some v := ⟨_, List.getElem?_eq_getElem (by omega)⟩
     obtain ⟨v, hv1⟩ := this
     rw [hv1]; exact hcc j v hv1
    ·rw [if_neg h1]
     by_cases h2 : j < (i + m) * i0.size
     ·rw [if_pos h2]
      have := World.cell?_setCells_in b vs (off + i * i0.size) (w.drew.setCells b (off + (i + m) * i0.size) (cs.drop (i * i0.size))) (fun k hk => by
       rw [Nat.add_assoc]
       exact isSome_setCells b _ _ _ (fun q hq => by rw [Nat.add_assoc]; exact hsp _ (by omega)) _ (hsp _ (by omega))) (j - i * i0.size) (by omega)
      rw [show off + i * i0.size + (j - i * i0.size) = off + j by omega] at this
      rw [this, List.getElem?_eq_getElem]
     ·rw [if_neg h2, World.cell?_setCells_out _ _ _ _ _ (fun _ _ => by right; show off + i * i0.size + vs.length ≤ off + j; omega)]
      have := World.cell?_setCells_in b (cs.drop (i * i0.size)) (off + (i + m) * i0.size) w.drew (fun k hk => by rw [Nat.add_assoc]; exact hsp _ (by omega)) (j - (i + m) * i0.size) (by omega)
      rw [show off + (i + m) * i0.size + (j - (i + m) * i0.size) = off + j by omega] at this
      rw [this, List.getElem_drop, List.getElem?_eq_getElem (by omega)]
      congr 2; omega
   ·rw [b3, a3]; exact Nat.le_refl _
   ·exact ⟨b4.os.trans a4.os, b4.tape.trans a4.tape, b4.output.trans a4.output⟩
  ·have hfit := growslice_fits (show c < n + m by omega) hbig
   refine (zKc L b off n c i vb voff m vc cs vs w hin' hm hn (by omega) (by rw [hsm] at h63; omega) hfit (by omega) hcl hvl hcc hcv h1c h1v).mono ?_
   rintro e w' ⟨rfl, rfl⟩
   have hge := grownCap_ge w (n + m) c (ρ.t 9)
   generalize grownCap w (n + m) c (ρ.t 9) = G at hge ⊢
   have hGs : (n + m) * i0.size ≤ G * i0.size := Nat.mul_le_mul_right _ hge
   have hdl : (cs.drop (i * i0.size)).length = n * i0.size - i * i0.size := by rw [List.length_drop, hcl]
   have htl : (cs.take (i * i0.size)).length = i * i0.size := by rw [List.length_take]; omega
   obtain ⟨ROW, hROW⟩ : ∃ ROW : Array Value, ROW = (cs.take (i * i0.size)).toArray ++ Builtin.zeroCells zv.cells (n + m - i) ++ Builtin.zeroCells zv.cells (G - (n + m)) := ⟨_, rfl⟩
   rw [← hROW]
   have hRs : ROW.size = G * i0.size := by
    rw [hROW]
    simp only [Array.size_append, z38, L.ic, List.size_toArray, htl]
    rw [← Nat.add_mul, ← Nat.add_mul]; congr 1; omega
   have hR0 : ∀ j v, j < i * i0.size → cs[j]? = some v → ROW[j]? = some v := by
    intro j v hj hv1
    rw [hROW, Array.getElem?_append_left (by simp [htl]; omega), Array.getElem?_append_left (by simp [htl]; omega)]
    simp only [List.getElem?_toArray]
    rw [List.getElem?_take_of_lt hj]; exact hv1
   clear hROW
   have h0 : (w.alloc (.cells ROW (ρ.t 9))).drew.heap[w.heap.size]? = some (.cells ROW (ρ.t 9) (0, 0)) := by
    show (w.heap.push _)[w.heap.size]? = _
    exact Array.getElem?_push_size
   obtain ⟨a1, a2, a3, a4⟩ := z2O w.heap.size vs (i * i0.size) (w.alloc (.cells ROW (ρ.t 9))).drew h0
   obtain ⟨b1, b2, b3, b4⟩ := z2O w.heap.size (cs.drop (i * i0.size)) ((i + m) * i0.size) ((w.alloc (.cells ROW (ρ.t 9))).drew.setCells w.heap.size (i * i0.size) vs).drew a1
   have hsz1 : (w.alloc (.cells ROW (ρ.t 9))).drew.heap.size = w.heap.size + 1 := by show (w.heap.push _).size = _; simp
   refine ⟨⟨w.heap.size, 0, G, _, ρ.t 9, (0, 0), rfl, hge, b1, fun o _ => by simp, ?_, ?_, .inr (Nat.le_refl _)⟩, fun k hk hkb => (b2 k (by omega)).trans ((a2 k (by omega)).trans ?_), ?_, ?_⟩
   ·rw [z2j, z2j, hRs]; omega
   ·refine z55 b1 fun j hj => ?_
    rw [hCS] at hj
    rw [hget j hj, Nat.zero_add]
    have hsp : ∀ k, k < G * i0.size → ((w.alloc (.cells ROW (ρ.t 9))).drew.cell? ⟨w.heap.size, k, none⟩).isSome = true := fun k hk => z5Q h0 (by omega)
    by_cases h1 : j < i * i0.size
    ·rw [if_pos h1, World.cell?_setCells_out _ _ _ _ _ (fun _ _ => by left; show j < (i + m) * i0.size; omega)]
     show ((w.alloc (.cells ROW (ρ.t 9))).drew.setCells w.heap.size (i * i0.size) vs).cell? _ = _
     rw [World.cell?_setCells_out _ _ _ _ _ (fun _ _ => by left; exact h1)]
     obtain ⟨v, hv1⟩ : ∃ v, cs[j]? = some v := ⟨_, List.getElem?_eq_getElem (by omega)⟩
     rw [hv1]
     simp only [World.cell?, h0]
     simpa using hR0 j v h1 hv1
    ·rw [if_neg h1]
     by_cases h2 : j < (i + m) * i0.size
     ·rw [if_pos h2, World.cell?_setCells_out _ _ _ _ _ (fun _ _ => by left; exact h2)]
      show ((w.alloc (.cells ROW (ρ.t 9))).drew.setCells w.heap.size (i * i0.size) vs).cell? _ = _
      have := World.cell?_setCells_in w.heap.size vs (i * i0.size) (w.alloc (.cells ROW (ρ.t 9))).drew (fun k hk => hsp _ (by omega)) (j - i * i0.size) (by omega)
      rw [show i * i0.size + (j - i * i0.size) = j by omega] at this
      rw [this, List.getElem?_eq_getElem]
     ·rw [if_neg h2]
      have := World.cell?_setCells_in w.heap.size (cs.drop (i * i0.size)) ((i + m) * i0.size) ((w.alloc (.cells ROW (ρ.t 9))).drew.setCells w.heap.size (i * i0.size) vs).drew (fun k hk => isSome_setCells w.heap.size vs (i * i0.size) (w.alloc (.cells ROW (ρ.t 9))).drew (fun q hq => hsp _ (by omega)) _ (hsp _ (by omega))) (j - (i + m) * i0.size) (by omega)
      rw [show (i + m) * i0.size + (j - (i + m) * i0.size) = j by omega] at this
      rw [this, List.getElem_drop, List.getElem?_eq_getElem (by omega)]
      congr 2; omega
   ·show (w.heap.push _)[k]? = _
    rw [Array.getElem?_push]; rw [if_neg (by omega)]
   ·rw [b3]
    show w.heap.size ≤ ((w.alloc (.cells ROW (ρ.t 9))).drew.setCells w.heap.size (i * i0.size) vs).heap.size
    rw [a3, hsz1]; omega
   ·exact ⟨b4.os.trans a4.os, b4.tape.trans a4.tape, b4.output.trans a4.output⟩
 ·have hie : i = n := by omega
  subst hie
  have hdr : cs.drop (i * i0.size) = [] := List.drop_eq_nil_of_le (by omega)
  have htk : cs.take (i * i0.size) = cs := List.take_of_length_le (by omega)
  rw [hdr, htk, List.append_nil] at hCS hget ⊢
  by_cases hroom : i + m ≤ c
  ·have hroom2 : (i + m) * i0.size ≤ c * i0.size := Nat.mul_le_mul_right _ hroom
   refine (zFY L b off i c vb voff m vc vs w hm hroom (by unfold smax at h63; exact h63) hvl (fun j hj => z5Q hb (by omega)) (fun j hj => z6N hb hf (by omega)) hcv h1v).mono ?_
   rintro e w' ⟨rfl, rfl⟩
   obtain ⟨b1, b2, b3, b4⟩ := z2O b vs (off + i * i0.size) w hb
   refine ⟨⟨b, off, c, _, ty, fz, rfl, hroom, b1, ?_, ?_, ?_, .inl rfl⟩, fun k hk hkb => b2 k hkb, ?_, b4⟩
   ·rw [z2j]; exact hf
   ·rw [z2j]; exact ho
   ·refine z55 b1 fun j hj => ?_
    rw [hCS] at hj
    by_cases h1 : j < i * i0.size
    ·rw [World.cell?_setCells_out _ _ _ _ _ (fun _ _ => by left; show off + j < off + i * i0.size; omega), List.getElem?_append_left (by omega)]
     obtain ⟨v, hv1⟩ : ∃ v, cs[j]? = some v := ⟨_, List.getElem?_eq_getElem (by omega)⟩
     rw [hv1]; exact hcc j v hv1
    ·have := World.cell?_setCells_in b vs (off + i * i0.size) w (fun k hk => z5Q hb (by omega)) (j - i * i0.size) (by omega)
     rw [show off + i * i0.size + (j - i * i0.size) = off + j by omega] at this
     rw [this, List.getElem?_append_right (by omega), hcl, List.getElem?_eq_getElem]
   ·rw [b3]; exact Nat.le_refl _
  ·have hfit := growslice_fits (show c < i + m by omega) hbig
   refine (z9v L (some ⟨b, off, none⟩) i c vb voff m vc cs vs w hm hn (by omega) (by rw [hsm] at h63; omega) hfit hcl hvl (fun h => by cases h) (fun a ha j v hj => by cases ha; rw [Addr.add_lit]; exact hcc j v hj) hcv h1v).mono ?_
   rintro e w' ⟨rfl, rfl⟩
   have hge := grownCap_ge w (i + m) c (ρ.t 9)
   generalize grownCap w (i + m) c (ρ.t 9) = G at hge ⊢
   refine ⟨⟨w.heap.size, 0, G, _, ρ.t 9, (0, 0), rfl, hge, z4H w.drew _, fun o _ => by simp, ?_, ?_, .inr (Nat.le_refl _)⟩, fun k hk hkb => z3r w.drew _ hk, ?_, ⟨rfl, rfl, rfl⟩⟩
   ·simp only [Array.size_append, z38, L.ic, List.size_toArray, List.length_append, hcl, hvl]
    rw [← Nat.add_mul, ← Nat.add_mul, Nat.zero_add]
    exact Nat.mul_le_mul_right _ (by omega)
   ·rw [List.drop_zero, Array.toList_append]; exact List.take_left
   ·rw [z2y]; simp
theorem zBb {i0 : TypeInfo} {zv : Value} (L : InsL P ρ i0 zv) {vb voff m vc : Nat} {vs : List Value} {w : World} {arr2 : Array Value} {ty2 : TypeId} {fz2 : Nat × Nat}
 (hm : 0 < m) (hbig : m * i0.bytes ≤ 140737488355328) (h63 : m ≤ smax)
 (hv : w.heap[vb]? = some (.cells arr2 ty2 fz2)) (hvs : (arr2.toList.drop voff).take (m * i0.size) = vs) (hvl : vs.length = m * i0.size) (h1v : ∀ v ∈ vs, v.oneCell' = true) :
 Calls P (ρ.f 22) #[.slice none 0 0, .int .i64 (0 : Nat), .slice (some ⟨vb, voff, none⟩) m vc] w fun e w' => InsQ w w' w.heap.size m e i0.size vs := by
 have hsm := z19
 have hcv := zE0 hv hvs
 have hfit := growslice_fits (show 0 < 0 + m by omega) (show (0 + m) * i0.bytes ≤ _ by rw [Nat.zero_add]; exact hbig)
 refine (z9v L none 0 0 vb voff m vc [] vs w hm (Nat.le_refl _) (by omega) (by rw [hsm] at h63; omega) hfit (by simp) hvl (fun _ => rfl) (fun a ha => by cases ha) hcv h1v).mono ?_
 rintro e w' ⟨rfl, rfl⟩
 have hge := grownCap_ge w (0 + m) 0 (ρ.t 9)
 generalize grownCap w (0 + m) 0 (ρ.t 9) = G at hge ⊢
 refine ⟨⟨w.heap.size, 0, G, _, ρ.t 9, (0, 0), by rw [Nat.zero_add], by omega, z4H w.drew _, fun o _ => by simp, ?_, ?_, .inl rfl⟩, fun k hk hkb => z3r w.drew _ hk, ?_, ⟨rfl, rfl, rfl⟩⟩
 ·simp only [Array.size_append, z38, L.ic, List.size_toArray, List.length_append, hvl, List.length_nil]
  rw [Nat.zero_add, Nat.zero_add, ← Nat.add_mul]
  exact Nat.mul_le_mul_right _ (by omega)
 ·rw [List.drop_zero, Array.toList_append]; exact List.take_left
 ·rw [z2y]; simp
theorem zFN (l : List Nat) : l.flatMap (fun _ => ([] : List Nat)) = [] := by induction l <;> simp_all
def insF (eb : Nat) : List D → Option D
 | [a, i, v] => if (0 ≤ i.i ∧ i.i ≤ a.l.length) ∧ v.l ≠ [] ∧ appOk eb a.l v.l = true then some (.lst (a.l.take i.i.toNat ++ v.l ++ a.l.drop i.i.toNat)) else none
 | _ => none
def insE (g : FuncId) (e : T) (eb : Nat) : Ent := ⟨g, [(.own, .lst true e), (.vw, .int .i64), (.vw, .lst false e)], true, .lst true e, insF eb⟩
theorem zLl {α : Type} {l : List α} {a b c : α} (hl : l.length = 3) (h0 : l[0]? = some a) (h1 : l[1]? = some b) (h2 : l[2]? = some c) : l = [a, b, c] := by
 match l, hl with
 | [x, y, z], _ => simp at h0 h1 h2; rw [h0, h1, h2]
theorem zLT {h : Heap} {V : Nat → Prop} {o : Bool} {e : T} {xs : List D} {κ : K} {cs : List Value} (hr : Rep h V (.lst o e) (.lst xs) κ cs) (hpl : e.plain = true) (hsd : e.sound = true) :
 (xs = [] ∧ κ = .leaf ∧ ∃ A, cs = [.slice A 0 0] ∧ (o = true → A = none)) ∨ ∃ b off c arr ty fz ks CS, cs = [.slice (some ⟨b, off, none⟩) xs.length c] ∧ zIp xs.length c ∧ h[b]? = some (.cells arr ty fz) ∧ off + c * e.size ≤ arr.size ∧ (if o = true then Free fz (arr.size + e.mk) ∧ κ = .lst b off c xs.length ks else V b ∧ κ = .leaf ∧ e.plain = true) ∧
   (arr.toList.drop off).take (xs.length * e.size) = CS ∧ CS.length = xs.length * e.size ∧ (∀ i x, xs[i]? = some x → Rep h V e x e.k0 ((CS.drop (i * e.size)).take e.size)) ∧ (∀ v ∈ CS, v.oneCell' = true) ∧ (o = true → ∀ b', b' ∈ κ.blocks ↔ b' = b) := by
 obtain ⟨ys, hy, ⟨rfl, rfl, A, rfl, hA⟩ | ⟨b, off, c, arr, ty, fz, ks, rfl, hl, hh, hs, he, hown⟩⟩ := hr
 ·cases hy
  exact .inl ⟨rfl, rfl, A, rfl, hA⟩
 ·cases hy
  have hmul : xs.length * e.size ≤ c * e.size := Nat.mul_le_mul_right _ hl.1
  have hlen : ((arr.toList.drop off).take (xs.length * e.size)).length = xs.length * e.size := by simp; omega
  have hcut : ∀ i, i < xs.length → (((arr.toList.drop off).take (xs.length * e.size)).drop (i * e.size)).take e.size = (arr.toList.drop (off + i * e.size)).take e.size := by
   intro i hi
   have hmj : (i + 1) * e.size ≤ xs.length * e.size := Nat.mul_le_mul_right _ (by omega)
   rw [Nat.add_mul, Nat.one_mul] at hmj
   apply List.ext_getElem?
   intro q
   rw [z0Z ((arr.toList.drop off).take (xs.length * e.size)) (i * e.size) e.size q, z0Z arr.toList (off + i * e.size) e.size q]
   split
   ·rw [z0Z arr.toList off (xs.length * e.size) (i * e.size + q), if_pos (by omega)]; congr 1; omega
   ·rfl
  have hel : ∀ i x, xs[i]? = some x → Rep h V e x e.k0 ((((arr.toList.drop off).take (xs.length * e.size)).drop (i * e.size)).take e.size) := by
   intro i x hx
   have hi := (List.getElem?_eq_some_iff.1 hx).1
   rw [hcut i hi]
   have := he i x hx
   rwa [this.plain_leaf hpl] at this
  refine .inr ⟨b, off, c, arr, ty, fz, ks, _, rfl, hl, hh, hs, hown, rfl, hlen, hel, ?_, ?_⟩
  ·intro v hv
   obtain ⟨j, hj, rfl⟩ := List.getElem_of_mem hv
   rw [hlen] at hj
   by_cases hz : e.size = 0
   ·rw [hz] at hj; omega
   have hje : j / e.size < xs.length := Nat.div_lt_of_lt_mul (by rw [Nat.mul_comm]; exact hj)
   have hr := hel (j / e.size) _ (List.getElem?_eq_getElem hje)
   refine hr.one hsd _ ?_
   have hmod := Nat.mod_lt j (Nat.pos_of_ne_zero hz)
   have hdm := Nat.div_add_mod j e.size
   rw [Nat.mul_comm] at hdm
   apply List.mem_of_getElem? (i := j % e.size)
   rw [List.getElem?_take_of_lt hmod, List.getElem?_drop, hdm, List.getElem?_eq_getElem (by rw [hlen]; exact hj)]
  ·intro ho b'
   subst ho
   simp only [if_true] at hown
   rw [hown.2]
   simp only [K.blocks, List.mem_cons, List.mem_flatMap, List.mem_range]
   constructor
   ·rintro (rfl | ⟨i, hi, hb⟩)
    ·rfl
    ·have := he i _ (List.getElem?_eq_getElem hi)
     rw [this.plain_blocks hpl] at hb; cases hb
   ·exact .inl
set_option maxHeartbeats 4000000 in
theorem insE_ok {P : Program} {ρ : Ren} {i0 : TypeInfo} {zv : Value} {g : FuncId} {fn : Func} {e : T} {eb : Nat} (L : InsL P ρ i0 zv) (hg : ρ.f 22 = g) (hf : P.funcs[g]? = some fn) (hn : (fn.name == "runtime.NumGoroutine") = false) (hb : fn.body.isNone = false)
 (hsz : i0.size = e.size) (heb : i0.bytes = eb) (hpl : e.plain = true) (hsd : e.sound = true) (hmk : e.mk = 1) : (insE g e eb).Ok P := by
 refine ⟨⟨fn, hf, hn, hb⟩, fun ds out hl ho => ?_⟩
 match ds, hl with
 | [a, iv, v], _ =>
   intro w V κs vs hp hglb
   have hc : (0 ≤ iv.i ∧ iv.i ≤ a.l.length) ∧ v.l ≠ [] ∧ appOk eb a.l v.l = true := Decidable.byContradiction fun h => by
    have : insF eb [a, iv, v] = none := if_neg h
    rw [show (insE g e eb).F = insF eb from rfl, this] at ho
    cases ho
   have ho' : some (D.lst (a.l.take iv.i.toNat ++ v.l ++ a.l.drop iv.i.toNat)) = some out := by
    rw [← ho]; exact (if_pos hc).symm
   cases ho'
   obtain ⟨⟨hi0, hi1⟩, hvn, happ⟩ := hc
   have hlen3 : vs.length = 3 := hp.len
   obtain ⟨ca, hra, hva⟩ : ∃ cs, Rep w.heap V (.lst true e) a (κs 0) cs ∧ vs[0] = z0Q (.lst true e) cs := hp.arg 0 ⟨.own, .lst true e, a⟩ vs[0] rfl (List.getElem?_eq_getElem (by omega))
   obtain ⟨_, ci, ⟨n, rfl, _, rfl, hn1, hn2⟩, hvi⟩ : (T.int .i64).plain = true ∧ ∃ cs, Rep w.heap V (.int .i64) iv (κs 1) cs ∧ vs[1] = z0Q (.int .i64) cs := hp.arg 1 ⟨.vw, .int .i64, iv⟩ vs[1] rfl (List.getElem?_eq_getElem (by omega))
   obtain ⟨_, cv, hrv, hvv⟩ : (T.lst false e).plain = true ∧ ∃ cs, Rep w.heap V (.lst false e) v (κs 2) cs ∧ vs[2] = z0Q (.lst false e) cs := hp.arg 2 ⟨.vw, .lst false e, v⟩ vs[2] rfl (List.getElem?_eq_getElem (by omega))
   obtain ⟨xs, rfl, _⟩ := id hra
   obtain ⟨ys, rfl, _⟩ := id hrv
   simp only [D.l_lst, D.i_int] at hi1 hvn happ hi0 ⊢
   obtain ⟨i, rfl⟩ := Int.eq_ofNat_of_zero_le hi0
   have hin : i ≤ xs.length := by omega
   have hvs : vs = [z0Q (.lst true e) ca, .int .i64 (i : Nat), z0Q (.lst false e) cv] := zLl hlen3 (by rw [List.getElem?_eq_getElem (by omega), hva]) (by rw [List.getElem?_eq_getElem (by omega), hvi]; rfl) (by rw [List.getElem?_eq_getElem (by omega), hvv])
   subst hvs
   simp only [appOk, Bool.and_eq_true, decide_eq_true_eq] at happ
   obtain ⟨h63, hbig⟩ := happ
   rw [← heb] at hbig
   rcases zLT hrv hpl hsd with ⟨rfl, _⟩ | ⟨vb, voff, vc, arr2, ty2, fz2, ks2, VS, rfl, hl2, hh2, hs2, hf2, hVS, hVl, hel2, hone2, _⟩
   ·exact absurd rfl hvn
   have hm : 0 < ys.length := List.length_pos_iff.2 hvn
   have hvbV : V vb := hf2.1
   -- what the result is
   have fin : ∀ (w' : World) (en : Ending) (b : Nat) (CS : List Value), (∀ b', V b' → b' ≠ b) → ((∃ j, j < 3 ∧ b ∈ (κs j).blocks) ∨ w.heap.size ≤ b) → CS.length = (xs.length + ys.length) * e.size → (∀ j x, (xs.take i ++ ys ++ xs.drop i)[j]? = some x → Rep w.heap V e x e.k0 ((CS.drop (j * e.size)).take e.size)) → InsQ w w' b (xs.length + ys.length) en e.size CS →
    ∃ res outs κr κo V' v, (res = (insE g e eb).mkRes (D.lst (xs.take i ++ ys ++ xs.drop i)) ∧ outs = z3f (insE g e eb).as .unit) ∧ en = .returned v ∧ Post' w w' V V' (z14 (insE g e eb).as [.lst xs, .int (i : Nat), .lst ys]) κs [z0Q (.lst true e) ca, .int .i64 (i : Nat), z0Q (.lst false e) [.slice (some ⟨vb, voff, none⟩) ys.length vc]] res outs κr κo v := by
    intro w' en b CS hVb hbs hCl hCe hQ
    obtain ⟨⟨B, O, C, arr, ty, fz, rfl, hnC, hhB, hfB, hOC, hcut, hB⟩, hold, hsize, hsame⟩ := hQ
    have hll : (xs.take i ++ ys ++ xs.drop i).length = xs.length + ys.length := by
     simp only [List.length_append, List.length_take, List.length_drop]; omega
    have hVk : ∀ b', V b' → w'.heap[b']? = w.heap[b']? := fun b' h => hold b' (hp.lt b' h) (hVb b' h)
    have hrep : Rep w'.heap V (.lst true e) (.lst (xs.take i ++ ys ++ xs.drop i)) (.lst B O C (xs.length + ys.length) fun _ => e.k0) [.slice (some ⟨B, O, none⟩) (xs.length + ys.length) C] := by
     refine ⟨_, rfl, .inr ⟨B, O, C, arr, ty, fz, fun _ => e.k0, by rw [hll], ⟨by rw [hll]; exact hnC, by rw [hll]; exact h63⟩, hhB, hOC, ?_, by simp only [if_true]; rw [hll, hmk]; exact ⟨hfB, rfl⟩⟩⟩
     intro j x hx
     have hj : j < xs.length + ys.length := by
      have := (List.getElem?_eq_some_iff.1 hx).1
      rw [hll] at this; exact this
     have hR := hCe j x hx
     have hmj : (j + 1) * e.size ≤ (xs.length + ys.length) * e.size := Nat.mul_le_mul_right _ (by omega)
     rw [Nat.add_mul, Nat.one_mul] at hmj
     have hc2 : (arr.toList.drop (O + j * e.size)).take e.size = (CS.drop (j * e.size)).take e.size := by
      rw [← hcut]
      apply List.ext_getElem?
      intro q
      rw [z0Z ((arr.toList.drop O).take CS.length) (j * e.size) e.size q, z0Z arr.toList (O + j * e.size) e.size q]
      split
      ·rw [z0Z arr.toList O CS.length (j * e.size + q), if_pos (by omega)]; congr 1; omega
      ·rfl
     rw [hc2]
     exact hR.frame (fun b' hb' => by rw [T.k0_blocks] at hb'; cases hb') hVk (fun _ h => h)
    have hblk : ∀ b', b' ∈ (K.lst B O C (xs.length + ys.length) fun _ => e.k0).blocks → b' = B := by
     intro b' hb'
     simp only [K.blocks, List.mem_cons, List.mem_flatMap, List.mem_range, T.k0_blocks] at hb'
     rcases hb' with h | ⟨_, _, h⟩
     ·exact h
     ·cases h
    have hBs : (∃ j, j < 3 ∧ B ∈ (κs j).blocks) ∨ w.heap.size ≤ B := by
     rcases hB with rfl | h
     ·exact hbs
     ·exact .inr h
    refine ⟨_, _, .lst B O C (xs.length + ys.length) (fun _ => e.k0), fun _ => .leaf, V, _, ⟨rfl, rfl⟩, rfl, ⟨hsame, hsize, ?_, fun _ h => h, fun _ h => .inl h, fun b' h => Nat.lt_of_lt_of_le (hp.lt b' h) hsize, ⟨_, hrep, rfl⟩, ?_, ?_, ?_, ?_, by simp [K.blocks], by simp [K.blocks], by simp [K.blocks], by simp [K.blocks]⟩⟩
    ·intro b' hb' hnb
     refine hold b' hb' (fun e => ?_)
     subst e
     rcases hbs with ⟨j, hj, h⟩ | h
     ·exact hnb j hj h
     ·omega
    ·simp only [K.blocks, T.k0_blocks]
     rw [zFN]; simp
    ·intro b' hb'
     rw [hblk b' hb']; exact hBs
    ·intro b' hb' hVb'
     rw [hblk b' hb'] at hVb'
     rcases hB with rfl | h
     ·exact hVb _ hVb' rfl
     ·have := hp.lt B hVb'; omega
    ·intro j x u hx _ hm
     exfalso
     have hj := (List.getElem?_eq_some_iff.1 hx).1
     simp only [insE, z14, List.length_cons, List.length_nil] at hj
     match j, hj with
     | 0, _ => cases hx; rcases hm with h | h <;> cases h
     | 1, _ => cases hx; rcases hm with h | h <;> cases h
     | 2, _ => cases hx; rcases hm with h | h <;> cases h
   subst hg
   rcases zLT hra hpl hsd with ⟨rfl, hk, A, rfl, hA⟩ | ⟨b, off, c, arr, ty, fz, ks, CS, rfl, hlc, hh, hs, hfk, hCS, hCl, hel, hone, hbl0⟩
   ·have hA' := hA rfl
    subst hA'
    have hi00 : i = 0 := by simpa using hin
    subst hi00
    refine (zBb L (w := w) (vs := VS) hm (by simpa using hbig) (by simpa using h63) hh2 (by rw [hsz]; exact hVS) (by rw [hsz]; exact hVl) hone2).mono ?_
    intro en w' hQ
    rw [hsz] at hQ
    refine fin w' en w.heap.size VS (fun b' h => by have := hp.lt b' h; omega) (.inr (Nat.le_refl _)) (by simpa using hVl) ?_ (by simpa using hQ)
    intro j x hx
    exact hel2 j x (by simpa using hx)
   ·have hbl := hbl0 rfl
    simp only [if_true] at hfk
    obtain ⟨hfz, hk⟩ := hfk
    have hne : vb ≠ b := fun h => hp.dv 0 (by simp [insE, z14]) b ((hbl b).2 rfl) (h ▸ hvbV)
    rw [hmk] at hfz
    refine (zJJ L (w := w) (cs := CS) (vs := VS) hlc.1 hin hm hbig h63 hh hfz (by rw [hsz]; exact hs) (by rw [hsz]; exact hCS) (by rw [hsz]; exact hCl) hh2 (by rw [hsz]; have := Nat.mul_le_mul_right e.size hl2.1; omega) (by rw [hsz]; exact hVS) (by rw [hsz]; exact hVl) hne hone hone2).mono ?_
    intro en w' hQ
    rw [hsz] at hQ
    have hie : i * e.size ≤ xs.length * e.size := Nat.mul_le_mul_right _ hin
    have hcl1 : (CS.take (i * e.size)).length = i * e.size := by rw [List.length_take]; omega
    have hxl : (xs.take i).length = i := by rw [List.length_take]; omega
    refine fin w' en b _ (fun b' h hb' => hp.dv 0 (by simp [insE, z14]) b ((hbl b).2 rfl) (hb' ▸ h)) (.inl ⟨0, by omega, (hbl b).2 rfl⟩) ?_ ?_ hQ
    ·simp only [List.length_append, List.length_take, List.length_drop, hCl, hVl]
     rw [Nat.add_mul]; omega
    ·intro j x hx
     by_cases h1 : j < i
     ·have hmj : (j + 1) * e.size ≤ i * e.size := Nat.mul_le_mul_right _ (by omega)
      rw [Nat.add_mul, Nat.one_mul] at hmj
      rw [List.append_assoc, List.getElem?_append_left (by omega), List.getElem?_take_of_lt h1] at hx
      rw [List.append_assoc, z27 (by omega)]
      have := hel j x hx
      have e2 : ((CS.take (i * e.size)).drop (j * e.size)).take e.size = (CS.drop (j * e.size)).take e.size := by
       apply List.ext_getElem?
       intro q
       rw [z0Z, z0Z]
       split
       ·rw [List.getElem?_take_of_lt (by omega)]
       ·rfl
      rw [e2]; exact this
     ·by_cases h2 : j < i + ys.length
      ·have hmj : (j - i + 1) * e.size ≤ ys.length * e.size := Nat.mul_le_mul_right _ (by omega)
       rw [Nat.add_mul, Nat.one_mul] at hmj
       have hsub : j * e.size = i * e.size + (j - i) * e.size := by rw [← Nat.add_mul]; congr 1; omega
       rw [List.append_assoc, List.getElem?_append_right (by omega), hxl, List.getElem?_append_left (by omega)] at hx
       rw [List.append_assoc, z2G (by omega), z27 (by omega), hcl1, show j * e.size - i * e.size = (j - i) * e.size by omega]
       exact hel2 _ x hx
      ·have hsub : j * e.size = i * e.size + ys.length * e.size + (j - i - ys.length) * e.size := by rw [← Nat.add_mul, ← Nat.add_mul]; congr 1; omega
       rw [List.getElem?_append_right (by simp; omega), List.getElem?_drop] at hx
       have hl12 : (CS.take (i * e.size) ++ VS).length = i * e.size + ys.length * e.size := by rw [List.length_append, hcl1, hVl]
       rw [z2G (by omega), hl12, show j * e.size - (i * e.size + ys.length * e.size) = (j - i - ys.length) * e.size by omega, List.drop_drop]
       have h3 := hel _ x hx
       have e3 : i + (j - (xs.take i ++ ys).length) = i + (j - i - ys.length) := by rw [List.length_append, hxl]; omega
       rw [e3] at h3
       rw [show i * e.size + (j - i - ys.length) * e.size = (i + (j - i - ys.length)) * e.size by rw [Nat.add_mul]]
       exact h3
end Go.Own
set_option linter.unusedVariables false
set_option linter.unusedSimpArgs false
namespace Go.Proofs
open Go.Shelf Go.RowKit Go.Lib
variable {P : Program} {ρ : Ren}
structure DelL (P : Program) (ρ : Ren) (i0 : TypeInfo) (zv : Value) : Prop where
 mixed : P.follows .mixedOrders = true
 f45 : Bears P (ρ.f 45) (SlBodyN.n45 ρ)
 t0 : P.underlying (ρ.t 0) = some (TypeDesc.tuple #[])
 a0 : ∀ w, (isAgg (ρ.t 0)).run P w = .ok false w
 z0 : ∀ w, (Go.sizeOf (ρ.t 0)).run P w = .ok 1 w
 v0 : ∀ w, (zeroValue (ρ.t 0)).run P w = .ok (Value.tuple #[]) w
 t3 : P.underlying (ρ.t 3) = some (TypeDesc.int IntKind.i64)
 a3 : ∀ w, (isAgg (ρ.t 3)).run P w = .ok false w
 z3 : ∀ w, (Go.sizeOf (ρ.t 3)).run P w = .ok 1 w
 v3 : ∀ w, (zeroValue (ρ.t 3)).run P w = .ok (Value.int IntKind.i64 0) w
 t4 : P.underlying (ρ.t 4) = some (TypeDesc.bool)
 a4 : ∀ w, (isAgg (ρ.t 4)).run P w = .ok false w
 z4 : ∀ w, (Go.sizeOf (ρ.t 4)).run P w = .ok 1 w
 v4 : ∀ w, (zeroValue (ρ.t 4)).run P w = .ok (Value.bool false) w
 z23 : ∀ w, (Go.sizeOf (ρ.t 23)).run P w = .ok i0.size w
 t22 : P.underlying (ρ.t 22) = some (TypeDesc.slice (ρ.t 23))
 a22 : ∀ w, (isAgg (ρ.t 22)).run P w = .ok false w
 z22 : ∀ w, (Go.sizeOf (ρ.t 22)).run P w = .ok 1 w
 v22 : ∀ w, (zeroValue (ρ.t 22)).run P w = .ok (Value.slice none 0 0) w
 i23 : P.info? (ρ.t 23) = some i0
 iz : i0.zero = some zv
 is : 0 < i0.size
 ic : zv.cells.size = i0.size
 i1 : ∀ v ∈ zv.cells.toList, v.oneCell' = true
theorem zCZ (w : World) (t e ty : TypeId) (i0 : TypeInfo) (z : Value) (ht : P.underlying t = some (.slice e)) (hi : P.info? e = some i0) (hz : i0.zero = some z) (b o n c : Nat) (hn : 0 < n) (h1 : ∀ v ∈ (Builtin.zeroCells z.cells n).toList, v.oneCell' = true)
 (hc : ∀ j, j < (Builtin.zeroCells z.cells n).toList.length → (w.cell? ⟨b, o + j, none⟩).isSome = true) (hf : ∀ j, j < (Builtin.zeroCells z.cells n).toList.length → w.frozen? ⟨b, o + j, none⟩ = false) :
 (Builtin.clear_ #[t] ty #[.slice (some ⟨b, o, none⟩) n c]).run P w = .ok (.tuple #[]) (w.setCells b o (Builtin.zeroCells z.cells n).toList) := by
 have hst := run_storeCells_cells (P := P) b o (Builtin.zeroCells z.cells n).toList 0 w (by simpa using hc) (by simpa using hf) h1
 simp only [Nat.add_zero] at hst
 have hv : (zeroValue e).run P w = .ok z w := by
  simp only [zeroValue, typeInfo, program, Sem.run_bind, Sem.run, Result.andThen_ok, hi, hz, Sem.run_pure]
 obtain ⟨m, rfl⟩ : ∃ m, n = m + 1 := ⟨n - 1, by omega⟩
 simp [Builtin.clear_, run_underlying ht, hv, hst]
set_option maxHeartbeats 4000000 in
set_option maxRecDepth 1000000 in
theorem zLa {i0 : TypeInfo} {zv : Value} (L : DelL P ρ i0 zv) (b off n c i j : Nat) (cs : List Value) (w : World) (hn : n ≤ c) (hm : n ≤ 9223372036854775807) (hij : i < j) (hj : j ≤ n)
 (hcl : cs.length = n * i0.size) (hcs : ∀ k v, cs[k]? = some v → w.cell? ⟨b, off + k, none⟩ = some v) (hfz : ∀ k, k < n * i0.size → w.frozen? ⟨b, off + k, none⟩ = false) (h1c : ∀ v ∈ cs, v.oneCell' = true) :
 Calls P (ρ.f 45) #[.slice (some ⟨b, off, none⟩) n c, .int .i64 i, .int .i64 j] w fun e w' =>
  e = .returned (.slice (some ⟨b, off, none⟩) (n - (j - i)) c) ∧ w' = (w.drew.setCells b (off + i * i0.size) (cs.drop (j * i0.size))).setCells b (off + (i + (n - j)) * i0.size) (Builtin.zeroCells zv.cells (j - i)).toList := by
 have mixed := L.mixed; have t0 := L.t0; have a0 := L.a0; have z0 := L.z0; have v0 := L.v0; have t3 := L.t3; have a3 := L.a3; have z3 := L.z3; have v3 := L.v3; have t4 := L.t4; have a4 := L.a4; have z4 := L.z4; have v4 := L.v4; have t22 := L.t22; have a22 := L.a22; have z22 := L.z22; have v22 := L.v22; have z23 := L.z23
 have hjn : j * i0.size ≤ n * i0.size := Nat.mul_le_mul_right _ hj
 have hij' : i * i0.size ≤ j * i0.size := Nat.mul_le_mul_right _ (by omega)
 have hdl : (cs.drop (j * i0.size)).length = (n - j) * i0.size := by rw [List.length_drop, hcl, ← Nat.sub_mul]
 have hsp : ∀ k, k < n * i0.size → (w.cell? ⟨b, off + k, none⟩).isSome = true := fun k hk => by
  rw [hcs k _ (List.getElem?_eq_getElem (by omega))]; rfl
 obtain ⟨A, hA, hsrc⟩ : ∃ A : Addr, (if c = j then some (⟨b, off, none⟩ : Addr) else some ⟨b, off + j * i0.size, none⟩) = some A ∧ Hid (∀ t u, (cs.drop (j * i0.size))[t]? = some u → w.drew.cell? (A.add t) = some u) := by
  by_cases h : c = j
  ·refine ⟨⟨b, off, none⟩, by simp [h], fun t u hu => ?_⟩
   have h0 : cs.drop (j * i0.size) = [] := List.drop_eq_nil_of_le (by rw [hcl]; exact Nat.mul_le_mul_right _ (by omega))
   rw [h0] at hu
   simp at hu
  ·refine ⟨⟨b, off + j * i0.size, none⟩, by simp [h], fun t u hu => ?_⟩
   rw [List.getElem?_drop] at hu
   rw [Addr.add_lit, Nat.add_assoc]
   exact hcs _ u hu
 have s1 : Hid ((cs.drop (j * i0.size)).length = (n - j) * i0.size) := hdl
 have s2 : Hid (∀ u ∈ cs.drop (j * i0.size), u.oneCell' = true) := fun u hu => h1c u (List.mem_of_mem_drop hu)
 have hmn : i * i0.size + (n - j) * i0.size = (i + (n - j)) * i0.size := (Nat.add_mul _ _ _).symm
 have hmn2 : (i + (n - j)) * i0.size + (j - i) * i0.size = n * i0.size := by rw [← Nat.add_mul]; congr 1; omega
 have s3 : Hid (∀ t, t < (cs.drop (j * i0.size)).length → (w.drew.cell? ⟨b, off + i * i0.size + t, none⟩).isSome = true ∧ w.drew.frozen? ⟨b, off + i * i0.size + t, none⟩ = false) := by
  intro t ht
  rw [hdl] at ht
  rw [Nat.add_assoc]
  exact ⟨hsp _ (by omega), hfz _ (by omega)⟩
 obtain ⟨W1, hW1⟩ : ∃ W1, W1 = w.drew.setCells b (off + i * i0.size) (cs.drop (j * i0.size)) := ⟨_, rfl⟩
 have hzl : (Builtin.zeroCells zv.cells (j - i)).toList.length = (j - i) * i0.size := by rw [Array.length_toList, z38, L.ic]
 have hz1 : ∀ v ∈ (Builtin.zeroCells zv.cells (j - i)).toList, v.oneCell' = true := by
  intro v hv
  simp only [Builtin.zeroCells, Array.toList_map, List.mem_map, Array.toList_range, List.mem_range] at hv
  obtain ⟨k, hk, rfl⟩ := hv
  have hcz : 0 < zv.cells.size := by rw [L.ic]; exact L.is
  rw [getElem!_pos zv.cells _ (Nat.mod_lt _ hcz)]
  exact L.i1 _ (by simp)
 have hcl2 : ∀ ty cp, (Builtin.clear_ #[ρ.t 22] ty #[.slice (some ⟨b, off + (i + (n - j)) * i0.size, none⟩) (n - (i + (n - j))) cp]).run P W1 = .ok (.tuple #[]) (W1.setCells b (off + (i + (n - j)) * i0.size) (Builtin.zeroCells zv.cells (j - i)).toList) := fun ty cp => by
  rw [show n - (i + (n - j)) = j - i by omega]
  refine zCZ W1 _ _ ty i0 zv t22 L.i23 L.iz b _ (j - i) _ (by omega) hz1 (fun k hk => ?_) (fun k hk => ?_)
  ·rw [hzl] at hk
   rw [hW1, Nat.add_assoc]
   exact isSome_setCells b _ _ _ (fun q hq => by rw [Nat.add_assoc]; exact hsp _ (by omega)) _ (hsp _ (by omega))
  ·rw [hzl] at hk
   rw [hW1, World.frozen?_setCells, Nat.add_assoc]
   exact hfz _ (by omega)
 have hW : Hid (W1 = w.drew.setCells b (off + i * i0.size) (cs.drop (j * i0.size))) := hW1
 have hic : i ≤ c := by omega
 have hjc : j ≤ c := by omega
 have i23 := L.i23
 rw [← hW1]
 clear hW1 hcs hfz hsp hzl hz1
 generalize (Builtin.zeroCells zv.cells (j - i)).toList = ZZ at hcl2 ⊢
 obtain ⟨_, _, FG⟩ := L.f45
 go_enter FG, SlBodyN.n45_ntmps ρ
 go_wp2_with fail
 go_region_law_o (refine step_append_room rfl (.tmp 22) (.tmp 25) (ρ.t 22) rfl (ρ.t 23) i0 i0.size t22 i23 rfl b off i c (by simp [Act.eval, Act.put]) A (n - j) (c - j) (cs.drop (j * i0.size)) (by simp [Act.eval, Act.put]) s1.out hsrc.out s2.out (by omega) s3.out ?_; rw [← hW.out])
 go_wp2
 go_ret
 exact ⟨by rw [show n - (j - i) = i + (n - j) by omega]; rfl, rfl⟩
set_option maxHeartbeats 4000000 in
set_option maxRecDepth 1000000 in
theorem del_same {i0 : TypeInfo} {zv : Value} (L : DelL P ρ i0 zv) (A : Option Addr) (n c i : Nat) (w : World) (hn : n ≤ c) (hm : n ≤ 9223372036854775807) (hi : i ≤ n) (hA : A = none → c = 0) :
 Calls P (ρ.f 45) #[.slice A n c, .int .i64 i, .int .i64 i] w fun e w' => e = .returned (.slice A n c) ∧ w' = w := by
 have mixed := L.mixed; have t0 := L.t0; have a0 := L.a0; have z0 := L.z0; have v0 := L.v0; have t3 := L.t3; have a3 := L.a3; have z3 := L.z3; have v3 := L.v3; have t4 := L.t4; have a4 := L.a4; have z4 := L.z4; have v4 := L.v4; have t22 := L.t22; have a22 := L.a22; have z22 := L.z22; have v22 := L.v22; have z23 := L.z23
 cases A with
 | none =>
   have hc := hA rfl
   subst hc
   obtain rfl : n = 0 := by omega
   obtain rfl : i = 0 := by omega
   obtain ⟨_, _, FG⟩ := L.f45
   go_enter FG, SlBodyN.n45_ntmps ρ
   go_wp2
   all_goals (go_ret; exact ⟨rfl, rfl⟩)
 | some a =>
   obtain ⟨_, _, FG⟩ := L.f45
   go_enter FG, SlBodyN.n45_ntmps ρ
   go_wp2
   all_goals (go_ret; exact ⟨rfl, rfl⟩)
end Go.Proofs
namespace Go.Own
variable [Glb]
open Go Go.Proofs Go.RowKit Go.Shelf
variable {P : Program} {ρ : Ren}
theorem zH5 {h : Heap} {V : Nat → Prop} {e : T} {xs : List D} {κ : K} {cs : List Value} (hr : Rep h V (.lst true e) (.lst xs) κ cs) (hsd : e.sound = true) :
 (xs = [] ∧ κ = .leaf ∧ cs = [.slice none 0 0]) ∨ ∃ b off c arr ty fz ks CS, cs = [.slice (some ⟨b, off, none⟩) xs.length c] ∧ zIp xs.length c ∧ h[b]? = some (.cells arr ty fz) ∧ off + c * e.size ≤ arr.size ∧ Free fz (arr.size + e.mk) ∧ κ = .lst b off c xs.length ks ∧
   (arr.toList.drop off).take (xs.length * e.size) = CS ∧ CS.length = xs.length * e.size ∧ (∀ i x, xs[i]? = some x → Rep h V e x (ks i) ((CS.drop (i * e.size)).take e.size)) ∧ (∀ v ∈ CS, v.oneCell' = true) := by
 obtain ⟨ys, hy, ⟨rfl, rfl, A, rfl, hA⟩ | ⟨b, off, c, arr, ty, fz, ks, rfl, hl, hh, hs, he, hown⟩⟩ := hr
 ·cases hy
  cases hA rfl
  exact .inl ⟨rfl, rfl, rfl⟩
 ·cases hy
  simp only [if_true] at hown
  have hmul : xs.length * e.size ≤ c * e.size := Nat.mul_le_mul_right _ hl.1
  have hlen : ((arr.toList.drop off).take (xs.length * e.size)).length = xs.length * e.size := by simp; omega
  have hcut : ∀ i, i < xs.length → (((arr.toList.drop off).take (xs.length * e.size)).drop (i * e.size)).take e.size = (arr.toList.drop (off + i * e.size)).take e.size := by
   intro i hi
   have hmj : (i + 1) * e.size ≤ xs.length * e.size := Nat.mul_le_mul_right _ (by omega)
   rw [Nat.add_mul, Nat.one_mul] at hmj
   apply List.ext_getElem?
   intro q
   rw [z0Z ((arr.toList.drop off).take (xs.length * e.size)) (i * e.size) e.size q, z0Z arr.toList (off + i * e.size) e.size q]
   split
   ·rw [z0Z arr.toList off (xs.length * e.size) (i * e.size + q), if_pos (by omega)]; congr 1; omega
   ·rfl
  have hel : ∀ i x, xs[i]? = some x → Rep h V e x (ks i) ((((arr.toList.drop off).take (xs.length * e.size)).drop (i * e.size)).take e.size) := by
   intro i x hx
   have hi := (List.getElem?_eq_some_iff.1 hx).1
   rw [hcut i hi]
   exact he i x hx
  refine .inr ⟨b, off, c, arr, ty, fz, ks, _, rfl, hl, hh, hs, hown.1, hown.2, rfl, hlen, hel, ?_⟩
  intro v hv
  obtain ⟨j, hj, rfl⟩ := List.getElem_of_mem hv
  rw [hlen] at hj
  by_cases hz : e.size = 0
  ·rw [hz] at hj; omega
  have hje : j / e.size < xs.length := Nat.div_lt_of_lt_mul (by rw [Nat.mul_comm]; exact hj)
  have hr := hel (j / e.size) _ (List.getElem?_eq_getElem hje)
  refine hr.one hsd _ ?_
  have hmod := Nat.mod_lt j (Nat.pos_of_ne_zero hz)
  have hdm := Nat.div_add_mod j e.size
  rw [Nat.mul_comm] at hdm
  apply List.mem_of_getElem? (i := j % e.size)
  rw [List.getElem?_take_of_lt hmod, List.getElem?_drop, hdm, List.getElem?_eq_getElem (by rw [hlen]; exact hj)]
theorem zH0 {w w' : World} {V : Nat → Prop} {ars : List Arg} {κs : Nat → K} {vs : List Value} (hp : Pre w.heap V ars κs vs) {e : T} {ys : List D} {B O C b : Nat} {kk : Nat → K} {arr : Array Value} {ty : TypeId} {fz : Nat × Nat} {outs : List D}
 (hh : w'.heap[B]? = some (.cells arr ty fz)) (hf : Free fz (arr.size + e.mk)) (hO : O + C * e.size ≤ arr.size) (hl : zIp ys.length C)
 (hold : ∀ k, k < w.heap.size → k ≠ b → w'.heap[k]? = w.heap[k]?) (hsize : w.heap.size ≤ w'.heap.size) (hsame : Same w w')
 (hbs : (∃ j, j < ars.length ∧ b ∈ (κs j).blocks) ∨ w.heap.size ≤ b) (hB : B = b ∨ w.heap.size ≤ B)
 (hel : ∀ j x, ys[j]? = some x → Rep w.heap V e x (kk j) ((arr.toList.drop (O + j * e.size)).take e.size))
 (hkb : ∀ j, j < ys.length → ∀ b', b' ∈ (kk j).blocks → b' ≠ b ∧ ∃ i, i < ars.length ∧ b' ∈ (κs i).blocks)
 (hnd : ((List.range ys.length).flatMap fun i => (kk i).blocks).Nodup) (hio : ∀ a ∈ ars, a.m ≠ .io ∧ a.m ≠ .iop) :
 Post' w w' V V ars κs vs (.one (.lst true e) (.lst ys)) outs (.lst B O C ys.length kk) (fun _ => .leaf) (z0Q (.lst true e) [.slice (some ⟨B, O, none⟩) ys.length C]) := by
 have hVb : ∀ b', V b' → b' ≠ b := by
  intro b' hv h
  subst h
  rcases hbs with ⟨j, hj, h⟩ | h
  ·exact hp.dv j hj _ h hv
  ·have := hp.lt _ hv; omega
 have hVk : ∀ b', V b' → w'.heap[b']? = w.heap[b']? := fun b' h => hold b' (hp.lt b' h) (hVb b' h)
 have hlt : ∀ j, j < ys.length → ∀ b', b' ∈ (kk j).blocks → b' < w.heap.size := fun j hj b' hb' => (hel j _ (List.getElem?_eq_getElem hj)).blocks_lt b' hb'
 have hrep : Rep w'.heap V (.lst true e) (.lst ys) (.lst B O C ys.length kk) [.slice (some ⟨B, O, none⟩) ys.length C] := by
  refine ⟨_, rfl, .inr ⟨B, O, C, arr, ty, fz, kk, rfl, hl, hh, hO, ?_, by simp only [if_true]; exact ⟨hf, trivial⟩⟩⟩
  intro j x hx
  have hj := (List.getElem?_eq_some_iff.1 hx).1
  exact (hel j x hx).frame (fun b' hb' => hold b' (hlt j hj b' hb') (hkb j hj b' hb').1) hVk (fun _ h => h)
 have hBs : (∃ j, j < ars.length ∧ B ∈ (κs j).blocks) ∨ w.heap.size ≤ B := by
  rcases hB with rfl | h
  ·exact hbs
  ·exact .inr h
 have hblk : ∀ b', b' ∈ (K.lst B O C ys.length kk).blocks → b' = B ∨ ∃ j, j < ys.length ∧ b' ∈ (kk j).blocks := by
  intro b' hb'
  simp only [K.blocks, List.mem_cons, List.mem_flatMap, List.mem_range] at hb'
  exact hb'
 refine ⟨hsame, hsize, ?_, fun _ h => h, fun _ h => .inl h, fun b' h => Nat.lt_of_lt_of_le (hp.lt b' h) hsize, ⟨_, hrep, rfl⟩, ?_, ?_, ?_, ?_, by simp [K.blocks], by simp [K.blocks], by simp [K.blocks], by simp [K.blocks]⟩
 ·intro b' hb' hnb
  refine hold b' hb' (fun e => ?_)
  subst e
  rcases hbs with ⟨j, hj, h⟩ | h
  ·exact hnb j hj h
  ·omega
 ·show (B :: (List.range ys.length).flatMap fun i => (kk i).blocks).Nodup
  refine List.nodup_cons.2 ⟨?_, hnd⟩
  intro hm
  simp only [List.mem_flatMap, List.mem_range] at hm
  obtain ⟨j, hj, hm⟩ := hm
  rcases hB with rfl | h
  ·exact (hkb j hj _ hm).1 rfl
  ·have := hlt j hj _ hm; omega
 ·intro b' hb'
  rcases hblk b' hb' with rfl | ⟨j, hj, h⟩
  ·exact hBs
  ·exact .inl (hkb j hj b' h).2
 ·intro b' hb' hv
  rcases hblk b' hb' with rfl | ⟨j, hj, h⟩
  ·rcases hBs with ⟨i, hi, h⟩ | h
   ·exact hp.dv i hi _ h hv
   ·have := hp.lt _ hv; omega
  ·obtain ⟨_, i, hi, h2⟩ := hkb j hj b' h
   exact hp.dv i hi _ h2 hv
 ·intro j a u ha _ hm
  obtain ⟨h1, h2⟩ := hio a (List.mem_of_getElem? ha)
  rcases hm with h | h
  ·exact absurd h h1
  ·exact absurd h h2
def zIO (g : FuncId) (e : T) (eb : Nat) : Ent := ⟨g, [(.own, .lst true e), (.vw, .int .i64), (.own, .lst true e)], true, .lst true e, insF eb⟩
def delF : List D → Option D
 | [a, i, j] => if 0 ≤ i.i ∧ i.i < j.i ∧ j.i ≤ a.l.length then some (.lst (a.l.take i.i.toNat ++ a.l.drop j.i.toNat)) else none
 | _ => none
def delE (g : FuncId) (e : T) : Ent := ⟨g, [(.own, .lst true e), (.vw, .int .i64), (.vw, .int .i64)], true, .lst true e, delF⟩
theorem zJZ {b off c n : Nat} {ks : Nat → K} (h : (K.lst b off c n ks).blocks.Nodup) : (∀ j, j < n → b ∉ (ks j).blocks) ∧ ((List.range n).flatMap fun i => (ks i).blocks).Nodup := by
 simp only [K.blocks, List.nodup_cons, List.mem_flatMap, List.mem_range] at h
 exact ⟨fun j hj hb => h.1 ⟨j, hj, hb⟩, h.2⟩
theorem zGv {n : Nat} {ks : Nat → K} (h : ((List.range n).flatMap fun i => (ks i).blocks).Nodup) : (∀ i, i < n → (ks i).blocks.Nodup) ∧ ∀ i j, i < n → j < n → i ≠ j → ∀ b, b ∈ (ks i).blocks → b ∉ (ks j).blocks := by
 induction n with
 | zero => exact ⟨fun i hi => by omega, fun i j hi => by omega⟩
 | succ n ih =>
   rw [List.range_succ, List.flatMap_append, List.nodup_append] at h
   obtain ⟨h1, h2, h3⟩ := h
   simp only [List.flatMap_cons, List.flatMap_nil, List.append_nil] at h2 h3
   obtain ⟨i1, i2⟩ := ih h1
   have h3' : ∀ i, i < n → ∀ b, b ∈ (ks i).blocks → b ∉ (ks n).blocks := fun i hi b hb hb' => h3 b (List.mem_flatMap.2 ⟨i, List.mem_range.2 hi, hb⟩) b hb' rfl
   refine ⟨fun i hi => ?_, fun i j hi hj hij b hb hb' => ?_⟩
   ·by_cases e : i = n
    ·subst e; exact h2
    ·exact i1 i (by omega)
   ·by_cases e : i = n
    ·subst e
     exact h3' j (by omega) b hb' hb
    ·by_cases e2 : j = n
     ·subst e2
      exact h3' i (by omega) b hb hb'
     ·exact i2 i j (by omega) (by omega) hij b hb hb'
theorem zJf {n : Nat} {ks : Nat → K} (h1 : ∀ i, i < n → (ks i).blocks.Nodup) (h2 : ∀ i j, i < n → j < n → i ≠ j → ∀ b, b ∈ (ks i).blocks → b ∉ (ks j).blocks) : ((List.range n).flatMap fun i => (ks i).blocks).Nodup := by
 induction n with
 | zero => simp
 | succ n ih =>
   rw [List.range_succ, List.flatMap_append, List.nodup_append]
   refine ⟨ih (fun i hi => h1 i (by omega)) (fun i j hi hj => h2 i j (by omega) (by omega)), ?_, ?_⟩
   ·simpa using h1 n (by omega)
   ·intro a ha b hb hab
    subst hab
    simp only [List.flatMap_cons, List.flatMap_nil, List.append_nil] at hb
    obtain ⟨i, hi, ha⟩ := List.mem_flatMap.1 ha
    rw [List.mem_range] at hi
    exact h2 i n (by omega) (by omega) (by omega) a ha hb
theorem zDz {b off c n : Nat} {ks : Nat → K} {b' : Nat} : b' ∈ (K.lst b off c n ks).blocks ↔ b' = b ∨ ∃ j, j < n ∧ b' ∈ (ks j).blocks := by
 simp only [K.blocks, List.mem_cons, List.mem_flatMap, List.mem_range]
theorem zGX {CS : List Value} {sz j n : Nat} {arr : Array Value} {O : Nat} (hcut : (arr.toList.drop O).take CS.length = CS) (hl : CS.length = n * sz) (hj : j < n) : (arr.toList.drop (O + j * sz)).take sz = (CS.drop (j * sz)).take sz := by
 have hmj : (j + 1) * sz ≤ n * sz := Nat.mul_le_mul_right _ (by omega)
 rw [Nat.add_mul, Nat.one_mul] at hmj
 rw [← hcut]
 apply List.ext_getElem?
 intro q
 rw [z0Z ((arr.toList.drop O).take CS.length) (j * sz) sz q, z0Z arr.toList (O + j * sz) sz q]
 split
 ·rw [z0Z arr.toList O CS.length (j * sz + q), if_pos (by omega)]; congr 1; omega
 ·rfl
def insK (i m : Nat) (ks ks2 : Nat → K) (j : Nat) : K := if j < i then ks j else if j < i + m then ks2 (j - i) else ks (j - m)
set_option maxHeartbeats 4000000 in
theorem zKb {P : Program} {ρ : Ren} {i0 : TypeInfo} {zv : Value} {g : FuncId} {fn : Func} {e : T} {eb : Nat} (L : InsL P ρ i0 zv) (hg : ρ.f 22 = g) (hf : P.funcs[g]? = some fn) (hn : (fn.name == "runtime.NumGoroutine") = false) (hb : fn.body.isNone = false)
 (hsz : i0.size = e.size) (heb : i0.bytes = eb) (hsd : e.sound = true) (hmk : e.mk = 1) : (zIO g e eb).Ok P := by
 refine ⟨⟨fn, hf, hn, hb⟩, fun ds out hl ho => ?_⟩
 match ds, hl with
 | [a, iv, v], _ =>
   intro w V κs vs hp hglb
   have hc : (0 ≤ iv.i ∧ iv.i ≤ a.l.length) ∧ v.l ≠ [] ∧ appOk eb a.l v.l = true := Decidable.byContradiction fun h => by
    have : insF eb [a, iv, v] = none := if_neg h
    rw [show (zIO g e eb).F = insF eb from rfl, this] at ho
    cases ho
   have ho' : some (D.lst (a.l.take iv.i.toNat ++ v.l ++ a.l.drop iv.i.toNat)) = some out := by
    rw [← ho]; exact (if_pos hc).symm
   cases ho'
   obtain ⟨⟨hi0, hi1⟩, hvn, happ⟩ := hc
   have hlen3 : vs.length = 3 := hp.len
   obtain ⟨ca, hra, hva⟩ : ∃ cs, Rep w.heap V (.lst true e) a (κs 0) cs ∧ vs[0] = z0Q (.lst true e) cs := hp.arg 0 ⟨.own, .lst true e, a⟩ vs[0] rfl (List.getElem?_eq_getElem (by omega))
   obtain ⟨_, ci, ⟨n, rfl, _, rfl, hn1, hn2⟩, hvi⟩ : (T.int .i64).plain = true ∧ ∃ cs, Rep w.heap V (.int .i64) iv (κs 1) cs ∧ vs[1] = z0Q (.int .i64) cs := hp.arg 1 ⟨.vw, .int .i64, iv⟩ vs[1] rfl (List.getElem?_eq_getElem (by omega))
   obtain ⟨cv, hrv, hvv⟩ : ∃ cs, Rep w.heap V (.lst true e) v (κs 2) cs ∧ vs[2] = z0Q (.lst true e) cs := hp.arg 2 ⟨.own, .lst true e, v⟩ vs[2] rfl (List.getElem?_eq_getElem (by omega))
   obtain ⟨xs, rfl, _⟩ := id hra
   obtain ⟨ys, rfl, _⟩ := id hrv
   simp only [D.l_lst, D.i_int] at hi1 hvn happ hi0 ⊢
   obtain ⟨i, rfl⟩ := Int.eq_ofNat_of_zero_le hi0
   have hin : i ≤ xs.length := by omega
   have hvs : vs = [z0Q (.lst true e) ca, .int .i64 (i : Nat), z0Q (.lst true e) cv] := zLl hlen3 (by rw [List.getElem?_eq_getElem (by omega), hva]) (by rw [List.getElem?_eq_getElem (by omega), hvi]; rfl) (by rw [List.getElem?_eq_getElem (by omega), hvv])
   subst hvs
   simp only [appOk, Bool.and_eq_true, decide_eq_true_eq] at happ
   obtain ⟨h63, hbig⟩ := happ
   rw [← heb] at hbig
   rcases zH5 hrv hsd with ⟨rfl, _⟩ | ⟨vb, voff, vc, arr2, ty2, fz2, ks2, VS, rfl, hl2, hh2, hs2, hf2, hk2, hVS, hVl, hel2, hone2⟩
   ·exact absurd rfl hvn
   have hm : 0 < ys.length := List.length_pos_iff.2 hvn
   have hm2 := Nat.mul_le_mul_right e.size hl2.1
   have l3 : (z14 (zIO g e eb).as [.lst xs, .int (i : Nat), .lst ys]).length = 3 := rfl
   have hnd2 := zJZ (hk2 ▸ hp.nd 2 (by rw [l3]; omega))
   obtain ⟨hp2a, hp2b⟩ := zGv hnd2.2
   have hio : ∀ a ∈ z14 (zIO g e eb).as [.lst xs, .int (i : Nat), .lst ys], a.m ≠ .io ∧ a.m ≠ .iop := by
    intro a ha
    simp only [zIO, z14, List.mem_cons, List.not_mem_nil, or_false] at ha
    rcases ha with rfl | rfl | rfl <;> exact ⟨nofun, nofun⟩
   subst hg
   rcases zH5 hra hsd with ⟨rfl, hk, rfl⟩ | ⟨b, off, c, arr, ty, fz, ks, CS, rfl, hlc, hh, hs, hfz, hk, hCS, hCl, hel, hone⟩
   ·have hi00 : i = 0 := by simpa using hin
    subst hi00
    refine (zBb L (w := w) (vs := VS) hm (by simpa using hbig) (by simpa using h63) hh2 (by rw [hsz]; exact hVS) (by rw [hsz]; exact hVl) hone2).mono ?_
    rintro en w' ⟨⟨B, O, C, arr3, ty3, fz3, rfl, hnC, hhB, hfB, hOC, hcut, hB⟩, hold, hsize, hsame⟩
    rw [hsz] at hOC
    refine ⟨_, _, .lst B O C ys.length ks2, fun _ => .leaf, V, _, ⟨rfl, rfl⟩, rfl, ?_⟩
    have hd : (([] : List D).take (((0 : Nat) : Int).toNat) ++ ys ++ ([] : List D).drop (((0 : Nat) : Int).toNat)) = ys := by simp
    rw [hd]
    refine zH0 (b := w.heap.size) hp hhB (by rw [hmk]; exact hfB) hOC ⟨hnC, by simpa using h63⟩ hold hsize hsame (.inr (Nat.le_refl _)) hB (kk := ks2) (fun j x hx => ?_) (fun j hj b' hb' => ⟨?_, 2, by rw [l3]; omega, ?_⟩) hnd2.2 hio
    ·rw [zGX hcut hVl (List.getElem?_eq_some_iff.1 hx).1]
     exact hel2 j x hx
    ·have := (hel2 j _ (List.getElem?_eq_getElem hj)).blocks_lt b' hb'
     omega
    ·rw [hk2]; exact zDz.2 (.inr ⟨j, hj, hb'⟩)
   ·have hnd1 := zJZ (hk ▸ hp.nd 0 (by rw [l3]; omega))
    obtain ⟨hp1a, hp1b⟩ := zGv hnd1.2
    have h0m : ∀ b', b' ∈ (κs 0).blocks ↔ b' = b ∨ ∃ j, j < xs.length ∧ b' ∈ (ks j).blocks := by intro b'; rw [hk]; exact zDz
    have h2m : ∀ b', b' ∈ (κs 2).blocks ↔ b' = vb ∨ ∃ j, j < ys.length ∧ b' ∈ (ks2 j).blocks := by intro b'; rw [hk2]; exact zDz
    have hdj : ∀ b', b' ∈ (κs 0).blocks → b' ∉ (κs 2).blocks := hp.dj 0 2 (by rw [l3]; omega) (by rw [l3]; omega) (by omega)
    have hne : vb ≠ b := fun h => hdj b ((h0m b).2 (.inl rfl)) ((h2m b).2 (.inl h.symm))
    rw [hmk] at hfz
    refine (zJJ L (w := w) (cs := CS) (vs := VS) hlc.1 hin hm hbig h63 hh hfz (by rw [hsz]; exact hs) (by rw [hsz]; exact hCS) (by rw [hsz]; exact hCl) hh2 (by rw [hsz]; omega) (by rw [hsz]; exact hVS) (by rw [hsz]; exact hVl) hne hone hone2).mono ?_
    intro en w' hQ
    rw [hsz] at hQ
    obtain ⟨⟨B, O, C, arr3, ty3, fz3, rfl, hnC, hhB, hfB, hOC, hcut, hB⟩, hold, hsize, hsame⟩ := hQ
    have hll : (xs.take i ++ ys ++ xs.drop i).length = xs.length + ys.length := by
     simp only [List.length_append, List.length_take, List.length_drop]; omega
    have hcl1 : (CS.take (i * e.size)).length = i * e.size := by
     have hie : i * e.size ≤ xs.length * e.size := Nat.mul_le_mul_right _ hin
     rw [List.length_take]; omega
    have hxl : (xs.take i).length = i := by rw [List.length_take]; omega
    have hCl2 : (CS.take (i * e.size) ++ VS ++ CS.drop (i * e.size)).length = (xs.length + ys.length) * e.size := by
     have hie : i * e.size ≤ xs.length * e.size := Nat.mul_le_mul_right _ hin
     simp only [List.length_append, List.length_take, List.length_drop, hCl, hVl]
     rw [Nat.add_mul]; omega
    refine ⟨_, _, .lst B O C (xs.length + ys.length) (insK i ys.length ks ks2), fun _ => .leaf, V, _, ⟨rfl, rfl⟩, rfl, ?_⟩
    have hI : ((i : Int)).toNat = i := rfl
    rw [hI, ← hll]
    rw [← hll] at hnC
    refine zH0 (b := b) hp hhB (by rw [hmk]; exact hfB) hOC ⟨hnC, by rw [hll]; exact h63⟩ hold hsize hsame (.inl ⟨0, by rw [l3]; omega, (h0m b).2 (.inl rfl)⟩) hB (kk := insK i ys.length ks ks2) (fun j x hx => ?_) (fun j hj b' hb' => ?_) (zJf (fun j hj => ?_) (fun j k hj hk' hjk b' hb' hb2 => ?_)) hio
    ·have hj := (List.getElem?_eq_some_iff.1 hx).1
     rw [hll] at hj
     rw [zGX hcut hCl2 hj]
     unfold insK
     by_cases h1 : j < i
     ·rw [if_pos h1]
      have hmj : (j + 1) * e.size ≤ i * e.size := Nat.mul_le_mul_right _ (by omega)
      rw [Nat.add_mul, Nat.one_mul] at hmj
      rw [List.append_assoc, List.getElem?_append_left (by omega), List.getElem?_take_of_lt h1] at hx
      rw [List.append_assoc, z27 (by omega)]
      have := hel j x hx
      have e2 : ((CS.take (i * e.size)).drop (j * e.size)).take e.size = (CS.drop (j * e.size)).take e.size := by
       apply List.ext_getElem?
       intro q
       rw [z0Z, z0Z]
       split
       ·rw [List.getElem?_take_of_lt (by omega)]
       ·rfl
      rw [e2]; exact this
     ·rw [if_neg h1]
      by_cases h2 : j < i + ys.length
      ·rw [if_pos h2]
       have hmj : (j - i + 1) * e.size ≤ ys.length * e.size := Nat.mul_le_mul_right _ (by omega)
       rw [Nat.add_mul, Nat.one_mul] at hmj
       have hsub : j * e.size = i * e.size + (j - i) * e.size := by rw [← Nat.add_mul]; congr 1; omega
       rw [List.append_assoc, List.getElem?_append_right (by omega), hxl, List.getElem?_append_left (by omega)] at hx
       rw [List.append_assoc, z2G (by omega), z27 (by omega), hcl1, show j * e.size - i * e.size = (j - i) * e.size by omega]
       exact hel2 _ x hx
      ·rw [if_neg h2]
       have hsub : j * e.size = i * e.size + ys.length * e.size + (j - i - ys.length) * e.size := by rw [← Nat.add_mul, ← Nat.add_mul]; congr 1; omega
       rw [List.getElem?_append_right (by simp; omega), List.getElem?_drop] at hx
       have hl12 : (CS.take (i * e.size) ++ VS).length = i * e.size + ys.length * e.size := by rw [List.length_append, hcl1, hVl]
       rw [z2G (by omega), hl12, show j * e.size - (i * e.size + ys.length * e.size) = (j - i - ys.length) * e.size by omega, List.drop_drop]
       have e3 : i + (j - (xs.take i ++ ys).length) = j - ys.length := by rw [List.length_append, hxl]; omega
       rw [e3] at hx
       have h3 := hel _ x hx
       rw [show i * e.size + (j - i - ys.length) * e.size = (j - ys.length) * e.size by rw [← Nat.add_mul]; congr 1; omega]
       exact h3
    ·rw [hll] at hj
     unfold insK at hb'
     split at hb'
     ·exact ⟨fun h => hnd1.1 j (by omega) (h ▸ hb'), 0, by rw [l3]; omega, (h0m b').2 (.inr ⟨j, by omega, hb'⟩)⟩
     ·split at hb'
      ·have h2 := (h2m b').2 (.inr ⟨j - i, by omega, hb'⟩)
       exact ⟨fun h => hdj b ((h0m b).2 (.inl rfl)) (h ▸ h2), 2, by rw [l3]; omega, h2⟩
      ·exact ⟨fun h => hnd1.1 (j - ys.length) (by omega) (h ▸ hb'), 0, by rw [l3]; omega, (h0m b').2 (.inr ⟨j - ys.length, by omega, hb'⟩)⟩
    ·rw [hll] at hj
     unfold insK
     split
     ·exact hp1a j (by omega)
     ·split
      ·exact hp2a _ (by omega)
      ·exact hp1a _ (by omega)
    ·rw [hll] at hj hk'
     have m0 : ∀ q, q < xs.length → b' ∈ (ks q).blocks → b' ∈ (κs 0).blocks := fun q hq h => (h0m b').2 (.inr ⟨q, hq, h⟩)
     have m2 : ∀ q, q < ys.length → b' ∈ (ks2 q).blocks → b' ∈ (κs 2).blocks := fun q hq h => (h2m b').2 (.inr ⟨q, hq, h⟩)
     unfold insK at hb' hb2
     split at hb'
     ·split at hb2
      ·exact hp1b j k (by omega) (by omega) hjk b' hb' hb2
      ·split at hb2
       ·exact hdj b' (m0 _ (by omega) hb') (m2 _ (by omega) hb2)
       ·exact hp1b j (k - ys.length) (by omega) (by omega) (by omega) b' hb' hb2
     ·split at hb'
      ·split at hb2
       ·exact hdj b' (m0 _ (by omega) hb2) (m2 _ (by omega) hb')
       ·split at hb2
        ·exact hp2b (j - i) (k - i) (by omega) (by omega) (by omega) b' hb' hb2
        ·exact hdj b' (m0 _ (by omega) hb2) (m2 _ (by omega) hb')
      ·split at hb2
       ·exact hp1b (j - ys.length) k (by omega) (by omega) (by omega) b' hb' hb2
       ·split at hb2
        ·exact hdj b' (m0 _ (by omega) hb') (m2 _ (by omega) hb2)
        ·exact hp1b (j - ys.length) (k - ys.length) (by omega) (by omega) (by omega) b' hb' hb2
set_option maxHeartbeats 4000000 in
theorem zLZ {P : Program} {ρ : Ren} {i0 : TypeInfo} {zv : Value} {g : FuncId} {fn : Func} {e : T} (L : DelL P ρ i0 zv) (hg : ρ.f 45 = g) (hf : P.funcs[g]? = some fn) (hn : (fn.name == "runtime.NumGoroutine") = false) (hb : fn.body.isNone = false)
 (hsz : i0.size = e.size) (hsd : e.sound = true) : (delE g e).Ok P := by
 refine ⟨⟨fn, hf, hn, hb⟩, fun ds out hl ho => ?_⟩
 match ds, hl with
 | [a, iv, jv], _ =>
   intro w V κs vs hp hglb
   have hc : 0 ≤ iv.i ∧ iv.i < jv.i ∧ jv.i ≤ a.l.length := Decidable.byContradiction fun h => by
    have : delF [a, iv, jv] = none := if_neg h
    rw [show (delE g e).F = delF from rfl, this] at ho
    cases ho
   have ho' : some (D.lst (a.l.take iv.i.toNat ++ a.l.drop jv.i.toNat)) = some out := by
    rw [← ho]; exact (if_pos hc).symm
   cases ho'
   obtain ⟨hi0, hij, hjl⟩ := hc
   have hlen3 : vs.length = 3 := hp.len
   obtain ⟨ca, hra, hva⟩ : ∃ cs, Rep w.heap V (.lst true e) a (κs 0) cs ∧ vs[0] = z0Q (.lst true e) cs := hp.arg 0 ⟨.own, .lst true e, a⟩ vs[0] rfl (List.getElem?_eq_getElem (by omega))
   obtain ⟨_, ci, ⟨n, rfl, _, rfl, hn1, hn2⟩, hvi⟩ : (T.int .i64).plain = true ∧ ∃ cs, Rep w.heap V (.int .i64) iv (κs 1) cs ∧ vs[1] = z0Q (.int .i64) cs := hp.arg 1 ⟨.vw, .int .i64, iv⟩ vs[1] rfl (List.getElem?_eq_getElem (by omega))
   obtain ⟨_, cj, ⟨m, rfl, _, rfl, hm1, hm2⟩, hvj⟩ : (T.int .i64).plain = true ∧ ∃ cs, Rep w.heap V (.int .i64) jv (κs 2) cs ∧ vs[2] = z0Q (.int .i64) cs := hp.arg 2 ⟨.vw, .int .i64, jv⟩ vs[2] rfl (List.getElem?_eq_getElem (by omega))
   obtain ⟨xs, rfl, _⟩ := id hra
   simp only [D.l_lst, D.i_int] at hi0 hij hjl ⊢
   obtain ⟨i, rfl⟩ := Int.eq_ofNat_of_zero_le hi0
   obtain ⟨j, rfl⟩ := Int.eq_ofNat_of_zero_le (show 0 ≤ m by omega)
   have hij' : i < j := by omega
   have hjn : j ≤ xs.length := by omega
   have hvs : vs = [z0Q (.lst true e) ca, .int .i64 (i : Nat), .int .i64 (j : Nat)] := zLl hlen3 (by rw [List.getElem?_eq_getElem (by omega), hva]) (by rw [List.getElem?_eq_getElem (by omega), hvi]; rfl) (by rw [List.getElem?_eq_getElem (by omega), hvj]; rfl)
   subst hvs
   have l3 : (z14 (delE g e).as [.lst xs, .int (i : Nat), .int (j : Nat)]).length = 3 := rfl
   have hio : ∀ a ∈ z14 (delE g e).as [.lst xs, .int (i : Nat), .int (j : Nat)], a.m ≠ .io ∧ a.m ≠ .iop := by
    intro a ha
    simp only [delE, z14, List.mem_cons, List.not_mem_nil, or_false] at ha
    rcases ha with rfl | rfl | rfl <;> exact ⟨nofun, nofun⟩
   subst hg
   rcases zH5 hra hsd with ⟨rfl, hk, rfl⟩ | ⟨b, off, c, arr, ty, fz, ks, CS, rfl, hlc, hh, hs, hfz, hk, hCS, hCl, hel, hone⟩
   ·simp at hjn; omega
   ·have hnd1 := zJZ (hk ▸ hp.nd 0 (by rw [l3]; omega))
    obtain ⟨hp1a, hp1b⟩ := zGv hnd1.2
    have h0m : ∀ b', b' ∈ (κs 0).blocks ↔ b' = b ∨ ∃ j, j < xs.length ∧ b' ∈ (ks j).blocks := by intro b'; rw [hk]; exact zDz
    have hsm := z19
    have hl63 := hlc.2
    have hcc := zE0 hh hCS
    have hncs : xs.length * e.size ≤ c * e.size := Nat.mul_le_mul_right _ hlc.1
    have hjs : j * e.size ≤ xs.length * e.size := Nat.mul_le_mul_right _ hjn
    have hijs : i * e.size ≤ j * e.size := Nat.mul_le_mul_right _ (by omega)
    have his : i * e.size + (xs.length - j) * e.size = (i + (xs.length - j)) * e.size := (Nat.add_mul _ _ _).symm
    have hjs2 : j * e.size + (xs.length - j) * e.size = xs.length * e.size := by rw [← Nat.add_mul]; congr 1; omega
    have hzs : (i + (xs.length - j)) * e.size + (j - i) * e.size = xs.length * e.size := by rw [← Nat.add_mul]; congr 1; omega
    refine (zLa L b off xs.length c i j CS w hlc.1 (by rw [← hsm]; exact hl63) hij' hjn (by rw [hsz]; exact hCl) hcc (fun k hk => by rw [hsz] at hk; exact z6N hh hfz.low (by omega)) hone).mono ?_
    rintro en w' ⟨rfl, rfl⟩
    rw [hsz]
    have hdl : (CS.drop (j * e.size)).length = (xs.length - j) * e.size := by rw [List.length_drop, hCl, ← Nat.sub_mul]
    obtain ⟨ZZ, hZ⟩ : ∃ ZZ, ZZ = (Builtin.zeroCells zv.cells (j - i)).toList := ⟨_, rfl⟩
    have hZl : ZZ.length = (j - i) * e.size := by rw [hZ, Array.length_toList, z38, L.ic, hsz]
    rw [← hZ]
    obtain ⟨a1, a2, a3, a4⟩ := z2O b (CS.drop (j * e.size)) (off + i * e.size) w.drew hh
    obtain ⟨b1, b2, b3, b4⟩ := z2O b ZZ (off + (i + (xs.length - j)) * e.size) _ a1
    have hsp : ∀ k, k < xs.length * e.size → (w.drew.cell? ⟨b, off + k, none⟩).isSome = true := fun k hk => z5Q (w := w) hh (by omega)
    have hll : (xs.take i ++ xs.drop j).length = xs.length - (j - i) := by
     simp only [List.length_append, List.length_take, List.length_drop]; omega
    have hl1 : (CS.take (i * e.size)).length = i * e.size := by rw [List.length_take]; omega
    have hCl2 : (CS.take (i * e.size) ++ CS.drop (j * e.size)).length = (xs.length - (j - i)) * e.size := by
     rw [List.length_append, hl1, hdl, his]; congr 1; omega
    have hcut : (((setL (setL arr (off + i * e.size) (CS.drop (j * e.size))) (off + (i + (xs.length - j)) * e.size) ZZ).toList.drop off).take (CS.take (i * e.size) ++ CS.drop (j * e.size)).length) = CS.take (i * e.size) ++ CS.drop (j * e.size) := by
     refine z55 b1 fun p hp' => ?_
     rw [List.length_append, hl1, hdl, his] at hp'
     rw [World.cell?_setCells_out _ _ _ _ _ (fun _ _ => by left; show off + p < off + (i + (xs.length - j)) * e.size; omega)]
     by_cases h1 : p < i * e.size
     ·rw [World.cell?_setCells_out _ _ _ _ _ (fun _ _ => by left; show off + p < off + i * e.size; omega), List.getElem?_append_left (by omega), List.getElem?_take_of_lt h1]
      obtain ⟨v, hv1⟩ : ∃ v, CS[p]? = some v := ⟨_, List.getElem?_eq_getElem (by omega)⟩
      rw [hv1]; exact hcc p v hv1
     ·have := World.cell?_setCells_in b (CS.drop (j * e.size)) (off + i * e.size) w.drew (fun k hk => by rw [Nat.add_assoc]; exact hsp _ (by omega)) (p - i * e.size) (by omega)
      rw [show off + i * e.size + (p - i * e.size) = off + p by omega] at this
      rw [this, List.getElem?_append_right (by omega), hl1, List.getElem?_eq_getElem (by omega)]
    refine ⟨_, _, .lst b off c (xs.length - (j - i)) (fun k => if k < i then ks k else ks (k + (j - i))), fun _ => .leaf, V, _, ⟨rfl, rfl⟩, rfl, ?_⟩
    have hI : ((i : Int)).toNat = i := rfl
    have hJ : ((j : Int)).toNat = j := rfl
    rw [hI, hJ, ← hll]
    refine zH0 (b := b) hp b1 (by rw [z2j, z2j]; exact hfz) (by rw [z2j, z2j]; exact hs) ⟨by rw [hll]; have := hlc.1; omega, by rw [hll]; omega⟩ (fun k hk hkb => (b2 k hkb).trans (a2 k hkb)) (by rw [b3, a3]; exact Nat.le_refl _) ⟨b4.os.trans a4.os, b4.tape.trans a4.tape, b4.output.trans a4.output⟩
     (.inl ⟨0, by rw [l3]; omega, (h0m b).2 (.inl rfl)⟩) (.inl rfl) (fun k x hx => ?_) (fun k hk b' hb' => ?_) (zJf (fun k hk => ?_) (fun k k' hk hk' hkk b' hb' hb2 => ?_)) hio
    ·have hk' := (List.getElem?_eq_some_iff.1 hx).1
     rw [hll] at hk'
     rw [zGX hcut hCl2 hk']
     have hxl : (xs.take i).length = i := by rw [List.length_take]; omega
     by_cases h1 : k < i
     ·rw [if_pos h1]
      have hmj : (k + 1) * e.size ≤ i * e.size := Nat.mul_le_mul_right _ (by omega)
      rw [Nat.add_mul, Nat.one_mul] at hmj
      rw [List.getElem?_append_left (by omega), List.getElem?_take_of_lt h1] at hx
      rw [z27 (by omega)]
      have := hel k x hx
      have e2 : ((CS.take (i * e.size)).drop (k * e.size)).take e.size = (CS.drop (k * e.size)).take e.size := by
       apply List.ext_getElem?
       intro q
       rw [z0Z, z0Z]
       split
       ·rw [List.getElem?_take_of_lt (by omega)]
       ·rfl
      rw [e2]; exact this
     ·rw [if_neg h1]
      have hsub : k * e.size = i * e.size + (k - i) * e.size := by rw [← Nat.add_mul]; congr 1; omega
      rw [List.getElem?_append_right (by omega), hxl, List.getElem?_drop, show j + (k - i) = k + (j - i) by omega] at hx
      rw [z2G (by omega), hl1, List.drop_drop, show j * e.size + (k * e.size - i * e.size) = (k + (j - i)) * e.size by rw [hsub, Nat.add_sub_cancel_left, ← Nat.add_mul]; congr 1; omega]
      exact hel _ x hx
    ·rw [hll] at hk
     split at hb'
     ·exact ⟨fun h => hnd1.1 k (by omega) (h ▸ hb'), 0, by rw [l3]; omega, (h0m b').2 (.inr ⟨k, by omega, hb'⟩)⟩
     ·exact ⟨fun h => hnd1.1 (k + (j - i)) (by omega) (h ▸ hb'), 0, by rw [l3]; omega, (h0m b').2 (.inr ⟨k + (j - i), by omega, hb'⟩)⟩
    ·rw [hll] at hk
     split
     ·exact hp1a k (by omega)
     ·exact hp1a _ (by omega)
    ·rw [hll] at hk hk'
     split at hb'
     ·split at hb2
      ·exact hp1b k k' (by omega) (by omega) hkk b' hb' hb2
      ·exact hp1b k (k' + (j - i)) (by omega) (by omega) (by omega) b' hb' hb2
     ·split at hb2
      ·exact hp1b (k + (j - i)) k' (by omega) (by omega) (by omega) b' hb' hb2
      ·exact hp1b (k + (j - i)) (k' + (j - i)) (by omega) (by omega) (by omega) b' hb' hb2
end Go.Own
