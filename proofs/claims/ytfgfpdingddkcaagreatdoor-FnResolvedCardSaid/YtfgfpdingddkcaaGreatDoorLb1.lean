/- Functions of the library as entries, out of the contracts of the shelf. -/
import Derived.Test.YtfgfpdingddkcaaGreatDoorOwZ12
import Derived.Below
import Derived.Shelf.LaysM
import Derived.Shelf.Strings.Split
import Derived.Shelf.Strings.SlTrimAscii
import Derived.Shelf.Strconv.AtoiAll
import Derived.Shelf.Strconv.Itoa3
import Derived.Shelf.Strings.Cut
import Derived.Shelf.Strings.Search3
import Derived.Lib.AppendIntMem
import Derived.Shelf.Small.Strs
set_option linter.unusedSectionVars false
set_option linter.unusedVariables false
set_option linter.unusedSimpArgs false
namespace Go.Own
variable [Glb]
open Go Go.Proofs Go.RowKit Go.Shelf
theorem post_below {w w' : World} {V : Nat → Prop} {az : List Arg} {κs : Nat → K} {vs : List Value} {res : Res} {outs : List D} {κr : K} {v : Value} (hp : Pre w.heap V az κs vs) (hvw : ∀ a ∈ az, a.m = .vw) (hb : Below w.heap.size w w')
    (hr : ResV w'.heap V κr v res) (hn : κr.blocks.Nodup) (hs : ∀ b ∈ κr.blocks, w.heap.size ≤ b) : Post' w w' V V az κs vs res outs κr (fun _ => .leaf) v := by
  refine ⟨⟨hb.os, hb.tape, hb.output⟩, hb.size, fun b h1 _ => hb.block b h1, fun _ h => h, fun _ h => .inl h, fun b h => Nat.lt_of_lt_of_le (hp.lt b h) hb.size, hr, hn, fun b h => .inr (hs b h), fun b h hv => ?_, fun i a u ha _ hm => ?_, by simp [K.blocks], by simp [K.blocks], by simp [K.blocks], by simp [K.blocks]⟩
  · have := hs b h; have := hp.lt b hv; omega
  · have := hvw a (List.mem_of_getElem? ha)
    rw [this] at hm; rcases hm with h | h <;> cases h
theorem pre_str {h : Heap} {V : Nat → Prop} {az : List Arg} {κs : Nat → K} {vs : List Value} (hp : Pre h V az κs vs) {i : Nat} {d : D} (ha : az[i]? = some ⟨.vw, .str, d⟩) : ∃ s, d = .str s ∧ vs[i]? = some (.string (mkS s)) ∧ s.length ≤ smax := by
  have hi := (List.getElem?_eq_some_iff.1 ha).1
  have hi' : i < vs.length := by rw [hp.len]; exact hi
  obtain ⟨_, cs, ⟨s, rfl, _, rfl, hs⟩, e⟩ := hp.arg i _ vs[i] ha (by simp [hi'])
  exact ⟨s, rfl, by simp [hi', e, toVal, T.agg], hs⟩
theorem list2 {α : Type} {l : List α} {a b : α} (hl : l.length = 2) (h0 : l[0]? = some a) (h1 : l[1]? = some b) : l = [a, b] := by
  match l, hl with
  | [x, y], _ => simp at h0 h1; rw [h0, h1]
theorem leaf_blocks (b off c n : Nat) : (K.lst b off c n fun _ => .leaf).blocks = [b] := by
  have : ∀ l : List Nat, l.flatMap (fun _ => ([] : List Nat)) = [] := by intro l; induction l <;> simp_all
  simp only [K.blocks, this]
theorem splitB_le (sep : ByteArray) (save : Nat) (hs : save ≤ sep.size) : ∀ (k : Nat) (s : ByteArray), ∀ p ∈ Lib.splitB sep save k s, p.size ≤ s.size
  | 0, s, p, hp => by simp only [Lib.splitB, List.mem_singleton] at hp; rw [hp]; exact Nat.le_refl _
  | k + 1, s, p, hp => by
    unfold Lib.splitB at hp
    split at hp
    · simp only [List.mem_singleton] at hp; rw [hp]; exact Nat.le_refl _
    · simp only [List.mem_cons] at hp
      rcases hp with rfl | hp
      · simp only [ByteArray.size_extract]; omega
      · have := splitB_le sep save hs k _ p hp
        simp only [ByteArray.size_extract] at this
        omega
def splitL (s sep : List UInt8) : List (List UInt8) := (Lib.splitB (mkS sep) 0 (Lib.countB (mkS s) (mkS sep)) (mkS s)).map (·.data.toList)
def splitF : List D → Option D
  | [a, b] => if a.s.length < 4294967281 ∧ 1 ≤ b.s.length then some (.lst ((splitL a.s b.s).map .str)) else none
  | _ => none
def splitE (g : FuncId) : Ent := ⟨g, [(.vw, .str), (.vw, .str)], true, .lst true .str, splitF⟩
theorem splitE_ok {P : Program} {ρ : Ren} {g : FuncId} {fn : Func} (L : LaysM.n146 P ρ) (hg : ρ.f 146 = g) (hf : P.funcs[g]? = some fn) (hn : (fn.name == "runtime.NumGoroutine") = false) (hb : fn.body.isNone = false)
    (hm : ∀ h V, Glb.ok h V → ∃ m arr ty fz, h[ρ.g 1]? = some (.cells arr ty fz) ∧ arr[0]? = some (.int .i64 m)) : (splitE g).Ok P := by
  refine ⟨⟨fn, hf, hn, hb⟩, fun ds out hl ho => ?_⟩
  match ds, hl with
  | [a, b], _ =>
    intro w V κs vs hp hglb
    obtain ⟨s, rfl, hv0, hs⟩ := pre_str hp (i := 0) (d := a) rfl
    obtain ⟨sep, rfl, hv1, hsep⟩ := pre_str hp (i := 1) (d := b) rfl
    have hvs := list2 (by rw [hp.len]; rfl) hv0 hv1
    subst hvs
    have hc : s.length < 4294967281 ∧ 1 ≤ sep.length := Decidable.byContradiction fun h => by
      have : splitF [.str s, .str sep] = none := if_neg h
      rw [show (splitE g).F = splitF from rfl, this] at ho
      cases ho
    have ho' : some (D.lst ((splitL s sep).map .str)) = some out := by
      rw [← ho]; exact (if_pos hc).symm
    cases ho'
    obtain ⟨m, arr, ty, fz, h1, h2⟩ := hm _ _ hglb
    have hcell : w.cell? ⟨ρ.g 1, 0, none⟩ = some (.int .i64 m) := by simp [World.cell?, h1, h2]
    subst hg
    refine (Any.strings_Split { L with } L.i9 (mkS s) (mkS sep) m w (by simpa using hc.1) hcell (by simpa using hc.2)).mono ?_
    rintro e w' ⟨rfl, rfl⟩
    have hlen := Lib.splitB_all (mkS sep) (by simpa using hc.2) 0 _ (mkS s) rfl
    have hbl : Below w.heap.size w (w.alloc (.cells ((Lib.splitB (mkS sep) 0 (Lib.countB (mkS s) (mkS sep)) (mkS s)).map Value.string).toArray (ρ.t 9))) := Below.alloc (Below.refl _ _) (Nat.le_refl _) _
    refine ⟨_, _, .lst w.heap.size 0 (Lib.countB (mkS s) (mkS sep) + 1) (Lib.countB (mkS s) (mkS sep) + 1) (fun _ => .leaf), fun _ => .leaf, V, _, ⟨rfl, rfl⟩, rfl, post_below hp (by simp [splitE, mkArgs]) hbl ?_ ?_ ?_⟩
    · refine ⟨[.slice (some ⟨w.heap.size, 0, none⟩) (Lib.countB (mkS s) (mkS sep) + 1) (Lib.countB (mkS s) (mkS sep) + 1)], ?_, rfl⟩
      have hcl := Lib.countB_le (mkS sep) (by simpa using hc.2) (mkS s).size (mkS s) (Nat.le_refl _)
      rw [mkS_size] at hcl
      have hll : ((splitL s sep).map D.str).length = Lib.countB (mkS s) (mkS sep) + 1 := by simp [splitL, hlen]
      have hsm : Lib.countB (mkS s) (mkS sep) + 1 ≤ smax := by rw [smax_eq]; omega
      refine ⟨_, rfl, .inr ⟨w.heap.size, 0, _, ((Lib.splitB (mkS sep) 0 (Lib.countB (mkS s) (mkS sep)) (mkS s)).map Value.string).toArray, ρ.t 9, (0, 0), fun _ => .leaf, by rw [hll], ⟨by rw [hll]; exact Nat.le_refl _, by rw [hll]; exact hsm⟩, by show (w.heap.push _)[w.heap.size]? = _; exact Array.getElem?_push_size, by rw [List.size_toArray, List.length_map, hlen]; simp only [T.size]; omega, ?_, ?_⟩⟩
      · intro i x hx
        simp only [splitL, List.map_map, List.getElem?_map, Option.map_eq_some_iff] at hx
        obtain ⟨p, hp', rfl⟩ := hx
        have hi := (List.getElem?_eq_some_iff.1 hp').1
        have hps : p.data.toList.length ≤ s.length := by
          have := splitB_le (mkS sep) 0 (Nat.zero_le _) _ (mkS s) p (List.mem_of_getElem? hp')
          rw [mkS_size] at this
          rw [Array.length_toList]; exact this
        refine ⟨p.data.toList, rfl, rfl, ?_, Nat.le_trans hps hs⟩
        rw [mkS_list]
        simp only [T.size, Nat.mul_one, Nat.zero_add]
        rw [List.drop_eq_getElem_cons (by simpa using hi)]
        obtain ⟨_, he⟩ := List.getElem?_eq_some_iff.1 hp'
        simp [he]
      · simp only [if_true]
        exact ⟨fun o _ => by simp, by rw [hll]⟩
    · rw [leaf_blocks]; simp
    · rw [leaf_blocks]; simp
def trimF : List D → Option D
  | [a, b] => if b.s.length < 4294967281 ∧ b.s.all (fun c => decide (c.toNat < 128)) = true then some (.str (Lib.trimS a.s b.s)) else none
  | _ => none
def trimE (g : FuncId) : Ent := ⟨g, [(.vw, .str), (.vw, .str)], true, .str, trimF⟩
theorem trimS_le (l cs : List UInt8) : (Lib.trimS l cs).length ≤ l.length := by
  have h1 : (Lib.trimRightS l cs).length ≤ l.length := by
    unfold Lib.trimRightS
    rw [List.length_reverse]
    exact Nat.le_trans (List.dropWhile_sublist _).length_le (by simp)
  exact Nat.le_trans (List.dropWhile_sublist _).length_le h1
theorem resV_str {h : Heap} {V : Nat → Prop} {s : List UInt8} (hs : s.length ≤ smax) : ResV h V .leaf (.string (mkS s)) (.one .str (.str s)) := ⟨_, ⟨s, rfl, rfl, rfl, hs⟩, by simp [toVal, T.agg]⟩
theorem trimE_ok {P : Program} {ρ : Ren} {g : FuncId} {fn : Func} (L : Lays.n160 P ρ) (h116 : (P.info? (ρ.t 116)).map (fun i => (i.zero, i.size)) = some (some (.agg (Array.replicate 256 (.bool false))), 256)) (hg : ρ.f 160 = g) (hf : P.funcs[g]? = some fn) (hn : (fn.name == "runtime.NumGoroutine") = false) (hb : fn.body.isNone = false) : (trimE g).Ok P := by
  refine ⟨⟨fn, hf, hn, hb⟩, fun ds out hl ho => ?_⟩
  match ds, hl with
  | [a, b], _ =>
    intro w V κs vs hp hglb
    obtain ⟨s, rfl, hv0, hs⟩ := pre_str hp (i := 0) (d := a) rfl
    obtain ⟨cs, rfl, hv1, hcs⟩ := pre_str hp (i := 1) (d := b) rfl
    have hvs := list2 (by rw [hp.len]; rfl) hv0 hv1
    subst hvs
    have hc : cs.length < 4294967281 ∧ cs.all (fun c => decide (c.toNat < 128)) = true := Decidable.byContradiction fun h => by
      have : trimF [.str s, .str cs] = none := if_neg h
      rw [show (trimE g).F = trimF from rfl, this] at ho
      cases ho
    have ho' : some (D.str (Lib.trimS s cs)) = some out := by
      rw [← ho]; exact (if_pos hc).symm
    cases ho'
    subst hg
    refine (Any.strings_Trim_laid L h116 (mkS s) (mkS cs) w (by simpa [smax] using hs) (by simpa using hc.1) (ascii_of_all (by simpa using hc.2))).mono ?_
    rintro e w' ⟨rfl, hbl⟩
    rw [mkS_data, mkS_data]
    exact ⟨_, _, .leaf, fun _ => .leaf, V, _, ⟨rfl, rfl⟩, rfl, post_below hp (by simp [trimE, mkArgs]) hbl (resV_str (Nat.le_trans (trimS_le _ _) hs)) (by simp [K.blocks]) (by simp [K.blocks])⟩
end Go.Own
namespace Go.Own
variable [Glb]
open Go Go.Proofs Go.RowKit Go.Shelf
theorem pre_int {h : Heap} {V : Nat → Prop} {az : List Arg} {κs : Nat → K} {vs : List Value} (hp : Pre h V az κs vs) {i : Nat} {k : IntKind} {d : D} (ha : az[i]? = some ⟨.vw, .int k, d⟩) : ∃ n, d = .int n ∧ vs[i]? = some (.int k n) ∧ k.min ≤ n ∧ n ≤ k.max := by
  have hi := (List.getElem?_eq_some_iff.1 ha).1
  have hi' : i < vs.length := by rw [hp.len]; exact hi
  obtain ⟨_, cs, ⟨n, rfl, _, rfl, hn⟩, e⟩ := hp.arg i _ vs[i] ha (by simp [hi'])
  exact ⟨n, rfl, by simp [hi', e, toVal, T.agg], hn⟩
theorem list1 {α : Type} {l : List α} {a : α} (hl : l.length = 1) (h0 : l[0]? = some a) : l = [a] := by
  match l, hl with
  | [x], _ => simp at h0; rw [h0]
theorem resV_bool {h : Heap} {V : Nat → Prop} (b : Bool) : ResV h V .leaf (.bool b) (.one .bool (.bool b)) := ⟨_, ⟨b, rfl, rfl, rfl⟩, by simp [toVal, T.agg]⟩
def containsF : List D → Option D
  | [a, b] => if a.s.length < 4294967281 then some (.bool (Lib.contains a.s b.s)) else none
  | _ => none
def containsE (g : FuncId) : Ent := ⟨g, [(.vw, .str), (.vw, .str)], true, .bool, containsF⟩
theorem containsE_ok {P : Program} {ρ : Ren} {g : FuncId} {fn : Func} (L : Lays.n144 P ρ) (hg : ρ.f 144 = g) (hf : P.funcs[g]? = some fn) (hn : (fn.name == "runtime.NumGoroutine") = false) (hb : fn.body.isNone = false)
    (hm : ∀ h V, Glb.ok h V → ∃ m arr ty fz, h[ρ.g 1]? = some (.cells arr ty fz) ∧ arr[0]? = some (.int .i64 m)) : (containsE g).Ok P := by
  refine ⟨⟨fn, hf, hn, hb⟩, fun ds out hl ho => ?_⟩
  match ds, hl with
  | [a, b], _ =>
    intro w V κs vs hp hglb
    obtain ⟨s, rfl, hv0, hs⟩ := pre_str hp (i := 0) (d := a) rfl
    obtain ⟨sep, rfl, hv1, hsep⟩ := pre_str hp (i := 1) (d := b) rfl
    have hvs := list2 (by rw [hp.len]; rfl) hv0 hv1
    subst hvs
    have hc : s.length < 4294967281 := Decidable.byContradiction fun h => by
      have : containsF [.str s, .str sep] = none := if_neg h
      rw [show (containsE g).F = containsF from rfl, this] at ho
      cases ho
    have ho' : some (D.bool (Lib.contains s sep)) = some out := by
      rw [← ho]; exact (if_pos hc).symm
    cases ho'
    obtain ⟨m, arr, ty, fz, h1, h2⟩ := hm _ _ hglb
    have hcell : w.cell? ⟨ρ.g 1, 0, none⟩ = some (.int .i64 m) := by simp [World.cell?, h1, h2]
    subst hg
    refine (Any.strings_Contains L (mkS s) (mkS sep) m w (by simpa using hc) hcell).mono ?_
    rintro e w' ⟨rfl, rfl⟩
    rw [mkS_data, mkS_data]
    exact ⟨_, _, .leaf, fun _ => .leaf, V, _, ⟨rfl, rfl⟩, rfl, post_below hp (by simp [containsE, mkArgs]) (Below.refl _ _) (resV_bool _) (by simp [K.blocks]) (by simp [K.blocks])⟩
def itoaF : List D → Option D
  | [a] => if (Lib.itoa a.i).length ≤ smax then some (.str (Lib.itoa a.i)) else none
  | _ => none
def itoaE (g : FuncId) : Ent := ⟨g, [(.vw, .int .i64)], true, .str, itoaF⟩
theorem itoaE_ok {P : Program} {ρ : Ren} {g t : FuncId} {fn : Func} (L : LaysM.n171 P ρ) (hg : ρ.f 171 = g) (hf : P.funcs[g]? = some fn) (hn : (fn.name == "runtime.NumGoroutine") = false) (hb : fn.body.isNone = false)
    (hgt : P.globalNamed "internal/strconv.uint64pow10" = some t) (htab : ∀ h V, Glb.ok h V → ∃ ty fz, h[t]? = some (.cells (Lib.pow10Tab.map fun z => Value.int .u64 z).toArray ty fz)) : (itoaE g).Ok P := by
  refine ⟨⟨fn, hf, hn, hb⟩, fun ds out hl ho => ?_⟩
  match ds, hl with
  | [a], _ =>
    intro w V κs vs hp hglb
    obtain ⟨n, rfl, hv0, h0, h1⟩ := pre_int hp (i := 0) (d := a) rfl
    have hvs := list1 (by rw [hp.len]; rfl) hv0
    subst hvs
    have hc : (Lib.itoa n).length ≤ smax := Decidable.byContradiction fun h => by
      have : itoaF [.int n] = none := if_neg h
      rw [show (itoaE g).F = itoaF from rfl, this] at ho
      cases ho
    have ho' : some (D.str (Lib.itoa n)) = some out := by
      rw [← ho]; exact (if_pos hc).symm
    cases ho'
    obtain ⟨ty, fz, ht⟩ := htab _ _ hglb
    have hT : Lib.TabIs P w "internal/strconv.uint64pow10" .u64 Lib.pow10Tab := by
      unfold Lib.TabIs World.var?
      rw [hgt]
      simp [ht]
    subst hg
    refine (Any.strconv_Itoa L n h0 h1 w hT).mono ?_
    rintro e w' ⟨rfl, k, os, rfl⟩
    exact ⟨_, _, .leaf, fun _ => .leaf, V, _, ⟨rfl, rfl⟩, rfl, post_below hp (by simp [itoaE, mkArgs]) (Lib.below_grow _ _ (Nat.le_refl _) k os) (resV_str hc) (by simp [K.blocks]) (by simp [K.blocks])⟩
def cutD (c : List UInt8 × List UInt8 × Bool) : D := .pair (.str c.1) (.pair (.str c.2.1) (.pair (.bool c.2.2) .unit))
def cutF : List D → Option D
  | [a, b] => if a.s.length < 4294967281 then some (cutD (Lib.cut a.s b.s)) else none
  | _ => none
def cutE (g : FuncId) : Ent := ⟨g, [(.vw, .str), (.vw, .str)], false, .pair .str (.pair .str (.pair .bool .unit)), cutF⟩
theorem cut_le (s sep : List UInt8) : (Lib.cut s sep).1.length ≤ s.length ∧ (Lib.cut s sep).2.1.length ≤ s.length := by
  unfold Lib.cut
  split
  · simp; omega
  · simp
theorem resV_cut {h : Heap} {V : Nat → Prop} {a b : List UInt8} {f : Bool} (ha : a.length ≤ smax) (hb : b.length ≤ smax) :
    ResV h V (.pair .leaf (.pair .leaf (.pair .leaf .leaf))) (.tuple #[.string (mkS a), .string (mkS b), .bool f]) (.many (.pair .str (.pair .str (.pair .bool .unit))) (cutD (a, b, f))) := by
  refine ⟨[.string (mkS a), .string (mkS b), .bool f], ⟨_, _, _, _, [.string (mkS a)], [.string (mkS b), .bool f], rfl, rfl, rfl, ⟨a, rfl, rfl, rfl, ha⟩, ⟨_, _, _, _, [.string (mkS b)], [.bool f], rfl, rfl, rfl, ⟨b, rfl, rfl, rfl, hb⟩, ⟨_, _, _, _, [.bool f], [], rfl, rfl, rfl, ⟨f, rfl, rfl, rfl⟩, ⟨rfl, rfl, rfl⟩⟩⟩⟩, _, rfl, fun j hj => ?_⟩
  match j, hj with
  | 0, _ => rfl
  | 1, _ => rfl
  | 2, _ => rfl
theorem cutE_ok {P : Program} {ρ : Ren} {g : FuncId} {fn : Func} (L : Lays.n145 P ρ) (hg : ρ.f 145 = g) (hf : P.funcs[g]? = some fn) (hn : (fn.name == "runtime.NumGoroutine") = false) (hb : fn.body.isNone = false)
    (hm : ∀ h V, Glb.ok h V → ∃ m arr ty fz, h[ρ.g 1]? = some (.cells arr ty fz) ∧ arr[0]? = some (.int .i64 m)) : (cutE g).Ok P := by
  refine ⟨⟨fn, hf, hn, hb⟩, fun ds out hl ho => ?_⟩
  match ds, hl with
  | [a, b], _ =>
    intro w V κs vs hp hglb
    obtain ⟨s, rfl, hv0, hs⟩ := pre_str hp (i := 0) (d := a) rfl
    obtain ⟨sep, rfl, hv1, hsep⟩ := pre_str hp (i := 1) (d := b) rfl
    have hvs := list2 (by rw [hp.len]; rfl) hv0 hv1
    subst hvs
    have hc : s.length < 4294967281 := Decidable.byContradiction fun h => by
      have : cutF [.str s, .str sep] = none := if_neg h
      rw [show (cutE g).F = cutF from rfl, this] at ho
      cases ho
    have ho' : some (cutD (Lib.cut s sep)) = some out := by
      rw [← ho]; exact (if_pos hc).symm
    cases ho'
    obtain ⟨m, arr, ty, fz, h1, h2⟩ := hm _ _ hglb
    have hcell : w.cell? ⟨ρ.g 1, 0, none⟩ = some (.int .i64 m) := by simp [World.cell?, h1, h2]
    subst hg
    refine (Any.strings_Cut L (mkS s) (mkS sep) m w (by simpa using hc) hcell).mono ?_
    rintro e w' ⟨rfl, n, rfl⟩
    rw [mkS_data, mkS_data]
    have hle := cut_le s sep
    exact ⟨_, _, .pair .leaf (.pair .leaf (.pair .leaf .leaf)), fun _ => .leaf, V, _, ⟨rfl, rfl⟩, rfl, post_below hp (by simp [cutE, mkArgs]) ⟨rfl, rfl, rfl, Nat.le_refl _, fun _ _ => rfl⟩ (resV_cut (Nat.le_trans hle.1 hs) (Nat.le_trans hle.2 hs)) (by simp [K.blocks]) (by simp [K.blocks])⟩
def atoiD (s : List UInt8) : D := match Lib.atoiAll s with
  | .ok v => .pair (.int v) (.pair (.bool false) .unit)
  | .range => .pair (.int (Lib.atoiSat s)) (.pair (.bool true) .unit)
  | _ => .pair (.int 0) (.pair (.bool true) .unit)
def atoiF : List D → Option D
  | [a] => if a.s.length ≤ 281474976710656 then some (atoiD a.s) else none
  | _ => none
def atoiE (g : FuncId) : Ent := ⟨g, [(.vw, .str)], false, .pair (.int .i64) (.pair .err .unit), atoiF⟩
theorem resV_num {h : Heap} {V : Nat → Prop} {n : Int} {b : Bool} {v : Value} (h0 : -9223372036854775808 ≤ n) (h1 : n ≤ 9223372036854775807) (hv : ErrV b v) :
    ResV h V (.pair .leaf (.pair .leaf .leaf)) (.tuple #[.int .i64 n, v]) (.many (.pair (.int .i64) (.pair .err .unit)) (.pair (.int n) (.pair (.bool b) .unit))) := by
  refine ⟨[.int .i64 n, v], ⟨_, _, _, _, [.int .i64 n], [v], rfl, rfl, rfl, ⟨n, rfl, rfl, rfl, h0, h1⟩, ⟨_, _, _, _, [v], [], rfl, rfl, rfl, ⟨b, rfl, rfl, v, rfl, hv⟩, ⟨rfl, rfl, rfl⟩⟩⟩, _, rfl, fun j hj => ?_⟩
  match j, hj with
  | 0, _ => rfl
  | 1, _ => rfl
theorem atoiE_ok {P : Program} {ρ : Ren} {g : FuncId} {fn : Func} (L : LaysC.n172 P ρ) (hg : ρ.f 172 = g) (hf : P.funcs[g]? = some fn) (hn : (fn.name == "runtime.NumGoroutine") = false) (hb : fn.body.isNone = false)
    (hS : ∀ h V, Glb.ok h V → ∃ ev arr ty fz, h[ρ.g 15]? = some (.cells arr ty fz) ∧ arr[0]? = some ev ∧ (ev = .nilIface ∨ ∃ te pe, ev = .iface te pe))
    (hR : ∀ h V, Glb.ok h V → ∃ ev arr ty fz, h[ρ.g 16]? = some (.cells arr ty fz) ∧ arr[0]? = some ev ∧ (ev = .nilIface ∨ ∃ te pe, ev = .iface te pe)) : (atoiE g).Ok P := by
  refine ⟨⟨fn, hf, hn, hb⟩, fun ds out hl ho => ?_⟩
  match ds, hl with
  | [a], _ =>
    intro w V κs vs hp hglb
    obtain ⟨s, rfl, hv0, hs⟩ := pre_str hp (i := 0) (d := a) rfl
    have hvs := list1 (by rw [hp.len]; rfl) hv0
    subst hvs
    have hc : s.length ≤ 281474976710656 := Decidable.byContradiction fun h => by
      have : atoiF [.str s] = none := if_neg h
      rw [show (atoiE g).F = atoiF from rfl, this] at ho
      cases ho
    have ho' : some (atoiD s) = some out := by
      rw [← ho]; exact (if_pos hc).symm
    cases ho'
    obtain ⟨ev, arr, ty, fz, h1, h2, h3⟩ := hS _ _ hglb
    have hcell : w.cell? ⟨ρ.g 15, 0, none⟩ = some ev := by simp [World.cell?, h1, h2]
    obtain ⟨ev2, arr2, ty2, fz2, h4, h5, h6⟩ := hR _ _ hglb
    have hcell2 : w.cell? ⟨ρ.g 16, 0, none⟩ = some ev2 := by simp [World.cell?, h4, h5]
    subst hg
    cases hq : Lib.atoiAll s with
    | ok v =>
      have hb := Lib.atoiAll_bounds hq
      refine (Any.strconv_Atoi_ok L (mkS s) (by rw [mkS_size]; omega) v (by rw [mkS_data]; exact hq) w).mono ?_
      rintro e w' ⟨rfl, hw⟩
      have hbl : Below w.heap.size w w' := by
        rcases hw with rfl | ⟨t, rfl⟩
        · exact Below.refl _ _
        · exact Lib.bytesWorld_below _ _ _
      have hd : atoiD s = .pair (.int v) (.pair (.bool false) .unit) := by unfold atoiD; rw [hq]
      rw [hd]
      exact ⟨_, _, .pair .leaf (.pair .leaf .leaf), fun _ => .leaf, V, _, ⟨rfl, rfl⟩, rfl, post_below hp (by simp [atoiE, mkArgs]) hbl (resV_num hb.1 hb.2 (.inl ⟨rfl, rfl⟩)) (by simp [K.blocks]) (by simp [K.blocks])⟩
    | range =>
      have hb := Lib.atoiSat_bounds s
      refine (Any.strconv_Atoi_range L (mkS s) (by rw [mkS_size]; omega) (by rw [mkS_data]; exact hq) ev2 w hcell2 h6).mono ?_
      rintro e w' ⟨N, rfl, _, _, hbl⟩
      have hd : atoiD s = .pair (.int (Lib.atoiSat s)) (.pair (.bool true) .unit) := by unfold atoiD; rw [hq]
      rw [hd, mkS_data]
      exact ⟨_, _, .pair .leaf (.pair .leaf .leaf), fun _ => .leaf, V, _, ⟨rfl, rfl⟩, rfl, post_below hp (by simp [atoiE, mkArgs]) hbl (resV_num hb.1 hb.2 (.inr ⟨rfl, _, _, rfl⟩)) (by simp [K.blocks]) (by simp [K.blocks])⟩
    | _ =>
      refine (Any.strconv_Atoi_syntax L (mkS s) (by rw [mkS_size]; omega) (by rw [mkS_data]; exact hq) ev w hcell h3).mono ?_
      rintro e w' ⟨N, rfl, _, _, hbl⟩
      have hd : atoiD s = .pair (.int 0) (.pair (.bool true) .unit) := by unfold atoiD; rw [hq]
      rw [hd]
      exact ⟨_, _, .pair .leaf (.pair .leaf .leaf), fun _ => .leaf, V, _, ⟨rfl, rfl⟩, rfl, post_below hp (by simp [atoiE, mkArgs]) hbl (resV_num (by omega) (by omega) (.inr ⟨rfl, _, _, rfl⟩)) (by simp [K.blocks]) (by simp [K.blocks])⟩
end Go.Own
namespace Go.Own
variable [Glb]
open Go Go.Proofs Go.RowKit Go.Shelf
theorem resV_int {h : Heap} {V : Nat → Prop} {n : Int} (h0 : -9223372036854775808 ≤ n) (h1 : n ≤ 9223372036854775807) : ResV h V .leaf (.int .i64 n) (.one (.int .i64) (.int n)) := ⟨_, ⟨n, rfl, rfl, rfl, h0, h1⟩, by simp [toVal, T.agg]⟩
theorem compareBytes_bound : ∀ a b : List UInt8, -1 ≤ Lib.compareBytes a b ∧ Lib.compareBytes a b ≤ 1
  | [], [] => by simp [Lib.compareBytes]
  | [], _ :: _ => by simp [Lib.compareBytes]
  | _ :: _, [] => by simp [Lib.compareBytes]
  | a :: l, b :: m => by
    unfold Lib.compareBytes
    split
    · decide
    · split
      · decide
      · exact compareBytes_bound l m
def compareF : List D → Option D
  | [a, b] => some (.int (Lib.compareBytes a.s b.s))
  | _ => none
def compareE (g : FuncId) : Ent := ⟨g, [(.vw, .str), (.vw, .str)], true, .int .i64, compareF⟩
theorem compareE_ok {P : Program} {ρ : Ren} {g : FuncId} {fn : Func} (L : Lays.n106 P ρ) (hg : ρ.f 106 = g) (hf : P.funcs[g]? = some fn) (hn : (fn.name == "runtime.NumGoroutine") = false) (hb : fn.body.isNone = false) : (compareE g).Ok P := by
  refine ⟨⟨fn, hf, hn, hb⟩, fun ds out hl ho => ?_⟩
  match ds, hl with
  | [a, b], _ =>
    intro w V κs vs hp hglb
    obtain ⟨s, rfl, hv0, hs⟩ := pre_str hp (i := 0) (d := a) rfl
    obtain ⟨t, rfl, hv1, ht⟩ := pre_str hp (i := 1) (d := b) rfl
    have hvs := list2 (by rw [hp.len]; rfl) hv0 hv1
    subst hvs
    have ho' : some (D.int (Lib.compareBytes s t)) = some out := ho
    cases ho'
    subst hg
    have hbd := compareBytes_bound s t
    refine (Any.strings_Compare L (mkS s) (mkS t) w).mono ?_
    rintro e w' ⟨rfl, rfl⟩
    rw [mkS_data, mkS_data]
    exact ⟨_, _, .leaf, fun _ => .leaf, V, _, ⟨rfl, rfl⟩, rfl, post_below hp (by simp [compareE, mkArgs]) (Below.refl _ _) (resV_int (by omega) (by omega)) (by simp [K.blocks]) (by simp [K.blocks])⟩
end Go.Own
