/- Functions of the library as entries, out of the contracts of the shelf. -/
import Derived.Test.YtbanjbafckgghaaDoorOwZ12
import Derived.Below
import Derived.Shelf.LaysM
import Derived.Shelf.Strings.Split
import Derived.Shelf.Strings.SlTrimAscii
set_option linter.unusedSectionVars false
set_option linter.unusedVariables false
set_option linter.unusedSimpArgs false
/-! Functions of the library, by the shelf's contracts, az entries: strings.Split, strings.Trim. -/
namespace Go.Own
variable [Glb]
open Go Go.Proofs Go.RowKit Go.Shelf

/-- what a function gives that reads its arguments alone -/
theorem post_below {w w' : World} {V : Nat → Prop} {az : List Arg} {κs : Nat → K} {vs : List Value} {res : Res} {outs : List D} {κr : K} {v : Value} (hp : Pre w.heap V az κs vs) (hvw : ∀ a ∈ az, a.m = .vw) (hb : Below w.heap.size w w')
    (hr : ResV w'.heap V κr v res) (hn : κr.blocks.Nodup) (hs : ∀ b ∈ κr.blocks, w.heap.size ≤ b) : Post' w w' V V az κs vs res outs κr (fun _ => .leaf) v := by
  refine ⟨⟨hb.os, hb.tape, hb.output⟩, hb.size, fun b h1 _ => hb.block b h1, fun _ h => h, fun _ h => .inl h, fun b h => Nat.lt_of_lt_of_le (hp.lt b h) hb.size, hr, hn, fun b h => .inr (hs b h), fun b h hv => ?_, fun i a u ha _ hm => ?_, by simp [K.blocks], by simp [K.blocks], by simp [K.blocks], by simp [K.blocks]⟩
  · have := hs b h; have := hp.lt b hv; omega
  · have := hvw a (List.mem_of_getElem? ha)
    rw [this] at hm; rcases hm with h | h <;> cases h

theorem pre_str {h : Heap} {V : Nat → Prop} {az : List Arg} {κs : Nat → K} {vs : List Value} (hp : Pre h V az κs vs) {i : Nat} {d : D} (ha : az[i]? = some ⟨.vw, .str, d⟩) : ∃ s, d = .str s ∧ vs[i]? = some (.string (mkS s)) ∧ s.length ≤ smax := by
  have hi := (List.getElem?_eq_some_iff.1 ha).1
  have hi' : i < vs.length := by rw [hp.len]; exact hi
  obtain ⟨_, cs, ⟨s, rfl, _, rfl, hs⟩, e⟩ := hp.arg i _ vs[i] ha (by simp [hi'])
  exact ⟨s, rfl, by simp [hi', e, toVal, T.agg], hs⟩

theorem list2 {α : Type} {l : List α} {a b : α} (hl : l.length = 2) (h0 : l[0]? = some a) (h1 : l[1]? = some b) : l = [a, b] := by
  match l, hl with
  | [x, y], _ => simp at h0 h1; rw [h0, h1]

theorem leaf_blocks (b off c n : Nat) : (K.lst b off c n fun _ => .leaf).blocks = [b] := by
  have : ∀ l : List Nat, l.flatMap (fun _ => ([] : List Nat)) = [] := by intro l; induction l <;> simp_all
  simp only [K.blocks, this]

theorem splitB_le (sep : ByteArray) (save : Nat) (hs : save ≤ sep.size) : ∀ (k : Nat) (s : ByteArray), ∀ p ∈ Lib.splitB sep save k s, p.size ≤ s.size
  | 0, s, p, hp => by simp only [Lib.splitB, List.mem_singleton] at hp; rw [hp]; exact Nat.le_refl _
  | k + 1, s, p, hp => by
    unfold Lib.splitB at hp
    split at hp
    · simp only [List.mem_singleton] at hp; rw [hp]; exact Nat.le_refl _
    · simp only [List.mem_cons] at hp
      rcases hp with rfl | hp
      · simp only [ByteArray.size_extract]; omega
      · have := splitB_le sep save hs k _ p hp
        simp only [ByteArray.size_extract] at this
        omega

/-- the pieces of a text -/
def splitL (s sep : List UInt8) : List (List UInt8) := (Lib.splitB (mkS sep) 0 (Lib.countB (mkS s) (mkS sep)) (mkS s)).map (·.data.toList)

def splitF : List D → Option D
  | [a, b] => if a.s.length < 4294967281 ∧ 1 ≤ b.s.length then some (.lst ((splitL a.s b.s).map .str)) else none
  | _ => none
def splitE (g : FuncId) : Ent := ⟨g, [(.vw, .str), (.vw, .str)], true, .lst true .str, splitF⟩

theorem splitE_ok {P : Program} {ρ : Ren} {g : FuncId} {fn : Func} (L : LaysM.n146 P ρ) (hg : ρ.f 146 = g) (hf : P.funcs[g]? = some fn) (hn : (fn.name == "runtime.NumGoroutine") = false) (hb : fn.body.isNone = false)
    (hm : ∀ h V, Glb.ok h V → ∃ m arr ty fz, h[ρ.g 1]? = some (.cells arr ty fz) ∧ arr[0]? = some (.int .i64 m)) : (splitE g).Ok P := by
  refine ⟨⟨fn, hf, hn, hb⟩, fun ds out hl ho => ?_⟩
  match ds, hl with
  | [a, b], _ =>
    intro w V κs vs hp hglb
    obtain ⟨s, rfl, hv0, hs⟩ := pre_str hp (i := 0) (d := a) rfl
    obtain ⟨sep, rfl, hv1, hsep⟩ := pre_str hp (i := 1) (d := b) rfl
    have hvs := list2 (by rw [hp.len]; rfl) hv0 hv1
    subst hvs
    have hc : s.length < 4294967281 ∧ 1 ≤ sep.length := Decidable.byContradiction fun h => by
      have : splitF [.str s, .str sep] = none := if_neg h
      rw [show (splitE g).F = splitF from rfl, this] at ho
      cases ho
    have ho' : some (D.lst ((splitL s sep).map .str)) = some out := by
      rw [← ho]; exact (if_pos hc).symm
    cases ho'
    obtain ⟨m, arr, ty, fz, h1, h2⟩ := hm _ _ hglb
    have hcell : w.cell? ⟨ρ.g 1, 0, none⟩ = some (.int .i64 m) := by simp [World.cell?, h1, h2]
    subst hg
    refine (Any.strings_Split { L with } L.i9 (mkS s) (mkS sep) m w (by simpa using hc.1) hcell (by simpa using hc.2)).mono ?_
    rintro e w' ⟨rfl, rfl⟩
    have hlen := Lib.splitB_all (mkS sep) (by simpa using hc.2) 0 _ (mkS s) rfl
    have hbl : Below w.heap.size w (w.alloc (.cells ((Lib.splitB (mkS sep) 0 (Lib.countB (mkS s) (mkS sep)) (mkS s)).map Value.string).toArray (ρ.t 9))) := Below.alloc (Below.refl _ _) (Nat.le_refl _) _
    refine ⟨_, _, .lst w.heap.size 0 (Lib.countB (mkS s) (mkS sep) + 1) (Lib.countB (mkS s) (mkS sep) + 1) (fun _ => .leaf), fun _ => .leaf, V, _, ⟨rfl, rfl⟩, rfl, post_below hp (by simp [splitE, mkArgs]) hbl ?_ ?_ ?_⟩
    · refine ⟨[.slice (some ⟨w.heap.size, 0, none⟩) (Lib.countB (mkS s) (mkS sep) + 1) (Lib.countB (mkS s) (mkS sep) + 1)], ?_, rfl⟩
      have hcl := Lib.countB_le (mkS sep) (by simpa using hc.2) (mkS s).size (mkS s) (Nat.le_refl _)
      rw [mkS_size] at hcl
      have hll : ((splitL s sep).map D.str).length = Lib.countB (mkS s) (mkS sep) + 1 := by simp [splitL, hlen]
      have hsm : Lib.countB (mkS s) (mkS sep) + 1 ≤ smax := by rw [smax_eq]; omega
      refine ⟨_, rfl, .inr ⟨w.heap.size, 0, _, ((Lib.splitB (mkS sep) 0 (Lib.countB (mkS s) (mkS sep)) (mkS s)).map Value.string).toArray, ρ.t 9, (0, 0), fun _ => .leaf, by rw [hll], ⟨by rw [hll]; exact Nat.le_refl _, by rw [hll]; exact hsm⟩, by show (w.heap.push _)[w.heap.size]? = _; exact Array.getElem?_push_size, by rw [List.size_toArray, List.length_map, hlen]; simp only [T.size]; omega, ?_, ?_⟩⟩
      · intro i x hx
        simp only [splitL, List.map_map, List.getElem?_map, Option.map_eq_some_iff] at hx
        obtain ⟨p, hp', rfl⟩ := hx
        have hi := (List.getElem?_eq_some_iff.1 hp').1
        have hps : p.data.toList.length ≤ s.length := by
          have := splitB_le (mkS sep) 0 (Nat.zero_le _) _ (mkS s) p (List.mem_of_getElem? hp')
          rw [mkS_size] at this
          rw [Array.length_toList]; exact this
        refine ⟨p.data.toList, rfl, rfl, ?_, Nat.le_trans hps hs⟩
        rw [mkS_list]
        simp only [T.size, Nat.mul_one, Nat.zero_add]
        rw [List.drop_eq_getElem_cons (by simpa using hi)]
        obtain ⟨_, he⟩ := List.getElem?_eq_some_iff.1 hp'
        simp [he]
      · simp only [if_true]
        exact ⟨fun o _ => by simp, by rw [hll]⟩
    · rw [leaf_blocks]; simp
    · rw [leaf_blocks]; simp

/-- what is left of a text without such bytes at its ends -/
def trimF : List D → Option D
  | [a, b] => if b.s.length < 4294967281 ∧ b.s.all (fun c => decide (c.toNat < 128)) = true then some (.str (Lib.trimS a.s b.s)) else none
  | _ => none
def trimE (g : FuncId) : Ent := ⟨g, [(.vw, .str), (.vw, .str)], true, .str, trimF⟩

theorem trimS_le (l cs : List UInt8) : (Lib.trimS l cs).length ≤ l.length := by
  have h1 : (Lib.trimRightS l cs).length ≤ l.length := by
    unfold Lib.trimRightS
    rw [List.length_reverse]
    exact Nat.le_trans (List.dropWhile_sublist _).length_le (by simp)
  exact Nat.le_trans (List.dropWhile_sublist _).length_le h1

theorem resV_str {h : Heap} {V : Nat → Prop} {s : List UInt8} (hs : s.length ≤ smax) : ResV h V .leaf (.string (mkS s)) (.one .str (.str s)) := ⟨_, ⟨s, rfl, rfl, rfl, hs⟩, by simp [toVal, T.agg]⟩

theorem trimE_ok {P : Program} {ρ : Ren} {g : FuncId} {fn : Func} (L : Lays.n160 P ρ) (h116 : (P.info? (ρ.t 116)).map (fun i => (i.zero, i.size)) = some (some (.agg (Array.replicate 256 (.bool false))), 256)) (hg : ρ.f 160 = g) (hf : P.funcs[g]? = some fn) (hn : (fn.name == "runtime.NumGoroutine") = false) (hb : fn.body.isNone = false) : (trimE g).Ok P := by
  refine ⟨⟨fn, hf, hn, hb⟩, fun ds out hl ho => ?_⟩
  match ds, hl with
  | [a, b], _ =>
    intro w V κs vs hp hglb
    obtain ⟨s, rfl, hv0, hs⟩ := pre_str hp (i := 0) (d := a) rfl
    obtain ⟨cs, rfl, hv1, hcs⟩ := pre_str hp (i := 1) (d := b) rfl
    have hvs := list2 (by rw [hp.len]; rfl) hv0 hv1
    subst hvs
    have hc : cs.length < 4294967281 ∧ cs.all (fun c => decide (c.toNat < 128)) = true := Decidable.byContradiction fun h => by
      have : trimF [.str s, .str cs] = none := if_neg h
      rw [show (trimE g).F = trimF from rfl, this] at ho
      cases ho
    have ho' : some (D.str (Lib.trimS s cs)) = some out := by
      rw [← ho]; exact (if_pos hc).symm
    cases ho'
    subst hg
    refine (Any.strings_Trim_laid L h116 (mkS s) (mkS cs) w (by simpa [smax] using hs) (by simpa using hc.1) (ascii_of_all (by simpa using hc.2))).mono ?_
    rintro e w' ⟨rfl, hbl⟩
    rw [mkS_data, mkS_data]
    exact ⟨_, _, .leaf, fun _ => .leaf, V, _, ⟨rfl, rfl⟩, rfl, post_below hp (by simp [trimE, mkArgs]) hbl (resV_str (Nat.le_trans (trimS_le _ _) hs)) (by simp [K.blocks]) (by simp [K.blocks])⟩
end Go.Own
