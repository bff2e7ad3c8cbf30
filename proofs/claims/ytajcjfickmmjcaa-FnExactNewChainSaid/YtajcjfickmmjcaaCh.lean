/- What the functions of the chain do, said of data: the contracts that the laws lean on. -/
import Derived.Test.YtajcjfickmmjcaaOwZ11
import Derived.Test.YtajcjfickmmjcaaProg
import Derived.KernelRfl
set_option linter.unusedVariables false
set_option linter.unusedSimpArgs false
namespace Go.Proofs.Ytajcjfickmmjcaa
open Go Go.Own

def link : T := .pair (.lst true .str) (.pair (.int .i64) (.pair (.int .i64) .unit))
def chain : T := .pair (.lst true link) .unit
def tyC : TypeId → T
  | 3 => .int .i64
  | 4 => .bool
  | 9 => .str
  | 5 => .int .u8
  | 42 => .lst true (.int .u8)
  | 22 => .lst true link
  | 24 => chain
  | 37 => .lst true .str
  | 47 => link
  | _ => .gone
def ebC : TypeId → Nat
  | 22 => 40
  | 37 => 16
  | 42 => 1
  | _ => 0
def sigC : FuncId → List Own.Mode
  | 49 => [.vw, .vw, .vw]
  | 50 => [.vw, .vw, .vw]
  | 23 => [.vw, .vw]
  | 72 => [.vw, .vw]
  | 51 => [.vw, .vw]
  | 14 => [.vw, .vw]
  | 24 => [.io, .vw]
  | 52 => [.io, .vw]
  | 15 => [.io, .vw]
  | 25 => [.vw, .vw]
  | 53 => [.vw, .vw]
  | 16 => [.vw, .vw]
  | 12 => [.vw]
  | 13 => [.vw]
  | 59 => [.vw]
  | _ => []
def Γc (n : Nat) (fx : List Nat) : Env := ⟨tyC, ebC, sigC, n, fx⟩

theorem Γc_ok (n : Nat) (fx : List Nat) : EnvOk Try.prog (Γc n fx) := by
  refine EnvOk.of [3, 4, 9, 22, 24, 37, 47, 5, 42] ?_ ?_ ?_
  · intro t h
    change (tyC t).ok = true at h
    unfold tyC at h
    split at h <;> first | (exact absurd h (by decide)) | simp
  · simp only [List.forall_mem_cons, List.not_mem_nil, false_implies, implies_true, and_true]
    refine ⟨⟨?_, rfl, ?_⟩, ⟨?_, rfl, ?_⟩, ⟨?_, rfl, ?_⟩, ⟨?_, rfl, ?_⟩, ⟨?_, rfl, ?_⟩, ⟨?_, rfl, ?_⟩, ⟨?_, rfl, ?_⟩, ⟨?_, rfl, ?_⟩, ⟨?_, rfl, ?_⟩⟩
    · exact Try.underlying3
    · kernel_rfl
    · exact Try.underlying4
    · kernel_rfl
    · exact Try.underlying9
    · kernel_rfl
    · exact ⟨rfl, _, Try.underlying22, rfl, rfl, by kernel_rfl⟩
    · kernel_rfl
    · exact ⟨_, Try.underlying24, rfl, rfl, rfl, trivial⟩
    · kernel_rfl
    · exact ⟨rfl, _, Try.underlying37, rfl, rfl, by kernel_rfl⟩
    · kernel_rfl
    · exact ⟨_, Try.underlying47, rfl, rfl, rfl, rfl, rfl, rfl, rfl, rfl, rfl, trivial⟩
    · kernel_rfl
    · exact Try.underlying5
    · kernel_rfl
    · exact ⟨rfl, _, Try.underlying42, rfl, rfl, by kernel_rfl⟩
    · kernel_rfl
  · kernel_rfl
end Go.Proofs.Ytajcjfickmmjcaa

namespace Go.Proofs.Ytajcjfickmmjcaa
open Go Go.Own
@[simp] theorem ty3 : tyC 3 = .int .i64 := rfl
@[simp] theorem ty4 : tyC 4 = .bool := rfl
@[simp] theorem ty9 : tyC 9 = .str := rfl
@[simp] theorem ty22 : tyC 22 = .lst true link := rfl
@[simp] theorem ty24 : tyC 24 = chain := rfl
@[simp] theorem ty37 : tyC 37 = .lst true .str := rfl
@[simp] theorem ty47 : tyC 47 = link := rfl
@[simp] theorem g_ty (n fx) : (Γc n fx).ty = tyC := rfl
@[simp] theorem g_eb (n fx) : (Γc n fx).eb = ebC := rfl
@[simp] theorem g_sig (n fx) : (Γc n fx).sig = sigC := rfl
@[simp] theorem g_n (n fx) : (Γc n fx).n = n := rfl
@[simp] theorem g_fx (n fx) : (Γc n fx).fx = fx := rfl
@[simp] theorem sig49 : sigC 49 = [.vw, .vw, .vw] := rfl
@[simp] theorem sig50 : sigC 50 = [.vw, .vw, .vw] := rfl
end Go.Proofs.Ytajcjfickmmjcaa
namespace Go.Proofs.Ytajcjfickmmjcaa
attribute [simp] chain link
end Go.Proofs.Ytajcjfickmmjcaa
namespace Go.Proofs.Ytajcjfickmmjcaa
@[simp] theorem eb22 : ebC 22 = 40 := rfl
@[simp] theorem eb37 : ebC 37 = 16 := rfl
end Go.Proofs.Ytajcjfickmmjcaa
namespace Go.Proofs.Ytajcjfickmmjcaa
@[simp] theorem sig23 : sigC 23 = [.vw, .vw] := rfl
@[simp] theorem sig72 : sigC 72 = [.vw, .vw] := rfl
@[simp] theorem sig51 : sigC 51 = [.vw, .vw] := rfl
@[simp] theorem sig14 : sigC 14 = [.vw, .vw] := rfl
end Go.Proofs.Ytajcjfickmmjcaa
namespace Go.Proofs.Ytajcjfickmmjcaa
@[simp] theorem sig59 : sigC 59 = [.vw] := rfl
@[simp] theorem sig24 : sigC 24 = [.io, .vw] := rfl
@[simp] theorem sig52 : sigC 52 = [.io, .vw] := rfl
@[simp] theorem sig15 : sigC 15 = [.io, .vw] := rfl
@[simp] theorem sig25 : sigC 25 = [.vw, .vw] := rfl
@[simp] theorem sig53 : sigC 53 = [.vw, .vw] := rfl
@[simp] theorem sig16 : sigC 16 = [.vw, .vw] := rfl
@[simp] theorem sig12 : sigC 12 = [.vw] := rfl
@[simp] theorem sig13 : sigC 13 = [.vw] := rfl
@[simp] theorem ty5 : tyC 5 = .int .u8 := rfl
@[simp] theorem ty42 : tyC 42 = .lst true (.int .u8) := rfl
@[simp] theorem eb42 : ebC 42 = 1 := rfl
end Go.Proofs.Ytajcjfickmmjcaa

namespace Go.Proofs.Ytajcjfickmmjcaa
open Go Go.Own

def eqF (xs : List D) (i : Nat) : List Cl := [⟨.val (.lst false .str) (.lst xs), ⟨0,0,0⟩⟩, ⟨.val (.lst false .str) (.lst xs), ⟨0,0,0⟩⟩, Cl.none, Cl.none, ⟨.val .bool (.bool false), ⟨0,0,0⟩⟩, ⟨.val (.int .i64) (.int i), ⟨0,0,0⟩⟩]

theorem v23 (xs : List D) : Gives Try.prog 23 [⟨.vw, .lst false .str, .lst xs⟩, ⟨.vw, .lst false .str, .lst xs⟩] (.one .bool (.bool true)) [.unit, .unit] := by
  refine Valid.fits fun hfit => ?_
  have hlen : xs.length ≤ 9223372036854775807 := by
    obtain ⟨_, e, h, _⟩ : (T.lst false .str).fits (.lst xs) := hfit ⟨.vw, .lst false .str, .lst xs⟩ (by simp)
    cases e; exact h
  clear hfit
  refine Valid.of (Γc_ok 26 []) Try.func23 rfl rfl (Nat.le_of_ble_eq_true rfl) (by simp) (by intro i a h; rcases i with _ | _ | i <;> simp at h <;> subst h <;> simp) fun E => ?_
  rw [start_of]
  repeat' first
      | refine Ex.seq ?_
      | refine Ex.ops (Γc_ok _ _) ?_
      | (refine opsL_cons ?_; simp)
      | refine opsL_nil ?_
      | refine Ex.ret ?_
      | refine Ex.skip ?_
      | (refine Ex.cond ?_; simp)
      | refine Ex.block ?_
  refine Ex.while (fun i : Nat => i ≤ xs.length) (eqF xs) (fun i => xs.length - i) 0 ⟨by simp, Weak.of (by simp [eqF])⟩ ?_
  intro i hi
  have hw : i < xs.length → IntKind.wrap .i64 (i + 1) = i + 1 := fun h => wrap_i64 (by omega) (by omega)
  simp only [eqF]
  by_cases h : i < xs.length
  · specialize hw h
    repeat' first
      | refine Ex.seq ?_
      | refine Ex.ops (Γc_ok _ _) ?_
      | refine Ex.opsAny (Γc_ok _ _) (by kernel_rfl) ?_
      | (refine opsL_cons ?_; simp [h, hw])
      | (refine opsE_cons ?_; simp [h, hw])
      | refine opsL_nil ?_
      | refine opsE_nil (by kernel_rfl) ?_
      | refine Ex.ret ?_
      | refine Ex.skip ?_
      | refine Ex.exit ?_
      | (refine Ex.cond ?_; simp [h])
      | refine Ex.block ?_
    exact ⟨i + 1, by omega, by omega, Weak.of (by simp)⟩
  · repeat' first
      | refine Ex.seq ?_
      | refine Ex.ops (Γc_ok _ _) ?_
      | refine Ex.opsAny (Γc_ok _ _) (by kernel_rfl) ?_
      | (refine opsL_cons ?_; simp [h])
      | (refine opsE_cons ?_; simp [h])
      | refine opsL_nil ?_
      | refine opsE_nil (by kernel_rfl) ?_
      | refine Ex.ret ?_
      | refine Ex.skip ?_
      | refine Ex.exit ?_
      | (refine Ex.cond ?_; simp [h])
      | refine Ex.block ?_
    simp [done, fin, Try.f23]

def lnk (xs : List D) (s u : Int) : D := .pair (.lst xs) (.pair (.int s) (.pair (.int u) .unit))
theorem c23 : Callable Try.prog 23 := ⟨_, Try.func23, by decide +kernel, rfl⟩
theorem v72 (xs : List D) (s u : Int) : Gives Try.prog 72 [⟨.vw, link.view, lnk xs s u⟩, ⟨.vw, link.view, lnk xs s u⟩] (.one .bool (.bool true)) [.unit, .unit] := by
  refine Valid.of (Γc_ok 21 []) Try.func72 rfl rfl (Nat.le_of_ble_eq_true rfl) (by simp) (by intro i a h; rcases i with _ | _ | i <;> simp at h <;> subst h <;> simp) fun E => ?_
  rw [start_of]
  simp only [lnk, startC]
  repeat' first
      | refine Ex.seq ?_
      | refine Ex.ops (Γc_ok _ _) ?_
      | refine Ex.opsAny (Γc_ok _ _) (by kernel_rfl) ?_
      | (refine opsL_cons ?_; simp)
      | (refine opsE_cons ?_; simp)
      | refine opsL_nil ?_
      | refine opsE_nil (by kernel_rfl) ?_
      | refine Ex.ret ?_
      | refine Ex.skip ?_
      | refine Ex.exit ?_
      | (refine Ex.cond ?_; simp)
      | refine Ex.block ?_
      | refine VX.gives c23 (v23 _) ?_
      | refine VX.both c23 (v23 _) ?_
  simp [done, fin, Try.f72]
end Go.Proofs.Ytajcjfickmmjcaa

namespace Go.Proofs.Ytajcjfickmmjcaa
open Go Go.Own

theorem link_fits {x : D} (h : link.view.fits x) : ∃ xs s u, x = lnk xs s u := by
  obtain ⟨_, _, rfl, ⟨xs, rfl, _⟩, _, _, rfl, ⟨s, rfl, _⟩, _, _, rfl, ⟨u, rfl, _⟩, rfl⟩ := h
  exact ⟨xs, s, u, rfl⟩

theorem c72 : Callable Try.prog 72 := ⟨_, Try.func72, by decide +kernel, rfl⟩
def eqG (xs : List D) (i : Nat) : List Cl := [⟨.val (.lst false link.view) (.lst xs), ⟨0,0,0⟩⟩, ⟨.val (.lst false link.view) (.lst xs), ⟨0,0,0⟩⟩, Cl.none, Cl.none, ⟨.val .bool (.bool false), ⟨0,0,0⟩⟩, ⟨.val (.int .i64) (.int i), ⟨0,0,0⟩⟩]

theorem v51 (ls : List D) : Gives Try.prog 51 [⟨.vw, .lst false link.view, .lst ls⟩, ⟨.vw, .lst false link.view, .lst ls⟩] (.one .bool (.bool true)) [.unit, .unit] := by
  refine Valid.fits fun hfit => ?_
  obtain ⟨hlen, hls⟩ : ls.length ≤ 9223372036854775807 ∧ ∀ x ∈ ls, link.view.fits x := by
    obtain ⟨_, e, h, h2⟩ : (T.lst false link.view).fits (.lst ls) := hfit ⟨.vw, .lst false link.view, .lst ls⟩ (by simp)
    cases e; exact ⟨h, h2⟩
  clear hfit
  refine Valid.of (Γc_ok 27 []) Try.func51 rfl rfl (Nat.le_of_ble_eq_true rfl) (by simp) (by intro i a h; rcases i with _ | _ | i <;> simp at h <;> subst h <;> simp) fun E => ?_
  rw [start_of]
  repeat' first
    | refine Ex.seq ?_
    | refine Ex.ops (Γc_ok _ _) ?_
    | refine Ex.opsAny (Γc_ok _ _) (by kernel_rfl) ?_
    | (refine opsL_cons ?_; simp)
    | (refine opsE_cons ?_; simp)
    | refine opsL_nil ?_
    | refine opsE_nil (by kernel_rfl) ?_
    | refine Ex.ret ?_
    | refine Ex.skip ?_
    | refine Ex.exit ?_
    | (refine Ex.cond ?_; simp)
    | refine Ex.block ?_
  refine Ex.while (fun i : Nat => i ≤ ls.length) (eqG ls) (fun i => ls.length - i) 0 ⟨by simp, Weak.of (by simp [eqG])⟩ ?_
  intro i hi
  have hw : i < ls.length → IntKind.wrap .i64 (i + 1) = i + 1 := fun h => wrap_i64 (by omega) (by omega)
  simp only [eqG]
  by_cases h : i < ls.length
  · specialize hw h
    obtain ⟨xs, s, u, hx⟩ := link_fits (hls ls[i] (by simp))
    repeat' first
      | refine Ex.seq ?_
      | refine Ex.ops (Γc_ok _ _) ?_
      | refine Ex.opsAny (Γc_ok _ _) (by kernel_rfl) ?_
      | (refine opsL_cons ?_; simp [h, hw, hx])
      | (refine opsE_cons ?_; simp [h, hw, hx])
      | refine opsL_nil ?_
      | refine opsE_nil (by kernel_rfl) ?_
      | refine Ex.ret ?_
      | refine Ex.skip ?_
      | refine Ex.exit ?_
      | (refine Ex.cond ?_; simp [h, hw, hx])
      | refine Ex.block ?_
      | (refine VX.gives1 c72 (v72 _ _ _) ?_; simp [h])
    exact ⟨i + 1, by omega, by omega, Weak.of (by simp)⟩
  · clear hw
    repeat' first
      | refine Ex.seq ?_
      | refine Ex.ops (Γc_ok _ _) ?_
      | refine Ex.opsAny (Γc_ok _ _) (by kernel_rfl) ?_
      | (refine opsL_cons ?_; simp [h])
      | (refine opsE_cons ?_; simp [h])
      | refine opsL_nil ?_
      | refine opsE_nil (by kernel_rfl) ?_
      | refine Ex.ret ?_
      | refine Ex.skip ?_
      | refine Ex.exit ?_
      | (refine Ex.cond ?_; simp [h])
      | refine Ex.block ?_
    simp [done, fin, Try.f51]
theorem c51 : Callable Try.prog 51 := ⟨_, Try.func51, by decide +kernel, rfl⟩

theorem v14 (ls : List D) : Gives Try.prog 14 [⟨.vw, chain.view, .pair (.lst ls) .unit⟩, ⟨.vw, chain.view, .pair (.lst ls) .unit⟩] (.one .bool (.bool true)) [.unit, .unit] := by
  refine Valid.of (Γc_ok 11 []) Try.func14 rfl rfl (Nat.le_of_ble_eq_true rfl) (by simp) (by intro i a h; rcases i with _ | _ | i <;> simp at h <;> subst h <;> simp) fun E => ?_
  rw [start_of]
  simp only [startC]
  repeat' first
    | refine Ex.seq ?_
    | refine Ex.ops (Γc_ok _ _) ?_
    | refine Ex.opsAny (Γc_ok _ _) (by kernel_rfl) ?_
    | (refine opsL_cons ?_; simp)
    | (refine opsE_cons ?_; simp)
    | refine opsL_nil ?_
    | refine opsE_nil (by kernel_rfl) ?_
    | refine Ex.ret ?_
    | refine Ex.skip ?_
    | refine Ex.exit ?_
    | (refine Ex.cond ?_; simp)
    | refine Ex.block ?_
    | (refine VX.both c51 (v51 _) ?_; simp)
    | refine VX.both c51 (v51 _) ?_
  simp [done, fin, Try.f14]
theorem c14 : Callable Try.prog 14 := ⟨_, Try.func14, by decide +kernel, rfl⟩
end Go.Proofs.Ytajcjfickmmjcaa

namespace Go.Proofs.Ytajcjfickmmjcaa
open Go Go.Own

def dig (n : Nat) : ByteArray := bytesStr [D.int (IntKind.u8.wrap (IntKind.i64.wrap (48 + (n : Int).tmod 10)))]
theorem dig_size (n : Nat) : (dig n).size = 1 := rfl
def digs (k : Nat) (out : ByteArray) : ByteArray := if k = 0 then out else digs (k / 10) (dig k ++ out)
termination_by k
def markT (k : Int) : ByteArray := if k ≤ 0 then ⟨#[109, 48]⟩ else ⟨#[109]⟩ ++ digs k.toNat .empty

def mtF (x : Nat × ByteArray) : List Cl := [⟨.val (.int .i64) (.int x.1), ⟨0,0,0⟩⟩, Cl.none, ⟨.val .str (.str .empty), ⟨0,0,0⟩⟩, ⟨.val .str (.str x.2), ⟨0,0,0⟩⟩]

theorem v59 (k : Int) (hk : k ≤ 4611686018427387904) : Gives Try.prog 59 [⟨.vw, .int .i64, .int k⟩] (.one .str (.str (markT k))) [.unit] := by
  refine Valid.of (Γc_ok 20 []) Try.func59 rfl rfl (Nat.le_of_ble_eq_true rfl) (by simp) (by intro i a h; rcases i with _ | i <;> simp at h; subst h; simp) fun E => ?_
  rw [start_of]
  by_cases h0 : k ≤ 0
  · have hm : markT k = ⟨#[109, 48]⟩ := by simp [markT, h0]
    rw [hm]
    repeat' first
      | refine Ex.seq ?_
      | refine Ex.ops (Γc_ok _ _) ?_
      | refine Ex.opsAny (Γc_ok _ _) (by kernel_rfl) ?_
      | (refine opsL_cons ?_; simp [h0])
      | (refine opsE_cons ?_; simp [h0])
      | refine opsL_nil ?_
      | refine opsE_nil (by kernel_rfl) ?_
      | refine Ex.ret ?_
      | refine Ex.skip ?_
      | refine Ex.exit ?_
      | (refine Ex.cond ?_; simp [h0])
      | refine Ex.block ?_
    simp [done, fin, Try.f59]
  · obtain ⟨m, rfl⟩ : ∃ m : Nat, k = m := ⟨k.toNat, by omega⟩
    have hm : 0 < m := by omega
    have hm0 : ¬ m = 0 := by omega
    have hmt : markT m = ⟨#[109]⟩ ++ digs m .empty := by simp [markT]; omega
    rw [hmt]
    repeat' first
      | refine Ex.seq ?_
      | refine Ex.ops (Γc_ok _ _) ?_
      | refine Ex.opsAny (Γc_ok _ _) (by kernel_rfl) ?_
      | (refine opsL_cons ?_; simp [h0, hm0])
      | (refine opsE_cons ?_; simp [h0, hm0])
      | refine opsL_nil ?_
      | refine opsE_nil (by kernel_rfl) ?_
      | refine Ex.ret ?_
      | refine Ex.skip ?_
      | refine Ex.exit ?_
      | (refine Ex.cond ?_; simp [h0, hm0])
      | refine Ex.block ?_
    refine Ex.while (fun x : Nat × ByteArray => digs x.1 x.2 = digs m .empty ∧ x.2.size + x.1 ≤ m) mtF (fun x => x.1) (m, .empty) ⟨⟨rfl, by simp⟩, Weak.of (by simp [mtF])⟩ ?_
    rintro ⟨n, out⟩ ⟨hd, hs⟩
    simp only at hd hs
    simp only [mtF]
    by_cases hn : n = 0
    · subst hn
      have hd2 : out = digs m .empty := by rw [← hd, digs]; simp
      have hsz : 1 + out.size ≤ 9223372036854775807 := by omega
      repeat' first
        | refine Ex.seq ?_
        | refine Ex.ops (Γc_ok _ _) ?_
        | refine Ex.opsAny (Γc_ok _ _) (by kernel_rfl) ?_
        | (refine opsL_cons ?_; simp [hsz])
        | (refine opsE_cons ?_; simp [hsz])
        | refine opsL_nil ?_
        | refine opsE_nil (by kernel_rfl) ?_
        | refine Ex.ret ?_
        | refine Ex.skip ?_
        | refine Ex.exit ?_
        | (refine Ex.cond ?_; simp [hsz])
        | refine Ex.block ?_
      simp [done, fin, Try.f59, hd2]
    · have hn0 : 0 < n := by omega
      have hdg : bytesStr [D.int (IntKind.u8.wrap (IntKind.i64.wrap (48 + (n : Int).tmod 10)))] = dig n := rfl
      have hsz : (dig n).size + out.size ≤ 9223372036854775807 := by rw [dig_size]; omega
      have hq : IntKind.i64.wrap ((n : Int) / 10) = (n : Int) / 10 := wrap_i64 (by omega) (by omega)
      repeat' first
        | refine Ex.seq ?_
        | refine Ex.ops (Γc_ok _ _) ?_
        | refine Ex.opsAny (Γc_ok _ _) (by kernel_rfl) ?_
        | (refine opsL_cons ?_; simp [hn0, hn, hdg, hsz, hq])
        | (refine opsE_cons ?_; simp [hn0, hn, hdg, hsz, hq])
        | refine opsL_nil ?_
        | refine opsE_nil (by kernel_rfl) ?_
        | refine Ex.ret ?_
        | refine Ex.skip ?_
        | refine Ex.exit ?_
        | (refine Ex.cond ?_; simp [hn0, hn, hdg, hsz, hq])
        | refine Ex.block ?_
      refine ⟨n / 10, dig n ++ out, ⟨?_, ?_⟩, ?_, Weak.of (by simp)⟩
      · rw [← hd, digs.eq_1 n]; simp [hn]
      · have := dig_size n
        simp only [ByteArray.size_append, this]; omega
      · omega
theorem c59 : Callable Try.prog 59 := ⟨_, Try.func59, by decide +kernel, rfl⟩
end Go.Proofs.Ytajcjfickmmjcaa

namespace Go.Proofs.Ytajcjfickmmjcaa
open Go Go.Own

def mks (k : Nat) (xs : List D) (i : Nat) : List D := xs.mapIdx fun j x => if j < i then .str (markT ((k : Int) + j)) else x
theorem mks_len (k xs i) : (mks k xs i).length = xs.length := by simp [mks]
theorem mks_zero (k xs) : mks k xs 0 = xs := by
  apply List.ext_getElem <;> simp [mks]
theorem mks_set (k : Nat) (xs : List D) (i : Nat) : (mks k xs i).set i (.str (markT ((k : Int) + i))) = mks k xs (i + 1) := by
  apply List.ext_getElem
  · simp [mks]
  · intro j h1 h2
    simp only [mks, List.getElem_set, List.getElem_mapIdx]
    by_cases hj : i = j
    · subst hj; simp
    · rw [if_neg hj]
      by_cases h : j < i
      · rw [if_pos h, if_pos (by omega)]
      · rw [if_neg h, if_neg (by omega)]

def msF (k : Nat) (xs : List D) (i : Nat) : List Cl := [⟨.val (.lst true .str) (.lst (mks k xs i)), ⟨0,0,0⟩⟩, ⟨.val (.int .i64) (.int ((k + i : Nat) : Int)), ⟨0,0,0⟩⟩, Cl.none, Cl.none, ⟨.val (.int .i64) (.int 0), ⟨0,0,0⟩⟩, ⟨.val (.int .i64) (.int i), ⟨0,0,0⟩⟩]

theorem v24 (xs : List D) (k : Nat) (hk : k + xs.length ≤ 4611686018427387904) : Gives Try.prog 24 [⟨.io, .lst true .str, .lst xs⟩, ⟨.vw, .int .i64, .int k⟩] (.one (.int .i64) (.int ((k + xs.length : Nat) : Int))) [.lst (mks k xs xs.length), .unit] := by
  refine Valid.of (Γc_ok 20 [0]) Try.func24 rfl rfl (Nat.le_of_ble_eq_true rfl) (by simp) (by intro i a h; rcases i with _ | _ | i <;> simp at h <;> subst h <;> simp) fun E => ?_
  rw [start_of]
  repeat' first
    | refine Ex.seq ?_
    | refine Ex.ops (Γc_ok _ _) ?_
    | refine Ex.opsAny (Γc_ok _ _) (by kernel_rfl) ?_
    | (refine opsL_cons ?_; simp)
    | (refine opsE_cons ?_; simp)
    | refine opsL_nil ?_
    | refine opsE_nil (by kernel_rfl) ?_
    | refine Ex.ret ?_
    | refine Ex.skip ?_
    | refine Ex.exit ?_
    | (refine Ex.cond ?_; simp)
    | refine Ex.block ?_
  refine Ex.while (fun i : Nat => i ≤ xs.length) (msF k xs) (fun i => xs.length - i) 0 ⟨by simp, Weak.of (by simp [msF, mks_zero])⟩ ?_
  intro i hi
  simp only [msF]
  have hl := mks_len k xs i
  by_cases h : i < xs.length
  · have hw : IntKind.wrap .i64 (i + 1) = i + 1 := wrap_i64 (by omega) (by omega)
    have hw2 : IntKind.wrap .i64 (k + i + 1) = k + i + 1 := wrap_i64 (by omega) (by omega)
    have hv := v59 ((k + i : Nat) : Int) (by omega)
    simp only [Int.natCast_add] at hv
    repeat' first
      | refine Ex.seq ?_
      | refine Ex.ops (Γc_ok _ _) ?_
      | refine Ex.opsAny (Γc_ok _ _) (by kernel_rfl) ?_
      | (refine opsL_cons ?_; simp [h, hl, hw, hw2])
      | (refine opsE_cons ?_; simp [h, hl, hw, hw2])
      | refine opsL_nil ?_
      | refine opsE_nil (by kernel_rfl) ?_
      | refine Ex.ret ?_
      | refine Ex.skip ?_
      | refine Ex.exit ?_
      | (refine Ex.cond ?_; simp [h, hl, hw, hw2])
      | refine Ex.block ?_
      | (refine VX.both c59 hv ?_; simp [h, hl])
    exact ⟨i + 1, by omega, by omega, Weak.of (by simp [mks_set, Int.add_assoc])⟩
  · have he : i = xs.length := by omega
    subst he
    repeat' first
      | refine Ex.seq ?_
      | refine Ex.ops (Γc_ok _ _) ?_
      | refine Ex.opsAny (Γc_ok _ _) (by kernel_rfl) ?_
      | (refine opsL_cons ?_; simp [hl])
      | (refine opsE_cons ?_; simp [hl])
      | refine opsL_nil ?_
      | refine opsE_nil (by kernel_rfl) ?_
      | refine Ex.ret ?_
      | refine Ex.skip ?_
      | refine Ex.exit ?_
      | (refine Ex.cond ?_; simp [hl])
      | refine Ex.block ?_
    simp [done, fin, Try.f24]
theorem c24 : Callable Try.prog 24 := ⟨_, Try.func24, by decide +kernel, rfl⟩

theorem heldStr (k : Nat) (xs : List D) (i : Nat) (h : i < (mks k xs xs.length).length) : (mks k xs xs.length)[i] = .str (markT ((k : Int) + i)) := by
  have : i < xs.length := by rw [mks_len] at h; exact h
  simp [mks, this]

def hsF (k : Nat) (ys : List D) (i : Nat) : List Cl := [⟨.val (.lst false .str) (.lst ys), ⟨0,0,0⟩⟩, ⟨.val (.int .i64) (.int ((k : Int) + i)), ⟨0,0,0⟩⟩, Cl.none, Cl.none, ⟨.val (.int .i64) (.int 0), ⟨0,0,0⟩⟩, ⟨.val (.int .i64) (.int i), ⟨0,0,0⟩⟩]

theorem v25 (ys : List D) (k : Nat) (hk : k + ys.length ≤ 4611686018427387904) (hy : ∀ (i : Nat) (h : i < ys.length), ys[i] = .str (markT ((k : Int) + i))) : Gives Try.prog 25 [⟨.vw, .lst false .str, .lst ys⟩, ⟨.vw, .int .i64, .int k⟩] (.one (.int .i64) (.int ((k : Int) + ys.length))) [.unit, .unit] := by
  refine Valid.of (Γc_ok 22 []) Try.func25 rfl rfl (Nat.le_of_ble_eq_true rfl) (by simp) (by intro i a h; rcases i with _ | _ | i <;> simp at h <;> subst h <;> simp) fun E => ?_
  rw [start_of]
  repeat' first
    | refine Ex.seq ?_
    | refine Ex.ops (Γc_ok _ _) ?_
    | refine Ex.opsAny (Γc_ok _ _) (by kernel_rfl) ?_
    | (refine opsL_cons ?_; simp)
    | (refine opsE_cons ?_; simp)
    | refine opsL_nil ?_
    | refine opsE_nil (by kernel_rfl) ?_
    | refine Ex.ret ?_
    | refine Ex.skip ?_
    | refine Ex.exit ?_
    | (refine Ex.cond ?_; simp)
    | refine Ex.block ?_
  refine Ex.while (fun i : Nat => i ≤ ys.length) (hsF k ys) (fun i => ys.length - i) 0 ⟨by simp, Weak.of (by simp [hsF])⟩ ?_
  intro i hi
  simp only [hsF]
  by_cases h : i < ys.length
  · have hw : IntKind.wrap .i64 (i + 1) = i + 1 := wrap_i64 (by omega) (by omega)
    have hw2 : IntKind.wrap .i64 (k + i + 1) = k + i + 1 := wrap_i64 (by omega) (by omega)
    have hv := v59 ((k : Int) + i) (by omega)
    have hx := hy i h
    repeat' first
      | refine Ex.seq ?_
      | refine Ex.ops (Γc_ok _ _) ?_
      | refine Ex.opsAny (Γc_ok _ _) (by kernel_rfl) ?_
      | (refine opsL_cons ?_; simp [h, hx, hw, hw2])
      | (refine opsE_cons ?_; simp [h, hx, hw, hw2])
      | refine opsL_nil ?_
      | refine opsE_nil (by kernel_rfl) ?_
      | refine Ex.ret ?_
      | refine Ex.skip ?_
      | refine Ex.exit ?_
      | (refine Ex.cond ?_; simp [h, hx, hw, hw2])
      | refine Ex.block ?_
      | (refine VX.gives1 c59 hv ?_; simp [h, hx])
    exact ⟨i + 1, by omega, by omega, Weak.of (by simp [Int.add_assoc])⟩
  · have he : i = ys.length := by omega
    subst he
    repeat' first
      | refine Ex.seq ?_
      | refine Ex.ops (Γc_ok _ _) ?_
      | refine Ex.opsAny (Γc_ok _ _) (by kernel_rfl) ?_
      | (refine opsL_cons ?_; simp)
      | (refine opsE_cons ?_; simp)
      | refine opsL_nil ?_
      | refine opsE_nil (by kernel_rfl) ?_
      | refine Ex.ret ?_
      | refine Ex.skip ?_
      | refine Ex.exit ?_
      | (refine Ex.cond ?_; simp)
      | refine Ex.block ?_
    simp [done, fin, Try.f25]
theorem c25 : Callable Try.prog 25 := ⟨_, Try.func25, by decide +kernel, rfl⟩
end Go.Proofs.Ytajcjfickmmjcaa

namespace Go.Proofs.Ytajcjfickmmjcaa
open Go Go.Own

def zlink : D := .pair (.lst []) (.pair (.int 0) (.pair (.int 0) .unit))
def newD (n : Int) : D := if 1 ≤ n ∧ n ≤ 6 then .pair (.pair (.lst (List.replicate n.toNat zlink)) .unit) (.pair (.bool true) .unit) else .pair (.pair (.lst []) .unit) (.pair (.bool false) .unit)

theorem v49 (n lo hi : Int) : Gives Try.prog 49 [⟨.vw, .int .i64, .int n⟩, ⟨.vw, .int .i64, .int lo⟩, ⟨.vw, .int .i64, .int hi⟩] (.one .bool (.bool (decide (lo ≤ n) && decide (n ≤ hi)))) [.unit, .unit, .unit] := by
  refine Valid.of (Γc_ok 15 []) Try.func49 rfl rfl (Nat.le_of_ble_eq_true rfl) (by simp) (by intro i a h; rcases i with _ | _ | _ | i <;> simp at h <;> subst h <;> simp) fun E => ?_
  rw [start_of]
  by_cases h : lo ≤ n
  all_goals
    repeat' first
      | refine Ex.seq ?_
      | refine Ex.ops (Γc_ok _ _) ?_
      | refine Ex.opsAny (Γc_ok _ _) (by kernel_rfl) ?_
      | (refine opsL_cons ?_; simp [h])
      | (refine opsE_cons ?_; simp [h])
      | refine opsL_nil ?_
      | refine opsE_nil (by kernel_rfl) ?_
      | refine Ex.ret ?_
      | refine Ex.skip ?_
      | refine Ex.exit ?_
      | (refine Ex.cond ?_; simp [h])
      | refine Ex.block ?_
    all_goals simp [done, fin, Try.f49]
    all_goals congr
theorem c49 : Callable Try.prog 49 := ⟨_, Try.func49, by decide +kernel, rfl⟩

theorem v12 (n : Int) : Gives Try.prog 12 [⟨.vw, .int .i64, .int n⟩] (.many (.pair chain (.pair .bool .unit)) (newD n)) [.unit] := by
  refine Valid.of (Γc_ok 11 []) Try.func12 rfl rfl (Nat.le_of_ble_eq_true rfl) (by simp) (by intro i a h; rcases i with _ | i <;> simp at h; subst h; simp) fun E => ?_
  rw [start_of]
  repeat' first
    | refine Ex.seq ?_
    | refine Ex.ops (Γc_ok _ _) ?_
    | refine Ex.opsAny (Γc_ok _ _) (by kernel_rfl) ?_
    | (refine opsL_cons ?_; simp)
    | (refine opsE_cons ?_; simp)
    | refine opsL_nil ?_
    | refine opsE_nil (by kernel_rfl) ?_
    | refine Ex.ret ?_
    | refine Ex.skip ?_
    | refine Ex.exit ?_
    | (refine Ex.cond ?_; simp)
    | refine Ex.block ?_
  refine VX.both c49 (v49 _ _ _) ?_
  by_cases h : 1 ≤ n ∧ n ≤ 6
  all_goals
    have hb : (decide (1 ≤ n) && decide (n ≤ 6)) = decide (1 ≤ n ∧ n ≤ 6) := by simp
    simp only [hb, h]
    repeat' first
      | refine Ex.seq ?_
      | refine Ex.ops (Γc_ok _ _) ?_
      | refine Ex.opsAny (Γc_ok _ _) (by kernel_rfl) ?_
      | (refine opsL_cons ?_; simp)
      | (refine opsE_cons ?_; simp)
      | refine opsL_nil ?_
      | refine opsE_nil (by kernel_rfl) ?_
      | refine Ex.ret ?_
      | refine Ex.skip ?_
      | refine Ex.exit ?_
      | (refine Ex.cond ?_; simp)
      | refine Ex.block ?_
  · refine ⟨⟨by omega, by omega, by omega⟩, ?_⟩
    repeat' first
      | refine Ex.seq ?_
      | refine Ex.ops (Γc_ok _ _) ?_
      | refine Ex.opsAny (Γc_ok _ _) (by kernel_rfl) ?_
      | (refine opsL_cons ?_; simp)
      | (refine opsE_cons ?_; simp)
      | refine opsL_nil ?_
      | refine opsE_nil (by kernel_rfl) ?_
      | refine Ex.ret ?_
      | refine Ex.skip ?_
      | refine Ex.exit ?_
      | (refine Ex.cond ?_; simp)
      | refine Ex.block ?_
    simp [done, fin, Try.f12, newD, h, zlink]
  · simp [thenS, done, fin, Try.f12, newD, h]
theorem c12 : Callable Try.prog 12 := ⟨_, Try.func12, by decide +kernel, rfl⟩

theorem v50 (n lo hi : Int) : Gives Try.prog 50 [⟨.vw, .int .i64, .int n⟩, ⟨.vw, .int .i64, .int lo⟩, ⟨.vw, .int .i64, .int hi⟩] (.one .bool (.bool (decide (lo ≤ n) && decide (n ≤ hi)))) [.unit, .unit, .unit] := by
  refine Valid.of (Γc_ok 15 []) Try.func50 rfl rfl (Nat.le_of_ble_eq_true rfl) (by simp) (by intro i a h; rcases i with _ | _ | _ | i <;> simp at h <;> subst h <;> simp) fun E => ?_
  rw [start_of]
  by_cases h : lo ≤ n
  all_goals
    repeat' first
      | refine Ex.seq ?_
      | refine Ex.ops (Γc_ok _ _) ?_
      | refine Ex.opsAny (Γc_ok _ _) (by kernel_rfl) ?_
      | (refine opsL_cons ?_; simp [h])
      | (refine opsE_cons ?_; simp [h])
      | refine opsL_nil ?_
      | refine opsE_nil (by kernel_rfl) ?_
      | refine Ex.ret ?_
      | refine Ex.skip ?_
      | refine Ex.exit ?_
      | (refine Ex.cond ?_; simp [h])
      | refine Ex.block ?_
    all_goals simp [done, fin, Try.f50]
    all_goals congr
theorem c50 : Callable Try.prog 50 := ⟨_, Try.func50, by decide +kernel, rfl⟩

theorem v13 (n : Int) : Gives Try.prog 13 [⟨.vw, .int .i64, .int n⟩] (.many (.pair chain (.pair .bool .unit)) (newD n)) [.unit] := by
  refine Valid.of (Γc_ok 11 []) Try.func13 rfl rfl (Nat.le_of_ble_eq_true rfl) (by simp) (by intro i a h; rcases i with _ | i <;> simp at h; subst h; simp) fun E => ?_
  rw [start_of]
  repeat' first
    | refine Ex.seq ?_
    | refine Ex.ops (Γc_ok _ _) ?_
    | refine Ex.opsAny (Γc_ok _ _) (by kernel_rfl) ?_
    | (refine opsL_cons ?_; simp)
    | (refine opsE_cons ?_; simp)
    | refine opsL_nil ?_
    | refine opsE_nil (by kernel_rfl) ?_
    | refine Ex.ret ?_
    | refine Ex.skip ?_
    | refine Ex.exit ?_
    | (refine Ex.cond ?_; simp)
    | refine Ex.block ?_
  refine VX.both c50 (v50 _ _ _) ?_
  by_cases h : 1 ≤ n ∧ n ≤ 6
  all_goals
    have hb : (decide (1 ≤ n) && decide (n ≤ 6)) = decide (1 ≤ n ∧ n ≤ 6) := by simp
    simp only [hb, h]
    repeat' first
      | refine Ex.seq ?_
      | refine Ex.ops (Γc_ok _ _) ?_
      | refine Ex.opsAny (Γc_ok _ _) (by kernel_rfl) ?_
      | (refine opsL_cons ?_; simp)
      | (refine opsE_cons ?_; simp)
      | refine opsL_nil ?_
      | refine opsE_nil (by kernel_rfl) ?_
      | refine Ex.ret ?_
      | refine Ex.skip ?_
      | refine Ex.exit ?_
      | (refine Ex.cond ?_; simp)
      | refine Ex.block ?_
  · refine ⟨⟨by omega, by omega, by omega⟩, ?_⟩
    repeat' first
      | refine Ex.seq ?_
      | refine Ex.ops (Γc_ok _ _) ?_
      | refine Ex.opsAny (Γc_ok _ _) (by kernel_rfl) ?_
      | (refine opsL_cons ?_; simp)
      | (refine opsE_cons ?_; simp)
      | refine opsL_nil ?_
      | refine opsE_nil (by kernel_rfl) ?_
      | refine Ex.ret ?_
      | refine Ex.skip ?_
      | refine Ex.exit ?_
      | (refine Ex.cond ?_; simp)
      | refine Ex.block ?_
    simp [done, fin, Try.f13, newD, h, zlink]
  · simp [thenS, done, fin, Try.f13, newD, h]
theorem c13 : Callable Try.prog 13 := ⟨_, Try.func13, by decide +kernel, rfl⟩

end Go.Proofs.Ytajcjfickmmjcaa

namespace Go.Proofs.Ytajcjfickmmjcaa
open Go Go.Own

def log (x : D) : List D := x.fst.l
def pre (ls : List D) : Nat → Nat
  | 0 => 0
  | i + 1 => pre ls i + ((log (ls.getD i .unit)).length + 2)
def mkl (k : Nat) (x : D) : D := lnk (mks k (log x) (log x).length) ((k : Int) + (log x).length) ((k : Int) + (log x).length + 1)
def mkLs (k : Nat) (ls : List D) (i : Nat) : List D := ls.mapIdx fun j x => if j < i then mkl (k + pre ls j) x else x
theorem mkLs_len (k ls i) : (mkLs k ls i).length = ls.length := by simp [mkLs]
theorem mkLs_zero (k ls) : mkLs k ls 0 = ls := by
  apply List.ext_getElem <;> simp [mkLs]
theorem mkLs_set (k : Nat) (ls : List D) (i : Nat) (h : i < ls.length) : (mkLs k ls i).set i (mkl (k + pre ls i) ls[i]) = mkLs k ls (i + 1) := by
  apply List.ext_getElem
  · simp [mkLs]
  · intro j h1 h2
    simp only [mkLs, List.getElem_set, List.getElem_mapIdx]
    by_cases hj : i = j
    · subst hj; simp
    · rw [if_neg hj]
      by_cases h : j < i
      · rw [if_pos h, if_pos (by omega)]
      · rw [if_neg h, if_neg (by omega)]
theorem mkLs_get (k : Nat) (ls : List D) (i : Nat) (h : i < ls.length) (h' : i < (mkLs k ls i).length) : (mkLs k ls i)[i] = ls[i] := by simp [mkLs]
theorem pre_mono (ls : List D) {i j : Nat} (h : i ≤ j) : pre ls i ≤ pre ls j := by
  induction h with
  | refl => exact Nat.le_refl _
  | step _ ih => exact Nat.le_trans ih (Nat.le_add_right _ _)

def mlF (k : Nat) (ls : List D) (i : Nat) : List Cl := [⟨.val (.lst true link) (.lst (mkLs k ls i)), ⟨0,0,0⟩⟩, ⟨.val (.int .i64) (.int ((k : Int) + pre ls i)), ⟨0,0,0⟩⟩, Cl.none, Cl.none, ⟨.val (.int .i64) (.int 0), ⟨0,0,0⟩⟩, ⟨.val (.int .i64) (.int i), ⟨0,0,0⟩⟩]

theorem link_fits' {x : D} (h : link.fits x) : ∃ xs s u, x = lnk xs s u := by
  obtain ⟨_, _, rfl, ⟨xs, rfl, _⟩, _, _, rfl, ⟨s, rfl, _⟩, _, _, rfl, ⟨u, rfl, _⟩, rfl⟩ := h
  exact ⟨xs, s, u, rfl⟩

theorem v52 (ls : List D) (k : Nat) (hk : k + pre ls ls.length ≤ 4611686018427387904) : Gives Try.prog 52 [⟨.io, .lst true link, .lst ls⟩, ⟨.vw, .int .i64, .int k⟩] (.one (.int .i64) (.int ((k : Int) + pre ls ls.length))) [.lst (mkLs k ls ls.length), .unit] := by
  refine Valid.fits fun hfit => ?_
  obtain ⟨hlen, hls⟩ : ls.length ≤ 9223372036854775807 ∧ ∀ x ∈ ls, link.fits x := by
    obtain ⟨_, e, h, h2⟩ : (T.lst true link).fits (.lst ls) := hfit ⟨.io, .lst true link, .lst ls⟩ (by simp)
    cases e; exact ⟨h, h2⟩
  clear hfit
  refine Valid.of (Γc_ok 34 [0]) Try.func52 rfl rfl (Nat.le_of_ble_eq_true rfl) (by simp) (by intro i a h; rcases i with _ | _ | i <;> simp at h <;> subst h <;> simp) fun E => ?_
  rw [start_of]
  repeat' first
    | refine Ex.seq ?_
    | refine Ex.ops (Γc_ok _ _) ?_
    | refine Ex.opsAny (Γc_ok _ _) (by kernel_rfl) ?_
    | (refine opsL_cons ?_; simp)
    | (refine opsE_cons ?_; simp)
    | refine opsL_nil ?_
    | refine opsE_nil (by kernel_rfl) ?_
    | refine Ex.ret ?_
    | refine Ex.skip ?_
    | refine Ex.exit ?_
    | (refine Ex.cond ?_; simp)
    | refine Ex.block ?_
  refine Ex.while (fun i : Nat => i ≤ ls.length) (mlF k ls) (fun i => ls.length - i) 0 ⟨by simp, Weak.of (by simp [mlF, mkLs_zero, pre])⟩ ?_
  intro i hi
  simp only [mlF]
  have hl := mkLs_len k ls i
  by_cases h : i < ls.length
  · obtain ⟨xs, s, u, hx⟩ := link_fits' (hls ls[i] (by simp))
    have hp : pre ls (i + 1) ≤ pre ls ls.length := pre_mono ls (by omega)
    have hp2 : pre ls (i + 1) = pre ls i + (xs.length + 2) := by simp [pre, h, hx, log, lnk, D.l]
    have hw : IntKind.wrap .i64 (i + 1) = i + 1 := wrap_i64 (by omega) (by omega)
    have hw2 : IntKind.wrap .i64 (k + pre ls i + xs.length + 1) = k + pre ls i + xs.length + 1 := wrap_i64 (by omega) (by omega)
    have hw3 : IntKind.wrap .i64 (k + pre ls i + xs.length + 1 + 1) = k + pre ls i + xs.length + 1 + 1 := wrap_i64 (by omega) (by omega)
    have hv := v24 xs (k + pre ls i) (by omega)
    simp only [Int.natCast_add] at hv
    have hg : ∀ h', (mkLs k ls i)[i]'h' = lnk xs s u := fun h' => by rw [mkLs_get k ls i h h', hx]
    simp only [lnk] at hg
    repeat' first
      | refine Ex.seq ?_
      | refine Ex.ops (Γc_ok _ _) ?_
      | refine Ex.opsAny (Γc_ok _ _) (by kernel_rfl) ?_
      | (refine opsL_cons ?_; simp [h, hl, hw, hw2, hw3, hg])
      | (refine opsE_cons ?_; simp [h, hl, hw, hw2, hw3, hg])
      | refine opsL_nil ?_
      | refine opsE_nil (by kernel_rfl) ?_
      | refine Ex.ret ?_
      | refine Ex.skip ?_
      | refine Ex.exit ?_
      | (refine Ex.cond ?_; simp [h, hl, hw, hw2, hw3, hg])
      | refine Ex.block ?_
      | (refine VX.both c24 hv ?_; simp [h, hl, hg])
    have hs := mkLs_set k ls i h
    rw [hx] at hs
    simp only [mkl, log, lnk, D.fst, D.fld, D.l_lst, Int.natCast_add] at hs
    exact ⟨i + 1, by omega, by omega, Weak.of (by simp [← hs, hp2]; omega)⟩
  · have he : i = ls.length := by omega
    subst he
    repeat' first
      | refine Ex.seq ?_
      | refine Ex.ops (Γc_ok _ _) ?_
      | refine Ex.opsAny (Γc_ok _ _) (by kernel_rfl) ?_
      | (refine opsL_cons ?_; simp [hl])
      | (refine opsE_cons ?_; simp [hl])
      | refine opsL_nil ?_
      | refine opsE_nil (by kernel_rfl) ?_
      | refine Ex.ret ?_
      | refine Ex.skip ?_
      | refine Ex.exit ?_
      | (refine Ex.cond ?_; simp [hl])
      | refine Ex.block ?_
    simp [done, fin, Try.f52]
theorem c52 : Callable Try.prog 52 := ⟨_, Try.func52, by decide +kernel, rfl⟩
theorem v15 (ls : List D) (k : Nat) (hk : k + pre ls ls.length ≤ 4611686018427387904) : Gives Try.prog 15 [⟨.io, chain, .pair (.lst ls) .unit⟩, ⟨.vw, .int .i64, .int k⟩] (.one (.int .i64) (.int ((k : Int) + pre ls ls.length))) [.pair (.lst (mkLs k ls ls.length)) .unit, .unit] := by
  refine Valid.of (Γc_ok 10 [0]) Try.func15 rfl rfl (Nat.le_of_ble_eq_true rfl) (by simp) (by intro i a h; rcases i with _ | _ | i <;> simp at h <;> subst h <;> simp) fun E => ?_
  rw [start_of]
  repeat' first
    | refine Ex.seq ?_
    | refine Ex.ops (Γc_ok _ _) ?_
    | refine Ex.opsAny (Γc_ok _ _) (by kernel_rfl) ?_
    | (refine opsL_cons ?_; simp)
    | (refine opsE_cons ?_; simp)
    | refine opsL_nil ?_
    | refine opsE_nil (by kernel_rfl) ?_
    | refine Ex.ret ?_
    | refine Ex.skip ?_
    | refine Ex.exit ?_
    | (refine Ex.cond ?_; simp)
    | refine Ex.block ?_
    | (refine VX.both c52 (v52 ls k hk) ?_; simp)
  simp [done, fin, Try.f15, D.snd]
theorem c15 : Callable Try.prog 15 := ⟨_, Try.func15, by decide +kernel, rfl⟩

end Go.Proofs.Ytajcjfickmmjcaa

namespace Go.Proofs.Ytajcjfickmmjcaa
open Go Go.Own

def hlF (k : Nat) (ls ys : List D) (i : Nat) : List Cl := [⟨.val (.lst false link.view) (.lst ys), ⟨0,0,0⟩⟩, ⟨.val (.int .i64) (.int ((k : Int) + pre ls i)), ⟨0,0,0⟩⟩, Cl.none, Cl.none, ⟨.val (.int .i64) (.int 0), ⟨0,0,0⟩⟩, ⟨.val (.int .i64) (.int i), ⟨0,0,0⟩⟩]

theorem v53 (ls : List D) (k : Nat) (hk : k + pre ls ls.length ≤ 4611686018427387904) : Gives Try.prog 53 [⟨.vw, .lst false link.view, .lst (mkLs k ls ls.length)⟩, ⟨.vw, .int .i64, .int k⟩] (.one (.int .i64) (.int ((k : Int) + pre ls ls.length))) [.unit, .unit] := by
  have hl := mkLs_len k ls ls.length
  have hg : ∀ (i : Nat) (h : i < ls.length) h', (mkLs k ls ls.length)[i]'h' = mkl (k + pre ls i) ls[i] := fun i h h' => by simp [mkLs, h]
  have hll : ls.length ≤ pre ls ls.length := by
    have : ∀ i, i ≤ pre ls i := fun i => by
      induction i with
      | zero => exact Nat.zero_le _
      | succ i ih => simp only [pre]; omega
    exact this _
  generalize mkLs k ls ls.length = ys at hl hg
  refine Valid.of (Γc_ok 40 []) Try.func53 rfl rfl (Nat.le_of_ble_eq_true rfl) (by simp) (by intro i a h; rcases i with _ | _ | i <;> simp at h <;> subst h <;> simp) fun E => ?_
  rw [start_of]
  repeat' first
    | refine Ex.seq ?_
    | refine Ex.ops (Γc_ok _ _) ?_
    | refine Ex.opsAny (Γc_ok _ _) (by kernel_rfl) ?_
    | (refine opsL_cons ?_; simp)
    | (refine opsE_cons ?_; simp)
    | refine opsL_nil ?_
    | refine opsE_nil (by kernel_rfl) ?_
    | refine Ex.ret ?_
    | refine Ex.skip ?_
    | refine Ex.exit ?_
    | (refine Ex.cond ?_; simp)
    | refine Ex.block ?_
  refine Ex.while (fun i : Nat => i ≤ ls.length) (hlF k ls ys) (fun i => ls.length - i) 0 ⟨by simp, Weak.of (by simp [hlF, pre])⟩ ?_
  intro i hi
  simp only [hlF]
  by_cases h : i < ls.length
  · have h' : i < ys.length := by omega
    generalize hx : log ls[i] = xs
    have hp : pre ls (i + 1) ≤ pre ls ls.length := pre_mono ls (by omega)
    have hp2 : pre ls (i + 1) = pre ls i + (xs.length + 2) := by rw [← hx]; simp [pre, h]
    have hw : IntKind.wrap .i64 (i + 1) = i + 1 := wrap_i64 (by omega) (by omega)
    have hw2 : IntKind.wrap .i64 (k + pre ls i + xs.length + 1) = k + pre ls i + xs.length + 1 := wrap_i64 (by omega) (by omega)
    have hw3 : IntKind.wrap .i64 (k + pre ls i + xs.length + 1 + 1) = k + pre ls i + xs.length + 1 + 1 := wrap_i64 (by omega) (by omega)
    have hml := mks_len (k + pre ls i) xs xs.length
    have hv := v25 (mks (k + pre ls i) xs xs.length) (k + pre ls i) (by rw [hml]; omega) (fun j h => heldStr _ _ j h)
    rw [hml] at hv
    simp only [Int.natCast_add] at hv
    have hgi := hg i h h'
    simp only [mkl, hx, lnk, Int.natCast_add] at hgi
    have hn : ¬ ((k : Int) + pre ls i + xs.length < 0) := by omega
    clear hg
    repeat' first
      | refine Ex.seq ?_
      | refine Ex.ops (Γc_ok _ _) ?_
      | refine Ex.opsAny (Γc_ok _ _) (by kernel_rfl) ?_
      | (refine opsL_cons ?_; simp [h, hl, h', hw, hw2, hw3, hgi, hn])
      | (refine opsE_cons ?_; simp [h, hl, h', hw, hw2, hw3, hgi, hn])
      | refine opsL_nil ?_
      | refine opsE_nil (by kernel_rfl) ?_
      | refine Ex.ret ?_
      | refine Ex.skip ?_
      | refine Ex.exit ?_
      | (refine Ex.cond ?_; simp [h, hl, h', hw, hw2, hw3, hgi, hn])
      | refine Ex.block ?_
      | (refine VX.both c25 hv ?_; simp [hn])
    exact ⟨i + 1, by omega, by omega, Weak.of (by simp [hp2]; omega)⟩
  · have he : i = ls.length := by omega
    subst he
    repeat' first
      | refine Ex.seq ?_
      | refine Ex.ops (Γc_ok _ _) ?_
      | refine Ex.opsAny (Γc_ok _ _) (by kernel_rfl) ?_
      | (refine opsL_cons ?_; simp [hl])
      | (refine opsE_cons ?_; simp [hl])
      | refine opsL_nil ?_
      | refine opsE_nil (by kernel_rfl) ?_
      | refine Ex.ret ?_
      | refine Ex.skip ?_
      | refine Ex.exit ?_
      | (refine Ex.cond ?_; simp [hl])
      | refine Ex.block ?_
    simp [done, fin, Try.f53]
theorem c53 : Callable Try.prog 53 := ⟨_, Try.func53, by decide +kernel, rfl⟩

theorem v16 (ls : List D) (k : Nat) (hk : k + pre ls ls.length ≤ 4611686018427387904) : Gives Try.prog 16 [⟨.vw, chain.view, .pair (.lst (mkLs k ls ls.length)) .unit⟩, ⟨.vw, .int .i64, .int k⟩] (.one (.int .i64) (.int ((k : Int) + pre ls ls.length))) [.unit, .unit] := by
  have hn : ¬ ((k : Int) + pre ls ls.length < 0) := by omega
  refine Valid.of (Γc_ok 12 []) Try.func16 rfl rfl (Nat.le_of_ble_eq_true rfl) (by simp) (by intro i a h; rcases i with _ | _ | i <;> simp at h <;> subst h <;> simp) fun E => ?_
  rw [start_of]
  repeat' first
    | refine Ex.seq ?_
    | refine Ex.ops (Γc_ok _ _) ?_
    | refine Ex.opsAny (Γc_ok _ _) (by kernel_rfl) ?_
    | (refine opsL_cons ?_; simp [hn])
    | (refine opsE_cons ?_; simp [hn])
    | refine opsL_nil ?_
    | refine opsE_nil (by kernel_rfl) ?_
    | refine Ex.ret ?_
    | refine Ex.skip ?_
    | refine Ex.exit ?_
    | (refine Ex.cond ?_; simp [hn])
    | refine Ex.block ?_
    | (refine VX.both c53 (v53 ls k hk) ?_; simp [hn])
  simp [done, fin, Try.f16]
theorem c16 : Callable Try.prog 16 := ⟨_, Try.func16, by decide +kernel, rfl⟩
end Go.Proofs.Ytajcjfickmmjcaa
