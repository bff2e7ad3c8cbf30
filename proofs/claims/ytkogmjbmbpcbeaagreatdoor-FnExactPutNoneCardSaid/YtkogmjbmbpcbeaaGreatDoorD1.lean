/- A layer over the walk: what lies in memory as plain data, each operation by what it does to data; part 22. -/
import Derived.Test.YtkogmjbmbpcbeaaGreatDoorOwZ14
set_option linter.unusedSectionVars false
set_option linter.unusedVariables false
set_option linter.unusedSimpArgs false
namespace Go.Own
noncomputable section
inductive Un where
 | fld (j : Nat)
 | tl (j : Nat)
 | len
 | slen
 | bnot
 | neg (k : IntKind)
 | conv (k : IntKind)
 | bstr
 | sbytes
 | one
 | makeOk (eb : Nat)
 | ge0
 deriving DecidableEq
inductive Bi where
 | pair
 | setFld (j : Nat)
 | nth
 | app
 | rep
 | ib (op : BinOp) (k : IntKind)
 | shl (k : IntKind)
 | shr (k : IntKind)
 | sb (op : BinOp)
 | beq
 | bne
 | deq
 | inb
 | sinb
 | byteAt
 | cons
 | catOk
 | mix (t : T)
 | lesser
 | greater
 | monus
 | appOk (eb : Nat)
 deriving DecidableEq
inductive Tri where
 | ite
 | setNth
 | sub
 | ssub
 | part
 | slOk
 | winOk
 deriving DecidableEq
def D.tl : D → Nat → D
 | d, 0 => d
 | d, j + 1 => d.snd.tl j
def D.ofBin : Option (Prop × T × D) → D
 | some (_, _, d) => d
 | none => .unit
def Un.sem : Un → D → D
 | .fld j, d => d.fld j
 | .tl j, d => d.tl j
 | .len, d => .int d.l.length
 | .slen, d => .int d.s.length
 | .bnot, d => .bool !d.b
 | .neg k, d => .int (k.wrap (0 - d.i))
 | .conv k, d => .int (k.wrap d.i)
 | .bstr, d => .str (z0c d.l)
 | .sbytes, d => .lst (d.s.map fun c => .int c.toNat)
 | .one, d => .lst [d]
 | .makeOk eb, d => .bool (decide (0 ≤ d.i) && (decide (d.i.toNat ≤ smax) && decide (d.i.toNat * eb ≤ 140737488355328)))
 | .ge0, d => .bool (decide (0 ≤ d.i))
def Bi.sem : Bi → D → D → D
 | .pair, a, b => .pair a b
 | .setFld j, a, b => a.setFld j b
 | .nth, a, b => a.nth b.i.toNat
 | .app, a, b => .lst (a.l ++ b.l)
 | .rep, a, b => .lst (List.replicate a.i.toNat b)
 | .ib op k, a, b => D.ofBin (zEz op k a.i b.i)
 | .shl k, a, b => .int (k.wrap (a.i * 2 ^ min b.i.toNat k.bits))
 | .shr k, a, b => .int (a.i.fdiv (2 ^ min b.i.toNat k.bits))
 | .sb op, a, b => D.ofBin (zHL op a.s b.s)
 | .beq, a, b => .bool (a.b == b.b)
 | .bne, a, b => .bool !(a.b == b.b)
 | .deq, a, b => .bool (a.beq b)
 | .inb, a, b => .bool (decide (0 ≤ a.i) && decide (a.i < b.l.length))
 | .sinb, a, b => .bool (decide (0 ≤ a.i) && decide (a.i < b.s.length))
 | .byteAt, a, b => .int (Own.byteAt a.s b.i.toNat)
 | .cons, a, b => .lst (a :: b.l)
 | .catOk, a, b => .bool (decide (a.s.length + b.s.length ≤ smax))
 | .mix t, a, b => D.mix t a b
 | .lesser, a, b => .int (Own.lesser a.i b.i)
 | .greater, a, b => .int (Own.greater a.i b.i)
 | .monus, a, b => .int ((a.i.toNat - b.i.toNat : Nat))
 | .appOk eb, a, b => .bool (decide (a.l.length + b.l.length ≤ smax) && decide ((a.l.length + b.l.length) * eb ≤ 140737488355328))
def Tri.sem : Tri → D → D → D → D
 | .ite, c, a, b => if c.b then a else b
 | .setNth, d, i, x => .lst (d.l.set i.i.toNat x)
 | .sub, d, lo, hi => .lst ((d.l.take hi.i.toNat).drop lo.i.toNat)
 | .ssub, d, lo, hi => .str ((d.s.take hi.i.toNat).drop lo.i.toNat)
 | .part, d, lo, n => .lst ((d.l.drop lo.i.toNat).take n.i.toNat)
 | .winOk, lo, n, d => .bool (decide (lo.i.toNat + n.i.toNat ≤ d.l.length))
 | .slOk, lo, hi, n => .bool (decide (0 ≤ lo.i) && (decide (lo.i ≤ hi.i) && decide (hi.i ≤ n.i)))
inductive X where
 | v (n : Nat)
 | u
 | i (n : Int)
 | b (b : Bool)
 | s (l : List UInt8)
 | nil
 | z (t : T)
 | un (o : Un) (x : X)
 | bi (o : Bi) (x y : X)
 | tri (o : Tri) (x y z : X)
 deriving Inhabited
def X.beq : X → X → Bool
 | .v n, .v m => Nat.beq n m
 | .u, .u => true
 | .i n, .i m => decide (n = m)
 | .b n, .b m => n == m
 | .s l, .s m => decide (l = m)
 | .nil, .nil => true
 | .z t, .z t' => decide (t = t')
 | .un o x, .un o' x' => decide (o = o') && x.beq x'
 | .bi o x y, .bi o' x' y' => decide (o = o') && (x.beq x' && y.beq y')
 | .tri o x y w, .tri o' x' y' w' => decide (o = o') && (x.beq x' && (y.beq y' && w.beq w'))
 | _, _ => false
theorem X.eq_of_beq : ∀ {x y : X}, x.beq y = true → x = y
 | .v n, y, h => by cases y <;> simp [X.beq] at h; rw [h]
 | .u, y, h => by cases y <;> simp [X.beq] at h; rfl
 | .i n, y, h => by cases y <;> simp [X.beq] at h; rw [h]
 | .b n, y, h => by cases y <;> simp [X.beq] at h; rw [h]
 | .s n, y, h => by cases y <;> simp [X.beq] at h; rw [h]
 | .nil, y, h => by cases y <;> simp [X.beq] at h; rfl
 | .z n, y, h => by cases y <;> simp [X.beq] at h; rw [h]
 | .un o x, y, h => by cases y <;> simp [X.beq] at h; rw [h.1, X.eq_of_beq h.2]
 | .bi o x1 x2, y, h => by cases y <;> simp [X.beq] at h; rw [h.1, X.eq_of_beq h.2.1, X.eq_of_beq h.2.2]
 | .tri o x1 x2 x3, y, h => by cases y <;> simp [X.beq] at h; rw [h.1, X.eq_of_beq h.2.1, X.eq_of_beq h.2.2.1, X.eq_of_beq h.2.2.2]
def X.den (ρ : List D) : X → D
 | .v n => ρ.getD n .unit
 | .u => .unit
 | .i n => .int n
 | .b c => .bool c
 | .s l => .str l
 | .nil => .lst []
 | .z t => t.zero
 | .un o x => o.sem (x.den ρ)
 | .bi o x y => o.sem (x.den ρ) (y.den ρ)
 | .tri o x y w => o.sem (x.den ρ) (y.den ρ) (w.den ρ)
def X.lt (d : Nat) : X → Bool
 | .v n => Nat.blt n d
 | .un _ x => x.lt d
 | .bi _ x y => x.lt d && y.lt d
 | .tri _ x y w => x.lt d && (y.lt d && w.lt d)
 | _ => true
theorem X.den_append {ρ : List D} (l : List D) : ∀ {x : X}, x.lt ρ.length = true → x.den (ρ ++ l) = x.den ρ
 | .v n, h => by
   simp [X.lt] at h
   simp [X.den, List.getElem?_append_left h]
 | .u, _ | .i _, _ | .b _, _ | .s _, _ | .nil, _ | .z _, _ => rfl
 | .un o x, h => by simp [X.lt] at h; simp [X.den, X.den_append l h]
 | .bi o x y, h => by simp [X.lt] at h; simp [X.den, X.den_append l h.1, X.den_append l h.2]
 | .tri o x y w, h => by simp [X.lt] at h; simp [X.den, X.den_append l h.1, X.den_append l h.2.1, X.den_append l h.2.2]
theorem D.fld_setFld : ∀ (j k : Nat) (d x : D), (d.setFld j x).fld k = if j = k then x else d.fld k
 | 0, 0, d, x => by simp
 | 0, k + 1, d, x => by simp
 | j + 1, 0, d, x => by simp
 | j + 1, k + 1, d, x => by simp [D.fld_setFld j k]
def z3y : X → Nat → X
 | .bi .pair a _, 0 => a
 | .bi .pair _ b, j + 1 => z3y b j
 | .bi (.setFld i) d x, j => if Nat.beq i j then x else z3y d j
 | .tri .ite c a b, j => .tri .ite c (z3y a j) (z3y b j)
 | .un (.tl i) d, j => .un (.fld (i + j)) d
 | .z t, j => .z (t.fld j)
 | x, j => .un (.fld j) x
theorem D.tl_fld : ∀ (i j : Nat) (d : D), (d.tl i).fld j = d.fld (i + j)
 | 0, j, d => by simp [D.tl]
 | i + 1, j, d => by rw [show i + 1 + j = (i + j) + 1 by omega]; simp [D.tl, D.tl_fld i j]
theorem D.tl_succ : ∀ (i : Nat) (d : D), (d.tl i).snd = d.tl (i + 1)
 | 0, d => rfl
 | i + 1, d => by simp [D.tl, D.tl_succ i d.snd]
theorem zEt : ∀ (j : Nat) (t : T), t.zero.fld j = (t.fld j).zero
 | 0, t => by cases t <;> rfl
 | j + 1, t => by
   cases t with
   | pair a b => exact zEt j b
   | _ => exact zEt j .unit
theorem z1p (ρ : List D) : ∀ (x : X) (j : Nat), (z3y x j).den ρ = (x.den ρ).fld j := by
 intro x j
 fun_induction z3y x j <;> simp_all [X.den, Bi.sem, Un.sem, Tri.sem, D.fld_setFld, D.tl_fld, zEt]
 split <;> rfl
def mkTl : X → X
 | .bi .pair _ b => b
 | .bi (.setFld 0) d _ => mkTl d
 | .bi (.setFld (j + 1)) d x => .bi (.setFld j) (mkTl d) x
 | .un (.tl j) d => .un (.tl (j + 1)) d
 | .z (.pair _ b) => .z b
 | x => .un (.tl 1) x
theorem zAu (ρ : List D) : ∀ (x : X), (mkTl x).den ρ = (x.den ρ).snd := by
 intro x
 fun_induction mkTl x <;> simp_all [X.den, Bi.sem, Un.sem, D.tl_succ]
 simp [D.tl]
def zSet : T → Nat → X → X
 | .pair _ b, 0, x => .bi .pair x (.z b)
 | .pair a b, j + 1, x => .bi .pair (.z a) (zSet b j x)
 | t, j, x => .bi (.setFld j) (.z t) x
theorem zLE (ρ : List D) : ∀ (t : T) (j : Nat) (x : X), (zSet t j x).den ρ = t.zero.setFld j (x.den ρ) := by
 intro t j x
 fun_induction zSet t j x <;> simp_all [X.den, Bi.sem]
def z7D : X → Nat → X → X
 | .z t, j, x => zSet t j x
 | .bi .pair _ b, 0, x => .bi .pair x b
 | .bi .pair a b, j + 1, x => .bi .pair a (z7D b j x)
 | d, j, x => .bi (.setFld j) d x
theorem z9x (ρ : List D) : ∀ (d : X) (j : Nat) (x : X), (z7D d j x).den ρ = (d.den ρ).setFld j (x.den ρ) := by
 intro d j x
 fun_induction z7D d j x <;> simp_all [X.den, Bi.sem, zLE]
def z6G : X → X
 | .tri .setNth d _ _ => z6G d
 | .nil => .i 0
 | x => .un .len x
theorem z6d (ρ : List D) : ∀ (x : X), (z6G x).den ρ = .int (x.den ρ).l.length := by
 intro x
 fun_induction z6G x <;> simp_all [X.den, Un.sem, Tri.sem]
def zD8 (i : X) : X → X
 | .tri .setNth d _ _ => zD8 i d
 | x => .bi .inb i x
theorem zFg (ρ : List D) (i : X) : ∀ (x : X), (zD8 i x).den ρ = .bool (decide (0 ≤ (i.den ρ).i) && decide ((i.den ρ).i < (x.den ρ).l.length)) := by
 intro x
 fun_induction zD8 i x <;> simp_all [X.den, Bi.sem, Tri.sem]
def zEQ (x i : X) : X := .bi .nth x i
inductive SStep where
 | f (j : Nat)
 | i (x : X)
 deriving Inhabited
abbrev z0L := List SStep
def SStep.beq : SStep → SStep → Bool
 | .f j, .f k => Nat.beq j k
 | .i x, .i y => x.beq y
 | _, _ => false
def z0L.beq : z0L → z0L → Bool
 | [], [] => true
 | a :: p, b :: q => a.beq b && z0L.beq p q
 | _, _ => false
theorem z0L.eq_of_beq : ∀ {p q : z0L}, z0L.beq p q = true → p = q
 | [], [], _ => rfl
 | [], _ :: _, h => by simp [z0L.beq] at h
 | _ :: _, [], h => by simp [z0L.beq] at h
 | a :: p, b :: q, h => by
   simp [z0L.beq] at h
   rw [z0L.eq_of_beq h.2]
   congr 1
   cases a <;> cases b <;> simp [SStep.beq] at h
   ·rw [h.1]
   ·rw [X.eq_of_beq h.1]
def SStep.conc (ρ : List D) : SStep → Step
 | .f j => .f j
 | .i x => .i (x.den ρ).i.toNat
def z0L.conc (ρ : List D) (p : z0L) : Path := p.map (SStep.conc ρ)
def SStep.lt (d : Nat) : SStep → Bool
 | .f _ => true
 | .i x => x.lt d
def z0L.lt (d : Nat) (p : z0L) : Bool := p.all (SStep.lt d)
theorem z0L.conc_append {ρ : List D} (l : List D) {p : z0L} (h : z0L.lt ρ.length p = true) : z0L.conc (ρ ++ l) p = z0L.conc ρ p := by
 unfold z0L.conc
 apply List.map_congr_left
 intro a ha
 simp only [z0L.lt, List.all_eq_true] at h
 have := h a ha
 cases a with
 | f j => rfl
 | i x => simp only [SStep.conc]; rw [X.den_append l this]
def z1X : z0L → Nat
 | [] => 0
 | .f _ :: p => z1X p
 | .i _ :: p => z1X p + 1
theorem z0T (ρ : List D) : ∀ (p : z0L), depth (z0L.conc ρ p) = z1X p
 | [] => rfl
 | .f j :: p => by simpa [z0L.conc, SStep.conc, z1X] using z0T ρ p
 | .i x :: p => by simpa [z0L.conc, SStep.conc, z1X] using z0T ρ p
def sAt : T → z0L → T
 | t, [] => t
 | t, .f j :: p => sAt (t.fld j) p
 | t, .i _ :: p => sAt t.elem p
theorem z10 (ρ : List D) : ∀ (p : z0L) (t : T), t.at (z0L.conc ρ p) = sAt t p
 | [], _ => rfl
 | .f j :: p, t => by simpa [z0L.conc, SStep.conc, sAt] using z10 ρ p (t.fld j)
 | .i x :: p, t => by simpa [z0L.conc, SStep.conc, sAt] using z10 ρ p t.elem
def z82 : T → z0L → T → T
 | _, [], x => x
 | t, .f j :: p, x => t.setFld j (z82 (t.fld j) p x)
 | t, _, _ => t
theorem z4R (ρ : List D) : ∀ (p : z0L) (t x : T), t.set (z0L.conc ρ p) x = z82 t p x
 | [], _, _ => rfl
 | .f j :: p, t, x => by simpa [z0L.conc, SStep.conc, z82] using by rw [← z4R ρ p (t.fld j) x]; rfl
 | .i y :: p, t, x => by simp [z0L.conc, SStep.conc, z82]
def zCb : T → z0L → Bool
 | _, [] => true
 | t, .f j :: p => t.has j && zCb (t.fld j) p
 | _, .i _ :: _ => false
theorem z4J (ρ : List D) : ∀ (p : z0L) (t : T), t.flat (z0L.conc ρ p) = zCb t p
 | [], _ => rfl
 | .f j :: p, t => by simpa [z0L.conc, SStep.conc, zCb] using by rw [← z4J ρ p (t.fld j)]; rfl
 | .i y :: p, t => by simp [z0L.conc, SStep.conc, zCb]
def getX : X → z0L → X
 | x, [] => x
 | x, .f j :: p => getX (z3y x j) p
 | x, .i i :: p => getX (zEQ x i) p
theorem z1L (ρ : List D) : ∀ (p : z0L) (x : X), (getX x p).den ρ = (x.den ρ).get (z0L.conc ρ p)
 | [], _ => rfl
 | .f j :: p, x => by
   have := z1L ρ p (z3y x j)
   rw [z1p] at this
   simpa [z0L.conc, SStep.conc, getX] using this
 | .i i :: p, x => by
   have := z1L ρ p (zEQ x i)
   simpa [z0L.conc, SStep.conc, getX, zEQ, X.den, Bi.sem] using this
def setX : X → z0L → X → X
 | _, [], y => y
 | x, .f j :: p, y => z7D x j (setX (z3y x j) p y)
 | x, .i i :: p, y => .tri .setNth x i (setX (zEQ x i) p y)
theorem z5H (ρ : List D) : ∀ (p : z0L) (x y : X), (setX x p y).den ρ = (x.den ρ).set (z0L.conc ρ p) (y.den ρ)
 | [], _, _ => rfl
 | .f j :: p, x, y => by
   have := z5H ρ p (z3y x j) y
   rw [z1p] at this
   simp [z0L.conc, SStep.conc, setX, z9x] at this ⊢
   rw [this]
 | .i i :: p, x, y => by
   have := z5H ρ p (zEQ x i) y
   simp [z0L.conc, SStep.conc, setX, X.den, Bi.sem, Tri.sem, zEQ] at this ⊢
   rw [this]
def okX : T → X → z0L → Option (List X)
 | _, _, [] => some []
 | t, x, .f j :: p => if t.has j then okX (t.fld j) (z3y x j) p else none
 | t, x, .i i :: p => if t.own then (okX t.elem (zEQ x i) p).map (zD8 i x :: ·) else none
theorem z3g (ρ : List D) : ∀ (p : z0L) {t : T} {x : X} {as : List X}, okX t x p = some as → (∀ a ∈ as, (a.den ρ).b = true) → Ok t (x.den ρ) (z0L.conc ρ p)
 | [], _, _, _, _, _ => trivial
 | .f j :: p, t, x, as, h, ha => by
   simp only [okX] at h
   split at h
   ·rename_i hj
    have := z3g ρ p h ha
    rw [z1p] at this
    simpa [z0L.conc, SStep.conc, hj] using this
   ·cases h
 | .i i :: p, t, x, as, h, ha => by
   simp only [okX] at h
   split at h
   ·rename_i hj
    simp only [Option.map_eq_some_iff] at h
    obtain ⟨as', h1, rfl⟩ := h
    have := z3g ρ p h1 (fun a hm => ha a (by simp [hm]))
    have h2 := ha _ (List.mem_cons_self ..)
    rw [zFg] at h2
    simp only [D.b_bool, Bool.and_eq_true, decide_eq_true_eq] at h2
    have e : (zEQ x i).den ρ = (x.den ρ).nth (i.den ρ).i.toNat := rfl
    rw [e] at this
    refine ⟨hj, ?_, this⟩
    omega
   ·cases h
end
end Go.Own
namespace Go.Own
variable [Glb]
noncomputable section
open Go
inductive SCap where
 | val (t : T) (x : X)
 | ptr (r : Nat) (v : Ver) (p : z0L)
 deriving Inhabited
inductive SV where
 | undef
 | nil
 | val (t : T) (x : X)
 | tup (t : T) (x : X)
 | box (t : T) (x : X)
 | ref (r : Nat) (v : Ver) (p : z0L) (t : T) (x : X)
 | win (r : Nat) (v : Ver) (p : z0L) (e : T) (lo n : X)
 | ptr (r : Nat) (v : Ver) (p : z0L)
 | clo (f : FuncId) (l : List SCap)
 | bref (t : T) (x : X) (r : Nat) (v : Ver) (p : z0L)
 deriving Inhabited
structure SC where
 av : SV
 v : Ver
 deriving Inhabited
abbrev SC.nul : SC := ⟨.undef, ⟨0, 0, 0⟩⟩
structure SS where
 l : List SC
 f : List (X × Bool)
abbrev SWr := List (Nat × SC)
def SCap.conc (ρ : List D) : SCap → Cap
 | .val t x => .val t (x.den ρ)
 | .ptr r v p => .ptr r v (z0L.conc ρ p)
def SV.conc (ρ : List D) : SV → AV
 | .undef => .undef
 | .nil => .nil
 | .val t x => .val t (x.den ρ)
 | .tup t x => .tup t (x.den ρ)
 | .box t x => .box t (x.den ρ)
 | .ref r v p t x => .ref r v (z0L.conc ρ p) t (x.den ρ)
 | .win r v p e lo n => .win r v (z0L.conc ρ p) e (lo.den ρ).i.toNat (n.den ρ).i.toNat
 | .ptr r v p => .ptr r v (z0L.conc ρ p)
 | .clo f l => .clo f (l.map (SCap.conc ρ))
 | .bref t x r v p => .bref t (x.den ρ) r v (z0L.conc ρ p)
def SC.conc (ρ : List D) (c : SC) : Cl := ⟨c.av.conc ρ, c.v⟩
def sget : List SC → Nat → SC
 | [], _ => SC.nul
 | x :: _, 0 => x
 | _ :: xs, n + 1 => sget xs n
def sset : List SC → Nat → SC → List SC
 | [], 0, c => [c]
 | [], n + 1, c => SC.nul :: sset [] n c
 | _ :: xs, 0, c => c :: xs
 | x :: xs, n + 1, c => x :: sset xs n c
def z8o : List SC → SWr → List SC
 | l, [] => l
 | l, (s, c) :: w => z8o (sset l s c) w
def z1r (ρ : List D) (w : SWr) : Wr := w.map fun x => (x.1, x.2.conc ρ)
def z0s (ρ : List D) (l : List SC) : St := St.of (l.map (SC.conc ρ))
theorem SC.conc_nul (ρ : List D) : SC.nul.conc ρ = Cl.none := rfl
theorem zHc (ρ : List D) : ∀ (l : List SC) (s : Nat), getC (l.map (SC.conc ρ)) s = (sget l s).conc ρ
 | [], s => rfl
 | x :: xs, 0 => rfl
 | x :: xs, s + 1 => zHc ρ xs s
theorem z0g (ρ : List D) (l : List SC) (s : Nat) : z0s ρ l s = (sget l s).conc ρ := by
 unfold z0s; rw [St.of_get, zHc]
theorem zEp (ρ : List D) : ∀ (l : List SC) (s : Nat) (c : SC), setC (l.map (SC.conc ρ)) s (c.conc ρ) = (sset l s c).map (SC.conc ρ)
 | [], 0, c => rfl
 | [], s + 1, c => by
   have := zEp ρ [] s c
   simp only [List.map_nil] at this
   simp [sset, this, SC.conc_nul]
 | x :: xs, 0, c => rfl
 | x :: xs, s + 1, c => by simp [sset, zEp ρ xs s c]
theorem z4m (ρ : List D) (l : List SC) (s : Nat) (c : SC) : (z0s ρ l).put s (c.conc ρ) = z0s ρ (sset l s c) := by
 unfold z0s; rw [St.of_put, zEp]
theorem z5o (ρ : List D) : ∀ (w : SWr) (l : List SC), (z0s ρ l).apply (z1r ρ w) = z0s ρ (z8o l w)
 | [], l => rfl
 | (s, c) :: w, l => by
   show ((z0s ρ l).put s (c.conc ρ)).apply (z1r ρ w) = _
   rw [z4m, z5o ρ w]; rfl
structure Ent where
 g : FuncId
 as : List (Mode × T)
 one : Bool
 res : T
 F : List D → Option D
def z14 : List (Mode × T) → List D → List Arg
 | (m, t) :: as, d :: ds => ⟨m, t, d⟩ :: z14 as ds
 | _, _ => []
def z4W (as : List (Mode × T)) : Bool := as.any fun a => a.1 = .io || a.1 = .iop
def z3f : List (Mode × T) → D → List D
 | [], _ => []
 | (.io, _) :: as, d => d.fst :: z3f as d.snd
 | (.iop, _) :: as, d => d.fst :: z3f as d.snd
 | _ :: as, d => .unit :: z3f as d
def Ent.mkRes (e : Ent) (d : D) : Res := if e.one then .one e.res (if z4W e.as then d.fst else d) else .many e.res (if z4W e.as then d.fst else d)
structure Ent.Ok (P : Program) (e : Ent) : Prop where
 callable : z4C P e.g
 valid : ∀ ds out, ds.length = e.as.length → e.F ds = some out → z87 P e.g (z14 e.as ds) fun R O => R = e.mkRes out ∧ O = z3f e.as (if z4W e.as then out.snd else .unit)
structure OpR where
 R : List Nat
 as : List X
 call : Option (Nat × List X)
 W : SWr
abbrev OR := Option OpR
def retS (W : SWr) : OR := some ⟨[], [], none, W⟩
def addR (s : Nat) (r : OpR) : OpR := { r with R := s :: r.R }
def addA (as : List X) (r : OpR) : OpR := { r with as := as ++ r.as }
def askS (S : List SC) (s : Nat) (k : SC → OR) : OR := (k (sget S s)).map (addR s)
def z0Y (b : Bool) (as : List X) (k : OR) : OR := if b then k.map (addA as) else none
def zCY (cs : List Ent) (i : Nat) (ds : List D) : Option D :=
 match cs[i]? with
 | some e => e.F ds
 | none => none
section
variable (P : Program) (cs : List Ent) (ρ : List D) (S : List SC)
def Good (r : OpR) (R0 : List Nat) (K : List Nat → Wr → Prop) : Prop :=
 (∀ a ∈ r.as, (a.den ρ).b = true) ∧ match r.call with
   | none => ∀ R', (∀ s ∈ R', s ∈ R0 ∨ s ∈ r.R) → K R' (z1r ρ r.W)
   | some (i, xs) => ∃ out, zCY cs i (xs.map (X.den ρ)) = some out ∧ ∀ R', (∀ s ∈ R', s ∈ R0 ∨ s ∈ r.R) → K R' (z1r (ρ ++ [out]) r.W)
def Sim (m : OR) (a : A) : Prop := ∀ r, m = some r → ∀ R0 K, Good cs ρ r R0 K → a.wpD (VX P) R0 (z0s ρ S) K
variable {P cs ρ S}
theorem Sim.nope {a : A} : Sim P cs ρ S none a := by intro r h; cases h
theorem Sim.ret {W : SWr} : Sim P cs ρ S (retS W) (.ret (z1r ρ W)) := by
 intro r h R0 K hg
 cases h
 exact hg.2 R0 (fun s hs => .inl hs)
theorem Sim.ret' {W : SWr} {W' : Wr} (h : z1r ρ W = W') : Sim P cs ρ S (retS W) (.ret W') := h ▸ Sim.ret
theorem Sim.ask {s : Nat} {k : SC → OR} {k' : Cl → A} (h : Sim P cs ρ S (k (sget S s)) (k' ((sget S s).conc ρ))) : Sim P cs ρ S (askS S s k) (.ask s k') := by
 intro r hr R0 K hg
 simp only [askS, Option.map_eq_some_iff] at hr
 obtain ⟨r0, h0, rfl⟩ := hr
 simp only [A.wpD]
 rw [z0g]
 refine h r0 h0 (s :: R0) K ⟨hg.1, ?_⟩
 have h2 := hg.2
 simp only [addR] at h2
 cases hc : r0.call with
 | none =>
   rw [hc] at h2
   intro R' hR'
   refine h2 R' fun s' hs' => ?_
   rcases hR' s' hs' with h | h
   ·simp only [List.mem_cons] at h ⊢; rcases h with h | h; exact .inr (.inl h); exact .inl h
   ·exact .inr (by simp [h])
 | some c =>
   rw [hc] at h2
   obtain ⟨out, ho, h2⟩ := h2
   refine ⟨out, ho, fun R' hR' => h2 R' fun s' hs' => ?_⟩
   rcases hR' s' hs' with h | h
   ·simp only [List.mem_cons] at h ⊢; rcases h with h | h; exact .inr (.inl h); exact .inl h
   ·exact .inr (by simp [h])
theorem Sim.need {b : Bool} {as : List X} {k : OR} {p : Prop} {a : A} (h1 : b = true → (∀ a ∈ as, (a.den ρ).b = true) → p) (h2 : b = true → (∀ a ∈ as, (a.den ρ).b = true) → Sim P cs ρ S k a) :
 Sim P cs ρ S (z0Y b as k) (.need p a) := by
 intro r hr R0 K hg
 unfold z0Y at hr
 split at hr
 ·rename_i hb
  simp only [Option.map_eq_some_iff] at hr
  obtain ⟨r0, h0, rfl⟩ := hr
  have ha : ∀ a ∈ as, (a.den ρ).b = true := fun a hm => hg.1 a (by simp [addA, hm])
  exact ⟨h1 hb ha, h2 hb ha r0 h0 R0 K ⟨fun a hm => hg.1 a (by simp [addA, hm]), hg.2⟩⟩
 ·cases hr
theorem Sim.needB {b : Bool} {k : OR} {p : Prop} {a : A} (h1 : b = true → p) (h2 : b = true → Sim P cs ρ S k a) : Sim P cs ρ S (z0Y b [] k) (.need p a) :=
 Sim.need (fun hb _ => h1 hb) (fun hb _ => h2 hb)
theorem Sim.guard {b : Bool} {as : List X} {k : OR} {a : A} (h2 : b = true → (∀ a ∈ as, (a.den ρ).b = true) → Sim P cs ρ S k a) : Sim P cs ρ S (z0Y b as k) a := by
 intro r hr R0 K hg
 unfold z0Y at hr
 split at hr
 ·rename_i hb
  simp only [Option.map_eq_some_iff] at hr
  obtain ⟨r0, h0, rfl⟩ := hr
  have ha : ∀ a ∈ as, (a.den ρ).b = true := fun a hm => hg.1 a (by simp [addA, hm])
  exact h2 hb ha r0 h0 R0 K ⟨fun a hm => hg.1 a (by simp [addA, hm]), hg.2⟩
 ·cases hr
theorem Sim.ite {b : Bool} {c : Prop} [Decidable c] {m1 m2 : OR} {a1 a2 : A} (hbc : b = true ↔ c) (h1 : c → Sim P cs ρ S m1 a1) (h2 : ¬ c → Sim P cs ρ S m2 a2) :
 Sim P cs ρ S (if b then m1 else m2) (if c then a1 else a2) := by
 by_cases h : c
 ·rw [if_pos h, if_pos (hbc.2 h)]; exact h1 h
 ·rw [if_neg h, if_neg (fun hb => h (hbc.1 hb))]; exact h2 h
end
def zLV (t : Nat) (v : Ver) (ty : T) (x : X) : SV := match ty with
 | .lst true e => .ref t ⟨v.id, v.v0, 0⟩ [] (.lst true e) .nil
 | ty => .ref t v [] ty x
def z3n (t : Nat) (c : SC) : SV :=
 match c.av with
 | .val ty x => if ty.plain then .val ty x else zLV t c.v ty x
 | .box _ _ => .ptr t (nv0 c.v) []
 | .bref _ _ _ _ _ => .ptr t (nv0 c.v) []
 | .tup _ _ => .undef
 | a => a
theorem z3q (ρ : List D) (t : Nat) (c : SC) : (z3n t c).conc ρ = z4n t (c.conc ρ) := by
 obtain ⟨a, v⟩ := c
 cases a with
 | val ty x =>
   simp only [z3n, SC.conc, SV.conc, z4n]
   by_cases h : ty.plain = true
   ·simp only [h, if_true, SV.conc]
   ·simp only [h, if_false, Bool.false_eq_true]
    cases ty with
    | lst o e => cases o <;> rfl
    | _ => rfl
 | _ => rfl
section
variable (S : List SC)
def sopd (x : Operand) (k : SV → OR) : OR :=
 match x with
 | .tmp t => askS S t fun c => k (z3n t c)
 | .const (.int kd n) => z0Y (decide (kd.min ≤ n) && decide (n ≤ kd.max)) [] (k (.val (.int kd) (.i n)))
 | .const (.bool b) => k (.val .bool (.b b))
 | .const (.string s) => z0Y (Nat.ble s.size smax) [] (k (.val .str (.s s.data.toList)))
 | .const (.slice none 0 0) => k .nil
 | .const .nilIface => k (.val .err (.b false))
 | .func f => k (.clo f [])
 | _ => none
variable {P : Program} {cs : List Ent} {ρ : List D} {S}
theorem Sim.opd {x : Operand} {k : SV → OR} {k' : AV → A} (h : ∀ a, Sim P cs ρ S (k a) (k' (a.conc ρ))) : Sim P cs ρ S (sopd S x k) (opd x k') := by
 unfold sopd Own.opd
 split
 ·refine Sim.ask ?_
  rw [← z3q]; exact h _
 ·exact Sim.needB (fun hb => by simpa using hb) fun _ => h _
 ·exact h _
 ·exact Sim.needB (fun hb => Nat.le_of_ble_eq_true hb) fun _ => h _
 ·exact h _
 ·exact h _
 ·exact h _
 ·exact Sim.nope
end
def SV.off (d : Nat) : SV → Bool
 | .ref r .. => !Nat.beq r d
 | .win r .. => !Nat.beq r d
 | .ptr r .. => !Nat.beq r d
 | .bref _ _ r .. => !Nat.beq r d
 | .clo _ l => l.all fun c => match c with | .ptr r _ _ => !Nat.beq r d | _ => true
 | _ => true
theorem z2D {a b : Nat} (h : Nat.beq a b = false) : a ≠ b := by
 rintro rfl
 rw [Nat.beq_refl] at h; cases h
theorem SV.off_conc {ρ : List D} {d : Nat} {a : SV} (h : a.off d = true) : (a.conc ρ).off d := by
 cases a <;> simp [SV.off, SV.conc, AV.off] at h ⊢
 ·exact z2D h
 ·exact z2D h
 ·exact z2D h
 ·rename_i f l
  intro c hc
  have := h c hc
  cases c <;> simp [SCap.conc] at this ⊢
  exact z2D this
 ·exact z2D h
def inN (l : List Nat) (n : Nat) : Bool := l.any (Nat.beq n)
theorem z3S {l : List Nat} {n : Nat} : inN l n = true ↔ n ∈ l := by
 simp [inN]
section
variable (Γ : Env) (S : List SC)
def z7N (d : Nat) : Bool := Nat.blt d Γ.n && !inN Γ.fx d
theorem z0r {Γ : Env} {d : Nat} (h : z7N Γ d = true) : d < Γ.n ∧ d ∉ Γ.fx := by
 simp [z7N] at h
 refine ⟨h.1, fun hm => ?_⟩
 have := z3S.2 hm
 rw [h.2] at this; cases this
def sout (dst : Option Nat) (a : SV) : OR :=
 match dst with
 | none => retS []
 | some d => askS S d fun c => z0Y (z7N Γ d && a.off d) [] (retS [(d, ⟨a, c.v.kill⟩)])
variable {P : Program} {cs : List Ent} {ρ : List D} {Γ S}
theorem Sim.out' {dst : Option Nat} {a : SV} {a' : AV} (ha : a.conc ρ = a') : Sim P cs ρ S (sout Γ S dst a) (out Γ dst a') := by
 subst ha
 unfold sout Own.out
 cases dst with
 | none => exact Sim.ret
 | some d =>
   refine Sim.ask (Sim.needB (fun hb => ?_) fun _ => Sim.ret)
   simp only [Bool.and_eq_true] at hb
   exact ⟨(z0r hb.1).1, (z0r hb.1).2, SV.off_conc hb.2⟩
theorem Sim.out {dst : Option Nat} {a : SV} : Sim P cs ρ S (sout Γ S dst a) (out Γ dst (a.conc ρ)) := Sim.out' rfl
end
def SC.root (c : SC) : Option (T × X × Bool) :=
 match c.av with
 | .val t x => some (t, x, false)
 | .tup t x => some (t, x, false)
 | .box t x => some (t, x, true)
 | .bref t x _ _ _ => some (t.moved, x, true)
 | _ => none
def SC.setRoot (c : SC) (t : T) (x : X) (v : Ver) : SC :=
 match c.av with
 | .val _ _ => ⟨.val t x, v⟩
 | .tup _ _ => ⟨.tup t x, v⟩
 | .box _ _ => ⟨.box t x, v⟩
 | .bref _ _ _ _ _ => ⟨.box t x, v⟩
 | a => ⟨a, v⟩
theorem SC.root_conc (ρ : List D) (c : SC) : (c.conc ρ).root = c.root.map fun x => (x.1, x.2.1.den ρ, x.2.2) := by
 obtain ⟨a, v⟩ := c
 cases a <;> rfl
theorem SC.setRoot_conc (ρ : List D) (c : SC) (t : T) (x : X) (v : Ver) : (c.setRoot t x v).conc ρ = (c.conc ρ).setRoot t (x.den ρ) v := by
 obtain ⟨a, w⟩ := c
 cases a <;> rfl
def z3A (S : List SC) (r : Nat) (k : SC → T → X → Bool → OR) : OR :=
 askS S r fun c => match c.root with
  | some (t, x, bx) => k c t x bx
  | none => none
section
variable {P : Program} {cs : List Ent} {ρ : List D} {S : List SC} {Γ : Env}
theorem Sim.rootOf {r : Nat} {k : SC → T → X → Bool → OR} {k' : Cl → T → D → Bool → A} (h : ∀ c t x bx, c = sget S r → c.root = some (t, x, bx) → Sim P cs ρ S (k c t x bx) (k' (c.conc ρ) t (x.den ρ) bx)) :
 Sim P cs ρ S (z3A S r k) (rootOf r k') := by
 unfold z3A Own.rootOf
 refine Sim.ask ?_
 rw [SC.root_conc]
 cases hr : (sget S r).root with
 | none => exact Sim.nope
 | some q => obtain ⟨t, x, bx⟩ := q; exact h _ t x bx rfl hr
def zG5 : SWr → Nat → Option SC
 | [], _ => none
 | (r, c) :: ws, s => match zG5 ws s with
   | some c => some c
   | none => if Nat.beq r s then some c else none
theorem z9l (ρ : List D) : ∀ (ws : SWr) (s : Nat), look (z1r ρ ws) s = (zG5 ws s).map (SC.conc ρ)
 | [], _ => rfl
 | (r, c) :: ws, s => by
   show look ((r, c.conc ρ) :: z1r ρ ws) s = _
   simp only [look, zG5, z9l ρ ws s]
   cases zG5 ws s with
   | some c => rfl
   | none =>
     simp only [Option.map_none]
     by_cases h : r = s
     ·simp [h]
     ·have : Nat.beq r s = false := by
       cases hb : Nat.beq r s with
       | false => rfl
       | true => exact absurd (Nat.eq_of_beq_eq_true hb) h
      simp [h, this]
def zEm (S : List SC) (ws : SWr) (s : Nat) (k : SC → OR) : OR :=
 match zG5 ws s with
 | some c => k c
 | none => askS S s k
theorem Sim.askW {ws : SWr} {s : Nat} {k : SC → OR} {k' : Cl → A} (h : ∀ c, Sim P cs ρ S (k c) (k' (c.conc ρ))) : Sim P cs ρ S (zEm S ws s k) (askW (z1r ρ ws) s k') := by
 unfold zEm Own.askW
 rw [z9l]
 cases zG5 ws s with
 | some c => exact h c
 | none => exact Sim.ask (h _)
def z1M (v c : Ver) (m : Nat) : Bool := Nat.beq v.id c.id && (Nat.beq v.v0 c.v0 && (Nat.beq m 0 || Nat.beq v.v1 c.v1))
def z3u (v c : Ver) (m : Nat) : Bool := Nat.beq v.id c.id && ((Nat.beq m 0 || Nat.beq v.v0 c.v0) && (Nat.ble m 1 || Nat.beq v.v1 c.v1))
theorem z0R {v c : Ver} {m : Nat} (h : z1M v c m = true) : z1Q v c m := by
 simp [z1M] at h
 refine ⟨h.1, h.2.1, fun hm => ?_⟩
 rcases h.2.2 with h | h
 ·exact absurd h hm
 ·exact h
theorem z1s {v c : Ver} {m : Nat} (h : z3u v c m = true) : z3t v c m := by
 simp [z3u] at h
 refine ⟨h.1, fun hm => ?_, fun hm => ?_⟩
 ·rcases h.2.1 with h | h
  ·exact absurd h hm
  ·exact h
 ·rcases h.2.2 with h | h
  ·omega
  ·exact h
def smix (t : T) (x y : X) : X := if t.own || x.beq y then y else .bi (.mix t) x y
theorem z7G (ρ : List D) (t : T) (x y : X) : (smix t x y).den ρ = D.mix t (x.den ρ) (y.den ρ) := by
 unfold smix
 split
 ·rename_i h
  rw [Bool.or_eq_true] at h
  rcases h with h | h
  ·cases t with
   | lst o e =>
     cases o with
     | true =>
       show _ = D.mix _ _ _
       unfold D.mix
       split <;> rfl
     | false => cases h
   | _ => cases h
  ·rw [X.eq_of_beq h]
   simp [D.mix]
 ·rfl
def zK9 : T → X → X → X
 | .pair t u, x, y => .bi .pair (zK9 t (z3y x 0) (z3y y 0)) (zK9 u (mkTl x) (mkTl y))
 | .lst true _, _, y => y
 | .unit, _, _ => .u
 | _, x, _ => x
theorem zCh (ρ : List D) : ∀ (t : T) (x y : X), (zK9 t x y).den ρ = D.mixR t (x.den ρ) (y.den ρ)
 | .pair t u, x, y => by
   simp [zK9, X.den, Bi.sem, zCh ρ t, zCh ρ u, z1p, zAu]
 | .lst true _, x, y | .lst false _, x, y | .unit, _, _ | .int _, _, _ | .bool, _, _ | .str, _, _ | .ptr _, _, _ | .fn _ _, _, _ | .err, _, _ | .gone, _, _ => rfl
def z5l (S : List SC) (ws : SWr) (want : T) (x : Operand) (k : T → X → SWr → OR) : OR :=
 match x with
 | .tmp t => zEm S ws t fun c => match c.av with
   | .val ty x => if ty.plain then k ty x [] else k ty x [(t, ⟨.undef, c.v.kill⟩)]
   | .ref r v p ty x => zEm S ws r fun cr => match cr.root with
     | some (tr, xr, _) =>
       z0Y (z1M v cr.v 0 && (zCb tr p && decide (sAt tr p = ty))) [] (k ty (smix ty x (getX xr p)) [(r, cr.setRoot (z82 tr p ty.moved) xr cr.v.head)])
     | none => none
   | .win r v p e lo n => zEm S ws r fun cr => match cr.root with
     | some (tr, xr, _) =>
       z0Y (z1M v cr.v 0 && (zCb tr p && decide (sAt tr p = .lst true e))) [.tri .winOk lo n (getX xr p)] (k (.lst true e) (.tri .part (getX xr p) lo n) [(r, cr.setRoot (z82 tr p .gone) xr cr.v.head)])
     | none => none
   | .nil => match want with
     | .lst _ e => k (.lst true e) .nil []
     | _ => none
   | _ => none
 | _ => sopd S x fun a => match a with
   | .val ty x => k ty x []
   | .nil => match want with
     | .lst _ e => k (.lst true e) .nil []
     | _ => none
   | _ => none
theorem Sim.takeW {ws : SWr} {want : T} {x : Operand} {k : T → X → SWr → OR} {k' : T → D → Wr → A} (h : ∀ t x w, Sim P cs ρ S (k t x w) (k' t (x.den ρ) (z1r ρ w))) :
 Sim P cs ρ S (z5l S ws want x k) (takeW (z1r ρ ws) want x k') := by
 unfold z5l Own.takeW
 split
 ·refine Sim.askW fun c => ?_
  obtain ⟨a, v⟩ := c
  cases a with
  | val ty x =>
    simp only [SC.conc, SV.conc]
    refine Sim.ite Iff.rfl (fun _ => h ty x []) (fun _ => h ty x _)
  | ref r v p ty x =>
    simp only [SC.conc, SV.conc]
    refine Sim.askW fun cr => ?_
    rw [SC.root_conc]
    cases hr : cr.root with
    | none => exact Sim.nope
    | some q =>
      obtain ⟨tr, xr, bx⟩ := q
      simp only [Option.map_some]
      refine Sim.needB (fun hb => ?_) fun hb => ?_
      ·simp only [Bool.and_eq_true, decide_eq_true_eq] at hb
       exact ⟨z0R hb.1, by rw [z4J]; exact hb.2.1, by rw [z10]; exact hb.2.2⟩
      ·have := h ty (smix ty x (getX xr p)) [(r, cr.setRoot (z82 tr p ty.moved) xr cr.v.head)]
       rw [z7G, z1L] at this
       simp only [z1r, List.map_cons, List.map_nil, SC.setRoot_conc] at this
       rw [z4R]
       exact this
  | win r v p e lo n =>
    simp only [SC.conc, SV.conc]
    refine Sim.askW fun cr => ?_
    rw [SC.root_conc]
    cases hr : cr.root with
    | none => exact Sim.nope
    | some q =>
      obtain ⟨tr, xr, bx⟩ := q
      simp only [Option.map_some]
      refine Sim.need (fun hb ha => ?_) fun hb ha => ?_
      ·simp only [Bool.and_eq_true, decide_eq_true_eq] at hb
       have h1 := ha _ (List.mem_singleton.2 rfl)
       simp only [X.den, Tri.sem, D.b_bool, decide_eq_true_eq, z1L] at h1
       exact ⟨z0R hb.1, by rw [z4J]; exact hb.2.1, by rw [z10]; exact hb.2.2, h1⟩
      ·have := h (.lst true e) (.tri .part (getX xr p) lo n) [(r, cr.setRoot (z82 tr p .gone) xr cr.v.head)]
       simp only [X.den, Tri.sem, z1L, z1r, List.map_cons, List.map_nil, SC.setRoot_conc] at this
       rw [z4R]
       exact this
  | nil =>
    simp only [SC.conc, SV.conc]
    cases want <;> first | exact Sim.nope | exact h _ _ []
  | _ => exact Sim.nope
 ·rename_i hx
  have key : Sim P cs ρ S (sopd S x fun a => match a with
   | .val ty x => k ty x []
   | .nil => match want with
     | .lst _ e => k (.lst true e) .nil []
     | _ => none
   | _ => none) (Own.opd x fun a => match a with
     | .val ty d => k' ty d []
     | .nil => match want with
       | .lst _ e => k' (.lst true e) (.lst []) []
       | _ => .fail
     | _ => .fail) := by
   refine Sim.opd fun a => ?_
   cases a with
   | val ty x => exact h ty x []
   | nil => cases want <;> first | exact Sim.nope | exact h _ _ []
   | _ => exact Sim.nope
  cases x with
  | tmp t => exact (hx t rfl).elim
  | _ => exact key
end
end
end Go.Own
namespace Go.Own
open Go
variable [Glb]
theorem T.view_has (t : T) (j : Nat) : t.view.has j = t.has j := by
 induction t generalizing j with
 | pair a b _ ihb => cases j with
   | zero => rfl
   | succ j => simpa using ihb j
 | _ => rfl
theorem T.view_off (t : T) (j : Nat) : t.view.off j = t.off j := by
 induction t generalizing j with
 | pair a b _ ihb => cases j with
   | zero => rfl
   | succ j => simpa using ihb j
 | _ => rfl
def Res.frz : Res → Res
 | .one t d => .one t.view d
 | .many t d => .many t.view d
theorem zGK (t : T) (cs : List Value) : z0Q t.view cs = z0Q t cs := by
 unfold z0Q
 rw [T.view_agg]
theorem ResV.frz {h : Heap} {V V' : Nat → Prop} {κ v} {r : Res} (hr : ResV h V κ v r) (hV : ∀ b, V b → V' b) (hκ : ∀ b, b ∈ κ.blocks → V' b) : ∃ κ', ResV h V' κ' v r.frz ∧ κ'.blocks = [] := by
 cases r with
 | one t d =>
   obtain ⟨cs, hR, rfl⟩ := hr
   exact ⟨t.k0, ⟨cs, hR.toView hV hκ, (zGK t cs).symm⟩, T.k0_blocks t⟩
 | many t d =>
   obtain ⟨cs, hR, vs, rfl, hp⟩ := hr
   refine ⟨t.k0, ⟨cs, hR.toView hV hκ, vs, rfl, fun j hj => ?_⟩, T.k0_blocks t⟩
   rw [T.view_has] at hj
   rw [hp j hj, T.view_off, ← T.view_fld, T.view_size, zGK]
theorem ArgV.mono {h : Heap} {V V' : Nat → Prop} {a : Arg} {κ : K} {v : Value} (ha : ArgV h V a κ v) (hV : ∀ b, V b → V' b) : ArgV h V' a κ v := by
 have key : ∀ {t d κ cs}, Rep h V t d κ cs → Rep h V' t d κ cs := fun hr => hr.frame (fun _ _ => rfl) (fun _ _ => rfl) hV
 unfold ArgV at ha ⊢
 split at ha
 ·obtain ⟨b, κ0, arr, ty, h1, h2, h3, h4⟩ := ha
  exact ⟨b, κ0, arr, ty, h1, h2, h3, key h4⟩
 ·obtain ⟨h1, cs, h2, h3⟩ := ha
  exact ⟨h1, cs, key h2, h3⟩
 ·obtain ⟨cs, h2, h3⟩ := ha
  exact ⟨cs, key h2, h3⟩
def Ent.frz (e : Ent) : Ent := { e with res := e.res.view }
theorem Ent.frz_ok {P : Program} {e : Ent} (h : e.Ok P) : e.frz.Ok P := by
 refine ⟨h.callable, fun ds out hl hF => ?_⟩
 intro w V κs vs hpre hg
 refine (h.valid ds out hl hF w V κs vs hpre hg).mono ?_
 rintro c w' ⟨res, outs, κr, κo, V', v, ⟨rfl, rfl⟩, rfl, hp⟩
 have hlt := Rep.lt_size hp.res
 obtain ⟨κ', hr, h0⟩ := ResV.frz (V' := fun b => V' b ∨ b ∈ κr.blocks) hp.res (fun b h => .inl h) (fun b h => .inr h)
 have e1 : (e.mkRes out).frz = e.frz.mkRes out := by
  unfold Ent.mkRes Ent.frz
  show Res.frz (if e.one = true then _ else _) = if e.one = true then _ else _
  split <;> rfl
 refine ⟨e.frz.mkRes out, _, κ', κo, fun b => V' b ∨ b ∈ κr.blocks, v, ⟨rfl, rfl⟩, rfl, ?_⟩
 refine ⟨hp.same, hp.size, hp.frame, fun b h => .inl (hp.v0 b h), ?_, ?_, ?_, ?_, ?_, ?_, ?_, hp.ond, hp.osrc, ?_, ?_⟩
 ·intro b hb
  rcases hb with hb | hb
  ·exact hp.v1 b hb
  ·exact .inr (hp.src b hb)
 ·intro b hb
  rcases hb with hb | hb
  ·exact hp.lt b hb
  ·exact hlt b hb
 ·rw [← e1]; exact hr
 ·rw [h0]; exact List.nodup_nil
 ·intro b hb; rw [h0] at hb; cases hb
 ·intro b hb; rw [h0] at hb; cases hb
 ·intro i a u ha hu hm
  exact ArgV.mono (hp.out i a u ha hu hm) (fun b h => .inl h)
 ·intro i hi b hb hv
  rcases hv with hv | hv
  ·exact hp.odv i hi b hb hv
  ·exact hp.odj i hi b hb hv
 ·intro i hi b hb; rw [h0]; intro h; cases h
end Go.Own
