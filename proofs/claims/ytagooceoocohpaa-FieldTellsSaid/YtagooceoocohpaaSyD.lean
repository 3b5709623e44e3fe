/-
  The operations that neither read nor write memory, on abstract values.
-/
import Derived.Test.YtagooceoocohpaaSyC
set_option linter.unusedVariables false
namespace Go.Sx

/-! ### Integers -/

def andI (k : IntKind) (x y : Int) : Int := k.wrap (BitVec.ofInt k.bits x &&& BitVec.ofInt k.bits y).toNat
def orI (k : IntKind) (x y : Int) : Int := k.wrap (BitVec.ofInt k.bits x ||| BitVec.ofInt k.bits y).toNat
def xorI (k : IntKind) (x y : Int) : Int := k.wrap (BitVec.ofInt k.bits x ^^^ BitVec.ofInt k.bits y).toNat
def andNotI (k : IntKind) (x y : Int) : Int := k.wrap (BitVec.ofInt k.bits x &&& ~~~ BitVec.ofInt k.bits y).toNat
def shlI (k : IntKind) (x y : Int) : Int := k.wrap (x * 2 ^ (min y.toNat k.bits))
def shrI (k : IntKind) (x y : Int) : Int := x.fdiv (2 ^ (min y.toNat k.bits))
def strEq (a b : ByteArray) : Bool := a.toList == b.toList
def strLt (a b : ByteArray) : Bool := Op.bytesLess a.toList b.toList
/-- A byte of a text. -/
def bt (s : ByteArray) (i : Int) : Int := ((s.data.getD i.toNat 0).toNat : Int)

def binInt (op : BinOp) (k : IntKind) (a b : Int) : Option (Bool × Ck) :=
  match op with
  | .add => some (true, .int k (k.wrap (a + b)))
  | .sub => some (true, .int k (k.wrap (a - b)))
  | .mul => some (true, .int k (k.wrap (a * b)))
  | .quo => some (!(b == 0), .int k (k.wrap (a.tdiv b)))
  | .rem => some (!(b == 0), .int k (a.tmod b))
  | .and => some (true, .int k (andI k a b))
  | .or => some (true, .int k (orI k a b))
  | .xor => some (true, .int k (xorI k a b))
  | .andNot => some (true, .int k (andNotI k a b))
  | .eql => some (true, .bool (a == b))
  | .neq => some (true, .bool (a != b))
  | .lss => some (true, .bool (decide (a < b)))
  | .leq => some (true, .bool (decide (a ≤ b)))
  | .gtr => some (true, .bool (decide (a > b)))
  | .geq => some (true, .bool (decide (a ≥ b)))
  | _ => none

def binStr (op : BinOp) (a b : ByteArray) : Option (Bool × Ck) :=
  match op with
  | .add => some (decide (((a.size + b.size : Nat) : Int) ≤ IntKind.i64.max), .str (a ++ b))
  | .eql => some (true, .bool (strEq a b))
  | .neq => some (true, .bool (!strEq a b))
  | .lss => some (true, .bool (strLt a b))
  | .leq => some (true, .bool (strLt a b || strEq a b))
  | .gtr => some (true, .bool (!(strLt a b || strEq a b)))
  | .geq => some (true, .bool (!strLt a b))
  | _ => none

theorem binInt_sound {P : Program} {op : BinOp} {k : IntKind} {a b : Int} {c : Ck} {t : TypeId} {x y : Operand} {w : World} (h : binInt op k a b = some (true, c)) :
    ∃ v, ((do eqGuard op t x y (.int k a) (.int k b); binOp op t (.int k a) (.int k b) : Sem Value)).run P w = .ok v w ∧ ∀ φ m, c.R φ m [v] := by
  cases op <;> simp only [binInt, Option.some.injEq, Prod.mk.injEq, Bool.not_eq_true', reduceCtorEq] at h <;>
    (obtain ⟨h1, rfl⟩ := h; simp_all [eqGuard, binOp, Op.intArith, Op.intDiv, Op.intBits, Op.intCmp, Ck.R, andI, orI, xorI, andNotI])

theorem binStr_sound {P : Program} {op : BinOp} {a b : ByteArray} {c : Ck} {t : TypeId} {x y : Operand} {w : World} (h : binStr op a b = some (true, c)) :
    ∃ v, ((do eqGuard op t x y (.string a) (.string b); binOp op t (.string a) (.string b) : Sem Value)).run P w = .ok v w ∧ ∀ φ m, c.R φ m [v] := by
  cases op <;> simp only [binStr, Option.some.injEq, Prod.mk.injEq, reduceCtorEq, decide_eq_true_eq] at h <;>
    (obtain ⟨h1, rfl⟩ := h; simp_all [eqGuard, binOp, Op.stringOp, Ck.R, strEq, strLt, unsupported])
  rw [if_neg (by omega)]
  exact ⟨_, rfl, fun _ => rfl⟩

def shiftInt (op : BinOp) (k : IntKind) (a b : Int) : Option (Bool × Ck) :=
  match op with
  | .shl => some (decide (0 ≤ b), .int k (shlI k a b))
  | .shr => some (decide (0 ≤ b), .int k (shrI k a b))
  | _ => none

theorem shiftInt_sound {P : Program} {op : BinOp} {k k' : IntKind} {a b : Int} {c : Ck} {t : TypeId} {x y : Operand} {w : World} (h : shiftInt op k a b = some (true, c)) :
    ∃ v, ((do eqGuard op t x y (.int k a) (.int k' b); binOp op t (.int k a) (.int k' b) : Sem Value)).run P w = .ok v w ∧ ∀ φ m, c.R φ m [v] := by
  cases op <;> simp only [shiftInt, Option.some.injEq, Prod.mk.injEq, reduceCtorEq, decide_eq_true_eq] at h <;>
    (obtain ⟨h1, rfl⟩ := h; have h2 : ¬ b < 0 := by omega
     simp [eqGuard, binOp, Op.shift, Ck.R, shlI, shrI, h2])

end Go.Sx
