/-
  What may be taken first in a region that draws its order: reckoned on the region alone.
-/
import Derived.Test.YtgihmigiecfmaaaEngB
import Derived.Test.YtgihmigiecfmaaaEngX
import Derived.OrdersHeld
namespace Go.Eng
open Go Go.RowKit

/-- Operations that may be taken first. -/
def isVal : Op → Bool
  | .alloc _ | .box _ _ | .store _ _ _ | .makeSlice _ _ _ | .buildSlice _ _ _ => false
  | .call c => match c.callee with
    | .builtin .len => true
    | .builtin .max => true
    | .builtin .min => true
    | .value (.func f) => match ext f with
      | 0 => false
      | _ => true
    | _ => false
  | _ => true

/-- Operations that leave every cell as it is. -/
def calmOp : Op → Bool
  | .store _ _ _ => false
  | .call c => match c.callee with
    | .builtin .append => false
    | .builtin .copy => false
    | .builtin .clear => false
    | .value (.func f) => !wild f
    | .value _ => true
    | _ => true
  | _ => true

def maskOf : List Nat → Nat
  | [] => 0
  | x :: l => (1 <<< x) ||| maskOf l

def within (a b : Nat) : Bool := (a &&& b) == a
def disj (a b : Nat) : Bool := (a &&& b) == 0

/-- What is known of an operation, in numbers. -/
structure OI where
  val : Bool
  ld : Bool
  calm : Bool
  sel : Bool
  dst : Nat
  looks : Nat
  after : Nat

def isLoad : Op → Bool
  | .load _ _ => true
  | _ => false

def isSel : Op → Bool
  | .select _ _ => true
  | _ => false

def deps (o : Oper) : List Nat := o.after.toList.filterMap fun e => match Region.binds .any e with | true => some e.on | false => none

def infoOf (ops : Array Oper) (o : Oper) : OI := ⟨isVal o.op, isLoad o.op, calmOp o.op, isSel o.op, maskOf o.dst.toList, maskOf (o.looksAt ops), maskOf (deps o)⟩

def infos (ops : Array Oper) : List Oper → List OI
  | [] => []
  | o :: l => infoOf ops o :: infos ops l

/-- Who may come up: not listed, and all that it waits for is listed. -/
def readyF (L : Nat) : List OI → Nat → List Nat
  | [], _ => []
  | x :: l, j => match !L.testBit j && within x.after L with
    | true => j :: readyF L l (j + 1)
    | false => readyF L l (j + 1)

/-- Who may come up without number i ever being taken. -/
def freeM (L i : Nat) : List OI → Nat → Nat → Nat
  | [], _, R => R
  | x :: l, j, R => match !L.testBit j && !(i == j) && within x.after (L ||| R) with
    | true => freeM L i l (j + 1) (R ||| (1 <<< j))
    | false => freeM L i l (j + 1) R

/-- R holds all that may come up before number i, and each of them leaves i's value as it is. -/
def okR (L i R : Nat) (xi : OI) : List OI → Nat → Bool
  | [], _ => true
  | x :: l, j => (match R.testBit j with
    | true => !(i == j) && (x.calm || !xi.ld) && !x.sel && disj xi.dst x.looks && disj xi.dst x.dst && disj x.dst xi.looks
    | false => (i == j) || L.testBit j || !within x.after (L ||| R)) && okR L i R xi l (j + 1)

def chkO (is : List OI) : Nat → List Nat → Bool
  | L, [] => match readyF L is 0 with | [] => true | _ => false
  | L, i :: ord => (match is[i]? with
    | some x => !L.testBit i && within x.after L && ((x.val && !x.sel && okR L i (freeM L i is 0 0) x is 0) || (match readyF L is 0 with | [j] => i == j | _ => false))
    | none => false) && chkO is (L ||| (1 <<< i)) ord

/-- The order is one for all. -/
def chk (ops : List Oper) (ord : List Nat) : Bool := (ord.length == ops.length) && chkO (infos ops.toArray ops) 0 ord

end Go.Eng
