/-
  MADE BY PROGRAM (gentt.py): the functions that the model stands in for.
-/
import GoSem.Core.Code
namespace Go.Eng
open Go

def ext : FuncId → Nat
  | 72 => 1
  | _ => 0

/-- Functions that write through their arguments: walked in place wherever they are called. -/
def wild : FuncId → Bool
  | 27 => true
  | 41 => true
  | 42 => true
  | 45 => true
  | 48 => true
  | _ => false

end Go.Eng
