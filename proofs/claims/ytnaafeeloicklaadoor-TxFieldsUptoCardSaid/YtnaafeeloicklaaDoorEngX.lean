/-
  MADE BY PROGRAM (gentt.py): the functions that the model stands in for.
-/
import GoSem.Core.Code
namespace Go.Eng
open Go

def ext : FuncId → Nat
  | 82 => 1
  | _ => 0

/-- Functions that write through their arguments: walked in place wherever they are called. -/
def wild : FuncId → Bool
  | 50 => true
  | 68 => true
  | 71 => true
  | 72 => true
  | 75 => true
  | _ => false

end Go.Eng
