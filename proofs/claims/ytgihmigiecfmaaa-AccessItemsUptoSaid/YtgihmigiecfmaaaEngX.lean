/-
  MADE BY PROGRAM (gentt.py): the functions that the model stands in for.
-/
import GoSem.Core.Code
namespace Go.Eng
open Go

def ext : FuncId → Nat
  | _ => 0

/-- Functions that write through their arguments: walked in place wherever they are called. -/
def wild : FuncId → Bool
  | _ => false

end Go.Eng
