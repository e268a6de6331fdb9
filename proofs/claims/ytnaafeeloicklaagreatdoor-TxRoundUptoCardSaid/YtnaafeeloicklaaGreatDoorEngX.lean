/-
  MADE BY PROGRAM (gentt.py): the functions that the model stands in for.
-/
import GoSem.Core.Code
namespace Go.Eng
open Go

def ext : FuncId → Nat
  | 130 => 1
  | _ => 0

/-- Functions that write through their arguments: walked in place wherever they are called. -/
def wild : FuncId → Bool
  | 68 => true
  | 97 => true
  | 103 => true
  | 104 => true
  | 107 => true
  | _ => false

end Go.Eng
