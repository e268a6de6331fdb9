/-
  MADE BY PROGRAM (gentt.py): the functions that the model stands in for.
-/
import GoSem.Core.Code
namespace Go.Eng
open Go

def ext : FuncId → Nat
  | 121 => 1
  | _ => 0

end Go.Eng
