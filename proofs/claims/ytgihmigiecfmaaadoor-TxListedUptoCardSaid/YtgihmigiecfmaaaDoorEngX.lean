import GoSem.Core.Code
namespace Go.Eng
open Go
def ext : FuncId → Nat
  | 78 => 1
  | _ => 0
def wild : FuncId → Bool
  | 46 => true
  | 64 => true
  | 67 => true
  | 68 => true
  | 71 => true
  | _ => false
end Go.Eng
