/-
  MADE BY PROGRAM (gentt.py): the package variables whose data the law is told.
-/
import Derived.Test.YtgihmigiecfmaaaEngA0
namespace Go.Eng
open Go

def grow : Nat → Option (List PS)
  | _ => none

end Go.Eng
