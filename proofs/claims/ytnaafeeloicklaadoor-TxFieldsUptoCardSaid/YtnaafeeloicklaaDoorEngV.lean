/-
  MADE BY PROGRAM (gentt.py): the package variables whose data the law is told.
-/
import Derived.Test.YtnaafeeloicklaaDoorEngA0
namespace Go.Eng
open Go

def grow : Nat → Option (List PS)
  | 1 => some [.r 32 [.int .u8 165, .int .u8 90, .int .u8 0, .int .u8 0, .int .u8 0, .int .u8 0, .int .u8 0, .int .u8 0, .int .u8 0, .int .u8 0, .int .u8 0, .int .u8 0, .int .u8 0, .int .u8 0, .int .u8 0, .int .u8 0, .int .u8 0, .int .u8 0, .int .u8 0, .int .u8 0, .int .u8 0, .int .u8 0, .int .u8 0, .int .u8 0, .int .u8 0, .int .u8 0, .int .u8 0, .int .u8 0, .int .u8 0, .int .u8 0, .int .u8 0, .int .u8 0]]
  | 0 => some [.r 20 [.int .u8 165, .int .u8 90, .int .u8 0, .int .u8 0, .int .u8 0, .int .u8 0, .int .u8 0, .int .u8 0, .int .u8 0, .int .u8 0, .int .u8 0, .int .u8 0, .int .u8 0, .int .u8 0, .int .u8 0, .int .u8 0, .int .u8 0, .int .u8 0, .int .u8 0, .int .u8 0]]
  | _ => none

end Go.Eng
