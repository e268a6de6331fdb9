/-
  sameKeys answers whether two lists of keys are the same. Condition: at most 2^40 keys.
  sameList answers whether two access lists are the same. Condition: at most 2^40 entries, of at most 2^40 keys each.
  twin hands back the list anew, with a mark behind its end and behind each entry's keys. Condition: at most 2^40 entries, of at most 2^40 keys each.
-/
import Derived.Test.YtejelaaocjfjbaaA0
namespace Go.Eng
open Go Go.Proofs

set_option maxRecDepth 100000
end Go.Eng
namespace Go.Eng
open Go Go.Proofs

set_option maxRecDepth 100000
end Go.Eng
namespace Go.Eng
open Go Go.Proofs

def mark20 : List Int := 195 :: List.replicate 19 0
def mark32 : List Int := 195 :: List.replicate 31 0
def Ent.trow (e : Ent) : List PS := [.r 20 (u8s e.a), .c (.sl (e.ks.map key) [key mark32])]
def endrow : List PS := [.r 20 (u8s mark20), .c (.sl [] [])]
def zero74 : List PS := [.r 20 (u8s (List.replicate 20 0)), .c (.sl [] [])]

def zero26 : List PS := [.r 32 (u8s (List.replicate 32 0))]

set_option maxRecDepth 100000
end Go.Eng
