/- Steps' words, and the letters of their fields, in plain lists. -/
import Derived.Test.YtffdekgkhiffkaaDoorTxt0
import Derived.Test.YtffdekgkhiffkaaDoorStp0
namespace Go.Proofs.YtffdekgkhiffkaaDoor
open Go.RowKit

/-- A kind's word. -/
def wordI : Nat → List UInt8
  | 1 => [115, 116, 97, 114, 116]
  | 2 => [115, 116, 111, 112]
  | 3 => [97, 108, 108, 111, 99]
  | 4 => [110, 117, 109, 98, 101, 114]
  | 5 => [110, 111, 116, 104, 105, 110, 103]
  | 6 => [103, 108, 111, 98, 97, 108]
  | 7 => [97, 103, 97, 105, 110]
  | 8 => [112, 111, 112]
  | 9 => [114, 101, 97, 100]
  | 10 => [119, 114, 105, 116, 101]
  | 11 => [115, 97, 109, 101]
  | 12 => [115, 105, 122, 101]
  | 13 => [114, 117, 110]
  | 14 => [112, 111, 108, 108]
  | 15 => [97, 104, 101, 97, 100]
  | 16 => [98, 97, 99, 107]
  | 17 => [98, 101, 103, 105, 110]
  | _ => []
/-- The letters of a kind's fields: T 84, I 73, F 70, J 74, N 78, C 67. -/
def letsI : Nat → List UInt8
  | 1 | 2 | 5 | 6 | 8 | 14 => [84]
  | 3 | 15 => [84, 78, 67]
  | 4 | 13 => [84, 78]
  | 7 | 12 => [84, 73]
  | 9 => [84, 73, 70]
  | 10 => [84, 73, 70, 74]
  | 11 => [84, 73, 74]
  | 16 => [78]
  | _ => []
namespace Stp
/-- A field, by its letter. -/
def letF (x : Stp) (l : UInt8) : Int := if l = 84 then x.t else if l = 73 then x.i else if l = 70 then x.f else if l = 74 then x.j else if l = 78 then x.n else x.c
def lineT (x : Stp) : List (List UInt8) := wordI x.k.toNat :: (letsI x.k.toNat).map fun l => Lib.itoa (x.letF l)
/-- A step's line. -/
def line (x : Stp) : List UInt8 := Lib.join x.lineT [32]
end Stp
end Go.Proofs.YtffdekgkhiffkaaDoor
