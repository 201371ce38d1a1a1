/- Part K1 of the proof that CostNil answers true for every filter and every mood. Conditions: those that each theorem names. -/
import Derived.Test.YtmcammnkdcfmaaaGreatDoorEvE
import Derived.Test.YtmcammnkdcfmaaaGreatDoorProg
import Derived.KernelRfl
namespace Go.Ev
noncomputable section --all
open Go.Proofs
def countL (c : Nat) : List Nat → Nat
  | [] => 0
  | x :: l => match Nat.beq x c with | true => Nat.succ (countL c l) | false => countL c l
def indexL (c : Nat) : List Nat → Nat → Int
  | [], _ => -1
  | x :: l, i => match Nat.beq x c with | true => .ofNat i | false => indexL c l (i + 1)
/-- What answers by its arguments alone. -/
def pureX (g : List AV → Option AV) (xs : List AV) (σ : St) : Option (AV × St) := match g xs with
  | some v => some (v, σ)
  | none => none
def X0 : ExtF := fun f => match Nat.beq f 199 with
  | true => some (pureX fun xs => match xs with | [.str s, .int .u8 (.ofNat c)] => (match Nat.blt c 256 with | true => some (.int .i64 (.ofNat (countL c s))) | false => none) | _ => none)
  | false => match Nat.beq f 238 with
    | true => some (pureX fun xs => match xs with | [.str s, .int .u8 (.ofNat c)] => (match Nat.blt c 256 with | true => some (.int .i64 (indexL c s 0)) | false => none) | _ => none)
    | false => match Nat.beq f 44 with
      | true => some (pureX fun xs => match xs with | [.int .u64 (.ofNat n)] => some (.flt n) | _ => none)
      | false => none
def isSome (r : Option (AV × St)) : Bool := match r with | some _ => true | none => false
def s8 (n : Int) : AV := .int .i8 n
def tableRow (a b : List Nat) (x y z : Int) : List AV := [.str a, .str b, s8 x, s8 y, s8 z]
def isTrue (r : Option (AV × St)) : Bool := match r with | some (.bool true, _) => true | _ => false

def tableC : List AV := [.str [], .str [], .int .i8 (-1), .int .i8 (-1), .int .i8 (-1), .str [99, 97, 115, 101, 73, 103, 110, 111, 114, 101, 77, 97, 116, 99, 104], .str [50], .int .i8 (0), .int .i8 (0), .int .i8 (0), .str [99, 97, 115, 101, 73, 103, 110, 111, 114, 101, 79, 114, 100, 101, 114, 105, 110, 103, 77, 97, 116, 99, 104], .str [51], .int .i8 (0), .int .i8 (1), .int .i8 (0), .str [99, 97, 115, 101, 73, 103, 110, 111, 114, 101, 83, 117, 98, 115, 116, 114, 105, 110, 103, 115, 77, 97, 116, 99, 104], .str [52], .int .i8 (0), .int .i8 (2), .int .i8 (0), .str [99, 97, 115, 101, 69, 120, 97, 99, 116, 77, 97, 116, 99, 104], .str [53], .int .i8 (0), .int .i8 (0), .int .i8 (1), .str [99, 97, 115, 101, 69, 120, 97, 99, 116, 79, 114, 100, 101, 114, 105, 110, 103, 77, 97, 116, 99, 104], .str [54], .int .i8 (0), .int .i8 (1), .int .i8 (1), .str [99, 97, 115, 101, 69, 120, 97, 99, 116, 83, 117, 98, 115, 116, 114, 105, 110, 103, 115, 77, 97, 116, 99, 104], .str [55], .int .i8 (0), .int .i8 (2), .int .i8 (1), .str [110, 117, 109, 101, 114, 105, 99, 83, 116, 114, 105, 110, 103, 77, 97, 116, 99, 104], .str [56], .int .i8 (1), .int .i8 (0), .int .i8 (2), .str [110, 117, 109, 101, 114, 105, 99, 83, 116, 114, 105, 110, 103, 79, 114, 100, 101, 114, 105, 110, 103, 77, 97, 116, 99, 104], .str [57], .int .i8 (1), .int .i8 (1), .int .i8 (2), .str [110, 117, 109, 101, 114, 105, 99, 83, 116, 114, 105, 110, 103, 83, 117, 98, 115, 116, 114, 105, 110, 103, 115, 77, 97, 116, 99, 104], .str [49, 48], .int .i8 (1), .int .i8 (2), .int .i8 (2), .str [116, 101, 108, 101, 112, 104, 111, 110, 101, 78, 117, 109, 98, 101, 114, 77, 97, 116, 99, 104], .str [50, 48], .int .i8 (2), .int .i8 (0), .int .i8 (3), .str [116, 101, 108, 101, 112, 104, 111, 110, 101, 78, 117, 109, 98, 101, 114, 83, 117, 98, 115, 116, 114, 105, 110, 103, 115, 77, 97, 116, 99, 104], .str [50, 49], .int .i8 (2), .int .i8 (2), .int .i8 (3), .str [105, 110, 116, 101, 103, 101, 114, 77, 97, 116, 99, 104], .str [49, 52], .int .i8 (3), .int .i8 (0), .int .i8 (4), .str [105, 110, 116, 101, 103, 101, 114, 79, 114, 100, 101, 114, 105, 110, 103, 77, 97, 116, 99, 104], .str [49, 53], .int .i8 (3), .int .i8 (1), .int .i8 (4), .str [98, 111, 111, 108, 101, 97, 110, 77, 97, 116, 99, 104], .str [49, 51], .int .i8 (4), .int .i8 (0), .int .i8 (5), .str [103, 101, 110, 101, 114, 97, 108, 105, 122, 101, 100, 84, 105, 109, 101, 77, 97, 116, 99, 104], .str [50, 55], .int .i8 (5), .int .i8 (0), .int .i8 (6), .str [103, 101, 110, 101, 114, 97, 108, 105, 122, 101, 100, 84, 105, 109, 101, 79, 114, 100, 101, 114, 105, 110, 103, 77, 97, 116, 99, 104], .str [50, 56], .int .i8 (5), .int .i8 (1), .int .i8 (6), .str [111, 99, 116, 101, 116, 83, 116, 114, 105, 110, 103, 77, 97, 116, 99, 104], .str [49, 55], .int .i8 (6), .int .i8 (0), .int .i8 (7), .str [111, 99, 116, 101, 116, 83, 116, 114, 105, 110, 103, 79, 114, 100, 101, 114, 105, 110, 103, 77, 97, 116, 99, 104], .str [49, 56], .int .i8 (6), .int .i8 (1), .int .i8 (7), .str [100, 105, 115, 116, 105, 110, 103, 117, 105, 115, 104, 101, 100, 78, 97, 109, 101, 77, 97, 116, 99, 104], .str [49], .int .i8 (7), .int .i8 (0), .int .i8 (-1), .str [111, 98, 106, 101, 99, 116, 73, 100, 101, 110, 116, 105, 102, 105, 101, 114, 77, 97, 116, 99, 104], .str [48], .int .i8 (8), .int .i8 (0), .int .i8 (8)]
def sortsC : List AV := [.int .i8 (0), .int .i8 (1), .int .i8 (2), .int .i8 (3), .int .i8 (1), .int .i8 (2), .int .i8 (3), .int .i8 (1), .int .i8 (2), .int .i8 (3), .int .i8 (1), .int .i8 (3), .int .i8 (1), .int .i8 (2), .int .i8 (1), .int .i8 (1), .int .i8 (2), .int .i8 (1), .int .i8 (2), .int .i8 (1), .int .i8 (1)]
def st0 : St := start 13 [(1, tableC), (2, sortsC)]
end --all
end Go.Ev
