/-
  SETS AS TEXTS: what class.Show and the reference's Show answer.
-/
import Derived.Test.YtmbhohnoolflbaaXKClass
set_option linter.unusedVariables false
namespace Go.Proofs.YtmbhohnoolflbaaX
def isStroke (c : Nat) : Bool := c == 94 || c == 45 || c == 93 || c == 91 || c == 92
/-- What a byte of a set is written as. -/
def piece (c : Nat) : List UInt8 := if isStroke c then [92, UInt8.ofNat c] else [UInt8.ofNat c]
/-- The bytes from a on, n of them, that are in M. -/
def bodyS (M a : Nat) : Nat → List UInt8
  | 0 => []
  | n + 1 => (if M.testBit a then piece a else []) ++ bodyS M (a + 1) n
def showS (N : Nat) : List UInt8 := [91] ++ (if N = 0 then [94] else []) ++ bodyS (if N = 0 then notN 0 else N) 0 256 ++ [93]
def FS : CalleeK := onlyC 20 qWriteByte (onlyC 22 qString (onlyC 21 qIndexByte (onlyC 16 pNot (onlyC 18 pHas noC))))
def pOf' : Ans
  | [.agg cs], [], κ, _ => onO (decS cs) fun N => κ [.agg (encB N)] []
  | _, _, _, _ => none
def FRS : CalleeK := onlyC 5 pOf' noC
end Go.Proofs.YtmbhohnoolflbaaX
