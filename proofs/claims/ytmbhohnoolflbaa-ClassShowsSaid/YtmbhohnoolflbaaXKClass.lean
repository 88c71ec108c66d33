/-
  SETS OF BYTES: the sets as numbers; what the functions of package class answer.
-/
import Derived.Test.YtmbhohnoolflbaaXE
set_option linter.unusedVariables false
set_option linter.unusedSimpArgs false
namespace Go.Proofs.YtmbhohnoolflbaaX

/-- A set is a number below 2^256: byte c is the bit c. -/
def word (N i : Nat) : Nat := N / 2 ^ (64 * i) % 2 ^ 64
def encS (N : Nat) : List C := [.int .u64 (word N 0 : Int), .int .u64 (word N 1 : Int), .int .u64 (word N 2 : Int), .int .u64 (word N 3 : Int)]
def inW (n : Int) : Bool := decide (0 ≤ n) && decide (n < 18446744073709551616)
def decS : List C → Option Nat
  | [.int .u64 a, .int .u64 b, .int .u64 c, .int .u64 d] => bif inW a && inW b && inW c && inW d then some (a.toNat + 2 ^ 64 * b.toNat + 2 ^ 128 * c.toNat + 2 ^ 192 * d.toNat) else none
  | _ => none
def encB (N : Nat) : List C := (List.range 256).map fun i => .bool (N.testBit i)
/-- The bytes from a to b are added: n of them. -/
def addN (N a : Nat) : Nat → Nat
  | 0 => N
  | n + 1 => addN (N ||| 2 ^ a) (a + 1) n
def notN (N : Nat) : Nat := N ^^^ (2 ^ 256 - 1)
def countN (N : Nat) : Nat := (List.range 256).countP N.testBit
def isB (n : Int) : Bool := decide (0 ≤ n) && decide (n < 256)

def pHas : Ans
  | [.agg cs, .c (.int .u8 x)], [], κ, _ => onO (decS cs) fun N => chk (isB x) (κ [.c (.bool (N.testBit x.toNat))] [])
  | _, _, _, _ => none
def pAdd : Ans
  | [.agg cs, .c (.int .u8 x), .c (.int .u8 y)], [], κ, _ => onO (decS cs) fun N => chk (isB x && isB y) (κ [.agg (encS (addN N x.toNat (y.toNat + 1 - x.toNat)))] [])
  | _, _, _, _ => none
def pNot : Ans
  | [.agg cs], [], κ, _ => onO (decS cs) fun N => κ [.agg (encS (notN N))] []
  | _, _, _, _ => none
def pUnion : Ans
  | [.agg cs, .agg ds], [], κ, _ => onO (decS cs) fun N => onO (decS ds) fun M => κ [.agg (encS (N ||| M))] []
  | _, _, _, _ => none

def Fh : CalleeK := onlyC 18 pHas noC
def Fa : CalleeK := onlyC 15 pAdd noC
def Fn : CalleeK := onlyC 16 pNot noC
def Fu : CalleeK := onlyC 17 pUnion noC
/-- How many bits of a word are set. -/
def cntW (w : Nat) : Nat := (List.range 64).countP w.testBit
def pOnes : Ans
  | [.c (.int .u64 w)], [], κ, _ => chk (inW w) (κ [.c (.int .i64 (cntW w.toNat : Int))] [])
  | _, _, _, _ => none
def Fc1 : CalleeK := onlyC 19 pOnes noC
end Go.Proofs.YtmbhohnoolflbaaX
