/-
  A SET'S TEXT READ: what is used of the texts of class.Show.
-/
import Derived.Test.YtmbhohnoolflbaaXKShow
import Derived.Test.YtmbhohnoolflbaaXKParse
namespace Go.Proofs.YtmbhohnoolflbaaX
/-- The set of what is read of the bytes from i on, n of them. -/
def fromN (M : Nat) : Nat → Nat → Nat → Nat
  | _, 0, A => A
  | i, n + 1, A => fromN M (i + 1) n (if M.testBit i then A ||| 2 ^ i else A)
end Go.Proofs.YtmbhohnoolflbaaX
