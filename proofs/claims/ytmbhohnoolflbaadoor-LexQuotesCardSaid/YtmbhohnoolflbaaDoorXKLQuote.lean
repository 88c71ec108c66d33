/-
  THE LAW LexQuotes: what its calls answer.
-/
import Derived.Test.YtmbhohnoolflbaaDoorXKLOrder
set_option linter.unusedVariables false
namespace Go.Proofs.YtmbhohnoolflbaaDoorX
/-- How a byte is written. -/
def quoteP (c : UInt8) : List UInt8 := if c = 10 then [92, 110] else if c = 9 then [92, 116] else if c = 92 ∨ c = 34 then [92, c] else [c]
def quoteB (s : List UInt8) : List UInt8 := (s.map quoteP).flatten
def quoteS (s : List UInt8) : List UInt8 := [34] ++ quoteB s ++ [34]
def pQuote : Ans
  | [.c (.str s)], [], κ, _ => chk (Nat.ble s.length 1000000) (κ [.c (.str (quoteS s))] [])
  | _, _, _, _ => none
def FQuote : CalleeK := onlyC 43 qWriteString (onlyC 42 qWriteByte (onlyC 44 qString noC))
def FLQuo : CalleeK := onlyC 9 pWords (onlyC 17 pQuote (onlyC 18 pQuote (onlyC 10 pTrueL noC)))
end Go.Proofs.YtmbhohnoolflbaaDoorX
