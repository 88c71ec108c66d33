/-
  THE LAW LexOrder: what its calls answer.
-/
import Derived.Test.YtmbhohnoolflbaaDoorXKLexB
set_option linter.unusedVariables false
namespace Go.Proofs.YtmbhohnoolflbaaDoorX
def pTrueL : Ans
  | [], [], κ, _ => κ [.c (.bool true)] []
  | _, _, _, _ => none
def FLOrd : CalleeK := onlyC 9 pWords (onlyC 10 pTrueL noC)
end Go.Proofs.YtmbhohnoolflbaaDoorX
