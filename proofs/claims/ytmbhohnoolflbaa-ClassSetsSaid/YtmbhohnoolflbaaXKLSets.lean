/-
  THE LAW ClassSets: what its calls answer.
-/
import Derived.Test.YtmbhohnoolflbaaXKClass
set_option linter.unusedVariables false
namespace Go.Proofs.YtmbhohnoolflbaaX
def pOf : Ans
  | [.agg cs], [], κ, _ => onO (decS cs) fun N => κ [.agg (encB N)] []
  | _, _, _, _ => none
def pCount : Ans
  | [.agg cs], [], κ, _ => onO (decS cs) fun N => κ [.c (.int .i64 (countN N : Int))] []
  | _, _, _, _ => none
def pTrue : Ans
  | [], [], κ, _ => κ [.c (.bool true)] []
  | _, _, _, _ => none
def FL : CalleeK := onlyC 5 pOf (onlyC 6 pAdd (onlyC 7 pNot (onlyC 8 pUnion (onlyC 9 pHas (onlyC 10 pCount (onlyC 11 pTrue noC))))))
end Go.Proofs.YtmbhohnoolflbaaX
