/-
  THE LAW ClassShows: what its calls answer.
-/
import Derived.Test.YtmbhohnoolflbaaXKShow
set_option linter.unusedVariables false
namespace Go.Proofs.YtmbhohnoolflbaaX
def pShowS : Ans
  | [.agg cs], [], κ, _ => onO (decS cs) fun N => κ [.c (.str (showS N))] []
  | _, _, _, _ => none
/-- What class.Parse answers. -/
noncomputable def cParse (l : List UInt8) (a : Int) : Option (List C × Int × Int) :=
  match callInf E 13 [.c (.str l), .c (.int .i64 a)] [] with
  | some (.ret [.agg cs, .c (.int .i64 n), .c (.int .i64 e)] []) => some (cs, n, e)
  | _ => none
noncomputable def pParseS : Ans
  | [.c (.str l), .c (.int .i64 a)], [], κ, _ => onO (cParse l a) fun x => κ [.agg x.1, .c (.int .i64 x.2.1), .c (.int .i64 x.2.2)] []
  | _, _, _, _ => none
def pTrueS : Ans
  | [], [], κ, _ => κ [.c (.bool true)] []
  | _, _, _, _ => none
noncomputable def FLS : CalleeK := onlyC 12 pShowS (onlyC 13 pParseS (onlyC 14 pShowS (onlyC 11 pTrueS noC)))
end Go.Proofs.YtmbhohnoolflbaaX
