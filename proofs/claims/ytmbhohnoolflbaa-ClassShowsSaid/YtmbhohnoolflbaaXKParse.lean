/-
  BRACKET EXPRESSIONS READ: what the functions of class.reader answer.
-/
import Derived.Test.YtmbhohnoolflbaaXKClass
set_option linter.unusedVariables false
namespace Go.Proofs.YtmbhohnoolflbaaX

/-- Whether the text a begins with b. -/
def hasPre (a b : List UInt8) : Bool := Nat.ble b.length a.length && (a.take b.length == b)
def okAt (l : List UInt8) (a : Int) : Bool := decide (0 ≤ a) && decide (a ≤ (l.length : Int))
def escB (c : UInt8) : UInt8 := if c = 110 then 10 else if c = 116 then 9 else c
/-- A byte, or one behind a stroke; and the place behind it. -/
def sgl (l : List UInt8) (a : Nat) : Option UInt8 × Nat :=
  match l.drop a with
  | [] => (none, a)
  | c :: r => if c = 92 then (match r with | [] => (none, a + 1) | d :: _ => (some (escB d), a + 2)) else (some c, a + 1)
def sglB (l : List UInt8) (a : Int) : Int := match (sgl l a.toNat).1 with | some b => (b.toNat : Int) | none => 0
def sglOk (l : List UInt8) (a : Int) : Bool := (sgl l a.toNat).1.isSome
def sglAt (l : List UInt8) (a : Int) : Int := ((sgl l a.toNat).2 : Int)
/-- Whether a range goes on. -/
def rangeAt (l : List UInt8) (a : Nat) : Bool := hasPre (l.drop a) [45] && !hasPre (l.drop a) [45, 93] && !hasPre (l.drop a) [45, 91, 58]
/-- An item that is no class: the set, what is wrong, the place behind it. -/
def itm (l : List UInt8) (a : Nat) : Nat × Int × Nat :=
  match sgl l a with
  | (none, a1) => (0, 3, a1)
  | (some f, a1) => bif rangeAt l a1 then (match sgl l (a1 + 1) with
      | (none, a2) => (0, 3, a2)
      | (some t, a2) => if t < f then (0, 4, a2) else (addN 0 f.toNat (t.toNat + 1 - f.toNat), 0, a2))
    else (addN 0 f.toNat 1, 0, a1)
def itmN (l : List UInt8) (a : Int) : Nat := (itm l a.toNat).1
def itmE (l : List UInt8) (a : Int) : Int := (itm l a.toNat).2.1
def itmAt (l : List UInt8) (a : Int) : Int := ((itm l a.toNat).2.2 : Int)

def pPre : Ans
  | [.c (.str a), .c (.str b)], [], κ, _ => κ [.c (.bool (hasPre a b))] []
  | _, _, _, _ => none
def pComes : Ans
  | [.c (.ptr (.out 0) 0), .c (.str t)], [[.str l, .int .i64 a]], κ, _ => chk (okAt l a) (κ [.c (.bool (hasPre (l.drop a.toNat) t))] [[.str l, .int .i64 a]])
  | _, _, _, _ => none
def pSingle : Ans
  | [.c (.ptr (.out 0) 0)], [[.str l, .int .i64 a]], κ, _ => chk (okAt l a && Nat.ble l.length 4611686018427387904) (κ [.c (.int .u8 (sglB l a)), .c (.bool (sglOk l a))] [[.str l, .int .i64 (sglAt l a)]])
  | _, _, _, _ => none
def pItem : Ans
  | [.c (.ptr (.out 0) 0)], [[.str l, .int .i64 a]], κ, _ => chk (okAt l a && Nat.ble l.length 4611686018427387904 && !hasPre (l.drop a.toNat) [91, 58]) (κ [.agg (encS (itmN l a)), .c (.int .i64 (itmE l a))] [[.str l, .int .i64 (itmAt l a)]])
  | _, _, _, _ => none
def FPre1 : CalleeK := onlyC 33 pPre noC
def FPre : CalleeK := onlyC 27 pPre noC
def FSingle : CalleeK := onlyC 23 pComes noC
def FItem : CalleeK := onlyC 23 pComes (onlyC 30 pSingle (onlyC 15 pAdd noC))
def FParse : CalleeK := onlyC 23 pComes (onlyC 24 pItem (onlyC 17 pUnion (onlyC 16 pNot noC)))
end Go.Proofs.YtmbhohnoolflbaaX
