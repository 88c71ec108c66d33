/-
  WORDS OF PROGRAMS: what the small functions of package lex answer.
-/
import Derived.Test.YtmbhohnoolflbaaDoorXE
set_option linter.unusedVariables false
namespace Go.Proofs.YtmbhohnoolflbaaDoorX

def isLet (x : Int) : Bool := (decide (65 ≤ x) && decide (x ≤ 90)) || (decide (97 ≤ x) && decide (x ≤ 122)) || (x == 95)
def isDig (x : Int) : Bool := decide (48 ≤ x) && decide (x ≤ 57)
def isInn (x : Int) : Bool := isLet x || isDig x
def inU8 (x : Int) : Bool := decide (0 ≤ x) && decide (x < 256)
/-- Whether the text a begins with b. -/
def begins (a b : List UInt8) : Bool := Nat.ble b.length a.length && (a.take b.length == b)
def amongB (l s : List UInt8) : Bool := !(s == []) && Lib.contains l ([32] ++ s ++ [32])
def bI (b : UInt8) : Int := (b.toNat : Int)
def runInn (l : List UInt8) : List UInt8 := l.takeWhile fun b => isInn (bI b)
def runDig (l : List UInt8) : List UInt8 := l.takeWhile fun b => isDig (bI b)
def runCom (l : List UInt8) : List UInt8 := l.takeWhile fun b => !(bI b == 10)

def pLet : Ans
  | [.c (.int .u8 x)], [], κ, _ => κ [.c (.bool (isLet x))] []
  | _, _, _, _ => none
def pDig : Ans
  | [.c (.int .u8 x)], [], κ, _ => κ [.c (.bool (isDig x))] []
  | _, _, _, _ => none
def pInn : Ans
  | [.c (.int .u8 x)], [], κ, _ => κ [.c (.bool (isInn x))] []
  | _, _, _, _ => none
def pCom : Ans
  | [.c (.int .u8 x)], [], κ, _ => κ [.c (.bool (!(x == 10)))] []
  | _, _, _, _ => none
def pBegins : Ans
  | [.c (.str a), .c (.str b)], [], κ, _ => κ [.c (.bool (begins a b))] []
  | _, _, _, _ => none
def pAmong : Ans
  | [.c (.str l), .c (.str s)], [], κ, _ => chk (Nat.ble l.length 1000000 && Nat.ble s.length 1000000) (κ [.c (.bool (amongB l s))] [])
  | _, _, _, _ => none
def pRun : Ans
  | [.c (.str l), .c (.fn f [])], [], κ, _ => chk (Nat.ble l.length 4611686018427387904) (bif Nat.beq f 39 then κ [.c (.str (runInn l))] [] else bif Nat.beq f 58 then κ [.c (.str (runDig l))] [] else bif Nat.beq f 56 then κ [.c (.str (runCom l))] [] else none)
  | _, _, _, _ => none
/-- A place in elements, from some place on. -/
def idxFrom (s : List UInt8) : List (List UInt8) → Nat → Int
  | [], _ => -1
  | x :: r, i => if x = s then (i : Int) else idxFrom s r (i + 1)
def pSIndex : Ans
  | [.c (.sl 1 es fl), .c (.str s)], [], κ, _ => onO (strsD es) fun xs => chk (Nat.ble xs.length 1000000) (κ [.c (.int .i64 (idxFrom s xs 0))] [])
  | _, _, _, _ => none
def pSContains : Ans
  | [.c (.sl 1 es fl), .c (.str s)], [], κ, _ => onO (strsD es) fun xs => chk (Nat.ble xs.length 1000000) (κ [.c (.bool (xs.contains s))] [])
  | _, _, _, _ => none
def FInn : CalleeK := onlyC 37 pLet (onlyC 58 pDig noC)
noncomputable def FAmong : CalleeK := onlyC 65 qContains noC
def FBegins : CalleeK := onlyC 79 pBegins noC
def FRun1 : CalleeK := onlyC 39 pInn noC
def FRun2 : CalleeK := onlyC 58 pDig noC
def FRun3 : CalleeK := onlyC 56 pCom noC
def FSC : CalleeK := onlyC 94 pSIndex noC
end Go.Proofs.YtmbhohnoolflbaaDoorX
