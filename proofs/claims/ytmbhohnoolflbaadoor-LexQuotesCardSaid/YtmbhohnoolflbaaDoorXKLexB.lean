/-
  WORDS OF PROGRAMS: what the reader's methods answer.
-/
import Derived.Test.YtmbhohnoolflbaaDoorXKLexA
set_option linter.unusedVariables false
namespace Go.Proofs.YtmbhohnoolflbaaDoorX

/-- A token that is read: what is wrong (0: nothing), its kind, its text, how many bytes it is of. -/
structure TokR where
  err : Int
  k : Int
  S : List UInt8
  n : Nat
def words : List UInt8 := [32, 66, 69, 71, 73, 78, 32, 69, 78, 68, 32, 102, 117, 110, 99, 116, 105, 111, 110, 32, 105, 102, 32, 101, 108, 115, 101, 32, 119, 104, 105, 108, 101, 32, 102, 111, 114, 32, 100, 111, 32, 98, 114, 101, 97, 107, 32, 99, 111, 110, 116, 105, 110, 117, 101, 32, 110, 101, 120, 116, 32, 101, 120, 105, 116, 32, 114, 101, 116, 117, 114, 110, 32, 100, 101, 108, 101, 116, 101, 32, 105, 110, 32, 103, 101, 116, 108, 105, 110, 101, 32, 112, 114, 105, 110, 116, 32, 112, 114, 105, 110, 116, 102, 32, 112, 101, 114, 115, 105, 115, 116, 32]
def owns : List UInt8 := [32, 108, 101, 110, 103, 116, 104, 32, 115, 117, 98, 115, 116, 114, 32, 105, 110, 100, 101, 120, 32, 115, 112, 108, 105, 116, 32, 115, 117, 98, 32, 103, 115, 117, 98, 32, 109, 97, 116, 99, 104, 32, 115, 112, 114, 105, 110, 116, 102, 32, 116, 111, 108, 111, 119, 101, 114, 32, 116, 111, 117, 112, 112, 101, 114, 32, 105, 110, 116, 32, 115, 121, 110, 99, 32]
def pairsT : List UInt8 := [43, 43, 32, 45, 45, 32, 43, 61, 32, 45, 61, 32, 42, 61, 32, 47, 61, 32, 37, 61, 32, 61, 61, 32, 33, 61, 32, 60, 61, 32, 62, 61, 32, 62, 62, 32, 33, 126, 32, 38, 38, 32, 124, 124]
def pairsL : List (List UInt8) := [[43, 43], [45, 45], [43, 61], [45, 61], [42, 61], [47, 61], [37, 61], [61, 61], [33, 61], [60, 61], [62, 61], [62, 62], [33, 126], [38, 38], [124, 124]]
def signsT : List UInt8 := [123, 125, 40, 41, 91, 93, 59, 44, 43, 45, 42, 47, 37, 60, 62, 33, 126, 63, 58, 61, 36]
def opsT : List UInt8 := [32, 41, 32, 93, 32, 43, 43, 32, 45, 45, 32, 36, 32]

/-- How many bytes are no token. -/
def skN : Nat → List UInt8 → Nat
  | 0, _ => 0
  | f + 1, s =>
    match s with
    | [] => 0
    | c :: r =>
      if c = 32 ∨ c = 9 then 1 + skN f r
      else if begins (c :: r) [92, 10] then 2 + skN f (r.drop 1)
      else if c = 35 then (runCom (c :: r)).length + skN f ((c :: r).drop (runCom (c :: r)).length)
      else 0
def skipN (s : List UInt8) : Nat := skN (s.length + 1) s
/-- How long a number is. -/
def numN (s : List UInt8) : Nat :=
  match s.drop (runDig s).length with
  | c :: r => if c = 46 then (runDig s).length + 1 + (runDig r).length else (runDig s).length
  | [] => (runDig s).length
def strokeL (c : UInt8) : List UInt8 := if c = 110 then [10] else if c = 116 then [9] else if c = 92 ∨ c = 34 ∨ c = 47 then [c] else [92, c]
def textM : List UInt8 → List UInt8 → Nat → Option (List UInt8 × Nat)
  | [], _, _ => none
  | c :: r, acc, n =>
    if c = 10 then none else if c = 34 then some (acc, n + 1)
    else if c = 92 then (match r with
      | [] => none
      | d :: r' => if d = 10 then none else textM r' (acc ++ strokeL d) (n + 2))
    else textM r (acc ++ [c]) (n + 1)
def patM : List UInt8 → Nat → Int → List UInt8 → Option (List UInt8 × Nat)
  | [], _, _, _ => none
  | c :: r, i, o, acc =>
    if c = 10 then none
    else match (if c = 92 then r else []) with
      | d :: _ => if d = 10 then patM r (i + 1) o (acc ++ [c]) else (match r with
        | _ :: r' => patM r' (i + 2) o (acc ++ (if d = 47 then [] else [92]) ++ [d])
        | [] => none)
      | [] =>
        if c = 91 ∧ o < 0 then patM r (i + 1) (if begins r [94] then (i : Int) + 2 else (i : Int) + 1) (acc ++ [c])
        else if c = 93 ∧ 0 ≤ o ∧ o < (i : Int) then patM r (i + 1) (-1) (acc ++ [c])
        else if c = 47 ∧ o < 0 then some (acc, i + 1)
        else patM r (i + 1) o (acc ++ [c])

def nameR (s : List UInt8) : TokR :=
  let w := runInn s
  if 40 < w.length then ⟨2, 0, [], 0⟩
  else if amongB words w then ⟨0, 7, w, w.length⟩
  else if amongB owns w then ⟨0, 8, w, w.length⟩
  else if begins (s.drop w.length) [40] then ⟨0, 6, w, w.length⟩
  else ⟨0, 5, w, w.length⟩
def numR (s : List UInt8) : TokR := ⟨0, 2, s.take (numN s), numN s⟩
def textR (s : List UInt8) : TokR :=
  match textM (s.drop 1) [] 1 with
  | some (S, n) => ⟨0, 3, S, n⟩
  | none => ⟨3, 0, [], 0⟩
def patR (s : List UInt8) (a : Nat) : TokR :=
  match patM (s.drop 1) (a + 1) (-1) [] with
  | some (S, i) => ⟨0, 4, S, i - a⟩
  | none => ⟨3, 0, [], 0⟩
def signR (s : List UInt8) : TokR :=
  if 1 < s.length ∧ pairsL.contains (s.take 2) then ⟨0, 9, s.take 2, 2⟩
  else if signsT.contains (s.headD 0) then ⟨0, 9, s.take 1, 1⟩
  else ⟨4, 0, [], 0⟩
def nextR (opd : Bool) (s : List UInt8) (a : Nat) : TokR :=
  match s with
  | [] => ⟨4, 0, [], 0⟩
  | c :: r =>
    if c = 10 then ⟨0, 1, [10], 1⟩
    else if isLet (bI c) then nameR (c :: r)
    else if isDig (bI c) || (c == 46 && isDig (bI (r.headD 0))) then numR (c :: r)
    else if c = 34 then textR (c :: r)
    else if c = 47 ∧ opd = true then patR (c :: r) a
    else signR (c :: r)

/-- Tokens as elements. -/
def okTok : List D → Bool
  | [.int .i64 _, .str S, .int .i64 _] => Nat.ble S.length 1000000
  | _ => false
def opdTok : List D → Bool
  | [.int .i64 k, .str S, .int .i64 _] => if k = 2 ∨ k = 3 ∨ k = 5 ∨ k = 8 then false else if k = 9 then !amongB opsT S else true
  | _ => true
def opdB (es : List (List D)) : Bool :=
  match es.getLast? with
  | some e => opdTok e
  | none => true
def okLast (es : List (List D)) : Bool :=
  match es.getLast? with
  | some e => okTok e
  | none => true
def terr (es : List (List D)) (t : TokR) : Int := if t.err = 0 then (if es.length = 3000 then 2 else 0) else t.err
/-- What the reader's box must be. -/
def okR (l : List UInt8) (a : Int) (es : List (List D)) (fl : Fl) : Bool := decide (0 ≤ a) && decide (a ≤ (l.length : Int)) && Nat.ble l.length 8000 && Nat.ble es.length 3000 && fl.ok
def at' (l : List UInt8) (a : Int) : List UInt8 := l.drop a.toNat

/-- The tokens from a place on, with those that are read: tokens, the place of what is wrong, what is wrong. -/
def lexLoop : Nat → List UInt8 → Nat → List (List D) → List (List D) × Nat × Int
  | 0, _, _, _ => ([], 0, 1)
  | f + 1, l, n, es =>
    if n < l.length then
      (if terr es (nextR (opdB es) (l.drop n) n) = 0 then
        lexLoop f l (n + (nextR (opdB es) (l.drop n) n).n + skipN (l.drop (n + (nextR (opdB es) (l.drop n) n).n))) (es ++ [[.int .i64 (nextR (opdB es) (l.drop n) n).k, .str (nextR (opdB es) (l.drop n) n).S, .int .i64 (n : Int)]])
      else ([], n, terr es (nextR (opdB es) (l.drop n) n)))
    else if es.length = 3000 then ([], n, 2) else (es ++ [[.int .i64 0, .str [], .int .i64 (n : Int)]], 0, 0)
def lexW (l : List UInt8) : List (List D) × Nat × Int := if 8000 < l.length then ([], 0, 2) else lexLoop (l.length + 1) l (skipN l) []
def lexToks (l : List UInt8) : List (List D) := (lexW l).1
def lexAt (l : List UInt8) : Int := ((lexW l).2.1 : Int)
def lexErr (l : List UInt8) : Int := (lexW l).2.2
def lexFl (l : List UInt8) : Fl := if lexErr l = 0 then .sh else .own
def pWords : Ans
  | [.c (.str l)], [], κ, _ => κ [.c (.sl 3 (lexToks l) (lexFl l)), .c (.int .i64 (lexAt l)), .c (.int .i64 (lexErr l))] []
  | _, _, _, _ => none
def stopT : Nat := 45
def pFail : Ans
  | [.c (.ptr (.out 0) 0), .c (.int .i64 why)], [[.str l, .int .i64 a, .sl 3 es fl]], κ, κp => κp 45 (.agg [.int .i64 a, .int .i64 why]) [[.str l, .int .i64 a, .sl 3 es fl]]
  | _, _, _, _ => none
def pPut : Ans
  | [.c (.ptr (.out 0) 0), .c (.int .i64 k), .c (.str S), .c (.int .i64 n)], [[.str l, .int .i64 a, .sl 3 es fl]], κ, κp =>
    chk (okR l a es fl && decide (0 ≤ n) && decide (n ≤ 8000)) (bif Nat.beq es.length 3000 then κp 45 (.agg [.int .i64 a, .int .i64 2]) [[.str l, .int .i64 a, .sl 3 es fl]]
      else κ [] [[.str l, .int .i64 (a + n), .sl 3 (es ++ [[.int .i64 k, .str S, .int .i64 a]]) .own]])
  | _, _, _, _ => none
def pOperand : Ans
  | [.c (.ptr (.out 0) 0)], [[.str l, .int .i64 a, .sl 3 es fl]], κ, κp => chk (okR l a es fl && okLast es) (κ [.c (.bool (opdB es))] [[.str l, .int .i64 a, .sl 3 es fl]])
  | _, _, _, _ => none
/-- A method that reads one token. -/
def pTok (f : List UInt8 → Int → List (List D) → TokR) : Ans
  | [.c (.ptr (.out 0) 0)], [[.str l, .int .i64 a, .sl 3 es fl]], κ, κp =>
    chk (okR l a es fl && okLast es && decide (a < (l.length : Int))) (bif terr es (f (at' l a) a es) == 0 then κ [] [[.str l, .int .i64 (a + ((f (at' l a) a es).n : Int)), .sl 3 (es ++ [[.int .i64 (f (at' l a) a es).k, .str (f (at' l a) a es).S, .int .i64 a]]) .own]]
      else κp 45 (.agg [.int .i64 a, .int .i64 (terr es (f (at' l a) a es))]) [[.str l, .int .i64 a, .sl 3 es fl]])
  | _, _, _, _ => none
def fName (s : List UInt8) (_ : Int) (_ : List (List D)) : TokR := nameR s
def fText (s : List UInt8) (_ : Int) (_ : List (List D)) : TokR := textR s
def fPat (s : List UInt8) (a : Int) (_ : List (List D)) : TokR := patR s a.toNat
def fSign (s : List UInt8) (_ : Int) (_ : List (List D)) : TokR := signR s
def fNext (s : List UInt8) (a : Int) (es : List (List D)) : TokR := nextR (opdB es) s a.toNat
def pSkip : Ans
  | [.c (.ptr (.out 0) 0)], [[.str l, .int .i64 a, .sl 3 es fl]], κ, κp => chk (okR l a es fl) (κ [] [[.str l, .int .i64 (a + (skipN (at' l a) : Int)), .sl 3 es fl]])
  | _, _, _, _ => none
def pNumber : Ans
  | [.c (.str s)], [], κ, _ => chk (Nat.ble s.length 8000) (κ [.c (.str (s.take (numN s)))] [])
  | _, _, _, _ => none
def pStroke : Ans
  | [.c (.int .u8 c)], [], κ, _ => chk (inU8 c) (κ [.c (.str (strokeL (UInt8.ofNat c.toNat)))] [])
  | _, _, _, _ => none

def FPut : CalleeK := onlyC 64 pFail noC
def FOpd : CalleeK := onlyC 35 pAmong noC
def FSkip : CalleeK := onlyC 55 pBegins (onlyC 38 pRun noC)
def FNum : CalleeK := onlyC 38 pRun noC
def FName : CalleeK := onlyC 38 pRun (onlyC 35 pAmong (onlyC 34 pPut (onlyC 64 pFail noC)))
def FText : CalleeK := onlyC 34 pPut (onlyC 64 pFail (onlyC 80 pStroke (onlyC 43 qWriteString (onlyC 42 qWriteByte (onlyC 44 qString noC)))))
def FPat : CalleeK := onlyC 34 pPut (onlyC 64 pFail (onlyC 55 pBegins (onlyC 42 qWriteByte (onlyC 44 qString noC))))
noncomputable def FSign : CalleeK := onlyC 34 pPut (onlyC 64 pFail (onlyC 82 qFields (onlyC 81 pSContains (onlyC 54 qIndexByte noC))))
def FNext : CalleeK := onlyC 34 pPut (onlyC 57 (pTok fName) (onlyC 60 (pTok fText) (onlyC 62 (pTok fPat) (onlyC 63 (pTok fSign) (onlyC 59 pNumber (onlyC 61 pOperand (onlyC 37 pLet (onlyC 58 pDig noC))))))))
def FWords : CalleeK := onlyC 34 pPut (onlyC 32 pSkip (onlyC 33 (pTok fNext) noC))
end Go.Proofs.YtmbhohnoolflbaaDoorX
