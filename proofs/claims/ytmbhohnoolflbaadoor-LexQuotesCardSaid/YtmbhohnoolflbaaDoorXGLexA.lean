/-
  PRINTED by this claim's own tool: what the interpreter answers on the functions of a package, as plain Lean; each equation by the kernel.
-/
import Derived.Test.YtmbhohnoolflbaaDoorXKLexA
set_option maxRecDepth 100000
set_option linter.unusedVariables false
namespace Go.Proofs.YtmbhohnoolflbaaDoorX
open Go Go.Proofs
noncomputable def lletter.r (J : List Nat → St → R) (x : Int) : R :=
  bif decide ((65 : Int) ≤ x) then (bif decide (x ≤ (90 : Int)) then (some (Res.ret [V.c (C.bool true)] [])) else (bif decide ((97 : Int) ≤ x) then (bif decide (x ≤ (122 : Int)) then (some (Res.ret [V.c (C.bool true)] [])) else (some (Res.ret [V.c (C.bool (x == (95 : Int)))] []))) else (some (Res.ret [V.c (C.bool (x == (95 : Int)))] [])))) else (bif decide ((97 : Int) ≤ x) then (bif decide (x ≤ (122 : Int)) then (some (Res.ret [V.c (C.bool true)] [])) else (some (Res.ret [V.c (C.bool (x == (95 : Int)))] []))) else (some (Res.ret [V.c (C.bool (x == (95 : Int)))] [])))
theorem lletter.r_eq (J : List Nat → St → R) (x : Int) : Run EF noC ((37 : FuncId)) Tryd.f37 J [] [] (st0 EF (37 : FuncId) Tryd.f37 [V.c (C.int IntKind.u8 x)] []) = lletter.r J x := by kernel_rfl

noncomputable def ldigit.r (J : List Nat → St → R) (x : Int) : R :=
  bif decide ((48 : Int) ≤ x) then (some (Res.ret [V.c (C.bool (decide (x ≤ (57 : Int))))] [])) else (some (Res.ret [V.c (C.bool false)] []))
theorem ldigit.r_eq (J : List Nat → St → R) (x : Int) : Run EF noC ((58 : FuncId)) Tryd.f58 J [] [] (st0 EF (58 : FuncId) Tryd.f58 [V.c (C.int IntKind.u8 x)] []) = ldigit.r J x := by kernel_rfl

noncomputable def linner.r (J : List Nat → St → R) (x : Int) : R :=
  bif isLet x then (some (Res.ret [V.c (C.bool true)] [])) else (some (Res.ret [V.c (C.bool (isDig x))] []))
theorem linner.r_eq (J : List Nat → St → R) (x : Int) : Run EF FInn ((39 : FuncId)) Tryd.f39 J [] [] (st0 EF (39 : FuncId) Tryd.f39 [V.c (C.int IntKind.u8 x)] []) = linner.r J x := by kernel_rfl

noncomputable def lcom.r (J : List Nat → St → R) (x : Int) : R :=
  some (Res.ret [V.c (C.bool !x == (10 : Int))] [])
theorem lcom.r_eq (J : List Nat → St → R) (x : Int) : Run EF noC ((56 : FuncId)) Tryd.f56 J [] [] (st0 EF (56 : FuncId) Tryd.f56 [V.c (C.int IntKind.u8 x)] []) = lcom.r J x := by kernel_rfl

noncomputable def lamong.r (J : List Nat → St → R) (l : List UInt8) (s : List UInt8) : R :=
  bif !s == ([] : List UInt8) then (chk (decide (List.length (([(32 : UInt8)] : List UInt8)) + List.length s ≤ (9223372036854775807 : Nat))) (chk (decide (List.length (([(32 : UInt8)] : List UInt8) ++ s) + List.length (([(32 : UInt8)] : List UInt8)) ≤ (9223372036854775807 : Nat))) (chk (Nat.ble (List.length l) (1000000 : Nat)) (some (Res.ret [V.c (C.bool (Lib.contains l (([(32 : UInt8)] : List UInt8) ++ s ++ ([(32 : UInt8)] : List UInt8))))] []))))) else (some (Res.ret [V.c (C.bool false)] []))
theorem lamong.r_eq (J : List Nat → St → R) (l : List UInt8) (s : List UInt8) : Run EF FAmong ((35 : FuncId)) Tryd.f35 J [] [] (st0 EF (35 : FuncId) Tryd.f35 [V.c (C.str l), V.c (C.str s)] []) = lamong.r J l s := by kernel_rfl

def «lrun1.S1» (s1 : List UInt8) (i2 : Int) : St := { env := [((0 : Nat), AV.v (V.c (C.str s1))), ((1 : Nat), AV.v (V.c (C.fn (39 : Nat) []))), ((5 : Nat), AV.v (V.c (C.int IntKind.i64 i2)))], loc := [], out := [], dfr := none }
noncomputable def lrun1.r (J : List Nat → St → R) (l : List UInt8) : R :=
  J [0, 0, 0, 1, 1] («lrun1.S1» l ((0 : Int)))
theorem lrun1.r_eq (J : List Nat → St → R) (l : List UInt8) : Run EF FRun1 ((38 : FuncId)) Tryd.f38 J [] [] (st0 EF (38 : FuncId) Tryd.f38 [V.c (C.str l), V.c (C.fn (39 : FuncId) [])] []) = lrun1.r J l := by kernel_rfl
noncomputable def lrun1.r1 (J : List Nat → St → R) (s1 : List UInt8) (i2 : Int) : R :=
  bif decide (i2 < (↑(List.length s1) : Int)) then (chk (inB i2 (List.length s1)) (bif isInn (↑(UInt8.toNat (List.getD s1 (Int.toNat i2) (0 : UInt8))) : Int) then (J [0, 0, 0, 1, 1] («lrun1.S1» s1 (IntKind.wrap IntKind.i64 (i2 + (1 : Int))))) else (chk (decide ((↑(0 : Nat) : Int) ≤ i2) && decide (i2 ≤ (↑(List.length s1) : Int))) (some (Res.ret [V.c (C.str (List.drop (0 : Nat) (List.take (Int.toNat i2) s1)))] []))))) else (chk (decide ((↑(0 : Nat) : Int) ≤ i2) && decide (i2 ≤ (↑(List.length s1) : Int))) (some (Res.ret [V.c (C.str (List.drop (0 : Nat) (List.take (Int.toNat i2) s1)))] [])))
theorem lrun1.r1_eq (J : List Nat → St → R) (s1 : List UInt8) (i2 : Int) : Run EF FRun1 ((38 : FuncId)) Tryd.f38 J [] [0, 0, 0, 1, 1] («lrun1.S1» s1 i2) = lrun1.r1 J s1 i2 := by kernel_rfl

def «lrun2.S1» (s1 : List UInt8) (i2 : Int) : St := { env := [((0 : Nat), AV.v (V.c (C.str s1))), ((1 : Nat), AV.v (V.c (C.fn (58 : Nat) []))), ((5 : Nat), AV.v (V.c (C.int IntKind.i64 i2)))], loc := [], out := [], dfr := none }
noncomputable def lrun2.r (J : List Nat → St → R) (l : List UInt8) : R :=
  J [0, 0, 0, 1, 1] («lrun2.S1» l ((0 : Int)))
theorem lrun2.r_eq (J : List Nat → St → R) (l : List UInt8) : Run EF FRun2 ((38 : FuncId)) Tryd.f38 J [] [] (st0 EF (38 : FuncId) Tryd.f38 [V.c (C.str l), V.c (C.fn (58 : FuncId) [])] []) = lrun2.r J l := by kernel_rfl
noncomputable def lrun2.r1 (J : List Nat → St → R) (s1 : List UInt8) (i2 : Int) : R :=
  bif decide (i2 < (↑(List.length s1) : Int)) then (chk (inB i2 (List.length s1)) (bif isDig (↑(UInt8.toNat (List.getD s1 (Int.toNat i2) (0 : UInt8))) : Int) then (J [0, 0, 0, 1, 1] («lrun2.S1» s1 (IntKind.wrap IntKind.i64 (i2 + (1 : Int))))) else (chk (decide ((↑(0 : Nat) : Int) ≤ i2) && decide (i2 ≤ (↑(List.length s1) : Int))) (some (Res.ret [V.c (C.str (List.drop (0 : Nat) (List.take (Int.toNat i2) s1)))] []))))) else (chk (decide ((↑(0 : Nat) : Int) ≤ i2) && decide (i2 ≤ (↑(List.length s1) : Int))) (some (Res.ret [V.c (C.str (List.drop (0 : Nat) (List.take (Int.toNat i2) s1)))] [])))
theorem lrun2.r1_eq (J : List Nat → St → R) (s1 : List UInt8) (i2 : Int) : Run EF FRun2 ((38 : FuncId)) Tryd.f38 J [] [0, 0, 0, 1, 1] («lrun2.S1» s1 i2) = lrun2.r1 J s1 i2 := by kernel_rfl

def «lrun3.S1» (s1 : List UInt8) (i2 : Int) : St := { env := [((0 : Nat), AV.v (V.c (C.str s1))), ((1 : Nat), AV.v (V.c (C.fn (56 : Nat) []))), ((5 : Nat), AV.v (V.c (C.int IntKind.i64 i2)))], loc := [], out := [], dfr := none }
noncomputable def lrun3.r (J : List Nat → St → R) (l : List UInt8) : R :=
  J [0, 0, 0, 1, 1] («lrun3.S1» l ((0 : Int)))
theorem lrun3.r_eq (J : List Nat → St → R) (l : List UInt8) : Run EF FRun3 ((38 : FuncId)) Tryd.f38 J [] [] (st0 EF (38 : FuncId) Tryd.f38 [V.c (C.str l), V.c (C.fn (56 : FuncId) [])] []) = lrun3.r J l := by kernel_rfl
noncomputable def lrun3.r1 (J : List Nat → St → R) (s1 : List UInt8) (i2 : Int) : R :=
  bif decide (i2 < (↑(List.length s1) : Int)) then (chk (inB i2 (List.length s1)) (bif !(↑(UInt8.toNat (List.getD s1 (Int.toNat i2) (0 : UInt8))) : Int) == (10 : Int) then (J [0, 0, 0, 1, 1] («lrun3.S1» s1 (IntKind.wrap IntKind.i64 (i2 + (1 : Int))))) else (chk (decide ((↑(0 : Nat) : Int) ≤ i2) && decide (i2 ≤ (↑(List.length s1) : Int))) (some (Res.ret [V.c (C.str (List.drop (0 : Nat) (List.take (Int.toNat i2) s1)))] []))))) else (chk (decide ((↑(0 : Nat) : Int) ≤ i2) && decide (i2 ≤ (↑(List.length s1) : Int))) (some (Res.ret [V.c (C.str (List.drop (0 : Nat) (List.take (Int.toNat i2) s1)))] [])))
theorem lrun3.r1_eq (J : List Nat → St → R) (s1 : List UInt8) (i2 : Int) : Run EF FRun3 ((38 : FuncId)) Tryd.f38 J [] [0, 0, 0, 1, 1] («lrun3.S1» s1 i2) = lrun3.r1 J s1 i2 := by kernel_rfl

noncomputable def lpre1.r (J : List Nat → St → R) (a : List UInt8) (b : List UInt8) : R :=
  bif decide ((↑(List.length b) : Int) ≤ (↑(List.length a) : Int)) then (chk (decide ((↑(List.length b) : Int) ≤ (↑(List.length a) : Int))) (some (Res.ret [V.c (C.bool (List.drop (0 : Nat) (List.take (Int.toNat (↑(List.length b) : Int)) a) == b))] []))) else (some (Res.ret [V.c (C.bool false)] []))
theorem lpre1.r_eq (J : List Nat → St → R) (a : List UInt8) (b : List UInt8) : Run EF noC ((79 : FuncId)) Tryd.f79 J [] [] (st0 EF (79 : FuncId) Tryd.f79 [V.c (C.str a), V.c (C.str b)] []) = lpre1.r J a b := by kernel_rfl

noncomputable def lpre.r (J : List Nat → St → R) (a : List UInt8) (b : List UInt8) : R :=
  some (Res.ret [V.c (C.bool (begins a b))] [])
theorem lpre.r_eq (J : List Nat → St → R) (a : List UInt8) (b : List UInt8) : Run EF FBegins ((55 : FuncId)) Tryd.f55 J [] [] (st0 EF (55 : FuncId) Tryd.f55 [V.c (C.str a), V.c (C.str b)] []) = lpre.r J a b := by kernel_rfl

def «lsidx.S1» (es1 : List (List D)) (x2 : Fl) (s3 : List UInt8) (i4 : Int) (i5 : Int) : St := { env := [((0 : Nat), AV.v (V.c (C.sl (1 : Nat) es1 x2))), ((1 : Nat), AV.v (V.c (C.str s3))), ((7 : Nat), AV.v (V.c (C.int IntKind.i64 i4))), ((8 : Nat), AV.v (V.c (C.int IntKind.i64 i5)))], loc := [], out := [], dfr := none }
noncomputable def lsidx.r (J : List Nat → St → R) (es : List (List D)) (fl : Fl) (s : List UInt8) : R :=
  J [0, 0, 1, 0, 1] («lsidx.S1» es fl s ((↑(List.length es) : Int)) ((0 : Int)))
theorem lsidx.r_eq (J : List Nat → St → R) (es : List (List D)) (fl : Fl) (s : List UInt8) : Run EF noC ((94 : FuncId)) Tryd.f94 J [] [] (st0 EF (94 : FuncId) Tryd.f94 [V.c (C.sl (1 : Nat) es fl), V.c (C.str s)] []) = lsidx.r J es fl s := by kernel_rfl
noncomputable def lsidx.r1 (J : List Nat → St → R) (es1 : List (List D)) (x2 : Fl) (s3 : List UInt8) (i4 : Int) (i5 : Int) : R :=
  bif decide (i5 < i4) then (chk (inB i5 (List.length es1)) (onO (nth (List.getD es1 (Int.toNat i5) []) (0 : Nat)) fun xv1 => rS (D.toC xv1) fun sv5 => bif s3 == sv5 then (some (Res.ret [V.c (C.int IntKind.i64 i5)] [])) else (J [0, 0, 1, 0, 1] («lsidx.S1» es1 x2 s3 i4 (IntKind.wrap IntKind.i64 (i5 + (1 : Int))))))) else (some (Res.ret [V.c (C.int IntKind.i64 (-1 : Int))] []))
theorem lsidx.r1_eq (J : List Nat → St → R) (es1 : List (List D)) (x2 : Fl) (s3 : List UInt8) (i4 : Int) (i5 : Int) : Run EF noC ((94 : FuncId)) Tryd.f94 J [] [0, 0, 1, 0, 1] («lsidx.S1» es1 x2 s3 i4 i5) = lsidx.r1 J es1 x2 s3 i4 i5 := by kernel_rfl

noncomputable def lscon.r (J : List Nat → St → R) (es : List (List D)) (fl : Fl) (s : List UInt8) : R :=
  onO (strsD es) fun esv1 => chk (Nat.ble (List.length esv1) (1000000 : Nat)) (some (Res.ret [V.c (C.bool (decide ((0 : Int) ≤ idxFrom s esv1 (0 : Nat))))] []))
theorem lscon.r_eq (J : List Nat → St → R) (es : List (List D)) (fl : Fl) (s : List UInt8) : Run EF FSC ((81 : FuncId)) Tryd.f81 J [] [] (st0 EF (81 : FuncId) Tryd.f81 [V.c (C.sl (1 : Nat) es fl), V.c (C.str s)] []) = lscon.r J es fl s := by kernel_rfl

end Go.Proofs.YtmbhohnoolflbaaDoorX
