/-
  READING CELLS: the words that the printed functions use.
-/
import Derived.Test.YtmbhohnoolflbaaDoorXFlat
namespace Go.Proofs.YtmbhohnoolflbaaDoorX

def rI (k : IntKind) (x : C) (κ : Int → R) : R :=
  match x with
  | .int k' n => if k' = k then κ n else none
  | _ => none
def rB (x : C) (κ : Bool → R) : R :=
  match x with
  | .bool b => κ b
  | _ => none
def rS (x : C) (κ : List UInt8 → R) : R :=
  match x with
  | .str l => κ l
  | _ => none
def rL (x : C) (κ : Nat → List (List D) → Fl → R) : R :=
  match x with
  | .sl sz es fl => κ sz es fl
  | _ => none
@[simp] theorem rI_int (k : IntKind) (n : Int) (κ : Int → R) : rI k (.int k n) κ = κ n := by simp [rI]
@[simp] theorem rB_bool (b : Bool) (κ : Bool → R) : rB (.bool b) κ = κ b := rfl
@[simp] theorem rS_str (l : List UInt8) (κ : List UInt8 → R) : rS (.str l) κ = κ l := rfl
@[simp] theorem rL_sl (sz : Nat) (es : List (List D)) (fl : Fl) (κ : Nat → List (List D) → Fl → R) : rL (.sl sz es fl) κ = κ sz es fl := rfl

theorem chk_true (r : R) : chk true r = r := rfl
theorem chk_false (r : R) : chk false r = none := rfl
theorem onO_some {α : Type} (a : α) (κ : α → R) : onO (some a) κ = κ a := rfl
theorem onO_none {α : Type} (κ : α → R) : onO none κ = none := rfl
@[simp] theorem chk_pos {b : Bool} (h : b = true) (r : R) : chk b r = r := by rw [h]; rfl
@[simp] theorem onO_pos {α : Type} {o : Option α} {a : α} (h : o = some a) (κ : α → R) : onO o κ = κ a := by rw [h]; rfl

end Go.Proofs.YtmbhohnoolflbaaDoorX
