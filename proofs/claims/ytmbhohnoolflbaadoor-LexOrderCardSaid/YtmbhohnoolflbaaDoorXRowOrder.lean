/-
  The law LexOrder returns true at every input, and leaves its argument as it was; the row lists unicode.White_Space and strings.asciiSpace, both tied to the program's text.
-/
import Derived.Test.YtmbhohnoolflbaaDoorCards
import Derived.Test.YtmbhohnoolflbaaDoorTie
import Derived.Test.YtmbhohnoolflbaaDoorXSLOrder
import Derived.Test.YtmbhohnoolflbaaDoorXRowD
import Derived.SevenTiedAt
set_option linter.unusedVariables false
set_option maxRecDepth 100000
namespace Go.Proofs.YtmbhohnoolflbaaDoor
open Go.ChangeShapes Go.WideShapes Go.ChangeAt Go.RowKit
open Go.Proofs.YtmbhohnoolflbaaDoorX

theorem lexOrder_row : Rows.LexOrderSaid :=
  OpenClaim.holds_of_wide 3 Tryd.f3 rfl rfl rfl rfl rfl rfl rfl ⟨rfl, rfl, rfl, rfl, rfl⟩ rfl rfl rfl rfl rfl (by kernel_rfl) Tryd.func3 (by kernel_rfl)
    (of_decide_eq_true (by kernel_rfl)) (by unfold Func.isWrapper; first | (rw [if_pos (by decide +kernel)]; kernel_rfl) | (rw [if_neg (by decide +kernel)]; exact ⟨rfl, rfl⟩))
    (fun os started H enc _ => lifted_lex (s := Rows.lexOrderSpec) started enc (by kernel_rfl) Tryd.func3 Tryd.params3 rfl (fun _ => rfl)
      (ChangeSpec.witness_shaped (enc := enc) (C := Tryd.checked) (os := os) (X := fun w _ => laidMetH Tryd.prog laidLex w) false (World.doorLaid Tryd.prog 48 os) #[.string ⟨#[]⟩] 8 rfl (World.shaped_of_RefB (by kernel_rfl) (by kernel_rfl)) (by kernel_rfl) (by kernel_rfl) (by kernel_rfl) (door_met os _))
      order_ok rfl)
theorem lexOrder_card : Rows.LexOrderCardSaid :=
  Claim7.holds_tied_plain_at .later [] [.listed, .data] true (true, "350c0e4d6bf826b623e914e7767bec0860582de50f42811b05effc9990174ea7") true
    lexOrder_row (fun _ h => by cases h) (by kernel_rfl) (fun _ h => by cases h) lexOrder_row_tie rfl ⟨rfl, rfl⟩ (by kernel_rfl) rfl
    (fun f fn hf hfn => by
      obtain rfl : f = 3 := Option.some.inj ((show Tryd.prog.funcNamed "auklet/aukletlaw11.LexOrder" = some 3 by kernel_rfl).symm.trans hf) |>.symm
      obtain rfl : fn = Tryd.f3 := (Option.some.inj (Tryd.func3.symm.trans hfn)).symm
      exact ⟨by kernel_rfl, fun j t ht => by
        rw [Tryd.params3] at ht
        have h3 : t = 9 := by
          rcases j with _ | j
          · simpa using ht.symm
          · simp at ht
        subst h3
        exact (show Tryd.prog.wantsStandIn 9 = false by kernel_rfl)⟩)
    (by kernel_rfl)
#print axioms lexOrder_card
end Go.Proofs.YtmbhohnoolflbaaDoor
