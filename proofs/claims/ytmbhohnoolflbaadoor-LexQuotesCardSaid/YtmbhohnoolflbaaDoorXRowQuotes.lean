/-
  The law LexQuotes returns true at every input, and leaves its argument as it was; the row lists unicode.White_Space and strings.asciiSpace, both tied to the program's text.
-/
import Derived.Test.YtmbhohnoolflbaaDoorCards
import Derived.Test.YtmbhohnoolflbaaDoorTie
import Derived.Test.YtmbhohnoolflbaaDoorXSLQuote
import Derived.Test.YtmbhohnoolflbaaDoorXRowD
import Derived.SevenTiedAt
set_option linter.unusedVariables false
set_option maxRecDepth 100000
namespace Go.Proofs.YtmbhohnoolflbaaDoor
open Go.ChangeShapes Go.WideShapes Go.ChangeAt Go.RowKit
open Go.Proofs.YtmbhohnoolflbaaDoorX

theorem lexQuotes_row : Rows.LexQuotesSaid :=
  OpenClaim.holds_of_wide 5 Tryd.f5 rfl rfl rfl rfl rfl rfl rfl ⟨rfl, rfl, rfl, rfl, rfl⟩ rfl rfl rfl rfl rfl (by kernel_rfl) Tryd.func5 (by kernel_rfl)
    (of_decide_eq_true (by kernel_rfl)) (by unfold Func.isWrapper; first | (rw [if_pos (by decide +kernel)]; kernel_rfl) | (rw [if_neg (by decide +kernel)]; exact ⟨rfl, rfl⟩))
    (fun os started H enc _ => lifted_lex (s := Rows.lexQuotesSpec) started enc (by kernel_rfl) Tryd.func5 Tryd.params5 rfl (fun _ => rfl)
      (ChangeSpec.witness_shaped (enc := enc) (C := Tryd.checked) (os := os) (X := fun w _ => laidMetH Tryd.prog laidLex w) false (World.doorLaid Tryd.prog 48 os) #[.string ⟨#[]⟩] 8 rfl (World.shaped_of_RefB (by kernel_rfl) (by kernel_rfl)) (by kernel_rfl) (by kernel_rfl) (by kernel_rfl) (door_met os _))
      quotes_ok rfl)
theorem lexQuotes_card : Rows.LexQuotesCardSaid :=
  Claim7.holds_tied_plain_at .later [] [.listed, .data] true (true, "350c0e4d6bf826b623e914e7767bec0860582de50f42811b05effc9990174ea7") true
    lexQuotes_row (fun _ h => by cases h) (by kernel_rfl) (fun _ h => by cases h) lexQuotes_row_tie rfl ⟨rfl, rfl⟩ (by kernel_rfl) rfl
    (fun f fn hf hfn => by
      obtain rfl : f = 5 := Option.some.inj ((show Tryd.prog.funcNamed "auklet/aukletlaw11.LexQuotes" = some 5 by kernel_rfl).symm.trans hf) |>.symm
      obtain rfl : fn = Tryd.f5 := (Option.some.inj (Tryd.func5.symm.trans hfn)).symm
      exact ⟨by kernel_rfl, fun j t ht => by
        rw [Tryd.params5] at ht
        have h3 : t = 9 := by
          rcases j with _ | j
          · simpa using ht.symm
          · simp at ht
        subst h3
        exact (show Tryd.prog.wantsStandIn 9 = false by kernel_rfl)⟩)
    (by kernel_rfl)
#print axioms lexQuotes_card
end Go.Proofs.YtmbhohnoolflbaaDoor
