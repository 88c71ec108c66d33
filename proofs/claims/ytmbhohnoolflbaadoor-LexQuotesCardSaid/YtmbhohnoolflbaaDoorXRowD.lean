/-
  FROM THE INTERPRETER TO A ROW that lists variables: a law's call in the second world; the door's heap; the shape of the world beside the list.
-/
import Derived.Test.YtmbhohnoolflbaaDoorRows
import Derived.Test.YtmbhohnoolflbaaDoorXE
import Derived.Below
import Derived.WalkKit
import Derived.ProofKit
import Derived.OpenShut
import Derived.ShutString
import Derived.ChangeOld
import Derived.SizedLaws
import Derived.LaidMore
import Derived.Handed
import Derived.HandedShaped
import Derived.Shelf.Vars
import Derived.Stop.Joined
import Derived.Stop.LaidErr
import Derived.Lib.LaidTab
set_option linter.unusedVariables false
set_option maxRecDepth 100000
namespace Go.Proofs.YtmbhohnoolflbaaDoor
open Go.ChangeShapes Go.WideShapes Go.ChangeAt Go.RowKit
open Go.ChangeMaps (open_string shut_string)
open Go.Proofs.YtmbhohnoolflbaaDoorX

/-- What a row that lists variables asks, with the shape of the world for the contract. -/
theorem returns_listed {H : Type} {enc : TypeId × Value → H} {a : Assume} {C : Checked} {os : Os} {f : FuncId} {fn : Func} {s : ChangeSpec} {conds : List PathCond} {apart fresh handsOn again : Bool} {l : List (String × DataW Unit)}
    (own : ownKnob C.prog.godebug = none) (started : os.Started) (noInit : C.prog.inits.idxOf? f = none) (hfn : C.prog.funcs[f]? = some fn)
    (witness : ∃ (w : World) (tape : Tape) (i : Input), w.os = os ∧ (w.forCall tape i).Shaped C.prog ∧ i.vars = [] ∧ Input.okWide C.prog (w.forCall tape i) .any w.heap.size f i ∧
      ((s.pre enc C.prog fn conds apart (w.forCall tape i).memory i.args ∧ laidMetH C.prog l (w.forCall tape i).memory) ∧ sizedMet enc C.prog fn (OpenSpec.ofChange s) apart (w.forCall tape i).memory i.args) ∧ a.holds C.prog (lone (Frame.enter C.prog f i.args .normal) [] (w.forCall tape i)))
    (contract : ∀ (W : World) (base : Nat) (args : Array Value) (ds gs : List (DataW H)) (before : List MemPlace),
      (∀ (j : Nat) t v, fn.params[j]? = some t → args[j]? = some v → Value.okWide C.prog W .any base t v) →
      DataW.Whole enc C.prog fn.params.toList s.vars apart W args.toList ds gs before →
      conds.all (PathCond.test C.prog ⟨fn.params.toList, ds, s.plain.varTypes C.prog, gs⟩) = true →
      (DataW.weightsEach C.prog (fn.params.toList ++ s.plain.varTypes C.prog) (ds ++ gs)).all (· ≤ reachBytes) = true → laidMetH C.prog l W → W.ShapedOpen C.prog →
      Calls C.prog f args W fun e W' => ∃ v, e = .returned v ∧ s.post enc C.prog fn apart fresh handsOn again W args v W') :
    ReturnsInHanded a C os f .any (fun w args => (s.pre enc C.prog fn conds apart w args ∧ laidMetH C.prog l w) ∧ sizedMet enc C.prog fn (OpenSpec.ofChange s) apart w args) (s.post enc C.prog fn apart fresh handsOn again) := by
  refine returnsInHanded_of_calls own started noInit witness ?_
  intro w tape i _ hsh _ hok hpre _
  obtain ⟨_, _, _, fn', hfn', _, _, _, _, hval⟩ := hok
  obtain rfl : fn' = fn := Option.some.inj (hfn'.symm.trans hfn)
  obtain ⟨⟨⟨ds, gs, before, hw, hc⟩, hx⟩, hz⟩ := hpre
  refine (contract (w.forCall tape i) w.heap.size i.args ds gs before hval (DataW.Whole.of_heap (w' := w.forCall tape i) (by rfl) hw) hc (hz.weights hw) (hx.of_heap (by rfl)) hsh).mono fun e W' ⟨v, he, hp⟩ => ?_
  subst he
  exact ChangeSpec.post_blind hp

theorem own1 : ownKnob Tryd.prog.godebug = none := by kernel_rfl
theorem laidOut1 : laidOutB Tryd.prog = true := by kernel_rfl

theorem calls_trueW {E' : Cfg} {WW' : Imm → World → Prop} (ok : FnSpec Tryd.prog WW' (callInf E')) {f : FuncId} {vs : List V} {args : List Value} {W : World} {I : Imm} (h : callInf E' f vs [] = some (.ret [.c (.bool true)] [])) (hw : WW' I W) (hv : relVs I W (mpo []) vs args) (hI : ∀ b o, I b o → b < W.heap.size) :
    Calls Tryd.prog f args.toArray W fun e W' => e = .returned (.bool true) ∧ Below W.heap.size W W' := by
  obtain ⟨_, hs⟩ := ok f vs [] _ h
  refine (hs W I [] (fun _ => none) args hw hv ⟨rfl, fun i cs hi => by cases i <;> cases hi⟩ hI (fun b x hx => by cases hx)).mono ?_
  intro e W' he
  cases e with
  | outgrown => exact he.elim
  | panicked c => exact he.elim
  | returned v =>
    obtain ⟨J, ow', l, ts, h0, rfl, hr, _⟩ := he
    obtain ⟨u, r, t1, t2, rfl, rfl, hu, rfl, _⟩ := hr
    simp only [memN, Bool.false_eq_true, if_false] at hu
    obtain ⟨rfl, _⟩ := hu
    exact ⟨rfl, h0.step.ext.os, h0.step.ext.tape, h0.step.ext.output, h0.step.ext.size, fun k hk => h0.step.ext.block k hk (by simp)⟩

/-! ### The world of the lexer's laws -/
def spZ : List Int := (List.range 256).map fun c => if Lib.isSp (UInt8.ofNat c) then 1 else 0
theorem spZ_get {c : Nat} (hc : c < 256) : spZ.getD c 0 = if Lib.isSp (UInt8.ofNat c) then 1 else 0 := by
  unfold spZ
  rw [List.getD_eq_getElem?_getD, List.getElem?_map, List.getElem?_range hc]
  rfl
theorem gSp : Tryd.prog.globalNamed "strings.asciiSpace" = some 0 := by kernel_rfl
theorem sp_data : (Rows.laid_strings_asciiSpace : DataW Unit) = Lib.tabData .u8 spZ := by kernel_rfl
abbrev laidLex : List (String × DataW Unit) := [("unicode.White_Space", Rows.laid_unicode_White_Space), ("strings.asciiSpace", Rows.laid_strings_asciiSpace)]
def ILex : Imm := fun b o => (b = 1 ∧ o = 0) ∨ (b = 0 ∧ o < 256)
theorem sp_cell {W : World} (h : laidMetH Tryd.prog laidLex W) {c : Nat} (hc : c < 256) : W.cell? ⟨0, c, none⟩ = some (.int .u8 (if Lib.isSp (UInt8.ofNat c) then 1 else 0)) := by
  rw [MakeChecks.laidMetH_plain _ _ _ (by kernel_rfl)] at h
  have h1 : laidMet Tryd.prog (("strings.asciiSpace", Lib.tabData .u8 spZ) :: []) W := by
    have := laidMet.tail h
    rw [sp_data] at this
    exact this
  have hT := Lib.tabIs_of_head gSp (t := 103) (e := 5) (n := 256) (by kernel_rfl) (by kernel_rfl) (by kernel_rfl) (by kernel_rfl) (by kernel_rfl) h1
  rw [hT.cell gSp c (by rw [spZ, List.length_map, List.length_range]; exact hc), spZ_get hc]
theorem max_cell {W : World} (h : W.ShapedOpen Tryd.prog) : ∃ m, W.cell? ⟨1, 0, none⟩ = some (.int .i64 m) :=
  cell_of_shapedOpen_int (t := 3) (zero := #[.int .i64 0]) h (of_decide_eq_true (by kernel_rfl)) (by kernel_rfl) rfl (by kernel_rfl) (by kernel_rfl) (by kernel_rfl)
theorem lex_world {W : World} (h : laidMetH Tryd.prog laidLex W) (hs : W.ShapedOpen Tryd.prog) : WF ILex W ∧ ∀ b o, ILex b o → b < W.heap.size := by
  obtain ⟨m, hm⟩ := max_cell hs
  refine ⟨⟨⟨m, .inl ⟨rfl, rfl⟩, hm⟩, fun c hc => ⟨.inr ⟨rfl, hc⟩, sp_cell h hc⟩⟩, fun b o hb => ?_⟩
  rcases hb with ⟨rfl, rfl⟩ | ⟨rfl, ho⟩
  · exact World.block_lt_of_cell? W _ hm
  · exact World.block_lt_of_cell? W _ (sp_cell h ho)
/-- The door's own heap meets the condition. -/
theorem door_met (os : Os) (args : Array Value) : laidMetH Tryd.prog laidLex ((World.doorLaid Tryd.prog 48 os).forCall (fun _ _ => 0) ⟨#[], args, []⟩).memory :=
  laidMetH_of_parts3 (fuel := 8) (laidMet_of_run' 8 (by kernel_rfl) (by kernel_rfl)) (by kernel_rfl) (by kernel_rfl)
/-- A law of the lexer that takes one text. -/
theorem lifted_lex {os : Os} (started : os.Started) {H : Type} (enc : TypeId × Value → H) {f : FuncId} {fn : Func} {s : ChangeSpec} (hinit : Tryd.checked.prog.inits.idxOf? f = none) (hfn : Tryd.checked.prog.funcs[f]? = some fn)
    (hp : fn.params = #[9]) (hr : s.vars = []) (hfun : ∀ d, s.fn H [d] = { results := [.lit (.bool true)], args := [d] })
    (witness : ∃ (w : World) (tape : Tape) (i : Input), w.os = os ∧ (w.forCall tape i).Shaped Tryd.checked.prog ∧ i.vars = [] ∧ Input.okWide Tryd.checked.prog (w.forCall tape i) .any w.heap.size f i ∧
      ((s.pre enc Tryd.checked.prog fn [] false (w.forCall tape i).memory i.args ∧ laidMetH Tryd.checked.prog laidLex (w.forCall tape i).memory) ∧ sizedMet enc Tryd.checked.prog fn (OpenSpec.ofChange s) false (w.forCall tape i).memory i.args) ∧ ({} : Assume).holds Tryd.checked.prog (lone (Frame.enter Tryd.checked.prog f i.args .normal) [] (w.forCall tape i)))
    (hcall : ∀ l : List UInt8, callInf EF f [.c (.str l)] [] = some (.ret [.c (.bool true)] [])) (hres : fn.resultTypes = #[4]) :
    ReturnsInHanded {} Tryd.checked os f .any (fun w args => (s.pre enc Tryd.prog fn [] false w args ∧ laidMetH Tryd.prog laidLex w) ∧ sizedMet enc Tryd.prog fn (OpenSpec.ofChange s) false w args) (s.post enc Tryd.prog fn false true false false) := by
  refine returns_listed (C := Tryd.checked) own1 started hinit hfn witness ?_
  intro W base args ds gs before hval0 hW _ _ hL hsh
  obtain ⟨iw, ib⟩ := lex_world hL hsh
  have hW' := hW
  obtain ⟨p, q, hA0, hV, rfl, hfz, hnd⟩ := hW
  have hA : DataW.TrodAll enc Tryd.prog W 0 (fun _ => true) true fn.params.toList args.toList ds p := hA0
  rw [hp] at hA
  obtain ⟨v0, vs0, d0, ds0, p0, q0, hargs, rfl, rfl, h0, r0⟩ := trodAll_cons hA
  obtain ⟨rfl, rfl, rfl⟩ := trodAll_nil r0
  obtain rfl : args = #[v0] := by cases args; simp_all
  rw [hr] at hV
  obtain ⟨rfl, rfl⟩ := trodVars_none hV
  obtain ⟨s1, rfl, rfl, rfl, hs1⟩ := open_string (by kernel_rfl) (hval0 0 _ _ (by rw [hp]; rfl) rfl) h0
  clear hA0 hval0
  have hc := hcall s1.data.toList
  refine (calls_trueW inf_okF (I := ILex) (args := [_]) hc iw ⟨_, _, rfl, ⟨rfl, rfl⟩, rfl⟩ ib).mono fun e W' ⟨he, bel⟩ => ?_
  subst he
  have e1 : s.fn H ([.lit (.string s1.data.toList)] ++ []) = { results := [.lit (.bool true)], args := [.lit (.string s1.data.toList)] } := hfun _
  refine ⟨_, rfl, _, _, _, [], [], [], hW', ?_, ?_, ?_, bel.frame _, fun h => by cases h⟩
  · rw [e1, hres]; exact trodAll_mk1 (shut_bool Tryd.underlying4 _)
  · rw [e1, hp]; exact trodAll_cons_mk (shut_string (by kernel_rfl) hs1) trodAll_mk0
  · rw [e1, hr]; rfl
end Go.Proofs.YtmbhohnoolflbaaDoor
