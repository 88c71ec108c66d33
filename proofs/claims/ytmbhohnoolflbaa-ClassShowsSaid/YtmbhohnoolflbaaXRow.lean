/-
  FROM THE INTERPRETER TO A ROW: a law's call; its arguments out of what the row reads.
-/
import Derived.Test.YtmbhohnoolflbaaXE
import Derived.Below
import Derived.WalkKit
import Derived.ProofKit
set_option linter.unusedVariables false
namespace Go.Proofs.YtmbhohnoolflbaaX
open Go.RowKit

theorem calls_true {f : FuncId} {vs : List V} {args : List Value} {W : World} {I : Imm} (h : callInf E f vs [] = some (.ret [.c (.bool true)] [])) (hv : relVs I W (mpo []) vs args) (hI : ∀ b o, I b o → b < W.heap.size) :
    Calls Try.prog f args.toArray W fun e W' => e = .returned (.bool true) ∧ Below W.heap.size W W' := by
  obtain ⟨_, hs⟩ := inf_ok f vs [] _ h
  refine (hs W I [] (fun _ => none) args trivial hv ⟨rfl, fun i cs hi => by cases i <;> cases hi⟩ hI (fun b x hx => by cases hx)).mono ?_
  intro e W' he
  cases e with
  | outgrown => exact he.elim
  | panicked c => exact he.elim
  | returned v =>
    obtain ⟨J, ow', l, ts, h0, rfl, hr, _⟩ := he
    obtain ⟨u, r, t1, t2, rfl, rfl, hu, rfl, _⟩ := hr
    simp only [memN, Bool.false_eq_true, if_false] at hu
    obtain ⟨rfl, _⟩ := hu
    exact ⟨rfl, h0.step.ext.os, h0.step.ext.tape, h0.step.ext.output, h0.step.ext.size, fun k hk => h0.step.ext.block k hk (by simp)⟩

theorem mapM_get {α β : Type} {f : α → Option β} : ∀ {l : List α} {ys : List β}, l.mapM f = some ys → ∀ x, x ∈ l → ∃ y, f x = some y
  | [], _, _, x, hx => by cases hx
  | a :: l, ys, h, x, hx => by
    simp only [List.mapM_cons, Option.bind_eq_bind, Option.bind_eq_some_iff, Option.pure_def] at h
    obtain ⟨y, hy, ys', hys, _⟩ := h
    rcases List.mem_cons.1 hx with rfl | hx
    · exact ⟨y, hy⟩
    · exact mapM_get hys x hx

section
variable {H : Type} {enc : TypeId × Value → H} {P : Program} {w : World} {base : Nat} {sp : Nat → Bool} {held : Bool}
theorem open_cell {e : TypeId} {k : IntKind} (he : P.underlying e = some (.int k)) {fuel : Nat} {cs : List Value} {x : DataW H × List MemPlace} (h : DataW.trod enc P w base sp held fuel e cs = some x) : ∃ z, cs = [.int k z] ∧ (Lit.int k z).wf = true := by
  cases fuel with
  | zero => simp [DataW.trod] at h
  | succ fuel =>
    unfold DataW.trod at h
    rw [he] at h
    split at h
    all_goals first
      | (rename_i heq; cases heq; done)
      | (rename_i heq; simp only [Option.some.injEq, TypeDesc.int.injEq] at heq; subst heq; split at h <;> first | (rename_i hc; exact ⟨_, by rw [hc.1], hc.2⟩) | cases h)
      | (cases h; done)
      | skip
theorem open_arr {t e : TypeId} {n : Nat} {k : IntKind} (ht : P.underlying t = some (.array n e)) (he : P.underlying e = some (.int k)) (hc : P.cellsOf e = 1) (hct : P.cellsOf t = n) (hn : n ≠ 1) {v : Value} {d : DataW H} {p : List MemPlace}
    (h : DataW.Trod enc P w base sp held t v d p) : ∃ l : List Int, v = .agg (l.map (Value.int k)).toArray ∧ l.length = n ∧ ∀ z, z ∈ l → (Lit.int k z).wf = true := by
  obtain ⟨fuel, hf⟩ := h
  obtain ⟨xs, m, _, _, hlen, hxl, hget⟩ := DataW.trod_array ht hf
  rw [hct] at hlen
  rw [hc] at hget
  have hcell : ∀ i, i < n → ∃ z, v.cells.toList[i]? = some (.int k z) ∧ (Lit.int k z).wf = true := by
    intro i hi
    have h1 := hget i hi
    rw [List.getElem?_eq_getElem (by omega)] at h1
    obtain ⟨z, hz, hw⟩ := open_cell he h1
    refine ⟨z, ?_, hw⟩
    have h2 := congrArg (fun l => l[0]?) hz
    simp only [List.getElem?_take, Nat.zero_lt_one, if_true, List.getElem?_drop, Nat.mul_one, Nat.add_zero, List.getElem?_cons_zero] at h2
    exact h2
  have hv : ∃ cs, v = .agg cs := by
    cases v with
    | agg cs => exact ⟨cs, rfl⟩
    | _ => simp [Value.cells] at hlen; omega
  obtain ⟨cs, rfl⟩ := hv
  have hcs : (Value.agg cs).cells.toList = cs.toList := rfl
  rw [hcs] at hlen hcell
  let g : Value → Int := fun c => match c with | .int _ z => z | _ => 0
  refine ⟨cs.toList.map g, ?_, by simpa using hlen, ?_⟩
  · congr 1
    apply Array.ext'
    simp only [List.map_map]
    apply List.ext_getElem?
    intro i
    by_cases hi : i < n
    · obtain ⟨z, hz, _⟩ := hcell i hi
      rw [List.getElem?_map, hz]
      rfl
    · rw [List.getElem?_eq_none (by omega), List.getElem?_eq_none (by simp at hlen ⊢; omega)]
  · intro z hz
    obtain ⟨c, hc', rfl⟩ := List.mem_map.1 hz
    obtain ⟨i, hi, hci⟩ := List.mem_iff_getElem.1 hc'
    obtain ⟨z', hz', hw⟩ := hcell i (by omega)
    rw [List.getElem?_eq_getElem hi, hci] at hz'
    cases hz'
    exact hw
/-- Whole numbers as cells. -/
theorem relL_ints {I : Imm} {w : World} {mp : PRef → Option Nat} (k : IntKind) : ∀ l : List Int, relL I w mp (l.map (C.int k)) (l.map (Value.int k)) []
  | [] => ⟨rfl, rfl⟩
  | z :: l => ⟨_, _, [], [], rfl, rfl, ⟨rfl, rfl⟩, relL_ints k l⟩
theorem relV_ints {I : Imm} {w : World} {mp : PRef → Option Nat} (k : IntKind) (l : List Int) : relV I w mp (.agg (l.map (C.int k))) (.agg (l.map (Value.int k)).toArray) [] :=
  ⟨rfl, _, rfl, relL_ints k l, by simp [noPtr]⟩
end
end Go.Proofs.YtmbhohnoolflbaaX
