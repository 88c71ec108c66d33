/-
  The law ClassShows returns true at every input, and leaves its arguments as they were; no condition.
-/
import Derived.Test.YtmbhohnoolflbaaRows
import Derived.Test.YtmbhohnoolflbaaXSLShows
import Derived.Test.YtmbhohnoolflbaaXRow
import Derived.WalkKit
import Derived.ProofKit
import Derived.OpenShut
import Derived.ShutString
import Derived.ChangeOld
import Derived.Below
import Derived.SizedLaws
set_option linter.unusedVariables false
set_option maxRecDepth 100000
namespace Go.Proofs.Ytmbhohnoolflbaa
open Go.ChangeShapes Go.WideShapes Go.ChangeAt Go.RowKit
open Go.ChangeMaps (open_string shut_string)
open Go.Proofs.YtmbhohnoolflbaaX

theorem own1 : ownKnob Try.prog.godebug = none := by kernel_rfl
theorem laidOut1 : laidOutB Try.prog = true := by kernel_rfl

/-- A set that came in. -/
theorem set_of {l : List Int} (hl : l.length = 4) (hw : ∀ z, z ∈ l → (Lit.int .u64 z).wf = true) : ∃ N, N < 2 ^ 256 ∧ l.map (C.int .u64) = encS N := by
  match l, hl with
  | [a, b, c, d], _ =>
    have h : ∀ z, z ∈ [a, b, c, d] → inW z = true := by
      intro z hz
      have := hw z hz
      simp only [Lit.wf, IntKind.min, IntKind.max, IntKind.signed, IntKind.bits, Bool.false_eq_true, if_false, Bool.and_eq_true, decide_eq_true_eq] at this
      simp only [inW, Bool.and_eq_true, decide_eq_true_eq]
      omega
    have hd : ∃ N, decS [.int .u64 a, .int .u64 b, .int .u64 c, .int .u64 d] = some N := by
      simp only [decS, h a (by simp), h b (by simp), h c (by simp), h d (by simp), Bool.and_self, cond_true]
      exact ⟨_, rfl⟩
    obtain ⟨N, hN⟩ := hd
    obtain ⟨h1, h2⟩ := decS_some hN
    exact ⟨N, h2, h1⟩
theorem lifted1 (os : Os) (started : os.Started) (H : Type) (enc : TypeId × Value → H) :
    ReturnsInHanded {} Try.checked os 4 .any (Rows.classShowsSpec.pre6 enc Try.prog Try.f4 Rows.classShowsRow.domain false) (Rows.classShowsSpec.post enc Try.prog Try.f4 false true false false) := by
  refine returnsInHanded_of_change_sized (C := Try.checked) own1 started (by kernel_rfl) Try.func4
    (ChangeSpec.witness6 (enc := enc) (C := Try.checked) false ⟨#[], #[.agg #[.int .u64 0, .int .u64 0, .int .u64 0, .int .u64 0], .string ⟨#[]⟩, .string ⟨#[]⟩], []⟩ 8 (by kernel_rfl) (by kernel_rfl) (by kernel_rfl) (by kernel_rfl)) ?_
  intro W base args ds gs before hval0 hW hcnd hsz0 _
  have hW' := hW
  obtain ⟨p, q, hA0, hV, rfl, hfz, hnd⟩ := hW
  have hA : DataW.TrodAll enc Try.prog W 0 (fun _ => true) true Try.f4.params.toList args.toList ds p := hA0
  rw [Try.params4] at hA
  obtain ⟨v0, vs0, d0, ds0, p0, q0, hargs, rfl, rfl, h0, r0⟩ := trodAll_cons hA
  obtain ⟨v1, vs1, d1, ds1, p1, q1, rfl, rfl, rfl, h1, r1⟩ := trodAll_cons r0
  obtain ⟨v2, vs2, d2, ds2, p2, q2, rfl, rfl, rfl, h2, r2⟩ := trodAll_cons r1
  obtain ⟨rfl, rfl, rfl⟩ := trodAll_nil r2
  obtain rfl : args = #[v0, v1, v2] := by cases args; simp_all
  obtain ⟨rfl, rfl⟩ := trodVars_none hV
  obtain ⟨l0, rfl, hl0, hw0⟩ := open_arr (k := .u64) (n := 4) (e := 22) (by kernel_rfl) (by kernel_rfl) (by kernel_rfl) (by kernel_rfl) (by decide) h0
  obtain ⟨s1, rfl, rfl, rfl, hs1⟩ := open_string (by kernel_rfl) (hval0 1 _ _ rfl rfl) h1
  obtain ⟨s2, rfl, rfl, rfl, hs2⟩ := open_string (by kernel_rfl) (hval0 2 _ _ rfl rfl) h2
  obtain ⟨A, hA', eA⟩ := set_of hl0 hw0
  have hz2 := sized_string (t := 9) hsz0 (j := 2) (by kernel_rfl) rfl
  clear hA0 hval0
  have lt0 : ∀ x ∈ p0, x.block < W.heap.size := by obtain ⟨m, hm⟩ := h0; exact DataW.trod_lt m _ _ _ hm
  have hcall := shows_ok (a := s1.data.toList) (b := s2.data.toList) hA' (by have : reachBytes = 140737488351232 := rfl; omega)
  rw [← eA] at hcall
  refine (calls_true (I := fun _ _ => False) (args := [_, _, _]) hcall ⟨_, _, rfl, relV_ints _ _, _, _, rfl, ⟨rfl, rfl⟩, _, _, rfl, ⟨rfl, rfl⟩, rfl⟩ (fun _ _ h => h.elim)).mono fun e W' ⟨he, bel⟩ => ?_
  subst he
  exact ⟨_, rfl, _, _, _, [], _, [], hW', trodAll_mk1 (shut_bool Try.underlying4 _), trodAll_cons_mk (Below.trod laidOut1 (by kernel_rfl) (of_decide_eq_true (by kernel_rfl)) h0 bel lt0) (trodAll_cons_mk (shut_string (by kernel_rfl) hs1) (trodAll_cons_mk (shut_string (by kernel_rfl) hs2) trodAll_mk0)), rfl, bel.frame _, fun h => by cases h⟩

theorem over1 : Rows.classShowsRow.holds Try.pinned (OpenSpec.ofChange Rows.classShowsSpec) :=
  OpenClaim.holds_of_wide 4 Try.f4 rfl rfl rfl rfl rfl rfl rfl ⟨rfl, rfl, rfl, rfl, rfl⟩ rfl rfl rfl rfl rfl (by kernel_rfl) Try.func4 (by kernel_rfl)
    (of_decide_eq_true (by kernel_rfl)) (by unfold Func.isWrapper; first | (rw [if_pos (by decide +kernel)]; kernel_rfl) | (rw [if_neg (by decide +kernel)]; exact ⟨rfl, rfl⟩))
    (fun os started H enc _ => lifted1 os started H enc)
theorem classShows_holds : Rows.ClassShowsSaid := over1
#print axioms classShows_holds
end Go.Proofs.Ytmbhohnoolflbaa
