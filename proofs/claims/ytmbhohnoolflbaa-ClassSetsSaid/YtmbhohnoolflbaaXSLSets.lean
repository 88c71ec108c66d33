/-
  THE LAW ClassSets answers true, whatever the sets and the bytes.
-/
import Derived.Test.YtmbhohnoolflbaaXGLSets
import Derived.Test.YtmbhohnoolflbaaXSClass
set_option linter.unusedVariables false
set_option linter.unusedSimpArgs false
set_option maxRecDepth 100000
namespace Go.Proofs.YtmbhohnoolflbaaX

theorem fits_cHas : FitsAt E 9 pHas := by
  intro a b κ κp r h
  unfold pHas at h
  split at h
  · obtain ⟨N, hN, h1⟩ := onO_inv h
    obtain ⟨hx, h2⟩ := chk_inv h1
    obtain ⟨rfl, hN'⟩ := decS_some hN
    simp only [isB, Bool.and_eq_true, decide_eq_true_eq] at hx
    exact ⟨_, cHas_ok hN' hx.1 hx.2, h2⟩
  · cases h
theorem fits_cAdd : FitsAt E 6 pAdd := by
  intro a b κ κp r h
  unfold pAdd at h
  split at h
  · obtain ⟨N, hN, h1⟩ := onO_inv h
    obtain ⟨hx, h2⟩ := chk_inv h1
    obtain ⟨rfl, hN'⟩ := decS_some hN
    simp only [isB, Bool.and_eq_true, decide_eq_true_eq] at hx
    exact ⟨_, cAdd_ok hN' hx.1.1 hx.1.2 hx.2.1 hx.2.2, h2⟩
  · cases h
theorem fits_cNot : FitsAt E 7 pNot := by
  intro a b κ κp r h
  unfold pNot at h
  split at h
  · obtain ⟨N, hN, h1⟩ := onO_inv h
    obtain ⟨rfl, hN'⟩ := decS_some hN
    exact ⟨_, cNot_ok hN', h1⟩
  · cases h
theorem fits_cUnion : FitsAt E 8 pUnion := by
  intro a b κ κp r h
  unfold pUnion at h
  split at h
  · obtain ⟨N, hN, h1⟩ := onO_inv h
    obtain ⟨M, hM, h2⟩ := onO_inv h1
    obtain ⟨rfl, hN'⟩ := decS_some hN
    obtain ⟨rfl, hM'⟩ := decS_some hM
    exact ⟨_, cUnion_ok hN' hM', h2⟩
  · cases h
theorem fits_of : FitsAt E 5 pOf := by
  intro a b κ κp r h
  unfold pOf at h
  split at h
  · obtain ⟨N, hN, h1⟩ := onO_inv h
    obtain ⟨rfl, hN'⟩ := decS_some hN
    exact ⟨_, of_ok N, h1⟩
  · cases h
theorem fits_count : FitsAt E 10 pCount := by
  intro a b κ κp r h
  unfold pCount at h
  split at h
  · obtain ⟨N, hN, h1⟩ := onO_inv h
    obtain ⟨rfl, hN'⟩ := decS_some hN
    exact ⟨_, count_ok, h1⟩
  · cases h
theorem lives04 : callInf E 11 [] [] = some (.ret [.c (.bool true)] []) := lim_of (callN_mono 11 [] []) (k := 300) (by kernel_rfl)
theorem fits_lives04 : FitsAt E 11 pTrue := by
  intro a b κ κp r h
  unfold pTrue at h
  split at h
  · exact ⟨_, lives04, h⟩
  · cases h
theorem fits_FL : Fits E FL := Fits.only fits_of (Fits.only fits_cAdd (Fits.only fits_cNot (Fits.only fits_cUnion (Fits.only fits_cHas (Fits.only fits_count (Fits.only fits_lives04 fits_no))))))

theorem or_lt {N M : Nat} (h : N < 2 ^ 256) (k : M < 2 ^ 256) : N ||| M < 2 ^ 256 := Nat.or_lt_two_pow h k
theorem count_not {N : Nat} : countN (notN N) + countN N = 256 := by
  have h : ∀ l : List Nat, (∀ c, c ∈ l → c < 256) → l.countP (notN N).testBit + l.countP N.testBit = l.length := by
    intro l
    induction l with
    | nil => intro _; rfl
    | cons c l ih =>
      intro hl
      have := ih (fun x hx => hl x (List.mem_cons_of_mem _ hx))
      have hc := notN_testBit N c (hl c (by simp))
      simp only [List.countP_cons, List.length_cons, hc]
      cases N.testBit c <;> simp <;> omega
  have := h (List.range 256) (fun c hc => by simpa using hc)
  simpa [countN] using this
theorem not_not {N : Nat} (h : N < 2 ^ 256) : notN (notN N) = N := by
  refine Nat.eq_of_testBit_eq fun c => ?_
  rw [notN, notN, Nat.testBit_xor, Nat.testBit_xor]
  cases N.testBit c <;> cases (2 ^ 256 - 1).testBit c <;> rfl
/-- How many of the first i bytes are in it. -/
def cntTo (N i : Nat) : Nat := (List.range i).countP N.testBit
theorem cntTo_succ (N i : Nat) : cntTo N (i + 1) = cntTo N i + (if N.testBit i then 1 else 0) := by
  simp [cntTo, List.range_succ, List.countP_append, List.countP_cons]
theorem cntTo_le (N i : Nat) : cntTo N i ≤ i := by
  have := List.countP_le_length (p := N.testBit) (l := List.range i)
  simpa [cntTo] using this

theorem h44 : Nat.ble 4 4 = true := rfl
theorem bTT : (true == true) = true := rfl
theorem bTF : (true == false) = false := rfl
theorem bFT : (false == true) = false := rfl
theorem bFF : (false == false) = true := rfl
set_option maxHeartbeats 1000000 in
theorem sets_loop {A B x y : Nat} (hA : A < 2 ^ 256) (hB : B < 2 ^ 256) (hx : x < 256) (hy : y < 256) : ∀ (n i : Nat), i + n = 256 →
    Rest E 3 Try.f3 [0, 0, 1, 0, 1, 1, 1, 1] («sets.S4» (x : Int) (y : Int) (cntTo A i : Int) (i : Int) (encS A) (encB A) (encB B) (encS (addN A x (y + 1 - x))) (encS (notN A)) (encS (A ||| B))) = some (.ret [.c (.bool true)] []) := by
  have hAd : addN A x (y + 1 - x) < 2 ^ 256 := by
    by_cases h : x ≤ y
    · exact addN_lt _ hA (by omega)
    · rw [show y + 1 - x = 0 by omega]; exact hA
  have hNo := notN_lt hA
  have hOr := or_lt hA hB
  intro n
  induction n with
  | zero =>
    intro i hi
    refine rest_by fits_FL ((sets.r4_eq _ _ _ _ _ _ _ _ _ _ _).trans ?_)
    unfold sets.r4
    obtain rfl : i = 256 := by omega
    refine bifF rfl ?_
    have hc : cntTo A 256 = countN A := rfl
    have hn := count_not (N := A)
    simp only [hc, take_all (encS_len _), encS_map, decS_encS hA, decS_encS hNo, onO_some, encS_len]
    have hcl : countN A ≤ 256 := by omega
    have hw : IntKind.wrap .i64 (256 - (countN A : Int)) = ((countN (notN A) : Nat) : Int) := by rw [i64w (by omega) (by omega)]; omega
    rw [not_not hA, hw]
    refine chkI rfl (bifT (by simp) (chkI rfl (bifT (by simp) (chkI rfl (chkI rfl (chkI rfl ?_))))))
    simp only [encS, eqRow, eqC, asI, beq_self_eq_true, if_true, Bool.and_self, cond_true]
  | succ n ih =>
    intro i hi
    refine rest_by fits_FL ((sets.r4_eq _ _ _ _ _ _ _ _ _ _ _).trans ?_)
    unfold sets.r4
    refine bifT (decide_eq_true (by omega)) ?_
    have h8 : IntKind.wrap .u8 (i : Int) = (i : Int) := u8w (by omega) (by omega)
    have hb : isB (i : Int) = true := by simp [isB]; omega
    have hin : inB (i : Int) 256 = true := inBI (by omega) (by omega)
    have hnA : nth (encB A) i = some (.bool (A.testBit i)) := nth_tabB _ (by omega)
    have hnB : nth (encB B) i = some (.bool (B.testBit i)) := nth_tabB _ (by omega)
    have e1 : (addN A x (y + 1 - x)).testBit i = (A.testBit i || (decide (x ≤ i) && decide (i ≤ y))) := by
      rw [addN_testBit]
      congr 1
      rw [Bool.eq_iff_iff]; simp; omega
    have e2 : (notN A).testBit i = !A.testBit i := notN_testBit A i (by omega)
    have e3 : (A ||| B).testBit i = (A.testBit i || B.testBit i) := Nat.testBit_or ..
    have hs := cntTo_succ A i
    have hle := cntTo_le A i
    have ih' := ih (i + 1) (by omega)
    simp only [take_all (encS_len _), encS_map, decS_encS hA, decS_encS hNo, decS_encS hAd, decS_encS hOr, onO_some, encS_len, h8, hb, hin, chk_true, Int.toNat_natCast, Nat.zero_add, Nat.mul_one, hnA, hnB, rB_bool, e1, e2, e3]
    have w1 : IntKind.wrap .i64 ((i : Int) + 1) = ((i + 1 : Nat) : Int) := i64s (by omega)
    have w2 : IntKind.wrap .i64 ((cntTo A i : Int) + 1) = ((cntTo A i + 1 : Nat) : Int) := i64s (by omega)
    simp only [w1, w2, Int.ofNat_le]
    cases hAi : A.testBit i <;> rw [hAi] at hs <;> simp only [Bool.false_eq_true, if_false, if_true, Nat.add_zero] at hs <;> rw [hs] at ih' <;> cases hBi : B.testBit i <;> cases h1 : decide (x ≤ i) <;> cases h2 : decide (i ≤ y) <;> repeat (first | with_reducible exact ih' | ((with_reducible (refine chkI ?_ ?_)); rfl) | ((with_reducible (refine bifT ?_ ?_)); rfl) | ((with_reducible (refine bifF ?_ ?_)); rfl))

theorem sets_ok {A B x y : Nat} (hA : A < 2 ^ 256) (hB : B < 2 ^ 256) (hx : x < 256) (hy : y < 256) :
    callInf E 3 [.agg (encS A), .agg (encS B), .agg [.int .u8 (x : Int), .int .u8 (y : Int)]] [] = some (.ret [.c (.bool true)] []) := by
  refine call_by fits_FL rfl rfl ((sets.r_eq _ _ _ _ _).trans ?_)
  unfold sets.r
  refine chkI rfl (chkI rfl ?_)
  refine rest_by fits_FL ((sets.r1_eq _ _ _ _ _).trans ?_)
  unfold sets.r1
  simp only [take_all (encS_len _), encS_map, decS_encS hA, decS_encS hB, onO_some, encS_len]
  refine chkI rfl (chkI rfl ?_)
  have hz : (List.replicate 256 (C.bool false)).length = 256 := by simp
  rw [put_allB hz, put_allB hz]
  refine rest_by fits_FL ((sets.r2_eq _ _ _ _ _ _ _ _).trans ?_)
  unfold sets.r2
  have hb : (isB (x : Int) && isB (y : Int)) = true := by simp [isB]; omega
  simp only [take_all (encS_len _), encS_map, decS_encS hA, decS_encS hB, onO_some, encS_len, hb]
  refine chkI rfl (chkI rfl (chkI rfl (chkI rfl (chkI rfl ?_))))
  refine rest_by fits_FL ((sets.r3_eq _ _ _ _ _ _ _ _ _ _).trans ?_)
  unfold sets.r3
  have := sets_loop hA hB hx hy 256 0 (by omega)
  exact this

end Go.Proofs.YtmbhohnoolflbaaX
