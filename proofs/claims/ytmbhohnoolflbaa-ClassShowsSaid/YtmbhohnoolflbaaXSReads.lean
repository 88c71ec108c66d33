/-
  A SET'S TEXT READ: class.Parse reads what class.Show writes.
-/
import Derived.Test.YtmbhohnoolflbaaXKReads
import Derived.Test.YtmbhohnoolflbaaXSShow
import Derived.Test.YtmbhohnoolflbaaXSParse
set_option linter.unusedVariables false
set_option linter.unusedSimpArgs false
set_option maxRecDepth 100000
namespace Go.Proofs.YtmbhohnoolflbaaX

theorem fromN_testBit (M : Nat) : ∀ (n i A c : Nat), (fromN M i n A).testBit c = (A.testBit c || (decide (i ≤ c) && decide (c < i + n) && M.testBit c))
  | 0, i, A, c => by
    have : (decide (i ≤ c) && decide (c < i + 0)) = false := by simp
    rw [this, fromN, Bool.false_and, Bool.or_false]
  | n + 1, i, A, c => by
    rw [fromN, fromN_testBit M n]
    by_cases hc : c = i
    · subst hc
      have h1 : (decide (c + 1 ≤ c) && decide (c < c + 1 + n)) = false := by simp; omega
      have h2 : (decide (c ≤ c) && decide (c < c + (n + 1))) = true := by simp
      rw [h1, h2]
      cases hM : M.testBit c with
      | false => simp
      | true => simp [Nat.testBit_or, Nat.testBit_two_pow]
    · have h1 : (decide (i + 1 ≤ c) && decide (c < i + 1 + n)) = (decide (i ≤ c) && decide (c < i + (n + 1))) := by rw [Bool.eq_iff_iff]; simp; omega
      rw [h1]
      congr 1
      split
      · rw [Nat.testBit_or, Nat.testBit_two_pow]; simp [Ne.symm hc]
      · rfl
theorem fromN_lt {M : Nat} : ∀ (n i A : Nat), A < 2 ^ 256 → i + n ≤ 256 → fromN M i n A < 2 ^ 256
  | 0, _, _, h, _ => h
  | n + 1, i, A, h, hi => by
    rw [fromN]
    refine fromN_lt n _ _ ?_ (by omega)
    split
    · exact or_lt256 h (by omega)
    · exact h
theorem fromN_all {M : Nat} (h : M < 2 ^ 256) : fromN M 0 256 0 = M := by
  refine Nat.eq_of_testBit_eq fun c => ?_
  rw [fromN_testBit]
  by_cases hc : c < 256
  · simp [hc]
  · rw [Nat.testBit_lt_two_pow (Nat.lt_of_lt_of_le h (Nat.pow_le_pow_right (by decide) (by omega)))]
    simp
theorem notN_notN {N : Nat} : notN (notN N) = N := by
  refine Nat.eq_of_testBit_eq fun c => ?_
  rw [notN, notN, Nat.testBit_xor, Nat.testBit_xor]
  cases N.testBit c <;> cases (2 ^ 256 - 1).testBit c <;> rfl

theorem ofNat_ne {i k : Nat} (hi : i < 256) (hk : k < 256) (h : i ≠ k) : UInt8.ofNat i ≠ UInt8.ofNat k := by
  intro e
  have := congrArg UInt8.toNat e
  simp only [UInt8.toNat_ofNat'] at this
  omega
/-- How a set's text goes on: with no sign that means something there. -/
theorem body_head {M : Nat} (bh : List UInt8) : ∀ (n i : Nat), i + n ≤ 256 → ∃ h t, bodyS M i n ++ 93 :: bh = h :: t ∧ h ≠ 45 ∧ h ≠ 94 ∧ h ≠ 91
  | 0, i, _ => ⟨93, bh, rfl, by decide, by decide, by decide⟩
  | n + 1, i, hi => by
    rw [bodyS]
    split
    · cases hq : isStroke i with
      | true =>
        have hp : piece i = [92, UInt8.ofNat i] := by simp [piece, hq]
        rw [hp]
        exact ⟨92, _, rfl, by decide, by decide, by decide⟩
      | false =>
        have hp : piece i = [UInt8.ofNat i] := by simp [piece, hq]
        rw [hp]
        simp [isStroke] at hq
        exact ⟨UInt8.ofNat i, _, rfl, ofNat_ne (k := 45) (by omega) (by decide) (by omega), ofNat_ne (k := 94) (by omega) (by decide) (by omega), ofNat_ne (k := 91) (by omega) (by decide) (by omega)⟩
    · rw [List.nil_append]
      exact body_head bh n (i + 1) (by omega)
theorem rangeAt_not {l : List UInt8} {a : Nat} {h : UInt8} {t : List UInt8} (hd : l.drop a = h :: t) (hh : h ≠ 45) : rangeAt l a = false := by
  have : hasPre (l.drop a) [45] = false := by rw [hd, hasPre_cons]; simp [hh]
  simp [rangeAt, this]
/-- The text of one byte, read. -/
theorem itm_piece {l : List UInt8} {a i : Nat} {h : UInt8} {t : List UInt8} (hi : i < 256) (hd : l.drop a = piece i ++ h :: t) (hh : h ≠ 45) :
    itm l a = (0 ||| 2 ^ i, 0, a + (piece i).length) ∧ hasPre (l.drop a) [91, 58] = false ∧ hasPre (l.drop a) [93] = false ∧ l.drop (a + (piece i).length) = h :: t ∧ a + (piece i).length ≤ l.length := by
  cases hq : isStroke i with
  | true =>
    have hp : piece i = [92, UInt8.ofNat i] := by simp [piece, hq]
    rw [hp] at hd ⊢
    simp only [List.cons_append, List.nil_append] at hd
    obtain ⟨k1, k2, k3, k4⟩ := drop_cons hd 0
    obtain ⟨j1, j2, j3, j4⟩ := drop_cons k3 0
    have he : escB (UInt8.ofNat i) = UInt8.ofNat i := by
      rcases stroke_cases hq with rfl | rfl | rfl | rfl | rfl <;> rfl
    have hs : sgl l a = (some (UInt8.ofNat i), a + 2) := by simp only [sgl, hd, if_true, he]
    have hn : (UInt8.ofNat i).toNat = i := by simp [UInt8.toNat_ofNat']; omega
    refine ⟨?_, by rw [hd]; rfl, by rw [hd]; rfl, j3, by simp only [List.length_cons, List.length_nil]; omega⟩
    simp only [itm, hs, rangeAt_not j3 hh, cond_false, hn]
    rfl
  | false =>
    have hp : piece i = [UInt8.ofNat i] := by simp [piece, hq]
    rw [hp] at hd ⊢
    simp only [List.cons_append, List.nil_append] at hd
    obtain ⟨k1, k2, k3, k4⟩ := drop_cons hd 0
    simp [isStroke] at hq
    have g1 : UInt8.ofNat i ≠ 92 := ofNat_ne (k := 92) (by omega) (by decide) (by omega)
    have g2 : UInt8.ofNat i ≠ 91 := ofNat_ne (k := 91) (by omega) (by decide) (by omega)
    have g3 : UInt8.ofNat i ≠ 93 := ofNat_ne (k := 93) (by omega) (by decide) (by omega)
    have hs : sgl l a = (some (UInt8.ofNat i), a + 1) := by simp only [sgl, hd, if_neg g1]
    have hn : (UInt8.ofNat i).toNat = i := by simp [UInt8.toNat_ofNat']; omega
    refine ⟨?_, by rw [hd, hasPre_cons]; simp [g2], by rw [hd, hasPre_cons]; simp [g3], k3, by simp only [List.length_cons, List.length_nil]; omega⟩
    simp only [itm, hs, rangeAt_not k3 hh, cond_false, hn]
    rfl

theorem fits_FParse : Fits E FParse := Fits.only fits_comes (Fits.only fits_item (Fits.only fits_union (Fits.only fits_not fits_no)))
theorem parse_loop {l bh : List UInt8} {M : Nat} (hM : M < 2 ^ 256) (hl : l.length ≤ 4611686018427387904) (b1 : Bool) : ∀ (n i a A : Nat) (b2 : Bool) (cs : List C), i + n = 256 → A < 2 ^ 256 → cs.length = 4 → cs.all noPtr = true →
    l.drop a = bodyS M i n ++ 93 :: bh → (b2 = true → ∃ k, i ≤ k ∧ M.testBit k = true) →
    Rest E 13 Try.f13 [0, 0, 1, 0, 1, 1, 1, 1, 1, 1] («parse.S1» b1 b2 cs l (a : Int) (encS A)) =
      some (.ret [.agg (encS (if b1 then notN (fromN M i n A) else fromN M i n A)), .c (.int .i64 ((a + (bodyS M i n).length + 1 : Nat) : Int)), .c (.int .i64 0)] []) := by
  intro n
  induction n with
  | zero =>
    intro i a A b2 cs hi hA hc1 hc2 hd hb
    have hb2 : b2 = false := by
      cases b2 with
      | false => rfl
      | true =>
        obtain ⟨k, h1, h2⟩ := hb rfl
        rw [Nat.testBit_lt_two_pow (Nat.lt_of_lt_of_le hM (Nat.pow_le_pow_right (by decide) (by omega)))] at h2
        cases h2
    subst hb2
    simp only [bodyS, List.nil_append] at hd
    obtain ⟨k1, k2, k3, k4⟩ := drop_cons hd 0
    have w1 : IntKind.wrap .i64 ((a : Int) + 1) = ((a + 1 : Nat) : Int) := i64s (by omega)
    refine rest_by fits_FParse ((parse.r1_eq _ _ _ _ _ _ _).trans ?_)
    unfold parse.r1
    refine bifF rfl (chkI (okAt_of (by omega)) (bifF (by rw [Int.toNat_natCast, hd]; rfl) ?_))
    simp only [take_all (encS_len _), encS_map, onO_pos (decS_encS hA), put_all (encS_len _), put_all hc1, hc1, hc2, encS_len, encS_all, bodyS, fromN, w1]
    cases b1 with
    | true => exact bifT rfl rfl
    | false => exact bifF rfl rfl
  | succ n ih =>
    intro i a A b2 cs hi hA hc1 hc2 hd hb
    cases hm : M.testBit i with
    | false =>
      have h1 : bodyS M i (n + 1) = bodyS M (i + 1) n := by rw [bodyS, hm]; rfl
      have h2 : fromN M i (n + 1) A = fromN M (i + 1) n A := by rw [fromN, hm]; rfl
      rw [h1] at hd
      rw [h1, h2]
      refine ih (i + 1) a A b2 cs (by omega) hA hc1 hc2 hd fun h => ?_
      obtain ⟨k, k1, k2⟩ := hb h
      refine ⟨k, ?_, k2⟩
      rcases Nat.lt_or_ge i k with h3 | h3
      · omega
      · have : k = i := by omega
        subst this; rw [hm] at k2; cases k2
    | true =>
      have h1 : bodyS M i (n + 1) = piece i ++ bodyS M (i + 1) n := by rw [bodyS, hm]; rfl
      have h2 : fromN M i (n + 1) A = fromN M (i + 1) n (A ||| 2 ^ i) := by rw [fromN, hm]; rfl
      obtain ⟨h, t, e1, e2, e3, e4⟩ := body_head (M := M) bh n (i + 1) (by omega)
      rw [h1, List.append_assoc, e1] at hd
      obtain ⟨g1, g2, g3, g4, g5⟩ := itm_piece (by omega) hd e2
      have ha : a ≤ l.length := by omega
      have step := ih (i + 1) (a + (piece i).length) (A ||| 2 ^ i) false cs (by omega) (or_lt256 hA (by omega)) hc1 hc2 (by rw [g4, e1]) (fun h => by cases h)
      have item : Rest E 13 Try.f13 [1, 0, 0, 1, 0, 0, 1, 0, 1, 1, 1, 1, 1, 1] («parse.S2» b1 (itmE l (a : Int)) cs l (itmAt l (a : Int)) (encS A) (encS (itmN l (a : Int)))) =
          some (.ret [.agg (encS (if b1 then notN (fromN M i (n + 1) A) else fromN M i (n + 1) A)), .c (.int .i64 ((a + (bodyS M i (n + 1)).length + 1 : Nat) : Int)), .c (.int .i64 0)] []) := by
        refine rest_by fits_FParse ((parse.r2_eq _ _ _ _ _ _ _ _).trans ?_)
        unfold parse.r2
        have q1 : itmE l (a : Int) = 0 := by simp only [itmE, Int.toNat_natCast, g1]
        have q2 : itmAt l (a : Int) = ((a + (piece i).length : Nat) : Int) := by simp only [itmAt, Int.toNat_natCast, g1]
        have q3 : itmN l (a : Int) = 2 ^ i := by simp only [itmN, Int.toNat_natCast, g1, Nat.zero_or]
        have q4 : 2 ^ i < 2 ^ 256 := Nat.pow_lt_pow_right (by decide) (by omega)
        rw [q1, q2, q3]
        refine bifF rfl ?_
        simp only [take_all (encS_len _), encS_map, onO_pos (decS_encS hA), onO_pos (decS_encS q4), put_all (encS_len _), encS_len, encS_all]
        refine chkI rfl (chkI rfl (chkI rfl (chkI rfl ?_)))
        rw [step, h1, h2, List.length_append]
        have : a + (piece i).length + (bodyS M (i + 1) n).length + 1 = a + ((piece i).length + (bodyS M (i + 1) n).length) + 1 := by omega
        rw [this]
      refine rest_by fits_FParse ((parse.r1_eq _ _ _ _ _ _ _).trans ?_)
      unfold parse.r1
      have hck : (okAt l (a : Int) && Nat.ble l.length 4611686018427387904 && !hasPre (List.drop (Int.toNat (a : Int)) l) [91, 58]) = true := by
        rw [Int.toNat_natCast, g2, okAt_of ha, Nat.ble_eq_true_of_le hl]; rfl
      cases b2 with
      | true => exact bifT rfl (chkI hck item)
      | false => exact bifF rfl (chkI (okAt_of ha) (bifT (by rw [Int.toNat_natCast, g3]; rfl) (chkI hck item)))

theorem some_bit {M : Nat} (h : M ≠ 0) : ∃ k, 0 ≤ k ∧ M.testBit k = true := by
  rcases Nat.exists_testBit_of_ne_zero h with ⟨k, hk⟩
  exact ⟨k, Nat.zero_le _, hk⟩

/-- A set's text is read as the set. -/
theorem parse_ok {l bh : List UInt8} {N a : Nat} (hN : N < 2 ^ 256) (hl : l.length ≤ 4611686018427387904) (hd : l.drop a = showS N ++ bh) :
    callInf E 13 [.c (.str l), .c (.int .i64 (a : Int))] [] = some (.ret [.agg (encS N), .c (.int .i64 ((a + (showS N).length : Nat) : Int)), .c (.int .i64 0)] []) := by
  refine call_by fits_FParse rfl rfl ((parse.r_eq _ _ _).trans ?_)
  unfold parse.r
  have hd' : l.drop a = 91 :: ((if N = 0 then [94] else []) ++ (bodyS (if N = 0 then notN 0 else N) 0 256 ++ 93 :: bh)) := by
    rw [hd, showS]; simp only [List.append_assoc, List.cons_append, List.nil_append]
  obtain ⟨k1, k2, k3, k4⟩ := drop_cons hd' 0
  have w1 : IntKind.wrap .i64 ((a : Int) + 1) = ((a + 1 : Nat) : Int) := i64s (by omega)
  have w2 : IntKind.wrap .i64 (((a + 1 : Nat) : Int) + 1) = ((a + 2 : Nat) : Int) := i64s (by omega)
  simp only [w1, w2, Int.toNat_natCast, k2, k3]
  refine bifF (decide_eq_false (by omega)) (bifF (decide_eq_false (by omega)) (chkI (inBI (by omega) (by omega)) (bifF rfl (chkI (okAt_of (by omega)) ?_))))
  by_cases h0 : N = 0
  · subst h0
    rw [if_pos rfl, if_pos rfl] at k3
    have hp : hasPre ((if (0 : Nat) = 0 then [94] else []) ++ (bodyS (if (0 : Nat) = 0 then notN 0 else 0) 0 256 ++ 93 :: bh)) [94] = true := by
      rw [if_pos rfl, List.cons_append, hasPre_cons, hasPre_any]; rfl
    rw [hp]
    refine bifT rfl ?_
    obtain ⟨j1, j2, j3, j4⟩ := drop_cons k3 0
    have := parse_loop (l := l) (bh := bh) (M := notN 0) (notN_lt (by decide)) hl true 256 0 (a + 2) 0 true [C.int .u64 0, C.int .u64 0, C.int .u64 0, C.int .u64 0] (by omega) (by decide) rfl rfl j3 (fun _ => ⟨0, Nat.le_refl _, by rw [notN_testBit 0 0 (by decide)]; simp⟩)
    rw [encS_zero]
    rw [encS_zero] at this
    refine this.trans ?_
    rw [if_pos rfl, fromN_all (notN_lt (by decide)), notN_notN, showS, if_pos rfl, if_pos rfl]
    simp only [List.length_append, List.length_cons, List.length_nil]
    have : a + 2 + (bodyS (notN 0) 0 256).length + 1 = a + (0 + 1 + (0 + 1) + (bodyS (notN 0) 0 256).length + (0 + 1)) := by omega
    rw [this]
  · rw [if_neg h0, if_neg h0, List.nil_append] at k3
    obtain ⟨h, t, e1, e2, e3, e4⟩ := body_head (M := N) bh 256 0 (by omega)
    have hp : hasPre ((if N = 0 then [94] else []) ++ (bodyS (if N = 0 then notN 0 else N) 0 256 ++ 93 :: bh)) [94] = false := by
      rw [if_neg h0, if_neg h0, List.nil_append, e1, hasPre_cons]; simp [e3]
    rw [hp]
    refine bifF rfl ?_
    have := parse_loop (l := l) (bh := bh) (M := N) hN hl false 256 0 (a + 1) 0 true [C.int .u64 0, C.int .u64 0, C.int .u64 0, C.int .u64 0] (by omega) (by decide) rfl rfl k3 (fun _ => some_bit h0)
    rw [encS_zero]
    rw [encS_zero] at this
    refine this.trans ?_
    rw [if_neg (by simp), fromN_all hN, showS, if_neg h0, if_neg h0]
    simp only [List.length_append, List.length_cons, List.length_nil]
    have : a + 1 + (bodyS N 0 256).length + 1 = a + (0 + 1 + 0 + (bodyS N 0 256).length + (0 + 1)) := by omega
    rw [this]

end Go.Proofs.YtmbhohnoolflbaaX
