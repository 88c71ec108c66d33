/-
  SETS AS TEXTS: class.Show and the reference's Show answer the same text.
-/
import Derived.Test.YtmbhohnoolflbaaXGShow
import Derived.Test.YtmbhohnoolflbaaXSClass
set_option linter.unusedVariables false
set_option linter.unusedSimpArgs false
set_option maxRecDepth 100000
namespace Go.Proofs.YtmbhohnoolflbaaX

theorem natEqInt (a b : Nat) : (((a : Int)) == ((b : Nat) : Int)) = decide (a = b) := by rw [Bool.eq_iff_iff]; simp only [beq_iff_eq, decide_eq_true_eq]; omega
theorem eqRow_set {N M : Nat} (hN : N < 2 ^ 256) (hM : M < 2 ^ 256) (κ : Bool → R) : eqRow (.int .u64) (encS N) (encS M) κ = κ (decide (N = M)) := by
  simp only [encS, eqRow, eqC, asI, if_true, natEqInt]
  congr 1
  rw [Bool.eq_iff_iff]
  simp only [Bool.and_eq_true, decide_eq_true_eq, and_true]
  constructor
  · rintro ⟨h0, h1, h2, h3⟩
    refine eq_of_words hN hM fun i hi => ?_
    match i, hi with
    | 0, _ => exact h0
    | 1, _ => exact h1
    | 2, _ => exact h2
    | 3, _ => exact h3
  · rintro rfl
    exact ⟨rfl, rfl, rfl, rfl⟩
theorem encS_zero : [C.int .u64 (0 : Int), C.int .u64 (0 : Int), C.int .u64 (0 : Int), C.int .u64 (0 : Int)] = encS 0 := rfl

theorem strokes_ok : ((List.range 256).all fun c => decide ((0 : Int) ≤ Lib.indexByte [94, 45, 93, 91, 92] (UInt8.ofNat c)) == isStroke c) = true := by kernel_rfl
theorem stroke_ok {c : Nat} (h : c < 256) : decide ((0 : Int) ≤ Lib.indexByte [94, 45, 93, 91, 92] (UInt8.ofNat c)) = isStroke c := by
  have := List.all_eq_true.1 strokes_ok c (by simpa using h)
  simpa using this

theorem fits_FS : Fits E FS := Fits.only fits_writeByte (Fits.only fits_string (Fits.only fits_indexByte (Fits.only fits_not (Fits.only fits_has fits_no))))

theorem show_loop {M : Nat} (hM : M < 2 ^ 256) : ∀ (n i : Nat) (s : List UInt8), i + n = 256 → s.length ≤ 2 * i + 2 →
    Rest E 12 Try.f12 [0, 0, 1, 0, 1, 1, 1, 1] («show.S1» (i : Int) (encS M) s) = some (.ret [.c (.str (s ++ bodyS M i n ++ [93]))] []) := by
  intro n
  induction n with
  | zero =>
    intro i s hi hs
    refine rest_by fits_FS ((show.r1_eq _ _ _ _).trans ?_)
    unfold show.r1
    refine bifF (decide_eq_false (by omega)) (chkI (Nat.ble_eq_true_of_le (by omega)) (chkI (Nat.ble_eq_true_of_le (by simp; omega)) ?_))
    simp [bodyS]
  | succ n ih =>
    intro i s hi hs
    refine rest_by fits_FS ((show.r1_eq _ _ _ _).trans ?_)
    unfold show.r1
    have h8 : IntKind.wrap .u8 (i : Int) = (i : Int) := u8w (by omega) (by omega)
    have hb : isB (i : Int) = true := by simp [isB]; omega
    have hin : inB (i : Int) 256 = true := inBI (by omega) (by omega)
    have w1 : IntKind.wrap .i64 ((i : Int) + 1) = ((i + 1 : Nat) : Int) := i64s (by omega)
    have hst := stroke_ok (c := i) (by omega)
    refine bifT (decide_eq_true (by omega)) (chkI rfl ?_)
    simp only [take_all (encS_len _), encS_map, decS_encS hM, onO_some, h8, hb, hin, chk_true, Int.toNat_natCast, w1, Bool.true_and]
    cases hA : M.testBit i with
    | false =>
      refine bifT rfl ?_
      rw [ih (i + 1) s (by omega) (by omega), bodyS, hA]
      rfl
    | true =>
      refine bifF rfl ?_
      cases hq : isStroke i with
      | true =>
        refine bifT (hst.trans hq) (chkI (Nat.ble_eq_true_of_le (by omega)) (chkI (Nat.ble_eq_true_of_le (by simp; omega)) ?_))
        rw [ih (i + 1) _ (by omega) (by simp; omega), bodyS, hA]
        simp [piece, hq]
      | false =>
        refine bifF (hst.trans hq) (chkI (Nat.ble_eq_true_of_le (by omega)) ?_)
        rw [ih (i + 1) _ (by omega) (by simp; omega), bodyS, hA]
        simp [piece, hq]

theorem show_ok {N : Nat} (hN : N < 2 ^ 256) : callInf E 12 [.agg (encS N)] [] = some (.ret [.c (.str (showS N))] []) := by
  refine call_by fits_FS rfl rfl ((show.r_eq _ _).trans ?_)
  unfold show.r
  refine chkI rfl (chkI rfl (chkI rfl ?_))
  simp only [take_all (encS_len _), encS_map, encS_zero, onO_pos (decS_encS hN), put_all (encS_len _)]
  rw [eqRow_set hN (by decide)]
  by_cases h0 : N = 0
  · refine bifT (decide_eq_true h0) (chkI rfl (chkI rfl (chkI rfl ?_)))
    have h := show_loop (notN_lt hN) 256 0 [91, 94] rfl (by decide)
    refine h.trans ?_
    rw [showS, if_pos h0, if_pos h0, h0]
    simp only [List.cons_append, List.nil_append]
  · refine bifF (decide_eq_false h0) ?_
    have h := show_loop hN 256 0 [91] rfl (by decide)
    refine h.trans ?_
    rw [showS, if_neg h0, if_neg h0, List.append_nil]

theorem fits_of' : FitsAt E 5 pOf' := by
  intro a b κ κp r h
  unfold pOf' at h
  split at h
  · obtain ⟨N, hN, h1⟩ := onO_inv h
    obtain ⟨rfl, hN'⟩ := decS_some hN
    exact ⟨_, of_ok N, h1⟩
  · cases h
theorem fits_FRS : Fits E FRS := Fits.only fits_of' fits_no
theorem textD_bytesD : ∀ l : List UInt8, textD (bytesD l) = some l
  | [] => rfl
  | b :: l => by
    have h : byteD [D.int .u8 (b.toNat : Int)] = some b := by simp [byteD]
    simp only [bytesD, textD, h, textD_bytesD l]
theorem bytesD_two (s : List UInt8) (a b : Nat) (ha : a < 256) (hb : b < 256) : bytesD s ++ [[D.int .u8 (a : Int)]] ++ [[D.int .u8 (b : Int)]] = bytesD (s ++ [UInt8.ofNat a, UInt8.ofNat b]) := by
  have h1 : (UInt8.ofNat a).toNat = a := by simp [UInt8.toNat_ofNat']; omega
  have h2 : (UInt8.ofNat b).toNat = b := by simp [UInt8.toNat_ofNat']; omega
  rw [bytesD_append, List.append_assoc]
  simp only [bytesD, h1, h2, List.cons_append, List.nil_append]
theorem bytesD_one (s : List UInt8) (a : Nat) (ha : a < 256) : bytesD s ++ [[D.int .u8 (a : Int)]] = bytesD (s ++ [UInt8.ofNat a]) := by
  have h1 : (UInt8.ofNat a).toNat = a := by simp [UInt8.toNat_ofNat']; omega
  rw [bytesD_append]
  simp only [bytesD, h1]
theorem nth_encB (N : Nat) {i : Nat} (h : i < 256) : nth (encB N) i = some (.bool (N.testBit i)) := nth_tabB _ h
theorem stroke_cases {i : Nat} (h : isStroke i = true) : i = 94 ∨ i = 45 ∨ i = 93 ∨ i = 91 ∨ i = 92 := by
  simpa [isStroke, or_assoc] using h
theorem stroke_not {i : Nat} (h : isStroke i = false) : ((i : Int) == 94) = false ∧ ((i : Int) == 45) = false ∧ ((i : Int) == 93) = false ∧ ((i : Int) == 91) = false ∧ ((i : Int) == 92) = false := by
  simp [isStroke] at h
  simp only [beq_eq_false_iff_ne]
  omega
/-- What the loop adds for one byte. -/
theorem rshow_piece {v : Res} {X : List (List D) → R} {s : List UInt8} {i : Nat} (hi : i < 256) (hs : s.length ≤ 2 * i + 2) (h : X (bytesD (s ++ piece i)) = some v) :
    (bif ((i : Int) == 94) then chk (decide ((List.length (bytesD s) + 1) * 1 ≤ 140737488355328)) (chk (decide ((List.length (bytesD s ++ [[D.int .u8 92]]) + 1) * 1 ≤ 140737488355328)) (X (bytesD s ++ [[D.int .u8 92]] ++ [[D.int .u8 (i : Int)]])))
    else bif ((i : Int) == 45) then chk (decide ((List.length (bytesD s) + 1) * 1 ≤ 140737488355328)) (chk (decide ((List.length (bytesD s ++ [[D.int .u8 92]]) + 1) * 1 ≤ 140737488355328)) (X (bytesD s ++ [[D.int .u8 92]] ++ [[D.int .u8 (i : Int)]])))
    else bif ((i : Int) == 93) then chk (decide ((List.length (bytesD s) + 1) * 1 ≤ 140737488355328)) (chk (decide ((List.length (bytesD s ++ [[D.int .u8 92]]) + 1) * 1 ≤ 140737488355328)) (X (bytesD s ++ [[D.int .u8 92]] ++ [[D.int .u8 (i : Int)]])))
    else bif ((i : Int) == 91) then chk (decide ((List.length (bytesD s) + 1) * 1 ≤ 140737488355328)) (chk (decide ((List.length (bytesD s ++ [[D.int .u8 92]]) + 1) * 1 ≤ 140737488355328)) (X (bytesD s ++ [[D.int .u8 92]] ++ [[D.int .u8 (i : Int)]])))
    else bif ((i : Int) == 92) then chk (decide ((List.length (bytesD s) + 1) * 1 ≤ 140737488355328)) (chk (decide ((List.length (bytesD s ++ [[D.int .u8 92]]) + 1) * 1 ≤ 140737488355328)) (X (bytesD s ++ [[D.int .u8 92]] ++ [[D.int .u8 (i : Int)]])))
    else chk (decide ((List.length (bytesD s) + 1) * 1 ≤ 140737488355328)) (X (bytesD s ++ [[D.int .u8 (i : Int)]]))) = some v := by
  cases hq : isStroke i with
  | true =>
    have e := bytesD_two s 92 i (by decide) hi
    have hp : piece i = [92, UInt8.ofNat i] := by simp [piece, hq]
    rw [hp] at h
    rw [show (((92 : Nat) : Int)) = 92 from rfl] at e
    rw [e]
    have h1 : decide ((List.length (bytesD s) + 1) * 1 ≤ 140737488355328) = true := decide_eq_true (by rw [bytesD_length]; omega)
    have h2 : decide ((List.length (bytesD s ++ [[D.int .u8 92]]) + 1) * 1 ≤ 140737488355328) = true := decide_eq_true (by rw [List.length_append, bytesD_length, List.length_singleton]; omega)
    rw [h1, h2]
    rcases stroke_cases hq with rfl | rfl | rfl | rfl | rfl <;> exact h
  | false =>
    obtain ⟨a1, a2, a3, a4, a5⟩ := stroke_not hq
    have hp : piece i = [UInt8.ofNat i] := by simp [piece, hq]
    rw [hp] at h
    rw [a1, a2, a3, a4, a5, bytesD_one s i hi]
    have h1 : decide ((List.length (bytesD s) + 1) * 1 ≤ 140737488355328) = true := decide_eq_true (by rw [bytesD_length]; omega)
    rw [h1]
    exact h
theorem piece_len (i : Nat) : (piece i).length ≤ 2 := by unfold piece; split <;> simp
theorem rshow_loop1 {N : Nat} (b : Bool) : ∀ (n i : Nat) (s : List UInt8), i + n = 256 → s.length ≤ 2 * i + 2 → (b = true → N = 0) →
    Rest E 14 Try.f14 [0, 0, 1, 0, 1, 1, 1, 1] («rshow.S1» (bytesD s) b (i : Int) (encB N)) = some (.ret [.c (.str (s ++ bodyS (if b then notN 0 else N) i n ++ [93]))] []) := by
  intro n
  induction n with
  | zero =>
    intro i s hi hs hb
    refine rest_by fits_FRS ((rshow.r1_eq _ _ _ _ _).trans ?_)
    unfold rshow.r1
    refine bifF (decide_eq_false (by omega)) (chkI (decide_eq_true (by simp only [bytesD_length, List.length_cons, List.length_nil]; omega)) ?_)
    have := bytesD_one s 93 (by decide)
    rw [show (((93 : Nat) : Int)) = 93 from rfl] at this
    rw [this, textD_bytesD]
    simp [onO, bodyS]
  | succ n ih =>
    intro i s hi hs hb
    refine rest_by fits_FRS ((rshow.r1_eq _ _ _ _ _).trans ?_)
    unfold rshow.r1
    have h8 : IntKind.wrap .u8 (i : Int) = (i : Int) := u8w (by omega) (by omega)
    have w1 : IntKind.wrap .i64 ((i : Int) + 1) = ((i + 1 : Nat) : Int) := i64s (by omega)
    refine bifT (decide_eq_true (by omega)) (chkI (inBI (by omega) (by omega)) (onOI (.bool (N.testBit i)) (by rw [Int.toNat_natCast, Nat.zero_add, Nat.mul_one]; exact nth_encB N (by omega)) ?_))
    rw [rB_bool, h8, w1]
    have hp := piece_len i
    have step := ih (i + 1) (s ++ piece i) (by omega) (by simp; omega) hb
    have skip := ih (i + 1) s (by omega) (by omega) hb
    cases hA : N.testBit i with
    | true =>
      refine bifT rfl ?_
      have hbf : b = false := by cases hb' : b with
        | false => rfl
        | true => have := hb hb'; subst this; simp at hA
      subst hbf
      refine rshow_piece (X := fun es => Rest E 14 Try.f14 [0, 0, 1, 0, 1, 1, 1, 1] («rshow.S1» es false ((i + 1 : Nat) : Int) (encB N))) (by omega) hs ?_
      rw [step, bodyS]
      simp [hA]
    | false =>
      refine bifF rfl ?_
      cases b with
      | true =>
        refine bifT rfl ?_
        refine rshow_piece (X := fun es => Rest E 14 Try.f14 [0, 0, 1, 0, 1, 1, 1, 1] («rshow.S1» es true ((i + 1 : Nat) : Int) (encB N))) (by omega) hs ?_
        have hz : (notN 0).testBit i = true := by rw [notN_testBit 0 i (by omega)]; simp
        rw [step, bodyS]
        simp [hz]
      | false =>
        refine bifF rfl ?_
        rw [skip, bodyS]
        simp [hA]
theorem rshow_loop2 {N : Nat} (b : Bool) : ∀ (n i : Nat) (s : List UInt8), i + n = 256 → s.length ≤ 2 * i + 2 → (b = true → N = 0) →
    Rest E 14 Try.f14 [0, 0, 1, 0, 1, 1, 1, 1] («rshow.S2» (bytesD s) b (i : Int) (encB N)) = some (.ret [.c (.str (s ++ bodyS (if b then notN 0 else N) i n ++ [93]))] []) := by
  intro n
  induction n with
  | zero =>
    intro i s hi hs hb
    refine rest_by fits_FRS ((rshow.r2_eq _ _ _ _ _).trans ?_)
    unfold rshow.r2
    refine bifF (decide_eq_false (by omega)) (chkI (decide_eq_true (by simp only [bytesD_length, List.length_cons, List.length_nil]; omega)) ?_)
    have := bytesD_one s 93 (by decide)
    rw [show (((93 : Nat) : Int)) = 93 from rfl] at this
    rw [this, textD_bytesD]
    simp [onO, bodyS]
  | succ n ih =>
    intro i s hi hs hb
    refine rest_by fits_FRS ((rshow.r2_eq _ _ _ _ _).trans ?_)
    unfold rshow.r2
    have h8 : IntKind.wrap .u8 (i : Int) = (i : Int) := u8w (by omega) (by omega)
    have w1 : IntKind.wrap .i64 ((i : Int) + 1) = ((i + 1 : Nat) : Int) := i64s (by omega)
    refine bifT (decide_eq_true (by omega)) (chkI (inBI (by omega) (by omega)) (onOI (.bool (N.testBit i)) (by rw [Int.toNat_natCast, Nat.zero_add, Nat.mul_one]; exact nth_encB N (by omega)) ?_))
    rw [rB_bool, h8, w1]
    have hp := piece_len i
    have step := rshow_loop1 (N := N) b n (i + 1) (s ++ piece i) (by omega) (by simp; omega) hb
    have skip := ih (i + 1) s (by omega) (by omega) hb
    cases hA : N.testBit i with
    | true =>
      refine bifT rfl ?_
      have hbf : b = false := by cases hb' : b with
        | false => rfl
        | true => have := hb hb'; subst this; simp at hA
      subst hbf
      refine rshow_piece (X := fun es => Rest E 14 Try.f14 [0, 0, 1, 0, 1, 1, 1, 1] («rshow.S1» es false ((i + 1 : Nat) : Int) (encB N))) (by omega) hs ?_
      rw [step, bodyS]
      simp [hA]
    | false =>
      refine bifF rfl ?_
      cases b with
      | true =>
        refine bifT rfl ?_
        refine rshow_piece (X := fun es => Rest E 14 Try.f14 [0, 0, 1, 0, 1, 1, 1, 1] («rshow.S1» es true ((i + 1 : Nat) : Int) (encB N))) (by omega) hs ?_
        have hz : (notN 0).testBit i = true := by rw [notN_testBit 0 i (by omega)]; simp
        rw [step, bodyS]
        simp [hz]
      | false =>
        refine bifF rfl ?_
        rw [skip, bodyS]
        simp [hA]
theorem rshow_ok {N : Nat} (hN : N < 2 ^ 256) : callInf E 14 [.agg (encS N)] [] = some (.ret [.c (.str (showS N))] []) := by
  refine call_by fits_FRS rfl rfl ((rshow.r_eq _ _).trans ?_)
  unfold rshow.r
  refine chkI rfl (chkI rfl ?_)
  have hz : (List.replicate 256 (C.bool false)).length = 256 := by simp
  simp only [take_all (encS_len _), encS_map, onO_pos (decS_encS hN), encS_zero, put_allB hz]
  refine chkI rfl (chkI rfl ?_)
  rw [eqRow_set hN (by decide)]
  by_cases h0 : N = 0
  · rw [decide_eq_true h0]
    refine bifT rfl ?_
    have h := rshow_loop1 (N := N) true 256 0 [91, 94] rfl (by decide) (fun _ => h0)
    refine h.trans ?_
    rw [showS, if_pos h0, if_pos h0]
    simp only [List.cons_append, List.nil_append, if_true]
  · rw [decide_eq_false h0]
    refine bifF rfl ?_
    have h := rshow_loop2 (N := N) false 256 0 [91] rfl (by decide) (fun h => by cases h)
    refine h.trans ?_
    rw [showS, if_neg h0, if_neg h0, List.append_nil]
    simp only [Bool.false_eq_true, if_false]

end Go.Proofs.YtmbhohnoolflbaaX
