/-
  SETS OF BYTES: the functions of package class answer as told.
-/
import Derived.Test.YtmbhohnoolflbaaXGClass
import Derived.Test.YtmbhohnoolflbaaXLaw
import Derived.Test.YtmbhohnoolflbaaXPop
set_option linter.unusedVariables false
set_option linter.unusedSimpArgs false
set_option maxRecDepth 10000
namespace Go.Proofs.YtmbhohnoolflbaaX

/-! ### Words -/
theorem word_lt (N i : Nat) : word N i < 2 ^ 64 := Nat.mod_lt _ (by decide)
theorem word_testBit (N i j : Nat) : (word N i).testBit j = (decide (j < 64) && N.testBit (64 * i + j)) := by
  unfold word
  rw [Nat.testBit_mod_two_pow, Nat.testBit_div_two_pow, Nat.add_comm]
theorem nth_encS (N : Nat) {i : Nat} (h : i < 4) : nth (encS N) i = some (.int .u64 (word N i : Int)) := by
  match i, h with
  | 0, _ => rfl
  | 1, _ => rfl
  | 2, _ => rfl
  | 3, _ => rfl
theorem eq_of_words {N M : Nat} (hN : N < 2 ^ 256) (hM : M < 2 ^ 256) (h : ∀ i, i < 4 → word N i = word M i) : N = M := by
  refine Nat.eq_of_testBit_eq fun c => ?_
  by_cases hc : c < 256
  · have h1 := word_testBit N (c / 64) (c % 64)
    have h2 := word_testBit M (c / 64) (c % 64)
    rw [h _ (by omega), h2] at h1
    have h3 : 64 * (c / 64) + c % 64 = c := Nat.div_add_mod c 64
    have h4 : c % 64 < 64 := Nat.mod_lt _ (by decide)
    simp only [h4, decide_true, Bool.true_and, h3] at h1
    exact h1.symm
  · rw [Nat.testBit_lt_two_pow (Nat.lt_of_lt_of_le hN (Nat.pow_le_pow_right (by decide) (by omega))), Nat.testBit_lt_two_pow (Nat.lt_of_lt_of_le hM (Nat.pow_le_pow_right (by decide) (by omega)))]
theorem decS_encS {N : Nat} (h : N < 2 ^ 256) : decS (encS N) = some N := by
  have h0 := word_lt N 0; have h1 := word_lt N 1; have h2 := word_lt N 2; have h3 := word_lt N 3
  have hw : ∀ i, inW ((word N i : Nat) : Int) = true := fun i => by have := word_lt N i; simp [inW]; omega
  simp only [decS, encS, hw, Bool.and_self, cond_true, Int.toNat_natCast, Option.some.injEq]
  unfold word
  omega
theorem decS_some {cs : List C} {N : Nat} (h : decS cs = some N) : cs = encS N ∧ N < 2 ^ 256 := by
  unfold decS at h
  split at h
  case h_2 => cases h
  rename_i a b c d
  cases hw : inW a && inW b && inW c && inW d with
  | false => rw [hw] at h; cases h
  | true =>
    rw [hw] at h
    simp only [cond_true, Option.some.injEq] at h
    simp only [Bool.and_eq_true, inW, decide_eq_true_eq] at hw
    obtain ⟨⟨⟨ha, hb⟩, hc⟩, hd⟩ := hw
    obtain ⟨a, rfl⟩ := Int.eq_ofNat_of_zero_le ha.1
    obtain ⟨b, rfl⟩ := Int.eq_ofNat_of_zero_le hb.1
    obtain ⟨c, rfl⟩ := Int.eq_ofNat_of_zero_le hc.1
    obtain ⟨d, rfl⟩ := Int.eq_ofNat_of_zero_le hd.1
    simp only [Int.toNat_natCast] at h
    subst h
    refine ⟨?_, by omega⟩
    have w0 : word (a + 2 ^ 64 * b + 2 ^ 128 * c + 2 ^ 192 * d) 0 = a := by unfold word; omega
    have w1 : word (a + 2 ^ 64 * b + 2 ^ 128 * c + 2 ^ 192 * d) 1 = b := by unfold word; omega
    have w2 : word (a + 2 ^ 64 * b + 2 ^ 128 * c + 2 ^ 192 * d) 2 = c := by unfold word; omega
    have w3 : word (a + 2 ^ 64 * b + 2 ^ 128 * c + 2 ^ 192 * d) 3 = d := by unfold word; omega
    simp only [encS, w0, w1, w2, w3]
theorem encS_all (N : Nat) : List.all (encS N) noPtr = true := rfl
theorem encS_len (N : Nat) : (encS N).length = 4 := rfl
theorem encS_map (N : Nat) : List.map C.dem (encS N) = encS N := rfl

theorem testBit_one (a k : Nat) : ((((a / 2 ^ k &&& 1 : Nat) : Int) == ((1 : Nat) : Int)) = a.testBit k) := by
  have h : a.testBit k = (a / 2 ^ k % 2 == 1) := by rw [Nat.testBit_eq_decide_div_mod_eq]; rfl
  rw [h, Nat.and_one_is_mod]
  have : ∀ m : Nat, (((m : Nat) : Int) == ((1 : Nat) : Int)) = (m == 1) := fun m => by rw [Bool.eq_iff_iff]; simp only [beq_iff_eq]; omega
  exact this _

theorem has_ok {N : Nat} {x : Int} (h0 : 0 ≤ x) (h1 : x < 256) : callInf E 18 [.agg (encS N), .c (.int .u8 x)] [] = some (.ret [.c (.bool (N.testBit x.toNat))] []) := by
  refine call_by fits_no rfl rfl ((has.r_eq _ _ _).trans ?_)
  obtain ⟨n, rfl⟩ := Int.eq_ofNat_of_zero_le h0
  have e1 : IntKind.wrap .u8 (Int.tdiv (n : Int) 64) = ((n / 64 : Nat) : Int) := by rw [show (64 : Int) = ((64 : Nat) : Int) from rfl, tdivN, u8w (by omega) (by omega)]
  have e2 : Int.tmod (n : Int) 64 = ((n % 64 : Nat) : Int) := by rw [show (64 : Int) = ((64 : Nat) : Int) from rfl, tmodN]
  unfold has.r
  simp only [e1, e2, encS_all, encS_len, Int.toNat_natCast, Nat.zero_add, Nat.mul_one]
  refine chkI rfl (chkI (inBI (by omega) (by omega)) (onOI _ (nth_encS N (by omega)) (rII _ rfl (chkI (decide_eq_true (by omega)) ?_))))
  have hm : min (n % 64) 64 = n % 64 := by omega
  rw [hm, show ((2 : Int) ^ (n % 64)) = ((2 ^ (n % 64) : Nat) : Int) by simp, fdivN]
  have hlt : word N (n / 64) / 2 ^ (n % 64) < 2 ^ 64 := Nat.lt_of_le_of_lt (Nat.div_le_self _ _) (word_lt _ _)
  rw [show (1 : Int) = ((1 : Nat) : Int) from rfl, bvAnd hlt (by decide)]
  have ht : N.testBit n = (word N (n / 64)).testBit (n % 64) := by
    rw [word_testBit, Nat.div_add_mod]
    simp [Nat.mod_lt]
  rw [ht, testBit_one]

/-- What is known of an answer, told to those who call. -/
theorem fits_has : FitsAt E 18 pHas := by
  intro a b κ κp r h
  unfold pHas at h
  split at h
  · obtain ⟨N, hN, h1⟩ := onO_inv h
    obtain ⟨hx, h2⟩ := chk_inv h1
    obtain ⟨rfl, _⟩ := decS_some hN
    simp only [isB, Bool.and_eq_true, decide_eq_true_eq] at hx
    exact ⟨_, has_ok hx.1 hx.2, h2⟩
  · cases h
theorem cHas_ok {N : Nat} (hN : N < 2 ^ 256) {x : Int} (h0 : 0 ≤ x) (h1 : x < 256) : callInf E 9 [.agg (encS N), .c (.int .u8 x)] [] = some (.ret [.c (.bool (N.testBit x.toNat))] []) := by
  refine call_by (Fits.only fits_has fits_no) rfl rfl ((cHas.r_eq _ _ _).trans ?_)
  unfold cHas.r
  refine chkI rfl (chkI rfl (onOI _ (decS_encS hN) (chkI (by simp [isB, h0, h1]) rfl)))

/-! ### add -/
theorem set_word {N k : Nat} (hk : k < 256) (i : Nat) : word (N ||| 2 ^ k) i = if i = k / 64 then word N i ||| 2 ^ (k % 64) else word N i := by
  refine Nat.eq_of_testBit_eq fun j => ?_
  rw [word_testBit, Nat.testBit_or, Nat.testBit_two_pow]
  split
  · rename_i h
    subst h
    rw [Nat.testBit_or, word_testBit, Nat.testBit_two_pow]
    have hd : 64 * (k / 64) + k % 64 = k := Nat.div_add_mod k 64
    by_cases hj : j < 64
    · have : (k = 64 * (k / 64) + j) ↔ (k % 64 = j) := by omega
      simp [hj, this]
    · have : k % 64 ≠ j := by omega
      simp [hj, this]
  · rename_i h
    rw [word_testBit]
    by_cases hj : j < 64
    · have : k ≠ 64 * i + j := by omega
      simp [this]
    · simp [hj]
theorem encS_set {N k : Nat} (hk : k < 256) : List.take (k / 64) (encS N) ++ [C.int .u64 ((word N (k / 64) ||| 2 ^ (k % 64) : Nat) : Int)] ++ List.drop (k / 64 + 1) (encS N) = encS (N ||| 2 ^ k) := by
  have h4 : k / 64 < 4 := by omega
  unfold encS
  simp only [set_word hk]
  generalize k / 64 = q at *
  match q, h4 with
  | 0, _ => rfl
  | 1, _ => rfl
  | 2, _ => rfl
  | 3, _ => rfl

theorem take_all {cs : List C} (h : cs.length = 4) : List.take 4 (List.drop 0 cs) = cs := by rw [List.drop_zero, List.take_of_length_le (by omega)]

theorem put_all {cs : List C} (h : cs.length = 4) (l : List C) : List.take 0 cs ++ l ++ List.drop 4 cs = l := by rw [List.take_zero, List.nil_append, List.drop_of_length_le (by omega), List.append_nil]

theorem wdiv {a : Nat} (h : a < 256) : IntKind.wrap .i64 (Int.tdiv (a : Int) 64) = ((a / 64 : Nat) : Int) := by rw [show (64 : Int) = ((64 : Nat) : Int) from rfl, tdivN, i64n (by omega)]
theorem wmod (a : Nat) : Int.tmod (a : Int) 64 = ((a % 64 : Nat) : Int) := by rw [show (64 : Int) = ((64 : Nat) : Int) from rfl, tmodN]
theorem wshl {k : Nat} (h : k < 64) : IntKind.wrap .u64 ((1 : Int) * (2 : Int) ^ min k 64) = ((2 ^ k : Nat) : Int) := by
  have h1 : 2 ^ k < 2 ^ 64 := Nat.pow_lt_pow_right (by decide) h
  rw [show min k 64 = k by omega, Int.one_mul, show ((2 : Int) ^ k) = ((2 ^ k : Nat) : Int) by simp]
  generalize 2 ^ k = m at *
  exact u64w (by omega) (by omega)
theorem or_lt256 {N k : Nat} (h : N < 2 ^ 256) (hk : k < 256) : N ||| 2 ^ k < 2 ^ 256 := Nat.or_lt_two_pow h (Nat.pow_lt_pow_right (by decide) hk)

theorem add_loop : ∀ (n : Nat) (N a : Nat) (cs : List C), a + n ≤ 256 → cs.length = 4 → cs.all noPtr = true → 0 < a + n →
    Rest E 15 Try.f15 [0, 0, 1, 0, 1] («add.S1» ((a + n - 1 : Nat) : Int) (a : Int) (encS N) cs) = some (.ret [.agg (encS (addN N a n))] []) := by
  intro n
  induction n with
  | zero =>
    intro N a cs ha hl hnp h0
    refine rest_by fits_no ((add.r1_eq _ _ _ _ _).trans ?_)
    unfold add.r1
    rw [i64n (by omega)]
    refine bifF (decide_eq_false (by omega)) ?_
    simp only [take_all (encS_len N), encS_map, addN, put_all hl, hl, hnp, encS_len, encS_all]
    rfl
  | succ n ih =>
    intro N a cs ha hl hnp h0
    refine rest_by fits_no ((add.r1_eq _ _ _ _ _).trans ?_)
    unfold add.r1
    rw [i64n (by omega)]
    refine bifT (decide_eq_true (by omega)) ?_
    have h4 : a / 64 < 4 := by omega
    simp only [wdiv (show a < 256 by omega), wmod, Int.toNat_natCast, Nat.zero_add, Nat.mul_one, encS_len, encS_all]
    refine chkI (inBI (by omega) (by omega)) (onOI _ (nth_encS N h4) (rII _ rfl (chkI (decide_eq_true (by omega)) (chkI (inBI (by omega) (by omega)) (chkI rfl (chkI (Nat.ble_eq_true_of_le (by omega)) ?_))))))
    have hk : a % 64 < 64 := Nat.mod_lt _ (by decide)
    rw [wshl hk, bvOr (word_lt _ _) (Nat.pow_lt_pow_right (by decide) hk), encS_set (by omega), i64s (by omega)]
    have := ih (N ||| 2 ^ a) (a + 1) cs (by omega) hl hnp (by omega)
    rw [show a + (n + 1) - 1 = a + 1 + n - 1 by omega]
    exact this

theorem add_ok {N : Nat} {x y : Int} (h0 : 0 ≤ x) (h1 : x < 256) (h2 : 0 ≤ y) (h3 : y < 256) :
    callInf E 15 [.agg (encS N), .c (.int .u8 x), .c (.int .u8 y)] [] = some (.ret [.agg (encS (addN N x.toNat (y.toNat + 1 - x.toNat)))] []) := by
  refine call_by fits_no rfl rfl ((add.r_eq _ _ _ _).trans ?_)
  unfold add.r
  obtain ⟨a, rfl⟩ := Int.eq_ofNat_of_zero_le h0
  obtain ⟨b, rfl⟩ := Int.eq_ofNat_of_zero_le h2
  refine chkI rfl ?_
  rw [i64n (by omega)]
  simp only [Int.toNat_natCast]
  by_cases hab : a ≤ b
  · have := add_loop (b + 1 - a) N a [C.int .u64 0, C.int .u64 0, C.int .u64 0, C.int .u64 0] (by omega) rfl rfl (by omega)
    rw [show a + (b + 1 - a) - 1 = b by omega] at this
    exact this
  · -- nothing is between
    rw [show b + 1 - a = 0 by omega]
    refine rest_by fits_no ((add.r1_eq _ _ _ _ _).trans ?_)
    unfold add.r1
    rw [i64n (by omega)]
    refine bifF (decide_eq_false (by omega)) ?_
    rfl

theorem addN_lt : ∀ (n : Nat) {N a : Nat}, N < 2 ^ 256 → a + n ≤ 256 → addN N a n < 2 ^ 256
  | 0, _, _, h, _ => h
  | n + 1, _, _, h, ha => addN_lt n (or_lt256 h (by omega)) (by omega)
theorem addN_testBit : ∀ (n N a c : Nat), (addN N a n).testBit c = (N.testBit c || (decide (a ≤ c) && decide (c < a + n)))
  | 0, N, a, c => by
    have : (decide (a ≤ c) && decide (c < a + 0)) = false := by simp
    rw [this, addN, Bool.or_false]
  | n + 1, N, a, c => by
    rw [addN, addN_testBit n, Nat.testBit_or, Nat.testBit_two_pow, Bool.or_assoc]
    congr 1
    rw [Bool.eq_iff_iff]
    simp
    omega

theorem fits_add : FitsAt E 15 pAdd := by
  intro a b κ κp r h
  unfold pAdd at h
  split at h
  · obtain ⟨N, hN, h1⟩ := onO_inv h
    obtain ⟨hx, h2⟩ := chk_inv h1
    obtain ⟨rfl, _⟩ := decS_some hN
    simp only [isB, Bool.and_eq_true, decide_eq_true_eq] at hx
    exact ⟨_, add_ok hx.1.1 hx.1.2 hx.2.1 hx.2.2, h2⟩
  · cases h
theorem cAdd_ok {N : Nat} (hN : N < 2 ^ 256) {x y : Int} (h0 : 0 ≤ x) (h1 : x < 256) (h2 : 0 ≤ y) (h3 : y < 256) :
    callInf E 6 [.agg (encS N), .c (.int .u8 x), .c (.int .u8 y)] [] = some (.ret [.agg (encS (addN N x.toNat (y.toNat + 1 - x.toNat)))] []) := by
  refine call_by (Fits.only fits_add fits_no) rfl rfl ((cAdd.r_eq _ _ _ _).trans ?_)
  unfold cAdd.r
  exact chkI rfl (chkI rfl (onOI _ (decS_encS hN) (chkI (by simp [isB, h0, h1, h2, h3]) rfl)))

/-! ### not, union -/
theorem xor_lt256 {N M : Nat} (h : N < 2 ^ 256) (k : M < 2 ^ 256) : N ^^^ M < 2 ^ 256 := Nat.xor_lt_two_pow h k
/-- A set in whose words below i something was done. -/
def mixN (f : Nat → Nat) (N i : Nat) : List C := (List.range 4).map fun k => .int .u64 ((if k < i then f k else word N k : Nat) : Int)
theorem mix0 (f : Nat → Nat) (N : Nat) : encS N = mixN f N 0 := rfl
theorem mix4 {f : Nat → Nat} {N M : Nat} (h : ∀ k, k < 4 → f k = word M k) : mixN f N 4 = encS M := by
  simp only [mixN, encS, ← h 0 (by omega), ← h 1 (by omega), ← h 2 (by omega), ← h 3 (by omega)]
  rfl
theorem mix_nth (f : Nat → Nat) (N : Nat) {i : Nat} (h : i < 4) : nth (mixN f N i) i = some (.int .u64 (word N i : Int)) := by
  match i, h with
  | 0, _ => rfl
  | 1, _ => rfl
  | 2, _ => rfl
  | 3, _ => rfl
theorem mix_set (f : Nat → Nat) (N : Nat) {i : Nat} (h : i < 4) : List.take i (mixN f N i) ++ [C.int .u64 ((f i : Nat) : Int)] ++ List.drop (i + 1) (mixN f N i) = mixN f N (i + 1) := by
  match i, h with
  | 0, _ => rfl
  | 1, _ => rfl
  | 2, _ => rfl
  | 3, _ => rfl
theorem mix_len (f : Nat → Nat) (N i : Nat) : (mixN f N i).length = 4 := by simp [mixN]
theorem mix_all (f : Nat → Nat) (N i : Nat) : (mixN f N i).all noPtr = true := rfl

theorem not_word {N i : Nat} (h : i < 4) : word N i ^^^ (2 ^ 64 - 1) = word (notN N) i := by
  refine Nat.eq_of_testBit_eq fun j => ?_
  rw [word_testBit, Nat.testBit_xor, notN, Nat.testBit_xor, word_testBit, Nat.testBit_two_pow_sub_one, Nat.testBit_two_pow_sub_one]
  by_cases hj : j < 64
  · have : 64 * i + j < 256 := by omega
    simp [hj, this]
  · simp [hj]

theorem not_loop {N : Nat} : ∀ (n i : Nat) (cs : List C), i + n = 4 → cs.length = 4 → cs.all noPtr = true →
    Rest E 16 Try.f16 [0, 0, 1, 0, 1] («not.S1» (i : Int) (mixN (fun k => word (notN N) k) N i) cs) = some (.ret [.agg (encS (notN N))] []) := by
  intro n
  induction n with
  | zero =>
    intro i cs hi hl hnp
    refine rest_by fits_no ((not.r1_eq _ _ _ _).trans ?_)
    unfold not.r1
    obtain rfl : i = 4 := by omega
    refine bifF rfl ?_
    rw [mix4 (fun k hk => rfl)]
    simp only [take_all (encS_len _), encS_map, put_all hl, hl, hnp, encS_len, encS_all]
    rfl
  | succ n ih =>
    intro i cs hi hl hnp
    refine rest_by fits_no ((not.r1_eq _ _ _ _).trans ?_)
    unfold not.r1
    refine bifT (decide_eq_true (by omega)) ?_
    simp only [Int.toNat_natCast, Nat.zero_add, Nat.mul_one, mix_len, mix_all]
    refine chkI (inBI (by omega) (by omega)) (onOI _ (mix_nth _ N (by omega)) (rII _ rfl (chkI (inBI (by omega) (by omega)) (chkI rfl (chkI (Nat.ble_eq_true_of_le (by omega)) ?_)))))
    have hx : IntKind.wrap .u64 ((BitVec.toNat (BitVec.ofInt 64 18446744073709551615 ^^^ BitVec.ofInt 64 (word N i : Int)) : Nat) : Int) = ((word (notN N) i : Nat) : Int) := by
      have := bvXor (a := 18446744073709551615) (b := word N i) (by decide) (word_lt _ _)
      rw [Nat.xor_comm, show (18446744073709551615 : Nat) = 2 ^ 64 - 1 from rfl, not_word (by omega)] at this
      exact this
    rw [hx, mix_set _ N (by omega), i64s (by omega)]
    exact ih (i + 1) cs (by omega) hl hnp

theorem not_ok (N : Nat) : callInf E 16 [.agg (encS N)] [] = some (.ret [.agg (encS (notN N))] []) := by
  refine call_by fits_no rfl rfl ((not.r_eq _ _).trans ?_)
  unfold not.r
  refine chkI rfl ?_
  rw [mix0 (fun k => word (notN N) k)]
  exact not_loop 4 0 _ (by omega) rfl rfl
theorem fits_not : FitsAt E 16 pNot := by
  intro a b κ κp r h
  unfold pNot at h
  split at h
  · obtain ⟨N, hN, h1⟩ := onO_inv h
    obtain ⟨rfl, _⟩ := decS_some hN
    exact ⟨_, not_ok N, h1⟩
  · cases h
theorem cNot_ok {N : Nat} (hN : N < 2 ^ 256) : callInf E 7 [.agg (encS N)] [] = some (.ret [.agg (encS (notN N))] []) := by
  refine call_by (Fits.only fits_not fits_no) rfl rfl ((cNot.r_eq _ _).trans ?_)
  unfold cNot.r
  exact chkI rfl (chkI rfl (onOI _ (decS_encS hN) rfl))
theorem notN_lt {N : Nat} (h : N < 2 ^ 256) : notN N < 2 ^ 256 := xor_lt256 h (by decide)
theorem notN_testBit (N c : Nat) (h : c < 256) : (notN N).testBit c = !N.testBit c := by
  rw [notN, Nat.testBit_xor, Nat.testBit_two_pow_sub_one]; simp [h]

theorem or_word {N M i : Nat} : word N i ||| word M i = word (N ||| M) i := by
  refine Nat.eq_of_testBit_eq fun j => ?_
  rw [word_testBit, Nat.testBit_or, Nat.testBit_or, word_testBit, word_testBit]
  cases decide (j < 64) <;> simp
theorem union_loop {N M : Nat} : ∀ (n i : Nat) (cs : List C), i + n = 4 → cs.length = 4 → cs.all noPtr = true →
    Rest E 17 Try.f17 [0, 0, 1, 0, 1] («union.S1» (i : Int) (mixN (fun k => word (N ||| M) k) N i) (encS M) cs) = some (.ret [.agg (encS (N ||| M))] []) := by
  intro n
  induction n with
  | zero =>
    intro i cs hi hl hnp
    refine rest_by fits_no ((union.r1_eq _ _ _ _ _).trans ?_)
    unfold union.r1
    obtain rfl : i = 4 := by omega
    refine bifF rfl ?_
    rw [mix4 (fun k hk => rfl)]
    simp only [take_all (encS_len _), encS_map, put_all hl, hl, hnp, encS_len, encS_all]
    rfl
  | succ n ih =>
    intro i cs hi hl hnp
    refine rest_by fits_no ((union.r1_eq _ _ _ _ _).trans ?_)
    unfold union.r1
    refine bifT (decide_eq_true (by omega)) ?_
    simp only [Int.toNat_natCast, Nat.zero_add, Nat.mul_one, mix_len, mix_all]
    refine chkI (inBI (by omega) (by omega)) (onOI _ (mix_nth _ N (by omega)) (rII _ rfl (chkI (inBI (by omega) (by omega)) (onOI _ (nth_encS M (by omega)) (rII _ rfl (chkI (inBI (by omega) (by omega)) (chkI rfl (chkI (Nat.ble_eq_true_of_le (by omega)) ?_))))))))
    rw [bvOr (word_lt _ _) (word_lt _ _), or_word, mix_set _ N (by omega), i64s (by omega)]
    exact ih (i + 1) cs (by omega) hl hnp
theorem union_ok (N M : Nat) : callInf E 17 [.agg (encS N), .agg (encS M)] [] = some (.ret [.agg (encS (N ||| M))] []) := by
  refine call_by fits_no rfl rfl ((union.r_eq _ _ _).trans ?_)
  unfold union.r
  refine chkI rfl (chkI rfl ?_)
  rw [mix0 (fun k => word (N ||| M) k) N]
  exact union_loop 4 0 _ (by omega) rfl rfl
theorem fits_union : FitsAt E 17 pUnion := by
  intro a b κ κp r h
  unfold pUnion at h
  split at h
  · obtain ⟨N, hN, h1⟩ := onO_inv h
    obtain ⟨M, hM, h2⟩ := onO_inv h1
    obtain ⟨rfl, _⟩ := decS_some hN
    obtain ⟨rfl, _⟩ := decS_some hM
    exact ⟨_, union_ok N M, h2⟩
  · cases h
theorem cUnion_ok {N M : Nat} (hN : N < 2 ^ 256) (hM : M < 2 ^ 256) : callInf E 8 [.agg (encS N), .agg (encS M)] [] = some (.ret [.agg (encS (N ||| M))] []) := by
  refine call_by (Fits.only fits_union fits_no) rfl rfl ((cUnion.r_eq _ _ _).trans ?_)
  unfold cUnion.r
  exact chkI rfl (chkI rfl (chkI rfl (chkI rfl (onOI _ (decS_encS hN) (onOI _ (decS_encS hM) rfl)))))

/-! ### Count, Of -/
theorem bvAndI {a b : Nat} (ha : a < 2 ^ 63) (hb : b < 2 ^ 63) : IntKind.wrap .i64 ((BitVec.toNat (BitVec.ofInt 64 (a : Int) &&& BitVec.ofInt 64 (b : Int)) : Nat) : Int) = ((a &&& b : Nat) : Int) := by
  have : a &&& b < 2 ^ 63 := Nat.lt_of_le_of_lt Nat.and_le_left ha
  rw [BitVec.ofInt_natCast, BitVec.ofInt_natCast, BitVec.toNat_and, BitVec.toNat_ofNat, BitVec.toNat_ofNat, Nat.mod_eq_of_lt (by omega), Nat.mod_eq_of_lt (by omega)]
  exact i64w (by omega) (by omega)

theorem ones_ok {x : Int} (h0 : 0 ≤ x) (h1 : x < 18446744073709551616) : callInf E 19 [.c (.int .u64 x)] [] = some (.ret [.c (.int .i64 (cntW x.toNat : Int))] []) := by
  obtain ⟨n, rfl⟩ := Int.eq_ofNat_of_zero_le h0
  have hn : n < 2 ^ 64 := by omega
  obtain ⟨x1, e1⟩ : ∃ x1, x1 = (n / 2 &&& 6148914691236517205) + (n &&& 6148914691236517205) := ⟨_, rfl⟩
  obtain ⟨x2, e2⟩ : ∃ x2, x2 = (x1 / 4 &&& 3689348814741910323) + (x1 &&& 3689348814741910323) := ⟨_, rfl⟩
  obtain ⟨x3, e3⟩ : ∃ x3, x3 = (x2 / 16 + x2) &&& 1085102592571150095 := ⟨_, rfl⟩
  obtain ⟨x4, e4⟩ : ∃ x4, x4 = x3 + x3 / 256 := ⟨_, rfl⟩
  obtain ⟨x5, e5⟩ : ∃ x5, x5 = x4 + x4 / 65536 := ⟨_, rfl⟩
  obtain ⟨x6, e6⟩ : ∃ x6, x6 = x5 + x5 / 4294967296 := ⟨_, rfl⟩
  obtain ⟨l1, l2, l3, l4, l5, l6, hs⟩ := pop_steps n hn x1 x2 x3 x4 x5 x6 e1 e2 e3 e4 e5 e6
  have fd : ∀ (a k : Nat), Int.fdiv (a : Int) (k : Int) = ((a / k : Nat) : Int) := fdivN
  refine call_by fits_no rfl rfl ((ones.r_eq _ _).trans ?_)
  unfold ones.r
  refine rest_by fits_no ((ones.r1_eq _ _).trans ?_)
  unfold ones.r1
  have a1 : IntKind.wrap .u64 (IntKind.wrap .u64 ((BitVec.toNat (BitVec.ofInt 64 (Int.fdiv (n : Int) 2) &&& BitVec.ofInt 64 6148914691236517205) : Nat) : Int) + IntKind.wrap .u64 ((BitVec.toNat (BitVec.ofInt 64 (n : Int) &&& BitVec.ofInt 64 6148914691236517205) : Nat) : Int)) = (x1 : Int) := by
    have := fd n 2
    rw [show ((2 : Nat) : Int) = 2 from rfl] at this
    rw [this]
    have q1 := bvAnd (a := n / 2) (b := 6148914691236517205) (by omega) (by decide)
    have q2 := bvAnd (a := n) (b := 6148914691236517205) hn (by decide)
    rw [show ((6148914691236517205 : Nat) : Int) = 6148914691236517205 from rfl] at q1 q2
    rw [q1, q2, ← Int.natCast_add, ← e1]
    exact u64w (by omega) (by omega)
  rw [a1]
  refine rest_by fits_no ((ones.r2_eq _ _).trans ?_)
  unfold ones.r2
  have a2 : IntKind.wrap .u64 (IntKind.wrap .u64 ((BitVec.toNat (BitVec.ofInt 64 (Int.fdiv (x1 : Int) 4) &&& BitVec.ofInt 64 3689348814741910323) : Nat) : Int) + IntKind.wrap .u64 ((BitVec.toNat (BitVec.ofInt 64 (x1 : Int) &&& BitVec.ofInt 64 3689348814741910323) : Nat) : Int)) = (x2 : Int) := by
    have := fd x1 4
    rw [show ((4 : Nat) : Int) = 4 from rfl] at this
    rw [this]
    have q1 := bvAnd (a := x1 / 4) (b := 3689348814741910323) (by omega) (by decide)
    have q2 := bvAnd (a := x1) (b := 3689348814741910323) l1 (by decide)
    rw [show ((3689348814741910323 : Nat) : Int) = 3689348814741910323 from rfl] at q1 q2
    rw [q1, q2, ← Int.natCast_add, ← e2]
    exact u64w (by omega) (by omega)
  rw [a2]
  refine rest_by fits_no ((ones.r3_eq _ _).trans ?_)
  unfold ones.r3
  have a3 : IntKind.wrap .u64 ((BitVec.toNat (BitVec.ofInt 64 (IntKind.wrap .u64 (Int.fdiv (x2 : Int) 16 + (x2 : Int))) &&& BitVec.ofInt 64 1085102592571150095) : Nat) : Int) = (x3 : Int) := by
    have := fd x2 16
    rw [show ((16 : Nat) : Int) = 16 from rfl] at this
    have w1 : IntKind.wrap .u64 ((x2 / 16 + x2 : Nat) : Int) = ((x2 / 16 + x2 : Nat) : Int) := u64w (by omega) (by omega)
    rw [this, ← Int.natCast_add, w1]
    have q1 := bvAnd (a := x2 / 16 + x2) (b := 1085102592571150095) (by omega) (by decide)
    rw [show ((1085102592571150095 : Nat) : Int) = 1085102592571150095 from rfl] at q1
    rw [q1, ← e3]
  rw [a3]
  refine rest_by fits_no ((ones.r4_eq _ _).trans ?_)
  unfold ones.r4
  have a4 : IntKind.wrap .u64 ((x3 : Int) + Int.fdiv (x3 : Int) 256) = (x4 : Int) := by
    have := fd x3 256
    rw [show ((256 : Nat) : Int) = 256 from rfl] at this
    rw [this, ← Int.natCast_add, ← e4, u64w (by omega) (by omega)]
  rw [a4]
  refine rest_by fits_no ((ones.r5_eq _ _).trans ?_)
  unfold ones.r5
  have a5 : IntKind.wrap .u64 ((x4 : Int) + Int.fdiv (x4 : Int) 65536) = (x5 : Int) := by
    have := fd x4 65536
    rw [show ((65536 : Nat) : Int) = 65536 from rfl] at this
    rw [this, ← Int.natCast_add, ← e5, u64w (by omega) (by omega)]
  rw [a5]
  refine rest_by fits_no ((ones.r6_eq _ _).trans ?_)
  unfold ones.r6
  have a6 : IntKind.wrap .u64 ((x5 : Int) + Int.fdiv (x5 : Int) 4294967296) = (x6 : Int) := by
    have := fd x5 4294967296
    rw [show ((4294967296 : Nat) : Int) = 4294967296 from rfl] at this
    rw [this, ← Int.natCast_add, ← e6, u64w (by omega) (by omega)]
  rw [a6]
  refine rest_by fits_no ((ones.r7_eq _ _).trans ?_)
  unfold ones.r7
  have a7 : IntKind.wrap .i64 ((BitVec.toNat (BitVec.ofInt 64 (IntKind.wrap .i64 (x6 : Int)) &&& BitVec.ofInt 64 127) : Nat) : Int) = ((cntW n : Nat) : Int) := by
    have w1 : IntKind.wrap .i64 (x6 : Int) = (x6 : Int) := i64n (by omega)
    rw [w1]
    have q1 := bvAndI (a := x6) (b := 127) l6 (by decide)
    rw [show ((127 : Nat) : Int) = 127 from rfl] at q1
    rw [q1, show (127 : Nat) = 2 ^ 7 - 1 from rfl, Nat.and_two_pow_sub_one_eq_mod, ← hs]
  rw [a7]
  exact rest_by fits_no ((ones.r8_eq _ _).trans rfl)

theorem fits_ones : FitsAt E 19 pOnes := by
  intro a b κ κp r h
  unfold pOnes at h
  split at h
  · obtain ⟨hx, h1⟩ := chk_inv h
    simp only [inW, Bool.and_eq_true, decide_eq_true_eq] at hx
    exact ⟨_, ones_ok hx.1 hx.2, h1⟩
  · cases h

theorem cntW_le (w : Nat) : cntW w ≤ 64 := by
  have := List.countP_le_length (p := w.testBit) (l := List.range 64)
  simpa [cntW] using this
theorem count_words (N : Nat) : countN N = cntW (word N 0) + cntW (word N 1) + cntW (word N 2) + cntW (word N 3) := by
  have key : ∀ i, cntW (word N i) = (List.range 64).countP fun j => N.testBit (64 * i + j) := fun i => by
    refine List.countP_congr fun j hj => ?_
    rw [List.mem_range] at hj
    simp [word_testBit, hj]
  unfold countN
  rw [show (256 : Nat) = 64 + (64 + (64 + 64)) from rfl, List.range_add, List.countP_append, List.countP_map, List.range_add, List.countP_append, List.countP_map, List.range_add, List.countP_append, List.countP_map, key, key, key, key]
  have c1 : ∀ (f g : Nat → Bool), (∀ j, f j = g j) → (List.range 64).countP f = (List.range 64).countP g := fun f g h => by rw [show f = g from funext h]
  rw [c1 N.testBit (fun j => N.testBit (64 * 0 + j)) (fun j => by simp), c1 (N.testBit ∘ (fun x => 64 + x)) (fun j => N.testBit (64 * 1 + j)) (fun j => by simp),
    c1 ((N.testBit ∘ fun x => 64 + x) ∘ fun x => 64 + x) (fun j => N.testBit (64 * 2 + j)) (fun j => by simp only [Function.comp_apply]; congr 1; omega),
    c1 (((N.testBit ∘ fun x => 64 + x) ∘ fun x => 64 + x) ∘ fun x => 64 + x) (fun j => N.testBit (64 * 3 + j)) (fun j => by simp only [Function.comp_apply]; congr 1; omega)]
  omega

def sumW (N : Nat) : Nat → Nat
  | 0 => 0
  | n + 1 => cntW (word N (3 - n)) + sumW N n
theorem sumW_le (N : Nat) : ∀ n, sumW N n ≤ 64 * n
  | 0 => by simp [sumW]
  | n + 1 => by have := sumW_le N n; have := cntW_le (word N (3 - n)); simp only [sumW]; omega
theorem count_loop {N : Nat} : ∀ (n i : Nat) (k : Nat), i + n = 4 → k ≤ 64 * i →
    Rest E 10 Try.f10 [0, 0, 1, 0, 1, 1] («Count.S1» (k : Int) (encS N) (i : Int)) = some (.ret [.c (.int .i64 ((k + sumW N n : Nat) : Int))] []) := by
  intro n
  induction n with
  | zero =>
    intro i k hi hk
    refine rest_by (Fits.only fits_ones fits_no) ((Count.r1_eq _ _ _ _).trans ?_)
    unfold Count.r1
    exact bifF (decide_eq_false (by omega)) rfl
  | succ n ih =>
    intro i k hi hk
    refine rest_by (Fits.only fits_ones fits_no) ((Count.r1_eq _ _ _ _).trans ?_)
    unfold Count.r1
    refine bifT (decide_eq_true (by omega)) ?_
    have hw := word_lt N i
    have hc := cntW_le (word N i)
    simp only [Int.toNat_natCast]
    refine chkI (by rw [inBI (by omega) (by omega)]; rfl) (onOI _ (nth_encS N (by omega)) (rII _ rfl (chkI (by simp [inW]; omega) ?_)))
    rw [Int.toNat_natCast, ← Int.natCast_add, i64n (by omega), i64s (by omega), ih (i + 1) _ (by omega) (by omega)]
    rw [sumW, show 3 - n = i by omega, Nat.add_assoc]
theorem sum4 (N : Nat) : sumW N 4 = countN N := by rw [count_words]; simp only [sumW, Nat.sub_self, Nat.sub_zero]; rw [show 3 - 2 = 1 from rfl, show 3 - 1 = 2 from rfl]; omega
theorem count_ok {N : Nat} : callInf E 10 [.agg (encS N)] [] = some (.ret [.c (.int .i64 ((countN N : Nat) : Int))] []) := by
  refine call_by (Fits.only fits_ones fits_no) rfl rfl ((Count.r_eq _ _).trans ?_)
  unfold Count.r
  refine chkI rfl (chkI rfl ?_)
  rw [take_all (encS_len N), encS_map]
  have := count_loop (N := N) 4 0 0 (by omega) (by omega)
  rw [Nat.zero_add, sum4] at this
  exact this

/-! ### The truths of a set -/
def tabB (f : Nat → Bool) : List C := (List.range 256).map fun k => .bool (f k)
theorem tabB_len (f : Nat → Bool) : (tabB f).length = 256 := by simp [tabB]
theorem tabB_all (f : Nat → Bool) : (tabB f).all noPtr = true := by simp [tabB, noPtr]
theorem tabB_dem (f : Nat → Bool) : (tabB f).map C.dem = tabB f := by simp [tabB, C.dem]
theorem tabB_set (f : Nat → Bool) (b : Bool) {i : Nat} (h : i < 256) : List.take i (tabB f) ++ [C.bool b] ++ List.drop (i + 1) (tabB f) = tabB (fun k => if k = i then b else f k) := by
  have h1 := List.set_eq_take_append_cons_drop (l := tabB f) (i := i) (a := C.bool b)
  rw [if_pos (by rw [tabB_len]; exact h)] at h1
  rw [List.append_assoc, List.singleton_append, ← h1]
  apply List.ext_getElem?
  intro j
  rw [List.getElem?_set, tabB_len]
  simp only [tabB, List.getElem?_map]
  by_cases hj : j < 256
  · rw [List.getElem?_range hj]
    by_cases e : i = j
    · subst e; simp [h]
    · simp [e, Ne.symm e]
  · rw [List.getElem?_eq_none (by simpa using hj)]
    have : ¬ i = j := by omega
    simp [this]
theorem nth_tabB (f : Nat → Bool) {i : Nat} (h : i < 256) : nth (tabB f) i = some (.bool (f i)) := by
  rw [nth_eq]; simp [tabB, List.getElem?_range h]
theorem encB_tab (N : Nat) : encB N = tabB N.testBit := rfl
theorem take_allB {cs : List C} (h : cs.length = 256) : List.take 256 (List.drop 0 cs) = cs := by rw [List.drop_zero, List.take_of_length_le (by omega)]
theorem put_allB {cs : List C} (h : cs.length = 256) (l : List C) : List.take 0 cs ++ l ++ List.drop 256 cs = l := by rw [List.take_zero, List.nil_append, List.drop_of_length_le (by omega), List.append_nil]

theorem bit_of (w k : Nat) : (Int.tmod ((w / 2 ^ k : Nat) : Int) 2 == 1) = w.testBit k := by
  rw [show (2 : Int) = ((2 : Nat) : Int) from rfl, tmodN, Nat.testBit_eq_decide_div_mod_eq, Bool.eq_iff_iff]
  simp only [beq_iff_eq, decide_eq_true_eq]
  omega

theorem of_loop {N : Nat} : ∀ (n i : Nat) (cs : List C), i + n = 256 → cs.length = 256 → cs.all noPtr = true →
    Rest E 5 Try.f5 [0, 0, 1, 0, 1, 1] («Of.S1» (i : Int) (encS N) cs (tabB fun k => decide (k < i) && N.testBit k)) = some (.ret [.agg (encB N)] []) := by
  intro n
  induction n with
  | zero =>
    intro i cs hi hl hnp
    refine rest_by fits_no ((Of.r1_eq _ _ _ _ _).trans ?_)
    unfold Of.r1
    obtain rfl : i = 256 := by omega
    refine bifF rfl ?_
    have hf : (tabB fun k => decide (k < 256) && N.testBit k) = encB N := by
      unfold tabB encB
      refine List.map_congr_left fun k hk => ?_
      rw [List.mem_range] at hk
      simp [hk]
    rw [hf]
    have q1 : (encB N).length = 256 := tabB_len _
    have q2 : (encB N).all noPtr = true := tabB_all _
    have q3 : List.map C.dem (encB N) = encB N := tabB_dem _
    simp only [take_allB q1, q3, put_allB hl, hl, hnp, q1, q2]
    rfl
  | succ n ih =>
    intro i cs hi hl hnp
    refine rest_by fits_no ((Of.r1_eq _ _ _ _ _).trans ?_)
    unfold Of.r1
    refine bifT (decide_eq_true (by omega)) ?_
    have hk : i % 64 < 64 := Nat.mod_lt _ (by decide)
    have hu : IntKind.wrap .u64 ((i % 64 : Nat) : Int) = ((i % 64 : Nat) : Int) := u64w (by omega) (by omega)
    simp only [wdiv (show i < 256 by omega), wmod, hu, Int.toNat_natCast, Nat.zero_add, Nat.mul_one, tabB_len, tabB_all]
    refine chkI (inBI (by omega) (by omega)) (onOI _ (nth_encS N (by omega)) (rII _ rfl (chkI (decide_eq_true (by omega)) (chkI (inBI (by omega) (by omega)) (chkI rfl (chkI (Nat.ble_eq_true_of_le (by omega)) ?_))))))
    rw [show min (i % 64) 64 = i % 64 by omega, show ((2 : Int) ^ (i % 64)) = ((2 ^ (i % 64) : Nat) : Int) by simp, fdivN, bit_of, tabB_set _ _ (by omega), i64s (by omega)]
    have hb : (word N (i / 64)).testBit (i % 64) = N.testBit i := by rw [word_testBit, Nat.div_add_mod]; simp [hk]
    have hf : (fun k => if k = i then (word N (i / 64)).testBit (i % 64) else (decide (k < i) && N.testBit k)) = fun k => decide (k < i + 1) && N.testBit k := by
      funext k
      rw [hb]
      by_cases e : k = i
      · subst e; simp
      · have : (k < i + 1) ↔ (k < i) := by omega
        simp [e, this]
    rw [hf]
    exact ih (i + 1) cs (by omega) hl hnp
theorem of_ok (N : Nat) : callInf E 5 [.agg (encS N)] [] = some (.ret [.agg (encB N)] []) := by
  refine call_by fits_no rfl rfl ((Of.r_eq _ _).trans ?_)
  unfold Of.r
  have h0 : (tabB fun k => decide (k < 0) && N.testBit k) = List.replicate 256 (.bool false) := by
    rw [List.eq_replicate_iff]
    refine ⟨tabB_len _, fun c hc => ?_⟩
    simp only [tabB, List.mem_map] at hc
    obtain ⟨k, _, rfl⟩ := hc
    simp
  have := of_loop (N := N) 256 0 (List.replicate 256 (.bool false)) (by omega) (by simp) (by simp [noPtr])
  rw [h0] at this
  exact chkI rfl this

end Go.Proofs.YtmbhohnoolflbaaX
