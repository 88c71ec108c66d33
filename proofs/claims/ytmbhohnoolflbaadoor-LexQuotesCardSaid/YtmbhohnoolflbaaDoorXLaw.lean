/-
  SMALL LAWS for the proofs over the printed functions.
-/
import Derived.Test.YtmbhohnoolflbaaDoorXE
set_option linter.unusedVariables false
namespace Go.Proofs.YtmbhohnoolflbaaDoorX

theorem call_by {E : Cfg} {Φ : CalleeK} {f : FuncId} {fn : Func} {stops : List (List Nat)} {args : List V} {bs : List (List C)} {r : Res} (hΦ : Fits E Φ) (hp : E.prim f = none) (hf : E.fns f = some fn)
    (h : Run E Φ f fn (Rest E f fn) stops [] (st0 E f fn args bs) = some r) : callInf E f args bs = some r := call_of hΦ hp hf stops args bs r h
theorem rest_by {E : Cfg} {Φ : CalleeK} {f : FuncId} {fn : Func} {stops : List (List Nat)} {q : List Nat} {s : St} {r : Res} (hΦ : Fits E Φ) (h : Run E Φ f fn (Rest E f fn) stops q s = some r) : Rest E f fn q s = some r := rest_of hΦ stops q s r h

theorem chkI {b : Bool} {r : R} {v : Res} (h : b = true) (k : r = some v) : chk b r = some v := by rw [h]; exact k
theorem onOI {α : Type} {o : Option α} {κ : α → R} {v : Res} (a : α) (h : o = some a) (k : κ a = some v) : onO o κ = some v := by rw [h]; exact k
theorem rII {k : IntKind} {x : C} {κ : Int → R} {v : Res} (n : Int) (h : x = .int k n) (j : κ n = some v) : rI k x κ = some v := by rw [h, rI_int]; exact j
theorem bifT {b : Bool} {x y : R} {v : Res} (h : b = true) (k : x = some v) : (bif b then x else y) = some v := by rw [h]; exact k
theorem bifF {b : Bool} {x y : R} {v : Res} (h : b = false) (k : y = some v) : (bif b then x else y) = some v := by rw [h]; exact k

theorem i64w {n : Int} (h0 : -9223372036854775808 ≤ n) (h1 : n ≤ 9223372036854775807) : IntKind.wrap .i64 n = n := by
  simp only [IntKind.wrap, IntKind.bits, IntKind.signed, Bool.true_and, ge_iff_le, decide_eq_true_eq]
  split <;> omega
theorem i64n {n : Nat} (h1 : n ≤ 9223372036854775807) : IntKind.wrap .i64 (n : Int) = n := i64w (by omega) (by omega)
theorem i64s {n : Nat} (h1 : n < 9223372036854775807) : IntKind.wrap .i64 ((n : Int) + 1) = ((n + 1 : Nat) : Int) := by rw [i64w (by omega) (by omega)]; omega
theorem u8w {n : Int} (h0 : 0 ≤ n) (h1 : n ≤ 255) : IntKind.wrap .u8 n = n := by
  simp only [IntKind.wrap, IntKind.bits, IntKind.signed, Bool.false_and, Bool.false_eq_true, if_false]
  omega
theorem u64w {n : Int} (h0 : 0 ≤ n) (h1 : n ≤ 18446744073709551615) : IntKind.wrap .u64 n = n := by
  simp only [IntKind.wrap, IntKind.bits, IntKind.signed, Bool.false_and, Bool.false_eq_true, if_false]
  omega
theorem tdivN (n k : Nat) : Int.tdiv (n : Int) (k : Int) = ((n / k : Nat) : Int) := by rw [Int.tdiv_eq_ediv_of_nonneg (by omega)]; rfl
theorem tmodN (n k : Nat) : Int.tmod (n : Int) (k : Int) = ((n % k : Nat) : Int) := by rw [Int.tmod_eq_emod_of_nonneg (by omega)]; rfl
theorem fdivN (n k : Nat) : Int.fdiv (n : Int) (k : Int) = ((n / k : Nat) : Int) := by rw [Int.fdiv_eq_ediv_of_nonneg _ (by omega)]; rfl
theorem inBI {i : Int} {n : Nat} (h0 : 0 ≤ i) (h1 : i < n) : inB i n = true := by simp [inB, h0, h1]
theorem bvOr {a b : Nat} (ha : a < 2 ^ 64) (hb : b < 2 ^ 64) : IntKind.wrap .u64 ((BitVec.toNat (BitVec.ofInt 64 (a : Int) ||| BitVec.ofInt 64 (b : Int)) : Nat) : Int) = ((a ||| b : Nat) : Int) := by
  have : a ||| b < 2 ^ 64 := Nat.or_lt_two_pow ha hb
  rw [BitVec.ofInt_natCast, BitVec.ofInt_natCast, BitVec.toNat_or, BitVec.toNat_ofNat, BitVec.toNat_ofNat, Nat.mod_eq_of_lt ha, Nat.mod_eq_of_lt hb]
  exact u64w (by omega) (by omega)
theorem bvXor {a b : Nat} (ha : a < 2 ^ 64) (hb : b < 2 ^ 64) : IntKind.wrap .u64 ((BitVec.toNat (BitVec.ofInt 64 (a : Int) ^^^ BitVec.ofInt 64 (b : Int)) : Nat) : Int) = ((a ^^^ b : Nat) : Int) := by
  have : a ^^^ b < 2 ^ 64 := Nat.xor_lt_two_pow ha hb
  rw [BitVec.ofInt_natCast, BitVec.ofInt_natCast, BitVec.toNat_xor, BitVec.toNat_ofNat, BitVec.toNat_ofNat, Nat.mod_eq_of_lt ha, Nat.mod_eq_of_lt hb]
  exact u64w (by omega) (by omega)
theorem bvAnd {a b : Nat} (ha : a < 2 ^ 64) (hb : b < 2 ^ 64) : IntKind.wrap .u64 ((BitVec.toNat (BitVec.ofInt 64 (a : Int) &&& BitVec.ofInt 64 (b : Int)) : Nat) : Int) = ((a &&& b : Nat) : Int) := by
  have : a &&& b < 2 ^ 64 := Nat.lt_of_le_of_lt Nat.and_le_left ha
  rw [BitVec.ofInt_natCast, BitVec.ofInt_natCast, BitVec.toNat_and, BitVec.toNat_ofNat, BitVec.toNat_ofNat, Nat.mod_eq_of_lt ha, Nat.mod_eq_of_lt hb]
  exact u64w (by omega) (by omega)

/-! ### Texts from a place on -/
theorem bifI {b : Bool} {x y : R} {v : Res} (h : b = true → x = some v) (k : b = false → y = some v) : (bif b then x else y) = some v := by cases b; exact k rfl; exact h rfl
theorem drop_cons {α : Type} [Inhabited α] {l : List α} {n : Nat} {c : α} {r : List α} (h : l.drop n = c :: r) (z : α) : n < l.length ∧ l.getD n z = c ∧ l.drop (n + 1) = r ∧ l.length = n + 1 + r.length := by
  have hn : n < l.length := by
    rcases Nat.lt_or_ge n l.length with h1 | h1
    · exact h1
    · rw [List.drop_eq_nil_of_le h1] at h; cases h
  rw [List.drop_eq_getElem_cons hn] at h
  injection h with h1 h2
  refine ⟨hn, ?_, h2, ?_⟩
  · rw [List.getD_eq_getElem?_getD, List.getElem?_eq_getElem hn]; exact h1
  · have := congrArg List.length h2
    rw [List.length_drop] at this
    omega
theorem drop_nil_len {α : Type} {l : List α} {n : Nat} (h : l.drop n = []) (hn : n ≤ l.length) : n = l.length := by
  have := congrArg List.length h
  rw [List.length_drop] at this
  simp only [List.length_nil] at this
  omega
theorem u8lt (c : UInt8) : c.toNat < 256 := UInt8.toNat_lt c
theorem u8eqI (c : UInt8) (k : Nat) (hk : k < 256) : (((c.toNat : Nat) : Int) == ((k : Nat) : Int)) = (c == UInt8.ofNat k) := by
  rw [Bool.eq_iff_iff]
  simp only [beq_iff_eq]
  constructor
  · intro h
    have h1 : c.toNat = k := by omega
    rw [← h1, UInt8.ofNat_toNat]
  · intro h
    rw [h, UInt8.toNat_ofNat']
    omega

end Go.Proofs.YtmbhohnoolflbaaDoorX
