/-
  COUNTING BITS: what the sums over masked bits come to.
-/
import Derived.Test.YtmbhohnoolflbaaXKClass
import Derived.KernelRfl
set_option linter.unusedVariables false
namespace Go.Proofs.YtmbhohnoolflbaaX

def val : List Nat → Nat
  | [] => 0
  | b :: r => b + 256 * val r
def mk (m : Nat) : Nat → Nat
  | 0 => 0
  | n + 1 => m + 256 * mk m n
def pop8 (b : Nat) : Nat := (List.range 8).countP b.testBit

theorem testBit_lo {l h i : Nat} (hl : l < 256) : (l + 256 * h).testBit i = if i < 8 then l.testBit i else h.testBit (i - 8) := by
  have := Nat.testBit_two_pow_mul_add h (i := 8) (b := l) (by simpa using hl) i
  rwa [Nat.add_comm, show (256 : Nat) = 2 ^ 8 from rfl]
theorem and_byte {l h m M s : Nat} (hl : l < 256) (hm : m < 2 ^ (8 - s)) (hs : s ≤ 8) : ((l + 256 * h) / 2 ^ s) &&& (m + 256 * M) = ((l / 2 ^ s) &&& m) + 256 * ((h / 2 ^ s) &&& M) := by
  have hm8 : m < 256 := Nat.lt_of_lt_of_le hm (by have := Nat.pow_le_pow_right (n := 2) (by decide) (show 8 - s ≤ 8 by omega); simpa using this)
  have hlm : (l / 2 ^ s) &&& m < 256 := Nat.lt_of_le_of_lt Nat.and_le_right hm8
  refine Nat.eq_of_testBit_eq fun i => ?_
  rw [testBit_lo hlm, Nat.testBit_and, Nat.testBit_div_two_pow, testBit_lo hl, testBit_lo hm8]
  by_cases hi : i < 8
  · simp only [hi, if_true]
    rw [Nat.testBit_and, Nat.testBit_div_two_pow]
    by_cases h2 : i + s < 8
    · simp [h2]
    · have : m.testBit i = false := Nat.testBit_lt_two_pow (Nat.lt_of_lt_of_le hm (Nat.pow_le_pow_right (by decide) (by omega)))
      simp [this]
  · simp only [hi, if_false]
    rw [Nat.testBit_and, Nat.testBit_div_two_pow, if_neg (by omega), show i + s - 8 = i - 8 + s by omega]
theorem and_val {m s : Nat} (hm : m < 2 ^ (8 - s)) (hs : s ≤ 8) : ∀ {bs : List Nat}, (∀ b, b ∈ bs → b < 256) → (val bs / 2 ^ s) &&& mk m bs.length = val (bs.map fun b => (b / 2 ^ s) &&& m)
  | [], _ => by simp [val]
  | b :: r, h => by
    simp only [val, List.length_cons, mk, List.map_cons]
    rw [and_byte (h b (by simp)) hm hs, and_val hm hs (fun x hx => h x (by simp [hx]))]
theorem val_add (f g : Nat → Nat) : ∀ bs : List Nat, val (bs.map f) + val (bs.map g) = val (bs.map fun b => f b + g b)
  | [] => rfl
  | b :: r => by simp only [List.map_cons, val]; have := val_add f g r; omega
theorem val_map (f g : Nat → Nat) (bs : List Nat) : val ((bs.map f).map g) = val (bs.map fun b => g (f b)) := by rw [List.map_map]; rfl
theorem val_lt : ∀ {bs : List Nat}, (∀ b, b ∈ bs → b < 256) → val bs < 256 ^ bs.length
  | [], _ => by simp [val]
  | b :: r, h => by
    have h1 := h b (by simp)
    have h2 := val_lt (fun x hx => h x (by simp [hx]) : ∀ x, x ∈ r → x < 256)
    simp only [val, List.length_cons, Nat.pow_succ]
    generalize 256 ^ r.length = p at *
    generalize val r = q at *
    omega
def s1b (b : Nat) : Nat := (b / 2 ^ 1 &&& 85) + (b / 2 ^ 0 &&& 85)
def s2b (b : Nat) : Nat := (b / 2 ^ 2 &&& 51) + (b / 2 ^ 0 &&& 51)
theorem bytes_ok : ((List.range 256).all fun b => decide (s1b b < 256) && decide (s2b (s1b b) % 16 ≤ 4) && decide (s2b (s1b b) / 16 ≤ 4) && decide (s2b (s1b b) / 16 + s2b (s1b b) % 16 = pop8 b) && decide (pop8 b ≤ 8)) = true := by kernel_rfl
theorem byte_ok {b : Nat} (h : b < 256) : s1b b < 256 ∧ s2b (s1b b) % 16 ≤ 4 ∧ s2b (s1b b) / 16 ≤ 4 ∧ s2b (s1b b) / 16 + s2b (s1b b) % 16 = pop8 b ∧ pop8 b ≤ 8 := by
  have := List.all_eq_true.1 bytes_ok b (by simpa using h)
  simpa [Bool.and_eq_true, and_assoc] using this

theorem step3 : ∀ {cs : List Nat}, (∀ c, c ∈ cs → c % 16 ≤ 4 ∧ c / 16 ≤ 4) → (val cs / 16 + val cs) &&& mk 15 cs.length = val (cs.map fun c => c / 16 + c % 16) ∧ val cs % 16 ≤ 4
  | [], _ => by simp [val, mk]
  | c :: r, h => by
    obtain ⟨h1, h2⟩ := h c (by simp)
    obtain ⟨ih, h3⟩ := step3 (fun x hx => h x (by simp [hx]) : ∀ x, x ∈ r → x % 16 ≤ 4 ∧ x / 16 ≤ 4)
    refine ⟨?_, by simp only [val]; omega⟩
    simp only [val, List.length_cons, mk, List.map_cons]
    have e : (c + 256 * val r) / 16 + (c + 256 * val r) = (c / 16 + c + 16 * (val r % 16)) + 256 * (val r / 16 + val r) := by omega
    have hl : c / 16 + c + 16 * (val r % 16) < 256 := by omega
    have := and_byte (l := c / 16 + c + 16 * (val r % 16)) (h := val r / 16 + val r) (m := 15) (M := mk 15 r.length) (s := 0) hl (by decide) (by decide)
    simp only [Nat.pow_zero, Nat.div_one] at this
    rw [e, this, ih]
    have h15 : (c / 16 + c + 16 * (val r % 16)) &&& 15 = c / 16 + c % 16 := by
      rw [show (15 : Nat) = 2 ^ 4 - 1 from rfl, Nat.and_two_pow_sub_one_eq_mod]
      omega
    rw [h15]

theorem count_val : ∀ {bs : List Nat}, (∀ b, b ∈ bs → b < 256) → (List.range (8 * bs.length)).countP (val bs).testBit = (bs.map pop8).sum
  | [], _ => by simp
  | b :: r, h => by
    have hb := h b (by simp)
    have ih := count_val (fun x hx => h x (by simp [hx]) : ∀ x, x ∈ r → x < 256)
    rw [List.length_cons, show 8 * (r.length + 1) = 8 + 8 * r.length by omega, List.range_add, List.countP_append, List.countP_map, List.map_cons, List.sum_cons, ← ih]
    congr 1
    · refine List.countP_congr fun i hi => ?_
      rw [List.mem_range] at hi
      simp [val, testBit_lo hb, hi]
    · refine List.countP_congr fun i hi => ?_
      rw [Function.comp_apply, val, testBit_lo hb, if_neg (by omega), show 8 + i - 8 = i by omega]

theorem bytes_of (x : Nat) (hx : x < 2 ^ 64) : ∃ b0 b1 b2 b3 b4 b5 b6 b7 : Nat, x = val [b0, b1, b2, b3, b4, b5, b6, b7] ∧ ∀ b, b ∈ [b0, b1, b2, b3, b4, b5, b6, b7] → b < 256 := by
  refine ⟨x % 256, x / 256 % 256, x / 256 ^ 2 % 256, x / 256 ^ 3 % 256, x / 256 ^ 4 % 256, x / 256 ^ 5 % 256, x / 256 ^ 6 % 256, x / 256 ^ 7, ?_, ?_⟩
  · simp only [val]; omega
  · intro b hb
    simp only [List.mem_cons, List.not_mem_nil, or_false] at hb
    rcases hb with rfl | rfl | rfl | rfl | rfl | rfl | rfl | rfl <;> omega

theorem step68 {c q p : Nat} (h : c ≤ 68) (ih : 255 * q + 68 ≤ 68 * p) : 255 * (c + 256 * q) + 68 ≤ 68 * (p * 256) := by
  have h1 : 255 * (c + 256 * q) = 255 * c + 256 * (255 * q) := by rw [Nat.mul_add]; congr 1; rw [← Nat.mul_assoc, ← Nat.mul_assoc, Nat.mul_comm 255 256]
  have h2 : 68 * (p * 256) = 256 * (68 * p) := by rw [← Nat.mul_assoc, Nat.mul_comm]
  rw [h1, h2]
  generalize 255 * q = a at *
  generalize 68 * p = b at *
  omega
theorem val_le68 : ∀ {cs : List Nat}, (∀ c, c ∈ cs → c ≤ 68) → 255 * val cs + 68 ≤ 68 * 256 ^ cs.length
  | [], _ => by simp [val]
  | c :: r, h => by
    rw [val, List.length_cons, Nat.pow_succ]
    exact step68 (h c (by simp)) (val_le68 (fun x hx => h x (by simp [hx]) : ∀ x, x ∈ r → x ≤ 68))
theorem bnd {c t k : Nat} (h : c ≤ 8) (ht : t ≤ k) : c + 256 * t ≤ 8 + 256 * k := by omega
theorem lo4 {c0 c1 c2 c3 c4 c5 c6 : Nat} (h0 : c0 ≤ 8) (h1 : c1 ≤ 8) (h2 : c2 ≤ 8) (h3 : c3 ≤ 8) (h4 : c4 ≤ 8) (h5 : c5 ≤ 8) (h6 : c6 ≤ 8) :
    (c0 + 256 * c1 + 65536 * (c2 + 256 * c3)) + (c1 + 256 * c2 + 65536 * (c3 + 256 * c4)) + (c2 + 256 * c3 + 65536 * (c4 + 256 * c5)) + (c3 + 256 * c4 + 65536 * (c5 + 256 * c6)) < 4294967296 := by omega
theorem le8 {c0 c1 c2 c3 c4 c5 c6 c7 : Nat} (h0 : c0 ≤ 8) (h1 : c1 ≤ 8) (h2 : c2 ≤ 8) (h3 : c3 ≤ 8) (h4 : c4 ≤ 8) (h5 : c5 ≤ 8) (h6 : c6 ≤ 8) (h7 : c7 ≤ 8) : c0 + c1 + c2 + c3 + c4 + c5 + c6 + c7 < 128 := by omega
theorem all8 {c0 c1 c2 c3 c4 c5 c6 c7 t1 t2 t3 t4 t5 t6 t7 x3 x6 : Nat} (k6 : x6 = x3 + t1 + (t2 + t3) + (t4 + t5 + (t6 + t7))) (e0 : x3 = c0 + 256 * t1) (e1 : t1 = c1 + 256 * t2) (e2 : t2 = c2 + 256 * t3) (e3 : t3 = c3 + 256 * t4) (e4 : t4 = c4 + 256 * t5) (e5 : t5 = c5 + 256 * t6) (e6 : t6 = c6 + 256 * t7) (e7 : t7 = c7) :
    x6 = (c0 + c1 + c2 + c3 + c4 + c5 + c6 + c7) + 256 * (t1 + t2 + t3 + t4 + t5 + t6 + t7) := by
  have a1 : x3 + t1 = c0 + c1 + 256 * (t1 + t2) := by omega
  have a2 : t2 + t3 = c2 + c3 + 256 * (t3 + t4) := by omega
  have a3 : t4 + t5 = c4 + c5 + 256 * (t5 + t6) := by omega
  have a4 : t6 + t7 = c6 + c7 + 256 * t7 := by omega
  clear e0 e1 e2 e3 e4 e5 e6 e7
  omega
theorem ends8 {x3 t1 t2 t3 t4 t5 t6 t7 : Nat} (b0 : x3 ≤ 578721382704613384) (b1 : t1 ≤ 2260630401189896) (b2 : t2 ≤ 8830587504648) (b3 : t3 ≤ 34494482440) (b4 : t4 ≤ 134744072) (b5 : t5 ≤ 526344) (b6 : t6 ≤ 2056) (b7 : t7 ≤ 8) :
    x3 < 2 ^ 64 ∧ x3 + t1 < 2 ^ 64 ∧ x3 + t1 + (t2 + t3) < 2 ^ 64 ∧ x3 + t1 + (t2 + t3) + (t4 + t5 + (t6 + t7)) < 2 ^ 63 := by omega
theorem d8 {a p : Nat} (h : a < 256) : (a + 256 * p) / 256 = p := by omega
theorem m8 (a b p : Nat) : a + 256 * (b + 256 * p) = (a + 256 * b) + 65536 * p := by omega
theorem m16 (a b p : Nat) : a + 65536 * (b + 65536 * p) = (a + 65536 * b) + 4294967296 * p := by omega
theorem d16 {a b p q : Nat} (h : a + b < 65536) : (a + 65536 * p + (b + 65536 * q)) / 65536 = p + q := by omega
theorem d32 {a b c d p q r s : Nat} (h : a + b + c + d < 4294967296) : ((a + 4294967296 * p) + (b + 4294967296 * q) + ((c + 4294967296 * r) + (d + 4294967296 * s))) / 4294967296 = p + q + (r + s) := by omega
theorem m128 {a T : Nat} (h : a < 128) : (a + 256 * T) % 128 = a := by omega
theorem sums8 {c0 c1 c2 c3 c4 c5 c6 c7 : Nat} (h0 : c0 ≤ 8) (h1 : c1 ≤ 8) (h2 : c2 ≤ 8) (h3 : c3 ≤ 8) (h4 : c4 ≤ 8) (h5 : c5 ≤ 8) (h6 : c6 ≤ 8) (h7 : c7 ≤ 8) :
    ∀ x3 x4 x5 x6, x3 = val [c0, c1, c2, c3, c4, c5, c6, c7] → x4 = x3 + x3 / 256 → x5 = x4 + x4 / 65536 → x6 = x5 + x5 / 4294967296 →
    x3 < 2 ^ 64 ∧ x4 < 2 ^ 64 ∧ x5 < 2 ^ 64 ∧ x6 < 2 ^ 63 ∧ x6 % 128 = c0 + c1 + c2 + c3 + c4 + c5 + c6 + c7 := by
  intro x3 x4 x5 x6 hx3 hx4 hx5 hx6
  obtain ⟨t7, e7⟩ : ∃ t, t = c7 := ⟨_, rfl⟩
  obtain ⟨t6, e6⟩ : ∃ t, t = c6 + 256 * t7 := ⟨_, rfl⟩
  obtain ⟨t5, e5⟩ : ∃ t, t = c5 + 256 * t6 := ⟨_, rfl⟩
  obtain ⟨t4, e4⟩ : ∃ t, t = c4 + 256 * t5 := ⟨_, rfl⟩
  obtain ⟨t3, e3⟩ : ∃ t, t = c3 + 256 * t4 := ⟨_, rfl⟩
  obtain ⟨t2, e2⟩ : ∃ t, t = c2 + 256 * t3 := ⟨_, rfl⟩
  obtain ⟨t1, e1⟩ : ∃ t, t = c1 + 256 * t2 := ⟨_, rfl⟩
  have e0 : x3 = c0 + 256 * t1 := by rw [hx3, e1, e2, e3, e4, e5, e6, e7]; rfl
  clear hx3
  have k4 : x4 = x3 + t1 := by rw [hx4, e0, d8 (by omega)]
  have f0 : x3 = (c0 + 256 * c1) + 65536 * t2 := by rw [e0, e1]; exact m8 _ _ _
  have f1 : t1 = (c1 + 256 * c2) + 65536 * t3 := by rw [e1, e2]; exact m8 _ _ _
  have k5 : x5 = x3 + t1 + (t2 + t3) := by
    have : (x3 + t1) / 65536 = t2 + t3 := by rw [f0, f1]; exact d16 (by omega)
    rw [hx5, k4, this]
  have f2 : t2 = (c2 + 256 * c3) + 65536 * t4 := by rw [e2, e3]; exact m8 _ _ _
  have f3 : t3 = (c3 + 256 * c4) + 65536 * t5 := by rw [e3, e4]; exact m8 _ _ _
  have f4 : t4 = (c4 + 256 * c5) + 65536 * t6 := by rw [e4, e5]; exact m8 _ _ _
  have f5 : t5 = (c5 + 256 * c6) + 65536 * t7 := by rw [e5, e6]; exact m8 _ _ _
  have g0 : x3 = (c0 + 256 * c1 + 65536 * (c2 + 256 * c3)) + 4294967296 * t4 := by rw [f0, f2]; exact m16 _ _ _
  have g1 : t1 = (c1 + 256 * c2 + 65536 * (c3 + 256 * c4)) + 4294967296 * t5 := by rw [f1, f3]; exact m16 _ _ _
  have g2 : t2 = (c2 + 256 * c3 + 65536 * (c4 + 256 * c5)) + 4294967296 * t6 := by rw [f2, f4]; exact m16 _ _ _
  have g3 : t3 = (c3 + 256 * c4 + 65536 * (c5 + 256 * c6)) + 4294967296 * t7 := by rw [f3, f5]; exact m16 _ _ _
  have k6 : x6 = x3 + t1 + (t2 + t3) + (t4 + t5 + (t6 + t7)) := by
    have : (x3 + t1 + (t2 + t3)) / 4294967296 = t4 + t5 + (t6 + t7) := by rw [g0, g1, g2, g3]; exact d32 (lo4 h0 h1 h2 h3 h4 h5 h6)
    rw [hx6, k5, this]
  have b7 : t7 ≤ 8 := by rw [e7]; exact h7
  have b6 : t6 ≤ 2056 := by rw [e6]; exact bnd h6 b7
  have b5 : t5 ≤ 526344 := by rw [e5]; exact bnd h5 b6
  have b4 : t4 ≤ 134744072 := by rw [e4]; exact bnd h4 b5
  have b3 : t3 ≤ 34494482440 := by rw [e3]; exact bnd h3 b4
  have b2 : t2 ≤ 8830587504648 := by rw [e2]; exact bnd h2 b3
  have b1 : t1 ≤ 2260630401189896 := by rw [e1]; exact bnd h1 b2
  have b0 : x3 ≤ 578721382704613384 := by rw [e0]; exact bnd h0 b1
  have s := all8 k6 e0 e1 e2 e3 e4 e5 e6 e7
  obtain ⟨z1, z2, z3, z4⟩ := ends8 b0 b1 b2 b3 b4 b5 b6 b7
  refine ⟨z1, by rw [k4]; exact z2, by rw [k5]; exact z3, by rw [k6]; exact z4, ?_⟩
  rw [s]
  exact m128 (le8 h0 h1 h2 h3 h4 h5 h6 h7)

/-- All the steps together. -/
theorem step1 {bs : List Nat} (hb : ∀ b, b ∈ bs → b < 256) (h8 : mk 85 bs.length = 6148914691236517205) : (val bs / 2 &&& 6148914691236517205) + (val bs &&& 6148914691236517205) = val (bs.map s1b) := by
  have e1 := and_val (m := 85) (s := 1) (by decide) (by decide) hb
  have e0 := and_val (m := 85) (s := 0) (by decide) (by decide) hb
  rw [h8] at e1 e0
  rw [Nat.pow_one] at e1
  rw [Nat.pow_zero, Nat.div_one] at e0
  rw [e1, e0, val_add]
  rfl
theorem step2 {bs : List Nat} (hb : ∀ b, b ∈ bs → b < 256) (h8 : mk 51 bs.length = 3689348814741910323) : (val bs / 4 &&& 3689348814741910323) + (val bs &&& 3689348814741910323) = val (bs.map s2b) := by
  have e1 := and_val (m := 51) (s := 2) (by decide) (by decide) hb
  have e0 := and_val (m := 51) (s := 0) (by decide) (by decide) hb
  rw [h8] at e1 e0
  rw [show (2 : Nat) ^ 2 = 4 from rfl] at e1
  rw [Nat.pow_zero, Nat.div_one] at e0
  rw [e1, e0, val_add]
  rfl
theorem step3' {cs : List Nat} (h : ∀ c, c ∈ cs → c % 16 ≤ 4 ∧ c / 16 ≤ 4) (h8 : mk 15 cs.length = 1085102592571150095) : (val cs / 16 + val cs) &&& 1085102592571150095 = val (cs.map fun c => c / 16 + c % 16) := by rw [← h8]; exact (step3 h).1
theorem lt63 {x p : Nat} (h : 255 * x + 68 ≤ 68 * p) (hp : p = 2 ^ 64) : x < 2 ^ 63 := by subst hp; omega
theorem p256 : (256 : Nat) ^ 8 = 2 ^ 64 := by decide
theorem small68 {c : Nat} (h : c % 16 ≤ 4 ∧ c / 16 ≤ 4) : c ≤ 68 := by omega
theorem pop_steps (x : Nat) (hx : x < 2 ^ 64) (x1 x2 x3 x4 x5 x6 : Nat) (e1 : x1 = (x / 2 &&& 6148914691236517205) + (x &&& 6148914691236517205)) (e2 : x2 = (x1 / 4 &&& 3689348814741910323) + (x1 &&& 3689348814741910323))
    (e3 : x3 = (x2 / 16 + x2) &&& 1085102592571150095) (e4 : x4 = x3 + x3 / 256) (e5 : x5 = x4 + x4 / 65536) (e6 : x6 = x5 + x5 / 4294967296) :
    x1 < 2 ^ 64 ∧ x2 < 2 ^ 63 ∧ x3 < 2 ^ 64 ∧ x4 < 2 ^ 64 ∧ x5 < 2 ^ 64 ∧ x6 < 2 ^ 63 ∧ x6 % 128 = cntW x := by
  obtain ⟨b0, b1, b2, b3, b4, b5, b6, b7, rfl, hb⟩ := bytes_of x hx
  have hc := count_val hb
  have h1 : x1 = val ([b0, b1, b2, b3, b4, b5, b6, b7].map s1b) := e1.trans (step1 hb rfl)
  have hb1 : ∀ b, b ∈ [b0, b1, b2, b3, b4, b5, b6, b7].map s1b → b < 256 := by
    intro b h
    obtain ⟨a, ha, rfl⟩ := List.mem_map.1 h
    exact (byte_ok (hb a ha)).1
  have h2 : x2 = val (([b0, b1, b2, b3, b4, b5, b6, b7].map s1b).map s2b) := by rw [e2, h1]; exact step2 hb1 (by rw [List.length_map]; rfl)
  have hb2 : ∀ c, c ∈ ([b0, b1, b2, b3, b4, b5, b6, b7].map s1b).map s2b → c % 16 ≤ 4 ∧ c / 16 ≤ 4 := by
    intro c h
    obtain ⟨a, ha, rfl⟩ := List.mem_map.1 h
    obtain ⟨d, hd, rfl⟩ := List.mem_map.1 ha
    have := byte_ok (hb d hd)
    exact ⟨this.2.1, this.2.2.1⟩
  have h3 : x3 = val ([b0, b1, b2, b3, b4, b5, b6, b7].map pop8) := by
    refine e3.trans ?_
    rw [h2]
    refine (step3' hb2 (by rw [List.length_map, List.length_map]; rfl)).trans ?_
    rw [List.map_map, List.map_map]
    congr 1
    refine List.map_congr_left fun a ha => ?_
    exact (byte_ok (hb a ha)).2.2.2.1
  have l1 : x1 < 2 ^ 64 := by rw [h1]; exact Nat.lt_of_lt_of_le (val_lt hb1) (by rw [List.length_map]; exact Nat.le_of_eq p256)
  have hb3 : ∀ c, c ∈ ([b0, b1, b2, b3, b4, b5, b6, b7].map s1b).map s2b → c ≤ 68 := by
    intro c h
    exact small68 (hb2 c h)
  have l2 := val_le68 hb3
  rw [← h2] at l2
  have l2' : x2 < 2 ^ 63 := lt63 l2 (by rw [List.length_map, List.length_map]; exact p256)
  have p := fun b (h : b ∈ [b0, b1, b2, b3, b4, b5, b6, b7]) => (byte_ok (hb b h)).2.2.2.2
  simp only [List.mem_cons, List.not_mem_nil, or_false, forall_eq_or_imp, forall_eq] at p
  obtain ⟨p0, p1, p2, p3, p4, p5, p6, p7⟩ := p
  have q := sums8 p0 p1 p2 p3 p4 p5 p6 p7 x3 x4 x5 x6 h3 e4 e5 e6
  have hcnt : cntW (val [b0, b1, b2, b3, b4, b5, b6, b7]) = pop8 b0 + pop8 b1 + pop8 b2 + pop8 b3 + pop8 b4 + pop8 b5 + pop8 b6 + pop8 b7 := by
    refine hc.trans ?_
    simp only [List.map_cons, List.map_nil, List.sum_cons, List.sum_nil, Nat.add_zero, Nat.add_assoc]
  rw [hcnt]
  exact ⟨l1, l2', q⟩

end Go.Proofs.YtmbhohnoolflbaaX
