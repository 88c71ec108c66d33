/-
  WORDS OF PROGRAMS: each token is read as told.
-/
import Derived.Test.YtmbhohnoolflbaaDoorXSLexB
set_option linter.unusedVariables false
set_option linter.unusedSimpArgs false
set_option maxRecDepth 100000
namespace Go.Proofs.YtmbhohnoolflbaaDoorX

theorem put_leaf {l : List UInt8} {n : Nat} {es : List (List D)} {fl : Fl} {k : Int} {S : List UInt8} {m : Nat} {x : Int} {b : Bool} (hb : b = true) (hx : x = (n : Int) + (m : Int)) :
    chk b (bif Nat.beq es.length 3000 then some (.pan 45 (.agg [.int .i64 (n : Int), .int .i64 2]) [[.str l, .int .i64 (n : Int), .sl 3 es fl]])
      else some (.ret [] [[.str l, .int .i64 x, .sl 3 (es ++ [[.int .i64 k, .str S, .int .i64 (n : Int)]]) .own]])) = some (tokRes l n es fl ⟨0, k, S, m⟩) := by
  rw [hb, hx]
  show (bif Nat.beq es.length 3000 then _ else _) = _
  unfold tokRes terr
  simp only [if_true]
  by_cases h : es.length = 3000
  · rw [if_pos h, h]; rfl
  · rw [if_neg h]
    have : Nat.beq es.length 3000 = false := by
      cases hq : Nat.beq es.length 3000 with
      | false => rfl
      | true => exact absurd (Nat.eq_of_beq_eq_true hq) h
    rw [this]; rfl
theorem err_leaf {l : List UInt8} {n : Nat} {es : List (List D)} {fl : Fl} {e : Int} {k : Int} {S : List UInt8} {m : Nat} (he : e ≠ 0) :
    (some (.pan 45 (.agg [.int .i64 (n : Int), .int .i64 e]) [[.str l, .int .i64 (n : Int), .sl 3 es fl]]) : R) = some (tokRes l n es fl ⟨e, k, S, m⟩) := by
  unfold tokRes terr
  simp only
  rw [if_neg he, show (e == 0) = false by simpa using he]
  rfl
/-- What such a method promises. -/
theorem fits_tok {f : FuncId} {F : List UInt8 → Int → List (List D) → TokR} (h : ∀ (l : List UInt8) (n : Nat) (es : List (List D)) (fl : Fl), RdOk l n es fl → okLast es = true → n < l.length →
    callInf EF f [.c (.ptr (.out 0) 0)] [[.str l, .int .i64 (n : Int), .sl 3 es fl]] = some (tokRes l n es fl (F (l.drop n) (n : Int) es))) : FitsAt EF f (pTok F) := by
  intro a b κ κp r hr
  unfold pTok at hr
  split at hr
  · rename_i l a es fl
    obtain ⟨hc, h1⟩ := chk_inv hr
    simp only [Bool.and_eq_true, decide_eq_true_eq] at hc
    obtain ⟨n, rfl, hro⟩ := okR_inv hc.1.1
    refine ⟨_, h l n es fl hro hc.1.2 (by omega), ?_⟩
    have ea : at' l (n : Int) = l.drop n := by simp [at']
    rw [ea] at h1
    unfold tokRes
    cases hq : terr es (F (l.drop n) (n : Int) es) == 0 with
    | true => rw [hq] at h1; exact h1
    | false => rw [hq] at h1; exact h1
  · cases hr
theorem begins_one {l : List UInt8} {m : Nat} (hm : m ≤ l.length) (c : UInt8) : begins (l.drop m) [c] = (decide (m < l.length) && (l.getD m 0 == c)) := by
  cases hd : l.drop m with
  | nil =>
    have := drop_nil_len hd hm
    rw [show decide (m < l.length) = false from decide_eq_false (by omega)]; rfl
  | cons x r =>
    obtain ⟨k1, k2, k3, k4⟩ := drop_cons hd 0
    rw [begins_cons, begins_any, Bool.and_true, decide_eq_true k1, k2, Bool.true_and]

/-! ### name -/
theorem fits_FName : Fits EF FName := Fits.only fits_run (Fits.only fits_among (Fits.only fits_put (Fits.only fits_fail fits_no)))
theorem name_ok (l : List UInt8) (n : Nat) (es : List (List D)) (fl : Fl) (h : RdOk l n es fl) (hk : okLast es = true) (hn : n < l.length) :
    callInf EF 57 [.c (.ptr (.out 0) 0)] [[.str l, .int .i64 (n : Int), .sl 3 es fl]] = some (tokRes l n es fl (fName (l.drop n) (n : Int) es)) := by
  refine call_by fits_FName rfl rfl ((lname.r_eq _ _ _ _ _).trans ?_)
  unfold lname.r fName nameR
  have h2 := h.len
  have hw := runInn_le (l.drop n)
  rw [List.length_drop] at hw
  simp only [Int.toNat_natCast, List.take_length]
  have w1 : IntKind.wrap .i64 ((n : Int) + ((runInn (l.drop n)).length : Int)) = ((n + (runInn (l.drop n)).length : Nat) : Int) := by rw [i64w (by omega) (by omega)]; omega
  refine chkI (by simp; omega) (chkI (Nat.ble_eq_true_of_le (by rw [List.length_drop]; omega)) ?_)
  have hck : (okR l (n : Int) es fl && true && decide (((runInn (l.drop n)).length : Int) ≤ 8000)) = true := by rw [h.ok]; simp; omega
  have h1m : Nat.ble (runInn (l.drop n)).length 1000000 = true := Nat.ble_eq_true_of_le (by omega)
  refine bifI (fun h => ?_) (fun h0 => chkI h1m ?_)
  · have : 40 < (runInn (l.drop n)).length := by have := of_decide_eq_true h; omega
    rw [if_pos this]; exact err_leaf (by decide)
  · have : ¬ 40 < (runInn (l.drop n)).length := by have := of_decide_eq_false h0; omega
    rw [if_neg this]
    refine bifI (fun h => ?_) (fun h1 => chkI h1m ?_)
    · rw [if_pos h]; exact put_leaf hck rfl
    · rw [if_neg (by rw [h1]; simp)]
      refine bifI (fun h => ?_) (fun h2 => ?_)
      · rw [if_pos h]; exact put_leaf hck rfl
      · rw [if_neg (by rw [h2]; simp), w1, List.drop_drop, begins_one (by omega)]
        refine bifI (fun h => chkI (inBI (by have := of_decide_eq_true h; omega) (by have := of_decide_eq_true h; omega)) ?_) (fun h => ?_)
        · have hlt : n + (runInn (l.drop n)).length < l.length := by have := of_decide_eq_true h; omega
          rw [Int.toNat_natCast, decide_eq_true hlt, Bool.true_and, show (40 : Int) = ((40 : Nat) : Int) from rfl, u8I (by decide)]
          refine bifI (fun h => ?_) (fun h => ?_)
          · rw [if_pos (by exact h)]; exact put_leaf hck rfl
          · rw [if_neg (by rw [show (40 : UInt8) = UInt8.ofNat 40 from rfl, h]; simp)]; exact put_leaf hck rfl
        · have hlt : ¬ n + (runInn (l.drop n)).length < l.length := by have := of_decide_eq_false h; omega
          rw [decide_eq_false hlt, Bool.false_and, if_neg (by simp)]; exact put_leaf hck rfl
theorem fits_name : FitsAt EF 57 (pTok fName) := fits_tok name_ok

/-! ### text -/
theorem fits_FText : Fits EF FText := Fits.only fits_put (Fits.only fits_fail (Fits.only fits_stroke (Fits.only fits_writeString (Fits.only fits_writeByte (Fits.only fits_string fits_no)))))
theorem strokeL_len (c : UInt8) : (strokeL c).length ≤ 2 := by unfold strokeL; split <;> (try split) <;> (try split) <;> simp
/-- What comes of a text's rest. -/
def textT : Option (List UInt8 × Nat) → TokR
  | some (S, n) => ⟨0, 3, S, n⟩
  | none => ⟨3, 0, [], 0⟩
theorem text_loop {l : List UInt8} {n : Nat} {es : List (List D)} {fl : Fl} (h : RdOk l n es fl) : ∀ (f : Nat) (acc : List UInt8) (m : Nat), l.length - (n + m) < f → n + m ≤ l.length → acc.length ≤ 3 * m →
    Rest EF 60 Tryd.f60 [0, 0, 1, 0, 1] («ltext.S1» ((n + m : Nat) : Int) acc l (n : Int) es fl) = some (tokRes l n es fl (textT (textM (l.drop (n + m)) acc m))) := by
  have h2 := h.len
  intro f
  induction f with
  | zero => intro acc m hf; omega
  | succ f ih =>
    intro acc m hf hm ha
    refine rest_by fits_FText ((ltext.r1_eq _ _ _ _ _ _ _).trans ?_)
    unfold ltext.r1
    cases hd : l.drop (n + m) with
    | nil =>
      have := drop_nil_len hd hm
      refine bifF (decide_eq_false (by omega)) ?_
      simp only [textM, textT]; exact err_leaf (by decide)
    | cons c r =>
      obtain ⟨h1, h2', h3, h4⟩ := drop_cons hd 0
      have w1 : IntKind.wrap .i64 (((n + m : Nat) : Int) + 1) = ((n + m + 1 : Nat) : Int) := i64s (by omega)
      have w2 : IntKind.wrap .i64 (((n + m + 1 : Nat) : Int) + 1) = ((n + m + 2 : Nat) : Int) := i64s (by omega)
      have w3 : IntKind.wrap .i64 (((n + m + 1 : Nat) : Int) - (n : Int)) = ((m + 1 : Nat) : Int) := by rw [i64w (by omega) (by omega)]; omega
      have ec : UInt8.ofNat ((c.toNat : Int)).toNat = c := by rw [Int.toNat_natCast, UInt8.ofNat_toNat]
      have hc8 := u8lt c
      rw [w1, w2, w3, Int.toNat_natCast, Int.toNat_natCast, h2', ec]
      rw [show (10 : Int) = ((10 : Nat) : Int) from rfl, show (34 : Int) = ((34 : Nat) : Int) from rfl, show (92 : Int) = ((92 : Nat) : Int) from rfl, u8I (by decide), u8I (by decide), u8I (by decide), u8I (by decide)]
      have plain : c ≠ 10 → c ≠ 34 → c ≠ 92 → chk (inB (c.toNat : Int) 256 && Nat.ble (acc.length + 1) 140737488355328) (Rest EF 60 Tryd.f60 [0, 0, 1, 0, 1] («ltext.S1» ((n + m + 1 : Nat) : Int) (acc ++ [c]) l (n : Int) es fl)) = some (tokRes l n es fl (textT (textM (c :: r) acc m))) := by
        intro n1 n2 n3
        refine chkI (by rw [inBI (by omega) (by omega), Nat.ble_eq_true_of_le (by omega)]; rfl) ?_
        have := ih (acc ++ [c]) (m + 1) (by omega) (by omega) (by rw [List.length_append]; simp; omega)
        rw [← Nat.add_assoc, h3] at this
        rw [this]
        conv => rhs; rw [textM.eq_def]
        simp only [if_neg n1, if_neg n2, if_neg n3]
      refine bifT (decide_eq_true (by omega)) (chkI (inBI (by omega) (by omega)) ?_)
      refine bifI (fun h => ?_) (fun a1 => bifI (fun hq => chkI (Nat.ble_eq_true_of_le (by omega)) ?_) (fun a2 => bifI (fun hq => ?_) (fun a3 => ?_)))
      · have : c = 10 := by simpa using h
        rw [textM.eq_def]
        simp only [if_pos this, textT]; exact err_leaf (by decide)
      · have hc : c = 34 := by simpa using hq
        have n1 : ¬ c = 10 := by simpa using a1
        have : textM (c :: r) acc m = some (acc, m + 1) := by rw [textM.eq_def]; simp only [if_neg n1, if_pos hc]
        rw [this]
        simp only [textT]
        exact put_leaf (by rw [h.ok]; simp; omega) rfl
      · have hc : c = 92 := by simpa using hq
        have n1 : ¬ c = 10 := by simpa using a1
        have n2 : ¬ c = 34 := by simpa using a2
        cases r with
        | nil =>
          simp only [List.length_nil] at h4
          refine bifF (decide_eq_false (by omega)) ?_
          refine chkI (by rw [inBI (by omega) (by omega), Nat.ble_eq_true_of_le (by omega)]; rfl) ?_
          have := ih (acc ++ [c]) (m + 1) (by omega) (by omega) (by rw [List.length_append]; simp; omega)
          rw [← Nat.add_assoc, h3] at this
          rw [this]
          conv => rhs; rw [textM.eq_def]
          simp only [if_neg n1, if_neg n2, if_pos hc, textM]
        | cons d r =>
          obtain ⟨k1, k2, k3, k4⟩ := drop_cons h3 0
          have ed : UInt8.ofNat ((d.toNat : Int)).toNat = d := by rw [Int.toNat_natCast, UInt8.ofNat_toNat]
          have hd8 := u8lt d
          have hsl := strokeL_len d
          rw [k2, ed]
          have hT : textM (c :: d :: r) acc m = if d = 10 then none else textM r (acc ++ strokeL d) (m + 2) := by rw [textM.eq_def]; simp only [if_neg n1, if_neg n2, if_pos hc]
          refine bifT (decide_eq_true (by omega)) (chkI (inBI (by omega) (by omega)) (chkI (by simp [inU8]; omega) (chkI (Nat.ble_eq_true_of_le (by omega)) (chkI (inBI (by omega) (by omega)) ?_))))
          refine bifI (fun h => ?_) (fun h => ?_)
          · have : d = 10 := by simpa using h
            rw [hT, if_pos this]; exact err_leaf (by decide)
          · have : ¬ d = 10 := by simpa using h
            have ih' := ih (acc ++ strokeL d) (m + 2) (by omega) (by omega) (by rw [List.length_append]; omega)
            rw [← Nat.add_assoc, k3] at ih'
            rw [hT, if_neg this]; exact ih'
      · have n1 : ¬ c = 10 := by simpa using a1
        have n2 : ¬ c = 34 := by simpa using a2
        have n3 : ¬ c = 92 := by simpa using a3
        exact plain n1 n2 n3
theorem text_ok (l : List UInt8) (n : Nat) (es : List (List D)) (fl : Fl) (h : RdOk l n es fl) (hk : okLast es = true) (hn : n < l.length) :
    callInf EF 60 [.c (.ptr (.out 0) 0)] [[.str l, .int .i64 (n : Int), .sl 3 es fl]] = some (tokRes l n es fl (fText (l.drop n) (n : Int) es)) := by
  refine call_by fits_FText rfl rfl ((ltext.r_eq _ _ _ _ _).trans ?_)
  unfold ltext.r
  have h2 := h.len
  rw [i64s (by omega)]
  have := text_loop h (l.length + 1) [] 1 (by omega) (by omega) (by simp)
  rw [this]
  have e : textT (textM (l.drop (n + 1)) [] 1) = fText (l.drop n) (n : Int) es := by
    unfold fText textR textT
    rw [List.drop_drop]
    cases textM (l.drop (n + 1)) [] 1 <;> rfl
  rw [e]
theorem fits_text : FitsAt EF 60 (pTok fText) := fits_tok text_ok

/-! ### pattern -/
theorem fits_FPat : Fits EF FPat := Fits.only fits_put (Fits.only fits_fail (Fits.only fits_begins (Fits.only fits_writeByte (Fits.only fits_string fits_no))))
def patT (n : Nat) : Option (List UInt8 × Nat) → TokR
  | some (S, i) => ⟨0, 4, S, i - n⟩
  | none => ⟨3, 0, [], 0⟩
theorem pat_loop {l : List UInt8} {n : Nat} {es : List (List D)} {fl : Fl} (h : RdOk l n es fl) : ∀ (f i : Nat) (acc : List UInt8) (o : Int), l.length - i < f → i ≤ l.length → n < i → acc.length ≤ 2 * i → -1 ≤ o → o ≤ (i : Int) + 1 →
    Rest EF 62 Tryd.f62 [0, 0, 1, 0, 1, 1] («lpat.S1» o (i : Int) acc l (n : Int) es fl) = some (tokRes l n es fl (patT n (patM (l.drop i) i o acc))) := by
  have h2 := h.len
  intro f
  induction f with
  | zero => intro i acc o hf; omega
  | succ f ih =>
    intro i acc o hf hi hni ha ho1 ho2
    refine rest_by fits_FPat ((lpat.r1_eq _ _ _ _ _ _ _ _).trans ?_)
    unfold lpat.r1
    cases hd : l.drop i with
    | nil =>
      have := drop_nil_len hd hi
      refine bifF (decide_eq_false (by omega)) ?_
      simp only [patM, patT]; exact err_leaf (by decide)
    | cons c r =>
      obtain ⟨h1, h2', h3, h4⟩ := drop_cons hd 0
      have w1 : IntKind.wrap .i64 ((i : Int) + 1) = ((i + 1 : Nat) : Int) := i64s (by omega)
      have w2 : IntKind.wrap .i64 (((i + 1 : Nat) : Int) + 1) = ((i + 2 : Nat) : Int) := i64s (by omega)
      have w3 : IntKind.wrap .i64 (((i + 1 : Nat) : Int) - (n : Int)) = ((i + 1 - n : Nat) : Int) := by rw [i64w (by omega) (by omega)]; omega
      have ec : UInt8.ofNat ((c.toNat : Int)).toNat = c := by rw [Int.toNat_natCast, UInt8.ofNat_toNat]
      have hc8 := u8lt c
      -- the byte is written, and it goes on
      have wr : ∀ (o' : Int) (res : Option (List UInt8 × Nat)), -1 ≤ o' → o' ≤ (i : Int) + 2 → patM r (i + 1) o' (acc ++ [c]) = res → Rest EF 62 Tryd.f62 [1, 1, 0, 0, 1, 0, 0, 1, 0, 1, 1] («lpat.S3» o' (i : Int) (c.toNat : Int) acc l (n : Int) es fl) = some (tokRes l n es fl (patT n res)) := by
        intro o' res k1 k2 hres
        refine rest_by fits_FPat ((lpat.r3_eq _ _ _ _ _ _ _ _ _).trans ?_)
        unfold lpat.r3
        refine chkI (by rw [inBI (by omega) (by omega), Nat.ble_eq_true_of_le (by omega)]; rfl) ?_
        rw [w1, ec]
        have := ih (i + 1) (acc ++ [c]) o' (by omega) (by omega) (by omega) (by rw [List.length_append]; simp; omega) k1 (by omega)
        rw [this, h3, hres]
      rw [w1, Int.toNat_natCast, Int.toNat_natCast, h2']
      rw [show (10 : Int) = ((10 : Nat) : Int) from rfl, show (92 : Int) = ((92 : Nat) : Int) from rfl, u8I (by decide), u8I (by decide), u8I (by decide)]
      refine bifT (decide_eq_true (by omega)) (chkI (inBI (by omega) (by omega)) ?_)
      by_cases c10 : c = 10
      · refine bifT (by simpa using c10) ?_
        rw [patM.eq_def]
        simp only [if_pos c10, patT]; exact err_leaf (by decide)
      refine bifF (by simpa using c10) ?_
      -- behind the stroke
      have tail : ∀ (hx : (if c = 92 then r else []) = [] ∨ ∃ d r', (if c = 92 then r else []) = d :: r' ∧ d = 10), Rest EF 62 Tryd.f62 [1, 1, 1, 0, 0, 1, 0, 0, 1, 0, 0, 1, 0, 1, 1] («lpat.S2» o (i : Int) (c.toNat : Int) false acc l (n : Int) es fl) = some (tokRes l n es fl (patT n (patM (c :: r) i o acc))) := by
        intro hx
        have hP : patM (c :: r) i o acc = if c = 91 ∧ o < 0 then patM r (i + 1) (if begins r [94] then (i : Int) + 2 else (i : Int) + 1) (acc ++ [c]) else if c = 93 ∧ 0 ≤ o ∧ o < (i : Int) then patM r (i + 1) (-1) (acc ++ [c]) else if c = 47 ∧ o < 0 then some (acc, i + 1) else patM r (i + 1) o (acc ++ [c]) := by
          rw [patM.eq_def]
          simp only [if_neg c10]
          rcases hx with hx | ⟨d, r', hx, hd10⟩
          · rw [hx]
          · rw [hx]
            have c92 : c = 92 := by
              by_cases e : c = 92
              · exact e
              · rw [if_neg e] at hx; cases hx
            simp only [if_pos hd10, c92]
            rfl
        refine rest_by fits_FPat ((lpat.r2_eq _ _ _ _ _ _ _ _ _ _).trans ?_)
        unfold lpat.r2
        refine bifF rfl ?_
        rw [show (91 : Int) = ((91 : Nat) : Int) from rfl, u8I (by decide)]
        have s4 : ∀ b : Bool, b = (decide (c = 91) && decide (o < 0)) → Rest EF 62 Tryd.f62 [1, 1, 1, 1, 1, 0, 0, 1, 0, 0, 1, 0, 0, 1, 0, 1, 1] («lpat.S4» o (i : Int) (c.toNat : Int) b acc l (n : Int) es fl) = some (tokRes l n es fl (patT n (patM (c :: r) i o acc))) := by
          intro b hb
          refine rest_by fits_FPat ((lpat.r4_eq _ _ _ _ _ _ _ _ _ _).trans ?_)
          unfold lpat.r4
          cases b with
          | true =>
            have h91 : c = 91 ∧ o < 0 := by simpa using hb.symm
            rw [if_pos h91] at hP
            refine bifT rfl (chkI (by rw [w1]; simp; omega) ?_)
            rw [w1, w2, Int.toNat_natCast, Int.toNat_natCast, List.take_length, h3, hP]
            refine bifI (fun hq => ?_) (fun hq => ?_)
            · exact wr _ _ (by omega) (by omega) (by rw [hq]; rfl)
            · exact wr _ _ (by omega) (by omega) (by rw [hq]; rfl)
          | false =>
            have n91 : ¬ (c = 91 ∧ o < 0) := by simpa using hb.symm
            rw [if_neg n91] at hP
            refine bifF rfl ?_
            rw [show (93 : Int) = ((93 : Nat) : Int) from rfl, u8I (by decide)]
            have s5 : ∀ b : Bool, b = (decide (c = 93) && decide (0 ≤ o ∧ o < (i : Int))) → Rest EF 62 Tryd.f62 [1, 1, 1, 1, 1, 1, 1, 0, 0, 1, 0, 0, 1, 0, 0, 1, 0, 1, 1] («lpat.S5» o (i : Int) (c.toNat : Int) b acc l (n : Int) es fl) = some (tokRes l n es fl (patT n (patM (c :: r) i o acc))) := by
              intro b hb
              refine rest_by fits_FPat ((lpat.r5_eq _ _ _ _ _ _ _ _ _ _).trans ?_)
              unfold lpat.r5
              cases b with
              | true =>
                have h93 : c = 93 ∧ 0 ≤ o ∧ o < (i : Int) := by simpa using hb.symm
                rw [if_pos h93] at hP
                refine bifT rfl ?_
                rw [hP]
                exact wr _ _ (by omega) (by omega) rfl
              | false =>
                have n93 : ¬ (c = 93 ∧ 0 ≤ o ∧ o < (i : Int)) := by simpa using hb.symm
                rw [if_neg n93] at hP
                refine bifF rfl ?_
                rw [show (47 : Int) = ((47 : Nat) : Int) from rfl, u8I (by decide)]
                have s6 : ∀ b : Bool, b = (decide (c = 47) && decide (o < 0)) → Rest EF 62 Tryd.f62 [1, 1, 1, 1, 1, 1, 1, 1, 1, 0, 0, 1, 0, 0, 1, 0, 0, 1, 0, 1, 1] («lpat.S6» o (i : Int) (c.toNat : Int) b acc l (n : Int) es fl) = some (tokRes l n es fl (patT n (patM (c :: r) i o acc))) := by
                  intro b hb
                  refine rest_by fits_FPat ((lpat.r6_eq _ _ _ _ _ _ _ _ _ _).trans ?_)
                  unfold lpat.r6
                  cases b with
                  | true =>
                    have h47 : c = 47 ∧ o < 0 := by simpa using hb.symm
                    rw [if_pos h47] at hP
                    rw [hP, w1, w3]
                    simp only [patT]
                    exact bifT rfl (chkI (Nat.ble_eq_true_of_le (by omega)) (put_leaf (by rw [h.ok]; simp; omega) rfl))
                  | false =>
                    have n47 : ¬ (c = 47 ∧ o < 0) := by simpa using hb.symm
                    rw [if_neg n47] at hP
                    rw [hP]
                    exact bifF rfl (wr _ _ ho1 (by omega) rfl)
                refine bifI (fun hq => ?_) (fun hq => ?_)
                · have : c = 47 := by simpa using hq
                  exact s6 _ (by rw [decide_eq_true this, Bool.true_and])
                · have : ¬ c = 47 := by simpa using hq
                  exact s6 _ (by rw [decide_eq_false this, Bool.false_and])
            refine bifI (fun hq => ?_) (fun hq => ?_)
            · have : c = 93 := by simpa using hq
              refine bifI (fun hz => ?_) (fun hz => ?_)
              · have hz' := of_decide_eq_true hz
                exact s5 _ (by rw [decide_eq_true this, Bool.true_and]; congr 1; exact propext ⟨fun h => ⟨hz', h⟩, fun h => h.2⟩)
              · have hz' := of_decide_eq_false hz
                exact s5 _ (by rw [decide_eq_false (p := 0 ≤ o ∧ o < (i : Int)) fun h => hz' h.1, Bool.and_false])
            · have : ¬ c = 93 := by simpa using hq
              exact s5 _ (by rw [decide_eq_false this, Bool.false_and])
        refine bifI (fun hq => ?_) (fun hq => ?_)
        · have : c = 91 := by simpa using hq
          exact s4 _ (by rw [decide_eq_true this, Bool.true_and])
        · have : ¬ c = 91 := by simpa using hq
          exact s4 _ (by rw [decide_eq_false this, Bool.false_and])
      by_cases c92 : c = 92
      · refine bifT (by simpa using c92) ?_
        cases r with
        | nil =>
          simp only [List.length_nil] at h4
          exact bifF (decide_eq_false (by omega)) (tail (.inl (by rw [if_pos c92])))
        | cons d r =>
          obtain ⟨k1, k2, k3, k4⟩ := drop_cons h3 0
          refine bifT (decide_eq_true (by omega)) (chkI (inBI (by omega) (by omega)) ?_)
          rw [k2]
          by_cases d10 : d = 10
          · have : (!(d == UInt8.ofNat 10)) = false := by simpa using d10
            rw [this]
            exact tail (.inr ⟨d, r, by rw [if_pos c92], d10⟩)
          · have hnd : (!(d == UInt8.ofNat 10)) = true := by simpa using d10
            rw [hnd]
            have hP : patM (c :: d :: r) i o acc = patM r (i + 2) o (acc ++ (if d = 47 then [] else [92]) ++ [d]) := by
              rw [patM.eq_def]
              simp only [if_neg c10, if_pos c92, if_neg d10]
            rw [hP]
            have hd8 := u8lt d
            have ed : UInt8.ofNat ((d.toNat : Int)).toNat = d := by rw [Int.toNat_natCast, UInt8.ofNat_toNat]
            have wr2 : ∀ acc2 : List UInt8, acc2.length ≤ 2 * i + 2 → Rest EF 62 Tryd.f62 [1, 1, 0, 0, 1, 0, 0, 1, 0, 1, 1] («lpat.S3» o ((i + 1 : Nat) : Int) (d.toNat : Int) acc2 l (n : Int) es fl) = some (tokRes l n es fl (patT n (patM r (i + 2) o (acc2 ++ [d])))) := by
              intro acc2 hl2
              refine rest_by fits_FPat ((lpat.r3_eq _ _ _ _ _ _ _ _ _).trans ?_)
              unfold lpat.r3
              refine chkI (by rw [inBI (by omega) (by omega), Nat.ble_eq_true_of_le (by omega)]; rfl) ?_
              rw [w2, ed]
              have := ih (i + 2) (acc2 ++ [d]) o (by omega) (by omega) (by omega) (by rw [List.length_append]; simp; omega) ho1 (by omega)
              rw [this]
              have e2 : l.drop (i + 2) = r := by rw [show i + 2 = i + 1 + 1 by omega]; exact k3
              rw [e2]
            refine rest_by fits_FPat ((lpat.r2_eq _ _ _ _ _ _ _ _ _ _).trans ?_)
            unfold lpat.r2
            rw [w1, Int.toNat_natCast, k2, show (47 : Int) = ((47 : Nat) : Int) from rfl, u8I (by decide)]
            refine bifT rfl (chkI (inBI (by omega) (by omega)) ?_)
            refine bifI (fun hq => chkI (Nat.ble_eq_true_of_le (by omega)) (chkI (inBI (by omega) (by omega)) ?_)) (fun hq => chkI (inBI (by omega) (by omega)) ?_)
            · have : ¬ d = 47 := by simpa using hq
              rw [if_neg this]
              exact wr2 _ (by rw [List.length_append]; simp; omega)
            · have : d = 47 := by simpa using hq
              rw [if_pos this, List.append_nil]
              exact wr2 _ (by omega)
      · exact bifF (by simpa using c92) (tail (.inl (by rw [if_neg c92])))
theorem pat_ok (l : List UInt8) (n : Nat) (es : List (List D)) (fl : Fl) (h : RdOk l n es fl) (hk : okLast es = true) (hn : n < l.length) :
    callInf EF 62 [.c (.ptr (.out 0) 0)] [[.str l, .int .i64 (n : Int), .sl 3 es fl]] = some (tokRes l n es fl (fPat (l.drop n) (n : Int) es)) := by
  refine call_by fits_FPat rfl rfl ((lpat.r_eq _ _ _ _ _).trans ?_)
  unfold lpat.r
  have h2 := h.len
  rw [i64s (by omega)]
  have := pat_loop h (l.length + 1) (n + 1) [] (-1) (by omega) (by omega) (by omega) (by simp) (by omega) (by omega)
  rw [this]
  have e : patT n (patM (l.drop (n + 1)) (n + 1) (-1) []) = fPat (l.drop n) (n : Int) es := by
    unfold fPat patR patT
    rw [List.drop_drop, Int.toNat_natCast]
    cases patM (l.drop (n + 1)) (n + 1) (-1) [] <;> rfl
  rw [e]
theorem fits_pat : FitsAt EF 62 (pTok fPat) := fits_tok pat_ok

end Go.Proofs.YtmbhohnoolflbaaDoorX
