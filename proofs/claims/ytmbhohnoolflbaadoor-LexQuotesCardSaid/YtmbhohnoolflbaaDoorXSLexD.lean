/-
  WORDS OF PROGRAMS: lex.Words answers as told.
-/
import Derived.Test.YtmbhohnoolflbaaDoorXSLexC
set_option linter.unusedVariables false
set_option linter.unusedSimpArgs false
set_option maxRecDepth 100000
namespace Go.Proofs.YtmbhohnoolflbaaDoorX

/-! ### sign -/
theorem fits_FSign : Fits EF FSign := Fits.only fits_put (Fits.only fits_fail (Fits.only fits_fields (Fits.only fits_lscon (Fits.only fits_indexByte fits_no))))
theorem signs_all : ((List.range 256).all fun k => decide (Lib.indexByte signsT (UInt8.ofNat k) < 0) == !signsT.contains (UInt8.ofNat k)) = true := by kernel_rfl
theorem signs_ok (c : UInt8) : decide (Lib.indexByte signsT c < 0) = !signsT.contains c := by
  have := List.all_eq_true.1 signs_all c.toNat (by simpa using u8lt c)
  rw [UInt8.ofNat_toNat] at this
  exact eq_of_beq this
theorem no_blank (d : UInt8) : pairsL.contains [32, d] = false := by
  simp [pairsL]
theorem sign_ok (l : List UInt8) (n : Nat) (es : List (List D)) (fl : Fl) (h : RdOk l n es fl) (hk : okLast es = true) (hn : n < l.length) :
    callInf EF 63 [.c (.ptr (.out 0) 0)] [[.str l, .int .i64 (n : Int), .sl 3 es fl]] = some (tokRes l n es fl (fSign (l.drop n) (n : Int) es)) := by
  refine call_by fits_FSign rfl rfl ((lsign.r_eq _ _ _ _ _).trans ?_)
  unfold lsign.r fSign signR
  have h2 := h.len
  cases hd : l.drop n with
  | nil => have := drop_nil_len hd h.at'; omega
  | cons c r =>
    obtain ⟨k1, k2, k3, k4⟩ := drop_cons hd 0
    have e0 : (c :: r).getD 0 0 = c := rfl
    have ec : UInt8.ofNat ((c.toNat : Int)).toNat = c := by rw [Int.toNat_natCast, UInt8.ofNat_toNat]
    simp only [Int.toNat_natCast, List.take_length, hd, List.drop_zero, Int.toNat_zero, e0, UInt8.ofNat_toNat, signs_ok, List.headD_cons]
    refine chkI (by simp; omega) ?_
    have hin : inB 0 (c :: r).length = true := inBI (by omega) (by simp only [List.length_cons]; omega)
    have hck : (okR l (n : Int) es fl && true && true) = true := by rw [h.ok]; rfl
    have h1l : decide ((1 : Int) ≤ (((c :: r).length : Nat) : Int)) = true := decide_eq_true (by simp only [List.length_cons]; omega)
    -- one sign
    by_cases hp : 1 < (c :: r).length ∧ pairsL.contains ((c :: r).take 2) = true
    · rw [if_pos hp]
      have h2l : decide ((2 : Int) ≤ (((c :: r).length : Nat) : Int)) = true := decide_eq_true (by omega)
      refine bifT (decide_eq_true (by omega)) (chkI hin (bifT ?_ (chkI h2l (bifT hp.2 (chkI h2l (put_leaf hck rfl))))))
      have hne : c ≠ 32 := by
        intro e
        subst e
        cases r with
        | nil => simp at hp
        | cons d r => have := no_blank d; rw [List.take_succ_cons, List.take_succ_cons, List.take_zero, this] at hp; exact absurd hp.2 (by simp)
      rw [show (32 : Int) = ((32 : Nat) : Int) from rfl, u8I (by decide)]
      simpa using hne
    · rw [if_neg hp]
      have one : chk (inB 0 (c :: r).length) (bif !signsT.contains c then some (.pan 45 (.agg [.int .i64 (n : Int), .int .i64 4]) [[.str l, .int .i64 (n : Int), .sl 3 es fl]]) else chk (decide ((1 : Int) ≤ (((c :: r).length : Nat) : Int))) (chk (okR l (n : Int) es fl && true && true) (bif Nat.beq es.length 3000 then some (.pan 45 (.agg [.int .i64 (n : Int), .int .i64 2]) [[.str l, .int .i64 (n : Int), .sl 3 es fl]]) else some (.ret [] [[.str l, .int .i64 ((n : Int) + 1), .sl 3 (es ++ [[.int .i64 9, .str ((c :: r).take 1), .int .i64 (n : Int)]]) .own]])))) =
          some (tokRes l n es fl (if signsT.contains c = true then ⟨0, 9, (c :: r).take 1, 1⟩ else ⟨4, 0, [], 0⟩)) := by
        refine chkI hin ?_
        cases hs : signsT.contains c with
        | true => exact bifF rfl (chkI h1l (by rw [if_pos rfl]; exact put_leaf hck rfl))
        | false => exact bifT rfl (by rw [if_neg (by simp)]; exact err_leaf (by decide))
      refine bifI (fun hq => chkI hin (bifI (fun hb => chkI (decide_eq_true (by have := of_decide_eq_true hq; omega)) (bifI (fun hc => ?_) (fun hc => one))) (fun hb => one))) (fun hq => one)
      exact absurd ⟨by have := of_decide_eq_true hq; omega, hc⟩ hp
theorem fits_sign : FitsAt EF 63 (pTok fSign) := fits_tok sign_ok

/-! ### next -/
theorem fits_FNext : Fits EF FNext := Fits.only fits_put (Fits.only fits_name (Fits.only fits_text (Fits.only fits_pat (Fits.only fits_sign (Fits.only fits_num (Fits.only fits_opd (Fits.only fits_let (Fits.only fits_dig fits_no))))))))
theorem tok_leaf {l : List UInt8} {n : Nat} {es : List (List D)} {fl : Fl} {t : TokR} {b : Bool} (hb : b = true) :
    chk b (bif terr es t == 0 then some (.ret [] [[.str l, .int .i64 ((n : Int) + (t.n : Int)), .sl 3 (es ++ [[.int .i64 t.k, .str t.S, .int .i64 (n : Int)]]) .own]])
      else some (.pan 45 (.agg [.int .i64 (n : Int), .int .i64 (terr es t)]) [[.str l, .int .i64 (n : Int), .sl 3 es fl]])) = some (tokRes l n es fl t) := by
  rw [hb]
  unfold tokRes
  cases terr es t == 0 <;> rfl
theorem next_ok (l : List UInt8) (n : Nat) (es : List (List D)) (fl : Fl) (h : RdOk l n es fl) (hk : okLast es = true) (hn : n < l.length) :
    callInf EF 33 [.c (.ptr (.out 0) 0)] [[.str l, .int .i64 (n : Int), .sl 3 es fl]] = some (tokRes l n es fl (fNext (l.drop n) (n : Int) es)) := by
  refine call_by fits_FNext rfl rfl ((lnext.r_eq _ _ _ _ _).trans ?_)
  unfold lnext.r
  have h2 := h.len
  have ea : at' l (n : Int) = l.drop n := by simp [at']
  cases hd : l.drop n with
  | nil => have := drop_nil_len hd h.at'; omega
  | cons c r =>
    obtain ⟨k1, k2, k3, k4⟩ := drop_cons hd 0
    have e0 : (c :: r).getD 0 0 = c := rfl
    simp only [Int.toNat_natCast, List.take_length, ea, hd, e0, List.length_take]
    have hin : inB 0 (c :: r).length = true := inBI (by omega) (by simp only [List.length_cons]; omega)
    have hck : (okR l (n : Int) es fl && true && true) = true := by rw [h.ok]; rfl
    have hcl : (okR l (n : Int) es fl && okLast es && decide ((n : Int) < ((l.length : Nat) : Int))) = true := by rw [h.ok, hk, decide_eq_true (by omega)]; rfl
    have hco : (okR l (n : Int) es fl && okLast es) = true := by rw [h.ok, hk]; rfl
    have hnum := numN_le (c :: r)
    have hmin : min (numN (c :: r)) (c :: r).length = numN (c :: r) := by omega
    have hcn : (okR l (n : Int) es fl && true && decide (((min (numN (c :: r)) (c :: r).length : Nat) : Int) ≤ 8000)) = true := by rw [h.ok, hmin]; simp only [List.length_cons] at hnum; simp; omega
    have hlen8 : Nat.ble (c :: r).length 8000 = true := Nat.ble_eq_true_of_le (by simp only [List.length_cons]; omega)
    rw [show (10 : Int) = ((10 : Nat) : Int) from rfl, show (46 : Int) = ((46 : Nat) : Int) from rfl, show (34 : Int) = ((34 : Nat) : Int) from rfl, show (47 : Int) = ((47 : Nat) : Int) from rfl, u8I (by decide), u8I (by decide), u8I (by decide), u8I (by decide)]
    refine chkI (by simp; omega) (chkI hin ?_)
    have hN : fNext (c :: r) (n : Int) es = nextR (opdB es) (c :: r) n := by simp only [fNext, Int.toNat_natCast]
    rw [hN]
    simp only [nextR]
    refine bifI (fun hq => ?_) (fun q1 => ?_)
    · have : c = 10 := by simpa using hq
      rw [if_pos this]; exact put_leaf hck rfl
    have n10 : ¬ c = 10 := by simpa using q1
    rw [if_neg n10]
    refine bifI (fun hq => ?_) (fun q2 => ?_)
    · have : isLet (bI c) = true := hq
      rw [if_pos this]; exact tok_leaf hcl
    have nlet : ¬ isLet (bI c) = true := by rw [show isLet (bI c) = false from q2]; simp
    rw [if_neg nlet]
    have num : (isDig (bI c) || (c == 46 && isDig (bI (r.headD 0)))) = true → chk (Nat.ble (c :: r).length 8000) (chk (okR l (n : Int) es fl && true && decide (((min (numN (c :: r)) (c :: r).length : Nat) : Int) ≤ 8000)) (bif Nat.beq es.length 3000 then some (.pan 45 (.agg [.int .i64 (n : Int), .int .i64 2]) [[.str l, .int .i64 (n : Int), .sl 3 es fl]]) else some (.ret [] [[.str l, .int .i64 ((n : Int) + ((min (numN (c :: r)) (c :: r).length : Nat) : Int)), .sl 3 (es ++ [[.int .i64 2, .str ((c :: r).take (numN (c :: r))), .int .i64 (n : Int)]]) .own]]))) =
        some (tokRes l n es fl (if (isDig (bI c) || (c == 46 && isDig (bI (r.headD 0)))) = true then numR (c :: r) else if c = 34 then textR (c :: r) else if c = 47 ∧ opdB es = true then patR (c :: r) n else signR (c :: r))) := by
      intro hq
      rw [if_pos hq]
      exact chkI hlen8 (put_leaf hcn (by rw [hmin]))
    have rest : (isDig (bI c) || (c == 46 && isDig (bI (r.headD 0)))) = false → (bif c == UInt8.ofNat 34 then chk (okR l (n : Int) es fl && okLast es && decide ((n : Int) < ((l.length : Nat) : Int))) (bif terr es (fText (c :: r) (n : Int) es) == 0 then some (.ret [] [[.str l, .int .i64 ((n : Int) + ((fText (c :: r) (n : Int) es).n : Int)), .sl 3 (es ++ [[.int .i64 (fText (c :: r) (n : Int) es).k, .str (fText (c :: r) (n : Int) es).S, .int .i64 (n : Int)]]) .own]]) else some (.pan 45 (.agg [.int .i64 (n : Int), .int .i64 (terr es (fText (c :: r) (n : Int) es))]) [[.str l, .int .i64 (n : Int), .sl 3 es fl]]))
        else bif c == UInt8.ofNat 47 then chk (okR l (n : Int) es fl && okLast es) (bif opdB es then chk (okR l (n : Int) es fl && okLast es && decide ((n : Int) < ((l.length : Nat) : Int))) (bif terr es (fPat (c :: r) (n : Int) es) == 0 then some (.ret [] [[.str l, .int .i64 ((n : Int) + ((fPat (c :: r) (n : Int) es).n : Int)), .sl 3 (es ++ [[.int .i64 (fPat (c :: r) (n : Int) es).k, .str (fPat (c :: r) (n : Int) es).S, .int .i64 (n : Int)]]) .own]]) else some (.pan 45 (.agg [.int .i64 (n : Int), .int .i64 (terr es (fPat (c :: r) (n : Int) es))]) [[.str l, .int .i64 (n : Int), .sl 3 es fl]]))
          else chk (okR l (n : Int) es fl && okLast es && decide ((n : Int) < ((l.length : Nat) : Int))) (bif terr es (fSign (c :: r) (n : Int) es) == 0 then some (.ret [] [[.str l, .int .i64 ((n : Int) + ((fSign (c :: r) (n : Int) es).n : Int)), .sl 3 (es ++ [[.int .i64 (fSign (c :: r) (n : Int) es).k, .str (fSign (c :: r) (n : Int) es).S, .int .i64 (n : Int)]]) .own]]) else some (.pan 45 (.agg [.int .i64 (n : Int), .int .i64 (terr es (fSign (c :: r) (n : Int) es))]) [[.str l, .int .i64 (n : Int), .sl 3 es fl]])))
        else chk (okR l (n : Int) es fl && okLast es && decide ((n : Int) < ((l.length : Nat) : Int))) (bif terr es (fSign (c :: r) (n : Int) es) == 0 then some (.ret [] [[.str l, .int .i64 ((n : Int) + ((fSign (c :: r) (n : Int) es).n : Int)), .sl 3 (es ++ [[.int .i64 (fSign (c :: r) (n : Int) es).k, .str (fSign (c :: r) (n : Int) es).S, .int .i64 (n : Int)]]) .own]]) else some (.pan 45 (.agg [.int .i64 (n : Int), .int .i64 (terr es (fSign (c :: r) (n : Int) es))]) [[.str l, .int .i64 (n : Int), .sl 3 es fl]]))) =
        some (tokRes l n es fl (if (isDig (bI c) || (c == 46 && isDig (bI (r.headD 0)))) = true then numR (c :: r) else if c = 34 then textR (c :: r) else if c = 47 ∧ opdB es = true then patR (c :: r) n else signR (c :: r))) := by
      intro hq
      rw [if_neg (by rw [hq]; simp)]
      refine bifI (fun hz => ?_) (fun hz => bifI (fun hy => chkI hco (bifI (fun hx => ?_) (fun hx => ?_))) (fun hy => ?_))
      · have : c = 34 := by simpa using hz
        rw [if_pos this]; exact tok_leaf hcl
      · have n34 : ¬ c = 34 := by simpa using hz
        have : c = 47 := by simpa using hy
        rw [if_neg n34, if_pos ⟨this, hx⟩]; exact tok_leaf hcl
      · have n34 : ¬ c = 34 := by simpa using hz
        rw [if_neg n34, if_neg (fun h => by rw [hx] at h; simp at h)]; exact tok_leaf hcl
      · have n34 : ¬ c = 34 := by simpa using hz
        have n47 : ¬ c = 47 := by simpa using hy
        rw [if_neg n34, if_neg (fun h => n47 h.1)]; exact tok_leaf hcl
    refine bifI (fun hq => num ?_) (fun q3 => bifI (fun hq => bifI (fun hz => ?_) (fun hz => rest ?_)) (fun hq => rest ?_))
    · rw [show isDig (bI c) = true from hq, Bool.true_or]
    · cases r with
      | nil => simp at hz
      | cons d r =>
        have e1 : (c :: d :: r).getD 1 0 = d := rfl
        refine chkI (inBI (by omega) (by simp only [List.length_cons]; omega)) ?_
        have hs46 : (c == 46) = true := hq
        refine bifI (fun hw => num ?_) (fun hw => rest ?_)
        · rw [e1] at hw
          rw [hs46, List.headD_cons, show isDig (bI d) = true from hw, Bool.true_and, Bool.or_true]
        · rw [e1] at hw
          rw [show isDig (bI c) = false from q3, List.headD_cons, show isDig (bI d) = false from hw, Bool.and_false, Bool.or_false]
    · have hr0 : r = [] := by
        cases r with
        | nil => rfl
        | cons d r => have := of_decide_eq_false hz; simp only [List.length_cons] at this; omega
      subst hr0
      rw [show isDig (bI c) = false from q3, Bool.false_or, List.headD_nil, show isDig (bI 0) = false from rfl, Bool.and_false]
    · have : (c == 46) = false := hq
      rw [show isDig (bI c) = false from q3, this, Bool.false_and, Bool.or_false]
theorem fits_next : FitsAt EF 33 (pTok fNext) := fits_tok next_ok

end Go.Proofs.YtmbhohnoolflbaaDoorX
