/-
  WORDS OF PROGRAMS: the reader's methods answer as told.
-/
import Derived.Test.YtmbhohnoolflbaaDoorXGLexB
import Derived.Test.YtmbhohnoolflbaaDoorXSLexA
set_option linter.unusedVariables false
set_option linter.unusedSimpArgs false
set_option maxRecDepth 100000
namespace Go.Proofs.YtmbhohnoolflbaaDoorX

/-- How a method ends that reads one token. -/
def tokRes (l : List UInt8) (n : Nat) (es : List (List D)) (fl : Fl) (t : TokR) : Res :=
  bif terr es t == 0 then .ret [] [[.str l, .int .i64 ((n : Int) + (t.n : Int)), .sl 3 (es ++ [[.int .i64 t.k, .str t.S, .int .i64 (n : Int)]]) .own]]
  else .pan 45 (.agg [.int .i64 (n : Int), .int .i64 (terr es t)]) [[.str l, .int .i64 (n : Int), .sl 3 es fl]]
structure RdOk (l : List UInt8) (n : Nat) (es : List (List D)) (fl : Fl) : Prop where
  at' : n ≤ l.length
  len : l.length ≤ 8000
  cnt : es.length ≤ 3000
  fl : fl.ok = true
theorem okR_inv {l : List UInt8} {a : Int} {es : List (List D)} {fl : Fl} (h : okR l a es fl = true) : ∃ n : Nat, a = (n : Int) ∧ RdOk l n es fl := by
  simp only [okR, Bool.and_eq_true, decide_eq_true_eq] at h
  obtain ⟨n, rfl⟩ := Int.eq_ofNat_of_zero_le h.1.1.1.1
  exact ⟨n, rfl, by omega, Nat.le_of_ble_eq_true h.1.1.2, Nat.le_of_ble_eq_true h.1.2, h.2⟩
theorem RdOk.ok {l : List UInt8} {n : Nat} {es : List (List D)} {fl : Fl} (h : RdOk l n es fl) : okR l (n : Int) es fl = true := by
  have := h.at'
  simp only [okR, Nat.ble_eq_true_of_le h.len, Nat.ble_eq_true_of_le h.cnt, h.fl, Bool.and_true, Bool.and_eq_true, decide_eq_true_eq]
  omega

theorem fits_fail : FitsAt EF 64 pFail := by
  intro a b κ κp r h
  unfold pFail at h
  split at h
  · exact ⟨_, call_by fits_no rfl rfl ((lfail.r_eq _ _ _ _ _ _).trans rfl), h⟩
  · cases h
theorem put_ok {l : List UInt8} {n : Nat} {es : List (List D)} {fl : Fl} {k : Int} {S : List UInt8} {m : Int} (h : RdOk l n es fl) (hm : 0 ≤ m) (hm2 : m ≤ 8000) :
    callInf EF 34 [.c (.ptr (.out 0) 0), .c (.int .i64 k), .c (.str S), .c (.int .i64 m)] [[.str l, .int .i64 (n : Int), .sl 3 es fl]] =
      some (bif Nat.beq es.length 3000 then .pan 45 (.agg [.int .i64 (n : Int), .int .i64 2]) [[.str l, .int .i64 (n : Int), .sl 3 es fl]]
        else .ret [] [[.str l, .int .i64 ((n : Int) + m), .sl 3 (es ++ [[.int .i64 k, .str S, .int .i64 (n : Int)]]) .own]]) := by
  refine call_by (Fits.only fits_fail fits_no) rfl rfl ((lput.r_eq _ _ _ _ _ _ _ _).trans ?_)
  unfold lput.r
  have h1 := h.at'; have h2 := h.len; have h3 := h.cnt
  have w1 : IntKind.wrap .i64 ((n : Int) + m) = (n : Int) + m := i64w (by omega) (by omega)
  have hb : (((es.length : Nat) : Int) == 3000) = Nat.beq es.length 3000 := by
    rw [Bool.eq_iff_iff]
    simp only [beq_iff_eq]
    exact ⟨fun h => by rw [show es.length = 3000 by omega]; rfl, fun h => by have := Nat.eq_of_beq_eq_true h; omega⟩
  rw [hb, w1]
  cases Nat.beq es.length 3000 with
  | true => rfl
  | false => exact bifF rfl (chkI (by rw [h.fl]; rfl) (chkI (decide_eq_true (by simp only [List.length_cons, List.length_nil]; omega)) rfl))
theorem fits_put : FitsAt EF 34 pPut := by
  intro a b κ κp r h
  unfold pPut at h
  split at h
  · rename_i k S m l a es fl
    obtain ⟨hc, h1⟩ := chk_inv h
    simp only [Bool.and_eq_true, decide_eq_true_eq] at hc
    obtain ⟨n, rfl, hr⟩ := okR_inv hc.1.1
    refine ⟨_, put_ok hr hc.1.2 hc.2, ?_⟩
    cases hb : Nat.beq es.length 3000 with
    | true => rw [hb] at h1; exact h1
    | false => rw [hb] at h1; exact h1
  · cases h

theorem getD_last {α : Type} : ∀ {es : List α} {e : α}, es.getLast? = some e → ∀ d, es.getD (es.length - 1) d = e
  | es, e, h, d => by
    rw [List.getLast?_eq_getElem?] at h
    rw [List.getD_eq_getElem?_getD, h]; rfl
theorem opd_ok {l : List UInt8} {n : Nat} {es : List (List D)} {fl : Fl} (h : RdOk l n es fl) (hk : okLast es = true) :
    callInf EF 61 [.c (.ptr (.out 0) 0)] [[.str l, .int .i64 (n : Int), .sl 3 es fl]] = some (.ret [.c (.bool (opdB es))] [[.str l, .int .i64 (n : Int), .sl 3 es fl]]) := by
  refine call_by (Fits.only fits_among fits_no) rfl rfl ((lopd.r_eq _ _ _ _ _).trans ?_)
  unfold lopd.r
  have h3 := h.cnt
  cases hg : es.getLast? with
  | none =>
    have : es = [] := by rw [List.getLast?_eq_none_iff] at hg; exact hg
    subst this
    exact bifT rfl rfl
  | some e =>
    simp only [okLast, hg] at hk
    unfold okTok at hk
    split at hk
    case h_2 => cases hk
    rename_i k S a
    have hs := Nat.le_of_ble_eq_true hk
    have hne : es.length ≠ 0 := by intro e0; have : es = [] := List.eq_nil_of_length_eq_zero e0; subst this; cases hg
    have w1 : IntKind.wrap .i64 (((es.length : Nat) : Int) - 1) = ((es.length - 1 : Nat) : Int) := by rw [i64w (by omega) (by omega)]; omega
    have hd := getD_last hg []
    refine bifF (by rw [beq_eq_false_iff_ne]; omega) ?_
    rw [w1, Int.toNat_natCast, hd]
    refine chkI (inBI (by omega) (by omega)) (chkI rfl (chkI rfl (chkI rfl (onOI (.int .i64 k) rfl (rII k rfl ?_)))))
    have fin : ∀ {x : R}, (onO (nth (List.take 0 ([C.int .i64 0, C.str [], C.int .i64 0]) ++ List.map D.toC (List.take 3 (List.drop 0 [D.int .i64 k, D.str S, D.int .i64 a])) ++ List.drop 3 ([C.int .i64 0, C.str [], C.int .i64 0])) 1) fun xv => rS xv fun sv => chk (Nat.ble sv.length 1000000) (some (.ret [.c (.bool (!amongB opsT sv))] [[.str l, .int .i64 (n : Int), .sl 3 es fl]]))) = some (.ret [.c (.bool (!amongB opsT S))] [[.str l, .int .i64 (n : Int), .sl 3 es fl]]) := fun {x} => by
      refine onOI (.str S) rfl ?_
      rw [rS_str]
      exact chkI (Nat.ble_eq_true_of_le hs) rfl
    have e2 : opdB es = opdTok [D.int .i64 k, D.str S, D.int .i64 a] := by simp only [opdB, hg]
    rw [e2]
    simp only [opdTok]
    by_cases k2 : k = 2
    · subst k2; exact bifT rfl (bifT rfl rfl)
    · refine bifF (by simpa using k2) ?_
      by_cases k3 : k = 3
      · subst k3; exact bifT rfl (bifT rfl rfl)
      · refine bifF (by simpa using k3) ?_
        by_cases k5 : k = 5
        · subst k5; exact bifT rfl (bifT rfl rfl)
        · refine bifF (by simpa using k5) ?_
          by_cases k8 : k = 8
          · subst k8; exact bifT rfl rfl
          · refine bifF (by simpa using k8) ?_
            rw [if_neg (by omega)]
            by_cases k9 : k = 9
            · subst k9; exact bifT rfl (fin (x := none))
            · refine bifF (by simpa using k9) ?_
              rw [if_neg k9]

theorem fits_opd : FitsAt EF 61 pOperand := by
  intro a b κ κp r h
  unfold pOperand at h
  split at h
  · obtain ⟨hc, h1⟩ := chk_inv h
    simp only [Bool.and_eq_true] at hc
    obtain ⟨n, rfl, hr⟩ := okR_inv hc.1
    exact ⟨_, opd_ok hr hc.2, h1⟩
  · cases h

/-! ### skip -/
theorem runCom_le (s : List UInt8) : (runCom s).length ≤ s.length := (List.takeWhile_sublist _).length_le
theorem runInn_le (s : List UInt8) : (runInn s).length ≤ s.length := (List.takeWhile_sublist _).length_le
theorem runDig_le (s : List UInt8) : (runDig s).length ≤ s.length := (List.takeWhile_sublist _).length_le
theorem u8I {c : UInt8} {k : Nat} (hk : k < 256) : ((((c.toNat : Nat) : Int)) == ((k : Nat) : Int)) = (c == UInt8.ofNat k) := u8eqI c k hk
theorem begins_len {a b : List UInt8} (h : begins a b = true) : b.length ≤ a.length := by
  simp only [begins, Bool.and_eq_true] at h
  exact Nat.le_of_ble_eq_true h.1
theorem skN_le : ∀ (f : Nat) (s : List UInt8), skN f s ≤ s.length
  | 0, _ => Nat.zero_le _
  | f + 1, [] => Nat.zero_le _
  | f + 1, c :: r => by
    simp only [skN]
    split
    · have := skN_le f r; simp only [List.length_cons]; omega
    · split
      · rename_i hb
        have h1 := begins_len hb
        have h2 := skN_le f (r.drop 1)
        simp only [List.length_cons, List.length_drop, List.length_nil] at *
        omega
      · split
        · have h1 := runCom_le (c :: r)
          have h2 := skN_le f ((c :: r).drop (runCom (c :: r)).length)
          simp only [List.length_drop, List.length_cons] at *
          omega
        · omega
theorem skipN_le (s : List UInt8) : skipN s ≤ s.length := skN_le _ s
theorem skip_loop {l : List UInt8} {es : List (List D)} {fl : Fl} (hl : l.length ≤ 8000) : ∀ (f n : Nat), n ≤ l.length → l.length - n < f →
    Rest EF 32 Tryd.f32 [0, 0] («lskip.S1» l (n : Int) es fl) = some (.ret [] [[.str l, .int .i64 ((n + skN f (l.drop n) : Nat) : Int), .sl 3 es fl]]) := by
  have hF : Fits EF FSkip := Fits.only fits_begins (Fits.only fits_run fits_no)
  intro f
  induction f with
  | zero => intro n hn hf; omega
  | succ f ih =>
    intro n hn hf
    refine rest_by hF ((lskip.r1_eq _ _ _ _ _).trans ?_)
    unfold lskip.r1
    cases hd : l.drop n with
    | nil =>
      have := drop_nil_len hd hn
      refine bifF (decide_eq_false (by omega)) ?_
      simp only [skN, Nat.add_zero]
    | cons c r =>
      obtain ⟨h1, h2, h3, h4⟩ := drop_cons hd 0
      have w1 : IntKind.wrap .i64 ((n : Int) + 1) = ((n + 1 : Nat) : Int) := i64s (by omega)
      have w2 : IntKind.wrap .i64 ((n : Int) + 2) = ((n + 2 : Nat) : Int) := by rw [i64w (by omega) (by omega)]; omega
      simp only [Int.toNat_natCast, List.take_length, h2, w1, w2]
      rw [hd, show (32 : Int) = ((32 : Nat) : Int) from rfl, show (9 : Int) = ((9 : Nat) : Int) from rfl, show (35 : Int) = ((35 : Nat) : Int) from rfl, u8I (by decide), u8I (by decide), u8I (by decide)]
      have one : Rest EF 32 Tryd.f32 [0, 0] («lskip.S1» l ((n + 1 : Nat) : Int) es fl) = some (.ret [] [[.str l, .int .i64 ((n + (1 + skN f r) : Nat) : Int), .sl 3 es fl]]) := by
        rw [ih (n + 1) (by omega) (by omega), h3, show n + 1 + skN f r = n + (1 + skN f r) by omega]
      have hin : inB (n : Int) l.length = true := inBI (by omega) (by omega)
      refine bifT (decide_eq_true (by omega)) (chkI hin ?_)
      refine bifI (fun h => ?_) (fun a1 => bifI (fun h => ?_) (fun a2 => chkI (by simp; omega) ?_))
      · have : c = 32 := by simpa using h
        simp only [skN]; rw [if_pos (.inl this)]; exact one
      · have : c = 9 := by simpa using h
        simp only [skN]; rw [if_pos (.inr this)]; exact one
      · have n1 : ¬ (c = 32 ∨ c = 9) := by
          rintro (rfl | rfl)
          · cases a1
          · cases a2
        simp only [skN]
        rw [if_neg n1]
        refine bifI (fun h => ?_) (fun h => ?_)
        · rw [if_pos h]
          have hb := begins_len h
          simp only [List.length_cons, List.length_nil] at hb
          rw [ih (n + 2) (by omega) (by omega)]
          have : l.drop (n + 2) = r.drop 1 := by rw [← h3, List.drop_drop]
          rw [this, Nat.add_assoc]
        · rw [if_neg (by rw [h]; simp)]
          refine bifI (fun h => chkI (by simp; omega) (chkI (Nat.ble_eq_true_of_le (by simp only [List.length_cons]; omega)) ?_)) (fun h => ?_)
          · have h35 : c = 35 := by simpa using h
            have hle := runCom_le (c :: r)
            have hpos : 0 < (runCom (c :: r)).length := by rw [h35]; simp [runCom, bI, List.takeWhile_cons]
            simp only [List.length_cons] at hle
            rw [i64w (by omega) (by omega), if_pos h35]
            have := ih (n + (runCom (c :: r)).length) (by omega) (by omega)
            rw [show ((n : Int) + (((runCom (c :: r)).length : Nat) : Int)) = ((n + (runCom (c :: r)).length : Nat) : Int) by omega, this]
            have e : l.drop (n + (runCom (c :: r)).length) = (c :: r).drop (runCom (c :: r)).length := by rw [← hd, List.drop_drop]
            rw [e, Nat.add_assoc]
          · have : ¬ c = 35 := by simpa using h
            rw [if_neg this, Nat.add_zero]
theorem skip_ok {l : List UInt8} {n : Nat} {es : List (List D)} {fl : Fl} (h : RdOk l n es fl) :
    callInf EF 32 [.c (.ptr (.out 0) 0)] [[.str l, .int .i64 (n : Int), .sl 3 es fl]] = some (.ret [] [[.str l, .int .i64 ((n : Int) + (skipN (l.drop n) : Int)), .sl 3 es fl]]) := by
  refine call_by (Fits.only fits_begins (Fits.only fits_run fits_no)) rfl rfl ((lskip.r_eq _ _ _ _ _).trans ?_)
  unfold lskip.r
  have h1 := h.at'
  have := skip_loop (es := es) (fl := fl) h.len ((l.drop n).length + 1) n h1 (by rw [List.length_drop]; omega)
  rw [this, skipN, show ((n : Int) + ((skN ((l.drop n).length + 1) (l.drop n) : Nat) : Int)) = ((n + skN ((l.drop n).length + 1) (l.drop n) : Nat) : Int) by omega]
theorem fits_skip : FitsAt EF 32 pSkip := by
  intro a b κ κp r h
  unfold pSkip at h
  split at h
  · obtain ⟨hc, h1⟩ := chk_inv h
    obtain ⟨n, rfl, hr⟩ := okR_inv hc
    exact ⟨_, skip_ok hr, h1⟩
  · cases h

/-! ### numbers, strokes -/
theorem numN_le (s : List UInt8) : numN s ≤ s.length := by
  unfold numN
  have h1 := runDig_le s
  cases hd : s.drop (runDig s).length with
  | nil => exact h1
  | cons c r =>
    obtain ⟨k1, k2, k3, k4⟩ := drop_cons hd 0
    have := runDig_le r
    simp only
    split <;> omega
theorem num_ok {s : List UInt8} (hs : s.length ≤ 8000) : callInf EF 59 [.c (.str s)] [] = some (.ret [.c (.str (s.take (numN s)))] []) := by
  refine call_by (Fits.only fits_run fits_no) rfl rfl ((lnum.r_eq _ _).trans ?_)
  unfold lnum.r
  have h1 := runDig_le s
  refine chkI (Nat.ble_eq_true_of_le (by omega)) ?_
  have w1 : IntKind.wrap .i64 (((runDig s).length : Int) + 1) = (((runDig s).length + 1 : Nat) : Int) := i64s (by omega)
  simp only [Int.toNat_natCast, List.take_length, List.drop_zero, w1]
  cases hd : s.drop (runDig s).length with
  | nil =>
    have := drop_nil_len hd h1
    refine bifF (decide_eq_false (by omega)) (chkI (decide_eq_true (by omega)) ?_)
    simp only [numN, hd]
  | cons c r =>
    obtain ⟨k1, k2, k3, k4⟩ := drop_cons hd 0
    have h2 := runDig_le r
    refine bifT (decide_eq_true (by omega)) (chkI (inBI (by omega) (by omega)) ?_)
    rw [k2, k3, show (46 : Int) = ((46 : Nat) : Int) from rfl, u8I (by decide)]
    refine bifI (fun h => ?_) (fun h => chkI (decide_eq_true (by omega)) ?_)
    · have hc : c = 46 := by simpa using h
      have w2 : IntKind.wrap .i64 ((((runDig s).length + 1 : Nat) : Int) + ((runDig r).length : Int)) = (((runDig s).length + 1 + (runDig r).length : Nat) : Int) := by rw [i64w (by omega) (by omega)]; omega
      rw [w2, Int.toNat_natCast]
      refine chkI (by simp; omega) (chkI (Nat.ble_eq_true_of_le (by omega)) (chkI (by simp; omega) ?_))
      simp only [numN, hd, hc, if_true]
    · have hc : ¬ c = 46 := by simpa using h
      simp only [numN, hd, hc, if_false]
theorem fits_num : FitsAt EF 59 pNumber := by
  intro a b κ κp r h
  unfold pNumber at h
  split at h
  · obtain ⟨hc, h1⟩ := chk_inv h
    exact ⟨_, num_ok (Nat.le_of_ble_eq_true hc), h1⟩
  · cases h
theorem stroke_ok (c : UInt8) : callInf EF 80 [.c (.int .u8 (c.toNat : Int))] [] = some (.ret [.c (.str (strokeL c))] []) := by
  refine call_by fits_no rfl rfl ((lstroke.r_eq _ _).trans ?_)
  unfold lstroke.r strokeL
  have e : UInt8.ofNat ((c.toNat : Int)).toNat = c := by rw [Int.toNat_natCast, UInt8.ofNat_toNat]
  rw [e, show (110 : Int) = ((110 : Nat) : Int) from rfl, show (116 : Int) = ((116 : Nat) : Int) from rfl, show (92 : Int) = ((92 : Nat) : Int) from rfl, show (34 : Int) = ((34 : Nat) : Int) from rfl, show (47 : Int) = ((47 : Nat) : Int) from rfl, u8I (by decide), u8I (by decide), u8I (by decide), u8I (by decide), u8I (by decide)]
  refine bifI (fun h => ?_) (fun h1 => bifI (fun h => ?_) (fun h2 => ?_))
  · have : c = 110 := by simpa using h
    rw [if_pos this]
  · have : c = 116 := by simpa using h
    have n1 : ¬ c = 110 := by simpa using h1
    rw [if_neg n1, if_pos this]
  · have n1 : ¬ c = 110 := by simpa using h1
    have n2 : ¬ c = 116 := by simpa using h2
    rw [if_neg n1, if_neg n2]
    refine bifI (fun h => ?_) (fun h3 => bifI (fun h => ?_) (fun h4 => bifI (fun h => ?_) (fun h5 => ?_)))
    · have : c = 92 := by simpa using h
      rw [if_pos (.inl this)]; exact bifT h rfl
    · have : c = 34 := by simpa using h
      rw [if_pos (.inr (.inl this))]; exact bifT h rfl
    · have : c = 47 := by simpa using h
      rw [if_pos (.inr (.inr this))]
    · have n3 : ¬ c = 92 := by simpa using h3
      have n4 : ¬ c = 34 := by simpa using h4
      have n5 : ¬ c = 47 := by simpa using h5
      rw [if_neg (by rintro (h | h | h) <;> contradiction)]
      rfl
theorem fits_stroke : FitsAt EF 80 pStroke := by
  intro a b κ κp r h
  unfold pStroke at h
  split at h
  · rename_i c
    obtain ⟨hc, h1⟩ := chk_inv h
    simp only [inU8, Bool.and_eq_true, decide_eq_true_eq] at hc
    obtain ⟨m, rfl⟩ := Int.eq_ofNat_of_zero_le hc.1
    have := stroke_ok (UInt8.ofNat m)
    have e : ((UInt8.ofNat m).toNat : Int) = (m : Int) := by rw [UInt8.toNat_ofNat']; omega
    rw [e] at this
    exact ⟨_, this, h1⟩
  · cases h

end Go.Proofs.YtmbhohnoolflbaaDoorX
