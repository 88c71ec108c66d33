/-
  WORDS OF PROGRAMS: the small functions of package lex answer as told.
-/
import Derived.Test.YtmbhohnoolflbaaDoorXGLexA
import Derived.Test.YtmbhohnoolflbaaDoorXLaw
set_option linter.unusedVariables false
set_option linter.unusedSimpArgs false
set_option maxRecDepth 100000
namespace Go.Proofs.YtmbhohnoolflbaaDoorX

theorem llet_ok (x : Int) : callInf EF 37 [.c (.int .u8 x)] [] = some (.ret [.c (.bool (isLet x))] []) := by
  refine call_by fits_no rfl rfl ((lletter.r_eq _ _).trans ?_)
  unfold lletter.r isLet
  cases decide (65 ≤ x) <;> cases decide (x ≤ 90) <;> cases decide (97 ≤ x) <;> cases decide (x ≤ 122) <;> rfl
theorem fits_let : FitsAt EF 37 pLet := by
  intro a b κ κp r h
  unfold pLet at h
  split at h
  · exact ⟨_, llet_ok _, h⟩
  · cases h
theorem ldig_ok (x : Int) : callInf EF 58 [.c (.int .u8 x)] [] = some (.ret [.c (.bool (isDig x))] []) := by
  refine call_by fits_no rfl rfl ((ldigit.r_eq _ _).trans ?_)
  unfold ldigit.r isDig
  cases decide (48 ≤ x) <;> rfl
theorem fits_dig : FitsAt EF 58 pDig := by
  intro a b κ κp r h
  unfold pDig at h
  split at h
  · exact ⟨_, ldig_ok _, h⟩
  · cases h
theorem linn_ok (x : Int) : callInf EF 39 [.c (.int .u8 x)] [] = some (.ret [.c (.bool (isInn x))] []) := by
  refine call_by (Fits.only fits_let (Fits.only fits_dig fits_no)) rfl rfl ((linner.r_eq _ _).trans ?_)
  unfold linner.r isInn
  cases isLet x <;> rfl
theorem fits_inn : FitsAt EF 39 pInn := by
  intro a b κ κp r h
  unfold pInn at h
  split at h
  · exact ⟨_, linn_ok _, h⟩
  · cases h
theorem lcom_ok (x : Int) : callInf EF 56 [.c (.int .u8 x)] [] = some (.ret [.c (.bool (!(x == 10)))] []) := by
  refine call_by fits_no rfl rfl ((lcom.r_eq _ _).trans ?_)
  rfl
theorem fits_com : FitsAt EF 56 pCom := by
  intro a b κ κp r h
  unfold pCom at h
  split at h
  · exact ⟨_, lcom_ok _, h⟩
  · cases h
theorem among_ok {l s : List UInt8} (hl : l.length ≤ 1000000) (hs : s.length ≤ 1000000) : callInf EF 35 [.c (.str l), .c (.str s)] [] = some (.ret [.c (.bool (amongB l s))] []) := by
  refine call_by (Fits.only fits_contains fits_no) rfl rfl ((lamong.r_eq _ _ _).trans ?_)
  unfold lamong.r amongB
  refine bifI (fun h => chkI (decide_eq_true (by simp; omega)) (chkI (decide_eq_true (by simp; omega)) (chkI (Nat.ble_eq_true_of_le hl) ?_))) (fun h => ?_)
  · rw [h]; rfl
  · rw [h]; rfl
theorem fits_among : FitsAt EF 35 pAmong := by
  intro a b κ κp r h
  unfold pAmong at h
  split at h
  · obtain ⟨hc, h⟩ := chk_inv h
    simp only [Bool.and_eq_true] at hc
    exact ⟨_, among_ok (Nat.le_of_ble_eq_true hc.1) (Nat.le_of_ble_eq_true hc.2), h⟩
  · cases h
theorem takeWhile_take (p : UInt8 → Bool) : ∀ l : List UInt8, l.take (l.takeWhile p).length = l.takeWhile p
  | [] => rfl
  | c :: l => by
    rw [List.takeWhile_cons]
    split
    · rw [List.length_cons, List.take_succ_cons, takeWhile_take p l]
    · rfl

theorem lrun1_loop {l : List UInt8} (hl : l.length ≤ 4611686018427387904) : ∀ (r : List UInt8) (i : Nat), l.drop i = r → i ≤ l.length →
    Rest EF 38 Tryd.f38 [0, 0, 0, 1, 1] («lrun1.S1» l (i : Int)) = some (.ret [.c (.str (l.take (i + (runInn r).length)))] []) := by
  intro r
  induction r with
  | nil =>
    intro i hd hi
    have := drop_nil_len hd hi
    refine rest_by (Fits.only fits_inn fits_no) ((lrun1.r1_eq _ _ _).trans ?_)
    unfold lrun1.r1
    refine bifF (decide_eq_false (by omega)) (chkI (by simp; omega) ?_)
    rw [Int.toNat_natCast, List.drop_zero, runInn, List.takeWhile_nil, List.length_nil, Nat.add_zero]
  | cons c r ih =>
    intro i hd hi
    obtain ⟨h1, h2, h3, h4⟩ := drop_cons hd 0
    refine rest_by (Fits.only fits_inn fits_no) ((lrun1.r1_eq _ _ _).trans ?_)
    unfold lrun1.r1
    refine bifT (decide_eq_true (by omega)) (chkI (inBI (by omega) (by omega)) ?_)
    rw [Int.toNat_natCast, h2, i64s (by omega)]
    refine bifI (fun h => ?_) (fun h => chkI (by simp; omega) ?_)
    · rw [ih (i + 1) h3 (by omega)]
      have : (runInn (c :: r)) = c :: runInn r := by simp only [runInn, List.takeWhile_cons, bI, h, if_true]
      rw [this, List.length_cons, show i + 1 + (runInn r).length = i + ((runInn r).length + 1) by omega]
    · have : (runInn (c :: r)) = [] := by simp only [runInn, List.takeWhile_cons, bI, h, Bool.false_eq_true, if_false]
      rw [this, List.length_nil, Nat.add_zero, List.drop_zero]
theorem lrun1_ok {l : List UInt8} (hl : l.length ≤ 4611686018427387904) : callInf EF 38 [.c (.str l), .c (.fn 39 [])] [] = some (.ret [.c (.str (runInn l))] []) := by
  refine call_by (Fits.only fits_inn fits_no) rfl rfl ((lrun1.r_eq _ _).trans ?_)
  unfold lrun1.r
  have := lrun1_loop hl l 0 rfl (by omega)
  refine this.trans ?_
  rw [Nat.zero_add, runInn, takeWhile_take]

theorem lrun2_loop {l : List UInt8} (hl : l.length ≤ 4611686018427387904) : ∀ (r : List UInt8) (i : Nat), l.drop i = r → i ≤ l.length →
    Rest EF 38 Tryd.f38 [0, 0, 0, 1, 1] («lrun2.S1» l (i : Int)) = some (.ret [.c (.str (l.take (i + (runDig r).length)))] []) := by
  intro r
  induction r with
  | nil =>
    intro i hd hi
    have := drop_nil_len hd hi
    refine rest_by (Fits.only fits_dig fits_no) ((lrun2.r1_eq _ _ _).trans ?_)
    unfold lrun2.r1
    refine bifF (decide_eq_false (by omega)) (chkI (by simp; omega) ?_)
    rw [Int.toNat_natCast, List.drop_zero, runDig, List.takeWhile_nil, List.length_nil, Nat.add_zero]
  | cons c r ih =>
    intro i hd hi
    obtain ⟨h1, h2, h3, h4⟩ := drop_cons hd 0
    refine rest_by (Fits.only fits_dig fits_no) ((lrun2.r1_eq _ _ _).trans ?_)
    unfold lrun2.r1
    refine bifT (decide_eq_true (by omega)) (chkI (inBI (by omega) (by omega)) ?_)
    rw [Int.toNat_natCast, h2, i64s (by omega)]
    refine bifI (fun h => ?_) (fun h => chkI (by simp; omega) ?_)
    · rw [ih (i + 1) h3 (by omega)]
      have : (runDig (c :: r)) = c :: runDig r := by simp only [runDig, List.takeWhile_cons, bI, h, if_true]
      rw [this, List.length_cons, show i + 1 + (runDig r).length = i + ((runDig r).length + 1) by omega]
    · have : (runDig (c :: r)) = [] := by simp only [runDig, List.takeWhile_cons, bI, h, Bool.false_eq_true, if_false]
      rw [this, List.length_nil, Nat.add_zero, List.drop_zero]
theorem lrun2_ok {l : List UInt8} (hl : l.length ≤ 4611686018427387904) : callInf EF 38 [.c (.str l), .c (.fn 58 [])] [] = some (.ret [.c (.str (runDig l))] []) := by
  refine call_by (Fits.only fits_dig fits_no) rfl rfl ((lrun2.r_eq _ _).trans ?_)
  unfold lrun2.r
  have := lrun2_loop hl l 0 rfl (by omega)
  refine this.trans ?_
  rw [Nat.zero_add, runDig, takeWhile_take]

theorem lrun3_loop {l : List UInt8} (hl : l.length ≤ 4611686018427387904) : ∀ (r : List UInt8) (i : Nat), l.drop i = r → i ≤ l.length →
    Rest EF 38 Tryd.f38 [0, 0, 0, 1, 1] («lrun3.S1» l (i : Int)) = some (.ret [.c (.str (l.take (i + (runCom r).length)))] []) := by
  intro r
  induction r with
  | nil =>
    intro i hd hi
    have := drop_nil_len hd hi
    refine rest_by (Fits.only fits_com fits_no) ((lrun3.r1_eq _ _ _).trans ?_)
    unfold lrun3.r1
    refine bifF (decide_eq_false (by omega)) (chkI (by simp; omega) ?_)
    rw [Int.toNat_natCast, List.drop_zero, runCom, List.takeWhile_nil, List.length_nil, Nat.add_zero]
  | cons c r ih =>
    intro i hd hi
    obtain ⟨h1, h2, h3, h4⟩ := drop_cons hd 0
    refine rest_by (Fits.only fits_com fits_no) ((lrun3.r1_eq _ _ _).trans ?_)
    unfold lrun3.r1
    refine bifT (decide_eq_true (by omega)) (chkI (inBI (by omega) (by omega)) ?_)
    rw [Int.toNat_natCast, h2, i64s (by omega)]
    refine bifI (fun h => ?_) (fun h => chkI (by simp; omega) ?_)
    · rw [ih (i + 1) h3 (by omega)]
      have : (runCom (c :: r)) = c :: runCom r := by simp only [runCom, List.takeWhile_cons, bI, h, if_true]
      rw [this, List.length_cons, show i + 1 + (runCom r).length = i + ((runCom r).length + 1) by omega]
    · have : (runCom (c :: r)) = [] := by simp only [runCom, List.takeWhile_cons, bI, h, Bool.false_eq_true, if_false]
      rw [this, List.length_nil, Nat.add_zero, List.drop_zero]
theorem lrun3_ok {l : List UInt8} (hl : l.length ≤ 4611686018427387904) : callInf EF 38 [.c (.str l), .c (.fn 56 [])] [] = some (.ret [.c (.str (runCom l))] []) := by
  refine call_by (Fits.only fits_com fits_no) rfl rfl ((lrun3.r_eq _ _).trans ?_)
  unfold lrun3.r
  have := lrun3_loop hl l 0 rfl (by omega)
  refine this.trans ?_
  rw [Nat.zero_add, runCom, takeWhile_take]

theorem fits_run : FitsAt EF 38 pRun := by
  intro a b κ κp r h
  unfold pRun at h
  split at h
  · rename_i l f
    obtain ⟨hc, k⟩ := chk_inv h
    clear h
    have hl := Nat.le_of_ble_eq_true hc
    cases h1 : Nat.beq f 39 with
    | true =>
      rw [h1] at k
      have := Nat.eq_of_beq_eq_true h1
      subst this
      exact ⟨_, lrun1_ok hl, k⟩
    | false =>
      rw [h1] at k
      cases h2 : Nat.beq f 58 with
      | true =>
        rw [h2] at k
        have := Nat.eq_of_beq_eq_true h2
        subst this
        exact ⟨_, lrun2_ok hl, k⟩
      | false =>
        rw [h2] at k
        cases h3 : Nat.beq f 56 with
        | true =>
          rw [h3] at k
          have := Nat.eq_of_beq_eq_true h3
          subst this
          exact ⟨_, lrun3_ok hl, k⟩
        | false => rw [h3] at k; cases k
  · cases h

theorem begins_nil (b : UInt8) (r : List UInt8) : begins [] (b :: r) = false := rfl
theorem begins_any (a : List UInt8) : begins a [] = true := by cases a <;> simp [begins]
theorem begins_cons (c b : UInt8) (a r : List UInt8) : begins (c :: a) (b :: r) = (c == b && begins a r) := by
  have h1 : Nat.ble (r.length + 1) (a.length + 1) = Nat.ble r.length a.length := rfl
  have h2 : ((c :: a.take r.length) == (b :: r)) = (c == b && (a.take r.length == r)) := rfl
  simp only [begins, List.length_cons, List.take_succ_cons, h1, h2]
  cases c == b <;> cases Nat.ble r.length a.length <;> simp
theorem lpre1_ok (a b : List UInt8) : callInf EF 79 [.c (.str a), .c (.str b)] [] = some (.ret [.c (.bool (begins a b))] []) := by
  refine call_by fits_no rfl rfl ((lpre1.r_eq _ _ _).trans ?_)
  unfold lpre1.r
  refine bifI (fun h => chkI h ?_) (fun h => ?_)
  · have h1 : b.length ≤ a.length := by have := of_decide_eq_true h; omega
    rw [List.drop_zero, Int.toNat_natCast, begins, Nat.ble_eq_true_of_le h1, Bool.true_and]
  · have h1 : ¬ b.length ≤ a.length := by have := of_decide_eq_false h; omega
    have h2 : Nat.ble b.length a.length = false := by
      cases hb : Nat.ble b.length a.length with
      | false => rfl
      | true => exact absurd (Nat.le_of_ble_eq_true hb) h1
    rw [begins, h2, Bool.false_and]
theorem fits_lpre1 : FitsAt EF 79 pBegins := by
  intro a b κ κp r h
  unfold pBegins at h
  split at h
  · exact ⟨_, lpre1_ok _ _, h⟩
  · cases h
theorem lpre_ok (a b : List UInt8) : callInf EF 55 [.c (.str a), .c (.str b)] [] = some (.ret [.c (.bool (begins a b))] []) := by
  refine call_by (Fits.only fits_lpre1 fits_no) rfl rfl ((lpre.r_eq _ _ _).trans ?_)
  rfl
theorem fits_begins : FitsAt EF 55 pBegins := by
  intro a b κ κp r h
  unfold pBegins at h
  split at h
  · exact ⟨_, lpre_ok _ _, h⟩
  · cases h

theorem lsidx_loop {s : List UInt8} {fl : Fl} {xs : List (List UInt8)} (hx : xs.length ≤ 1000000) : ∀ (r : List (List UInt8)) (i : Nat), xs.drop i = r → i ≤ xs.length →
    Rest EF 94 Tryd.f94 [0, 0, 1, 0, 1] («lsidx.S1» (strEls xs) fl s (xs.length : Int) (i : Int)) = some (.ret [.c (.int .i64 (idxFrom s r i))] []) := by
  have hlen : (strEls xs).length = xs.length := List.length_map ..
  intro r
  induction r with
  | nil =>
    intro i hd hi
    have := drop_nil_len hd hi
    refine rest_by fits_no ((lsidx.r1_eq _ _ _ _ _ _).trans ?_)
    unfold lsidx.r1
    exact bifF (decide_eq_false (by omega)) rfl
  | cons x r ih =>
    intro i hd hi
    obtain ⟨h1, h2, h3, h4⟩ := drop_cons hd []
    refine rest_by fits_no ((lsidx.r1_eq _ _ _ _ _ _).trans ?_)
    unfold lsidx.r1
    have he : (strEls xs).getD i [] = [D.str x] := by
      rw [List.getD_eq_getElem?_getD, strEls, List.getElem?_map, List.getElem?_eq_getElem h1]
      rw [List.getD_eq_getElem?_getD, List.getElem?_eq_getElem h1] at h2
      simp only [Option.getD_some] at h2
      rw [h2]; rfl
    rw [Int.toNat_natCast, he, i64s (by omega)]
    refine bifT (decide_eq_true (by omega)) (chkI (inBI (by omega) (by rw [hlen]; omega)) (onOI _ rfl ?_))
    show (rS (.str x) _) = _
    rw [rS_str, idxFrom]
    refine bifI (fun h => ?_) (fun h => ?_)
    · have : x = s := by have := eq_of_beq h; exact this.symm
      rw [if_pos this]
    · have : ¬ x = s := fun e => by rw [e] at h; simp at h
      rw [if_neg this]
      exact ih (i + 1) h3 (by omega)
theorem lsidx_ok {s : List UInt8} {fl : Fl} {xs : List (List UInt8)} (hx : xs.length ≤ 1000000) : callInf EF 94 [.c (.sl 1 (strEls xs) fl), .c (.str s)] [] = some (.ret [.c (.int .i64 (idxFrom s xs 0))] []) := by
  refine call_by fits_no rfl rfl ((lsidx.r_eq _ _ _ _).trans ?_)
  unfold lsidx.r
  have hlen : (strEls xs).length = xs.length := List.length_map ..
  rw [hlen]
  exact lsidx_loop hx xs 0 rfl (by omega)
theorem fits_lsidx : FitsAt EF 94 pSIndex := by
  intro a b κ κp r h
  unfold pSIndex at h
  split at h
  · obtain ⟨xs, hx, h1⟩ := onO_inv h
    obtain ⟨hc, h2⟩ := chk_inv h1
    have := strsD_inv hx
    subst this
    exact ⟨_, lsidx_ok (Nat.le_of_ble_eq_true hc), h2⟩
  · cases h
theorem idxFrom_mem (s : List UInt8) : ∀ (xs : List (List UInt8)) (i : Nat), decide (0 ≤ idxFrom s xs i) = xs.contains s
  | [], i => rfl
  | x :: r, i => by
    rw [idxFrom]
    by_cases h : x = s
    · subst h; simp
    · rw [if_neg h, idxFrom_mem s r (i + 1), List.contains_cons, show (s == x) = false by simpa using fun e => h e.symm, Bool.false_or]
theorem strsD_els (xs : List (List UInt8)) : strsD (strEls xs) = some xs := by
  induction xs with
  | nil => rfl
  | cons x r ih => simp only [strEls, List.map_cons, strsD] at ih ⊢; rw [ih]
theorem lscon_ok {s : List UInt8} {fl : Fl} {xs : List (List UInt8)} (hx : xs.length ≤ 1000000) : callInf EF 81 [.c (.sl 1 (strEls xs) fl), .c (.str s)] [] = some (.ret [.c (.bool (xs.contains s))] []) := by
  refine call_by (Fits.only fits_lsidx fits_no) rfl rfl ((lscon.r_eq _ _ _ _).trans ?_)
  unfold lscon.r
  refine onOI _ (strsD_els xs) (chkI (Nat.ble_eq_true_of_le hx) ?_)
  rw [idxFrom_mem]
theorem fits_lscon : FitsAt EF 81 pSContains := by
  intro a b κ κp r h
  unfold pSContains at h
  split at h
  · obtain ⟨xs, hx, h1⟩ := onO_inv h
    obtain ⟨hc, h2⟩ := chk_inv h1
    have := strsD_inv hx
    subst this
    exact ⟨_, lscon_ok (Nat.le_of_ble_eq_true hc), h2⟩
  · cases h

end Go.Proofs.YtmbhohnoolflbaaDoorX
