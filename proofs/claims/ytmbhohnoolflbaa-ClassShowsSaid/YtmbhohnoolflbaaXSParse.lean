/-
  BRACKET EXPRESSIONS READ: the functions of class.reader answer as told.
-/
import Derived.Test.YtmbhohnoolflbaaXGParse
import Derived.Test.YtmbhohnoolflbaaXSClass
set_option linter.unusedVariables false
set_option linter.unusedSimpArgs false
set_option maxRecDepth 100000
namespace Go.Proofs.YtmbhohnoolflbaaX

theorem hasPre_nil (b : UInt8) (r : List UInt8) : hasPre [] (b :: r) = false := rfl
theorem hasPre_any (a : List UInt8) : hasPre a [] = true := by cases a <;> simp [hasPre]
theorem hasPre_cons (c b : UInt8) (a r : List UInt8) : hasPre (c :: a) (b :: r) = (c == b && hasPre a r) := by
  have h1 : Nat.ble (r.length + 1) (a.length + 1) = Nat.ble r.length a.length := rfl
  have h2 : ((c :: a.take r.length) == (b :: r)) = (c == b && (a.take r.length == r)) := rfl
  simp only [hasPre, List.length_cons, List.take_succ_cons, h1, h2]
  cases c == b <;> cases Nat.ble r.length a.length <;> simp
theorem hasPre_append (a b : List UInt8) : hasPre (b ++ a) b = true := by
  induction b with
  | nil => exact hasPre_any a
  | cons x b ih => rw [List.cons_append, hasPre_cons, ih]; simp

theorem pre1_ok (a b : List UInt8) : callInf E 33 [.c (.str a), .c (.str b)] [] = some (.ret [.c (.bool (hasPre a b))] []) := by
  refine call_by fits_no rfl rfl ((pre1.r_eq _ _ _).trans ?_)
  unfold pre1.r
  refine bifI (fun h => chkI h ?_) (fun h => ?_)
  · have h1 : b.length ≤ a.length := by have := of_decide_eq_true h; omega
    rw [List.drop_zero, Int.toNat_natCast, hasPre, Nat.ble_eq_true_of_le h1, Bool.true_and]
  · have h1 : ¬ b.length ≤ a.length := by have := of_decide_eq_false h; omega
    have h2 : Nat.ble b.length a.length = false := by
      cases hb : Nat.ble b.length a.length with
      | false => rfl
      | true => exact absurd (Nat.le_of_ble_eq_true hb) h1
    rw [hasPre, h2, Bool.false_and]
theorem fits_pre1 : FitsAt E 33 pPre := by
  intro a b κ κp r h
  unfold pPre at h
  split at h
  · exact ⟨_, pre1_ok _ _, h⟩
  · cases h
theorem pre_ok (a b : List UInt8) : callInf E 27 [.c (.str a), .c (.str b)] [] = some (.ret [.c (.bool (hasPre a b))] []) := by
  refine call_by (Fits.only fits_pre1 fits_no) rfl rfl ((pre.r_eq _ _ _).trans ?_)
  rfl
theorem fits_pre : FitsAt E 27 pPre := by
  intro a b κ κp r h
  unfold pPre at h
  split at h
  · exact ⟨_, pre_ok _ _, h⟩
  · cases h
theorem comes_ok (l t : List UInt8) {n : Nat} (hn : n ≤ l.length) : callInf E 23 [.c (.ptr (.out 0) 0), .c (.str t)] [[.str l, .int .i64 (n : Int)]] = some (.ret [.c (.bool (hasPre (l.drop n) t))] [[.str l, .int .i64 (n : Int)]]) := by
  refine call_by (Fits.only fits_pre fits_no) rfl rfl ((comes.r_eq _ _ _ _).trans ?_)
  unfold comes.r
  refine chkI ?_ ?_
  · simp; omega
  · rw [Int.toNat_natCast, Int.toNat_natCast, List.take_length]
theorem okAt_inv {l : List UInt8} {a : Int} (h : okAt l a = true) : ∃ n : Nat, a = (n : Int) ∧ n ≤ l.length := by
  simp only [okAt, Bool.and_eq_true, decide_eq_true_eq] at h
  obtain ⟨n, rfl⟩ := Int.eq_ofNat_of_zero_le h.1
  exact ⟨n, rfl, by omega⟩
theorem okAt_of {l : List UInt8} {n : Nat} (h : n ≤ l.length) : okAt l (n : Int) = true := by simp [okAt]; omega
theorem fits_comes : FitsAt E 23 pComes := by
  intro a b κ κp r h
  unfold pComes at h
  split at h
  · obtain ⟨h1, h2⟩ := chk_inv h
    obtain ⟨n, rfl, hn⟩ := okAt_inv h1
    exact ⟨_, comes_ok _ _ hn, h2⟩
  · cases h

theorem sgl_le {l : List UInt8} {n : Nat} (hn : n ≤ l.length) : n ≤ (sgl l n).2 ∧ (sgl l n).2 ≤ l.length := by
  unfold sgl
  cases hd : l.drop n with
  | nil => exact ⟨Nat.le_refl _, hn⟩
  | cons c r =>
    obtain ⟨h1, h2, h3, h4⟩ := drop_cons hd 0
    simp only
    split
    · cases r with
      | nil => exact ⟨by simp, by simp; omega⟩
      | cons d r => simp only [List.length_cons] at h4; exact ⟨by simp, by simp; omega⟩
    · exact ⟨by simp, by simp; omega⟩
theorem sglB_isB (l : List UInt8) (a : Int) : isB (sglB l a) = true := by
  unfold sglB isB
  cases (sgl l a.toNat).1 with
  | none => rfl
  | some b => have := u8lt b; simp; omega

theorem single_ok {l : List UInt8} {n : Nat} (hn : n ≤ l.length) (hl : l.length ≤ 4611686018427387904) :
    callInf E 30 [.c (.ptr (.out 0) 0)] [[.str l, .int .i64 (n : Int)]] = some (.ret [.c (.int .u8 (sglB l n)), .c (.bool (sglOk l n))] [[.str l, .int .i64 (sglAt l n)]]) := by
  refine call_by (Fits.only fits_comes fits_no) rfl rfl ((single.r_eq _ _ _).trans ?_)
  unfold single.r
  refine chkI (okAt_of hn) ?_
  have w1 : IntKind.wrap .i64 ((n : Int) + 1) = ((n + 1 : Nat) : Int) := i64s (by omega)
  have w2 : IntKind.wrap .i64 (((n + 1 : Nat) : Int) + 1) = ((n + 2 : Nat) : Int) := i64s (by omega)
  have w3 : IntKind.wrap .i64 (((n + 2 : Nat) : Int) - 1) = ((n + 1 : Nat) : Int) := by rw [i64w (by omega) (by omega)]; omega
  have w4 : IntKind.wrap .i64 (((n + 1 : Nat) : Int) - 1) = (n : Int) := by rw [i64w (by omega) (by omega)]; omega
  rw [w1, w2, w3, w4, Int.toNat_natCast, Int.toNat_natCast]
  simp only [sglB, sglOk, sglAt, Int.toNat_natCast]
  cases hd : l.drop n with
  | nil =>
    have hnl := drop_nil_len hd hn
    refine bifF (hasPre_nil _ _) (bifT (by rw [hnl]; simp) ?_)
    simp only [sgl, hd]
    rfl
  | cons c r =>
    obtain ⟨h1, h2, h3, h4⟩ := drop_cons hd 0
    rw [hasPre_cons, hasPre_any, Bool.and_true]
    by_cases hc : c = 92
    · refine bifT (by rw [hc]; rfl) ?_
      cases r with
      | nil =>
        simp only [List.length_nil] at h4
        refine bifT (by rw [beq_iff_eq]; omega) ?_
        simp only [sgl, hd, hc, if_true]
        rfl
      | cons d r =>
        obtain ⟨k1, k2, k3, k4⟩ := drop_cons h3 0
        refine bifF (by rw [beq_eq_false_iff_ne]; omega) (chkI (inBI (by omega) (by omega)) ?_)
        rw [k2, show (110 : Int) = ((110 : Nat) : Int) from rfl, show (116 : Int) = ((116 : Nat) : Int) from rfl, u8eqI _ _ (by decide), u8eqI _ _ (by decide)]
        simp only [sgl, hd, hc, if_true, escB]
        refine bifI (fun h => ?_) (fun h => bifI (fun h' => ?_) (fun h' => ?_))
        · have : d = 110 := by simpa using h
          subst this; rfl
        · have : d = 116 := by simpa using h'
          subst this; rfl
        · have g1 : ¬ d = 110 := by simpa using h
          have g2 : ¬ d = 116 := by simpa using h'
          simp only [if_neg g1, if_neg g2]
          rfl
    · refine bifF (by simpa using hc) (bifF (by rw [beq_eq_false_iff_ne]; omega) (chkI (inBI (by omega) (by omega)) ?_))
      rw [h2]
      simp only [sgl, hd, hc, if_false]
      rfl
theorem fits_single : FitsAt E 30 pSingle := by
  intro a b κ κp r h
  unfold pSingle at h
  split at h
  · obtain ⟨h1, h2⟩ := chk_inv h
    simp only [Bool.and_eq_true] at h1
    obtain ⟨n, rfl, hn⟩ := okAt_inv h1.1
    exact ⟨_, single_ok hn (Nat.le_of_ble_eq_true h1.2), h2⟩
  · cases h

theorem fits_FItem : Fits E FItem := Fits.only fits_comes (Fits.only fits_single (Fits.only fits_add fits_no))
theorem addN_zero_lt {a n : Nat} (h : a + n ≤ 256) : addN 0 a n < 2 ^ 256 := addN_lt n (by decide) h
theorem itm_le {l : List UInt8} {n : Nat} (hn : n ≤ l.length) : n ≤ (itm l n).2.2 ∧ (itm l n).2.2 ≤ l.length := by
  unfold itm
  have h1 := sgl_le hn
  cases hs : sgl l n with
  | mk o a1 =>
    rw [hs] at h1
    cases o with
    | none => exact h1
    | some f =>
      simp only
      cases hr : rangeAt l a1 with
      | false => exact h1
      | true =>
        simp only [cond_true]
        have hlt : a1 + 1 ≤ l.length := by
          have : hasPre (l.drop a1) [45] = true := by simp only [rangeAt, Bool.and_eq_true] at hr; exact hr.1.1
          cases hd : l.drop a1 with
          | nil => rw [hd] at this; cases this
          | cons c r => exact (drop_cons hd 0).1
        have h2 := sgl_le hlt
        cases hs2 : sgl l (a1 + 1) with
        | mk o2 a2 =>
          rw [hs2] at h2
          simp only at h1 h2
          cases o2 with
          | none => exact ⟨by simp only; omega, by simp only; omega⟩
          | some t =>
            simp only
            split
            · exact ⟨by simp only; omega, by simp only; omega⟩
            · exact ⟨by simp only; omega, by simp only; omega⟩

theorem item_ok {l : List UInt8} {n : Nat} (hn : n ≤ l.length) (hl : l.length ≤ 4611686018427387904) (hc : hasPre (l.drop n) [91, 58] = false) :
    callInf E 24 [.c (.ptr (.out 0) 0)] [[.str l, .int .i64 (n : Int)]] = some (.ret [.agg (encS (itmN l n)), .c (.int .i64 (itmE l n))] [[.str l, .int .i64 (itmAt l n)]]) := by
  refine call_by fits_FItem rfl rfl ((item.r_eq _ _ _).trans ?_)
  unfold item.r
  refine chkI (okAt_of hn) (bifF (by rw [Int.toNat_natCast]; exact hc) (chkI (by rw [okAt_of hn, Nat.ble_eq_true_of_le hl]; rfl) ?_))
  have h1 := sgl_le hn
  obtain ⟨o, a1, hs⟩ : ∃ o a1, sgl l n = (o, a1) := ⟨_, _, rfl⟩
  have eA : sglAt l (n : Int) = (a1 : Int) := by simp only [sglAt, Int.toNat_natCast, hs]
  have eO : sglOk l (n : Int) = o.isSome := by simp only [sglOk, Int.toNat_natCast, hs]
  rw [hs] at h1
  simp only at h1
  · cases o with
    | none =>
      simp only [eA, eO, itmN, itmE, itmAt, itm, Int.toNat_natCast, hs]
      exact bifT rfl rfl
    | some f =>
      have eB : sglB l (n : Int) = (f.toNat : Int) := by simp only [sglB, Int.toNat_natCast, hs]
      simp only [eA, eO, eB, itmN, itmE, itmAt, itm, Int.toNat_natCast, hs]
      refine bifF rfl (chkI (okAt_of h1.2) ?_)
      have hf := u8lt f
      have hb : isB ((f.toNat : Nat) : Int) = true := by simp [isB]; omega
      have one : chk (isB ((f.toNat : Nat) : Int) && isB ((f.toNat : Nat) : Int)) (some (Res.ret [V.agg [C.int .u64 ((word (addN 0 f.toNat (f.toNat + 1 - f.toNat)) 0 : Nat) : Int), C.int .u64 ((word (addN 0 f.toNat (f.toNat + 1 - f.toNat)) 1 : Nat) : Int), C.int .u64 ((word (addN 0 f.toNat (f.toNat + 1 - f.toNat)) 2 : Nat) : Int), C.int .u64 ((word (addN 0 f.toNat (f.toNat + 1 - f.toNat)) 3 : Nat) : Int)], V.c (C.int .i64 0)] [[C.str l, C.int .i64 (a1 : Int)]])) = some (.ret [.agg (encS (addN 0 f.toNat 1)), .c (.int .i64 0)] [[.str l, .int .i64 (a1 : Int)]]) := by
        rw [hb, show f.toNat + 1 - f.toNat = 1 by omega]; rfl
      cases p1 : hasPre (l.drop a1) [45] with
      | false =>
        have hr : rangeAt l a1 = false := by simp [rangeAt, p1]
        rw [hr]
        exact bifF rfl one
      | true =>
        refine bifT rfl (chkI (okAt_of h1.2) ?_)
        cases p2 : hasPre (l.drop a1) [45, 93] with
        | true =>
          have hr : rangeAt l a1 = false := by simp [rangeAt, p2]
          rw [hr]
          exact bifF rfl one
        | false =>
          refine bifT rfl (chkI (okAt_of h1.2) ?_)
          cases p3 : hasPre (l.drop a1) [45, 91, 58] with
          | true =>
            have hr : rangeAt l a1 = false := by simp [rangeAt, p3]
            rw [hr]
            exact bifF rfl one
          | false =>
            have hr : rangeAt l a1 = true := by simp [rangeAt, p1, p2, p3]
            rw [hr]
            have hlt : a1 + 1 ≤ l.length := by
              cases hd : l.drop a1 with
              | nil => rw [hd] at p1; cases p1
              | cons c r => exact (drop_cons hd 0).1
            have w1 : IntKind.wrap .i64 ((a1 : Int) + 1) = ((a1 + 1 : Nat) : Int) := i64s (by omega)
            obtain ⟨o2, a2, hs2⟩ : ∃ o a2, sgl l (a1 + 1) = (o, a2) := ⟨_, _, rfl⟩
            have fA : sglAt l ((a1 + 1 : Nat) : Int) = (a2 : Int) := by simp only [sglAt, Int.toNat_natCast, hs2]
            have fO : sglOk l ((a1 + 1 : Nat) : Int) = o2.isSome := by simp only [sglOk, Int.toNat_natCast, hs2]
            · cases o2 with
              | none =>
                simp only [w1, fA, fO, Int.toNat_natCast, cond_true, hs2]
                refine bifT rfl (chkI (by rw [okAt_of hlt, Nat.ble_eq_true_of_le hl]; rfl) ?_)
                exact bifT rfl rfl
              | some t =>
                have fB : sglB l ((a1 + 1 : Nat) : Int) = (t.toNat : Int) := by simp only [sglB, Int.toNat_natCast, hs2]
                simp only [w1, fA, fO, fB, Int.toNat_natCast, cond_true, hs2]
                refine bifT rfl (chkI (by rw [okAt_of hlt, Nat.ble_eq_true_of_le hl]; rfl) ?_)
                refine bifF rfl ?_
                have ht := u8lt t
                by_cases hlt : t < f
                · have : t.toNat < f.toNat := hlt
                  refine bifT (decide_eq_true (by omega)) ?_
                  simp only [if_pos hlt]
                  rfl
                · have : ¬ t.toNat < f.toNat := hlt
                  refine bifF (decide_eq_false (by omega)) (chkI (by simp [isB]; omega) ?_)
                  simp only [if_neg hlt, Int.toNat_natCast]
                  rfl
theorem fits_item : FitsAt E 24 pItem := by
  intro a b κ κp r h
  unfold pItem at h
  split at h
  · obtain ⟨h1, h2⟩ := chk_inv h
    simp only [Bool.and_eq_true, Bool.not_eq_true'] at h1
    obtain ⟨n, rfl, hn⟩ := okAt_inv h1.1.1
    exact ⟨_, item_ok hn (Nat.le_of_ble_eq_true h1.1.2) (by simpa using h1.2), h2⟩
  · cases h

end Go.Proofs.YtmbhohnoolflbaaX
