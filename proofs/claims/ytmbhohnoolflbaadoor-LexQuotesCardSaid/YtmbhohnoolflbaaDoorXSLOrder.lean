/-
  THE LAW LexOrder answers true, whatever the text.
-/
import Derived.Test.YtmbhohnoolflbaaDoorXGLOrder
import Derived.Test.YtmbhohnoolflbaaDoorXSLexE
set_option linter.unusedVariables false
set_option linter.unusedSimpArgs false
set_option maxRecDepth 100000
namespace Go.Proofs.YtmbhohnoolflbaaDoorX

theorem lives11 : callInf EF 10 [] [] = some (.ret [.c (.bool true)] []) := lim_of (callN_mono 10 [] []) (k := 300) (by kernel_rfl)
theorem fits_lives11 : FitsAt EF 10 pTrueL := by
  intro a b κ κp r h
  unfold pTrueL at h
  split at h
  · exact ⟨_, lives11, h⟩
  · cases h
theorem fits_FLOrd : Fits EF FLOrd := Fits.only fits_words (Fits.only fits_lives11 fits_no)

/-- The law's answer on one token. -/
theorem order_round {l : List UInt8} {all : List T3} {fl : Fl} (hl : l.length ≤ 8000) (hall : all.length ≤ 3000) {i : Nat} {t : T3} (hi : all[i]? = some t)
    (hat : t.2.2 ≤ l.length) (hk : t.1 = 0 ↔ i + 1 = all.length) (hseg : Seg l t) (hup : ∀ u, 0 < i → all[i - 1]? = some u → u.2.2 < t.2.2 ∨ t.1 = 0)
    (next : Rest EF 3 Tryd.f3 [0, 0, 1, 0, 1, 1, 1] («lorder.S1» l (all.map encT) fl ((i + 1 : Nat) : Int)) = some (.ret [.c (.bool true)] [])) :
    Rest EF 3 Tryd.f3 [0, 0, 1, 0, 1, 1, 1] («lorder.S1» l (all.map encT) fl (i : Int)) = some (.ret [.c (.bool true)] []) := by
  obtain ⟨k, S, a⟩ := t
  simp only at hat hk hup
  have hil : i < all.length := by
    rcases Nat.lt_or_ge i all.length with h | h
    · exact h
    · rw [List.getElem?_eq_none h] at hi; cases hi
  have hrow : (all.map encT).getD i [] = [D.int .i64 k, D.str S, D.int .i64 (a : Int)] := by
    rw [List.getD_eq_getElem?_getD, List.getElem?_map, hi]; rfl
  have h3 : Rest EF 3 Tryd.f3 [1, 1, 1, 0, 0, 1, 0, 0, 1, 0, 1, 1, 1] («lorder.S3» l (all.map encT) fl (i : Int) false) = some (.ret [.c (.bool true)] []) := by
    refine rest_by fits_FLOrd ((lorder.r3_eq _ _ _ _ _ _).trans ?_)
    unfold lorder.r3
    refine bifF rfl ?_
    rw [i64s (by omega)]
    exact next
  have h2 : Rest EF 3 Tryd.f3 [1, 0, 1, 0, 0, 1, 0, 0, 1, 0, 1, 1, 1] («lorder.S2» l (all.map encT) fl (i : Int) false [C.int .i64 k, C.str S, C.int .i64 (a : Int)]) = some (.ret [.c (.bool true)] []) := by
    refine rest_by fits_FLOrd ((lorder.r2_eq _ _ _ _ _ _ _).trans ?_)
    unfold lorder.r2
    refine bifF rfl (onOI _ rfl (rII k rfl ?_))
    refine bifI (fun n3 => onOI _ rfl (rII k rfl (bifI (fun n4 => ?_) (fun _ => h3)))) (fun _ => h3)
    obtain ⟨s1, s2⟩ := hseg (by simpa using n3) (by simpa using n4)
    simp only at s1 s2
    refine onOI _ rfl ?_
    simp only [rS]
    refine onOI _ rfl (rII (a : Int) rfl ?_)
    have w1 : IntKind.wrap .i64 ((l.length : Int) - (a : Int)) = (l.length : Int) - (a : Int) := i64w (by omega) (by omega)
    have w2 : IntKind.wrap .i64 ((a : Int) + (S.length : Int)) = ((a + S.length : Nat) : Int) := by rw [i64w (by omega) (by omega)]; omega
    rw [w1]
    refine bifF (decide_eq_false (by omega)) (onOI _ rfl (rII (a : Int) rfl (onOI _ rfl (rII (a : Int) rfl (onOI _ rfl ?_)))))
    simp only [rS]
    rw [w2]
    refine chkI (by rw [decide_eq_true (by omega), decide_eq_true (by omega), decide_eq_true (by omega)]; rfl) (onOI _ rfl ?_)
    simp only [Int.toNat_natCast]
    have e : ((l.take (a + S.length)).drop a) = S := by rw [List.drop_take, Nat.add_sub_cancel_left]; exact s2
    rw [e, show (S == S) = true by simp]
    exact h3
  refine rest_by fits_FLOrd ((lorder.r1_eq _ _ _ _ _).trans ?_)
  unfold lorder.r1
  rw [Int.toNat_natCast, hrow, List.length_map]
  have hlast : (!((k == 0) == ((i : Int) == IntKind.wrap .i64 (((all.length : Nat) : Int) - 1)))) = false := by
    rw [i64w (by omega) (by omega)]
    by_cases h0 : k = 0
    · have := hk.1 h0
      rw [h0, show ((i : Int) == ((all.length : Nat) : Int) - 1) = true by simp; omega]; rfl
    · have : ¬ i + 1 = all.length := fun e => h0 (hk.2 e)
      rw [show (k == 0) = false by simpa using h0, show ((i : Int) == ((all.length : Nat) : Int) - 1) = false by simp; omega]; rfl
  refine bifT (decide_eq_true (by omega)) (chkI (inBI (by omega) (by omega)) (chkI rfl (chkI rfl (chkI rfl (onOI _ rfl (rII (a : Int) rfl ?_))))))
  refine bifF (decide_eq_false (by omega)) (onOI _ rfl (rII (a : Int) rfl (bifF (decide_eq_false (by omega)) ?_)))
  refine bifI (fun hp => onOI _ rfl (rII (a : Int) rfl (chkI ?_ ?_))) (fun _ => onOI _ rfl (rII k rfl ?_))
  · have := of_decide_eq_true hp
    rw [i64w (by omega) (by omega)]
    exact inBI (by omega) (by omega)
  · have hp' := of_decide_eq_true hp
    obtain ⟨u, hu⟩ : ∃ u, all[i - 1]? = some u := ⟨_, List.getElem?_eq_getElem (by omega)⟩
    have hrow2 : (all.map encT).getD (IntKind.wrap .i64 ((i : Int) - 1)).toNat [] = [D.int .i64 u.1, D.str u.2.1, D.int .i64 (u.2.2 : Int)] := by
      rw [i64w (by omega) (by omega), show (((i : Int) - 1)).toNat = i - 1 by omega, List.getD_eq_getElem?_getD, List.getElem?_map, hu]; rfl
    rw [hrow2]
    refine onOI _ rfl (rII (u.2.2 : Int) rfl ?_)
    refine bifI (fun hle => onOI _ rfl (rII k rfl ?_)) (fun _ => onOI _ rfl (rII k rfl ?_))
    · have := of_decide_eq_true hle
      have h0 : k = 0 := by
        rcases hup u (by omega) hu with h | h
        · omega
        · exact h
      refine bifF (by simp [h0]) (onOI _ rfl (rII k rfl ?_))
      rw [hlast]; exact h2
    · rw [hlast]; exact h2
  · rw [hlast]; exact h2
theorem order_end {l : List UInt8} {all : List T3} {fl : Fl} (h : 0 < all.length) :
    Rest EF 3 Tryd.f3 [0, 0, 1, 0, 1, 1, 1] («lorder.S1» l (all.map encT) fl (all.length : Int)) = some (.ret [.c (.bool true)] []) := by
  refine rest_by fits_FLOrd ((lorder.r1_eq _ _ _ _ _).trans ?_)
  unfold lorder.r1
  rw [List.length_map]
  exact bifF (decide_eq_false (by omega)) (bifT (decide_eq_true (by omega)) rfl)
theorem order_ok (l : List UInt8) : callInf EF 3 [.c (.str l)] [] = some (.ret [.c (.bool true)] []) := by
  refine call_by fits_FLOrd rfl rfl ((lorder.r_eq _ _).trans ?_)
  unfold lorder.r
  refine bifI (fun he => ?_) (fun he => ?_)
  · have he' : lexErr l ≠ 0 := by simpa using he
    rw [lexToks_err he']
    exact bifT rfl rfl
  · have he' : lexErr l = 0 := by simpa using he
    obtain ⟨ts, n, e, h1, h2, h3, h4⟩ := lexToks_ok he'
    rw [e]
    have hlen : (ts ++ [((0 : Int), ([] : List UInt8), n)]).length = ts.length + 1 := by simp
    have last : (ts ++ [((0 : Int), ([] : List UInt8), n)])[ts.length]? = some (0, [], n) := by simp
    have early : ∀ i, i < ts.length → (ts ++ [((0 : Int), ([] : List UInt8), n)])[i]? = ts[i]? := fun i hi => List.getElem?_append_left hi
    generalize hall : ts ++ [((0 : Int), ([] : List UInt8), n)] = all at hlen last early ⊢
    have key : ∀ m i, i + m = all.length → Rest EF 3 Tryd.f3 [0, 0, 1, 0, 1, 1, 1] («lorder.S1» l (all.map encT) (lexFl l) (i : Int)) = some (.ret [.c (.bool true)] []) := by
      intro m
      induction m with
      | zero => intro i hi; rw [show i = all.length by omega]; exact order_end (by omega)
      | succ m ih =>
        intro i hi
        by_cases hl : i = ts.length
        · subst hl
          refine order_round h3 (by omega) last h2 ⟨fun _ => by omega, fun _ => rfl⟩ (fun _ _ => ⟨Nat.zero_le _, rfl⟩) (fun _ _ _ => .inr rfl) (ih _ (by omega))
        · have hi' : i < ts.length := by omega
          have hg := early i hi'
          rw [List.getElem?_eq_getElem hi'] at hg
          obtain ⟨c1, c2, c3, c4, c5⟩ := h4.each ts[i] (List.getElem_mem hi')
          refine order_round h3 (by omega) hg c2 ⟨fun h => by omega, fun h => by omega⟩ c5 (fun u h0 hu => .inl ?_) (ih _ (by omega))
          have hi2 : i - 1 < ts.length := by omega
          rw [early _ hi2, List.getElem?_eq_getElem hi2] at hu
          cases hu
          exact List.pairwise_iff_getElem.1 h4.rise (i - 1) i hi2 hi' (by omega)
    exact key all.length 0 (by omega)
end Go.Proofs.YtmbhohnoolflbaaDoorX
