/-
  THE LAW LexQuotes answers true, whatever the text.
-/
import Derived.Test.YtmbhohnoolflbaaDoorXGLQuote
import Derived.Test.YtmbhohnoolflbaaDoorXSLQuote0
import Derived.Test.YtmbhohnoolflbaaDoorXSLOrder
set_option linter.unusedVariables false
set_option linter.unusedSimpArgs false
set_option maxRecDepth 100000
namespace Go.Proofs.YtmbhohnoolflbaaDoorX
theorem u8of {c : UInt8} {k : Nat} (hk : k < 256) (h : (((c.toNat : Nat) : Int) == ((k : Nat) : Int)) = true) : c = UInt8.ofNat k := by
  rw [u8eqI c k hk] at h
  exact eq_of_beq h
theorem u8ne {c : UInt8} {k : Nat} (hk : k < 256) (h : (((c.toNat : Nat) : Int) == ((k : Nat) : Int)) = false) : c ≠ UInt8.ofNat k := by
  rw [u8eqI c k hk] at h
  exact fun e => by rw [e] at h; simp at h
theorem bytesD_row {l : List UInt8} {n : Nat} {c : UInt8} {r : List UInt8} (h : l.drop n = c :: r) : (bytesD l).getD n [] = [D.int .u8 (c.toNat : Int)] := by
  obtain ⟨h1, h2, _, _⟩ := drop_cons h 0
  rw [List.getD_eq_getElem?_getD] at h2
  rw [List.getD_eq_getElem?_getD, bytesD_get]
  rw [List.getElem?_eq_getElem h1] at h2 ⊢
  simp only [Option.getD_some] at h2
  rw [h2]; rfl
theorem fits_FQuote : Fits EF FQuote := Fits.only fits_writeString (Fits.only fits_writeByte (Fits.only fits_string fits_no))
theorem lquote_loop {l : List UInt8} (hl : l.length ≤ 1000000) : ∀ (f : Nat) (acc : List UInt8) (i : Nat), l.length - i < f → i ≤ l.length → acc.length ≤ 2 * i + 1 →
    Rest EF 17 Tryd.f17 [0, 0, 1, 0, 1, 1, 1] («lquote.S1» (bytesD l) (l.length : Int) (i : Int) acc) = some (.ret [.c (.str (acc ++ quoteB (l.drop i) ++ [34]))] []) := by
  intro f
  induction f with
  | zero => intro acc i hf; omega
  | succ f ih =>
    intro acc i hf hi ha
    refine rest_by fits_FQuote ((lquote.r1_eq _ _ _ _ _).trans ?_)
    unfold lquote.r1
    cases hd : l.drop i with
    | nil =>
      have := drop_nil_len hd hi
      refine bifF (decide_eq_false (by omega)) (chkI (Nat.ble_eq_true_of_le (by omega)) (chkI (Nat.ble_eq_true_of_le (by rw [List.length_append, List.length_singleton]; omega)) ?_))
      rw [show quoteB [] = [] from rfl, List.append_nil]; rfl
    | cons c r =>
      obtain ⟨h1, _, h3, h4⟩ := drop_cons hd 0
      have ec : UInt8.ofNat ((c.toNat : Int)).toNat = c := by rw [Int.toNat_natCast, UInt8.ofNat_toNat]
      have hc8 := u8lt c
      have go : ∀ acc', acc' = acc ++ quoteP c → Rest EF 17 Tryd.f17 [0, 0, 1, 0, 1, 1, 1] («lquote.S1» (bytesD l) (l.length : Int) ((i + 1 : Nat) : Int) acc') = some (.ret [.c (.str (acc ++ quoteB (c :: r) ++ [34]))] []) := by
        intro acc' e
        have hq := quoteP_len c
        have := ih acc' (i + 1) (by omega) (by omega) (by rw [e, List.length_append]; omega)
        rw [this, h3, e, quoteB_cons, List.append_assoc acc]
      have plain : c ≠ 10 → c ≠ 9 → c ≠ 92 → c ≠ 34 → chk (inB (c.toNat : Int) 256 && Nat.ble (acc.length + 1) 140737488355328) (Rest EF 17 Tryd.f17 [0, 0, 1, 0, 1, 1, 1] («lquote.S1» (bytesD l) (l.length : Int) ((i + 1 : Nat) : Int) (acc ++ [UInt8.ofNat ((c.toNat : Int)).toNat]))) = some (.ret [.c (.str (acc ++ quoteB (c :: r) ++ [34]))] []) := by
        intro n1 n2 n3 n4
        refine chkI (by rw [inBI (by omega) (by omega), Nat.ble_eq_true_of_le (by omega)]; rfl) (go _ ?_)
        rw [ec, quoteP, if_neg n1, if_neg n2, if_neg (fun e => e.elim n3 n4)]
      have esc : (c = 92 ∨ c = 34) → chk (Nat.ble (acc.length + 1) 140737488355328) (chk (inB (c.toNat : Int) 256 && Nat.ble ((acc ++ [UInt8.ofNat 92]).length + 1) 140737488355328) (Rest EF 17 Tryd.f17 [0, 0, 1, 0, 1, 1, 1] («lquote.S1» (bytesD l) (l.length : Int) ((i + 1 : Nat) : Int) (acc ++ [UInt8.ofNat 92] ++ [UInt8.ofNat ((c.toNat : Int)).toNat])))) = some (.ret [.c (.str (acc ++ quoteB (c :: r) ++ [34]))] []) := by
        intro h
        refine chkI (Nat.ble_eq_true_of_le (by omega)) (chkI (by rw [inBI (by omega) (by omega), Nat.ble_eq_true_of_le (by rw [List.length_append, List.length_singleton]; omega)]; rfl) (go _ ?_))
        rw [ec, List.append_assoc]
        rcases h with h | h <;> subst h <;> rfl
      rw [i64s (by omega), Int.toNat_natCast, bytesD_row hd]
      refine bifT (decide_eq_true (by omega)) (chkI (inBI (by omega) (by rw [bytesD_length]; omega)) (onOI _ rfl (rII (c.toNat : Int) rfl ?_)))
      refine bifI (fun h => ?_) (fun a1 => bifI (fun h => ?_) (fun a2 => bifI (fun h => bifT h (esc (.inl (u8of (k := 92) (by decide) h)))) (fun a3 => bifI (fun h => esc (.inr (u8of (k := 34) (by decide) h))) (fun a4 => plain (u8ne (k := 10) (by decide) a1) (u8ne (k := 9) (by decide) a2) (u8ne (k := 92) (by decide) a3) (u8ne (k := 34) (by decide) a4)))))
      · have := u8of (k := 10) (by decide) h
        exact chkI (Nat.ble_eq_true_of_le (by omega)) (go _ (by rw [this]; rfl))
      · have := u8of (k := 9) (by decide) h
        exact chkI (Nat.ble_eq_true_of_le (by omega)) (go _ (by rw [this]; rfl))
theorem lquote_ok {l : List UInt8} (hl : l.length ≤ 1000000) : callInf EF 17 [.c (.str l)] [] = some (.ret [.c (.str (quoteS l))] []) := by
  refine call_by fits_FQuote rfl rfl ((lquote.r_eq _ _).trans ?_)
  unfold lquote.r
  rw [bytesD_length]
  exact lquote_loop hl (l.length + 1) [34] 0 (by omega) (by omega) (by simp)
theorem rquote_loop {l : List UInt8} (hl : l.length ≤ 1000000) : ∀ (f : Nat) (acc : List UInt8) (i : Nat), l.length - i < f → i ≤ l.length → acc.length ≤ 2 * i + 1 →
    Rest EF 18 Tryd.f18 [0, 0, 1, 0, 1, 1] («rquote.S1» l acc (i : Int)) = some (.ret [.c (.str (acc ++ quoteB (l.drop i) ++ [34]))] []) := by
  intro f
  induction f with
  | zero => intro acc i hf; omega
  | succ f ih =>
    intro acc i hf hi ha
    refine rest_by fits_no ((rquote.r1_eq _ _ _ _).trans ?_)
    unfold rquote.r1
    cases hd : l.drop i with
    | nil =>
      have := drop_nil_len hd hi
      refine bifF (decide_eq_false (by omega)) (chkI (decide_eq_true (by simp only [List.length_singleton]; omega)) ?_)
      rw [show quoteB [] = [] from rfl, List.append_nil]
    | cons c r =>
      obtain ⟨h1, h2, h3, h4⟩ := drop_cons hd 0
      have hc8 := u8lt c
      have go : ∀ acc', acc' = acc ++ quoteP c → Rest EF 18 Tryd.f18 [0, 0, 1, 0, 1, 1] («rquote.S1» l acc' ((i + 1 : Nat) : Int)) = some (.ret [.c (.str (acc ++ quoteB (c :: r) ++ [34]))] []) := by
        intro acc' e
        have hq := quoteP_len c
        have := ih acc' (i + 1) (by omega) (by omega) (by rw [e, List.length_append]; omega)
        rw [this, h3, e, quoteB_cons, List.append_assoc acc]
      have ed : (l.take (i + 1)).drop i = [c] := by rw [List.drop_take, hd, Nat.add_sub_cancel_left]; rfl
      have side : (decide ((0 : Int) ≤ (i : Int)) && decide ((i : Int) ≤ ((i + 1 : Nat) : Int)) && decide (((i + 1 : Nat) : Int) ≤ (l.length : Int))) = true := by
        rw [decide_eq_true (by omega), decide_eq_true (by omega), decide_eq_true (by omega)]; rfl
      rw [i64s (by omega), Int.toNat_natCast, Int.toNat_natCast, h2, ed]
      have esc : (c = 92 ∨ c = 34) → chk (decide (acc.length + ([92] : List UInt8).length ≤ 9223372036854775807)) (chk (decide ((0 : Int) ≤ (i : Int)) && decide ((i : Int) ≤ ((i + 1 : Nat) : Int)) && decide (((i + 1 : Nat) : Int) ≤ (l.length : Int))) (chk (decide ((acc ++ ([92] : List UInt8)).length + [c].length ≤ 9223372036854775807)) (Rest EF 18 Tryd.f18 [0, 0, 1, 0, 1, 1] («rquote.S1» l (acc ++ ([92] : List UInt8) ++ [c]) ((i + 1 : Nat) : Int))))) = some (.ret [.c (.str (acc ++ quoteB (c :: r) ++ [34]))] []) := by
        intro h
        refine chkI (decide_eq_true (by simp only [List.length_singleton]; omega)) (chkI side (chkI (decide_eq_true (by simp only [List.length_append, List.length_singleton]; omega)) (go _ ?_)))
        rw [List.append_assoc]
        rcases h with h | h <;> subst h <;> rfl
      refine bifT (decide_eq_true (by omega)) (chkI (inBI (by omega) (by omega)) ?_)
      refine bifI (fun h => ?_) (fun a1 => bifI (fun h => ?_) (fun a2 => bifI (fun h => bifT h (esc (.inl (u8of (k := 92) (by decide) h)))) (fun a3 => bifI (fun h => esc (.inr (u8of (k := 34) (by decide) h))) (fun a4 => ?_))))
      · have := u8of (k := 10) (by decide) h
        exact chkI (decide_eq_true (by simp only [List.length_cons, List.length_nil]; omega)) (go _ (by rw [this]; rfl))
      · have := u8of (k := 9) (by decide) h
        exact chkI (decide_eq_true (by simp only [List.length_cons, List.length_nil]; omega)) (go _ (by rw [this]; rfl))
      · refine chkI side (chkI (decide_eq_true (by simp only [List.length_singleton]; omega)) (go _ ?_))
        have n1 : c ≠ 10 := u8ne (k := 10) (by decide) a1
        have n2 : c ≠ 9 := u8ne (k := 9) (by decide) a2
        have n3 : ¬ (c = 92 ∨ c = 34) := fun e => e.elim (u8ne (k := 92) (by decide) a3) (u8ne (k := 34) (by decide) a4)
        rw [quoteP, if_neg n1, if_neg n2, if_neg n3]
theorem rquote_ok {l : List UInt8} (hl : l.length ≤ 1000000) : callInf EF 18 [.c (.str l)] [] = some (.ret [.c (.str (quoteS l))] []) := by
  refine call_by fits_no rfl rfl ((rquote.r_eq _ _).trans ?_)
  unfold rquote.r
  exact rquote_loop hl (l.length + 1) [34] 0 (by omega) (by omega) (by simp)
theorem fits_lquote : FitsAt EF 17 pQuote := by
  intro a b κ κp r h
  unfold pQuote at h
  split at h
  · obtain ⟨hc, h⟩ := chk_inv h
    exact ⟨_, lquote_ok (Nat.le_of_ble_eq_true hc), h⟩
  · cases h
theorem fits_rquote : FitsAt EF 18 pQuote := by
  intro a b κ κp r h
  unfold pQuote at h
  split at h
  · obtain ⟨hc, h⟩ := chk_inv h
    exact ⟨_, rquote_ok (Nat.le_of_ble_eq_true hc), h⟩
  · cases h
theorem fits_FLQuo : Fits EF FLQuo := Fits.only fits_words (Fits.only fits_lquote (Fits.only fits_rquote (Fits.only fits_lives11 fits_no)))
theorem quotes_ok (l : List UInt8) : callInf EF 5 [.c (.str l)] [] = some (.ret [.c (.bool true)] []) := by
  refine call_by fits_FLQuo rfl rfl ((lquotes.r_eq _ _).trans ?_)
  unfold lquotes.r
  refine bifI (fun _ => rfl) (fun h => ?_)
  have h3 : l.length ≤ 3000 := by have := of_decide_eq_false h; omega
  have hw := lexW_quote h3
  have e1 : lexErr (quoteS l) = 0 := by rw [lexErr, hw]
  have e2 : lexToks (quoteS l) = [[.int .i64 3, .str l, .int .i64 0], [.int .i64 0, .str [], .int .i64 ((quoteS l).length : Int)]] := by rw [lexToks, hw]
  rw [e1, e2]
  refine chkI (Nat.ble_eq_true_of_le (by omega)) (chkI (Nat.ble_eq_true_of_le (by omega)) (bifT (beq_self_eq_true _) (bifT rfl (bifT rfl (chkI rfl (chkI rfl (onOI _ rfl (rII 3 rfl (onOI _ rfl ?_)))))))))
  simp only [rS]
  refine onOI _ rfl (rII 0 rfl (bifT ?_ rfl))
  simp
end Go.Proofs.YtmbhohnoolflbaaDoorX
