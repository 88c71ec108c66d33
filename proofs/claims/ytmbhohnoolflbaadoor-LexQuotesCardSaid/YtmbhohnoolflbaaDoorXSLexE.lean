/-
  WORDS OF PROGRAMS: lex.Words, and what its tokens are like.
-/
import Derived.Test.YtmbhohnoolflbaaDoorXSLexD
set_option linter.unusedVariables false
set_option linter.unusedSimpArgs false
set_option maxRecDepth 100000
namespace Go.Proofs.YtmbhohnoolflbaaDoorX

/-! ### What is read of a token -/
theorem textM_bd : ∀ (r acc : List UInt8) (m : Nat) {S : List UInt8} {k : Nat}, textM r acc m = some (S, k) → m < k ∧ k ≤ m + r.length ∧ S.length ≤ acc.length + 2 * r.length
  | [], _, _, _, _, h => by simp [textM] at h
  | c :: r, acc, m, S, k, h => by
    rw [textM.eq_def] at h
    simp only at h
    split at h
    · cases h
    · split at h
      · cases h; simp only [List.length_cons]; omega
      · split at h
        · cases r with
          | nil => cases h
          | cons d r =>
            simp only at h
            split at h
            · cases h
            · have := textM_bd r _ _ h
              have hl := strokeL_len d
              simp only [List.length_append, List.length_cons] at *
              omega
        · have := textM_bd r _ _ h
          simp only [List.length_append, List.length_cons, List.length_nil] at *
          omega
theorem patM_bd : ∀ (f : Nat) (r : List UInt8) (i : Nat) (o : Int) (acc : List UInt8) {S : List UInt8} {k : Nat}, r.length < f → patM r i o acc = some (S, k) → i < k ∧ k ≤ i + r.length ∧ S.length ≤ acc.length + 2 * r.length
  | 0, r, _, _, _, _, _, hf, _ => by omega
  | f + 1, [], _, _, _, _, _, _, h => by simp [patM] at h
  | f + 1, c :: r, i, o, acc, S, k, hf, h => by
    simp only [List.length_cons] at hf
    rw [patM.eq_def] at h
    simp only at h
    have step : ∀ {o' : Int}, patM r (i + 1) o' (acc ++ [c]) = some (S, k) → i < k ∧ k ≤ i + (c :: r).length ∧ S.length ≤ acc.length + 2 * (c :: r).length := fun h => by
      have := patM_bd f r _ _ _ (by omega) h
      simp only [List.length_append, List.length_cons, List.length_nil] at *
      omega
    split at h
    · cases h
    · split at h
      · split at h
        · exact step h
        · cases r with
          | nil => cases h
          | cons d r =>
            simp only [List.length_cons] at hf
            have := patM_bd f r _ _ _ (by omega) h
            simp only [List.length_append, List.length_cons, List.length_nil] at *
            split at this <;> simp only [List.length_nil, List.length_cons] at this <;> omega
      · split at h
        · exact step h
        · split at h
          · exact step h
          · split at h
            · cases h; simp only [List.length_cons]; omega
            · exact step h
theorem numN_pos {c : UInt8} {r : List UInt8} (h : (isDig (bI c) || (c == 46 && isDig (bI (r.headD 0)))) = true) : 0 < numN (c :: r) := by
  by_cases hc : isDig (bI c) = true
  · have h1 : 0 < (runDig (c :: r)).length := by simp [runDig, List.takeWhile_cons, hc]
    unfold numN
    split
    · split <;> omega
    · exact h1
  · have hc' : isDig (bI c) = false := by simpa using hc
    rw [hc', Bool.false_or, Bool.and_eq_true] at h
    have h46 : c = 46 := by simpa using h.1
    have h0 : (runDig (c :: r)) = [] := by simp [runDig, List.takeWhile_cons, hc']
    unfold numN
    rw [h0, List.length_nil, List.drop_zero]
    simp only [h46, if_true]
    omega
/-- What is so of a token that is read. -/
structure TokOk (s : List UInt8) (t : TokR) : Prop where
  n1 : 1 ≤ t.n
  n2 : t.n ≤ s.length
  k1 : 1 ≤ t.k
  k2 : t.k ≤ 9
  len : t.S.length ≤ 2 * s.length + 2
  seg : t.k ≠ 3 → t.k ≠ 4 → t.S.length ≤ s.length ∧ s.take t.S.length = t.S
theorem nextR_ok {opd : Bool} {s : List UInt8} {a : Nat} (h : (nextR opd s a).err = 0) : TokOk s (nextR opd s a) := by
  cases s with
  | nil => simp [nextR] at h
  | cons c r =>
    rw [nextR] at h ⊢
    have hs : (c :: r).length = r.length + 1 := rfl
    split
    · rename_i hc
      exact ⟨by simp, by simp, by simp, by simp, by simp, fun _ _ => ⟨by simp, by simp [hc]⟩⟩
    · rename_i hc
      rw [if_neg hc] at h
      split
      · rename_i hl
        rw [if_pos hl] at h
        have hpos : 0 < (runInn (c :: r)).length := by
          have : isInn (bI c) = true := by simp [isInn, hl]
          simp [runInn, List.takeWhile_cons, this]
        have hle := runInn_le (c :: r)
        have key : ∀ k : Int, 1 ≤ k → k ≤ 9 → TokOk (c :: r) ⟨0, k, runInn (c :: r), (runInn (c :: r)).length⟩ := fun k h1 h2 => ⟨hpos, hle, h1, h2, by simp only; omega, fun _ _ => ⟨hle, takeWhile_take _ _⟩⟩
        unfold nameR at h ⊢
        simp only at h ⊢
        split
        · rename_i hq; rw [if_pos hq] at h; simp at h
        · split
          · exact key 7 (by decide) (by decide)
          · split
            · exact key 8 (by decide) (by decide)
            · split
              · exact key 6 (by decide) (by decide)
              · exact key 5 (by decide) (by decide)
      · rename_i hl
        rw [if_neg hl] at h
        split
        · rename_i hd
          have hle := numN_le (c :: r)
          have hpos := numN_pos hd
          refine ⟨hpos, hle, by simp [numR], by simp [numR], ?_, fun _ _ => ?_⟩
          · simp only [numR, List.length_take]; omega
          · simp only [numR, List.length_take]
            exact ⟨by omega, by rw [List.take_eq_take_iff]; omega⟩
        · rename_i hd
          rw [if_neg hd] at h
          split
          · rename_i h34
            rw [if_pos h34] at h
            unfold textR at h ⊢
            rw [List.drop_one, List.tail_cons] at h ⊢
            cases hm : textM r [] 1 with
            | none => rw [hm] at h; simp at h
            | some p =>
              obtain ⟨S, k⟩ := p
              have := textM_bd r [] 1 hm
              simp only [List.length_nil] at this
              refine ⟨?_, ?_, by simp, by simp, ?_, fun h => absurd rfl h⟩
              · simp only; omega
              · simp only [hs]; omega
              · simp only [hs]; omega
          · rename_i h34
            rw [if_neg h34] at h
            split
            · rename_i h47
              rw [if_pos h47] at h
              unfold patR at h ⊢
              rw [List.drop_one, List.tail_cons] at h ⊢
              cases hm : patM r (a + 1) (-1) [] with
              | none => rw [hm] at h; simp at h
              | some p =>
                obtain ⟨S, k⟩ := p
                have := patM_bd (r.length + 1) r (a + 1) (-1) [] (by omega) hm
                simp only [List.length_nil] at this
                refine ⟨?_, ?_, by simp, by simp, ?_, fun _ h => absurd rfl h⟩
                · simp only; omega
                · simp only [hs]; omega
                · simp only [hs]; omega
            · rename_i h47
              rw [if_neg h47] at h
              unfold signR at h ⊢
              split
              · rename_i hp
                refine ⟨by simp, by simp only; omega, by simp, by simp, ?_, fun _ _ => ?_⟩
                · simp only [List.length_take]; omega
                · simp only [List.length_take]
                  exact ⟨by omega, by rw [List.take_eq_take_iff]; omega⟩
              · rename_i hp
                rw [if_neg hp] at h
                split
                · refine ⟨by simp, by simp, by simp, by simp, ?_, fun _ _ => ?_⟩
                  · simp only [List.length_take]; omega
                  · simp only [List.length_take]
                    exact ⟨by omega, by rw [List.take_eq_take_iff]; omega⟩
                · rename_i hq; rw [if_neg hq] at h; simp at h
theorem terr_zero {es : List (List D)} {t : TokR} (h : terr es t = 0) : t.err = 0 ∧ es.length ≠ 3000 := by
  unfold terr at h
  split at h
  · rename_i h0
    refine ⟨h0, fun e => ?_⟩
    rw [if_pos e] at h
    cases h
  · contradiction

/-! ### lex.Words -/
theorem fits_FWords : Fits EF FWords := Fits.only fits_put (Fits.only fits_skip (Fits.only fits_next fits_no))
def wordsRes : List (List D) × Nat × Int → Res
  | (ts, a, e) => .ret [.c (.sl 3 ts (if e = 0 then .sh else .own)), .c (.int .i64 (a : Int)), .c (.int .i64 e)] []
theorem okLast_snoc {es : List (List D)} {k a : Int} {S : List UInt8} (h : S.length ≤ 1000000) : okLast (es ++ [[D.int .i64 k, D.str S, D.int .i64 a]]) = true := by
  simp only [okLast, List.getLast?_append, List.getLast?_singleton, Option.some_or, okTok]
  exact Nat.ble_eq_true_of_le h
/-- One round, whatever the box's right to append. -/
theorem words_round {l : List UInt8} (hl : l.length ≤ 8000) {f n : Nat} {es : List (List D)} {fl : Fl} {J : List Nat → St → R} {X : List (List D) → Int → R} (hr : RdOk l n es fl) (hk : okLast es = true)
    (next : ∀ n' es', n < n' → n' ≤ l.length → es'.length ≤ 3000 → okLast es' = true → X es' (n' : Int) = some (wordsRes (lexLoop f l n' es'))) :
    (bif decide ((n : Int) < ((l.length : Nat) : Int)) then chk (okR l (n : Int) es fl && okLast es && decide ((n : Int) < ((l.length : Nat) : Int))) (bif terr es (fNext (at' l (n : Int)) (n : Int) es) == 0 then
        chk (okR l ((n : Int) + ((fNext (at' l (n : Int)) (n : Int) es).n : Int)) (es ++ [[D.int .i64 (fNext (at' l (n : Int)) (n : Int) es).k, D.str (fNext (at' l (n : Int)) (n : Int) es).S, D.int .i64 (n : Int)]]) .own)
          (X (es ++ [[D.int .i64 (fNext (at' l (n : Int)) (n : Int) es).k, D.str (fNext (at' l (n : Int)) (n : Int) es).S, D.int .i64 (n : Int)]]) ((n : Int) + ((fNext (at' l (n : Int)) (n : Int) es).n : Int) + (skipN (at' l ((n : Int) + ((fNext (at' l (n : Int)) (n : Int) es).n : Int))) : Int)))
      else some (.ret [.c (.sl 3 [] .own), .c (.int .i64 (n : Int)), .c (.int .i64 (terr es (fNext (at' l (n : Int)) (n : Int) es)))] []))
    else chk (okR l (n : Int) es fl && true && true) (bif Nat.beq es.length 3000 then some (.ret [.c (.sl 3 [] .own), .c (.int .i64 (n : Int)), .c (.int .i64 2)] [])
      else some (.ret [.c (.sl 3 (es ++ [[D.int .i64 0, D.str [], D.int .i64 (n : Int)]]) .sh), .c (.int .i64 0), .c (.int .i64 0)] []))) = some (wordsRes (lexLoop (f + 1) l n es)) := by
  have ea : at' l (n : Int) = l.drop n := by simp [at']
  have hN : fNext (l.drop n) (n : Int) es = nextR (opdB es) (l.drop n) n := by simp only [fNext, Int.toNat_natCast]
  rw [ea, hN, lexLoop]
  have hcnt := hr.cnt
  by_cases hlt : n < l.length
  · rw [if_pos hlt]
    refine bifT (decide_eq_true (by omega)) (chkI (by rw [hr.ok, hk, decide_eq_true (by omega)]; rfl) ?_)
    by_cases ht : terr es (nextR (opdB es) (l.drop n) n) = 0
    · rw [if_pos ht]
      obtain ⟨he, hne⟩ := terr_zero ht
      have hok := nextR_ok he
      have b1 := hok.n1; have b2 := hok.n2; have b3 := hok.len
      rw [List.length_drop] at b2 b3
      have ea2 : at' l ((n : Int) + ((nextR (opdB es) (l.drop n) n).n : Int)) = l.drop (n + (nextR (opdB es) (l.drop n) n).n) := by simp only [at']; congr 1
      have hsk := skipN_le (l.drop (n + (nextR (opdB es) (l.drop n) n).n))
      rw [List.length_drop] at hsk
      rw [ea2]
      have hlen' : (es ++ [[D.int .i64 (nextR (opdB es) (l.drop n) n).k, D.str (nextR (opdB es) (l.drop n) n).S, D.int .i64 (n : Int)]]).length ≤ 3000 := by rw [List.length_append, List.length_singleton]; omega
      have hr' : RdOk l (n + (nextR (opdB es) (l.drop n) n).n) (es ++ [[D.int .i64 (nextR (opdB es) (l.drop n) n).k, D.str (nextR (opdB es) (l.drop n) n).S, D.int .i64 (n : Int)]]) .own := ⟨by omega, hl, hlen', rfl⟩
      refine bifT (by simpa using ht) (chkI hr'.ok ?_)
      have := next (n + (nextR (opdB es) (l.drop n) n).n + skipN (l.drop (n + (nextR (opdB es) (l.drop n) n).n))) _ (by omega) (by omega) hlen' (okLast_snoc (by omega))
      rw [← this]
      rfl
    · rw [if_neg ht]
      refine bifF (by simpa using ht) ?_
      simp only [wordsRes, if_neg ht]
  · rw [if_neg hlt]
    refine bifF (decide_eq_false (by omega)) (chkI (by rw [hr.ok]; rfl) ?_)
    by_cases h3 : es.length = 3000
    · rw [if_pos h3, h3]; rfl
    · rw [if_neg h3]
      have : Nat.beq es.length 3000 = false := by
        cases hq : Nat.beq es.length 3000 with
        | false => rfl
        | true => exact absurd (Nat.eq_of_beq_eq_true hq) h3
      rw [this]; rfl
theorem words_loop {l : List UInt8} (hl : l.length ≤ 8000) : ∀ (f n : Nat) (es : List (List D)), es.length ≤ 3000 → okLast es = true → n ≤ l.length → l.length - n < f →
    Rest EF 9 Tryd.f9 [0, 0, 1, 0, 1, 1, 1, 1] («lwords.S2» l [] 0 0 l (n : Int) es) = some (wordsRes (lexLoop f l n es)) := by
  intro f
  induction f with
  | zero => intro n es _ _ _ hf; omega
  | succ f ih =>
    intro n es he hk hn hf
    refine rest_by fits_FWords ((lwords.r2_eq _ _ _ _ _ _ _ _).trans ?_)
    unfold lwords.r2
    exact words_round (J := Rest EF 9 Tryd.f9) (X := fun es n => Rest EF 9 Tryd.f9 [0, 0, 1, 0, 1, 1, 1, 1] («lwords.S2» l [] 0 0 l n es)) hl ⟨hn, hl, he, rfl⟩ hk (fun n' es' h1 h2 h3 h4 => ih n' es' h3 h4 h2 (by omega))
theorem words_ok (l : List UInt8) : callInf EF 9 [.c (.str l)] [] = some (wordsRes (lexW l)) := by
  refine call_by fits_FWords rfl rfl ((lwords.r_eq _ _).trans ?_)
  unfold lwords.r lexW
  by_cases h8 : 8000 < l.length
  · rw [if_pos h8]
    exact bifT (decide_eq_true (by omega)) rfl
  · rw [if_neg h8]
    have hl : l.length ≤ 8000 := by omega
    have ea : at' l 0 = l := by simp [at']
    have hsk := skipN_le l
    have hr0 : RdOk l 0 [] .ti := ⟨Nat.zero_le _, hl, Nat.zero_le _, rfl⟩
    refine bifF (decide_eq_false (by omega)) (chkI hr0.ok ?_)
    rw [ea, show ((0 : Int) + (skipN l : Int)) = ((skipN l : Nat) : Int) by omega]
    refine rest_by fits_FWords ((lwords.r1_eq _ _ _ _ _ _ _ _).trans ?_)
    unfold lwords.r1
    exact words_round (J := Rest EF 9 Tryd.f9) (X := fun es n => Rest EF 9 Tryd.f9 [0, 0, 1, 0, 1, 1, 1, 1] («lwords.S2» l [] 0 0 l n es)) hl ⟨hsk, hl, by simp, rfl⟩ rfl (fun n' es' h1 h2 h3 h4 => words_loop hl l.length n' es' h3 h4 h2 (by omega))
theorem fits_words : FitsAt EF 9 pWords := by
  intro a b κ κp r h
  unfold pWords at h
  split at h
  · exact ⟨_, words_ok _, h⟩
  · cases h

/-! ### What the tokens are like -/
abbrev T3 := Int × List UInt8 × Nat
def encT (t : T3) : List D := [.int .i64 t.1, .str t.2.1, .int .i64 (t.2.2 : Int)]
/-- A token stands where it says, but for texts and patterns. -/
def Seg (l : List UInt8) (t : T3) : Prop := t.1 ≠ 3 → t.1 ≠ 4 → t.2.1.length ≤ l.length - t.2.2 ∧ (l.drop t.2.2).take t.2.1.length = t.2.1
structure AccOk (l : List UInt8) (n : Nat) (ts : List T3) : Prop where
  each : ∀ t, t ∈ ts → t.2.2 < n ∧ t.2.2 ≤ l.length ∧ 1 ≤ t.1 ∧ t.1 ≤ 9 ∧ Seg l t
  rise : ts.Pairwise fun t t' => t.2.2 < t'.2.2
theorem lexLoop_ok {l : List UInt8} : ∀ (f n : Nat) (ts : List T3), ts.length ≤ 3000 → AccOk l n ts → n ≤ l.length → (lexLoop f l n (ts.map encT)).2.2 = 0 →
    ∃ ts' : List T3, ∃ n', (lexLoop f l n (ts.map encT)).1 = (ts' ++ [(0, [], n')]).map encT ∧ ts'.length < 3000 ∧ n' ≤ l.length ∧ AccOk l (l.length + 1) ts'
  | 0, _, _, _, _, _, h => by simp [lexLoop] at h
  | f + 1, n, ts, hlen, hacc, hn, h => by
    rw [lexLoop] at h ⊢
    split
    · rename_i hlt
      rw [if_pos hlt] at h
      split
      · rename_i ht
        rw [if_pos ht] at h
        obtain ⟨he, hne⟩ := terr_zero ht
        rw [List.length_map] at hne
        have hok := nextR_ok he
        generalize hT : nextR (opdB (ts.map encT)) (l.drop n) n = T at h hok ⊢
        have b1 := hok.n1; have b2 := hok.n2
        rw [List.length_drop] at b2
        have hsk := skipN_le (l.drop (n + T.n))
        rw [List.length_drop] at hsk
        have e : ts.map encT ++ [[D.int .i64 T.k, D.str T.S, D.int .i64 (n : Int)]] = (ts ++ [(T.k, T.S, n)]).map encT := by simp [encT]
        rw [e] at h ⊢
        refine lexLoop_ok f _ _ (by rw [List.length_append, List.length_singleton]; omega) ⟨fun t ht' => ?_, ?_⟩ (by omega) h
        · rcases List.mem_append.1 ht' with h1 | h1
          · obtain ⟨c1, c2⟩ := hacc.each t h1
            exact ⟨by omega, c2⟩
          · simp only [List.mem_singleton] at h1
            subst h1
            refine ⟨by simp only; omega, by simp only; omega, hok.k1, hok.k2, fun h3 h4 => ?_⟩
            obtain ⟨c1, c2⟩ := hok.seg h3 h4
            rw [List.length_drop] at c1
            exact ⟨c1, c2⟩
        · rw [List.pairwise_append]
          refine ⟨hacc.rise, List.pairwise_singleton _ _, fun t ht' t' ht'' => ?_⟩
          simp only [List.mem_singleton] at ht''
          subst ht''
          exact (hacc.each t ht').1
      · rename_i ht
        rw [if_neg ht] at h
        exact absurd h ht
    · rename_i hlt
      rw [if_neg hlt] at h
      split
      · rename_i h3; rw [if_pos h3] at h; cases h
      · rename_i h3
        rw [List.length_map] at h3
        refine ⟨ts, n, by simp [encT], by omega, hn, ⟨fun t ht => ?_, hacc.rise⟩⟩
        obtain ⟨c1, c2, c3⟩ := hacc.each t ht
        exact ⟨by omega, c2, c3⟩
theorem lexToks_ok {l : List UInt8} (h : lexErr l = 0) : ∃ ts : List T3, ∃ n, lexToks l = (ts ++ [(0, [], n)]).map encT ∧ ts.length < 3000 ∧ n ≤ l.length ∧ l.length ≤ 8000 ∧ AccOk l (l.length + 1) ts := by
  unfold lexErr lexW at h
  unfold lexToks lexW
  split
  · rename_i h8; rw [if_pos h8] at h; cases h
  · rename_i h8
    rw [if_neg h8] at h
    obtain ⟨ts, n, h1, h2, h3, h4⟩ := lexLoop_ok (l := l) (l.length + 1) (skipN l) [] (by simp) ⟨by simp, .nil⟩ (skipN_le l) h
    exact ⟨ts, n, h1, h2, h3, by omega, h4⟩
theorem lexToks_err {l : List UInt8} (h : lexErr l ≠ 0) : lexToks l = [] := by
  have key : ∀ (f n : Nat) (es : List (List D)), (lexLoop f l n es).2.2 ≠ 0 → (lexLoop f l n es).1 = [] := by
    intro f
    induction f with
    | zero => intro n es _; rfl
    | succ f ih =>
      intro n es h
      rw [lexLoop] at h ⊢
      split
      · rename_i hlt
        rw [if_pos hlt] at h
        split
        · rename_i ht; rw [if_pos ht] at h; exact ih _ _ h
        · rfl
      · rename_i hlt
        rw [if_neg hlt] at h
        split
        · rfl
        · rename_i h3; rw [if_neg h3] at h; exact absurd rfl h
  unfold lexErr lexW at h
  unfold lexToks lexW
  split
  · rfl
  · rename_i h8; rw [if_neg h8] at h; exact key _ _ _ h

end Go.Proofs.YtmbhohnoolflbaaDoorX
