/-
  HOW A TEXT IS WRITTEN, and that it is read so: plain lists.
-/
import Derived.Test.YtmbhohnoolflbaaDoorXKLQuote
set_option linter.unusedVariables false
set_option linter.unusedSimpArgs false
namespace Go.Proofs.YtmbhohnoolflbaaDoorX
theorem quoteB_cons (c : UInt8) (s : List UInt8) : quoteB (c :: s) = quoteP c ++ quoteB s := rfl
theorem quoteB_append (a b : List UInt8) : quoteB (a ++ b) = quoteB a ++ quoteB b := by simp [quoteB]
theorem quoteP_len (c : UInt8) : 1 ≤ (quoteP c).length ∧ (quoteP c).length ≤ 2 := by
  unfold quoteP
  split
  · decide
  · split
    · decide
    · split <;> exact ⟨by simp, by simp⟩
theorem quoteB_len : ∀ s : List UInt8, s.length ≤ (quoteB s).length ∧ (quoteB s).length ≤ 2 * s.length
  | [] => ⟨by simp [quoteB], by simp [quoteB]⟩
  | c :: s => by
    have h1 := quoteP_len c
    have h2 := quoteB_len s
    rw [quoteB_cons, List.length_append, List.length_cons]
    omega
theorem textM_quoteP (c : UInt8) (r acc : List UInt8) (n : Nat) : textM (quoteP c ++ r) acc n = textM r (acc ++ [c]) (n + (quoteP c).length) := by
  unfold quoteP
  split
  · rename_i h; subst h
    rw [List.cons_append, List.cons_append, List.nil_append, textM.eq_def]
    rfl
  · split
    · rename_i h; subst h
      rw [List.cons_append, List.cons_append, List.nil_append, textM.eq_def]
      rfl
    · split
      · rename_i h
        rcases h with h | h <;> subst h <;> rw [List.cons_append, List.cons_append, List.nil_append, textM.eq_def] <;> rfl
      · rename_i h1 _ h3
        rw [List.cons_append, List.nil_append, textM.eq_def]
        simp only [if_neg h1, if_neg (fun e => h3 (.inl e)), if_neg (fun e => h3 (.inr e))]
        rfl
theorem textM_quote : ∀ (s r acc : List UInt8) (n : Nat), textM (quoteB s ++ 34 :: r) acc n = some (acc ++ s, n + (quoteB s).length + 1)
  | [], r, acc, n => by
    rw [show quoteB [] = [] from rfl, List.nil_append, List.append_nil, textM.eq_def]
    rfl
  | c :: s, r, acc, n => by
    rw [quoteB_cons, List.append_assoc, textM_quoteP, textM_quote s, List.append_assoc, List.length_append]
    simp only [List.cons_append, List.nil_append, Nat.add_assoc]
theorem quoteS_eq (s : List UInt8) : quoteS s = 34 :: (quoteB s ++ [34]) := by simp [quoteS]
theorem quoteS_len (s : List UInt8) : (quoteS s).length = (quoteB s).length + 2 := by rw [quoteS_eq]; simp
theorem next_quote (s : List UInt8) (a : Nat) (o : Bool) : nextR o (quoteS s) a = ⟨0, 3, s, (quoteS s).length⟩ := by
  rw [quoteS_len, quoteS_eq]
  have e : textR (34 :: (quoteB s ++ [34])) = ⟨0, 3, s, (quoteB s).length + 2⟩ := by
    unfold textR
    rw [show (34 :: (quoteB s ++ [34])).drop 1 = quoteB s ++ 34 :: [] from rfl, textM_quote]
    simp only [List.nil_append, TokR.mk.injEq, true_and]
    omega
  rw [← e]
  rfl
theorem skip_quote (s : List UInt8) : skipN (quoteS s) = 0 := by rw [quoteS_eq, skipN, skN]; simp [begins]
theorem lexW_quote {s : List UInt8} (h : s.length ≤ 3000) : lexW (quoteS s) = ([[.int .i64 3, .str s, .int .i64 0], [.int .i64 0, .str [], .int .i64 ((quoteS s).length : Int)]], 0, 0) := by
  have hb := quoteB_len s
  have hl := quoteS_len s
  unfold lexW
  rw [if_neg (by omega), skip_quote, lexLoop, if_pos (by omega), List.drop_zero, next_quote]
  rw [if_pos (by rfl)]
  simp only [Nat.zero_add, List.drop_length, show skipN [] = 0 from rfl, Nat.add_zero]
  rw [hl, lexLoop, if_neg (by omega), if_neg (by simp)]
  rfl
end Go.Proofs.YtmbhohnoolflbaaDoorX
