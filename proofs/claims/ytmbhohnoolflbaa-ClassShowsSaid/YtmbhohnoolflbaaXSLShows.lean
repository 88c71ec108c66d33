/-
  THE LAW ClassShows answers true, whatever the set and the texts.
-/
import Derived.Test.YtmbhohnoolflbaaXGLShows
import Derived.Test.YtmbhohnoolflbaaXSReads
set_option linter.unusedVariables false
set_option linter.unusedSimpArgs false
set_option maxRecDepth 100000
namespace Go.Proofs.YtmbhohnoolflbaaX

theorem fits_pShow : FitsAt E 12 pShowS := by
  intro a b κ κp r h
  unfold pShowS at h
  split at h
  · obtain ⟨N, hN, h1⟩ := onO_inv h
    obtain ⟨rfl, hN'⟩ := decS_some hN
    exact ⟨_, show_ok hN', h1⟩
  · cases h
theorem fits_prShow : FitsAt E 14 pShowS := by
  intro a b κ κp r h
  unfold pShowS at h
  split at h
  · obtain ⟨N, hN, h1⟩ := onO_inv h
    obtain ⟨rfl, hN'⟩ := decS_some hN
    exact ⟨_, rshow_ok hN', h1⟩
  · cases h
theorem fits_parseS : FitsAt E 13 pParseS := by
  intro a b κ κp r h
  unfold pParseS at h
  split at h
  · obtain ⟨x, hx, h1⟩ := onO_inv h
    unfold cParse at hx
    split at hx
    · rename_i e
      cases hx
      exact ⟨_, e, h1⟩
    · cases hx
  · cases h
theorem lives04 : callInf E 11 [] [] = some (.ret [.c (.bool true)] []) := lim_of (callN_mono 11 [] []) (k := 300) (by kernel_rfl)
theorem fits_lives : FitsAt E 11 pTrueS := by
  intro a b κ κp r h
  unfold pTrueS at h
  split at h
  · exact ⟨_, lives04, h⟩
  · cases h
theorem fits_FLS : Fits E FLS := Fits.only fits_pShow (Fits.only fits_parseS (Fits.only fits_prShow (Fits.only fits_lives fits_no)))
theorem bodyS_len (M : Nat) : ∀ (n i : Nat), (bodyS M i n).length ≤ 2 * n
  | 0, i => by simp [bodyS]
  | n + 1, i => by
    have h1 := bodyS_len M n (i + 1)
    have h2 := piece_len i
    rw [bodyS, List.length_append]
    split
    · omega
    · simp only [List.length_nil]; omega
theorem showS_len (N : Nat) : (showS N).length ≤ 600 := by
  have := bodyS_len (if N = 0 then notN 0 else N) 256 0
  rw [showS]
  simp only [List.length_append, List.length_cons, List.length_nil]
  split <;> simp_all <;> omega

theorem shows_rest {N : Nat} (hN : N < 2 ^ 256) {a b : List UInt8} (ha : a.length ≤ 1000) (hb : b.length ≤ 140737488351232) {cs : List C} (hc : cs = encS N) :
    Rest E 4 Try.f4 [1, 1, 1] («shows.S1» a b (showS N) cs) = some (.ret [.c (.bool true)] []) := by
  subst hc
  refine rest_by fits_FLS ((shows.r1_eq _ _ _ _ _).trans ?_)
  unfold shows.r1
  have hs := showS_len N
  have hp : cParse (a ++ showS N ++ b) (a.length : Int) = some (encS N, ((a.length + (showS N).length : Nat) : Int), 0) := by
    unfold cParse
    rw [parse_ok (bh := b) hN (by simp only [List.length_append]; omega) (by rw [List.append_assoc, List.drop_left])]
  have hz : [C.int .u64 (0 : Int), C.int .u64 (0 : Int), C.int .u64 (0 : Int), C.int .u64 (0 : Int)].length = 4 := rfl
  refine chkI (decide_eq_true (by omega)) (chkI (decide_eq_true (by simp only [List.length_append]; omega)) (onOI _ hp ?_))
  simp only [take_all (encS_len _), encS_map, onO_pos (decS_encS hN), put_all hz, encS_len, encS_all]
  have w : IntKind.wrap .i64 ((a.length : Int) + ((showS N).length : Int)) = ((a.length + (showS N).length : Nat) : Int) := by rw [i64w (by omega) (by omega)]; omega
  rw [w, eqRow_set hN hN]
  refine chkI rfl (chkI rfl (chkI rfl (bifT (by simp) (chkI rfl (chkI rfl (chkI rfl ?_))))))
  refine bifT (by simp) (bifT (by simp) (bifT rfl rfl))
theorem shows_ok {N : Nat} (hN : N < 2 ^ 256) {a b : List UInt8} (hb : b.length ≤ 140737488351232) :
    callInf E 4 [.agg (encS N), .c (.str a), .c (.str b)] [] = some (.ret [.c (.bool true)] []) := by
  refine call_by fits_FLS rfl rfl ((shows.r_eq _ _ _ _).trans ?_)
  unfold shows.r
  simp only [take_all (encS_len _), encS_map, onO_pos (decS_encS hN)]
  refine chkI rfl (chkI rfl ?_)
  refine bifI (fun h => chkI (decide_eq_true (by have := of_decide_eq_true h; omega)) ?_) (fun h => ?_)
  · exact shows_rest hN (by simp; omega) hb rfl
  · have := of_decide_eq_false h
    exact shows_rest hN (by omega) hb rfl

end Go.Proofs.YtmbhohnoolflbaaX
