/-
  LIBRARY CALLS that the interpreter takes as known: strings.Builder's methods, strings.IndexByte.
-/
import Derived.Test.YtmbhohnoolflbaaDoorXBld
import Derived.Test.YtmbhohnoolflbaaDoorXShelf
set_option linter.unusedVariables false
set_option linter.unusedSimpArgs false
set_option maxRecDepth 100000
namespace Go.Proofs.YtmbhohnoolflbaaDoorX
open Go.Lib Go.RowKit

def onlyP (f : FuncId) (p : List V → List (List C) → R) : Callee := fun g vs bs => if g = f then p vs bs else none
def FnAt (P : Program) (f : FuncId) : Prop := ∃ fn, P.funcs[f]? = some fn ∧ (fn.name == "runtime.NumGoroutine") = false ∧ fn.body.isNone = false

/-! ### Calls that only hand back a value -/
theorem step_drewN (ch : Nat → Prop) (I : Imm) (w : World) (n : Nat) : Step ch I I w (w.drewN n) :=
  ⟨⟨rfl, rfl, rfl, Nat.le_refl _, fun _ _ _ => rfl⟩, .refl _, fun _ _ _ => rfl, fun _ _ h => .inl h⟩

theorem fnSpec_pure {P : Program} {W : Imm → World → Prop} {f : FuncId} {p : List V → List (List C) → R} (hf : FnAt P f)
    (h : ∀ vs bs r, p vs bs = some r → ∃ v, r = .ret [v] bs ∧ ∀ w I mo args, W I w → relVs I w (mpo mo) vs args → ∃ u, Calls P f args.toArray w (fun e w' => e = .returned u ∧ ∃ n, w' = w.drewN n) ∧ relV I w (fun _ => none) v u []) :
    FnSpec P W (onlyP f p) := by
  intro g vs bs r hr
  unfold onlyP at hr
  split at hr
  · rename_i hg
    subst hg
    refine ⟨hf, ?_⟩
    intro w I mo ow args hW hv hb hI hl
    obtain ⟨v, rfl, h1⟩ := h vs bs r hr
    obtain ⟨u, hc, hu⟩ := h1 w I mo args hW hv
    refine hc.mono ?_
    rintro e w' ⟨rfl, n, rfl⟩
    have hs := step_drewN (fun b => (ow b).isSome = true) I w n
    refine ⟨I, ow, [u], [], ⟨hs, ?_, fun b x hx => .inl (by simp [hx]), fun b x hx => hl b x hx⟩, rfl, ⟨u, [], [], [], rfl, rfl, ?_, rfl, rfl⟩, .nil _ _⟩
    · refine ⟨hb.1, fun i cs hi => ?_⟩
      obtain ⟨b, ts, e1, e2, e3, e4⟩ := hb.2 i cs hi
      exact ⟨b, ts, e1, e2, relB_step (step_drewN No I w n) e3 (fun h => h) (fun _ _ h => h), e4⟩
    · simp only [memN, Bool.false_eq_true, if_false]
      exact relV_step (step_drewN No I w n) hu (by simp)
  · cases hr

/-! ### strings.Builder -/
theorem lt_of_b (x : UInt8) : x.toNat < 256 := UInt8.toNat_lt x
/-- A builder's block out of a box. -/
theorem bldAt_of {I : Imm} {w : World} {ow : Own} {mo : List Nat} {T te : Nat} {l : List UInt8} (hb : Boxes I w ow mo [[.bld T te l]]) (hT : T = 59) (hte : te = 5) :
    ∃ b u v ts, mo = [b] ∧ ow b = some (.blk (.out 0)) ∧ BldAt I w b u l v ts ∧ Held ow (.tip (.out 0)) ts := by
  subst hT; subst hte
  obtain ⟨b, ts, e1, e2, e3, e4⟩ := hb.2 0 _ rfl
  have hmo : mo = [b] := by
    have h1 := hb.1
    cases mo with
    | nil => cases h1
    | cons x r => cases r with
      | nil => simp [mpo, nth] at e1; rw [e1]
      | cons y r => cases h1
  have hne : b ∉ ts := fun h => by have := e4.2 b h; rw [e2] at this; cases this
  rcases e3 with ⟨arr, T, hh, hl, hp, hI⟩ | ⟨l', p, v, T, te, hcs, hh, hp, hv, hI, hte, hown⟩
  · simp [noPtr] at hp
  · simp only [List.cons.injEq, C.bld.injEq, and_true] at hcs
    obtain ⟨rfl, rfl, rfl⟩ := hcs
    rcases hp with rfl | rfl
    · exact ⟨b, false, v, ts, hmo, e2, ⟨by simpa using hh, hv, hI, hte, hne, hown⟩, e4⟩
    · exact ⟨b, true, v, ts, hmo, e2, ⟨by simpa using hh, hv, hI, hte, hne, hown⟩, e4⟩

/-- A builder's block goes back into its box. -/
theorem end_bld {I J : Imm} {w w' : World} {ow : Own} {b : Nat} {u u' : Bool} {l l' : List UInt8} {v v' : Value} {ts ts' : List Nat} (hB : ow b = some (.blk (.out 0))) (h : BldAt I w b u l v ts) (hh : Held ow (.tip (.out 0)) ts)
    (hl : ∀ b x, ow b = some x → b < w.heap.size) (h' : BldAt J w' b u' l' v' ts') (hs : Step (fun y => y = b ∨ y ∈ ts) I J w w') (hnd : ts'.Nodup) (hts : ∀ g, g ∈ ts' → g ∈ ts ∨ (w.heap.size ≤ g ∧ g < w'.heap.size)) :
    ∃ ow', End0 ow I w [b] ow' J w' [[.bld 59 5 l']] := by
  refine ⟨fun k => if k ∈ ts' then some (.tip (.out 0)) else if k ∈ ts then none else ow k, ?_⟩
  have hch : ∀ k, k = b ∨ k ∈ ts → (ow k).isSome = true := fun k hk => by
    rcases hk with rfl | hk
    · simp [hB]
    · simp [hh.2 k hk]
  refine ⟨⟨hs.ext.mono hch, hs.sub, hs.agree, fun k o hk => (hs.made k o hk).imp id (fun h => ⟨h.1.imp (hch k) id, h.2⟩)⟩, ⟨rfl, fun i cs hi => ?_⟩, fun k x hx => ?_, fun k x hx => ?_⟩
  · cases i with
    | succ i => simp [nth] at hi
    | zero =>
      simp [nth] at hi
      subst hi
      refine ⟨b, ts', rfl, by simp [h'.ne, h.ne, hB], ?_, hnd, fun g hg => by simp [hg]⟩
      refine .inr ⟨l', _, v', _, _, rfl, h'.heap, ?_, h'.rel, h'.imm, h'.te, h'.own⟩
      cases u' <;> simp
  · split at hx
    · rename_i hk
      rcases hts k hk with h1 | ⟨h1, _⟩
      · exact .inl (hch k (.inr h1))
      · exact .inr h1
    · split at hx
      · cases hx
      · exact .inl (by simp [hx])
  · split at hx
    · rename_i hk
      rcases hts k hk with h1 | ⟨_, h2⟩
      · exact Nat.lt_of_lt_of_le (hl k _ (hh.2 k h1)) hs.ext.size
      · exact h2
    · split at hx
      · cases hx
      · exact Nat.lt_of_lt_of_le (hl k x hx) hs.ext.size

def pWriteByte : List V → List (List C) → R
  | [.c (.ptr (.out 0) 0), .c (.int .u8 n)], [[.bld T te l]] =>
    chk (Nat.beq T 59 && Nat.beq te 5 && inB n 256 && Nat.ble (l.length + 1) 140737488355328) (some (.ret [.c .nif] [[.bld T te (l ++ [UInt8.ofNat n.toNat])]]))
  | _, _ => none

theorem writeByte_spec (hT : WellT Tryd.prog tys) (W : Imm → World → Prop) : FnSpec Tryd.prog W (onlyP 42 pWriteByte) := by
  intro g vs bs r hr
  unfold onlyP at hr
  split at hr
  case isFalse => cases hr
  rename_i hg
  subst hg
  refine ⟨⟨Tryd.f42, Tryd.func42, by kernel_rfl, by kernel_rfl⟩, ?_⟩
  intro w I mo ow args hW hv hb hI hl
  unfold pWriteByte at hr
  split at hr
  case h_2 => cases hr
  rename_i n T te l
  obtain ⟨hc, h1⟩ := chk_inv hr
  simp only [Bool.and_eq_true, inB, decide_eq_true_eq] at hc
  obtain ⟨⟨⟨c1, c2⟩, c3, c4⟩, c5⟩ := hc
  have hT' := Nat.eq_of_beq_eq_true c1
  have hte' := Nat.eq_of_beq_eq_true c2
  have c5' := Nat.le_of_ble_eq_true c5
  obtain ⟨b, u, v, ts, rfl, hB, hbld, hh⟩ := bldAt_of hb hT' hte'
  obtain ⟨_, _, rfl, ⟨⟨b', hb1, rfl⟩, _⟩, _, _, rfl, ⟨rfl, _⟩, rfl⟩ := hv
  have : b' = b := by simp [mpo, nth] at hb1; exact hb1.symm
  subst this
  cases h1
  have hx : (UInt8.ofNat n.toNat).toNat = n.toNat := by simp [UInt8.toNat_ofNat']; omega
  have key := writeByte_walk hT hbld hh.1 hI (UInt8.ofNat n.toNat) c5'
  rw [hx, Int.toNat_of_nonneg c3] at key
  refine key.mono ?_
  rintro e w' ⟨rfl, J, v', ts', h2, hs, hnd, hts⟩
  obtain ⟨ow', h3⟩ := end_bld hB hbld hh hl h2 hs hnd hts
  subst hT'; subst hte'
  exact ⟨J, ow', [.nilIface], [], h3, rfl, ⟨.nilIface, [], [], [], rfl, rfl, ⟨rfl, rfl⟩, rfl, rfl⟩, .nil _ _⟩

def pString : List V → List (List C) → R
  | [.c (.ptr (.out 0) 0)], [[.bld T te l]] =>
    chk (Nat.beq T 59 && Nat.beq te 5 && Nat.ble l.length 140737488355328) (some (.ret [.c (.str l)] [[.bld T te l]]))
  | _, _ => none

theorem string_spec (W : Imm → World → Prop) : FnSpec Tryd.prog W (onlyP 44 pString) := by
  intro g vs bs r hr
  unfold onlyP at hr
  split at hr
  case isFalse => cases hr
  rename_i hg
  subst hg
  refine ⟨⟨Tryd.f44, Tryd.func44, by kernel_rfl, by kernel_rfl⟩, ?_⟩
  intro w I mo ow args hW hv hb hI hl
  unfold pString at hr
  split at hr
  case h_2 => cases hr
  rename_i T te l
  obtain ⟨hc, h1⟩ := chk_inv hr
  simp only [Bool.and_eq_true] at hc
  obtain ⟨⟨c1, c2⟩, c5⟩ := hc
  have hT' := Nat.eq_of_beq_eq_true c1
  have hte' := Nat.eq_of_beq_eq_true c2
  have c5' := Nat.le_of_ble_eq_true c5
  obtain ⟨b, u, v, ts, rfl, hB, hbld, hh⟩ := bldAt_of hb hT' hte'
  obtain ⟨_, _, rfl, ⟨⟨b', hb1, rfl⟩, _⟩, rfl⟩ := hv
  have : b' = b := by simp [mpo, nth] at hb1; exact hb1.symm
  subst this
  cases h1
  refine (string_walk hbld c5').mono ?_
  rintro e w' ⟨rfl, h2, hs⟩
  have hs' : Step (fun y => y = b' ∨ y ∈ ts) I I w w' := ⟨hs.ext.mono (fun _ h => .inr h), hs.sub, hs.agree, fun b o h => (hs.made b o h).imp id (fun h => ⟨h.1.imp .inr id, h.2⟩)⟩
  obtain ⟨ow', h3⟩ := end_bld hB hbld hh hl h2 hs' hh.1 (fun g hg => .inl hg)
  subst hT'; subst hte'
  exact ⟨I, ow', [.string ⟨l.toArray⟩], [], h3, rfl, ⟨_, [], [], [], rfl, rfl, ⟨rfl, rfl⟩, rfl, rfl⟩, .nil _ _⟩

/-! ### strings.IndexByte -/
def pIndexByte : List V → List (List C) → R
  | [.c (.str l), .c (.int .u8 n)], [] => some (.ret [.c (.int .i64 (Lib.indexByte l (UInt8.ofNat n.toNat)))] [])
  | _, _ => none
theorem indexByte_spec (W : Imm → World → Prop) : FnSpec Tryd.prog W (onlyP 54 pIndexByte) := by
  refine fnSpec_pure ⟨Tryd.f54, Tryd.func54, by kernel_rfl, by kernel_rfl⟩ ?_
  intro vs bs r hr
  unfold pIndexByte at hr
  split at hr
  case h_2 => cases hr
  rename_i l n
  cases hr
  refine ⟨_, rfl, ?_⟩
  intro w I mo args hW hv
  obtain ⟨_, _, rfl, ⟨rfl, _⟩, _, _, rfl, ⟨rfl, _⟩, rfl⟩ := hv
  refine ⟨_, (Tryd.strings_IndexByte ⟨l.toArray⟩ n w).mono ?_, ⟨rfl, rfl⟩⟩
  rintro e w' ⟨rfl, rfl⟩
  exact ⟨rfl, 0, rfl⟩

end Go.Proofs.YtmbhohnoolflbaaDoorX
