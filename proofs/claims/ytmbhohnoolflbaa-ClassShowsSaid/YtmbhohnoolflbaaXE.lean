/-
  THE INTERPRETER OF THIS PROGRAM, and what it promises: what it answers, each call answers, whatever the world.
-/
import Derived.Test.YtmbhohnoolflbaaXPrim
import Derived.Test.YtmbhohnoolflbaaXDraw
import Derived.Test.YtmbhohnoolflbaaXFun
import Derived.Test.YtmbhohnoolflbaaXRd
set_option linter.unusedVariables false
set_option maxRecDepth 100000
namespace Go.Proofs.YtmbhohnoolflbaaX

noncomputable def primL : List (Nat × (List V → List (List C) → R)) := [
  (20, pWriteByte), (22, pString), (21, pIndexByte)]
noncomputable def E : Cfg := { T := tys, fns := fnT, live := liveF, prim := fun f => assoc primL f, dfr := fun _ => none }

theorem assoc_mem {α : Type} {n : Nat} {x : α} : ∀ {l : List (Nat × α)}, assoc l n = some x → (n, x) ∈ l
  | [], h => by cases h
  | (m, y) :: r, h => by
    simp only [assoc] at h
    cases hb : Nat.beq m n with
    | true =>
      rw [hb] at h
      have := Nat.eq_of_beq_eq_true hb
      subst this
      cases h
      exact List.mem_cons_self
    | false => rw [hb] at h; exact List.mem_cons_of_mem _ (assoc_mem h)

def tysOkB (P : Program) : List TI → Nat → Bool
  | [], _ => true
  | i :: r, t => tyOkB P tys t i && tysOkB P r (t + 1)
theorem tysOk {P : Program} : ∀ {l : List TI} {k t : Nat} {i : TI}, tysOkB P l k = true → nth l t = some i → TyOk P tys (k + t) i
  | [], _, _, _, _, h => by cases h
  | x :: r, k, 0, i, h, hi => by
    simp only [tysOkB, Bool.and_eq_true] at h
    cases hi
    exact tyOk_of_B h.1
  | x :: r, k, t + 1, i, h, hi => by
    simp only [tysOkB, Bool.and_eq_true] at h
    have := tysOk (t := t) h.2 hi
    rwa [show k + 1 + t = k + (t + 1) by omega] at this
theorem wellT : WellT Try.prog tys := fun t i hi => by
  have h : tysOkB Try.prog tys 0 = true := by kernel_rfl
  have := tysOk h hi
  rwa [Nat.zero_add] at this

def WW : Imm → World → Prop := fun _ _ => True
theorem lastsW : Lasts WW := fun _ _ _ _ _ _ _ => trivial

theorem prim_ok : ∀ p, p ∈ primL → FnSpec Try.prog WW (onlyP p.1 p.2) := by
  simp only [primL, List.forall_mem_cons]
  exact ⟨writeByte_spec wellT WW, string_spec WW, indexByte_spec WW, by simp⟩

theorem callN_ok (k : Nat) : FnSpec Try.prog WW (callN E k) :=
  callN_sound (P := Try.prog) (E := E) wellT lastsW (fun f fn h => fnOk_all (f, fn) (assoc_mem h)) (fun f p h => prim_ok (f, p) (assoc_mem h))
    (fun Φ hΦ => draw_sound wellT lastsW (by kernel_rfl) hΦ) (fun g h hg => by cases hg) k

theorem inf_ok : FnSpec Try.prog WW (callInf E) := fun f vs bs r h => by
  obtain ⟨k, hk⟩ := callInf_N h
  exact callN_ok k f vs bs r hk

/-! ### What the library's calls hand on -/
def qWriteByte : Ans
  | [.c (.ptr (.out 0) 0), .c (.int .u8 n)], [[.bld T te l]], κ, _ =>
    chk (Nat.beq T 46 && Nat.beq te 5 && inB n 256 && Nat.ble (l.length + 1) 140737488355328) (κ [.c .nif] [[.bld T te (l ++ [UInt8.ofNat n.toNat])]])
  | _, _, _, _ => none
def qString : Ans
  | [.c (.ptr (.out 0) 0)], [[.bld T te l]], κ, _ => chk (Nat.beq T 46 && Nat.beq te 5 && Nat.ble l.length 140737488355328) (κ [.c (.str l)] [[.bld T te l]])
  | _, _, _, _ => none
def qIndexByte : Ans
  | [.c (.str l), .c (.int .u8 n)], [], κ, _ => κ [.c (.int .i64 (Lib.indexByte l (UInt8.ofNat n.toNat)))] []
  | _, _, _, _ => none
theorem prim_at {f : FuncId} {p : List V → List (List C) → R} (h : assoc primL f = some p) {a : List V} {b : List (List C)} {r : Res} (hr : p a b = some r) : callInf E f a b = some r := callInf_prim (E := E) h a b r hr
theorem fits_writeByte : FitsAt E 20 qWriteByte := by
  intro a b κ κp r h
  unfold qWriteByte at h
  split at h
  · obtain ⟨hc, h1⟩ := chk_inv h
    exact ⟨.ret _ _, prim_at rfl (by simp only [pWriteByte, hc, chk, cond_true]), h1⟩
  · cases h
theorem fits_string : FitsAt E 22 qString := by
  intro a b κ κp r h
  unfold qString at h
  split at h
  · obtain ⟨hc, h1⟩ := chk_inv h
    exact ⟨.ret _ _, prim_at rfl (by simp only [pString, hc, chk, cond_true]), h1⟩
  · cases h
theorem fits_indexByte : FitsAt E 21 qIndexByte := by
  intro a b κ κp r h
  unfold qIndexByte at h
  split at h
  · exact ⟨.ret _ _, prim_at rfl rfl, h⟩
  · cases h

end Go.Proofs.YtmbhohnoolflbaaX
