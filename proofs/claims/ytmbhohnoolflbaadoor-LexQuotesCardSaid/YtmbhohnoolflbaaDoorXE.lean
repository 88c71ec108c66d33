/-
  THE INTERPRETER OF THIS PROGRAM, and what it promises: what it answers, each call answers, whatever the world.
-/
import Derived.Test.YtmbhohnoolflbaaDoorXPrimD
import Derived.Test.YtmbhohnoolflbaaDoorXDfr
import Derived.Test.YtmbhohnoolflbaaDoorXDraw
import Derived.Test.YtmbhohnoolflbaaDoorXFun
import Derived.Test.YtmbhohnoolflbaaDoorXRd
set_option linter.unusedVariables false
set_option maxRecDepth 100000
namespace Go.Proofs.YtmbhohnoolflbaaDoorX

noncomputable def primL : List (Nat × (List V → List (List C) → R)) := [
  (43, pWriteString),
  (89, pItoa),
  (73, pJoin),
  (42, pWriteByte), (44, pString), (54, pIndexByte)]
def restOf (fn : Func) : Code := match fn.body with | some (.seq _ r) => r | _ => .skip
abbrev Dfr := Option (TypeId × V) → List (List C) → Option (List (List C))
noncomputable def dfrL : List (Nat × Dfr) := [
  (31, cloRun tys liveF 31 3 6 3 (restOf Tryd.f31)),
  (52, cloRun tys liveF 52 3 6 3 (restOf Tryd.f52)),
  ]
noncomputable def E : Cfg := { T := tys, fns := fnT, live := liveF, prim := fun f => assoc primL f, dfr := fun f => assoc dfrL f }

theorem assoc_mem {α : Type} {n : Nat} {x : α} : ∀ {l : List (Nat × α)}, assoc l n = some x → (n, x) ∈ l
  | [], h => by cases h
  | (m, y) :: r, h => by
    simp only [assoc] at h
    cases hb : Nat.beq m n with
    | true =>
      rw [hb] at h
      have := Nat.eq_of_beq_eq_true hb
      subst this
      cases h
      exact List.mem_cons_self
    | false => rw [hb] at h; exact List.mem_cons_of_mem _ (assoc_mem h)

def tysOkB (P : Program) : List TI → Nat → Bool
  | [], _ => true
  | i :: r, t => tyOkB P tys t i && tysOkB P r (t + 1)
theorem tysOk {P : Program} : ∀ {l : List TI} {k t : Nat} {i : TI}, tysOkB P l k = true → nth l t = some i → TyOk P tys (k + t) i
  | [], _, _, _, _, h => by cases h
  | x :: r, k, 0, i, h, hi => by
    simp only [tysOkB, Bool.and_eq_true] at h
    cases hi
    exact tyOk_of_B h.1
  | x :: r, k, t + 1, i, h, hi => by
    simp only [tysOkB, Bool.and_eq_true] at h
    have := tysOk (t := t) h.2 hi
    rwa [show k + 1 + t = k + (t + 1) by omega] at this
theorem wellT : WellT Tryd.prog tys := fun t i hi => by
  have h : tysOkB Tryd.prog tys 0 = true := by kernel_rfl
  have := tysOk h hi
  rwa [Nat.zero_add] at this

def WW : Imm → World → Prop := fun _ _ => True
theorem lastsW : Lasts WW := fun _ _ _ _ _ _ _ => trivial

theorem mixed : Tryd.prog.follows .mixedOrders = true := by kernel_rfl
theorem dfr_all {W : Imm → World → Prop} (hW : Lasts W) : ∀ p, p ∈ dfrL → DfrAt Tryd.prog W p.1 p.2 := by
  simp only [dfrL, List.forall_mem_cons]
  refine ⟨
    clo_sound (id := 0) (tr := 6) (tx := 3) wellT mixed hW Tryd.func31 (by kernel_rfl) rfl rfl rfl rfl rfl rfl rfl rfl (by kernel_rfl) (by decide) (by decide) (by decide),
    clo_sound (id := 0) (tr := 6) (tx := 3) wellT mixed hW Tryd.func52 (by kernel_rfl) rfl rfl rfl rfl rfl rfl rfl rfl (by kernel_rfl) (by decide) (by decide) (by decide),
    by simp⟩
theorem prim_ok (W : Imm → World → Prop) : ∀ p, p ∈ primL → FnSpec Tryd.prog W (onlyP p.1 p.2) := by
  simp only [primL, List.forall_mem_cons]
  exact ⟨
    writeString_spec wellT W,
    itoa_spec W,
    join_spec W,
    writeByte_spec wellT W, string_spec W, indexByte_spec W, by simp⟩

theorem callN_ok (k : Nat) : FnSpec Tryd.prog WW (callN E k) :=
  callN_sound (P := Tryd.prog) (E := E) wellT lastsW (fun f fn h => fnOk_all (f, fn) (assoc_mem h)) (fun f p h => prim_ok WW (f, p) (assoc_mem h))
    (fun Φ hΦ => draw_sound wellT lastsW mixed hΦ) (fun g h hg => dfr_all lastsW (g, h) (assoc_mem hg)) k
theorem inf_ok : FnSpec Tryd.prog WW (callInf E) := fun f vs bs r h => by
  obtain ⟨k, hk⟩ := callInf_N h
  exact callN_ok k f vs bs r hk

/-! ### The same, where the library's tables hold what they should -/
noncomputable def primLF : List (Nat × (List V → List (List C) → R)) := (65, pContains) :: (82, pFields) :: primL
noncomputable def EF : Cfg := { T := tys, fns := fnT, live := liveF, prim := fun f => assoc primLF f, dfr := fun f => assoc dfrL f }
def WF (I : Imm) (w : World) : Prop := WMax I w ∧ WSpace I w
theorem lastsF : Lasts WF := fun ch I J w w' hs h => ⟨lasts_max ch I J w w' hs h.1, lasts_space ch I J w w' hs h.2⟩
theorem prim_okF : ∀ p, p ∈ primLF → FnSpec Tryd.prog WF (onlyP p.1 p.2) := by
  simp only [primLF, List.forall_mem_cons]
  exact ⟨contains_spec fun _ _ h => h.1, fields_spec fun _ _ h => h.2, prim_ok WF⟩
theorem callN_okF (k : Nat) : FnSpec Tryd.prog WF (callN EF k) :=
  callN_sound (P := Tryd.prog) (E := EF) wellT lastsF (fun f fn h => fnOk_all (f, fn) (assoc_mem h)) (fun f p h => prim_okF (f, p) (assoc_mem h))
    (fun Φ hΦ => draw_sound wellT lastsF mixed hΦ) (fun g h hg => dfr_all lastsF (g, h) (assoc_mem hg)) k
theorem inf_okF : FnSpec Tryd.prog WF (callInf EF) := fun f vs bs r h => by
  obtain ⟨k, hk⟩ := callInf_N h
  exact callN_okF k f vs bs r hk

/-! ### What the library's calls hand on -/
def qWriteByte : Ans
  | [.c (.ptr (.out 0) 0), .c (.int .u8 n)], [[.bld T te l]], κ, _ =>
    chk (Nat.beq T 59 && Nat.beq te 5 && inB n 256 && Nat.ble (l.length + 1) 140737488355328) (κ [.c .nif] [[.bld T te (l ++ [UInt8.ofNat n.toNat])]])
  | _, _, _, _ => none
def qString : Ans
  | [.c (.ptr (.out 0) 0)], [[.bld T te l]], κ, _ => chk (Nat.beq T 59 && Nat.beq te 5 && Nat.ble l.length 140737488355328) (κ [.c (.str l)] [[.bld T te l]])
  | _, _, _, _ => none
def qIndexByte : Ans
  | [.c (.str l), .c (.int .u8 n)], [], κ, _ => κ [.c (.int .i64 (Lib.indexByte l (UInt8.ofNat n.toNat)))] []
  | _, _, _, _ => none
theorem prim_at {E' : Cfg} {f : FuncId} {p : List V → List (List C) → R} (h : E'.prim f = some p) {a : List V} {b : List (List C)} {r : Res} (hr : p a b = some r) : callInf E' f a b = some r := callInf_prim (E := E') h a b r hr
theorem fits_writeByte {E' : Cfg} (he : E'.prim 42 = some pWriteByte := by rfl) : FitsAt E' 42 qWriteByte := by
  intro a b κ κp r h
  unfold qWriteByte at h
  split at h
  · obtain ⟨hc, h1⟩ := chk_inv h
    exact ⟨.ret _ _, prim_at he (by simp only [pWriteByte, hc, chk, cond_true]), h1⟩
  · cases h
theorem fits_string {E' : Cfg} (he : E'.prim 44 = some pString := by rfl) : FitsAt E' 44 qString := by
  intro a b κ κp r h
  unfold qString at h
  split at h
  · obtain ⟨hc, h1⟩ := chk_inv h
    exact ⟨.ret _ _, prim_at he (by simp only [pString, hc, chk, cond_true]), h1⟩
  · cases h
theorem fits_indexByte {E' : Cfg} (he : E'.prim 54 = some pIndexByte := by rfl) : FitsAt E' 54 qIndexByte := by
  intro a b κ κp r h
  unfold qIndexByte at h
  split at h
  · exact ⟨.ret _ _, prim_at he rfl, h⟩
  · cases h
def qWriteString : Ans
  | [.c (.ptr (.out 0) 0), .c (.str x)], [[.bld T te l]], κ, _ =>
    chk (Nat.beq T 59 && Nat.beq te 5 && Nat.ble (l.length + x.length) 140737488355328) (κ [.c (.int .i64 (x.length : Int)), .c .nif] [[.bld T te (l ++ x)]])
  | _, _, _, _ => none
theorem fits_writeString {E' : Cfg} (he : E'.prim 43 = some pWriteString := by rfl) : FitsAt E' 43 qWriteString := by
  intro a b κ κp r h
  unfold qWriteString at h
  split at h
  · obtain ⟨hc, h1⟩ := chk_inv h
    exact ⟨.ret _ _, prim_at he (by simp only [pWriteString, hc, chk, cond_true]), h1⟩
  · cases h
def qItoa : Ans
  | [.c (.int .i64 n)], [], κ, _ => chk (decide (0 ≤ n) && decide (n < 100)) (κ [.c (.str (Lib.decDigits n.toNat))] [])
  | _, _, _, _ => none
theorem fits_itoa {E' : Cfg} (he : E'.prim 89 = some pItoa := by rfl) : FitsAt E' 89 qItoa := by
  intro a b κ κp r h
  unfold qItoa at h
  split at h
  · obtain ⟨hc, h1⟩ := chk_inv h
    exact ⟨.ret _ _, prim_at he (by simp only [pItoa, hc, chk, cond_true]), h1⟩
  · cases h
def qJoin : Ans
  | [.c (.sl sz es fl), .c (.str sep)], [], κ, _ => onO (strsD es) fun xs => chk ((Nat.beq sz 1 || es.isEmpty) && Nat.ble xs.length 140737488355328 && Nat.ble (Lib.join xs sep).length 140737488355328) (κ [.c (.str (Lib.join xs sep))] [])
  | _, _, _, _ => none
theorem fits_join {E' : Cfg} (he : E'.prim 73 = some pJoin := by rfl) : FitsAt E' 73 qJoin := by
  intro a b κ κp r h
  unfold qJoin at h
  split at h
  · obtain ⟨xs, hx, h0⟩ := onO_inv h
    obtain ⟨hc, h1⟩ := chk_inv h0
    exact ⟨.ret _ _, prim_at he (by simp only [pJoin, hx, onO, hc, chk, cond_true]), h1⟩
  · cases h
def qContains : Ans
  | [.c (.str l), .c (.str m)], [], κ, _ => chk (Nat.ble l.length 1000000) (κ [.c (.bool (Lib.contains l m))] [])
  | _, _, _, _ => none
theorem fits_contains {E' : Cfg} (he : E'.prim 65 = some pContains := by rfl) : FitsAt E' 65 qContains := by
  intro a b κ κp r h
  unfold qContains at h
  split at h
  · obtain ⟨hc, h1⟩ := chk_inv h
    exact ⟨.ret _ _, prim_at he (by simp only [pContains, hc, chk, cond_true]), h1⟩
  · cases h
def qFields : Ans
  | [.c (.str l)], [], κ, _ => chk (Nat.ble l.length 1000000 && asciiB l) (κ [.c (.sl 1 (strEls (Lib.fields l)) .sh)] [])
  | _, _, _, _ => none
theorem fits_fields {E' : Cfg} (he : E'.prim 82 = some pFields := by rfl) : FitsAt E' 82 qFields := by
  intro a b κ κp r h
  unfold qFields at h
  split at h
  · obtain ⟨hc, h1⟩ := chk_inv h
    exact ⟨.ret _ _, prim_at he (by simp only [pFields, hc, chk, cond_true]), h1⟩
  · cases h

end Go.Proofs.YtmbhohnoolflbaaDoorX
