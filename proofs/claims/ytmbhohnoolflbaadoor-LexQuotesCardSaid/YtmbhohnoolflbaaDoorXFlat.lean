/-
  FLAT: a function's body as places. 'Rest q s': what is answered from the place q on, with the state s. The run from a place stops at loops and at the places of a list, and asks 'J' for what comes then: if J tells no more than 'Rest', neither does the run.
-/
import Derived.Test.YtmbhohnoolflbaaDoorXK
set_option linter.unusedVariables false
set_option linter.unusedSimpArgs false
namespace Go.Proofs.YtmbhohnoolflbaaDoorX

structure Kt where
  k : St → R
  x : Nat → St → R

def Kt.le (a b : Kt) : Prop := (∀ s, YtmbhohnoolflbaaDoorX.le (a.k s) (b.k s)) ∧ ∀ i s, YtmbhohnoolflbaaDoorX.le (a.x i s) (b.x i s)

section
variable (E : Cfg) (f : FuncId) (κr : St → R) (κp : TypeId → V → St → R)

noncomputable def run (c : Code) (s : St) (K : Kt) : R := exec E (callInf E) loopInf f c s K.k K.x κr κp

/-- The code at a place, and what comes behind it. -/
noncomputable def ctx : Code → List Nat → Kt → Option (Code × Kt)
  | c, [], K => some (c, K)
  | .seq a b, 0 :: p, K => ctx a p { K with k := fun s => run E f κr κp b (pre E f b s) K }
  | .seq _ b, 1 :: p, K => ctx b p K
  | .cond _ a _, 0 :: p, K => ctx a p K
  | .cond _ _ b, 1 :: p, K => ctx b p K
  | .block id b, 0 :: p, K => ctx b p { K with x := fun i s => bif Nat.beq i id then K.k s else K.x i s }
  | .loop b, 0 :: p, K => ctx b p { K with k := loopInf (fun s k => exec E (callInf E) loopInf f b (pre E f b s) k K.x κr κp) }
  | _, _, _ => none
termination_by structural _ p => p

theorem ctx_append : ∀ (c : Code) (p q : List Nat) (K : Kt) {c' : Code} {K' : Kt}, ctx E f κr κp c p K = some (c', K') → ctx E f κr κp c (p ++ q) K = ctx E f κr κp c' q K' := by
  intro c p q
  induction p generalizing c with
  | nil => intro K c' K' h; cases h; rfl
  | cons i p ih =>
    intro K c' K' h
    unfold ctx at h
    split at h
    · rename_i e; cases e
    all_goals first
      | (rename_i e; cases e; exact ih _ _ h)
      | cases h

def memP : List (List Nat) → List Nat → Bool
  | [], _ => false
  | p :: r, q => bif eqP p q then true else memP r q
where eqP : List Nat → List Nat → Bool
  | [], [] => true
  | a :: r, b :: s => bif Nat.beq a b then eqP r s else false
  | _, _ => false

/-- The run of a piece of code at a place (its way from the root, the last step first). -/
def goJ (Φ : CalleeK) (J : List Nat → St → R) (stops : List (List Nat)) : Code → List Nat → St → (St → R) → (Nat → St → R) → R
  | .skip, _, s, κ, _ => κ s
  | .ret, _, s, _, _ => κr s
  | .exit id, _, s, _, κx => κx id s
  | .seq a b, q, s, κ, κx => goJ Φ J stops a (0 :: q) s (fun s => bif memP stops (1 :: q) then forceSt (pre E f b s) (J (1 :: q)) else goJ Φ J stops b (1 :: q) (pre E f b s) κ κx) κx
  | .cond c a b, q, s, κ, κx => asB (ev s.env c) fun t => bif t then goJ Φ J stops a (0 :: q) s κ κx else goJ Φ J stops b (1 :: q) s κ κx
  | .block id b, q, s, κ, κx => goJ Φ J stops b (0 :: q) s κ (fun i s => bif Nat.beq i id then κ s else κx i s)
  | .loop b, q, s, _, _ => forceSt (pre E f b s) (J (0 :: q))
  | .region id ops draw, _, s, κ, _ =>
    bif draw then chk (assoc (E.live f) id).isSome (runDK E Φ ops.toList ops.toList [] [] 0 s (fun s => κ (post E f id s)) κp)
    else runOpsK E Φ ops.toList ops.toList s (fun s => κ (post E f id s)) κp
  | _, _, _, _, _ => none

/-- From a place on: down from the root to it. -/
def fromJ (Φ : CalleeK) (J : List Nat → St → R) (stops : List (List Nat)) : Code → List Nat → List Nat → (St → R) → (Nat → St → R) → St → R
  | c, [], q, κ, κx, s => goJ E f κr κp Φ J stops c q s κ κx
  | .seq a b, 0 :: p, q, κ, κx, s => fromJ Φ J stops a p (0 :: q) (fun s => bif memP stops (1 :: q) then forceSt (pre E f b s) (J (1 :: q)) else goJ E f κr κp Φ J stops b (1 :: q) (pre E f b s) κ κx) κx s
  | .seq _ b, 1 :: p, q, κ, κx, s => fromJ Φ J stops b p (1 :: q) κ κx s
  | .cond _ a _, 0 :: p, q, κ, κx, s => fromJ Φ J stops a p (0 :: q) κ κx s
  | .cond _ _ b, 1 :: p, q, κ, κx, s => fromJ Φ J stops b p (1 :: q) κ κx s
  | .block id b, 0 :: p, q, κ, κx, s => fromJ Φ J stops b p (0 :: q) κ (fun i s => bif Nat.beq i id then κ s else κx i s) s
  | .loop b, 0 :: p, q, _, κx, s => fromJ Φ J stops b p (0 :: q) (fun s => forceSt (pre E f b s) (J (0 :: q))) κx s
  | _, _, _, _, _, _ => none
termination_by structural _ p => p
end

section
variable {E : Cfg} {f : FuncId} {κr : St → R} {κp : TypeId → V → St → R} {root : Code} {K0 : Kt}

/-- What is answered from a place on. -/
noncomputable def restR (E : Cfg) (f : FuncId) (κr : St → R) (κp : TypeId → V → St → R) (root : Code) (K0 : Kt) (q : List Nat) (s : St) : R :=
  match ctx E f κr κp root q.reverse K0 with
  | some (c, K) => run E f κr κp c s K
  | none => none

def At (E : Cfg) (f : FuncId) (κr : St → R) (κp : TypeId → V → St → R) (root : Code) (K0 : Kt) (q : List Nat) (c : Code) (K : Kt) : Prop := ctx E f κr κp root q.reverse K0 = some (c, K)
theorem At.step {q : List Nat} {c : Code} {K : Kt} {i : Nat} {c' : Code} {K' : Kt} (h : At E f κr κp root K0 q c K) (k : ctx E f κr κp c [i] K = some (c', K')) : At E f κr κp root K0 (i :: q) c' K' := by
  unfold At at h ⊢
  rw [List.reverse_cons, ctx_append E f κr κp root _ _ _ h, k]
theorem At.rest {q : List Nat} {c : Code} {K : Kt} (h : At E f κr κp root K0 q c K) (s : St) : restR E f κr κp root K0 q s = run E f κr κp c s K := by
  unfold At at h
  unfold restR
  rw [h]

theorem goJ_le {Φ : CalleeK} (hΦ : LeK Φ (callInf E)) {J : List Nat → St → R} (hJ : ∀ q s, le (J q s) (restR E f κr κp root K0 q s)) {stops : List (List Nat)} :
    ∀ (c : Code) (q : List Nat) (s : St) (κ : St → R) (κx : Nat → St → R) (K : Kt), At E f κr κp root K0 q c K → Kt.le ⟨κ, κx⟩ K → le (goJ E f κr κp Φ J stops c q s κ κx) (run E f κr κp c s K) := by
  intro c
  induction c with
  | skip => intro q s κ κx K _ h; exact h.1 s
  | ret => intro q s κ κx K _ h; exact .refl _
  | exit id => intro q s κ κx K _ h; exact h.2 id s
  | seq a b iha ihb =>
    intro q s κ κx K hq h
    have hb : At E f κr κp root K0 (1 :: q) b K := hq.step rfl
    refine iha (0 :: q) s _ κx { K with k := fun s => run E f κr κp b (pre E f b s) K } (hq.step rfl) ⟨fun s => ?_, h.2⟩
    cases memP stops (1 :: q) with
    | true => simp only [cond_true, forceSt_eq]; exact (hJ _ _).trans (by rw [hb.rest]; exact .refl _)
    | false => simp only [cond_false]; exact ihb _ _ κ κx K hb h
  | cond c a b iha ihb =>
    intro q s κ κx K hq h
    refine ap_const.1 (ap_uni (F := fun κ => asB (ev s.env c) κ) (uni_asB fun n => uni_ret n) (G := fun _ t => bif t then run E f κr κp a s K else run E f κr κp b s K) fun t => ap_const.2 ?_)
    cases t
    · exact ihb (1 :: q) s κ κx K (hq.step rfl) h
    · exact iha (0 :: q) s κ κx K (hq.step rfl) h
  | block id b ih =>
    intro q s κ κx K hq h
    refine ih (0 :: q) s κ _ { K with x := fun i s => bif Nat.beq i id then K.k s else K.x i s } (hq.step rfl) ⟨h.1, fun i s => ?_⟩
    simp only
    cases Nat.beq i id
    · exact h.2 i s
    · exact h.1 s
  | loop b ih =>
    intro q s κ κx K hq h
    have hb : At E f κr κp root K0 (0 :: q) b { K with k := loopInf (fun s k => exec E (callInf E) loopInf f b (pre E f b s) k K.x κr κp) } := hq.step rfl
    show le (forceSt _ _) _
    rw [forceSt_eq]
    refine (hJ _ _).trans ?_
    rw [hb.rest]
    exact loop_unfold f b s
  | region id ops draw =>
    intro q s κ κx K hq h
    cases draw with
    | true => exact ap_const.1 (ap_uni (F := fun κ : Unit → R => chk (assoc (E.live f) id).isSome (κ ())) (uni_chk (uni_ret ())) (G := fun k _ => runD E (callInf E) ops.toList ops.toList [] [] s (fun s => K.k (post E f id s)) κp) (G' := fun _ => runDK E Φ ops.toList ops.toList [] [] 0 s (fun s => κ (post E f id s)) κp) fun _ => ap_const.2 (leK_runD hΦ (fun s => h.1 _) (fun t x s => .refl _) _ _ [] _))
    | false => exact leK_runOps hΦ (fun s => h.1 _) (fun t x s => .refl _) _ _
  | _ => intro _ _ _ _ _ _ _ r hr; cases hr

theorem fromJ_le {Φ : CalleeK} (hΦ : LeK Φ (callInf E)) {J : List Nat → St → R} (hJ : ∀ q s, le (J q s) (restR E f κr κp root K0 q s)) {stops : List (List Nat)} :
    ∀ (p : List Nat) (c : Code) (q : List Nat) (κ : St → R) (κx : Nat → St → R) (K : Kt) (s : St), At E f κr κp root K0 q c K → Kt.le ⟨κ, κx⟩ K →
      le (fromJ E f κr κp Φ J stops c p q κ κx s) (restR E f κr κp root K0 (p.reverse ++ q) s) := by
  intro p
  induction p with
  | nil => intro c q κ κx K s hq h; rw [fromJ]; simp only [List.reverse_nil, List.nil_append]; rw [hq.rest]; exact goJ_le hΦ hJ c q s κ κx K hq h
  | cons i p ih =>
    intro c q κ κx K s hq h
    simp only [List.reverse_cons, List.append_assoc, List.singleton_append]
    cases c with
    | seq a b =>
      match i with
      | 0 =>
        have hb : At E f κr κp root K0 (1 :: q) b K := hq.step rfl
        refine ih a (0 :: q) _ κx { K with k := fun s => run E f κr κp b (pre E f b s) K } s (hq.step rfl) ⟨fun s => ?_, h.2⟩
        cases memP stops (1 :: q) with
        | true => simp only [cond_true, forceSt_eq]; exact (hJ _ _).trans (by rw [hb.rest]; exact .refl _)
        | false => simp only [cond_false]; exact goJ_le hΦ hJ b _ _ κ κx K hb h
      | 1 => exact ih _ (1 :: q) κ κx K s (hq.step rfl) h
      | n + 2 => intro r hr; simp [fromJ] at hr
    | cond x a b =>
      match i with
      | 0 => exact ih _ (0 :: q) κ κx K s (hq.step rfl) h
      | 1 => exact ih _ (1 :: q) κ κx K s (hq.step rfl) h
      | n + 2 => intro r hr; simp [fromJ] at hr
    | block id b =>
      match i with
      | 0 =>
        refine ih b (0 :: q) κ _ { K with x := fun i s => bif Nat.beq i id then K.k s else K.x i s } s (hq.step rfl) ⟨h.1, fun i s => ?_⟩
        simp only
        cases Nat.beq i id
        · exact h.2 i s
        · exact h.1 s
      | n + 1 => intro r hr; simp [fromJ] at hr
    | loop b =>
      match i with
      | 0 =>
        have hb : At E f κr κp root K0 (0 :: q) b { K with k := loopInf (fun s k => exec E (callInf E) loopInf f b (pre E f b s) k K.x κr κp) } := hq.step rfl
        refine ih b (0 :: q) _ κx _ s hb ⟨fun s => ?_, h.2⟩
        show le (forceSt _ _) _
        rw [forceSt_eq]
        refine (hJ _ _).trans ?_
        rw [hb.rest]
        exact loop_unfold f b s
      | n + 1 => intro r hr; simp [fromJ] at hr
    | _ => intro r hr; simp [fromJ] at hr
end

/-! ### A function -/
noncomputable def Rest (E : Cfg) (f : FuncId) (fn : Func) (q : List Nat) (s : St) : R :=
  match fn.body with
  | some c => restR E f (retK E fn) (panK E fn) c ⟨retK E fn, fun _ _ => none⟩ q s
  | none => none

/-- The kernel's run: from a place of a function on. -/
def Run (E : Cfg) (Φ : CalleeK) (f : FuncId) (fn : Func) (J : List Nat → St → R) (stops : List (List Nat)) (q : List Nat) (s : St) : R :=
  match fn.body with
  | some c => fromJ E f (retK E fn) (panK E fn) Φ J stops c q.reverse [] (retK E fn) (fun _ _ => none) s
  | none => none

theorem rest_of {E : Cfg} {Φ : CalleeK} (hΦ : LeK Φ (callInf E)) {f : FuncId} {fn : Func} (stops : List (List Nat)) (q : List Nat) (s : St) : le (Run E Φ f fn (Rest E f fn) stops q s) (Rest E f fn q s) := by
  unfold Run
  split
  · rename_i c hc
    have hR : Rest E f fn = restR E f (retK E fn) (panK E fn) c ⟨retK E fn, fun _ _ => none⟩ := by funext q s; unfold Rest; rw [hc]
    rw [hR]
    have := fromJ_le (E := E) (f := f) (κr := retK E fn) (κp := panK E fn) (root := c) (K0 := ⟨retK E fn, fun _ _ => none⟩) hΦ (J := restR E f (retK E fn) (panK E fn) c ⟨retK E fn, fun _ _ => none⟩) (fun q s => .refl _) (stops := stops) q.reverse c [] (retK E fn) (fun _ _ => none) ⟨retK E fn, fun _ _ => none⟩ s rfl ⟨fun _ => .refl _, fun _ _ => .refl _⟩
    simpa using this
  · exact fun r hr => by cases hr

/-- A function's answer: the run from its beginning. -/
def st0 (E : Cfg) (f : FuncId) (fn : Func) (args : List V) (bs : List (List C)) : St :=
  match fn.body with
  | some c => pre E f c { env := env0 args 0, loc := [], out := bs, dfr := none }
  | none => { env := [], loc := [], out := [], dfr := none }

theorem call_of {E : Cfg} {Φ : CalleeK} (hΦ : LeK Φ (callInf E)) {f : FuncId} {fn : Func} (hp : E.prim f = none) (hf : E.fns f = some fn) (stops : List (List Nat)) (args : List V) (bs : List (List C)) :
    le (Run E Φ f fn (Rest E f fn) stops [] (st0 E f fn args bs)) (callInf E f args bs) := by
  refine (rest_of hΦ stops [] _).trans (le.trans ?_ (callInf_of hp hf args bs))
  cases hb : fn.body with
  | some c => simp only [Rest, execF, st0, hb]; exact .refl _
  | none => simp only [Rest, hb]; exact fun r hr => by cases hr

/-- Tables of what calls answer. -/
abbrev Ans := List V → List (List C) → (List V → List (List C) → R) → (TypeId → V → List (List C) → R) → R
def onlyC (g : FuncId) (p : Ans) (Φ : CalleeK) : CalleeK := fun f a b κ κp => bif Nat.beq f g then p a b κ κp else Φ f a b κ κp
def noC : CalleeK := fun _ _ _ _ _ => none
abbrev Fits (E : Cfg) (Φ : CalleeK) : Prop := LeK Φ (callInf E)
def FitsAt (E : Cfg) (g : FuncId) (p : Ans) : Prop := ∀ a b κ κp r, p a b κ κp = some r → ∃ res, callInf E g a b = some res ∧ onR (some res) κ κp = some r
theorem fits_no {E : Cfg} : Fits E noC := fun _ _ _ _ _ r h => by cases h
theorem Fits.only {E : Cfg} {g : FuncId} {p : Ans} {Φ : CalleeK} (h : FitsAt E g p) (k : Fits E Φ) : Fits E (onlyC g p Φ) := by
  intro f a b κ κp r hr
  unfold onlyC at hr
  cases hg : Nat.beq f g with
  | true => rw [hg] at hr; have := Nat.eq_of_beq_eq_true hg; subst this; exact h a b κ κp r hr
  | false => rw [hg] at hr; exact k f a b κ κp r hr

end Go.Proofs.YtmbhohnoolflbaaDoorX
