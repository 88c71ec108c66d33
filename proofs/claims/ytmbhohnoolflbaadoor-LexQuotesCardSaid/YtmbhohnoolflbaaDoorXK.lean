/-
  CALLS IN THE MIDST OF A RUN: the interpreter once more, with calls that hand on what they answer (so that a run by the kernel doesn't stand still inside a call); it answers no more than the interpreter does.
-/
import Derived.Test.YtmbhohnoolflbaaDoorXLim
set_option linter.unusedVariables false
set_option linter.unusedSimpArgs false
namespace Go.Proofs.YtmbhohnoolflbaaDoorX

/-! ### A state brought to the light (so that a run by the kernel doesn't carry what it has left behind) -/
def forceC (c : C) (κ : C → R) : R :=
  match c with
  | .int k n => κ (.int k n)
  | .bool b => κ (.bool b)
  | .str l => κ (.str l)
  | .sl sz es fl => κ (.sl sz es fl)
  | .nif => κ .nif
  | .nptr => κ .nptr
  | .nfn => κ .nfn
  | .bld T te l => κ (.bld T te l)
  | .ptr p off => (match p with | .out i => κ (.ptr (.out i) off) | .loc i => κ (.ptr (.loc i) off))
  | .fn f caps => κ (.fn f caps)
def forceV (v : V) (κ : V → R) : R :=
  match v with
  | .c x => forceC x fun x => κ (.c x)
  | .agg cs => κ (.agg cs)
def forceA (v : AV) (κ : AV → R) : R :=
  match v with
  | .top => κ .top
  | .und => κ .und
  | .v x => forceV x fun x => κ (.v x)
  | .tup vs used => κ (.tup vs used)
  | .el ds off => κ (.el ds off)
  | .ifc t x => κ (.ifc t x)
def forceE : List (Nat × AV) → (List (Nat × AV) → R) → R
  | [], κ => κ []
  | (n, v) :: r, κ => forceA v fun v => forceE r fun r => κ ((n, v) :: r)
def forceL : List (Nat × List C) → (List (Nat × List C) → R) → R
  | [], κ => κ []
  | (n, b) :: r, κ => forceL r fun r => κ ((n, b) :: r)
def forceO : List (List C) → (List (List C) → R) → R
  | [], κ => κ []
  | b :: r, κ => forceO r fun r => κ (b :: r)
def forceD (d : Option (FuncId × List PRef)) (κ : Option (FuncId × List PRef) → R) : R :=
  match d with
  | none => κ none
  | some (f, ps) => κ (some (f, ps))
def forceSt (s : St) (κ : St → R) : R :=
  match s with
  | ⟨env, loc, out, dfr⟩ => forceE env fun env => forceL loc fun loc => forceO out fun out => forceD dfr fun dfr => κ ⟨env, loc, out, dfr⟩
theorem forceC_eq (c : C) (κ : C → R) : forceC c κ = κ c := by
  cases c <;> try rfl
  case ptr p off => cases p <;> rfl
theorem forceV_eq (v : V) (κ : V → R) : forceV v κ = κ v := by cases v <;> simp [forceV, forceC_eq]
theorem forceA_eq (v : AV) (κ : AV → R) : forceA v κ = κ v := by cases v <;> simp [forceA, forceV_eq]
theorem forceE_eq : ∀ (l : List (Nat × AV)) (κ : List (Nat × AV) → R), forceE l κ = κ l
  | [], _ => rfl
  | (n, v) :: r, κ => by simp [forceE, forceA_eq, forceE_eq r]
theorem forceL_eq : ∀ (l : List (Nat × List C)) (κ : List (Nat × List C) → R), forceL l κ = κ l
  | [], _ => rfl
  | (n, v) :: r, κ => by simp [forceL, forceL_eq r]
theorem forceO_eq : ∀ (l : List (List C)) (κ : List (List C) → R), forceO l κ = κ l
  | [], _ => rfl
  | v :: r, κ => by simp [forceO, forceO_eq r]
theorem forceSt_eq (s : St) (κ : St → R) : forceSt s κ = κ s := by
  obtain ⟨env, loc, out, dfr⟩ := s
  cases dfr <;> simp [forceSt, forceE_eq, forceL_eq, forceO_eq, forceD]

abbrev CalleeK := FuncId → List V → List (List C) → (List V → List (List C) → R) → (TypeId → V → List (List C) → R) → R

def callAK (E : Cfg) (Φ : CalleeK) (s : St) (t : TypeId) (f : AV) (args : List AV) (κ : AV → St → R) (κp : TypeId → V → St → R) : R :=
  match f with
  | .v (.c (.fn f caps)) =>
    let args := args ++ caps.map fun p => .v (.c (.ptr p 0))
    let ps := dedupP (args.flatMap ptrsA) []
    onO (renVs ps args) fun vs => onO (boxesOf s ps) fun bs =>
      Φ f vs bs
        (fun rs bs => chk (Nat.beq bs.length ps.length) (resA E t rs fun v => κ v (putBoxes s ps bs 0)))
        (fun t x bs => chk (Nat.beq bs.length ps.length) (κp t x (putBoxes s ps bs 0)))
  | _ => none


def mOpK (E : Cfg) (Φ : CalleeK) (o : Oper) (s : St) (κ : AV → St → R) (κp : TypeId → V → St → R) : R :=
  match o.op with
  | .alloc t => ty E t fun i => chk (!i.zero.isEmpty) (newLoc s o.dst i.zero κ)
  | .box t x => ty E t fun i => asV (ev s.env x).share fun v => chk (Nat.beq (valCells v).length i.size && (valCells v).all noPtr) (newLoc s o.dst (valCells v) κ)
  | .store t a x => ty E t fun i => (match ev s.env a with
    | .v (.c (.ptr p off)) => take s x fun v s => asV (fixT E t v) fun v => chk ((valCells v).all noPtr) (onO (s.box p) fun cs => chk (cs.all noPtr) (paste i.size cs off (valCells v) fun cs => κ .und (s.setBox p cs)))
    | _ => none)
  | .move x | .assign x => take s x fun v s => κ (fixT E o.type v) s
  | .load t a => ty E t fun i => (match i.k, ev s.env a with
    | .slice e, .v (.c (.ptr p off)) => onO (s.box p) fun cs => onO (nth cs off) fun c0 => viewC E (.slice e) c0 fun c =>
        paste 1 cs off [c0.dem] fun cs => κ (.v (.c c)) (s.setBox p cs)
    | _, _ => none)
  | .extract x i => extA E s o.type x i κ
  | .call { callee := .builtin .append, args := a, argTypes := ts } => (match a.toList, ts.toList with
    | [a, x], [t, t'] => chk (Nat.beq t t') (appendA E s t a x κ)
    | _, _ => none)
  | .call { callee := .value f, args := a, .. } => callAK E Φ s o.type (ev s.env f) ((a.toList.map (ev s.env)).map AV.share) κ κp
  | .defer { callee := .value f, args := a, .. } => (match a.toList, ev s.env f, s.dfr with
    | [], .v (.c (.fn f ps)), none => onO (E.dfr f) fun _ => κ .und { s with dfr := some (f, ps) }
    | _, _, _ => none)
  | .panic x => (match ev s.env x with
    | .ifc t v => κp t v s
    | _ => none)
  | _ => none

def opStepK (E : Cfg) (Φ : CalleeK) (ops : List Oper) (o : Oper) (s : St) (κ : St → R) (κp : TypeId → V → St → R) : R :=
  bif isM o (ev s.env) ops then mOpK E Φ o s (fun v s => κ (s.put o.dst v)) κp
  else hOp E o (ev s.env) s.box (fun v => κ (s.put o.dst v))

def runOpsK (E : Cfg) (Φ : CalleeK) (ops : List Oper) : List Oper → St → (St → R) → (TypeId → V → St → R) → R
  | [], s, κ, _ => κ s
  | o :: r, s, κ, κp => guardA ops o s
      (fun s => opStepK E Φ ops o s (fun s => forceSt s fun s => runOpsK E Φ ops r s κ κp) κp)
      (fun s => forceSt (s.put o.dst .und) fun s => runOpsK E Φ ops r s κ κp)

def stepOK (E : Cfg) (Φ : CalleeK) (ops : List Oper) (o : Oper) (s : St) (κ : St → R) (κp : TypeId → V → St → R) : R :=
  guardA ops o s (fun s => opStepK E Φ ops o s κ κp) (fun s => κ (s.put o.dst .und))

/-- What is asked of an operation of a drawn region, reckoned once. -/
structure AnnK where
  rd : List Nat
  tk : List Nat
  ds : List Nat
  T : List PRef
  m : Bool
  ld : Bool
def annK (ops : List Oper) (a : Ann) : AnnK := ⟨readsOf ops a.o, takesOf a.o, a.o.dst.toList, a.T, a.m, isLd a.o⟩
def okPairK (a b : AnnK) : Bool :=
  apartN a.ds b.rd && apartN b.ds a.rd && apartN a.ds b.ds &&
  (!(a.m || b.m) || disj a.T b.T || (a.ld && b.ld && !(a.m && b.m))) && (!a.m || apartN a.tk b.rd) && (!b.m || apartN b.tk a.rd)
def okAllK (b : AnnK) (cl : List Nat) : List AnnK → Nat → Bool
  | [], _ => true
  | a :: r, i => (memN cl i || okPairK a b) && okAllK b cl r (i + 1)
theorem okAllK_eq (ops : List Oper) (b : Ann) (cl : List Nat) : ∀ (acc : List Ann) (i : Nat), okAllK (annK ops b) cl (acc.map (annK ops)) i = okAll ops b cl acc i
  | [], _ => rfl
  | a :: r, i => by simp only [List.map_cons, okAllK, okAll, okAllK_eq ops b cl r]; rfl

def forceNs : List Nat → (List Nat → R) → R
  | [], κ => κ []
  | n :: r, κ => forceNs r fun r => κ (n :: r)
def forcePs : List PRef → (List PRef → R) → R
  | [], κ => κ []
  | .out i :: r, κ => forcePs r fun r => κ (.out i :: r)
  | .loc i :: r, κ => forcePs r fun r => κ (.loc i :: r)
def forceB (b : Bool) (κ : Bool → R) : R := bif b then κ true else κ false
def forceAnn (a : AnnK) (κ : AnnK → R) : R := forceNs a.rd fun rd => forceNs a.tk fun tk => forceNs a.ds fun ds => forcePs a.T fun T => forceB a.m fun m => forceB a.ld fun ld => κ ⟨rd, tk, ds, T, m, ld⟩
def forceS {α : Type} : List α → (List α → R) → R
  | [], κ => κ []
  | x :: r, κ => forceS r fun r => κ (x :: r)
theorem forceNs_eq : ∀ (l : List Nat) (κ : List Nat → R), forceNs l κ = κ l
  | [], _ => rfl
  | n :: r, κ => by simp [forceNs, forceNs_eq r]
theorem forcePs_eq : ∀ (l : List PRef) (κ : List PRef → R), forcePs l κ = κ l
  | [], _ => rfl
  | .out i :: r, κ => by simp [forcePs, forcePs_eq r]
  | .loc i :: r, κ => by simp [forcePs, forcePs_eq r]
theorem forceB_eq (b : Bool) (κ : Bool → R) : forceB b κ = κ b := by cases b <;> rfl
theorem forceAnn_eq (a : AnnK) (κ : AnnK → R) : forceAnn a κ = κ a := by simp [forceAnn, forceNs_eq, forcePs_eq, forceB_eq]
theorem forceS_eq {α : Type} : ∀ (l : List α) (κ : List α → R), forceS l κ = κ l
  | [], _ => rfl
  | x :: r, κ => by simp [forceS, forceS_eq r]

def earlierOkK (c : List Nat) : List AnnK → Nat → Bool
  | [], _ => true
  | a :: r, i => (memN c i || !a.m || a.T.all isLocP) && earlierOkK c r (i + 1)
theorem earlierOkK_eq (ops : List Oper) (c : List Nat) : ∀ (acc : List Ann) (i : Nat), earlierOkK c (acc.map (annK ops)) i = earlierOk c acc i
  | [], _ => rfl
  | a :: r, i => by simp only [List.map_cons, earlierOkK, earlierOk, earlierOkK_eq ops c r]; rfl
/-- The operations with their closures of what they come after, reckoned once. -/
def runDK (E : Cfg) (Φ : CalleeK) (ops : List Oper) : List Oper → List (List Nat) → List AnnK → Nat → St → (St → R) → (TypeId → V → St → R) → R
  | [], _, _, _, s, κ, _ => κ s
  | o :: r, cl, acc, n, s, κ, κp =>
    forceNs (closOf o cl) fun c => forceAnn (annK ops (annOf ops o s)) fun b =>
      chk (!isDefer o && afterOk o n && okAllK b c acc 0)
        (stepOK E Φ ops o s (fun s' => forceSt s' fun s' => forceS (cl ++ [c]) fun cl => forceS (acc ++ [b]) fun acc => runDK E Φ ops r cl acc (n + 1) s' κ κp)
          (fun t x s' => chk (s.dfr.isNone && laterOk n (n + 1) r (cl ++ [c]) && earlierOkK c acc 0) (κp t x s')))

/-- What a call answers is handed on. -/
def onR (o : R) (κ : List V → List (List C) → R) (κp : TypeId → V → List (List C) → R) : R :=
  match o with
  | some (.ret vs bs) => κ vs bs
  | some (.pan t x bs) => κp t x bs
  | none => none

/-- The calls of a table tell no more than Φ. -/
def LeK (Ψ : CalleeK) (Φ : Callee) : Prop := ∀ f vs bs κ κp r, Ψ f vs bs κ κp = some r → ∃ res, Φ f vs bs = some res ∧ onR (some res) κ κp = some r

section
variable {E : Cfg} {Ψ : CalleeK} {Φ : Callee}

theorem leK_callA (hΨ : LeK Ψ Φ) {s : St} {t : TypeId} {f : AV} {args : List AV} {κ κ' : AV → St → R} {κp κp' : TypeId → V → St → R} (h : ∀ v s, le (κ v s) (κ' v s)) (hp : ∀ t x s, le (κp t x s) (κp' t x s)) :
    le (callAK E Ψ s t f args κ κp) (callA E Φ s t f args κ' κp') := by
  intro r0 hr0
  unfold callAK at hr0
  split at hr0
  case h_2 => cases hr0
  rename_i g caps
  simp only [callA]
  obtain ⟨vs, h1, h2⟩ := (uni_onO (fun n => uni_ret n)) _ r0 hr0
  obtain ⟨bs, h3, h4⟩ := (uni_onO (fun n => uni_ret n)) _ r0 h1
  refine h2 _ _ (h4 _ _ ?_)
  obtain ⟨res, k1, k2⟩ := hΨ _ _ _ _ _ r0 h3
  rw [k1]
  cases res with
  | ret vs bs =>
    simp only [onR] at k2
    simp only [onRes]
    unfold chk at k2 ⊢
    cases hb : Nat.beq bs.length _ with
    | false => rw [hb] at k2; cases k2
    | true =>
      rw [hb] at k2
      simp only [cond_true] at k2 ⊢
      obtain ⟨a, h5, h6⟩ := uni_resA _ r0 k2
      exact h6 _ _ (h _ _ _ h5)
  | pan t x bs =>
    simp only [onR] at k2
    simp only [onRes]
    unfold chk at k2 ⊢
    cases hb : Nat.beq bs.length _ with
    | false => rw [hb] at k2; cases k2
    | true => rw [hb] at k2; simp only [cond_true] at k2 ⊢; exact hp _ _ _ r0 k2

theorem leK_mOp (hΨ : LeK Ψ Φ) {o : Oper} {s : St} {κ κ' : AV → St → R} {κp κp' : TypeId → V → St → R} (h : ∀ v s, le (κ v s) (κ' v s)) (hp : ∀ t x s, le (κp t x s) (κp' t x s)) :
    le (mOpK E Ψ o s κ κp) (mOp E Φ o s κ' κp') := by
  have key : ∀ {a : R}, (a = mOp E Φ o s κ κp) → le a (mOp E Φ o s κ' κp') := fun {a} e => by
    rw [e]
    exact ap_const.1 (ap_mOp (Φ := fun _ => Φ) (κ := fun _ => κ') (κp := fun _ => κp') (fun _ _ _ => ap_refl _) (fun v s => ap_const.2 (h v s)) (fun t x s => ap_const.2 (hp t x s)))
  by_cases hc : ∃ f a ts, o.op = .call { callee := .value f, args := a, argTypes := ts }
  · obtain ⟨f, a, ts, ho⟩ := hc
    simp only [mOpK, mOp, ho]
    exact leK_callA hΨ h hp
  · refine key ?_
    unfold mOpK mOp
    cases ho : o.op <;> (try rfl)
    case call c =>
      obtain ⟨callee, a, ts⟩ := c
      cases callee <;> (try rfl)
      case builtin b => cases b <;> rfl
      case value f => exact absurd ⟨f, a, ts, ho⟩ hc
    case defer c =>
      obtain ⟨callee, a, ts⟩ := c
      cases callee <;> rfl

theorem leK_opStep (hΨ : LeK Ψ Φ) {ops : List Oper} {o : Oper} {s : St} {κ κ' : St → R} {κp κp' : TypeId → V → St → R} (h : ∀ s, le (κ s) (κ' s)) (hp : ∀ t x s, le (κp t x s) (κp' t x s)) :
    le (opStepK E Ψ ops o s κ κp) (opStep E Φ ops o s κ' κp') := by
  unfold opStepK opStep
  cases isM o (ev s.env) ops with
  | true => exact leK_mOp hΨ (fun v s => h _) hp
  | false => exact ap_const.1 (ap_uni (G := fun _ v => κ' (s.put o.dst v)) (G' := fun v => κ (s.put o.dst v)) uni_hOp fun v => ap_const.2 (h _))

theorem leK_runOps (hΨ : LeK Ψ Φ) {ops : List Oper} {κ κ' : St → R} {κp κp' : TypeId → V → St → R} (h : ∀ s, le (κ s) (κ' s)) (hp : ∀ t x s, le (κp t x s) (κp' t x s)) :
    ∀ (l : List Oper) (s : St), le (runOpsK E Ψ ops l s κ κp) (runOps E Φ ops l s κ' κp')
  | [], s => h s
  | o :: r, s => by
    unfold runOpsK runOps
    exact ap_const.1 (ap_guard (y := fun _ s => _) (n := fun _ s => _) (fun s => ap_const.2 (leK_opStep hΨ (fun s => by rw [forceSt_eq]; exact leK_runOps hΨ h hp r s) hp)) (fun s => ap_const.2 (by rw [forceSt_eq]; exact leK_runOps hΨ h hp r _)))

theorem leK_runD (hΨ : LeK Ψ Φ) {ops : List Oper} {κ κ' : St → R} {κp κp' : TypeId → V → St → R} (h : ∀ s, le (κ s) (κ' s)) (hp : ∀ t x s, le (κp t x s) (κp' t x s)) :
    ∀ (l : List Oper) (cl : List (List Nat)) (acc : List Ann) (s : St), le (runDK E Ψ ops l cl (acc.map (annK ops)) acc.length s κ κp) (runD E Φ ops l cl acc s κ' κp')
  | [], _, _, s => h s
  | o :: r, cl, acc, s => by
    unfold runDK runD
    simp only [forceNs_eq, forceAnn_eq, okAllK_eq]
    refine ap_const.1 (ap_uni (F := fun κ => chk _ (κ ())) (uni_chk (uni_ret ())) (G := fun k _ => stepOP E Φ ops o s _ _) (G' := fun _ => stepOK E Ψ ops o s _ _) fun _ => ap_const.2 ?_)
    have key : ∀ s', le (forceSt s' fun s' => forceS (cl ++ [closOf o cl]) fun cl => forceS (acc.map (annK ops) ++ [annK ops (annOf ops o s)]) fun acc' => runDK E Ψ ops r cl acc' (acc.length + 1) s' κ κp) (runD E Φ ops r (cl ++ [closOf o cl]) (acc ++ [annOf ops o s]) s' κ' κp') := by
      intro s'
      simp only [forceSt_eq, forceS_eq]
      have := leK_runD hΨ (ops := ops) h hp r (cl ++ [closOf o cl]) (acc ++ [annOf ops o s]) s'
      rwa [List.map_append, List.length_append] at this
    have keyp : ∀ t x s', le (chk (s.dfr.isNone && laterOk acc.length (acc.length + 1) r (cl ++ [closOf o cl]) && earlierOkK (closOf o cl) (acc.map (annK ops)) 0) (κp t x s')) (chk (s.dfr.isNone && laterOk acc.length (acc.length + 1) r (cl ++ [closOf o cl]) && earlierOk (closOf o cl) acc 0) (κp' t x s')) := by
      intro t x s'
      rw [earlierOkK_eq]
      exact ap_const.1 (ap_uni (F := fun κ => chk _ (κ ())) (uni_chk (uni_ret ())) (G := fun k _ => κp' t x s') (G' := fun _ => κp t x s') fun _ => ap_const.2 (hp t x s'))
    unfold stepOK stepOP
    exact ap_const.1 (ap_guard (y := fun _ s => _) (n := fun _ s => _) (fun s => ap_const.2 (leK_opStep hΨ (fun s => key s) keyp)) (fun s => ap_const.2 (key _)))

end
end Go.Proofs.YtmbhohnoolflbaaDoorX
