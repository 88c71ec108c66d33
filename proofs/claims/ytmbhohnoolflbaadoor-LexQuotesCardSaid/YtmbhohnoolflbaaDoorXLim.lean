/-
  THE LIMIT: calls and loops without fuel. 'callInf' answers what some fuel answers; a function's body may be run with calls, and with loops, that answer so.
-/
import Derived.Test.YtmbhohnoolflbaaDoorXUni
set_option linter.unusedVariables false
set_option linter.unusedSimpArgs false
namespace Go.Proofs.YtmbhohnoolflbaaDoorX

def le (a b : R) : Prop := ∀ r, a = some r → b = some r
theorem le.refl (a : R) : le a a := fun _ h => h
theorem le.trans {a b c : R} (h : le a b) (k : le b c) : le a c := fun r hr => k r (h r hr)
/-- From some place on, F answers what b answers. -/
def Ap (F : Nat → R) (b : R) : Prop := ∀ r, b = some r → ∃ k0, ∀ k, k0 ≤ k → F k = some r
theorem ap_none {F : Nat → R} : Ap F none := fun r h => by cases h
theorem ap_const {a b : R} : Ap (fun _ => a) b ↔ le b a := ⟨fun h r hr => by obtain ⟨k0, h0⟩ := h r hr; exact h0 k0 (Nat.le_refl _), fun h r hr => ⟨0, fun _ _ => h r hr⟩⟩
theorem ap_le {F : Nat → R} {a b : R} (h : le a b) (k : Ap F b) : Ap F a := fun r hr => k r (h r hr)
theorem ap_refl (a : R) : Ap (fun _ => a) a := ap_const.2 (le.refl a)

theorem ap_uni {α : Type} {F : (α → R) → R} (hF : Uni F) {G : Nat → α → R} {G' : α → R} (h : ∀ a, Ap (fun k => G k a) (G' a)) : Ap (fun k => F (G k)) (F G') := fun r hr => by
  obtain ⟨a, h1, h2⟩ := hF G' r hr
  obtain ⟨k0, h3⟩ := h a r h1
  exact ⟨k0, fun k hk => h2 _ _ (h3 k hk)⟩

open Classical in
noncomputable def lim (F : Nat → R) : R := if h : ∃ r k, F k = some r then some h.choose else none
def MonoS (F : Nat → R) : Prop := ∀ n, le (F n) (F (n + 1))
theorem MonoS.le {F : Nat → R} (h : MonoS F) {n m : Nat} (hnm : n ≤ m) : le (F n) (F m) := by
  induction hnm with
  | refl => exact .refl _
  | step _ ih => exact ih.trans (h _)
theorem lim_some {F : Nat → R} {r : Res} (h : lim F = some r) : ∃ k, F k = some r := by
  unfold lim at h
  split at h
  · rename_i hx
    obtain ⟨k, hk⟩ := hx.choose_spec
    exact ⟨k, by rw [hk, h]⟩
  · cases h
theorem lim_of {F : Nat → R} (hF : MonoS F) {r : Res} {k : Nat} (h : F k = some r) : lim F = some r := by
  have hx : ∃ r k, F k = some r := ⟨r, k, h⟩
  unfold lim
  rw [dif_pos hx]
  obtain ⟨m, hm⟩ := hx.choose_spec
  have h1 := hF.le (Nat.le_max_left k m) r h
  have h2 := hF.le (Nat.le_max_right k m) _ hm
  rw [h1] at h2
  exact h2.symm

noncomputable def loopInf : Loop := fun body s => lim fun n => loopN n body s

/-! ### Loops -/
abbrev Body := St → (St → R) → R
def Mono (bd : Body) : Prop := ∀ κ κ', (∀ s, le (κ s) (κ' s)) → ∀ s, le (bd s κ) (bd s κ')
def LoopM (L : Loop) : Prop := ∀ bd bd', Mono bd → Mono bd' → (∀ κ κ', (∀ s, le (κ s) (κ' s)) → ∀ s, le (bd s κ) (bd' s κ')) → ∀ s, le (L bd s) (L bd' s)
def LoopA (L : Nat → Loop) (L' : Loop) : Prop := ∀ (bd : Nat → Body) (bd' : Body), (∀ k, Mono (bd k)) → Mono bd' →
  (∀ (κ : Nat → St → R) (κ' : St → R), (∀ s, Ap (fun k => κ k s) (κ' s)) → ∀ s, Ap (fun k => bd k s (κ k)) (bd' s κ')) → ∀ s, Ap (fun k => L k (bd k) s) (L' bd' s)

theorem loopN_mono {bd : Body} (h : Mono bd) : ∀ s, MonoS fun n => loopN n bd s := by
  intro s n
  induction n generalizing s with
  | zero => exact fun r hr => by cases hr
  | succ n ih => exact h _ _ ih s
theorem loopInf_of {bd : Body} (h : Mono bd) {s : St} {n : Nat} {r : Res} (hr : loopN n bd s = some r) : loopInf bd s = some r := lim_of (loopN_mono h s) hr
theorem loopM_inf : LoopM loopInf := by
  intro bd bd' hm hm' hr s r h
  obtain ⟨n, hn⟩ := lim_some h
  have : ∀ n s, le (loopN n bd s) (loopN n bd' s) := by
    intro n
    induction n with
    | zero => intro s r hr; cases hr
    | succ n ih => intro s; exact hr _ _ ih s
  exact loopInf_of hm' (this n s r hn)
theorem loopM_N (n : Nat) : LoopM (loopN n) := by
  intro bd bd' hm hm' hr
  induction n with
  | zero => intro s r hr; cases hr
  | succ n ih => intro s; exact hr _ _ ih s
theorem loopA_diag {bd : Nat → Body} {bd' : Body} (hr : ∀ (κ : Nat → St → R) (κ' : St → R), (∀ s, Ap (fun k => κ k s) (κ' s)) → ∀ s, Ap (fun k => bd k s (κ k)) (bd' s κ')) :
    ∀ n d s, Ap (fun k => loopN (k - d) (bd k) s) (loopN n bd' s) := by
  intro n
  induction n with
  | zero => intro d s; exact ap_none
  | succ n ih =>
    intro d s r h
    obtain ⟨k0, h0⟩ := hr (fun k => loopN (k - (d + 1)) (bd k)) (loopN n bd') (fun s => ih (d + 1) s) s r h
    refine ⟨max k0 (d + 1), fun k hk => ?_⟩
    have : k - d = (k - (d + 1)) + 1 := by omega
    show loopN (k - d) (bd k) s = some r
    rw [this]
    exact h0 k (by omega)
theorem loopA_N : LoopA (fun k => loopN k) loopInf := by
  intro bd bd' hm hm' hr s r h
  obtain ⟨n, hn⟩ := lim_some h
  exact loopA_diag hr n 0 s r hn
theorem loopA_inf : LoopA (fun _ => loopInf) loopInf := by
  intro bd bd' hm hm' hr s r h
  obtain ⟨n, hn⟩ := lim_some h
  obtain ⟨k0, h0⟩ := loopA_diag hr n 0 s r hn
  exact ⟨k0, fun k hk => loopInf_of (hm k) (h0 k hk)⟩

/-! ### The interpreter's parts -/
section
variable {E : Cfg} {Φ : Nat → Callee} {Φ' : Callee}

def CallA (Φ : Nat → Callee) (Φ' : Callee) : Prop := ∀ f a b, Ap (fun k => Φ k f a b) (Φ' f a b)

theorem uni_take {s : St} {x : Operand} {α : Type} {G : AV → St → (α → R) → R} (h : ∀ v s, Uni (G v s)) : Uni (fun κ => take s x fun v s => G v s κ) := by
  intro κ r hk
  cases x with
  | tmp t =>
    simp only [take] at hk ⊢
    split at hk
    · rename_i e; obtain ⟨a, h1, h2⟩ := h _ _ κ r hk; exact ⟨a, h1, fun κ' r' h' => h2 κ' r' h'⟩
    · rename_i e; obtain ⟨a, h1, h2⟩ := h _ _ κ r hk; exact ⟨a, h1, fun κ' r' h' => h2 κ' r' h'⟩
    · obtain ⟨a, h1, h2⟩ := h _ _ κ r hk; exact ⟨a, h1, fun κ' r' h' => h2 κ' r' h'⟩
  | const v => exact h _ _ κ r hk
  | func f => exact h _ _ κ r hk
  | global g => exact h _ _ κ r hk
theorem uni_newLoc {s : St} {d : Option Nat} {b : List C} {α : Type} {G : AV → St → (α → R) → R} (h : ∀ v s, Uni (G v s)) : Uni (fun κ => newLoc s d b fun v s => G v s κ) := by
  intro κ r hk
  unfold newLoc at hk ⊢
  split at hk
  · split at hk
    · obtain ⟨a, h1, h2⟩ := h _ _ κ r hk; exact ⟨a, h1, fun κ' r' h' => h2 κ' r' h'⟩
    · cases hk
  · cases hk

theorem uni_ifp {α : Type} {p : Prop} [Decidable p] {F G : (α → R) → R} (h : Uni F) (h' : Uni G) : Uni (fun κ => if p then F κ else G κ) := by
  by_cases hp : p <;> simp only [hp, if_true, if_false] <;> assumption

theorem ap_onRes {o : Nat → R} {o' : R} {n : Nat} {κ : Nat → List V → List (List C) → R} {κ' : List V → List (List C) → R} {κp : Nat → TypeId → V → List (List C) → R} {κp' : TypeId → V → List (List C) → R} (ho : Ap o o') (h : ∀ vs bs, Ap (fun k => κ k vs bs) (κ' vs bs)) (hp : ∀ t x bs, Ap (fun k => κp k t x bs) (κp' t x bs)) :
    Ap (fun k => onRes (o k) n (κ k) (κp k)) (onRes o' n κ' κp') := by
  intro r hr
  unfold onRes at hr
  split at hr
  · rename_i vs bs
    unfold chk at hr
    cases hb : Nat.beq bs.length n with
    | false => rw [hb] at hr; cases hr
    | true =>
      rw [hb] at hr
      obtain ⟨k1, h1⟩ := ho _ rfl
      obtain ⟨k2, h2⟩ := h vs bs r hr
      refine ⟨max k1 k2, fun k hk => ?_⟩
      simp only [onRes, h1 k (by omega), chk, hb, cond_true]
      exact h2 k (by omega)
  · rename_i t x bs
    unfold chk at hr
    cases hb : Nat.beq bs.length n with
    | false => rw [hb] at hr; cases hr
    | true =>
      rw [hb] at hr
      obtain ⟨k1, h1⟩ := ho _ rfl
      obtain ⟨k2, h2⟩ := hp t x bs r hr
      refine ⟨max k1 k2, fun k hk => ?_⟩
      simp only [onRes, h1 k (by omega), chk, hb, cond_true]
      exact h2 k (by omega)
  · cases hr

theorem ap_callA (hΦ : CallA Φ Φ') {s : St} {t : TypeId} {f : AV} {args : List AV} {κ : Nat → AV → St → R} {κ' : AV → St → R} {κp : Nat → TypeId → V → St → R} {κp' : TypeId → V → St → R} (h : ∀ v s, Ap (fun k => κ k v s) (κ' v s)) (hp : ∀ t x s, Ap (fun k => κp k t x s) (κp' t x s)) :
    Ap (fun k => callA E (Φ k) s t f args (κ k) (κp k)) (callA E Φ' s t f args κ' κp') := by
  unfold callA
  split
  · refine ap_uni (F := fun κ => onO _ κ) (uni_onO fun n => uni_ret n) fun vs => ?_
    refine ap_uni (F := fun κ => onO _ κ) (uni_onO fun n => uni_ret n) fun bs => ?_
    refine ap_onRes (hΦ _ _ _) (fun rs bs => ?_) (fun _ _ _ => hp _ _ _)
    exact ap_uni uni_resA fun v => h _ _
  · exact ap_none

theorem ap_mOp (hΦ : CallA Φ Φ') {o : Oper} {s : St} {κ : Nat → AV → St → R} {κ' : AV → St → R} {κp : Nat → TypeId → V → St → R} {κp' : TypeId → V → St → R} (h : ∀ v s, Ap (fun k => κ k v s) (κ' v s)) (hp : ∀ t x s, Ap (fun k => κp k t x s) (κp' t x s)) :
    Ap (fun k => mOp E (Φ k) o s (κ k) (κp k)) (mOp E Φ' o s κ' κp') := by
  have key : ∀ (F : ((AV × St) → R) → R), Uni F → Ap (fun k => F fun p => κ k p.1 p.2) (F fun p => κ' p.1 p.2) := fun F hF => ap_uni hF fun p => h p.1 p.2
  unfold mOp
  cases ho : o.op <;> (try simp only) <;> try exact ap_none
  case alloc t => exact key (fun κ => ty E t fun i => chk (!i.zero.isEmpty) (newLoc s o.dst i.zero fun v s => κ (v, s))) (uni_ty fun i => uni_chk (uni_newLoc fun v s => uni_ret (v, s)))
  case box t x => exact key (fun κ => ty E t fun i => asV (ev s.env x).share fun v => chk (Nat.beq (valCells v).length i.size && (valCells v).all noPtr) (newLoc s o.dst (valCells v) fun v s => κ (v, s))) (uni_ty fun i => uni_asV fun v => uni_chk (uni_newLoc fun v s => uni_ret (v, s)))
  case store t a x =>
    refine ap_uni (F := fun κ => ty E t κ) (uni_ty fun n => uni_ret n) fun i => ?_
    split
    · rename_i p off he
      exact key (fun κ => take s x fun v s => asV (fixT E t v) fun v => chk ((valCells v).all noPtr) (onO (s.box p) fun cs => chk (cs.all noPtr) (paste i.size cs off (valCells v) fun cs => κ (.und, (s.setBox p cs)))))
        (uni_take fun v s => uni_asV fun v => uni_chk (uni_onO fun cs => uni_chk (uni_paste fun cs => uni_ret _)))
    · exact ap_none
  case move x => exact key (fun κ => take s x fun v s => κ (fixT E o.type v, s)) (uni_take fun v s => uni_ret _)
  case assign x => exact key (fun κ => take s x fun v s => κ (fixT E o.type v, s)) (uni_take fun v s => uni_ret _)
  case load t a =>
    refine ap_uni (F := fun κ => ty E t κ) (uni_ty fun n => uni_ret n) fun i => ?_
    split
    · rename_i e p off hk he
      exact key (fun κ => onO (s.box p) fun cs => onO (nth cs off) fun c0 => viewC E (.slice e) c0 fun c => paste 1 cs off [c0.dem] fun cs => κ (.v (.c c), s.setBox p cs))
        (uni_onO fun cs => uni_onO fun c => uni_viewC fun c => uni_paste fun cs => uni_ret _)
    · exact ap_none
  case extract x i =>
    unfold extA
    split
    · rename_i t
      split
      · rename_i vs used he
        exact key (fun κ => chk (!memN used i) (ty E o.type fun j => onO (nth vs i) fun v => viewV E j.k v fun v => κ (.v v, { s with env := setE s.env t (.tup vs (i :: used)) })))
          (uni_chk (uni_ty fun j => uni_onO fun v => uni_viewV fun v => uni_ret _))
      · exact ap_none
    · exact ap_none
  case call c =>
    obtain ⟨callee, a, ts⟩ := c
    cases callee with
    | builtin b =>
      cases b <;> try exact ap_none
      case append =>
        simp only
        split
        · rename_i a x t t' _ _
          refine ap_uni (F := fun κ => chk (Nat.beq t t') (κ ())) (fun κ r hr => ?_) (G := fun k _ => appendA E s t a x (κ k)) (G' := fun _ => appendA E s t a x κ') fun _ => ?_
          · obtain ⟨a, h1, h2⟩ := (uni_chk (b := Nat.beq t t') (uni_ret ())) κ r hr
            exact ⟨a, h1, h2⟩
          · unfold appendA
            refine ap_uni (F := fun κ => ty E t κ) (uni_ty fun n => uni_ret n) fun i => ?_
            split
            · rename_i e he
              exact key (fun κ => ty E e fun ei => take s a fun av s => asL av fun sz es fl => asL (ev s.env x) fun sz2 es2 _ =>
                chk ((Nat.beq sz ei.size || es.isEmpty) && (Nat.beq sz2 ei.size || es2.isEmpty) && fl.ok && Nat.blt 0 ei.size && Nat.blt 0 ei.bytes && !ei.zero.isEmpty) (chk (decide ((es.length + es2.length) * ei.bytes ≤ 140737488355328))
                  (κ (.v (.c (.sl ei.size (es ++ es2) .own)), s))))
                (uni_ty fun ei => uni_take fun av s => uni_asL fun sz es fl => uni_asL fun sz2 es2 _ => uni_chk (uni_chk (uni_ret _)))
            · exact ap_none
        · exact ap_none
    | value f => exact ap_callA hΦ h hp
    | _ => exact ap_none
  case defer c =>
    obtain ⟨callee, a, ts⟩ := c
    cases callee with
    | value f =>
      simp only
      split
      · rename_i g ps _ _ _
        exact key (fun κ => onO (E.dfr g) fun _ => κ (.und, { s with dfr := some (g, ps) })) (uni_onO fun _ => uni_ret _)
      · exact ap_none
    | _ => exact ap_none
  case panic x =>
    split
    · exact hp _ _ _
    · exact ap_none

theorem ap_opStep (hΦ : CallA Φ Φ') {ops : List Oper} {o : Oper} {s : St} {κ : Nat → St → R} {κ' : St → R} {κp : Nat → TypeId → V → St → R} {κp' : TypeId → V → St → R} (h : ∀ s, Ap (fun k => κ k s) (κ' s)) (hp : ∀ t x s, Ap (fun k => κp k t x s) (κp' t x s)) :
    Ap (fun k => opStep E (Φ k) ops o s (κ k) (κp k)) (opStep E Φ' ops o s κ' κp') := by
  unfold opStep
  cases isM o (ev s.env) ops with
  | true => exact ap_mOp hΦ (fun v s => h _) hp
  | false => exact ap_uni (G := fun k v => κ k (s.put o.dst v)) (G' := fun v => κ' (s.put o.dst v)) uni_hOp fun v => h _

theorem ap_guard {ops : List Oper} {o : Oper} {s : St} {y : Nat → St → R} {y' : St → R} {n : Nat → St → R} {n' : St → R} (h : ∀ s, Ap (fun k => y k s) (y' s)) (hn : ∀ s, Ap (fun k => n k s) (n' s)) : Ap (fun k => guardA ops o s (y k) (n k)) (guardA ops o s y' n') := by
  unfold guardA
  split
  · exact h _
  · rename_i j want _
    refine ap_uni (F := fun κ => onO _ κ) (uni_onO fun n => uni_ret n) fun oj => ?_
    refine ap_uni (F := fun κ => onO _ κ) (uni_onO fun n => uni_ret n) fun d => ?_
    split
    · exact hn _
    · rename_i b _
      cases b <;> cases want <;> simp only [cond_true, cond_false] <;> first | exact h _ | exact hn _
    · exact ap_none

theorem ap_runOps (hΦ : CallA Φ Φ') {ops : List Oper} {κ : Nat → St → R} {κ' : St → R} {κp : Nat → TypeId → V → St → R} {κp' : TypeId → V → St → R} (h : ∀ s, Ap (fun k => κ k s) (κ' s)) (hp : ∀ t x s, Ap (fun k => κp k t x s) (κp' t x s)) :
    ∀ (l : List Oper) (s : St), Ap (fun k => runOps E (Φ k) ops l s (κ k) (κp k)) (runOps E Φ' ops l s κ' κp')
  | [], s => h s
  | o :: r, s => by
    unfold runOps
    exact ap_guard (fun s => ap_opStep hΦ (fun s => ap_runOps hΦ h hp r s) hp) (fun s => ap_runOps hΦ h hp r _)

theorem ap_runD (hΦ : CallA Φ Φ') {ops : List Oper} {κ : Nat → St → R} {κ' : St → R} {κp : Nat → TypeId → V → St → R} {κp' : TypeId → V → St → R} (h : ∀ s, Ap (fun k => κ k s) (κ' s)) (hp : ∀ t x s, Ap (fun k => κp k t x s) (κp' t x s)) :
    ∀ (l : List Oper) (cl : List (List Nat)) (acc : List Ann) (s : St), Ap (fun k => runD E (Φ k) ops l cl acc s (κ k) (κp k)) (runD E Φ' ops l cl acc s κ' κp')
  | [], _, _, s => h s
  | o :: r, cl, acc, s => by
    unfold runD
    refine ap_uni (F := fun κ => chk _ (κ ())) (uni_chk (uni_ret ())) (G := fun k _ => stepOP E (Φ k) ops o s _ _) (G' := fun _ => stepOP E Φ' ops o s _ _) fun _ => ?_
    unfold stepOP
    exact ap_guard (fun s => ap_opStep hΦ (fun s => ap_runD hΦ h hp r _ _ s) (fun t x s => ap_uni (F := fun κ => chk _ (κ ())) (uni_chk (uni_ret ())) (G := fun k _ => κp k t x s) (G' := fun _ => κp' t x s) fun _ => hp t x s)) (fun s => ap_runD hΦ h hp r _ _ _)

theorem exec_mono {L : Loop} (hL : LoopM L) (f : FuncId) : ∀ (c : Code) {Φ Φ' : Callee}, (∀ f a b, le (Φ f a b) (Φ' f a b)) → ∀ (s : St) {κ κ' : St → R} {κx κx' : Nat → St → R} {κr κr' : St → R} {κp κp' : TypeId → V → St → R}, (∀ s, le (κ s) (κ' s)) → (∀ i s, le (κx i s) (κx' i s)) → (∀ s, le (κr s) (κr' s)) → (∀ t x s, le (κp t x s) (κp' t x s)) →
    le (exec E Φ L f c s κ κx κr κp) (exec E Φ' L f c s κ' κx' κr' κp') := by
  intro c
  induction c with
  | skip => intro Φ Φ' hΦ s _ _ _ _ _ _ _ _ h _ _ _; exact h s
  | ret => intro Φ Φ' hΦ s _ _ _ _ _ _ _ _ _ _ h _; exact h s
  | exit id => intro Φ Φ' hΦ s _ _ _ _ _ _ _ _ _ h _ _; exact h id s
  | seq a b iha ihb => intro Φ Φ' hΦ s _ _ _ _ _ _ _ _ h hx hr hp; exact iha hΦ s (fun s => ihb hΦ _ h hx hr hp) hx hr hp
  | cond c a b iha ihb =>
    intro Φ Φ' hΦ s _ _ _ _ _ _ _ _ h hx hr hp
    refine ap_const.1 (ap_uni (F := fun κ => asB (ev s.env c) κ) (uni_asB fun n => uni_ret n) fun t => ap_const.2 ?_)
    cases t
    · exact ihb hΦ s h hx hr hp
    · exact iha hΦ s h hx hr hp
  | block id b ih =>
    intro Φ Φ' hΦ s _ _ _ _ _ _ _ _ h hx hr hp
    refine ih hΦ s h (fun i s => ?_) hr hp
    cases Nat.beq i id
    · exact hx i s
    · exact h s
  | loop b ih =>
    intro Φ Φ' hΦ s κ κ' κx κx' κr κr' κp κp' h hx hr hp
    refine hL (fun s q => exec E Φ L f b (pre E f b s) q κx κr κp) (fun s q => exec E Φ' L f b (pre E f b s) q κx' κr' κp') (fun κ κ' hk s => ?_) (fun κ κ' hk s => ?_) (fun κ κ' hk s => ih hΦ _ hk hx hr hp) s
    · exact ih (fun _ _ _ => .refl _) _ hk (fun _ _ => .refl _) (fun _ => .refl _) (fun _ _ _ => .refl _)
    · exact ih (fun _ _ _ => .refl _) _ hk (fun _ _ => .refl _) (fun _ => .refl _) (fun _ _ _ => .refl _)
  | region id ops draw =>
    intro Φ Φ' hΦ s κ κ' κx κx' κr κr' κp κp' h hx hr hp
    have hC : CallA (fun _ => Φ') Φ := fun f a b => ap_const.2 (hΦ f a b)
    cases draw with
    | true => exact ap_const.1 (ap_uni (F := fun κ : Unit → R => chk (assoc (E.live f) id).isSome (κ ())) (uni_chk (uni_ret ())) (G := fun k _ => runD E Φ' ops.toList ops.toList [] [] s (fun s => κ' (post E f id s)) κp') (G' := fun _ => runD E Φ ops.toList ops.toList [] [] s (fun s => κ (post E f id s)) κp) fun _ => ap_runD hC (κ := fun _ s => κ' (post E f id s)) (κp := fun _ => κp') (κp' := κp) (fun s => ap_const.2 (h _)) (fun t x s => ap_const.2 (hp t x s)) _ _ _ _)
    | false => exact ap_const.1 (ap_runOps hC (κ := fun _ s => κ' (post E f id s)) (κp := fun _ => κp') (κp' := κp) (fun s => ap_const.2 (h _)) (fun t x s => ap_const.2 (hp t x s)) _ _)
  | _ => intro _ _ _ _ _ _ _ _ _ _ _ _ _ _ _ _ r hr; cases hr

theorem exec_ap {L : Nat → Loop} {L' : Loop} (hL : LoopA L L') (hM : ∀ k, LoopM (L k)) (hM' : LoopM L') (hΦ : CallA Φ Φ') (f : FuncId) : ∀ (c : Code) (s : St) {κ : Nat → St → R} {κ' : St → R} {κx : Nat → Nat → St → R} {κx' : Nat → St → R} {κr : Nat → St → R} {κr' : St → R} {κp : Nat → TypeId → V → St → R} {κp' : TypeId → V → St → R}, (∀ s, Ap (fun k => κ k s) (κ' s)) → (∀ i s, Ap (fun k => κx k i s) (κx' i s)) → (∀ s, Ap (fun k => κr k s) (κr' s)) → (∀ t x s, Ap (fun k => κp k t x s) (κp' t x s)) →
    Ap (fun k => exec E (Φ k) (L k) f c s (κ k) (κx k) (κr k) (κp k)) (exec E Φ' L' f c s κ' κx' κr' κp') := by
  intro c
  induction c with
  | skip => intro s _ _ _ _ _ _ _ _ h _ _ _; exact h s
  | ret => intro s _ _ _ _ _ _ _ _ _ _ h _; exact h s
  | exit id => intro s _ _ _ _ _ _ _ _ _ h _ _; exact h id s
  | seq a b iha ihb => intro s _ _ _ _ _ _ _ _ h hx hr hp; exact iha s (fun s => ihb _ h hx hr hp) hx hr hp
  | cond c a b iha ihb =>
    intro s κ κ' κx κx' κr κr' κp κp' h hx hr hp
    refine ap_uni (F := fun κ => asB (ev s.env c) κ) (uni_asB fun n => uni_ret n) (G := fun k t => bif t then exec E (Φ k) (L k) f a s (κ k) (κx k) (κr k) (κp k) else exec E (Φ k) (L k) f b s (κ k) (κx k) (κr k) (κp k)) fun t => ?_
    cases t
    · exact ihb s h hx hr hp
    · exact iha s h hx hr hp
  | block id b ih =>
    intro s κ κ' κx κx' κr κr' κp κp' h hx hr hp
    refine ih s h (κx := fun k i s => bif Nat.beq i id then κ k s else κx k i s) (fun i s => ?_) hr hp
    cases Nat.beq i id
    · exact hx i s
    · exact h s
  | loop b ih =>
    intro s κ κ' κx κx' κr κr' κp κp' h hx hr hp
    refine hL (fun k s q => exec E (Φ k) (L k) f b (pre E f b s) q (κx k) (κr k) (κp k)) _ (fun k κ κ' hk s => ?_) (fun κ κ' hk s => ?_) (fun κ κ' hk s => ih _ hk hx hr hp) s
    · exact exec_mono (hM k) f b (fun _ _ _ => .refl _) _ hk (fun _ _ => .refl _) (fun _ => .refl _) (fun _ _ _ => .refl _)
    · exact exec_mono hM' f b (fun _ _ _ => .refl _) _ hk (fun _ _ => .refl _) (fun _ => .refl _) (fun _ _ _ => .refl _)
  | region id ops draw =>
    intro s κ κ' κx κx' κr κr' κp κp' h hx hr hp
    cases draw with
    | true => exact ap_uni (F := fun κ : Unit → R => chk (assoc (E.live f) id).isSome (κ ())) (uni_chk (uni_ret ())) (G := fun k _ => runD E (Φ k) ops.toList ops.toList [] [] s (fun s => κ k (post E f id s)) (κp k)) (G' := fun _ => runD E Φ' ops.toList ops.toList [] [] s (fun s => κ' (post E f id s)) κp') fun _ => ap_runD hΦ (κ := fun k s => κ k (post E f id s)) (fun s => h _) hp _ _ _ _
    | false => exact ap_runOps hΦ (κ := fun k s => κ k (post E f id s)) (fun s => h _) hp _ _
  | _ => intro _ _ _ _ _ _ _ _ _ _ _ _ _ r hr; cases hr

/-! ### Calls without fuel -/
noncomputable def callInf (E : Cfg) : Callee := fun f a b => lim fun k => callN E k f a b

theorem execF_mono {L : Loop} (hL : LoopM L) {Φ Φ' : Callee} (hΦ : ∀ f a b, le (Φ f a b) (Φ' f a b)) (f : FuncId) (fn : Func) (args : List V) (bs : List (List C)) : le (execF E Φ L f fn args bs) (execF E Φ' L f fn args bs) := by
  unfold execF
  split
  · exact .refl _
  · exact exec_mono hL f _ hΦ _ (fun _ => .refl _) (fun _ _ => .refl _) (fun _ => .refl _) (fun _ _ _ => .refl _)
theorem execF_ap {L : Nat → Loop} {L' : Loop} (hL : LoopA L L') (hM : ∀ k, LoopM (L k)) (hM' : LoopM L') (hΦ : CallA Φ Φ') (f : FuncId) (fn : Func) (args : List V) (bs : List (List C)) : Ap (fun k => execF E (Φ k) (L k) f fn args bs) (execF E Φ' L' f fn args bs) := by
  unfold execF
  split
  · exact ap_none
  · exact exec_ap hL hM hM' hΦ f _ _ (κ := fun _ => retK E fn) (κx := fun _ _ _ => none) (κr := fun _ => retK E fn) (κp := fun _ => panK E fn) (fun _ => ap_refl _) (fun _ _ => ap_refl _) (fun _ => ap_refl _) (fun _ _ _ => ap_refl _)

theorem loopN_le {n : Nat} : ∀ bd bd' : Body, Mono bd → Mono bd' → (∀ κ κ', (∀ s, le (κ s) (κ' s)) → ∀ s, le (bd s κ) (bd' s κ')) → ∀ s, le (loopN n bd s) (loopN (n + 1) bd' s) :=
  fun bd bd' hm hm' hr s => (loopM_N n bd bd' hm hm' hr s).trans (loopN_mono hm' s n)

theorem callN_mono : ∀ (f : FuncId) (a : List V) (b : List (List C)), MonoS fun k => callN E k f a b := by
  intro f a b k
  induction k generalizing f a b with
  | zero => exact fun r hr => by cases hr
  | succ k ih =>
    simp only
    rw [callN, callN]
    split
    · exact .refl _
    · cases E.fns f with
      | none => exact .refl _
      | some fn =>
        simp only [onO]
        have h1 : le (execF E (callN E k) (loopN k) f fn a b) (execF E (callN E (k + 1)) (loopN k) f fn a b) := execF_mono (loopM_N k) (fun f a b => ih f a b) f fn a b
        refine h1.trans ?_
        have h2 := execF_ap (E := E) (Φ := fun _ => callN E (k + 1)) (Φ' := callN E (k + 1)) (L := fun _ => loopN (k + 1)) (L' := loopN k) (fun bd bd' hm hm' hr s => ?_) (fun _ => loopM_N _) (loopM_N _) (fun _ _ _ => ap_refl _) f fn a b
        · exact ap_const.1 h2
        · have key : ∀ n s, Ap (fun j => loopN n (bd j) s) (loopN n bd' s) := by
            intro n
            induction n with
            | zero => intro s; exact ap_none
            | succ n ih => intro s; exact hr (fun j => loopN n (bd j)) (loopN n bd') ih s
          intro r hr'
          obtain ⟨k0, h0⟩ := key k s r hr'
          exact ⟨k0, fun j hj => (loopN_mono (hm j) s k) r (h0 j hj)⟩

theorem callA_N : CallA (callN E) (callInf E) := by
  intro f a b r h
  obtain ⟨k0, h0⟩ := lim_some h
  exact ⟨k0, fun k hk => (callN_mono f a b).le hk r h0⟩
theorem callInf_N {f : FuncId} {a : List V} {b : List (List C)} {r : Res} (h : callInf E f a b = some r) : ∃ k, callN E k f a b = some r := lim_some h

/-- What a body answers over calls and loops without fuel, the call answers. -/
theorem callInf_of {f : FuncId} {fn : Func} (hp : E.prim f = none) (hf : E.fns f = some fn) (a : List V) (b : List (List C)) : le (execF E (callInf E) loopInf f fn a b) (callInf E f a b) := by
  intro r h
  obtain ⟨k0, h0⟩ := execF_ap loopA_N (fun k => loopM_N k) loopM_inf callA_N f fn a b r h
  refine lim_of (callN_mono f a b) (k := k0 + 1) ?_
  rw [callN, hp, hf]
  exact h0 k0 (Nat.le_refl _)
theorem callInf_prim {f : FuncId} {p : List V → List (List C) → R} (hp : E.prim f = some p) (a : List V) (b : List (List C)) : le (p a b) (callInf E f a b) := by
  intro r h
  refine lim_of (callN_mono f a b) (k := 1) ?_
  rw [callN, hp]
  exact h

/-- A loop's round. -/
theorem loop_unfold (f : FuncId) (b : Code) (s : St) {κx : Nat → St → R} {κr : St → R} {κp : TypeId → V → St → R} {Φ : Callee} :
    let bd : Body := fun s k => exec E Φ loopInf f b (pre E f b s) k κx κr κp
    le (bd s (loopInf bd)) (loopInf bd s) := by
  intro bd
  have hm : Mono bd := fun κ κ' hk s => exec_mono loopM_inf f b (fun _ _ _ => .refl _) _ hk (fun _ _ => .refl _) (fun _ => .refl _) (fun _ _ _ => .refl _)
  intro r h
  have h1 : Ap (fun k => exec E Φ loopInf f b (pre E f b s) (loopN k bd) κx κr κp) (bd s (loopInf bd)) :=
    exec_ap (Φ := fun _ => Φ) loopA_inf (fun _ => loopM_inf) loopM_inf (fun _ _ _ => ap_refl _) f b _ (κ := fun k => loopN k bd) (κx := fun _ => κx) (κr := fun _ => κr) (κp := fun _ => κp)
      (fun s r hr => by obtain ⟨k0, h0⟩ := lim_some hr; exact ⟨k0, fun k hk => (loopN_mono hm s).le hk r h0⟩) (fun _ _ => ap_refl _) (fun _ => ap_refl _) (fun _ _ _ => ap_refl _)
  obtain ⟨k0, h0⟩ := h1 r h
  exact loopInf_of hm (n := k0 + 1) (h0 k0 (Nat.le_refl _))

end
end Go.Proofs.YtmbhohnoolflbaaDoorX
