/-
  DEFERRED CLOSURES THAT RECOVER: what such a closure does to its boxes, whether its function returns or panics: its code behind the call of recover, run by the interpreter.
-/
import Derived.Test.YtmbhohnoolflbaaDoorXCfg
import Derived.Test.YtmbhohnoolflbaaDoorXDraw
import Derived.Test.YtmbhohnoolflbaaDoorXFun
set_option linter.unusedVariables false
set_option linter.unusedSimpArgs false
namespace Go.Proofs.YtmbhohnoolflbaaDoorX

def E1 (T : List TI) (L : FuncId → List (Nat × List Nat × List Nat)) : Cfg := { T := T, fns := fun _ => none, live := L, prim := fun _ => none, dfr := fun _ => none }
def noCall : Callee := fun _ _ _ => none
theorem noCall_spec {P : Program} {W : Imm → World → Prop} : FnSpec P W noCall := fun _ _ _ _ h => by cases h

def capFrom : Nat → Nat → List V
  | _, 0 => []
  | k, n + 1 => .c (.ptr (.out k) 0) :: capFrom (k + 1) n
def pvA : Option (TypeId × V) → AV
  | none => .v (.c .nif)
  | some (t, x) => .ifc t x
def cloSt (n tr tx : Nat) (pv : Option (TypeId × V)) (bs : List (List C)) : St :=
  (({ env := env0 (capFrom 0 n) 0, loc := [], out := bs, dfr := none } : St).put (some tr) (pvA pv)).put (some tx) (pvA pv)
def cloK (s : St) : R :=
  match s.dfr with
  | none => some (.ret [] s.out)
  | some _ => none
def cloRun (T : List TI) (L : FuncId → List (Nat × List Nat × List Nat)) (g : FuncId) (n tr tx : Nat) (rest : Code) (pv : Option (TypeId × V)) (bs : List (List C)) : Option (List (List C)) :=
  bif Nat.beq bs.length n then
    match exec (E1 T L) noCall (loopN 0) g rest (cloSt n tr tx pv bs) cloK (fun _ _ => none) cloK (fun _ _ _ => none) with
    | some (.ret [] bs') => some bs'
    | _ => none
  else none

section
variable {P : Program} {I : Imm} {w : World}

theorem relVs_cap {mo : List Nat} : ∀ (l : List Nat) (k : Nat), (∀ j, nth mo (k + j) = l[j]?) → relVs I w (mpo mo) (capFrom k l.length) (l.map fun b => Value.pointer (some ⟨b, 0, none⟩))
  | [], k, _ => rfl
  | b :: l, k, h => by
    refine ⟨_, _, rfl, ⟨⟨b, ?_, rfl⟩, rfl⟩, relVs_cap l (k + 1) fun j => ?_⟩
    · have := h 0
      rw [Nat.add_zero] at this
      exact this
    · have := h (j + 1)
      rw [show k + (j + 1) = k + 1 + j by omega] at this
      simpa using this

/-- What a deferred closure does. -/
def DfrAt (P : Program) (W : Imm → World → Prop) (g : FuncId) (h : Option (TypeId × V) → List (List C) → Option (List (List C))) : Prop :=
  (∃ fn, P.funcs[g]? = some fn ∧ (fn.name == "runtime.NumGoroutine") = false ∧ fn.body.isNone = false) ∧
    ∀ pv bs bs', h pv bs = some bs' → ∀ w I mo ow u, W I w → Boxes I w ow mo bs → (∀ b o, I b o → b < w.heap.size) → (∀ b x, ow b = some x → b < w.heap.size) → modeOk I w pv u →
      CallsD P g (ptrsOf mo) u w fun e u' w' => match e with
        | .returned _ => settle u' = .returning ∧ ∃ J ow', End0 ow I w mo ow' J w' bs'
        | .outgrown => False
        | .panicked _ => False
theorem clo_sound {T : List TI} {L : FuncId → List (Nat × List Nat × List Nat)} (hT : WellT P T) (hm : P.follows .mixedOrders = true) {W : Imm → World → Prop} (hW : Lasts W) {g : FuncId} {fn : Func} (hfn : P.funcs[g]? = some fn) (hname : (fn.name == "runtime.NumGoroutine") = false)
    {id n tr tx : Nat} {o1 o2 : Oper} {rest : Code} (hbody : fn.body = some (.seq (.region id #[o1, o2] false) rest)) (h1 : o1.op = .call { callee := .builtin .recover, args := #[], argTypes := #[] }) (g1 : o1.guard = none) (d1 : o1.dst = some tr)
    (h2 : o2.op = .assign (.tmp tr)) (g2 : o2.guard = none) (d2 : o2.dst = some tx) (hres : fn.results = #[]) (hok : codeOk fn.ntmps rest = true) (htr : tr < fn.ntmps) (htx : tx < fn.ntmps) (hn : n ≤ fn.ntmps) :
    DfrAt P W g (cloRun T L g n tr tx rest) := by
  refine ⟨⟨fn, hfn, hname, by rw [hbody]; rfl⟩, ?_⟩
  intro pv bs bs' hrun w I mo ow u hW0 hb hI hl hu
  unfold cloRun at hrun
  cases hlen : Nat.beq bs.length n with
  | false => rw [hlen] at hrun; cases hrun
  | true =>
  rw [hlen] at hrun
  simp only [cond_true] at hrun
  have hbn := Nat.eq_of_beq_eq_true hlen
  have hmon : mo.length = n := hb.1.trans hbn
  obtain ⟨r, hr, hrb⟩ : ∃ r, exec (E1 T L) noCall (loopN 0) g rest (cloSt n tr tx pv bs) cloK (fun _ _ => none) cloK (fun _ _ _ => none) = some r ∧ r = .ret [] bs' := by
    split at hrun
    · rename_i bs2 he
      cases hrun
      exact ⟨_, he, rfl⟩
    · cases hrun
  subst hrb
  refine callsD_of_wpS hfn hbody fun c₀ cs hc => ?_
  apply wpS_seq
  apply wpS_region
  -- what recover finds
  obtain ⟨v, cs', hrec, hvA, u', hcs', hset⟩ : ∃ v cs', ((recoverD (c₀ :: cs) = some (v, cs')) ∨ (recoverD (c₀ :: cs) = none ∧ v = .nilIface ∧ cs' = c₀ :: cs)) ∧ relA I w (fun _ => none) (pvA pv) v [] ∧ ∃ u', cs' = { c₀ with mode := u' } :: cs ∧ settle u' = .returning := by
    cases pv with
    | none =>
      simp only [modeOk] at hu
      subst hu
      refine ⟨.nilIface, c₀ :: cs, .inr ⟨?_, rfl, rfl⟩, ⟨rfl, rfl⟩, .returning, ?_, rfl⟩
      · simp only [recoverD, hc]
      · cases c₀; simp only at hc; subst hc; rfl
    | some q =>
      obtain ⟨t, x⟩ := q
      obtain ⟨q, rfl, hq⟩ := hu
      refine ⟨.iface t q, { c₀ with mode := .panicking [{ v := .iface t q, recovered := true }] } :: cs, .inl ?_, ⟨⟨q, rfl, hq⟩, rfl⟩, _, rfl, rfl⟩
      simp only [recoverD, hc]
  let args : List Value := mo.map fun b => Value.pointer (some ⟨b, 0, none⟩)
  have hargs : ptrsOf mo = args.toArray := rfl
  have hal : args.length = n := by simp [args, hmon]
  let a0 : Act := { tmps := args.toArray ++ Array.replicate (fn.ntmps - args.length) undef, defers := [] }
  let a2 : Act := (a0.put (some tr) v).put (some tx) v
  have ha0 : a0.tmps.size = fn.ntmps := by simp only [a0, Array.size_append, List.size_toArray, Array.size_replicate]; omega
  have hev : (a0.put (some tr) v).eval (.tmp tr) = v := by
    show (a0.put (some tr) v).tmps.getD tr undef = v
    rw [getD_put a0 tr v tr (by omega), if_pos rfl]
  let B : Base := ⟨mo, fun b => (ow b).isSome = true, I, w, args.length + (fn.ntmps - args.length)⟩
  have hnt : B.nt = fn.ntmps := by simp only [B]; omega
  have hinv : Inv B (cloSt n tr tx pv bs) a2 w := by
    have hv : relVs I w (mpo mo) (capFrom 0 n) args := by
      have := relVs_cap (I := I) (w := w) (mo := mo) mo 0 (fun j => by rw [Nat.zero_add, nth_eq])
      rwa [hmon] at this
    have s0 : Inv B { env := env0 (capFrom 0 n) 0, loc := [], out := bs, dfr := none } a0 w := start_ok hv hb hI hl (fn.ntmps - args.length)
    have step : ∀ {s : St} {a : Act} (d : Nat), Inv B s a w → d < B.nt → Inv B (s.put (some d) (pvA pv)) (a.put (some d) v) w := by
      rintro s a d ⟨mp, ow', J, c⟩ hd
      have h1 : relA J w (fun _ => none) (pvA pv) v [] := relA_step c.step hvA (by simp)
      have h2 : relA J w mp (pvA pv) v [] := relA_mono (fun p hp b hb => by cases hb) h1
      exact (c.mid h2).put (some d) (fun k hk => by cases hk; exact hd)
    exact step tx (step tr s0 (by omega)) (by omega)
  have key : rest.wpS P (bodyPostS P fn c₀ cs fun e u' w' => match e with
        | .returned _ => settle u' = .returning ∧ ∃ J ow', End0 ow I w mo ow' J w' bs'
        | .outgrown => False
        | .panicked _ => False) a2 cs' w := by
    refine wpS_of_wp (exec_sound (P := P) (E := E1 T L) hT hW noCall_spec (draw_sound hT hW hm noCall_spec) (B := B) hW0 0 g rest (by rw [hnt]; exact hok) _ a2 w _ _ _ _ _ (fun _ _ _ _ _ _ _ => rfl) hr hinv ⟨?_, ?_, ?_, ?_⟩)
    all_goals first
      | (intro s a w' hk hi
         unfold cloK at hk
         split at hk
         · rename_i hd
           obtain ⟨mp, ow', J, c⟩ := hi
           have hdf := c.dfr
           rw [hd] at hdf
           have hout : s.out = bs' := by injection hk with hk; injection hk
           refine ⟨hdf, u', hcs', _, results_none hres _ _ _, hset, J, ow', ?_⟩
           have := c.ends (ow0 := ow) (ow' := ow') (fun _ h => h) (fun _ _ h => h) (fun _ _ h => h) (fun b x h => ⟨x, h⟩)
           rwa [hout] at this
         · cases hk)
      | (intro t x q s a w' hk hp; cases hk)
      | (intro i s a w' hk hp; cases hk)
  have hop2 : (execOp (a0.put (some tr) v).eval o2).run P w = .ok (.value v) w := by
    simp only [execOp, h2, Sem.run_pure, hev]
  have hop1 : (execOp a0.eval o1).run P w = .ok .recover w := by
    simp [execOp, h1, resolve, invoke, builtin]
  have hr2 : List.range (#[o1, o2]).size = [0, 1] := rfl
  rw [hr2, hargs]
  have hsz2 : args.toArray.size = args.length := by simp
  rw [hsz2]
  show wpOpsS P #[o1, o2] _ [0, 1] a0 (c₀ :: cs) w
  simp only [wpOpsS]
  rw [show (#[o1, o2] : Array Oper)[0]? = some o1 from rfl, show (#[o1, o2] : Array Oper)[1]? = some o2 from rfl]
  simp only [Region.wanted, g1, g2, hop1, if_true, d1, d2]
  rcases hrec with hrec | ⟨hrec, rfl, rfl⟩
  · simp only [hrec, hop2]
    rw [Oper.upon_value, d2]
    exact key
  · simp only [hrec, hop2]
    rw [Oper.upon_value, d2]
    exact key

end
end Go.Proofs.YtmbhohnoolflbaaDoorX
