/-
  THE RUN: what the interpreter answers, the machine answers.
-/
import Derived.Test.YtmbhohnoolflbaaDoorXCall
import Derived.LoopN
set_option linter.unusedVariables false
set_option linter.unusedSimpArgs false
namespace Go.Proofs.YtmbhohnoolflbaaDoorX

section
variable {P : Program} {E : Cfg} {B : Base} {mp : PRef → Option Nat} {ow : Own} {I : Imm} {s : St} {a : Act} {w : World} {r : Res}

/-- A panic is under way. -/
def PInv (B : Base) (s : St) (x : V) (u : Value) (a : Act) (w : World) : Prop := ∃ mp ow I, Core B mp ow I s a w ∧ relV I w (fun _ => none) x u []

theorem relT_length {used : List Nat} : ∀ {xs : List V} {k : Nat} {vs : List Value} {ts : List Nat}, relT I w mp used k xs vs ts → vs.length = xs.length
  | [], _, _, _, h => by rw [h.1]; rfl
  | x :: xs, _, _, _, h => by obtain ⟨v, l, t1, t2, rfl, _, _, hl⟩ := h; simp [relT_length hl]

theorem run_resA {t : TypeId} {rs : List V} {l : List Value} {ts : List Nat} (hr : relT I w (fun _ => none) [] 0 rs l ts) {κ : AV → R} (h : resA E t rs κ = some r) : ∃ av, κ av = some r ∧ relA I w mp av (pack l) ts := by
  obtain ⟨i, hi, h1⟩ := ty_inv h
  have hlen := relT_length hr
  split at h1
  · obtain ⟨h2, h3⟩ := chk_inv h1
    refine ⟨_, h3, l, ?_, hr⟩
    have hne : l.length ≠ 1 := by rw [hlen]; intro e; simp [e] at h2
    match l, hne with
    | [], _ => rfl
    | [_], h => exact absurd rfl h
    | _ :: _ :: _, _ => rfl
  · unfold one1 at h1
    cases rs with
    | nil => cases h1
    | cons v rs =>
      cases rs with
      | cons _ _ => cases h1
      | nil =>
        obtain ⟨u, l', t1, t2, rfl, rfl, h3, h4⟩ := hr
        rw [h4.1, h4.2]
        rw [if_neg (by simp [memN])] at h3
        obtain ⟨y, k1, k2, _⟩ := viewV_inv h1 h3
        exact ⟨_, k1, by rw [List.append_nil]; exact relV_mp0 k2⟩

theorem run_callA (hT : WellT P E.T) {W : Imm → World → Prop} (hW : Lasts W) {Φ : Callee} (hΦ : FnSpec P W Φ) (hB : W B.I0 B.w0) (c : Core B mp ow I s a w) {o : Oper} {f : Operand} {as : Array Operand} {tys : Array TypeId}
    (ho : o.op = .call { callee := .value f, args := as, argTypes := tys }) {κ : AV → St → R} {κp : TypeId → V → St → R}
    (h : callA E Φ s o.type (ev s.env f) ((as.toList.map (ev s.env)).map AV.share) κ κp = some r)
    {next : Act → World → Prop} {Q : Exit → Act → World → Prop}
    (hk : ∀ v s' x w', κ v s' = some r → Mid B s' v a x w' → next (a.put o.dst x) w')
    (hp : ∀ t x u s' w', κp t x s' = some r → PInv B s' x u a w' → Q (.panic [{ v := .iface t u, recovered := false }]) a w') : o.wp P a w next Q := by
  unfold callA at h
  split at h
  · rename_i fid caps hf
    obtain ⟨vs, hvs, h1⟩ := onO_inv h
    obtain ⟨bs, hbs, h2⟩ := onO_inv h1
    obtain ⟨tf, hfr, _⟩ := c.ev f
    rw [hf] at hfr
    obtain ⟨⟨cbs, hcb, hfv⟩, _⟩ := hfr
    generalize hps : dedupP ((List.map AV.share (List.map (ev s.env) as.toList) ++ List.map (fun p => AV.v (V.c (C.ptr p 0))) caps).flatMap ptrsA) [] = ps at hvs hbs h2
    have hn : ps.Nodup := by rw [← hps]; exact dedupP_nodup _ _ .nil
    obtain ⟨mo, hmo⟩ := c.blocks hbs
    let args : List Value := as.toList.map a.eval ++ cbs.map fun b => Value.pointer (some ⟨b, 0, none⟩)
    have hcl : cbs.length = caps.length := by have := congrArg List.length hcb; simpa using this.symm
    have hargs : relVs I w (mpo mo) vs args := by
      refine renVs_ok hmo hvs (by simp [args, hcl]) ?_
      intro j x v hj hv y hy
      subst hy
      by_cases hlt : j < as.toList.length
      · rw [List.getElem?_append_left (by simpa using hlt)] at hj hv
        simp only [List.getElem?_map, Option.map_eq_some_iff] at hj hv
        obtain ⟨y1, ⟨y2, h3, rfl⟩, h5⟩ := hj
        obtain ⟨z, h6, rfl⟩ := hv
        rw [h3] at h6; cases h6
        obtain ⟨tx, hx, _⟩ := c.ev y2
        cases he : ev s.env y2 with
        | v q => rw [he] at h5 hx; simp only [AV.share, AV.v.injEq] at h5; subst h5; exact relV_share hx
        | _ => rw [he] at h5; simp [AV.share] at h5
      · have hge : as.toList.length ≤ j := by omega
        rw [List.getElem?_append_right (by simpa using hge)] at hj hv
        simp only [List.getElem?_map, Option.map_eq_some_iff, List.length_map] at hj hv
        obtain ⟨p, h3, h4⟩ := hj
        obtain ⟨b, h5, rfl⟩ := hv
        cases h4
        have : (caps.map mp)[j - as.toList.length]? = some (mp p) := by rw [List.getElem?_map, h3]; rfl
        rw [hcb, List.getElem?_map, h5] at this
        simp only [Option.map_some, Option.some.injEq] at this
        exact ⟨⟨b, this.symm, rfl⟩, rfl⟩
    -- what the interpreter answers of it
    have hres : ∃ q, Φ fid vs bs = some q ∧ onRes (some q) ps.length
        (fun rs bs => resA E o.type rs fun v => κ v (putBoxes s ps bs 0)) (fun t x bs => κp t x (putBoxes s ps bs 0)) = some r := by
      cases hq : Φ fid vs bs with
      | none => rw [hq] at h2; simp [onRes] at h2
      | some q => exact ⟨q, rfl, by rw [hq] at h2; exact h2⟩
    obtain ⟨q, hq, h3⟩ := hres
    obtain ⟨⟨fn, hfn, hname, hbody⟩, hspec⟩ := hΦ fid vs bs q hq
    have hcall := hspec w I mo (ownC ow ps) args (hW _ _ _ _ _ c.step hB) hargs (c.boxesC hn hmo hbs) c.bnd (fun b x hx => by obtain ⟨y, hy⟩ := ownC_some (ow := ow) (ps := ps) (b := b) (by rw [hx]; rfl); exact c.lt b y hy)
    have hrun : (execOp a.eval o).run P w = .ok (.enter fid args.toArray) w := by
      have : as.map a.eval ++ (List.map (fun b => Value.pointer (some ⟨b, 0, none⟩)) cbs).toArray = args.toArray := by
        apply Array.ext'; simp [args]
      have hn1 : ¬ fn.name = "runtime.NumGoroutine" := by simpa using hname
      have hn2 : ¬ fn.body = none := by intro e; simp [e] at hbody
      simp [execOp, ho, resolve, hfv, Deferred.ofValue, invoke, callFunc, hfn, hn1, hn2, this]
    unfold Oper.wp
    rw [hrun, Oper.upon_enter]
    refine Calls.mono hcall ?_
    intro e w' he
    cases e with
    | outgrown => exact he.elim
    | returned v =>
      cases q with
      | pan t x bs' => exact he.elim
      | ret rs bs' =>
        obtain ⟨J, ow', l, ts, h0, rfl, hrel, hheld⟩ := he
        simp only [onRes] at h3
        obtain ⟨hlen, h4⟩ := chk_inv h3
        have hlen' := Nat.eq_of_beq_eq_true hlen
        obtain ⟨av, h5, h6⟩ := run_resA (mp := mp) hrel h4
        refine hk _ _ _ _ h5 ⟨mp, ownR ow ow' ps, J, ts, c.back hn hmo hbs hlen' h0, h6, hheld.1, fun b hb => ?_⟩
        simp [ownR, hheld.2 b hb]
    | panicked chain =>
      cases q with
      | ret rs bs' => exact he.elim
      | pan t x bs' =>
        obtain ⟨J, ow', u, h0, rfl, hrel⟩ := he
        simp only [onRes] at h3
        obtain ⟨hlen, h4⟩ := chk_inv h3
        have hlen' := Nat.eq_of_beq_eq_true hlen
        exact hp _ _ _ _ _ h4 ⟨mp, ownR ow ow' ps, J, c.back hn hmo hbs hlen' h0, hrel⟩
  · cases h

/-- One operation. -/
theorem op_sound (hT : WellT P E.T) {W : Imm → World → Prop} (hW : Lasts W) {Φ : Callee} (hΦ : FnSpec P W Φ) (hB : W B.I0 B.w0) {ops : List Oper} {o : Oper} {κ : St → R} {κp : TypeId → V → St → R} (hd : ∀ n, o.dst = some n → n < B.nt)
    (hc : Inv B s a w) (h : opStep E Φ ops o s κ κp = some r)
    {next : Act → World → Prop} {Q : Exit → Act → World → Prop}
    (hk : ∀ s' a' w', κ s' = some r → Inv B s' a' w' → next a' w')
    (hp : ∀ t x u s' a' w', κp t x s' = some r → PInv B s' x u a' w' → Q (.panic [{ v := .iface t u, recovered := false }]) a' w') : o.wp P a w next Q := by
  obtain ⟨mp, ow, I, c⟩ := hc
  have fin : MRes P B o a w (fun v s => κ (s.put o.dst v)) r → o.wp P a w next Q := by
    rintro ⟨v, x, s', w', h1, h2, h3⟩
    have hi := h3.put o.dst hd
    unfold Oper.wp
    rcases h2 with h2 | ⟨h2, rfl⟩
    · rw [h2, Oper.upon_value]; exact hk _ _ _ h1 hi
    · rw [h2, Oper.upon_skip]; exact hk _ _ _ h1 hi
  unfold opStep at h
  cases hm : isM o (ev s.env) ops with
  | false =>
    rw [hm] at h
    simp only [cond_false] at h
    obtain ⟨x, v, w', J, h1, h2, h3, h4⟩ := run_hOp (P := P) (mp := mp) hT c.bnd (fun x => let ⟨t, k, _⟩ := c.ev x; ⟨t, k⟩) (mem := s.box) (fun p cs hp => by obtain ⟨b, ts, k1, _, k3, _⟩ := c.box p cs hp; exact ⟨b, ts, k1, k3⟩) h
    exact fin ⟨x, v, s, w', h1, .inl h2, (c.go h3 (fun _ _ _ _ h => h) (fun _ h => h.elim)).mid h4⟩
  | true =>
    rw [hm] at h
    simp only [cond_true] at h
    unfold mOp at h
    split at h
    · rename_i t ho; exact fin (run_alloc hT c ho h)
    · rename_i t x ho; exact fin (run_box c ho h)
    · rename_i t ad x ho; exact fin (run_store hT c ho h)
    · rename_i x ho; exact fin (run_move c (.inl ho) h)
    · rename_i x ho; exact fin (run_move c (.inr ho) h)
    · rename_i t ad ho; exact fin (run_loadMove hT c ho h)
    · rename_i x i ho; exact fin (run_extractMove c ho h)
    · rename_i as tys ho
      split at h
      · rename_i x y t t' h1 h2; exact fin (run_appendM hT c ho h1 h2 h)
      · cases h
    · rename_i f as tys ho
      exact run_callA hT hW hΦ hB c ho h (fun v s' x w' h1 h2 => hk _ _ _ h1 (h2.put o.dst hd)) (fun t x u s' w' h1 h2 => hp t x u s' a w' h1 h2)
    · rename_i f as tys ho
      split at h
      · rename_i fid ps has hf hdn
        obtain ⟨g, hg, h1⟩ := onO_inv h
        obtain ⟨tf, hfr, _⟩ := c.ev f
        rw [hf] at hfr
        obtain ⟨⟨cbs, hcb, hfv⟩, _⟩ := hfr
        have hdd : a.defers = [] := by have := c.dfr; rw [hdn] at this; exact this
        have hae : as = #[] := Array.ext' has
        have hrun : (execOp a.eval o).run P w = .ok (.defer { target := .fn (.func fid) (cbs.map fun b => Value.pointer (some ⟨b, 0, none⟩)).toArray, args := #[] }) w := by
          simp [execOp, ho, resolve, hfv, Deferred.ofValue, hae]
        unfold Oper.wp
        rw [hrun, Oper.upon_defer]
        have hmid : Mid B { s with dfr := some (fid, ps) } .und { a with defers := { target := .fn (.func fid) (cbs.map fun b => Value.pointer (some ⟨b, 0, none⟩)).toArray, args := #[] } :: a.defers } undef w :=
          ⟨mp, ow, I, [], ⟨c.env, fun p cs hp => c.box p cs (by cases p <;> exact hp), fun p hp => c.dom p (by cases p <;> exact hp), c.outs, c.fresh, c.lt, c.bnd, c.size, c.step, ⟨cbs, hcb, by rw [hdd]⟩⟩, ⟨rfl, rfl⟩, .nil _ _⟩
        exact hk _ _ _ h1 (hmid.put o.dst hd)
      · cases h
    · rename_i x ho
      split at h
      · rename_i t v hx
        obtain ⟨tx, hr, _⟩ := c.ev x
        rw [hx] at hr
        obtain ⟨⟨u, hu, hv⟩, _⟩ := hr
        have hrun : (execOp a.eval o).run P w = .halt (.panic (.iface t u)) w := by
          simp [execOp, ho, Instr.panic, hu, goPanic]
        unfold Oper.wp
        rw [hrun, Oper.upon_panic]
        exact hp _ _ _ _ _ _ h ⟨mp, ow, I, c, hv⟩
      · cases h
    · cases h

end
end Go.Proofs.YtmbhohnoolflbaaDoorX
