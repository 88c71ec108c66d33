/-
  CALLS: what a function's interpretation promises; a call of it.
-/
import Derived.Test.YtmbhohnoolflbaaDoorXOpN
set_option linter.unusedVariables false
set_option linter.unusedSimpArgs false
namespace Go.Proofs.YtmbhohnoolflbaaDoorX

def mpo (mo : List Nat) : PRef → Option Nat
  | .out i => nth mo i
  | .loc _ => none
def relVs (I : Imm) (w : World) (mp : PRef → Option Nat) : List V → List Value → Prop
  | [], l => l = []
  | x :: xs, l => ∃ v r, l = v :: r ∧ relV I w mp x v [] ∧ relVs I w mp xs r
def Boxes (I : Imm) (w : World) (ow : Own) (mo : List Nat) (bs : List (List C)) : Prop :=
  mo.length = bs.length ∧ ∀ i cs, nth bs i = some cs → BoxOk I w (mpo mo) ow (.out i) cs

structure End0 (ow : Own) (I : Imm) (w : World) (mo : List Nat) (ow' : Own) (J : Imm) (w' : World) (bs : List (List C)) : Prop where
  step : Step (fun b => (ow b).isSome = true) I J w w'
  boxes : Boxes J w' ow' mo bs
  fresh : ∀ b x, ow' b = some x → (ow b).isSome = true ∨ w.heap.size ≤ b
  lt : ∀ b x, ow' b = some x → b < w'.heap.size

def pack : List Value → Value
  | [v] => v
  | l => .tuple l.toArray

def EndOk (ow : Own) (I : Imm) (w : World) (mo : List Nat) (r : Res) (e : Ending) (w' : World) : Prop :=
  match e, r with
  | .outgrown, _ => False
  | .returned v, .ret vs bs => ∃ J ow' l ts, End0 ow I w mo ow' J w' bs ∧ v = pack l ∧ relT J w' (fun _ => none) [] 0 vs l ts ∧ Held ow' .res ts
  | .panicked chain, .pan t x bs => ∃ J ow' u, End0 ow I w mo ow' J w' bs ∧ chain = [{ v := .iface t u, recovered := false }] ∧ relV J w' (fun _ => none) x u []
  | _, _ => False

/-- What must hold of the world, and goes on to hold. -/
def Lasts (W : Imm → World → Prop) : Prop := ∀ (ch : Nat → Prop) I J w w', Step ch I J w w' → W I w → W J w'

def FnSpec (P : Program) (W : Imm → World → Prop) (Φ : Callee) : Prop :=
  ∀ f vs bs r, Φ f vs bs = some r → (∃ fn, P.funcs[f]? = some fn ∧ (fn.name == "runtime.NumGoroutine") = false ∧ fn.body.isNone = false) ∧
    ∀ w I mo ow args, W I w → relVs I w (mpo mo) vs args → Boxes I w ow mo bs → (∀ b o, I b o → b < w.heap.size) → (∀ b x, ow b = some x → b < w.heap.size) → Calls P f args.toArray w (EndOk ow I w mo r)

/-! ### Places in a list -/
theorem eqb_iff {p q : PRef} : p.eqb q = true ↔ p = q := by
  cases p <;> cases q <;> simp only [PRef.eqb, PRef.out.injEq, PRef.loc.injEq, reduceCtorEq, Bool.false_eq_true]
  · exact ⟨Nat.eq_of_beq_eq_true, fun h => by subst h; exact Nat.beq_refl _⟩
  · exact ⟨Nat.eq_of_beq_eq_true, fun h => by subst h; exact Nat.beq_refl _⟩
theorem ixP_some {p : PRef} : ∀ {l : List PRef} {k i : Nat}, ixP l p k = some i → ∃ j, i = k + j ∧ l[j]? = some p
  | [], k, i, h => by cases h
  | q :: r, k, i, h => by
    simp only [ixP] at h
    cases hq : q.eqb p with
    | true => rw [hq] at h; simp at h; exact ⟨0, by omega, by simp [eqb_iff.1 hq]⟩
    | false =>
      rw [hq] at h
      simp only [cond_false] at h
      obtain ⟨j, h1, h2⟩ := ixP_some h
      exact ⟨j + 1, by omega, by simpa using h2⟩
theorem ixP_none {p : PRef} : ∀ {l : List PRef} {k : Nat}, ixP l p k = none → p ∉ l
  | [], _, _ => by simp
  | q :: r, k, h => by
    simp only [ixP] at h
    cases hq : q.eqb p with
    | true => rw [hq] at h; simp at h
    | false =>
      rw [hq] at h
      simp only [cond_false] at h
      have := ixP_none h
      have hne : q ≠ p := fun e => by rw [eqb_iff.2 e] at hq; cases hq
      simp only [List.mem_cons, not_or]
      exact ⟨fun e => hne e.symm, this⟩
theorem ixP_of_get {l : List PRef} (hn : l.Nodup) {i : Nat} {p : PRef} (h : l[i]? = some p) : ixP l p 0 = some i := by
  cases hx : ixP l p 0 with
  | none => exact absurd (List.mem_of_getElem? h) (ixP_none hx)
  | some j =>
    obtain ⟨k, h1, h2⟩ := ixP_some hx
    have : k = i := by
      have hk := (List.getElem?_eq_some_iff.1 h2)
      have hi := (List.getElem?_eq_some_iff.1 h)
      obtain ⟨a1, a2⟩ := hk
      obtain ⟨b1, b2⟩ := hi
      exact (List.getElem_inj hn).1 (by rw [a2, b2])
    simp; omega
theorem dedupP_nodup : ∀ (l acc : List PRef), acc.Nodup → (dedupP l acc).Nodup
  | [], acc, h => by simp only [dedupP]; exact (List.reverse_perm acc).nodup_iff.2 h
  | p :: r, acc, h => by
    simp only [dedupP]
    split
    · exact dedupP_nodup r acc h
    · rename_i hn
      exact dedupP_nodup r (p :: acc) (List.nodup_cons.2 ⟨ixP_none hn, h⟩)

section
variable {P : Program} {E : Cfg} {B : Base} {mp : PRef → Option Nat} {ow : Own} {I : Imm} {s : St} {a : Act} {w : World} {r : Res}

theorem boxesOf_get : ∀ {ps : List PRef} {bs : List (List C)}, boxesOf s ps = some bs → bs.length = ps.length ∧ ∀ (i : Nat) (p : PRef), ps[i]? = some p → ∃ cs, nth bs i = some cs ∧ s.box p = some cs
  | [], bs, h => by simp [boxesOf] at h; subst h; simp
  | p :: r, bs, h => by
    simp only [boxesOf] at h
    split at h
    · rename_i b l hb hl
      cases h
      obtain ⟨h1, h2⟩ := boxesOf_get hl
      refine ⟨by simp [h1], fun i q hq => ?_⟩
      cases i with
      | zero => simp at hq; subst hq; exact ⟨b, rfl, hb⟩
      | succ i => simp at hq; obtain ⟨cs, k1, k2⟩ := h2 i q hq; exact ⟨cs, by simpa [nth] using k1, k2⟩
    · cases h

theorem putBoxes_box : ∀ {ps : List PRef} {bs : List (List C)} {s : St} {k : Nat}, ps.Nodup → (∀ p, p ∈ ps → (s.box p).isSome = true) → ∀ q, (putBoxes s ps bs k).box q = match ixP ps q k with | some i => some (bs.getD i []) | none => s.box q
  | [], bs, s, k, _, _, q => by simp [putBoxes, ixP]
  | p :: r, bs, s, k, hn, hs, q => by
    obtain ⟨hp, hr⟩ := List.nodup_cons.1 hn
    have hs' : ∀ x, x ∈ r → ((s.setBox p (bs.getD k [])).box x).isSome = true := fun x hx => by
      rw [box_setBox]; split
      · rfl
      · exact hs x (by simp [hx])
    simp only [putBoxes, ixP]
    rw [putBoxes_box hr hs' q]
    cases hq : p.eqb q with
    | true =>
      have := eqb_iff.1 hq; subst this
      simp only [cond_true]
      have : ixP r p (k + 1) = none := by
        cases hx : ixP r p (k + 1) with
        | none => rfl
        | some j => obtain ⟨i, _, h2⟩ := ixP_some hx; exact absurd (List.mem_of_getElem? h2) hp
      rw [this]
      simp [box_setBox, hs p (by simp)]
    | false =>
      simp only [cond_false]
      have hne : ¬ q = p := fun e => by rw [eqb_iff.2 e.symm] at hq; cases hq
      split
      · rfl
      · rw [box_setBox, if_neg (fun h => hne h.1)]
theorem putBoxes_env : ∀ (ps : List PRef) (bs : List (List C)) (s : St) (k : Nat), (putBoxes s ps bs k).env = s.env ∧ (putBoxes s ps bs k).dfr = s.dfr
  | [], _, _, _ => ⟨rfl, rfl⟩
  | p :: r, bs, s, k => by
    obtain ⟨h1, h2⟩ := putBoxes_env r bs (s.setBox p (bs.getD k [])) (k + 1)
    exact ⟨h1.trans (setBox_env s p _), h2.trans (setBox_dfr s p _)⟩

theorem nth_isSome {α : Type} {l : List α} {i : Nat} (h : i < l.length) : ∃ x, nth l i = some x := ⟨l[i], by rw [nth_eq, List.getElem?_eq_getElem h]⟩

theorem renPs_ok {ps : List PRef} {mo : List Nat} (hmo : ps.map mp = mo.map some) : ∀ {qs l : List PRef}, renPs ps qs = some l → qs.map mp = l.map (mpo mo)
  | [], l, h => by simp [renPs] at h; subst h; rfl
  | q :: r, l, h => by
    simp only [renPs] at h
    split at h
    · rename_i i l' hi hl
      cases h
      obtain ⟨j, hj, hg⟩ := ixP_some hi
      rw [Nat.zero_add] at hj; subst hj
      have : (ps.map mp)[i]? = some (mp q) := by simp [hg]
      rw [hmo] at this
      simp only [List.getElem?_map, Option.map_eq_some_iff] at this
      obtain ⟨b, hb, hb'⟩ := this
      simp only [List.map_cons, renPs_ok hmo hl, mpo]
      rw [nth_eq, hb, hb']
    · cases h
theorem renV_ok {ps : List PRef} {mo : List Nat} (hmo : ps.map mp = mo.map some) {x y : V} {v : Value} (h : renV ps x = some y) (hx : relV I w mp x v []) : relV I w (mpo mo) y v [] := by
  cases x with
  | agg cs => simp [renV] at h; subst h; obtain ⟨h1, vs, h2, h3, h4⟩ := hx; exact ⟨h1, vs, h2, relL_mp h4 h3, h4⟩
  | c x =>
    simp only [renV] at h
    split at h
    · rename_i z hz
      cases h
      cases x <;> simp only [renP, Option.some.injEq] at hz <;> try (subst hz; exact hx)
      case sl sz es fl => subst hz; have := relV_share (mp := mp) (x := .c (.sl sz es fl)) hx; exact this
      case ptr p off =>
        split at hz
        · rename_i i hi
          cases hz
          obtain ⟨⟨b, hb, hv⟩, ht⟩ := hx
          have := renPs_ok (qs := [p]) (l := [.out i]) hmo (by simp [renPs, hi])
          simp at this
          exact ⟨⟨b, by rw [← this]; exact hb, hv⟩, ht⟩
        · cases hz
      case fn f qs =>
        split at hz
        · rename_i l hl
          cases hz
          obtain ⟨⟨bs, hb, hv⟩, ht⟩ := hx
          exact ⟨⟨bs, by rw [← renPs_ok hmo hl]; exact hb, hv⟩, ht⟩
        · cases hz
    · cases h
theorem renVs_ok {ps : List PRef} {mo : List Nat} (hmo : ps.map mp = mo.map some) : ∀ {xs : List AV} {ys : List V} {vs : List Value}, renVs ps xs = some ys → vs.length = xs.length → (∀ (j : Nat) (x : AV) (v : Value), xs[j]? = some x → vs[j]? = some v → ∀ y, x = .v y → relV I w mp y v []) → relVs I w (mpo mo) ys vs
  | [], ys, vs, h, hl, _ => by
    simp [renVs] at h; subst h
    exact List.eq_nil_of_length_eq_zero (by simpa using hl)
  | x :: xs, ys, vs, h, hl, hr => by
    cases x <;> simp only [renVs, reduceCtorEq] at h
    case v x =>
      split at h
      · rename_i y l hy hl'
        cases h
        cases vs with
        | nil => simp at hl
        | cons v vs =>
          exact ⟨v, vs, rfl, renV_ok hmo hy (hr 0 _ v (by simp) (by simp) x rfl), renVs_ok hmo hl' (by simpa using hl) (fun j x v hj hv => hr (j + 1) x v (by simpa using hj) (by simpa using hv))⟩
      · cases h

/-- The boxes that are handed on have blocks. -/
theorem Core.blocks (c : Core B mp ow I s a w) : ∀ {ps : List PRef} {bs : List (List C)}, boxesOf s ps = some bs → ∃ mo : List Nat, ps.map mp = mo.map some
  | [], _, _ => ⟨[], rfl⟩
  | p :: r, bs, h => by
    simp only [boxesOf] at h
    split at h
    · rename_i b l hb hl
      obtain ⟨mo, hmo⟩ := c.blocks hl
      obtain ⟨k, _, hk, _⟩ := c.box p b hb
      exact ⟨k :: mo, by simp [hk, hmo]⟩
    · cases h

def ownC (ow : Own) (ps : List PRef) : Own := fun b => match ow b with
  | some (.blk p) => (ixP ps p 0).map fun i => .blk (.out i)
  | some (.tip p) => (ixP ps p 0).map fun i => .tip (.out i)
  | _ => none
def ownR (ow owr : Own) (ps : List PRef) : Own := fun b => match owr b with
  | some (.blk (.out i)) => (ps[i]?).map .blk
  | some (.tip (.out i)) => (ps[i]?).map .tip
  | some .res => some .res
  | some _ => none
  | none => if (ownC ow ps b).isSome then none else match ow b with
    | some .res => none
    | x => x

theorem ownC_some {ps : List PRef} {b : Nat} (h : (ownC ow ps b).isSome = true) : ∃ x, ow b = some x := by
  unfold ownC at h
  cases hb : ow b with
  | none => simp [hb] at h
  | some x => exact ⟨x, rfl⟩
theorem ownC_env {ps : List PRef} {b t : Nat} (h : ow b = some (.env t)) : ownC ow ps b = none := by simp [ownC, h]
theorem ownC_out {ps : List PRef} {b : Nat} {p : PRef} (h : ow b = some (.blk p) ∨ ow b = some (.tip p)) (hp : p ∉ ps) : ownC ow ps b = none := by
  have : ixP ps p 0 = none := by
    cases hx : ixP ps p 0 with
    | none => rfl
    | some j => obtain ⟨i, _, h2⟩ := ixP_some hx; exact absurd (List.mem_of_getElem? h2) hp
  rcases h with h | h <;> simp [ownC, h, this]

theorem Core.boxesC (c : Core B mp ow I s a w) {ps : List PRef} (hn : ps.Nodup) {mo : List Nat} (hmo : ps.map mp = mo.map some) {bs : List (List C)} (hbs : boxesOf s ps = some bs) : Boxes I w (ownC ow ps) mo bs := by
  obtain ⟨hl, hget⟩ := boxesOf_get hbs
  have hml : mo.length = ps.length := by have := congrArg List.length hmo; simpa using this.symm
  refine ⟨by omega, fun i cs hi => ?_⟩
  rw [nth_eq] at hi
  have hlt : i < ps.length := by rw [← hl]; exact (List.getElem?_eq_some_iff.1 hi).1
  obtain ⟨cs', k1, k2⟩ := hget i ps[i] (List.getElem?_eq_getElem hlt)
  rw [nth_eq, hi] at k1; cases k1
  obtain ⟨b, ts, e1, e2, e3, e4⟩ := c.box _ _ k2
  have hix := ixP_of_get hn (List.getElem?_eq_getElem hlt)
  have hmb : nth mo i = some b := by
    have : (ps.map mp)[i]? = some (mp ps[i]) := by simp [List.getElem?_eq_getElem hlt]
    rw [hmo, e1] at this
    simp only [List.getElem?_map, Option.map_eq_some_iff, Option.some.injEq] at this
    obtain ⟨x, h1, h2⟩ := this
    rw [nth_eq, h1, h2]
  exact ⟨b, ts, hmb, by simp [ownC, e2, hix], e3, e4.1, fun x hx => by simp [ownC, e4.2 x hx, hix]⟩

/-- After a call: the caller's state with the boxes that came back. -/
theorem Core.back (c : Core B mp ow I s a w) {ps : List PRef} (hn : ps.Nodup) {mo : List Nat} (hmo : ps.map mp = mo.map some) {bs bs' : List (List C)} (hbs : boxesOf s ps = some bs) (hlen : bs'.length = ps.length)
    {ow' : Own} {J : Imm} {w' : World} (h : End0 (ownC ow ps) I w mo ow' J w' bs') : Core B mp (ownR ow ow' ps) J (putBoxes s ps bs' 0) a w' := by
  obtain ⟨hl, hget⟩ := boxesOf_get hbs
  have hsome : ∀ p, p ∈ ps → (s.box p).isSome = true := fun p hp => by
    obtain ⟨i, hi⟩ := List.getElem?_of_mem hp
    obtain ⟨cs, _, h2⟩ := hget i p hi
    simp [h2]
  obtain ⟨he, hd⟩ := putBoxes_env ps bs' s 0
  have hkeep : ∀ b x, ow b = some x → x ≠ .res → ownC ow ps b = none → ownR ow ow' ps b = some x := by
    intro b x hx hne hc
    have : ow' b = none := by
      cases ho : ow' b with
      | none => rfl
      | some y =>
        rcases h.fresh b y ho with h1 | h1
        · rw [hc] at h1; cases h1
        · have := c.lt b x hx; omega
    unfold ownR
    rw [this, hc, hx]
    cases x <;> first | rfl | exact absurd rfl hne
  have hold : ∀ b x, ownR ow ow' ps b = some x → (∃ y, ow b = some y) ∨ (∃ y, ow' b = some y) := by
    intro b x hx
    unfold ownR at hx
    cases ho : ow' b with
    | some y => exact .inr ⟨y, rfl⟩
    | none =>
      rw [ho] at hx
      simp only at hx
      split at hx
      · cases hx
      · cases hb : ow b with
        | none => rw [hb] at hx; simp at hx
        | some y => exact .inl ⟨y, rfl⟩
  constructor
  case env =>
    intro t
    obtain ⟨ts, k1, k2⟩ := c.env t
    rw [he]
    exact ⟨ts, relA_step h.step k1 (fun b hb hc => by rw [ownC_env (k2.2 b hb)] at hc; cases hc), k2.1, fun b hb => hkeep b _ (k2.2 b hb) (by simp) (ownC_env (k2.2 b hb))⟩
  case box =>
    intro p cs hp
    rw [putBoxes_box hn hsome] at hp
    cases hx : ixP ps p 0 with
    | some i =>
      rw [hx] at hp
      simp only [Option.some.injEq] at hp
      obtain ⟨j, hj, hg⟩ := ixP_some hx
      rw [Nat.zero_add] at hj; subst hj
      have hlt : i < bs'.length := by rw [hlen]; exact (List.getElem?_eq_some_iff.1 hg).1
      have hn' : nth bs' i = some cs := by rw [nth_eq, ← hp, List.getD_eq_getElem?_getD, List.getElem?_eq_getElem hlt]; simp
      obtain ⟨b, ts, e1, e2, e3, e4⟩ := h.boxes.2 i cs hn'
      have hmb : mp p = some b := by
        have : (ps.map mp)[i]? = some (mp p) := by simp [hg]
        rw [hmo] at this
        simp only [List.getElem?_map, Option.map_eq_some_iff] at this
        obtain ⟨x, h1, h2⟩ := this
        simp only [mpo, nth_eq, h1, Option.some.injEq] at e1
        rw [← h2, e1]
      exact ⟨b, ts, hmb, by simp [ownR, e2, hg], e3, e4.1, fun x hx => by simp [ownR, e4.2 x hx, hg]⟩
    | none =>
      rw [hx] at hp
      simp only at hp
      obtain ⟨b, ts, e1, e2, e3, e4⟩ := c.box p cs hp
      have hc := ownC_out (ps := ps) (.inl e2) (ixP_none hx)
      exact ⟨b, ts, e1, hkeep b _ e2 (by simp) hc, relB_step h.step e3 (fun h => by rw [hc] at h; cases h) (fun x hx' h => by rw [ownC_out (.inr (e4.2 x hx')) (ixP_none hx)] at h; cases h), e4.1,
        fun x hx' => hkeep x _ (e4.2 x hx') (by simp) (ownC_out (.inr (e4.2 x hx')) (ixP_none hx))⟩
  case dom =>
    intro p hp
    rw [putBoxes_box hn hsome] at hp
    cases hx : ixP ps p 0 with
    | some i => rw [hx] at hp; simp at hp
    | none => rw [hx] at hp; exact c.dom p hp
  case outs => exact c.outs
  case fresh =>
    intro b x hx
    rcases hold b x hx with ⟨y, hy⟩ | ⟨y, hy⟩
    · exact c.fresh b y hy
    · rcases h.fresh b y hy with h1 | h1
      · obtain ⟨z, hz⟩ := ownC_some h1; exact c.fresh b z hz
      · exact .inr (Nat.le_trans c.step.ext.size h1)
  case lt =>
    intro b x hx
    rcases hold b x hx with ⟨y, hy⟩ | ⟨y, hy⟩
    · exact Nat.lt_of_lt_of_le (c.lt b y hy) h.step.ext.size
    · exact h.lt b y hy
  case bnd => exact h.step.bnd c.bnd
  case size => exact c.size
  case step => exact c.step.trans h.step (fun b hb => by obtain ⟨z, hz⟩ := ownC_some hb; exact c.fresh b z hz)
  case dfr => rw [hd]; exact c.dfr

end
end Go.Proofs.YtmbhohnoolflbaaDoorX
