/-
  THE STATE: how the interpreter's state reads in the machine; who owns which block; what each kind of change keeps.
-/
import Derived.Test.YtmbhohnoolflbaaDoorXOpD
set_option linter.unusedVariables false
set_option linter.unusedSimpArgs false
namespace Go.Proofs.YtmbhohnoolflbaaDoorX

/-- Who may own a block: it is a box; a box's slice may grow into it; a temporary's; a value's under way. -/
inductive Slot where
  | blk (p : PRef) | tip (p : PRef) | env (t : Nat) | res
  deriving DecidableEq

abbrev Own := Nat → Option Slot
def Held (ow : Own) (s : Slot) (ts : List Nat) : Prop := ts.Nodup ∧ ∀ b, b ∈ ts → ow b = some s
theorem Held.nil (ow : Own) (s : Slot) : Held ow s [] := ⟨.nil, by simp⟩
theorem Held.sub {ow : Own} {s : Slot} {ts us : List Nat} (h : Held ow s ts) (hs : us.Sublist ts) : Held ow s us := ⟨hs.nodup h.1, fun b hb => h.2 b (hs.subset hb)⟩

def BoxOk (I : Imm) (w : World) (mp : PRef → Option Nat) (ow : Own) (p : PRef) (cs : List C) : Prop :=
  ∃ b ts, mp p = some b ∧ ow b = some (.blk p) ∧ relB I w b cs ts ∧ Held ow (.tip p) ts

def DfrOk (mp : PRef → Option Nat) : Option (FuncId × List PRef) → List Deferred → Prop
  | none, ds => ds = []
  | some (f, ps), ds => ∃ bs : List Nat, ps.map mp = bs.map some ∧ ds = [{ target := .fn (.func f) (bs.map fun b => Value.pointer (some ⟨b, 0, none⟩)).toArray, args := #[] }]

structure Base where
  mo : List Nat
  own : Nat → Prop
  I0 : Imm
  w0 : World
  nt : Nat

structure Core (B : Base) (mp : PRef → Option Nat) (ow : Own) (I : Imm) (s : St) (a : Act) (w : World) : Prop where
  env : ∀ t, ∃ ts, relA I w mp (getE s.env t) (a.tmps.getD t undef) ts ∧ Held ow (.env t) ts
  box : ∀ p cs, s.box p = some cs → BoxOk I w mp ow p cs
  dom : ∀ p, s.box p = none → mp p = none
  outs : ∀ i, mp (.out i) = nth B.mo i
  fresh : ∀ b x, ow b = some x → B.own b ∨ B.w0.heap.size ≤ b
  lt : ∀ b x, ow b = some x → b < w.heap.size
  bnd : ∀ b o, I b o → b < w.heap.size
  size : a.tmps.size = B.nt
  step : Step B.own B.I0 I B.w0 w
  dfr : DfrOk mp s.dfr a.defers

def Inv (B : Base) (s : St) (a : Act) (w : World) : Prop := ∃ mp ow I, Core B mp ow I s a w
/-- A value is under way. -/
def Mid (B : Base) (s : St) (v : AV) (a : Act) (x : Value) (w : World) : Prop :=
  ∃ mp ow I ts, Core B mp ow I s a w ∧ relA I w mp v x ts ∧ Held ow .res ts

/-! ### Lists -/
theorem beqF {n m : Nat} (h : n ≠ m) : Nat.beq n m = false := by
  cases hb : Nat.beq n m with
  | false => rfl
  | true => exact absurd (Nat.eq_of_beq_eq_true hb) h
theorem assoc_del {α : Type} (n m : Nat) : ∀ l : List (Nat × α), assoc (del l n) m = if m = n then none else assoc l m
  | [] => by simp [del, assoc]
  | (k, v) :: r => by
    have ih := assoc_del n m r
    simp only [del]
    by_cases hk : k = n
    · subst hk
      simp only [Nat.beq_refl, cond_true, ih, assoc]
      by_cases hm : m = k
      · simp [hm]
      · have : Nat.beq k m = false := beqF fun e => hm e.symm
        simp [hm, this]
    · have hb : Nat.beq k n = false := beqF hk
      simp only [hb, cond_false, assoc, ih]
      by_cases hm : m = n
      · have : Nat.beq k m = false := beqF (by omega)
        simp [hm] at this ⊢
        simp [this]
      · simp [hm]
theorem getE_setE (e : List (Nat × AV)) (n : Nat) (v : AV) (m : Nat) : getE (setE e n v) m = if m = n then v else getE e m := by
  simp only [getE, setE, assoc, assoc_del]
  by_cases h : m = n
  · subst h; simp
  · have : Nat.beq n m = false := beqF (by omega)
    simp [h, this]
theorem nth_upd {α : Type} : ∀ (l : List α) (n m : Nat) (v : α), nth (upd l n v) m = if m = n ∧ (nth l n).isSome = true then some v else nth l m
  | [], n, m, v => by simp [upd, nth]
  | x :: r, 0, m, v => by cases m <;> simp [upd, nth]
  | x :: r, n + 1, 0, v => by simp [upd, nth]
  | x :: r, n + 1, m + 1, v => by simp [upd, nth, nth_upd r n m v]
theorem assoc_updA {α : Type} (n m : Nat) (v : α) : ∀ l : List (Nat × α), assoc (updA l n v) m = if m = n ∧ (assoc l n).isSome = true then some v else assoc l m
  | [] => by simp [updA, assoc]
  | (k, x) :: r => by
    have ih := assoc_updA n m v r
    simp only [updA]
    by_cases hk : k = n
    · subst hk
      simp only [Nat.beq_refl, cond_true, assoc, Option.isSome_some, and_true]
      by_cases hm : m = k
      · subst hm; simp
      · have : Nat.beq k m = false := beqF (by omega)
        simp [hm, this]
    · have hb : Nat.beq k n = false := beqF hk
      simp only [hb, cond_false, assoc, ih]
      by_cases hm : m = n
      · have : Nat.beq k m = false := beqF (by omega)
        simp [this, hm, hb]
      · simp [hm]
theorem box_setBox (s : St) (p q : PRef) (cs : List C) : (s.setBox p cs).box q = if q = p ∧ (s.box p).isSome = true then some cs else s.box q := by
  cases p <;> cases q <;> simp [St.setBox, St.box, nth_upd, assoc_updA]
theorem setBox_env (s : St) (p : PRef) (cs : List C) : (s.setBox p cs).env = s.env := by cases p <;> rfl
theorem setBox_dfr (s : St) (p : PRef) (cs : List C) : (s.setBox p cs).dfr = s.dfr := by cases p <;> rfl
theorem put_box (s : St) (d : Option Nat) (v : AV) (p : PRef) : (s.put d v).box p = s.box p := by cases d <;> cases p <;> rfl
theorem put_dfr (s : St) (d : Option Nat) (v : AV) : (s.put d v).dfr = s.dfr := by cases d <;> rfl

/-! ### What depends on the boxes' places -/
theorem relC_mono {I : Imm} {w : World} {mp mp' : PRef → Option Nat} {c : C} {v : Value} {ts : List Nat} (hm : ∀ p, p ∈ ptrsC c → ∀ b, mp p = some b → mp' p = some b) (h : relC I w mp c v ts) : relC I w mp' c v ts := by
  cases c <;> try exact h
  case ptr p off => obtain ⟨⟨b, hb, hv⟩, ht⟩ := h; exact ⟨⟨b, hm p (by simp [ptrsC]) b hb, hv⟩, ht⟩
  case fn f caps =>
    obtain ⟨⟨bs, hb, hv⟩, ht⟩ := h
    refine ⟨⟨bs, ?_, hv⟩, ht⟩
    rw [← hb]
    apply List.map_congr_left
    intro p hp
    have : ∃ b, mp p = some b := by
      have : mp p ∈ caps.map mp := List.mem_map.2 ⟨p, hp, rfl⟩
      rw [hb] at this
      obtain ⟨b, _, hb'⟩ := List.mem_map.1 this
      exact ⟨b, hb'.symm⟩
    obtain ⟨b, hb'⟩ := this
    rw [hb', hm p (by simpa [ptrsC] using hp) b hb']
theorem relA_mono {I : Imm} {w : World} {mp mp' : PRef → Option Nat} {x : AV} {v : Value} {ts : List Nat} (hm : ∀ p, p ∈ ptrsA x → ∀ b, mp p = some b → mp' p = some b) (h : relA I w mp x v ts) : relA I w mp' x v ts := by
  cases x <;> try exact h
  case v x =>
    cases x with
    | c x => exact relC_mono (by simpa [ptrsA, ptrsV] using hm) h
    | agg cs => obtain ⟨h1, vs, h2, h3, h4⟩ := h; exact ⟨h1, vs, h2, relL_mp h4 h3, h4⟩
theorem DfrOk.mono {mp mp' : PRef → Option Nat} {d : Option (FuncId × List PRef)} {ds : List Deferred} (hm : ∀ f ps, d = some (f, ps) → ∀ p, p ∈ ps → ∀ b, mp p = some b → mp' p = some b) (h : DfrOk mp d ds) : DfrOk mp' d ds := by
  match d, h with
  | none, h => exact h
  | some (f, ps), ⟨bs, h1, h2⟩ =>
    refine ⟨bs, ?_, h2⟩
    rw [← h1]
    apply List.map_congr_left
    intro p hp
    have : mp p ∈ ps.map mp := List.mem_map.2 ⟨p, hp, rfl⟩
    rw [h1] at this
    obtain ⟨b, _, hb⟩ := List.mem_map.1 this
    rw [← hb, hm f ps rfl p hp b hb.symm]

section
variable {B : Base} {mp : PRef → Option Nat} {ow : Own} {I : Imm} {s : St} {a : Act} {w : World}

theorem cv_ok (I : Imm) (w : World) (mp : PRef → Option Nat) (x : Value) : relA I w mp (cv x) x [] := by
  unfold cv
  split <;> try rfl
  · exact ⟨rfl, rfl⟩
  · exact ⟨rfl, rfl⟩
  · exact ⟨rfl, rfl⟩
  · exact ⟨none, 0, rfl, Nat.le_refl _, .inl rfl, .inl ⟨rfl, rfl⟩⟩
  · exact ⟨rfl, rfl⟩
  · exact ⟨rfl, rfl⟩
  · exact ⟨rfl, rfl⟩

theorem Core.ev (c : Core B mp ow I s a w) (x : Operand) : ∃ ts, relA I w mp (ev s.env x) (a.eval x) ts ∧ ((∀ t, x ≠ .tmp t) → ts = []) ∧ (∀ t, x = .tmp t → Held ow (.env t) ts) := by
  cases x with
  | tmp t => obtain ⟨ts, h1, h2⟩ := c.env t; exact ⟨ts, h1, fun h => absurd rfl (h t), fun t' h => by cases h; exact h2⟩
  | const v => exact ⟨[], cv_ok I w mp v, fun _ => rfl, fun t h => by cases h⟩
  | func f => exact ⟨[], ⟨⟨[], rfl, rfl⟩, rfl⟩, fun _ => rfl, fun t h => by cases h⟩
  | global g => exact ⟨[], rfl, fun _ => rfl, fun t h => by cases h⟩

theorem relV_tips {x : V} {v : Value} {ts : List Nat} (h : relV I w mp x v ts) (hx : ∀ sz es fl, x ≠ .c (.sl sz es fl)) : ts = [] := by
  cases x with
  | agg cs => exact h.1
  | c x => cases x <;> first | exact h.2 | exact h.elim | exact absurd rfl (hx _ _ _)
theorem relA_tips {x : AV} {v : Value} {ts : List Nat} (h : relA I w mp x v ts) (hx : isSl x = false) (ht : isTup x = false) : ts = [] := by
  cases x with
  | top => exact h
  | und => exact h.2
  | el _ _ => exact h.2
  | ifc _ _ => exact h.2
  | tup _ _ => simp [isTup] at ht
  | v x => exact relV_tips h (fun sz es fl e => by subst e; simp [isSl] at hx)

theorem relV_tips_lt {x : V} {v : Value} {ts : List Nat} (h : relV I w mp x v ts) : ∀ b, b ∈ ts → b < w.heap.size := by
  cases x with
  | c x => exact relC_tips_lt h
  | agg cs => rw [h.1]; simp

/-- The world goes on, and touches nothing that is owned. -/
theorem Core.go (c : Core B mp ow I s a w) {ch : Nat → Prop} {J : Imm} {w' : World} (h : Step ch I J w w') (hc : ∀ b x, ow b = some x → x ≠ .res → ¬ ch b) (hb : ∀ b, ch b → B.own b ∨ B.w0.heap.size ≤ b) : Core B mp ow J s a w' where
  env t := by obtain ⟨ts, h1, h2⟩ := c.env t; exact ⟨ts, relA_step h h1 (fun b hb => hc b _ (h2.2 b hb) (by simp)), h2⟩
  box p cs hp := by obtain ⟨b, ts, h1, h2, h3, h4⟩ := c.box p cs hp; exact ⟨b, ts, h1, h2, relB_step h h3 (hc b _ h2 (by simp)) (fun b hb => hc b _ (h4.2 b hb) (by simp)), h4⟩
  dom := c.dom
  outs := c.outs
  fresh := c.fresh
  lt b x hx := Nat.lt_of_lt_of_le (c.lt b x hx) h.ext.size
  bnd := h.bnd c.bnd
  size := c.size
  step := c.step.trans h hb
  dfr := c.dfr

/-- Another book of who owns what. -/
theorem Core.relabel (c : Core B mp ow I s a w) {ow' : Own} (h1 : ∀ b p, ow b = some (.blk p) → ow' b = some (.blk p)) (h2 : ∀ b p, ow b = some (.tip p) → ow' b = some (.tip p))
    (h3 : ∀ b t, ow b = some (.env t) → ow' b = some (.env t)) (h4 : ∀ b x, ow' b = some x → ∃ y, ow b = some y) : Core B mp ow' I s a w where
  env t := by obtain ⟨ts, k1, k2⟩ := c.env t; exact ⟨ts, k1, k2.1, fun b hb => h3 b _ (k2.2 b hb)⟩
  box p cs hp := by obtain ⟨b, ts, k1, k2, k3, k4⟩ := c.box p cs hp; exact ⟨b, ts, k1, h1 b _ k2, k3, k4.1, fun b hb => h2 b _ (k4.2 b hb)⟩
  dom := c.dom
  outs := c.outs
  fresh b x hx := by obtain ⟨y, hy⟩ := h4 b x hx; exact c.fresh b y hy
  lt b x hx := by obtain ⟨y, hy⟩ := h4 b x hx; exact c.lt b y hy
  bnd := c.bnd
  size := c.size
  step := c.step
  dfr := c.dfr

theorem getD_put (a : Act) (n : Nat) (x : Value) (t : Nat) (hn : n < a.tmps.size) : (a.put (some n) x).tmps.getD t undef = if t = n then x else a.tmps.getD t undef := by
  simp only [Act.put, Array.getD_eq_getD_getElem?, Array.getElem?_setIfInBounds]
  by_cases h : n = t
  · subst h; simp [hn]
  · rw [if_neg h, if_neg (fun e => h e.symm)]

/-- The value is laid down. -/
theorem Mid.put {v : AV} {x : Value} (h : Mid B s v a x w) (d : Option Nat) (hd : ∀ n, d = some n → n < B.nt) : Inv B (s.put d v) (a.put d x) w := by
  obtain ⟨mp, ow, I, ts, c, hv, hh⟩ := h
  cases d with
  | none => exact ⟨mp, ow, I, c⟩
  | some n =>
    have hn : n < a.tmps.size := by rw [c.size]; exact hd n rfl
    refine ⟨mp, fun b => if ow b = some .res then some (.env n) else if ow b = some (.env n) then none else ow b, I, ?_⟩
    constructor
    case env =>
      intro t
      rw [getD_put a n x t hn]
      simp only [St.put, getE_setE]
      by_cases h : t = n
      · subst h
        simp only [if_true]
        exact ⟨ts, hv, hh.1, fun b hb => by simp [hh.2 b hb]⟩
      · simp only [if_neg h]
        obtain ⟨ts', k1, k2⟩ := c.env t
        exact ⟨ts', k1, k2.1, fun b hb => by simp [k2.2 b hb, h]⟩
    case box =>
      intro p cs hp
      obtain ⟨b, ts', k1, k2, k3, k4⟩ := c.box p cs (by simpa [put_box] using hp)
      exact ⟨b, ts', k1, by simp [k2], k3, k4.1, fun b hb => by simp [k4.2 b hb]⟩
    case dom => intro p hp; exact c.dom p (by simpa [put_box] using hp)
    case outs => exact c.outs
    case fresh =>
      intro b y hy
      cases hob : ow b with
      | none => simp [hob] at hy
      | some z => exact c.fresh b z hob
    case lt =>
      intro b y hy
      cases hob : ow b with
      | none => simp [hob] at hy
      | some z => exact c.lt b z hob
    case bnd => exact c.bnd
    case size => simp [Act.put, c.size]
    case step => exact c.step
    case dfr => exact c.dfr

/-- A value without anything of its own. -/
theorem Core.mid (c : Core B mp ow I s a w) {v : AV} {x : Value} (h : relA I w mp v x []) : Mid B s v a x w := ⟨mp, ow, I, [], c, h, .nil _ _⟩

/-- A temporary is given another value for the same cell. -/
theorem Core.setE (c : Core B mp ow I s a w) {ow' : Own} {t : Nat} {v : AV} {ts : List Nat} (hv : relA I w mp v (a.tmps.getD t undef) ts) (hh : Held ow' (.env t) ts)
    (h1 : ∀ b p, ow b = some (.blk p) → ow' b = some (.blk p)) (h2 : ∀ b p, ow b = some (.tip p) → ow' b = some (.tip p))
    (h3 : ∀ b t', t' ≠ t → ow b = some (.env t') → ow' b = some (.env t')) (h4 : ∀ b x, ow' b = some x → ∃ y, ow b = some y) : Core B mp ow' I { s with env := setE s.env t v } a w where
  env t' := by
    simp only [getE_setE]
    by_cases h : t' = t
    · subst h; simp only [if_true]; exact ⟨ts, hv, hh⟩
    · simp only [if_neg h]
      obtain ⟨ts, k1, k2⟩ := c.env t'
      exact ⟨ts, k1, k2.1, fun b hb => h3 b t' h (k2.2 b hb)⟩
  box p cs hp := by
    have hp' : s.box p = some cs := by cases p <;> exact hp
    obtain ⟨b, ts, k1, k2, k3, k4⟩ := c.box p cs hp'; exact ⟨b, ts, k1, h1 b _ k2, k3, k4.1, fun b hb => h2 b _ (k4.2 b hb)⟩
  dom p hp := c.dom p (by cases p <;> exact hp)
  outs := c.outs
  fresh b x hx := by obtain ⟨y, hy⟩ := h4 b x hx; exact c.fresh b y hy
  lt b x hx := by obtain ⟨y, hy⟩ := h4 b x hx; exact c.lt b y hy
  bnd := c.bnd
  size := c.size
  step := c.step
  dfr := c.dfr

/-- An operand's value is taken, with what it owns. -/
theorem Core.take (c : Core B mp ow I s a w) {x : Operand} {κ : AV → St → R} {r : Res} (h : take s x κ = some r) :
    ∃ v s' ow' ts, κ v s' = some r ∧ Core B mp ow' I s' a w ∧ relA I w mp v (a.eval x) ts ∧ Held ow' .res ts ∧ (∀ p, s'.box p = s.box p) ∧ (∀ b p, ow' b = some (.blk p) ↔ ow b = some (.blk p)) ∧ (∀ b p, ow' b = some (.tip p) ↔ ow b = some (.tip p)) := by
  unfold YtmbhohnoolflbaaDoorX.take at h
  split at h
  · rename_i t
    obtain ⟨ts, hv, hh⟩ := c.env t
    have key : ∀ (v' : AV), relA I w mp v' (a.tmps.getD t undef) [] →
        ∃ ow', Core B mp ow' I { s with env := YtmbhohnoolflbaaDoorX.setE s.env t v' } a w ∧ Held ow' .res ts ∧ (∀ b p, ow' b = some (.blk p) ↔ ow b = some (.blk p)) ∧ (∀ b p, ow' b = some (.tip p) ↔ ow b = some (.tip p)) := by
      intro v' hv'
      refine ⟨fun b => if ow b = some .res then none else if ow b = some (.env t) then some .res else ow b, ?_, ⟨hh.1, fun b hb => by simp [hh.2 b hb]⟩, ?_, ?_⟩
      · refine c.setE hv' (.nil _ _) ?_ ?_ ?_ ?_
        · intro b p h; simp [h]
        · intro b p h; simp [h]
        · intro b t' hne h; simp [h, hne]
        · intro b x hx
          cases hob : ow b with
          | none => simp [hob] at hx
          | some z => exact ⟨z, rfl⟩
      · intro b p
        show (if ow b = some .res then none else if ow b = some (.env t) then some .res else ow b) = _ ↔ _
        split
        · rename_i e; simp [e]
        · split
          · rename_i e; simp [e]
          · rfl
      · intro b p
        show (if ow b = some .res then none else if ow b = some (.env t) then some .res else ow b) = _ ↔ _
        split
        · rename_i e; simp [e]
        · split
          · rename_i e; simp [e]
          · rfl
    split at h
    · rename_i sz es fl he
      rw [he] at hv
      obtain ⟨ow', k1, k2, k3, k4⟩ := key (.v (.c (.sl sz es .sh))) (by
        have := relV_share (mp := mp) (x := .c (.sl sz es fl)) hv
        exact this)
      exact ⟨_, _, ow', ts, h, k1, hv, k2, fun p => by cases p <;> rfl, k3, k4⟩
    · rename_i vs used he
      rw [he] at hv
      obtain ⟨ow', k1, k2, k3, k4⟩ := key .top rfl
      exact ⟨_, _, ow', ts, h, k1, hv, k2, fun p => by cases p <;> rfl, k3, k4⟩
    · rename_i h1 h2
      have ht : ts = [] := relA_tips hv (by
          cases he : getE s.env t with
          | v x => cases x with
            | c x => cases x <;> first | rfl | exact absurd he (h1 _ _ _)
            | agg _ => rfl
          | _ => rfl) (by
          cases he : getE s.env t with
          | tup vs used => exact absurd he (h2 _ _)
          | _ => rfl)
      subst ht
      exact ⟨_, s, ow, [], h, c, hv, .nil _ _, fun _ => rfl, fun _ _ => .rfl, fun _ _ => .rfl⟩
  · rename_i hne
    obtain ⟨ts, k1, k2, _⟩ := c.ev x
    have := k2 (fun t e => hne t e)
    subst this
    exact ⟨_, s, ow, [], h, c, k1, .nil _ _, fun _ => rfl, fun _ _ => .rfl, fun _ _ => .rfl⟩

end
end Go.Proofs.YtmbhohnoolflbaaDoorX
