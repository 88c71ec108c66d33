/-
  OPERATIONS THAT CHANGE BOXES, OR HAND ON WHAT IS OWNED.
-/
import Derived.Test.YtmbhohnoolflbaaDoorXState
set_option linter.unusedVariables false
set_option linter.unusedSimpArgs false
namespace Go.Proofs.YtmbhohnoolflbaaDoorX

section
variable {P : Program} {E : Cfg} {B : Base} {mp : PRef → Option Nat} {ow : Own} {I : Imm} {s : St} {a : Act} {w : World} {r : Res}

theorem Core.newBox (c : Core B mp ow I s a w) {n : Nat} {cs : List C} (hn : assoc s.loc n = none) {vs : Array Value} {T : TypeId} (hB : relB I (w.alloc (.cells vs T)) w.heap.size cs []) :
    ∃ mp' ow', Core B mp' ow' I { s with loc := (n, cs) :: s.loc } a (w.alloc (.cells vs T)) ∧ mp' (.loc n) = some w.heap.size := by
  have c1 := c.go (step_alloc' vs T c.bnd) (by simp) (by simp)
  have hm0 : mp (.loc n) = none := c.dom (.loc n) hn
  let mp' : PRef → Option Nat := fun p => if p = .loc n then some w.heap.size else mp p
  have hmm : ∀ p b, mp p = some b → mp' p = some b := by
    intro p b h
    by_cases e : p = .loc n
    · subst e; rw [hm0] at h; cases h
    · simp [mp', e, h]
  have hne : ∀ b x, ow b = some x → b ≠ w.heap.size := fun b x h => by have := c.lt b x h; omega
  refine ⟨mp', fun b => if b = w.heap.size then some (.blk (.loc n)) else ow b, ?_, by simp [mp']⟩
  constructor
  case env =>
    intro t
    obtain ⟨ts, h1, h2⟩ := c1.env t
    exact ⟨ts, relA_mono (fun p _ b h => hmm p b h) h1, h2.1, fun b hb => by simp [hne b _ (h2.2 b hb), h2.2 b hb]⟩
  case box =>
    intro p cs' hp
    by_cases e : p = .loc n
    · subst e
      simp [St.box, assoc] at hp
      subst hp
      exact ⟨w.heap.size, [], by simp [mp'], by simp, hB, .nil _ _⟩
    · have hp' : s.box p = some cs' := by
        cases p with
        | out i => exact hp
        | loc m =>
          have : Nat.beq n m = false := beqF (fun h => e (by rw [h]))
          simpa [St.box, assoc, this] using hp
      obtain ⟨b, ts, h1, h2, h3, h4⟩ := c1.box p cs' hp'
      exact ⟨b, ts, hmm p b h1, by simp [hne b _ h2, h2], h3, h4.1, fun b hb => by simp [hne b _ (h4.2 b hb), h4.2 b hb]⟩
  case dom =>
    intro p hp
    by_cases e : p = .loc n
    · subst e; simp [St.box, assoc] at hp
    · simp only [mp', if_neg e]
      refine c.dom p ?_
      cases p with
      | out i => exact hp
      | loc m =>
        have : Nat.beq n m = false := beqF (fun h => e (by rw [h]))
        simpa [St.box, assoc, this] using hp
  case outs => intro i; simp [mp', c.outs]
  case fresh =>
    intro b x hx
    by_cases e : b = w.heap.size
    · subst e; exact .inr c.step.ext.size
    · simp only [if_neg e] at hx; exact c.fresh b x hx
  case lt =>
    intro b x hx
    by_cases e : b = w.heap.size
    · subst e; simp
    · simp only [if_neg e] at hx; exact c1.lt b x hx
  case bnd => exact c1.bnd
  case size => exact c.size
  case step => exact c1.step
  case dfr => exact c.dfr.mono (fun f ps _ p _ b h => hmm p b h)

theorem Core.setBox (c : Core B mp ow I s a w) {p : PRef} {cs cs' : List C} {b : Nat} (hp : s.box p = some cs) (hb : mp p = some b) {w' : World} (hw : Step (fun x => x = b) I I w w') {ts' : List Nat} (hB : relB I w' b cs' ts')
    {ow' : Own} (h1 : ∀ x q, ow x = some (.blk q) → ow' x = some (.blk q)) (h2 : ∀ x q, q ≠ p → ow x = some (.tip q) → ow' x = some (.tip q)) (h3 : ∀ x t, ow x = some (.env t) → ow' x = some (.env t))
    (h4 : ∀ x y, ow' x = some y → ∃ z, ow x = some z) (hh : Held ow' (.tip p) ts') : Core B mp ow' I (s.setBox p cs') a w' := by
  obtain ⟨b0, ts0, k1, k2, k3, k4⟩ := c.box p cs hp
  rw [hb] at k1; cases k1
  have hbn : ∀ x y, ow x = some y → y ≠ .blk p → ¬ x = b := fun x y hx hne e => by subst e; rw [k2] at hx; cases hx; exact hne rfl
  constructor
  case env =>
    intro t
    obtain ⟨ts, e1, e2⟩ := c.env t
    rw [setBox_env]
    exact ⟨ts, relA_step hw e1 (fun x hx => hbn x _ (e2.2 x hx) (by simp)), e2.1, fun x hx => h3 x t (e2.2 x hx)⟩
  case box =>
    intro q cs1 hq
    rw [box_setBox] at hq
    by_cases e : q = p
    · subst e
      simp [hp] at hq
      subst hq
      exact ⟨b, ts', hb, h1 b _ k2, hB, hh⟩
    · simp only [e, false_and, if_false] at hq
      obtain ⟨b1, ts1, e1, e2, e3, e4⟩ := c.box q cs1 hq
      exact ⟨b1, ts1, e1, h1 b1 _ e2, relB_step hw e3 (hbn b1 _ e2 (by simp [e])) (fun x hx => hbn x _ (e4.2 x hx) (by simp)), e4.1, fun x hx => h2 x q e (e4.2 x hx)⟩
  case dom =>
    intro q hq
    rw [box_setBox] at hq
    by_cases e : q = p
    · subst e; simp [hp] at hq
    · simp only [e, false_and, if_false] at hq; exact c.dom q hq
  case outs => exact c.outs
  case fresh => intro x y hx; obtain ⟨z, hz⟩ := h4 x y hx; exact c.fresh x z hz
  case lt => intro x y hx; obtain ⟨z, hz⟩ := h4 x y hx; exact Nat.lt_of_lt_of_le (c.lt x z hz) hw.ext.size
  case bnd => exact hw.bnd c.bnd
  case size => exact c.size
  case step => exact c.step.trans hw (fun x hx => by subst hx; exact c.fresh x _ k2)
  case dfr => rw [setBox_dfr]; exact c.dfr

/-! ### Rows of cells -/
theorem relL_append {xs ys : List C} : ∀ {vs : List Value} {ts : List Nat}, relL I w mp (xs ++ ys) vs ts ↔ ∃ v1 v2 t1 t2, vs = v1 ++ v2 ∧ ts = t1 ++ t2 ∧ relL I w mp xs v1 t1 ∧ relL I w mp ys v2 t2 := by
  induction xs with
  | nil =>
    intro vs ts
    constructor
    · intro h; exact ⟨[], vs, [], ts, rfl, rfl, ⟨rfl, rfl⟩, h⟩
    · rintro ⟨v1, v2, t1, t2, rfl, rfl, ⟨rfl, rfl⟩, h⟩; exact h
  | cons x xs ih =>
    intro vs ts
    constructor
    · rintro ⟨v, l, t1, t2, rfl, rfl, hc, hl⟩
      obtain ⟨v1, v2, u1, u2, rfl, rfl, h1, h2⟩ := ih.1 hl
      exact ⟨v :: v1, v2, t1 ++ u1, u2, rfl, by simp, ⟨v, v1, t1, u1, rfl, rfl, hc, h1⟩, h2⟩
    · rintro ⟨v1, v2, t1, t2, rfl, rfl, ⟨v, l, u1, u2, rfl, rfl, hc, hl⟩, h2⟩
      exact ⟨v, l ++ v2, u1, u2 ++ t2, rfl, by simp, hc, ih.2 ⟨l, v2, u2, t2, rfl, rfl, hl, h2⟩⟩
theorem relL_one_iff {c : C} {v : Value} {ts : List Nat} : relL I w mp [c] [v] ts ↔ relC I w mp c v ts := by
  constructor
  · rintro ⟨u, l, t1, t2, h1, rfl, hc, h2⟩
    cases h1
    rw [show t2 = [] from h2.2]; simpa using hc
  · intro h; exact ⟨v, [], ts, [], rfl, by simp, h, rfl, rfl⟩
theorem relV_cells {x : V} {v : Value} {ts : List Nat} (h : relV I w mp x v ts) : relL I w mp (valCells x) v.cells.toList ts := by
  cases x with
  | c x => rw [cells_of_relC h]; exact relL_one_iff.2 h
  | agg cs => obtain ⟨rfl, vs, rfl, h3, _⟩ := h; simpa [Value.cells, valCells] using h3

/-- A row's parts: before, at, and behind a place. -/
theorem relL_split3 {cs : List C} {vs : List Value} {ts : List Nat} (h : relL I w mp cs vs ts) (off n : Nat) (hl : off + n ≤ cs.length) :
    ∃ t1 t2 t3, ts = t1 ++ (t2 ++ t3) ∧ relL I w mp (cs.take off) (vs.take off) t1 ∧ relL I w mp ((cs.drop off).take n) ((vs.drop off).take n) t2 ∧ relL I w mp (cs.drop (off + n)) (vs.drop (off + n)) t3 := by
  have hc : cs = cs.take off ++ ((cs.drop off).take n ++ cs.drop (off + n)) := by
    rw [← List.drop_drop, List.take_append_drop, List.take_append_drop]
  rw [hc] at h
  obtain ⟨v1, v2, t1, t2, rfl, rfl, h1, h2⟩ := relL_append.1 h
  obtain ⟨v3, v4, t3, t4, rfl, rfl, h3, h4⟩ := relL_append.1 h2
  have l1 := relL_length h1
  have l3 := relL_length h3
  simp only [List.length_take, List.length_drop] at l1 l3
  have l1' : v1.length = off := by omega
  have l3' : v3.length = n := by omega
  refine ⟨t1, t3, t4, rfl, ?_, ?_, ?_⟩
  · rw [List.take_left' l1']; exact h1
  · rw [List.drop_left' l1', List.take_left' l3']; exact h3
  · rw [← List.append_assoc, List.drop_left' (by simp; omega)]; exact h4

theorem step_setRow {b : Nat} {cur : Array Value} {T : TypeId} {fz : Nat × Nat} (hb : w.heap[b]? = some (.cells cur T fz)) (new : Array Value) (hI : ∀ o, ¬ I b o) : Step (fun x => x = b) I I w (w.setRow b new) :=
  ⟨.setRow w b new, .refl _, fun x o h => cellAt_of_block (setRow_other w b x new (fun e => by subst e; exact hI o h)), fun _ _ h => .inl h⟩

/-! ### Storing -/
theorem run_storeVarA (hT : WellT P E.T) {t : TypeId} {i : TI} (hi : nth E.T t = some i) {b off : Nat} {cur : Array Value} {T : TypeId} (hb : w.heap[b]? = some (.cells cur T (0, 0))) {v : Value} (hv : v.cells.toList.length = i.size)
    (hl : off + i.size ≤ cur.size) (h1 : ∀ u ∈ v.cells.toList, u.oneCell' = true) :
    (storeVar t ⟨b, off, none⟩ v).run P w = .ok () (w.setRow b (cur.toList.take off ++ v.cells.toList ++ cur.toList.drop (off + i.size)).toArray) := by
  have hst := run_storeCells_atF P b off T (0, 0) v.cells.toList 0 cur w hb (by simp) (by rw [hv]; simpa using hl) h1
  simp only [Nat.add_zero, hv] at hst
  have hv' : v.cells.size = i.size := by simpa using hv
  simp only [storeVar, Sem.run_bind, run_size hT hi, Result.andThen_ok, hv', ne_eq, not_true_eq_false, if_false, Sem.run_pure]
  exact hst

theorem relL_noRes {ts : List Nat} {cs : List C} {vs : List Value} (h : relL I w mp cs vs ts) (hp : cs.all noPtr = true) : relL I w (fun _ => none) cs vs ts := relL_mp hp h

/-- What a mutating operation must bring about. -/
def MRes (P : Program) (B : Base) (o : Oper) (a : Act) (w : World) (κ : AV → St → R) (r : Res) : Prop :=
  ∃ v x s' w', κ v s' = some r ∧ ((execOp a.eval o).run P w = .ok (.value x) w' ∨ (execOp a.eval o).run P w = .ok .skip w' ∧ x = undef) ∧ Mid B s' v a x w'

theorem run_newLoc (c : Core B mp ow I s a w) {d : Option Nat} {cs : List C} {κ : AV → St → R} (h : newLoc s d cs κ = some r) {vs : Array Value} {T : TypeId} (hB : relB I (w.alloc (.cells vs T)) w.heap.size cs []) :
    ∃ v s', κ v s' = some r ∧ Mid B s' v a (.pointer (some ⟨w.heap.size, 0, none⟩)) (w.alloc (.cells vs T)) := by
  unfold newLoc at h
  split at h
  · rename_i n
    split at h
    · rename_i hn
      obtain ⟨mp', ow', c', hmp⟩ := c.newBox hn hB
      exact ⟨_, _, h, mp', ow', I, [], c', ⟨⟨_, hmp, rfl⟩, rfl⟩, .nil _ _⟩
    · cases h
  · cases h

theorem fresh_imm (c : Core B mp ow I s a w) (o : Nat) : ¬ I w.heap.size o := fun h => by have := c.bnd _ o h; omega

theorem run_alloc (hT : WellT P E.T) (c : Core B mp ow I s a w) {o : Oper} {t : TypeId} (ho : o.op = .alloc t) {κ : AV → St → R} (h : ty E t (fun i => chk (!i.zero.isEmpty) (newLoc s o.dst i.zero κ)) = some r) : MRes P B o a w κ r := by
  obtain ⟨i, hi, h1⟩ := ty_inv h
  obtain ⟨hz, h2⟩ := chk_inv h1
  have hz' : i.zero ≠ [] := by intro e; simp [e] at hz
  obtain ⟨inf, hinf, hs, hb, hzz⟩ := (hT t i hi).info
  have key : ∃ z, inf.zero = some z ∧ relB I (w.alloc (.cells z.cells t)) w.heap.size i.zero [] := by
    rcases hzz hz' with ⟨⟨te, h3⟩, h4, h5⟩ | ⟨z, h3, h4, h5, h6, _⟩
    · refine ⟨_, h5, .inr ⟨[], .pointer none, .slice none 0 0, t, te, h3, heap_alloc_new w _, .inl rfl, ⟨none, 0, rfl, Nat.le_refl _, .inl rfl, .inl ⟨rfl, rfl⟩⟩, fresh_imm c, by simp, .inl ⟨rfl, rfl⟩⟩⟩
    · exact ⟨z, h3, .inl ⟨_, t, heap_alloc_new w _, relL_zero _ _ _ _ _ h4, h6, fresh_imm c⟩⟩
  obtain ⟨z, hz1, hB⟩ := key
  obtain ⟨v, s', h3, h4⟩ := run_newLoc c h2 hB
  refine ⟨v, _, s', _, h3, .inl ?_, h4⟩
  simp [execOp, ho, Instr.alloc, zeroValue, typeInfo, hinf, hz1, newVar, newRow]

theorem run_box (c : Core B mp ow I s a w) {o : Oper} {t : TypeId} {x : Operand} (ho : o.op = .box t x) {κ : AV → St → R}
    (h : ty E t (fun i => asV (ev s.env x).share fun v => chk (Nat.beq (valCells v).length i.size && (valCells v).all noPtr) (newLoc s o.dst (valCells v) κ)) = some r) : MRes P B o a w κ r := by
  obtain ⟨i, hi, h1⟩ := ty_inv h
  obtain ⟨v, hv, h2⟩ := asV_inv h1
  obtain ⟨hc, h3⟩ := chk_inv h2
  simp only [Bool.and_eq_true] at hc
  obtain ⟨ts, hr, _⟩ := c.ev x
  have hr' : relV I w mp v (a.eval x) [] := by
    cases he : ev s.env x with
    | v y => rw [he] at hr hv; simp only [AV.share, AV.v.injEq] at hv; subst hv; exact relV_share hr
    | _ => rw [he] at hv; simp [AV.share] at hv
  have hB : relB I (w.alloc (.cells (a.eval x).cells t)) w.heap.size (valCells v) [] :=
    .inl ⟨_, t, heap_alloc_new w _, relL_step (step_alloc' _ t c.bnd) (relL_mp hc.2 (relV_cells hr')) (by simp), hc.2, fresh_imm c⟩
  obtain ⟨u, s', h4, h5⟩ := run_newLoc c h3 hB
  refine ⟨u, _, s', _, h4, .inl ?_, h5⟩
  simp [execOp, ho, Instr.box, newVar, newRow]

theorem run_move (c : Core B mp ow I s a w) {o : Oper} {x : Operand} (ho : o.op = .move x ∨ o.op = .assign x) {κ : AV → St → R} (h : take s x (fun v s => κ (fixT E o.type v) s) = some r) : MRes P B o a w κ r := by
  obtain ⟨v, s', ow', ts, h1, h2, h3, h4, _⟩ := c.take h
  refine ⟨_, a.eval x, s', w, h1, .inl ?_, mp, ow', I, ts, h2, relA_fixT o.type h3, h4⟩
  rcases ho with ho | ho <;> simp [execOp, ho]

theorem perm3 {t1 t2 t3 : List Nat} (h : (t1 ++ (t2 ++ t3)).Nodup) : (t1 ++ t3).Nodup ∧ t2.Nodup ∧ (∀ b, b ∈ t2 → b ∉ t1 ++ t3) := by
  simp only [List.nodup_append, List.mem_append] at h ⊢
  obtain ⟨h1, ⟨h2, h3, h4⟩, h5⟩ := h
  refine ⟨⟨h1, h3, fun x hx y hy => h5 x hx y (.inr hy)⟩, h2, fun b hb hm => ?_⟩
  rcases hm with hm | hm
  · exact h5 b hm b (.inl hb) rfl
  · exact h4 b hb b hm rfl

theorem run_store (hT : WellT P E.T) (c : Core B mp ow I s a w) {o : Oper} {t : TypeId} {ad x : Operand} (ho : o.op = .store t ad x) {κ : AV → St → R}
    (h : ty E t (fun i => (match ev s.env ad with
    | .v (.c (.ptr p off)) => take s x fun v s => asV (fixT E t v) fun v => chk ((valCells v).all noPtr) (onO (s.box p) fun cs => chk (cs.all noPtr) (paste i.size cs off (valCells v) fun cs => κ .und (s.setBox p cs)))
    | _ => none)) = some r) : MRes P B o a w κ r := by
  obtain ⟨i, hi, h1⟩ := ty_inv h
  split at h1
  · rename_i p off he
    obtain ⟨ta, ha, _⟩ := c.ev ad
    rw [he] at ha
    obtain ⟨⟨b, hb, hav⟩, _⟩ := ha
    obtain ⟨v, s', ow', ts, h2, c', hx, hh, hbox, hblk, htip⟩ := c.take h1
    obtain ⟨u, hu, h3⟩ := asV_inv h2
    obtain ⟨hnp, h4⟩ := chk_inv h3
    obtain ⟨cs, hcs, h5⟩ := onO_inv h4
    obtain ⟨hcp, h6⟩ := chk_inv h5
    obtain ⟨hl1, hl2, h7⟩ := paste_inv h6
    have hu' : relV I w mp u (a.eval x) ts := by have := relA_fixT (E := E) t hx; rw [hu] at this; exact this
    obtain ⟨b', tb, k1, k2, k3, k4⟩ := c'.box p cs hcs
    rw [hb] at k1; cases k1
    rcases k3 with ⟨cur, T, hheap, hrel, _, hI⟩ | ⟨l, pp, vv, T, te, hcs', _⟩
    · have hcl := relL_length hrel
      have hvl := relL_length (relV_cells hu')
      have hrun := run_storeVarA (P := P) hT hi hheap (v := a.eval x) (off := off) (by rw [hvl, hl1]) (by rw [← Array.length_toList, hcl]; exact hl2) (relL_one (relV_cells hu') hnp)
      obtain ⟨t1, t2, t3, htb, r1, r2, r3⟩ := relL_split3 hrel off i.size hl2
      subst htb
      obtain ⟨n1, n2, n3⟩ := perm3 k4.1
      have hstep := step_setRow hheap (cur.toList.take off ++ (a.eval x).cells.toList ++ cur.toList.drop (off + i.size)).toArray hI
      have htsb : ∀ y, y ∈ ts → ¬ y = b := fun y hy e => by subst e; have := hh.2 y hy; rw [k2] at this; cases this
      have hnew : relL I w (fun _ => none) (cs.take off ++ valCells u ++ cs.drop (off + i.size)) (cur.toList.take off ++ (a.eval x).cells.toList ++ cur.toList.drop (off + i.size)) (t1 ++ ts ++ t3) := by
        rw [List.append_assoc, List.append_assoc, List.append_assoc]
        exact relL_append.2 ⟨_, _, t1, ts ++ t3, rfl, rfl, r1, relL_append.2 ⟨_, _, ts, t3, rfl, rfl, relL_mp hnp (relV_cells hu'), r3⟩⟩
      have hB : relB I (w.setRow b (cur.toList.take off ++ (a.eval x).cells.toList ++ cur.toList.drop (off + i.size)).toArray) b (cs.take off ++ valCells u ++ cs.drop (off + i.size)) (t1 ++ ts ++ t3) := by
        refine .inl ⟨_, T, setRow_heap w b cur _ T (0, 0) hheap, relL_step hstep (by simpa using hnew) ?_, ?_, hI⟩
        · intro y hy e
          simp only [List.mem_append] at hy
          subst e
          rcases hy with (hy | hy) | hy
          · have := k4.2 y (by simp [hy]); rw [k2] at this; cases this
          · exact htsb y hy rfl
          · have := k4.2 y (by simp [hy]); rw [k2] at this; cases this
        · simp only [List.all_append, Bool.and_eq_true]
          rw [List.all_eq_true] at hcp ⊢
          refine ⟨⟨?_, hnp⟩, ?_⟩
          · exact fun y hy => hcp y (List.mem_of_mem_take hy)
          · rw [List.all_eq_true]; exact fun y hy => hcp y (List.mem_of_mem_drop hy)
      refine ⟨.und, undef, _, w.setRow b (cur.toList.take off ++ (a.eval x).cells.toList ++ cur.toList.drop (off + i.size)).toArray, h7, .inr ⟨?_, rfl⟩, ?_⟩
      · simp [execOp, ho, Instr.storeAt, Instr.sureAddr, hav, hrun]
      · refine ⟨mp, fun y => if ow' y = some .res then some (.tip p) else ow' y, I, [], c'.setBox hcs hb hstep hB ?_ ?_ ?_ ?_ ?_, ⟨rfl, rfl⟩, .nil _ _⟩
        · intro y q hy; simp [hy]
        · intro y q _ hy; simp [hy]
        · intro y t hy; simp [hy]
        · intro y z hy
          cases hob : ow' y with
          | none => simp [hob] at hy
          | some z => exact ⟨z, rfl⟩
        · refine ⟨?_, ?_⟩
          · have hd : ∀ y, y ∈ ts → y ∉ t1 ++ t3 := fun y hy hm => by
              have e1 := hh.2 y hy
              have e2 := k4.2 y (by simp only [List.mem_append] at hm ⊢; rcases hm with hm | hm <;> simp [hm])
              rw [e1] at e2; cases e2
            have hn := hh.1
            simp only [List.nodup_append, List.mem_append] at n1 ⊢
            obtain ⟨m1, m2, m3⟩ := n1
            refine ⟨⟨m1, hn, fun y hy z hz e => ?_⟩, m2, fun y hy z hz e => ?_⟩
            · subst e; exact hd y hz (by simp [hy])
            · subst e
              rcases hy with hy | hy
              · exact m3 y hy y hz rfl
              · exact hd y hy (by simp [hz])
          · intro y hy
            simp only [List.mem_append] at hy
            rcases hy with (hy | hy) | hy
            · have := k4.2 y (by simp [hy]); simp [this]
            · simp [hh.2 y hy]
            · have := k4.2 y (by simp [hy]); simp [this]
    · subst hcs'; simp [noPtr] at hcp
  · cases h1

theorem set_eq {α : Type} (l : List α) (n : Nat) (x y : α) (h : l[n]? = some x) : l.take n ++ [y] ++ l.drop (n + 1) = l.set n y := by
  have hn : n < l.length := (List.getElem?_eq_some_iff.1 h).1
  rw [List.set_eq_take_append_cons_drop, if_pos hn]; simp

/-- A box's slice is read together with what it owns; the box keeps a reader's right. -/
theorem run_loadMove (hT : WellT P E.T) (c : Core B mp ow I s a w) {o : Oper} {t : TypeId} {ad : Operand} (ho : o.op = .load t ad) {κ : AV → St → R}
    (h : ty E t (fun i => (match i.k, ev s.env ad with
    | .slice e, .v (.c (.ptr p off)) => onO (s.box p) fun cs => onO (nth cs off) fun c0 => viewC E (.slice e) c0 fun c =>
        paste 1 cs off [c0.dem] fun cs => κ (.v (.c c)) (s.setBox p cs)
    | _, _ => none)) = some r) : MRes P B o a w κ r := by
  obtain ⟨i, hi, h1⟩ := ty_inv h
  split at h1
  · rename_i e p off hk he
    obtain ⟨ta, ha, _⟩ := c.ev ad
    rw [he] at ha
    obtain ⟨⟨b, hb, hav⟩, _⟩ := ha
    obtain ⟨cs, hcs, h2⟩ := onO_inv h1
    obtain ⟨x, hx, h3⟩ := onO_inv h2
    rw [nth_eq] at hx
    obtain ⟨b', tb, k1, k2, k3, k4⟩ := c.box p cs hcs
    rw [hb] at k1; cases k1
    rcases k3 with ⟨cur, T, hheap, hrel, hcp, hI⟩ | ⟨l, pp, vv, T, te, hcs', _⟩
    · have hoff : off + 1 ≤ cs.length := (List.getElem?_eq_some_iff.1 hx).1
      obtain ⟨t1, t2, t3, htb, r1, r2, r3⟩ := relL_split3 hrel off 1 hoff
      subst htb
      have hcl := relL_length hrel
      have hcv : ∃ v, cur.toList[off]? = some v := ⟨_, List.getElem?_eq_getElem (by omega)⟩
      obtain ⟨v, hv⟩ := hcv
      have e1 : (cs.drop off).take 1 = [x] := by
        rw [List.drop_eq_getElem_cons (by omega)]
        have := List.getElem?_eq_some_iff.1 hx
        obtain ⟨hh, hxx⟩ := this
        simp [hxx]
      have e2 : (cur.toList.drop off).take 1 = [v] := by
        obtain ⟨hh, hxx⟩ := List.getElem?_eq_some_iff.1 hv
        rw [List.drop_eq_getElem_cons hh]
        simp only [List.take_succ_cons, List.take_zero, hxx]
      rw [e1, e2] at r2
      have r2' := relL_one_iff.1 r2
      obtain ⟨y, h4, h5, hne, hnpy, hsl⟩ := viewC_inv h3 r2'
      obtain ⟨hl1, hl2, h6⟩ := paste_inv h4
      obtain ⟨n1, n2, n3⟩ := perm3 k4.1
      have hxp : noPtr x = true := by rw [List.all_eq_true] at hcp; exact hcp x (List.mem_of_getElem? hx)
      have hload : (loadVar t ⟨b, off, none⟩).run P w = .ok v w := by
        refine run_loadVar_one hT hi (by rw [hk]; rfl) (by rw [hk]; simp) ?_
        show cellAt w b off = some v
        rw [cellAt_heap hheap, ← Array.getElem?_toList]
        exact hv
      refine ⟨_, v, _, w, h6, .inl ?_, mp, fun z => if ow z = some .res then none else if z ∈ t2 then some .res else ow z, I, t2, c.setBox hcs hb (Step.refl _ I w) (ts' := t1 ++ t3) ?_ ?_ ?_ ?_ ?_ ?_, relC_mp0 h5, n2, ?_⟩
      · simp [execOp, ho, Instr.loadAt, Instr.sureAddr, hav, hload]
      · refine .inl ⟨cur, T, hheap, ?_, ?_, hI⟩
        · have hcur : cur.toList = cur.toList.take off ++ ([v] ++ cur.toList.drop (off + 1)) := by
            conv => lhs; rw [← List.take_append_drop off cur.toList]
            congr 1
            obtain ⟨hh, hxx⟩ := List.getElem?_eq_some_iff.1 hv
            rw [List.drop_eq_getElem_cons hh, hxx]; rfl
          rw [hcur, List.append_assoc]
          exact relL_append.2 ⟨_, _, t1, t3, rfl, rfl, r1, relL_append.2 ⟨_, _, [], t3, rfl, rfl, relL_one_iff.2 (relC_dem r2'), r3⟩⟩
        · simp only [List.all_append, Bool.and_eq_true, List.all_cons, List.all_nil, Bool.and_true]
          rw [noPtr_dem, List.all_eq_true] at *
          rw [List.all_eq_true]
          exact ⟨⟨fun z hz => hcp z (List.mem_of_mem_take hz), hxp⟩, fun z hz => hcp z (List.mem_of_mem_drop hz)⟩
      · intro z q hz
        have : z ∉ t2 := fun hm => by have := k4.2 z (by simp [hm]); rw [hz] at this; cases this
        simp [hz, this]
      · intro z q hq hz
        have : z ∉ t2 := fun hm => by have := k4.2 z (by simp [hm]); rw [hz] at this; cases this; exact hq rfl
        simp [hz, this]
      · intro z q hz
        have : z ∉ t2 := fun hm => by have := k4.2 z (by simp [hm]); rw [hz] at this; cases this
        simp [hz, this]
      · intro z y hz
        cases hob : ow z with
        | some q => exact ⟨q, rfl⟩
        | none =>
          have : z ∉ t2 := fun hm => by have := k4.2 z (by simp [hm]); rw [hob] at this; cases this
          simp [hob, this] at hz
      · refine ⟨n1, fun z hz => ?_⟩
        have h2' : z ∉ t2 := fun hm => n3 z hm hz
        have h3' := k4.2 z (by simp only [List.mem_append] at hz ⊢; rcases hz with hz | hz <;> simp [hz])
        simp [h2', h3']
      · intro z hz
        have := k4.2 z (by simp [hz])
        simp [this, hz]
    · subst hcs'
      cases off <;> simp at hx
      subst hx
      simp [viewC] at h3
  · cases h1

theorem relT_used {used : List Nat} {i : Nat} : ∀ {xs : List V} {k : Nat} {vs : List Value} {ts : List Nat} {x : V}, relT I w mp used k xs vs ts → xs[i]? = some x → memN used (k + i) = false →
    ∃ u t1 t2 t3, vs[i]? = some u ∧ ts = t1 ++ (t2 ++ t3) ∧ relV I w mp x u t2 ∧ relT I w mp ((k + i) :: used) k xs vs (t1 ++ t3) := by
  induction i with
  | zero =>
    intro xs k vs ts x h hx hu
    cases xs with
    | nil => simp at hx
    | cons y ys =>
      simp at hx; subst hx
      obtain ⟨v, l, t1, t2, rfl, rfl, hv, hl⟩ := h
      rw [Nat.add_zero] at hu
      rw [if_neg (by simp [hu])] at hv
      refine ⟨v, [], t1, t2, rfl, rfl, hv, ⟨v, l, [], t2, rfl, rfl, ?_, ?_⟩⟩
      · rw [if_pos (by simp [memN])]; exact relV_share hv
      · have : ∀ {xs : List V} {j : Nat} {vs : List Value} {ts : List Nat}, k < j → relT I w mp used j xs vs ts → relT I w mp (k :: used) j xs vs ts := by
          intro xs
          induction xs with
          | nil => intro j vs ts _ h; exact h
          | cons z zs ih =>
            intro j vs ts hj h
            obtain ⟨v, l, t1, t2, h1, h2, h3, h4⟩ := h
            refine ⟨v, l, t1, t2, h1, h2, ?_, ih (by omega) h4⟩
            have : memN (k :: used) j = memN used j := by simp [memN, beqF (show k ≠ j by omega)]
            rw [this]; exact h3
        exact this (by omega) hl
  | succ i ih =>
    intro xs k vs ts x h hx hu
    cases xs with
    | nil => simp at hx
    | cons y ys =>
      obtain ⟨v, l, t1, t2, rfl, rfl, hv, hl⟩ := h
      obtain ⟨u, s1, s2, s3, e1, rfl, e3, e4⟩ := ih hl (by simpa using hx) (by rw [show k + 1 + i = k + (i + 1) by omega]; exact hu)
      refine ⟨u, t1 ++ s1, s2, s3, by simpa using e1, by simp, e3, ⟨v, l, t1, s1 ++ s3, rfl, by simp, ?_, ?_⟩⟩
      · have : memN ((k + (i + 1)) :: used) k = memN used k := by simp [memN, beqF (show k + (i + 1) ≠ k by omega)]
        rw [this]; exact hv
      · rw [show k + (i + 1) = k + 1 + i by omega]; exact e4

theorem run_extractMove (c : Core B mp ow I s a w) {o : Oper} {x : Operand} {n : Nat} (ho : o.op = .extract x n) {κ : AV → St → R}
    (h : extA E s o.type x n κ = some r) : MRes P B o a w κ r := by
  unfold extA at h
  cases x with
  | tmp t =>
    simp only at h
    split at h
    · rename_i vs used he
      obtain ⟨hmu, h1⟩ := chk_inv h
      simp only [Bool.not_eq_true'] at hmu
      obtain ⟨j, hj, h2⟩ := ty_inv h1
      obtain ⟨v, hv, h3⟩ := onO_inv h2
      rw [nth_eq] at hv
      obtain ⟨ts, hr, hh⟩ := c.env t
      rw [he] at hr
      obtain ⟨l, hl, ht⟩ := hr
      obtain ⟨u, t1, t2, t3, e1, e2, e3, e4⟩ := relT_used ht hv (by simpa using hmu)
      subst e2
      rw [Nat.zero_add] at e4
      obtain ⟨y, h4, h5, _⟩ := viewV_inv h3 e3
      obtain ⟨n1, n2, n3⟩ := perm3 hh.1
      refine ⟨_, u, _, w, h4, .inl ?_, mp, fun z => if ow z = some .res then none else if z ∈ t2 then some .res else ow z, I, t2, c.setE (ts := t1 ++ t3) ⟨l, hl, e4⟩ ?_ ?_ ?_ ?_ ?_, relV_mp0 h5, n2, ?_⟩
      · have : a.eval (.tmp t) = .tuple l.toArray := hl
        simp [execOp, ho, this, Instr.extract, e1]
      · refine ⟨n1, fun z hz => ?_⟩
        have h2' : z ∉ t2 := fun hm => n3 z hm hz
        have h3' := hh.2 z (by simp only [List.mem_append] at hz ⊢; rcases hz with hz | hz <;> simp [hz])
        simp [h2', h3']
      · intro z q hz
        have : z ∉ t2 := fun hm => by have := hh.2 z (by simp [hm]); rw [hz] at this; cases this
        simp [hz, this]
      · intro z q hz
        have : z ∉ t2 := fun hm => by have := hh.2 z (by simp [hm]); rw [hz] at this; cases this
        simp [hz, this]
      · intro z q hq hz
        have : z ∉ t2 := fun hm => by have := hh.2 z (by simp [hm]); rw [hz] at this; cases this; exact hq rfl
        simp [hz, this]
      · intro z y hz
        cases hob : ow z with
        | some q => exact ⟨q, rfl⟩
        | none =>
          have : z ∉ t2 := fun hm => by have := hh.2 z (by simp [hm]); rw [hob] at this; cases this
          simp [hob, this] at hz
      · intro z hz
        have := hh.2 z (by simp [hz])
        simp [this, hz]
    · cases h
  | _ => cases h

end
end Go.Proofs.YtmbhohnoolflbaaDoorX
