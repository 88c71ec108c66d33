/-
  FUNCTIONS: what the interpreter answers of a call, the machine answers.
-/
import Derived.Test.YtmbhohnoolflbaaDoorXExec
import Derived.Recover
set_option linter.unusedVariables false
set_option linter.unusedSimpArgs false
namespace Go.Proofs.YtmbhohnoolflbaaDoorX

theorem memN_iff {n : Nat} : ∀ {l : List Nat}, memN l n = true ↔ n ∈ l
  | [] => by simp [memN]
  | m :: r => by
    simp only [memN]
    by_cases h : m = n
    · subst h; simp
    · rw [beqF h]; simp only [cond_false, List.mem_cons]; rw [memN_iff]; simp [show ¬ n = m from fun e => h e.symm]

section
variable {P : Program} {E : Cfg} {B : Base} {mp : PRef → Option Nat} {ow : Own} {I : Imm} {s : St} {a : Act} {w : World} {r : Res}

theorem relT_shift : ∀ {xs : List V} {k j : Nat} {vs : List Value} {ts : List Nat}, relT I w mp [] k xs vs ts → relT I w mp [] j xs vs ts
  | [], _, _, _, _, h => h
  | x :: xs, k, j, _, _, h => by
    obtain ⟨v, l, t1, t2, h1, h2, h3, h4⟩ := h
    exact ⟨v, l, t1, t2, h1, h2, by simpa [memN] using h3, relT_shift h4⟩
theorem relT_cons {x : V} {xs : List V} {v : Value} {l : List Value} {t1 t2 : List Nat} (h : relV I w mp x v t1) (k : relT I w mp [] 0 xs l t2) : relT I w mp [] 0 (x :: xs) (v :: l) (t1 ++ t2) :=
  ⟨v, l, t1, t2, rfl, rfl, by simpa [memN] using h, relT_shift k⟩

def resStep (tmps : Array Value) : ResultVar → Sem Value
  | .tmp t => pure (tmps.getD t undef)
  | .cell a t => do loadVar t (← asAddr (tmps.getD a undef))

def resSlot (s : St) (rs : List ResultVar) (x : Slot) : Prop :=
  (∃ t, ResultVar.tmp t ∈ rs ∧ x = .env t) ∨ (∃ ad ty n off, ResultVar.cell ad ty ∈ rs ∧ getE s.env ad = .v (.c (.ptr (.loc n) off)) ∧ x = .tip (.loc n))

theorem addrs_mem : ∀ {rs : List ResultVar} {t : Nat}, ResultVar.tmp t ∈ rs → t ∈ addrs rs
  | [], _, h => by simp at h
  | .tmp u :: r, t, h => by
    simp only [addrs, List.mem_cons] at h ⊢
    rcases h with h | h
    · cases h; exact .inl rfl
    · exact .inr (addrs_mem h)
  | .cell u ty :: r, t, h => by
    simp only [addrs, List.mem_cons] at h ⊢
    rcases h with h | h
    · cases h
    · exact .inr (addrs_mem h)
theorem resPtrs_mem {n off : Nat} : ∀ {rs : List ResultVar} {ad : Nat} {ty : TypeId}, ResultVar.cell ad ty ∈ rs → getE s.env ad = .v (.c (.ptr (.loc n) off)) → PRef.loc n ∈ resPtrs s rs
  | [], _, _, h, _ => by simp at h
  | .tmp u :: r, ad, ty, h, he => by
    simp only [resPtrs, List.mem_cons] at h ⊢
    rcases h with h | h
    · cases h
    · exact resPtrs_mem h he
  | .cell u ty' :: r, ad, ty, h, he => by
    simp only [resPtrs, List.mem_cons, List.mem_append] at h ⊢
    rcases h with h | h
    · cases h; left; rw [he]; simp [ptrsA, ptrsV, ptrsC]
    · exact .inr (resPtrs_mem h he)

theorem nodup_join {ow : Own} {t1 t2 : List Nat} {x : Slot} {rs : List ResultVar} (h1 : Held ow x t1) (h2 : t2.Nodup) (h3 : ∀ b, b ∈ t2 → ∃ y, resSlot s rs y ∧ ow b = some y) (hne : ¬ resSlot s rs x) : (t1 ++ t2).Nodup := by
  rw [List.nodup_append]
  refine ⟨h1.1, h2, fun b hb c hc e => ?_⟩
  subst e
  obtain ⟨y, k1, k2⟩ := h3 b hc
  rw [h1.2 b hb] at k2
  cases k2
  exact hne k1

theorem retA_sound (hT : WellT P E.T) (c : Core B mp ow I s a w) : ∀ (rs : List ResultVar) (κ : List V → R), retA E s rs κ = some r → distinctN (addrs rs) = true → distinctP (resPtrs s rs) = true →
    ∃ vs l ts, κ vs = some r ∧ (rs.mapM (resStep a.tmps)).run P w = .ok l w ∧ relT I w (fun _ => none) [] 0 vs l ts ∧ ts.Nodup ∧ ∀ b, b ∈ ts → ∃ x, resSlot s rs x ∧ ow b = some x
  | [], κ, h, _, _ => ⟨[], [], [], h, by simp, ⟨rfl, rfl⟩, .nil, by simp⟩
  | .tmp t :: rs, κ, h, hd1, hd2 => by
    simp only [retA] at h
    obtain ⟨v, hv, h1⟩ := asV_inv h
    obtain ⟨hnp, h2⟩ := chk_inv h1
    simp only [addrs, distinctN, Bool.and_eq_true, Bool.not_eq_true'] at hd1
    obtain ⟨vs, l, ts, k1, k2, k3, k4, k5⟩ := retA_sound hT c rs _ h2 hd1.2 hd2
    obtain ⟨t1, hr, hh⟩ := c.env t
    rw [hv] at hr
    refine ⟨v :: vs, a.tmps.getD t undef :: l, t1 ++ ts, k1, ?_, relT_cons (relV_mp hnp hr) k3, nodup_join hh k4 k5 ?_, ?_⟩
    · rw [List.mapM_cons]
      simp [resStep, k2]
    · rintro (⟨u, hu, e⟩ | ⟨_, _, _, _, _, _, e⟩)
      · cases e
        have := addrs_mem hu
        rw [← memN_iff, hd1.1] at this
        cases this
      · cases e
    · intro b hb
      rcases List.mem_append.1 hb with hb | hb
      · exact ⟨.env t, .inl ⟨t, by simp, rfl⟩, hh.2 b hb⟩
      · obtain ⟨x, h3, h4⟩ := k5 b hb
        refine ⟨x, ?_, h4⟩
        rcases h3 with ⟨u, e1, e2⟩ | ⟨ad, ty, n, off, e1, e2, e3⟩
        · exact .inl ⟨u, by simp [e1], e2⟩
        · exact .inr ⟨ad, ty, n, off, by simp [e1], e2, e3⟩
  | .cell ad t :: rs, κ, h, hd1, hd2 => by
    simp only [retA] at h
    obtain ⟨i, hi, h1⟩ := ty_inv h
    split at h1
    · rename_i n off he
      obtain ⟨cs, hcs, h2⟩ := onO_inv h1
      obtain ⟨hcp, h3⟩ := chk_inv h2
      simp only [addrs, distinctN, Bool.and_eq_true, Bool.not_eq_true'] at hd1
      simp only [resPtrs, he, ptrsA, ptrsV, ptrsC, List.cons_append, List.nil_append, distinctP, Bool.and_eq_true] at hd2
      obtain ⟨ta, hra, hha⟩ := c.env ad
      rw [he] at hra
      obtain ⟨⟨b, hb, hav⟩, _⟩ := hra
      obtain ⟨b', tb, e1, e2, e3, e4⟩ := c.box (.loc n) cs hcs
      rw [hb] at e1; cases e1
      have hne : ¬ resSlot s rs (.tip (.loc n)) := by
        rintro (⟨u, hu, e⟩ | ⟨ad', ty', n', off', k1, k2, e⟩)
        · cases e
        · cases e
          have := resPtrs_mem (s := s) k1 k2
          have h4 := hd2.1
          split at h4
          · cases h4
          · rename_i hx; exact ixP_none hx this
      have head : ∀ b, b ∈ tb → ∃ x, resSlot s (.cell ad t :: rs) x ∧ ow b = some x := fun b hb => ⟨_, .inr ⟨ad, t, n, off, by simp, he, rfl⟩, e4.2 b hb⟩
      have tail : ∀ {ts : List Nat}, (∀ b, b ∈ ts → ∃ x, resSlot s rs x ∧ ow b = some x) → ∀ b, b ∈ ts → ∃ x, resSlot s (.cell ad t :: rs) x ∧ ow b = some x := by
        intro ts k5 b hb
        obtain ⟨x, h3, h4⟩ := k5 b hb
        refine ⟨x, ?_, h4⟩
        rcases h3 with ⟨u, e1, e2⟩ | ⟨ad, ty, n, off, e1, e2, e3⟩
        · exact .inl ⟨u, by simp [e1], e2⟩
        · exact .inr ⟨ad, ty, n, off, by simp [e1], e2, e3⟩
      rcases e3 with ⟨cur, T, hheap, hrel, _, hI⟩ | ⟨l, pp, vv, T, te, hcs', _⟩
      · have hcl := relL_length hrel
        have agg : i.k.isAgg = true → cut i.size cs off (fun l => retA E s rs fun q => κ (.agg (l.map C.dem) :: q)) = some r →
            ∃ vs l ts, κ vs = some r ∧ ((ResultVar.cell ad t :: rs).mapM (resStep a.tmps)).run P w = .ok l w ∧ relT I w (fun _ => none) [] 0 vs l ts ∧ ts.Nodup ∧ ∀ b, b ∈ ts → ∃ x, resSlot s (.cell ad t :: rs) x ∧ ow b = some x := by
          intro hag h
          obtain ⟨hl, h4⟩ := cut_inv h
          obtain ⟨vs, l, ts, k1, k2, k3, k4, k5⟩ := retA_sound hT c rs _ h4 hd1.2 hd2.2
          obtain ⟨t1, t2, t3, rfl, r1, r2, r3⟩ := relL_split3 hrel off i.size hl
          have hload := run_loadVar_agg (P := P) (w := w) hT hi hag (b := b) (off := off) (vs := (cur.toList.drop off).take i.size) (by rw [List.length_take, List.length_drop]; omega) (by
            intro j v hv
            show cellAt w b (off + j) = some v
            rw [cellAt_heap hheap, ← Array.getElem?_toList]
            rw [List.getElem?_take] at hv
            split at hv
            · rwa [List.getElem?_drop] at hv
            · cases hv)
          refine ⟨_, _, [] ++ ts, k1, ?_, relT_cons (v := .agg ((cur.toList.drop off).take i.size).toArray) ⟨rfl, _, rfl, relL_dem r2, ?_⟩ k3, by simpa using k4, by simpa using tail k5⟩
          · rw [List.mapM_cons]
            simp [resStep, hav, asAddr, hload, k2]
          · rw [all_noPtr_dem, List.all_eq_true]
            rw [List.all_eq_true] at hcp
            exact fun z hz => hcp z (List.mem_of_mem_drop (List.mem_of_mem_take hz))
        have one : i.k.isAgg = false → (onO (nth cs off) fun c => viewC E i.k c fun c => retA E s rs fun q => κ (.c c :: q)) = some r →
            ∃ vs l ts, κ vs = some r ∧ ((ResultVar.cell ad t :: rs).mapM (resStep a.tmps)).run P w = .ok l w ∧ relT I w (fun _ => none) [] 0 vs l ts ∧ ts.Nodup ∧ ∀ b, b ∈ ts → ∃ x, resSlot s (.cell ad t :: rs) x ∧ ow b = some x := by
          intro hag h
          obtain ⟨x, hx, h4⟩ := onO_inv h
          rw [nth_eq] at hx
          have hoff : off + 1 ≤ cs.length := (List.getElem?_eq_some_iff.1 hx).1
          obtain ⟨t1, t2, t3, htb, r1, r2, r3⟩ := relL_split3 hrel off 1 hoff
          obtain ⟨v, hv⟩ : ∃ v, cur.toList[off]? = some v := ⟨_, List.getElem?_eq_getElem (by omega)⟩
          have g1 : (cs.drop off).take 1 = [x] := by
            obtain ⟨hh, hxx⟩ := List.getElem?_eq_some_iff.1 hx
            rw [List.drop_eq_getElem_cons hh]; simp [hxx]
          have g2 : (cur.toList.drop off).take 1 = [v] := by
            obtain ⟨hh, hxx⟩ := List.getElem?_eq_some_iff.1 hv
            rw [List.drop_eq_getElem_cons hh]
            simp only [List.take_succ_cons, List.take_zero, hxx]
          rw [g1, g2] at r2
          obtain ⟨y, h5, h6, hne', hnpy, hsl⟩ := viewC_inv h4 (relL_one_iff.1 r2)
          obtain ⟨vs, l, ts, k1, k2, k3, k4, k5⟩ := retA_sound hT c rs _ h5 hd1.2 hd2.2
          have hsub : t2.Sublist tb := by rw [htb]; exact (List.sublist_append_left t2 t3).trans (List.sublist_append_right t1 (t2 ++ t3))
          have hload := run_loadVar_one (P := P) (w := w) hT hi hag hne' (b := b) (off := off) (v := v) (by
            show cellAt w b off = some v
            rw [cellAt_heap hheap, ← Array.getElem?_toList]; exact hv)
          refine ⟨_, _, t2 ++ ts, k1, ?_, relT_cons (x := .c y) h6 k3, nodup_join (e4.sub hsub) k4 k5 hne, ?_⟩
          · rw [List.mapM_cons]
            simp [resStep, hav, asAddr, hload, k2]
          · intro z hz
            rcases List.mem_append.1 hz with hz | hz
            · exact head z (hsub.subset hz)
            · exact tail k5 z hz
        cases hk : i.k <;> simp only [hk] at h3 agg one <;> first | exact agg rfl h3 | exact one rfl h3
      · subst hcs'; simp [noPtr] at hcp
    · cases h1

theorem run_results {fn : Func} {tmps : Array Value} {l : List Value} (h : (fn.results.toList.mapM (resStep tmps)).run P w = .ok l w) : (results fn tmps).run P w = .ok (pack l) w := by
  unfold results
  have he : (fn.results.mapM fun | .tmp t => pure (tmps.getD t undef) | .cell a t => do loadVar t (← asAddr (tmps.getD a undef)) : Sem (Array Value)) = List.toArray <$> fn.results.toList.mapM (resStep tmps) := by
    rw [Array.mapM_eq_mapM_toList]
    congr 2
  refine (congrArg (fun m : Sem (Array Value) => Sem.run P (do let vs ← m; pure (if h : vs.size = 1 then vs[0] else Value.tuple vs)) w) he).trans ?_
  simp only [Sem.run_bind]
  have : (List.toArray <$> fn.results.toList.mapM (resStep tmps)).run P w = .ok l.toArray w := by simp [h]
  rw [this]
  simp only [Result.andThen_ok, Sem.run_pure]
  congr 1
  match l with
  | [] => rfl
  | [x] => rfl
  | x :: y :: r => rfl

/-- The boxes at a function's end. -/
theorem Core.ends (c : Core B mp ow I s a w) {ow0 : Own} (ho : ∀ b, B.own b → (ow0 b).isSome = true) {ow' : Own} (h1 : ∀ b i, ow b = some (.blk (.out i)) → ow' b = some (.blk (.out i))) (h2 : ∀ b i, ow b = some (.tip (.out i)) → ow' b = some (.tip (.out i)))
    (h3 : ∀ b x, ow' b = some x → ∃ y, ow b = some y) : End0 ow0 B.I0 B.w0 B.mo ow' I w s.out where
  step := ⟨c.step.ext.mono ho, c.step.sub, c.step.agree, fun b o h => (c.step.made b o h).imp id (fun h => ⟨h.1.imp (ho b) id, h.2⟩)⟩
  boxes := by
    refine ⟨?_, fun i cs hi => ?_⟩
    · have hlt : ∀ i, i < B.mo.length ↔ i < s.out.length := by
        intro i
        constructor
        · intro hi
          rcases Nat.lt_or_ge i s.out.length with h | h
          · exact h
          · have : s.box (.out i) = none := by simp only [St.box]; rw [nth_eq, List.getElem?_eq_none h]
            have := c.dom _ this
            rw [c.outs, nth_eq, List.getElem?_eq_getElem hi] at this
            cases this
        · intro hi
          obtain ⟨cs, hcs⟩ := nth_isSome hi
          obtain ⟨b, _, hb, _⟩ := c.box (.out i) cs hcs
          rw [c.outs, nth_eq] at hb
          exact (List.getElem?_eq_some_iff.1 hb).1
      rcases Nat.lt_trichotomy B.mo.length s.out.length with h | h | h
      · exact absurd ((hlt _).2 h) (by omega)
      · exact h
      · exact absurd ((hlt _).1 h) (by omega)
    · obtain ⟨b, ts, k1, k2, k3, k4⟩ := c.box (.out i) cs hi
      exact ⟨b, ts, by rw [← k1]; exact (c.outs i).symm, h1 b i k2, k3, k4.1, fun x hx => h2 x i (k4.2 x hx)⟩
  fresh b x hx := by obtain ⟨y, hy⟩ := h3 b x hx; exact (c.fresh b y hy).imp (ho b) id
  lt b x hx := by obtain ⟨y, hy⟩ := h3 b x hx; exact c.lt b y hy

theorem retR_sound (hT : WellT P E.T) (c : Core B mp ow I s a w) {ow0 : Own} (ho : ∀ b, B.own b → (ow0 b).isSome = true) {fn : Func} (h : retR E fn s = some r) : ∃ v, (results fn a.tmps).run P w = .ok v w ∧ EndOk ow0 B.I0 B.w0 B.mo r (.returned v) w := by
  unfold retR at h
  obtain ⟨hd, h1⟩ := chk_inv h
  simp only [Bool.and_eq_true] at hd
  obtain ⟨vs, l, ts, k1, k2, k3, k4, k5⟩ := retA_sound hT c fn.results.toList _ h1 hd.1 hd.2
  cases k1
  refine ⟨_, run_results k2, I, fun b => if b ∈ ts then some .res else match ow b with
    | some (.blk (.out i)) => some (.blk (.out i))
    | some (.tip (.out i)) => some (.tip (.out i))
    | _ => none, l, ts, c.ends ho ?_ ?_ ?_, rfl, k3, k4, fun b hb => by simp [hb]⟩
  · intro b i hb
    have : b ∉ ts := fun hm => by
      obtain ⟨x, hx, hx'⟩ := k5 b hm
      rw [hb] at hx'; cases hx'
      rcases hx with ⟨_, _, e⟩ | ⟨_, _, _, _, _, _, e⟩ <;> cases e
    simp [this, hb]
  · intro b i hb
    have : b ∉ ts := fun hm => by
      obtain ⟨x, hx, hx'⟩ := k5 b hm
      rw [hb] at hx'; cases hx'
      rcases hx with ⟨_, _, e⟩ | ⟨_, _, _, _, _, _, e⟩ <;> cases e
    simp [this, hb]
  · intro b x hx
    by_cases hm : b ∈ ts
    · obtain ⟨y, _, hy⟩ := k5 b hm; exact ⟨y, hy⟩
    · simp only [if_neg hm] at hx
      cases hob : ow b with
      | none => rw [hob] at hx; cases hx
      | some y => exact ⟨y, rfl⟩

theorem pan_sound (c : Core B mp ow I s a w) {ow0 : Own} (ho : ∀ b, B.own b → (ow0 b).isSome = true) {t : TypeId} {x : V} {u : Value} (hx : relV I w (fun _ => none) x u []) : EndOk ow0 B.I0 B.w0 B.mo (.pan t x s.out) (.panicked [{ v := .iface t u, recovered := false }]) w :=
  ⟨I, ow, u, c.ends ho (fun _ _ h => h) (fun _ _ h => h) (fun b x h => ⟨x, h⟩), rfl, hx⟩

theorem assoc_env0 (t : Nat) : ∀ (vs : List V) (k : Nat), assoc (env0 vs k) t = if k ≤ t then (vs[t - k]?).map AV.v else none
  | [], k => by simp [env0, assoc]
  | v :: r, k => by
    simp only [env0, assoc]
    rw [assoc_env0 t r (k + 1)]
    by_cases h : k = t
    · subst h; simp
    · rw [beqF h]
      simp only [cond_false]
      by_cases h2 : k + 1 ≤ t
      · rw [if_pos h2, if_pos (by omega)]
        rw [show t - k = (t - (k + 1)) + 1 by omega, List.getElem?_cons_succ]
      · rw [if_neg h2, if_neg (by omega)]

theorem relVs_get : ∀ {vs : List V} {l : List Value}, relVs I w mp vs l → l.length = vs.length ∧ ∀ (j : Nat) (x : V), vs[j]? = some x → ∃ u, l[j]? = some u ∧ relV I w mp x u []
  | [], _, h => by rw [h]; simp
  | x :: xs, _, h => by
    obtain ⟨v, l, rfl, h1, h2⟩ := h
    obtain ⟨h3, h4⟩ := relVs_get h2
    refine ⟨by simp [h3], fun j y hy => ?_⟩
    cases j with
    | zero => simp at hy; subst hy; exact ⟨v, rfl, h1⟩
    | succ j => simp at hy; obtain ⟨u, k1, k2⟩ := h4 j y hy; exact ⟨u, by simpa using k1, k2⟩

theorem codeOk_mono {n m : Nat} (h : n ≤ m) : ∀ c : Code, codeOk n c = true → codeOk m c = true := by
  have hd : ∀ ops, dstOk n ops = true → dstOk m ops = true := by
    intro ops ho
    simp only [dstOk, List.all_eq_true] at ho ⊢
    intro o hm
    have := ho o hm
    cases hx : o.dst with
    | none => simp
    | some k =>
      rw [hx] at this
      have h1 : k + 1 ≤ n := Nat.le_of_ble_eq_true this
      simp only
      exact Nat.ble_eq_true_of_le (Nat.le_trans h1 h)
  intro c
  induction c with
  | region id ops d => exact hd _
  | seq a b iha ihb => simp only [codeOk, Bool.and_eq_true]; exact fun h => ⟨iha h.1, ihb h.2⟩
  | cond c a b iha ihb => simp only [codeOk, Bool.and_eq_true]; exact fun h => ⟨iha h.1, ihb h.2⟩
  | block i b ih => exact ih
  | loop b ih => exact ih
  | _ => exact fun _ => rfl

/-- What must hold of the functions that the interpreter runs. -/
def FnOk (P : Program) (f : FuncId) (fn : Func) : Prop := P.funcs[f]? = some fn ∧ (fn.name == "runtime.NumGoroutine") = false ∧ ∀ c, fn.body = some c → codeOk fn.ntmps c = true

theorem start_ok {vs : List V} {args : List Value} {bs : List (List C)} {mo : List Nat} (hv : relVs I w (mpo mo) vs args) (hb : Boxes I w ow mo bs) (hI : ∀ b o, I b o → b < w.heap.size) (hl : ∀ b x, ow b = some x → b < w.heap.size) (n : Nat) :
    Inv ⟨mo, fun b => (ow b).isSome = true, I, w, args.length + n⟩ { env := env0 vs 0, loc := [], out := bs, dfr := none } { tmps := args.toArray ++ Array.replicate n undef, defers := [] } w := by
  obtain ⟨hlen, hget⟩ := relVs_get hv
  refine ⟨mpo mo, ow, I, ?_⟩
  constructor
  case env =>
    intro t
    simp only [getE, assoc_env0, Nat.zero_le, if_true, Nat.sub_zero]
    cases hx : vs[t]? with
    | none => exact ⟨[], rfl, .nil _ _⟩
    | some x =>
      obtain ⟨u, h1, h2⟩ := hget t x hx
      refine ⟨[], ?_, .nil _ _⟩
      have : (args.toArray ++ Array.replicate n undef).getD t undef = u := by
        rw [Array.getD_eq_getD_getElem?, ← Array.getElem?_toList]
        simp only [Array.toList_append]
        rw [List.getElem?_append_left (List.getElem?_eq_some_iff.1 h1).1, h1]; rfl
      show relA I w (mpo mo) (.v x) ((args.toArray ++ Array.replicate n undef).getD t undef) []
      rw [this]; exact h2
  case box =>
    intro p cs hp
    cases p with
    | out i => exact hb.2 i cs hp
    | loc n => cases hp
  case dom =>
    intro p hp
    cases p with
    | loc n => rfl
    | out i =>
      have : ¬ i < bs.length := fun h => by obtain ⟨x, hx⟩ := nth_isSome h; simp only [St.box, hx] at hp; cases hp
      show nth mo i = none
      rw [nth_eq, List.getElem?_eq_none (by rw [hb.1]; omega)]
  case outs => exact fun _ => rfl
  case fresh => exact fun b x h => .inl (by simp [h])
  case lt => exact hl
  case bnd => exact hI
  case size => simp
  case step => exact .refl _ _ _
  case dfr => rfl

theorem distinctP_nodup : ∀ {l : List PRef}, distinctP l = true → l.Nodup
  | [], _ => .nil
  | p :: r, h => by
    simp only [distinctP, Bool.and_eq_true] at h
    refine List.nodup_cons.2 ⟨?_, distinctP_nodup h.2⟩
    have h1 := h.1
    split at h1
    · cases h1
    · rename_i hx; exact ixP_none hx

def ptrsOf (mo : List Nat) : Array Value := (mo.map fun b => Value.pointer (some ⟨b, 0, none⟩)).toArray
/-- How the body ended. -/
def modeOk (I : Imm) (w : World) : Option (TypeId × V) → FrameMode → Prop
  | none, u => u = .returning
  | some (t, x), u => ∃ v, u = .panicking [{ v := .iface t v, recovered := false }] ∧ relV I w (fun _ => none) x v []
/-- What a deferred closure does. -/
def DfrSound (P : Program) (E : Cfg) (W : Imm → World → Prop) : Prop := ∀ g h, E.dfr g = some h →
  (∃ fn, P.funcs[g]? = some fn ∧ (fn.name == "runtime.NumGoroutine") = false ∧ fn.body.isNone = false) ∧
  ∀ pv bs bs', h pv bs = some bs' → ∀ w I mo ow u, W I w → Boxes I w ow mo bs → (∀ b o, I b o → b < w.heap.size) → (∀ b x, ow b = some x → b < w.heap.size) → modeOk I w pv u →
    CallsD P g (ptrsOf mo) u w fun e u' w' => match e with
      | .returned _ => settle u' = .returning ∧ ∃ J ow', End0 ow I w mo ow' J w' bs'
      | .outgrown => False
      | .panicked _ => False

theorem leaves_sound (hT : WellT P E.T) {W : Imm → World → Prop} (hW : Lasts W) (hR : DfrSound P E W) (c : Core B mp ow I s a w) (hB : W B.I0 B.w0) {ow0 : Own} (ho : ∀ b, B.own b → (ow0 b).isSome = true) {fn : Func} {pv : Option (TypeId × V)} {u : FrameMode} (hu : modeOk I w pv u)
    (h : endK E fn pv s = some r) : Leaves P fn a.tmps (EndOk ow0 B.I0 B.w0 B.mo r) a.defers u w := by
  unfold endK at h
  have hd := c.dfr
  split at h
  · rename_i hs
    rw [hs] at hd
    rw [show a.defers = [] from hd]
    split at h
    · obtain ⟨v, k1, k2⟩ := retR_sound hT c ho h
      simp only [modeOk] at hu
      subst hu
      exact ⟨v, k1, k2⟩
    · obtain ⟨v, rfl, hx⟩ := hu
      cases h
      exact pan_sound c ho hx
  · rename_i g ps hs
    rw [hs] at hd
    obtain ⟨bsl, hbl, hdd⟩ := hd
    rw [hdd]
    obtain ⟨hg, hE, h1⟩ := onO_inv h
    obtain ⟨hdp, h2⟩ := chk_inv h1
    obtain ⟨bs, hbs, h3⟩ := onO_inv h2
    obtain ⟨bs', hbs', h4⟩ := onO_inv h3
    have hn := distinctP_nodup hdp
    obtain ⟨⟨gf, hgf, hname, hbody⟩, hspec⟩ := hR g hg hE
    have hcall := hspec pv bs bs' hbs' w I bsl (ownC ow ps) u (hW _ _ _ _ _ c.step hB) (c.boxesC hn hbl hbs) c.bnd (fun b x hx => by obtain ⟨y, hy⟩ := ownC_some (ow := ow) (ps := ps) (b := b) (by rw [hx]; rfl); exact c.lt b y hy) hu
    have hn1 : ¬ gf.name = "runtime.NumGoroutine" := by simpa using hname
    have hn2 : ¬ gf.body = none := by intro e; simp [e] at hbody
    refine leaves_cons ?_ (f := g) (args := ptrsOf bsl) (by simp [invoke, callFunc, hgf, hn1, hn2, ptrsOf]) (hcall.mono ?_)
    · cases pv with
      | none => simp only [modeOk] at hu; subst hu; simp
      | some q => obtain ⟨v, rfl, _⟩ := hu; simp
    · intro e u' w' he
      cases e with
      | panicked _ => exact he.elim
      | outgrown => exact he.elim
      | returned v =>
        obtain ⟨hset, J, ow', h0⟩ := he
        simp only [hset]
        have hlen : bs'.length = ps.length := by
          have h5 := h0.boxes.1
          have h6 := congrArg List.length hbl
          simp at h6; omega
        have c' := c.back hn hbl hbs hlen h0
        obtain ⟨v, k1, k2⟩ := retR_sound hT c' ho h4
        exact ⟨v, k1, k2⟩

theorem panInv_K (fn : Func) : PanInv (panK E fn) := by
  intro t x s s' hd hd' hb
  have ho : s.out = s'.out := nth_ext fun i => hb i
  simp only [panK, endK, hd, hd', ho]

theorem callN_sound (hT : WellT P E.T) {W : Imm → World → Prop} (hW : Lasts W) (hF : ∀ f fn, E.fns f = some fn → FnOk P f fn) (hP : ∀ f p, E.prim f = some p → FnSpec P W (fun g vs bs => if g = f then p vs bs else none))
    (hD : ∀ Φ, FnSpec P W Φ → DrawSound P E Φ W) (hR : DfrSound P E W) : ∀ k, FnSpec P W (callN E k) := by
  intro k
  induction k with
  | zero => intro f vs bs r h; cases h
  | succ k ih =>
    intro f vs bs r h
    simp only [callN] at h
    split at h
    · rename_i p hp
      exact hP f p hp f vs bs r (by simpa using h)
    · obtain ⟨fn, hfn, h1⟩ := onO_inv h
      obtain ⟨hPf, hname, hok⟩ := hF f fn hfn
      unfold execF at h1
      split at h1
      · cases h1
      · rename_i c hbody
        refine ⟨⟨fn, hPf, hname, by rw [hbody]; rfl⟩, ?_⟩
        intro w I mo ow args hw hv hb hI hl
        refine calls_of_wp_defers hPf hbody ?_
        let B : Base := ⟨mo, fun b => (ow b).isSome = true, I, w, args.length + (fn.ntmps - args.length)⟩
        have hst : Inv B { env := env0 vs 0, loc := [], out := bs, dfr := none } { tmps := args.toArray ++ Array.replicate (fn.ntmps - args.length) undef, defers := [] } w := start_ok hv hb hI hl _
        have hret : ∀ s a w', retK E fn s = some r → Inv B s a w' → Leaves P fn a.tmps (EndOk ow I w mo r) a.defers .returning w' := by
          intro s a w' he hi
          obtain ⟨mp, ow', J, c'⟩ := hi
          exact leaves_sound (B := B) (ow0 := ow) hT hW hR c' hw (fun _ h => h) (pv := none) rfl he
        refine exec_sound hT hW ih (hD _ ih) (B := B) hw k f c (codeOk_mono (by simp only [B]; omega) c (hok c hbody)) _ _ _ _ _ _ _ _ (panInv_K fn) h1 (hst.pre f c) ⟨?_, ?_, ?_, ?_⟩
        · exact fun s a w' h2 h3 => hret s a w' h2 h3
        · intro i s a w' h2; cases h2
        · exact fun s a w' h2 h3 => hret s a w' h2 h3
        · intro t x u s a w' h2 h3
          obtain ⟨mp, ow', J, c', hx⟩ := h3
          exact leaves_sound (B := B) (ow0 := ow) hT hW hR c' hw (fun _ h => h) (pv := some (t, x)) ⟨u, rfl, hx⟩ h2

end
end Go.Proofs.YtmbhohnoolflbaaDoorX
