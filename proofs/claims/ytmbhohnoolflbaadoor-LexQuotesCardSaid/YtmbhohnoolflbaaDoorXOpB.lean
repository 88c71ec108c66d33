/-
  OPERATIONS THAT ONLY HAND BACK A VALUE, part 2: loads, aggregates, slices, conversions.
-/
import Derived.Test.YtmbhohnoolflbaaDoorXOpA
set_option linter.unusedVariables false
set_option linter.unusedSimpArgs false
namespace Go.Proofs.YtmbhohnoolflbaaDoorX

section
variable {P : Program} {E : Cfg} {I : Imm} {w : World} {mp : PRef → Option Nat} {ρ : Operand → Value} {r : Res}

/-- A cell without pointers reads the same whatever the boxes are. -/
theorem relC_mp {mp' : PRef → Option Nat} {c : C} {v : Value} {ts : List Nat} (hp : noPtr c = true) (h : relC I w mp c v ts) : relC I w mp' c v ts := by
  cases c <;> simp only [noPtr, reduceCtorEq] at hp <;> exact h
theorem relL_mp {mp' : PRef → Option Nat} : ∀ {cs : List C} {vs : List Value} {ts : List Nat}, cs.all noPtr = true → relL I w mp cs vs ts → relL I w mp' cs vs ts
  | [], _, _, _, h => h
  | c :: cs, _, _, hp, h => by
    obtain ⟨v, l, t1, t2, h1, h2, hc, hl⟩ := h
    simp only [List.all_cons, Bool.and_eq_true] at hp
    exact ⟨v, l, t1, t2, h1, h2, relC_mp hp.1 hc, relL_mp hp.2 hl⟩

theorem relV_mp {mp' : PRef → Option Nat} {x : V} {v : Value} {ts : List Nat} (hp : (valCells x).all noPtr = true) (h : relV I w mp x v ts) : relV I w mp' x v ts := by
  cases x with
  | c x => exact relC_mp (by simpa [valCells] using hp) h
  | agg cs => obtain ⟨h1, vs, h2, h3, h4⟩ := h; exact ⟨h1, vs, h2, relL_mp hp h3, h4⟩
/-- What reads as a value without any box reads so with boxes too. -/
theorem relC_mp0 {mp' : PRef → Option Nat} {c : C} {v : Value} {ts : List Nat} (h : relC I w (fun _ => none) c v ts) : relC I w mp' c v ts := by
  cases c <;> try exact h
  case ptr p off => obtain ⟨⟨b, hb, _⟩, _⟩ := h; simp at hb
  case fn f caps =>
    obtain ⟨⟨bs, hb, hv⟩, ht⟩ := h
    cases caps with
    | nil => exact ⟨⟨bs, hb, hv⟩, ht⟩
    | cons p l => cases bs <;> simp at hb
theorem relV_mp0 {mp' : PRef → Option Nat} {x : V} {v : Value} {ts : List Nat} (h : relV I w (fun _ => none) x v ts) : relV I w mp' x v ts := by
  cases x with
  | c x => exact relC_mp0 h
  | agg cs => obtain ⟨h1, vs, h2, h3, h4⟩ := h; exact ⟨h1, vs, h2, relL_mp h4 h3, h4⟩

theorem viewC_inv {k : TK} {x : C} {κ : C → R} {v : Value} {ts : List Nat} (h : viewC E k x κ = some r) (hr : relC I w mp x v ts) :
    ∃ y, κ y = some r ∧ relC I w mp y v ts ∧ k ≠ .oth ∧ (noPtr x = true → noPtr y = true) ∧ (∀ e, k = .slice e → ∃ es fl, y = .sl (szOf E e) es fl) := by
  cases k <;> simp only [viewC, reduceCtorEq] at h
  case int k =>
    split at h
    · split at h
      · rename_i k' n hk; subst hk; exact ⟨_, h, hr, by simp, by simp [noPtr], by simp⟩
      · cases h
    · cases h
  case bool =>
    split at h
    · exact ⟨_, h, hr, by simp, by simp [noPtr], by simp⟩
    · cases h
  case str =>
    split at h
    · exact ⟨_, h, hr, by simp, by simp [noPtr], by simp⟩
    · cases h
  case slice e =>
    split at h
    · rename_i sz es fl
      obtain ⟨hc, h⟩ := chk_inv h
      refine ⟨_, h, ?_, by simp, by simp [noPtr], fun e' he => by cases he; exact ⟨_, _, rfl⟩⟩
      simp only [Bool.or_eq_true] at hc
      rcases hc with hc | hc
      · rw [← Nat.eq_of_beq_eq_true hc]; exact hr
      · have he : es = [] := by simpa using hc
        subst he
        obtain ⟨a, cap, hv, hl, _, hf⟩ := hr
        refine ⟨a, cap, hv, hl, .inl rfl, ?_⟩
        cases fl <;> simp only at hf ⊢
        · exact hf
        · rcases hf with hf | ⟨b, arr, T, fz, ha, ht, h0, _⟩
          · exact .inl hf
          · simp at h0
        · exact hf
    · cases h
  all_goals
    split at h
    · cases h
    · exact ⟨_, h, hr, by simp, fun h => h, by simp⟩

theorem addr_add (b o n : Nat) : Addr.add ⟨b, o, none⟩ n = ⟨b, o + n, none⟩ := Addr.add_lit b o n

theorem run_loadVar_agg (hT : WellT P E.T) {t : TypeId} {i : TI} (hi : nth E.T t = some i) (ha : i.k.isAgg = true) {b off : Nat} {vs : List Value} (hl : vs.length = i.size)
    (hc : ∀ j v, vs[j]? = some v → cellAt w b (off + j) = some v) : (loadVar t ⟨b, off, none⟩).run P w = .ok (.agg vs.toArray) w := by
  have hne : i.k ≠ .oth := by intro h; rw [h] at ha; cases ha
  have hlc := run_loadCells_list (P := P) w ⟨b, off, none⟩ vs (fun j v hj => by rw [addr_add]; exact hc j v hj)
  rw [hl] at hlc
  simp [loadVar, run_isAgg hT hi hne, ha, run_size hT hi, hlc]
theorem run_loadVar_one (hT : WellT P E.T) {t : TypeId} {i : TI} (hi : nth E.T t = some i) (ha : i.k.isAgg = false) (hne : i.k ≠ .oth) {b off : Nat} {v : Value}
    (hc : cellAt w b off = some v) : (loadVar t ⟨b, off, none⟩).run P w = .ok v w := by
  have hc' : w.cell? ⟨b, off, none⟩ = some v := hc
  simp [loadVar, run_isAgg hT hi hne, ha, hc']

theorem cellAt_heap {b o : Nat} {arr : Array Value} {T : TypeId} {fz : Nat × Nat} (h : w.heap[b]? = some (.cells arr T fz)) : cellAt w b o = arr[o]? := cell_of_row w b o arr T fz h

/-- A variable read out of a box. -/
theorem run_ldB (hT : WellT P E.T) {t : TypeId} {i : TI} (hi : nth E.T t = some i) {b off : Nat} {cs : List C} {ts : List Nat} (hb : relB I w b cs ts) {κ : AV → R} (h : ldB E i cs off κ = some r) :
    ∃ x v, κ x = some r ∧ (loadVar t ⟨b, off, none⟩).run P w = .ok v w ∧ relA I w mp x v [] := by
  by_cases ha : i.k.isAgg = true
  · have h' : chk (!(Nat.beq i.size 1)) (cut i.size cs off fun l => κ (.v (.agg (l.map C.dem)))) = some r := by
      unfold ldB at h; cases hk : i.k <;> simp only [hk, TK.isAgg, Bool.false_eq_true] at h ha <;> exact h
    obtain ⟨h1, h2⟩ := chk_inv h'
    obtain ⟨hlen, h3⟩ := cut_inv h2
    rcases hb with ⟨arr, T, hh, hl, hp, hI⟩ | ⟨l, p, v, T, te, hcs, hh, hp, hv, hI, hte, hown⟩
    · have hd := relL_nil_cut (relL_dem hl) off i.size
      have hlv := relL_length hl
      refine ⟨_, .agg ((arr.toList.drop off).take i.size).toArray, h3, run_loadVar_agg hT hi ha (by simp at hlv ⊢; omega) (fun j v hj => ?_), ?_⟩
      · rw [cellAt_heap hh]
        rw [List.getElem?_take] at hj
        split at hj
        · rw [List.getElem?_drop] at hj; simpa using hj
        · cases hj
      · refine ⟨rfl, _, rfl, ?_, ?_⟩
        · rw [List.map_take, List.map_drop]; exact relL_mp (by
            have := all_noPtr_dem cs
            rw [List.all_eq_true]; intro c hc
            rw [hp, List.all_eq_true] at this
            exact this c (List.mem_of_mem_drop (List.mem_of_mem_take hc))) hd
        · rw [List.all_eq_true]; intro c hc
          have := all_noPtr_dem cs
          rw [hp, List.all_eq_true] at this
          rw [List.map_take, List.map_drop] at hc
          exact this c (List.mem_of_mem_drop (List.mem_of_mem_take hc))
    · subst hcs
      simp at hlen
      have hs1 : i.size ≠ 1 := by intro hs; rw [hs] at h1; simp [Nat.beq] at h1
      have hs0 : i.size = 0 := by omega
      refine ⟨_, .agg #[], h3, ?_, rfl, [], rfl, by simp [hs0, relL], by simp [hs0]⟩
      have := run_loadVar_agg (P := P) (w := w) hT hi ha (b := b) (off := off) (vs := []) (by simp [hs0]) (by simp)
      simpa using this
  · have ha : i.k.isAgg = false := by simpa using ha
    have h' : (onO (nth cs off) fun c => viewC E i.k c fun c => κ (.v (.c c.share))) = some r := by
      unfold ldB at h; cases hk : i.k <;> simp only [hk, TK.isAgg, Bool.true_eq_false] at h ha ⊢ <;> exact h
    obtain ⟨c, hc, h1⟩ := onO_inv h'
    rw [nth_eq] at hc
    rcases hb with ⟨arr, T, hh, hl, hp, hI⟩ | ⟨l, p, v, T, te, hcs, hh, hp, hv, hI, hte, hown⟩
    · obtain ⟨v, t1, hv, hcv⟩ := relL_get hl hc
      have hnp : noPtr c = true := by rw [List.all_eq_true] at hp; exact hp c (List.mem_of_getElem? hc)
      obtain ⟨y, h2, hy, hne, hnp', _⟩ := viewC_inv h1 hcv
      refine ⟨_, v, h2, run_loadVar_one hT hi ha hne (by rw [cellAt_heap hh]; simpa using hv), ?_⟩
      exact relC_mp (by rw [noPtr_share]; exact hnp' hnp) (relC_share hy)
    · subst hcs
      cases off with
      | zero => simp at hc; subst hc; cases hk : i.k <;> simp [hk, viewC] at h1
      | succ n => simp at hc

theorem relCs_relL {b o : Nat} {ds : List D} (h : relCs I w b o ds) : ∃ vs : List Value, vs.length = ds.length ∧ (∀ j v, vs[j]? = some v → cellAt w b (o + j) = some v) ∧ relL I w mp (ds.map D.toC) vs [] := by
  induction ds generalizing o with
  | nil => exact ⟨[], rfl, by simp, rfl, rfl⟩
  | cons d ds ih =>
    obtain ⟨⟨hI, v, hv, hd⟩, hr⟩ := h
    obtain ⟨vs, h1, h2, h3⟩ := ih hr
    refine ⟨v :: vs, by simp [h1], fun j u hj => ?_, relL_nil_cons.2 ⟨v, vs, rfl, relC_of_D hd, h3⟩⟩
    cases j with
    | zero => simp at hj; subst hj; simpa using hv
    | succ j => simp at hj; have := h2 j u hj; rwa [show o + 1 + j = o + (j + 1) by omega] at this

theorem relCs_drop {b o : Nat} {ds : List D} (h : relCs I w b o ds) (k : Nat) (hk : k ≤ ds.length) : relCs I w b (o + k) (ds.drop k) := by
  have := (List.take_append_drop k ds).symm
  rw [this, relCs_append] at h
  have hl : (ds.take k).length = k := by simp; omega
  rw [hl] at h
  exact h.2
theorem relCs_take {b o : Nat} {ds : List D} (h : relCs I w b o ds) (k : Nat) : relCs I w b o (ds.take k) := by
  have := (List.take_append_drop k ds).symm
  rw [this, relCs_append] at h
  exact h.1

theorem all_noPtr_toC (ds : List D) : (ds.map D.toC).all noPtr = true := by
  induction ds with
  | nil => rfl
  | cons d ds ih => simp only [List.map_cons, List.all_cons, noPtr_of_D, ih, Bool.and_self]

/-- A variable read out of an element. -/
theorem run_ldD (hT : WellT P E.T) {t : TypeId} {i : TI} (hi : nth E.T t = some i) {b o off : Nat} {ds : List D} (hb : relCs I w b o ds) {κ : AV → R} (h : ldD E i ds off κ = some r) :
    ∃ x v, κ x = some r ∧ (loadVar t ⟨b, o + off, none⟩).run P w = .ok v w ∧ relA I w mp x v [] := by
  by_cases ha : i.k.isAgg = true
  · have h' : (cut i.size ds off fun l => κ (.v (.agg (l.map D.toC)))) = some r := by
      unfold ldD at h; cases hk : i.k <;> simp only [hk, TK.isAgg, Bool.false_eq_true] at h ha <;> exact h
    obtain ⟨hlen, h3⟩ := cut_inv h'
    obtain ⟨vs, h4, h5, h6⟩ := relCs_relL (mp := mp) (relCs_take (relCs_drop hb off (by omega)) i.size)
    exact ⟨_, _, h3, run_loadVar_agg hT hi ha (by rw [h4]; simp; omega) h5, rfl, vs, rfl, h6, all_noPtr_toC _⟩
  · have ha : i.k.isAgg = false := by simpa using ha
    have h' : (onO (nth ds off) fun d => viewC E i.k d.toC fun c => κ (.v (.c c.share))) = some r := by
      unfold ldD at h; cases hk : i.k <;> simp only [hk, TK.isAgg, Bool.true_eq_false] at h ha ⊢ <;> exact h
    obtain ⟨d, hd, h1⟩ := onO_inv h'
    rw [nth_eq] at hd
    obtain ⟨_, v, hv, hdv⟩ := relCs_get hb hd
    obtain ⟨y, h2, hy, hne, _, _⟩ := viewC_inv h1 (relC_of_D (mp := mp) hdv)
    exact ⟨_, v, h2, run_loadVar_one hT hi ha hne hv, relC_share hy⟩

/-! ### Aggregates -/
theorem foldl_paste : ∀ (vs : List Value) (k o : Nat) (cs : Array Value), o + k + vs.length ≤ cs.size →
    ((vs.zipIdx k).foldl (fun cs (x : Value × Nat) => cs.setIfInBounds (o + x.2) x.1) cs).toList = cs.toList.take (o + k) ++ vs ++ cs.toList.drop (o + k + vs.length)
  | [], k, o, cs, _ => by simp
  | v :: vs, k, o, cs, h => by
    simp only [List.length_cons] at h
    rw [List.zipIdx_cons, List.foldl_cons, foldl_paste vs (k + 1) o _ (by simp; omega)]
    have e := list_seg_step cs.toList (o + k) v vs (by simp; omega)
    simpa [Array.toList_setIfInBounds, Nat.add_assoc] using e

theorem fill_one {place : Nat → Option (Nat × Nat)} {cs : Array Value} {i o n : Nat} {v : Value} {rest : List (Nat × Value)} (hp : place i = some (o, n)) (hn : v.cells.size = n) (hl : o + n ≤ cs.size) :
    Instr.fill place cs ((i, v) :: rest) = Instr.fill place (cs.toList.take o ++ v.cells.toList ++ cs.toList.drop (o + n)).toArray rest := by
  simp only [Instr.fill, hp]
  have hc : ¬ (v.cells.size ≠ n || decide (o + v.cells.size > cs.size)) = true := by simp [hn]; omega
  rw [if_neg (by simpa using hc)]
  congr 1
  apply Array.ext'
  have := foldl_paste v.cells.toList 0 o cs (by simpa [hn] using hl)
  rw [Nat.add_zero] at this
  rw [← Array.foldl_toList, Array.toList_zipIdx, this]
  simp [hn]

theorem cells_of_relC {x : C} {v : Value} {ts : List Nat} (h : relC I w mp x v ts) : v.cells = #[v] := by
  cases x <;> simp only [relC] at h
  case sl sz es fl => obtain ⟨a, cap, rfl, _⟩ := h; rfl
  case ptr p off => obtain ⟨⟨b, _, rfl⟩, _⟩ := h; rfl
  case fn f ps => obtain ⟨⟨bs, _, rfl⟩, _⟩ := h; rfl
  all_goals first | exact h.elim | (rw [h.1]; rfl)

theorem run_fillP {place rplace : Nat → Option (Nat × Nat)} {g : Operand → AV} (hg : ∀ x, ∃ t, relA I w mp (g x) (ρ x) t) (hpl : ∀ i o n, place i = some (o, n) → rplace i = some (o, n)) :
    ∀ (parts : List (Nat × Operand)) (cs : List C) (vs : List Value) (κ : List C → R), fillP place g parts cs κ = some r → relL I w mp cs vs [] → cs.all noPtr = true →
      ∃ cs' vs', κ cs' = some r ∧ Instr.fill rplace vs.toArray (parts.map fun (i, x) => (i, ρ x)) = some vs'.toArray ∧ relL I w mp cs' vs' [] ∧ cs'.all noPtr = true
  | [], cs, vs, κ, h, hl, hp => ⟨cs, vs, h, by simp [Instr.fill], hl, hp⟩
  | (i, x) :: parts, cs, vs, κ, h, hl, hp => by
    simp only [fillP] at h
    obtain ⟨⟨o, n⟩, hpi, h1⟩ := onO_inv h
    obtain ⟨v, hv, h2⟩ := asV_inv h1
    obtain ⟨t, hx⟩ := hg x
    rw [hv] at hx
    have hlen := relL_length hl
    have hall : ∀ {a b : List C} {k : Nat}, a.all noPtr = true → b.all noPtr = true → (a.take o ++ b ++ a.drop k).all noPtr = true := fun {a b k} ha hb => by
      simp only [List.all_append, Bool.and_eq_true, List.all_eq_true] at *
      exact ⟨⟨fun c hc => ha c (List.mem_of_mem_take hc), hb⟩, fun c hc => ha c (List.mem_of_mem_drop hc)⟩
    cases v with
    | c c =>
      simp only at h2
      obtain ⟨hnp, h2⟩ := chk_inv h2
      obtain ⟨hn, hle, h3⟩ := paste_inv h2
      have hcells : (ρ x).cells = #[ρ x] := cells_of_relC hx
      have hnew : relL I w mp (cs.take o ++ [c.dem] ++ cs.drop (o + n)) (vs.take o ++ [ρ x] ++ vs.drop (o + n)) [] := by
        refine relL_nil_append (relL_nil_append ?_ (relL_nil_cons.2 ⟨_, [], rfl, relC_dem hx, rfl, rfl⟩)) ?_
        · have := relL_nil_cut hl 0 o; simpa using this
        · have := relL_nil_cut hl (o + n) cs.length
          rw [List.take_of_length_le (by simp), List.take_of_length_le (by simp; omega)] at this
          exact this
      obtain ⟨cs', vs', h4, h5, h6, h7⟩ := run_fillP hg hpl parts _ _ κ h3 hnew (hall hp (by simp [noPtr_dem, hnp]))
      refine ⟨cs', vs', h4, ?_, h6, h7⟩
      rw [List.map_cons, fill_one (hpl i o n hpi) (by rw [hcells]; simpa using hn) (by simp; omega), hcells]
      simpa using h5
    | agg l =>
      simp only at h2
      obtain ⟨hn, hle, h3⟩ := paste_inv h2
      obtain ⟨_, us, hu, hlu, hnp⟩ := hx
      have hul := relL_length hlu
      have hnew : relL I w mp (cs.take o ++ l ++ cs.drop (o + n)) (vs.take o ++ us ++ vs.drop (o + n)) [] := by
        refine relL_nil_append (relL_nil_append ?_ hlu) ?_
        · have := relL_nil_cut hl 0 o; simpa using this
        · have := relL_nil_cut hl (o + n) cs.length
          rw [List.take_of_length_le (by simp), List.take_of_length_le (by simp; omega)] at this
          exact this
      obtain ⟨cs', vs', h4, h5, h6, h7⟩ := run_fillP hg hpl parts _ _ κ h3 hnew (hall hp hnp)
      refine ⟨cs', vs', h4, ?_, h6, h7⟩
      rw [List.map_cons, fill_one (hpl i o n hpi) (by rw [hu]; simpa [Value.cells, hul] using hn) (by simp; omega), hu]
      simpa [Value.cells] using h5
end
end Go.Proofs.YtmbhohnoolflbaaDoorX
