/-
  OPERATIONS THAT ONLY HAND BACK A VALUE, part 1: what they hand back is what the machine's operation hands back: moves, arithmetic, places, loads.
-/
import Derived.Test.YtmbhohnoolflbaaDoorXInv
import Derived.Laws.Cells
import Derived.Laws.BytesArg
import Derived.Lib.ConvBytes
import Derived.Laws.Concat
import Derived.Laws.StructEq
import Derived.ChangeKeysEq
import Derived.Lib.SmallJoins
set_option linter.unusedVariables false
set_option linter.unusedSimpArgs false
namespace Go.Proofs.YtmbhohnoolflbaaDoorX

/-- The machine's operation hands back a value that the interpreter's is, and the interpreter goes on with that. -/
def HRes (P : Program) (o : Oper) (ρ : Operand → Value) (I : Imm) (w : World) (mp : PRef → Option Nat) (κ : AV → R) (r : Res) : Prop :=
  ∃ x v w' J, κ x = some r ∧ (execOp ρ o).run P w = .ok (.value v) w' ∧ Step No I J w w' ∧ relA J w' mp x v []

theorem HRes.same {P : Program} {o : Oper} {ρ : Operand → Value} {I : Imm} {w : World} {mp : PRef → Option Nat} {κ : AV → R} {r : Res} {x : AV} {v : Value}
    (hk : κ x = some r) (he : (execOp ρ o).run P w = .ok (.value v) w) (hr : relA I w mp x v []) : HRes P o ρ I w mp κ r := ⟨x, v, w, I, hk, he, .refl _ _ _, hr⟩

section
variable {P : Program} {E : Cfg} {I : Imm} {w : World} {mp : PRef → Option Nat} {ρ : Operand → Value} {r : Res}

theorem relL_nil_cons {c : C} {cs : List C} {vs : List Value} : relL I w mp (c :: cs) vs [] ↔ ∃ v l, vs = v :: l ∧ relC I w mp c v [] ∧ relL I w mp cs l [] := by
  constructor
  · rintro ⟨v, l, t1, t2, rfl, ht, hc, hl⟩
    obtain ⟨rfl, rfl⟩ := List.append_eq_nil_iff.1 ht.symm
    exact ⟨v, l, rfl, hc, hl⟩
  · rintro ⟨v, l, rfl, hc, hl⟩
    exact ⟨v, l, [], [], rfl, rfl, hc, hl⟩

theorem relL_nil_iff : ∀ {cs : List C} {vs : List Value}, relL I w mp cs vs [] ↔ vs.length = cs.length ∧ ∀ (j : Nat) (c : C) (v : Value), cs[j]? = some c → vs[j]? = some v → relC I w mp c v []
  | [], vs => by simp [relL]
  | c :: cs, vs => by
    rw [relL_nil_cons]
    constructor
    · rintro ⟨v, l, rfl, hc, hl⟩
      obtain ⟨h1, h2⟩ := relL_nil_iff.1 hl
      refine ⟨by simp [h1], fun j c' v' hj hv => ?_⟩
      cases j with
      | zero => simp at hj hv; subst hj; subst hv; exact hc
      | succ j => simp at hj hv; exact h2 j c' v' hj hv
    · rintro ⟨h1, h2⟩
      cases vs with
      | nil => simp at h1
      | cons v l =>
        refine ⟨v, l, rfl, h2 0 c v (by simp) (by simp), relL_nil_iff.2 ⟨by simpa using h1, fun j c' v' hj hv => h2 (j + 1) c' v' (by simpa using hj) (by simpa using hv)⟩⟩

theorem relL_nil_cut {cs : List C} {vs : List Value} (h : relL I w mp cs vs []) (off n : Nat) : relL I w mp ((cs.drop off).take n) ((vs.drop off).take n) [] := by
  obtain ⟨h1, h2⟩ := relL_nil_iff.1 h
  refine relL_nil_iff.2 ⟨by simp [h1], fun j c v hj hv => ?_⟩
  rw [List.getElem?_take] at hj hv
  split at hj
  · rename_i hlt
    rw [if_pos hlt] at hv
    rw [List.getElem?_drop] at hj hv
    exact h2 _ _ _ hj hv
  · cases hj

theorem relL_nil_append {cs cs' : List C} {vs vs' : List Value} (h : relL I w mp cs vs []) (h' : relL I w mp cs' vs' []) : relL I w mp (cs ++ cs') (vs ++ vs') [] := by
  induction cs generalizing vs with
  | nil => obtain ⟨rfl, _⟩ := h; exact h'
  | cons c cs ih =>
    obtain ⟨v, l, rfl, hc, hl⟩ := relL_nil_cons.1 h
    exact relL_nil_cons.2 ⟨v, l ++ vs', rfl, hc, ih hl⟩

theorem relL_get {cs : List C} {vs : List Value} {ts : List Nat} (h : relL I w mp cs vs ts) {j : Nat} {c : C} (hj : cs[j]? = some c) : ∃ v t, vs[j]? = some v ∧ relC I w mp c v t := by
  induction cs generalizing vs ts j with
  | nil => simp at hj
  | cons x cs ih =>
    obtain ⟨v, l, t1, t2, rfl, rfl, hc, hl⟩ := h
    cases j with
    | zero => simp at hj; subst hj; exact ⟨v, t1, by simp, hc⟩
    | succ j => simp at hj; obtain ⟨v', t, h1, h2⟩ := ih hl hj; exact ⟨v', t, by simpa using h1, h2⟩

/-! ### Types -/
theorem ok_info (hT : WellT P E.T) {t : TypeId} {i : TI} (h : nth E.T t = some i) : ∃ inf, P.info? t = some inf ∧ inf.size = i.size ∧ inf.bytes = i.bytes := by
  obtain ⟨inf, h1, h2, h3, _⟩ := (hT t i h).info
  exact ⟨inf, h1, h2, h3⟩
theorem run_size (hT : WellT P E.T) {t : TypeId} {i : TI} (h : nth E.T t = some i) (w : World) : (sizeOf t).run P w = .ok i.size w := by
  obtain ⟨inf, h1, h2, _⟩ := ok_info hT h
  simp [sizeOf, typeInfo, h1, h2]
theorem szOf_eq {t : TypeId} {i : TI} (h : nth E.T t = some i) : szOf E t = i.size := by simp [szOf, h]
theorem run_size' (hT : WellT P E.T) {t : TypeId} (h : (nth E.T t).isSome = true) (w : World) : (sizeOf t).run P w = .ok (szOf E t) w := by
  obtain ⟨i, hi⟩ := Option.isSome_iff_exists.1 h
  rw [szOf_eq hi]; exact run_size hT hi w
theorem run_und {t : TypeId} {d : TypeDesc} (h : P.underlying t = some d) (w : World) : (underlying t).run P w = .ok d w := by simp [underlying, h]

/-- Whether a type's values are aggregates, for a kind. -/
def TK.isAgg : TK → Bool
  | .struct _ | .arr _ _ => true
  | _ => false
theorem run_isAgg (hT : WellT P E.T) {t : TypeId} {i : TI} (h : nth E.T t = some i) (hne : i.k ≠ .oth) (w : World) : (isAgg t).run P w = .ok i.k.isAgg w := by
  have hk := (hT t i h).kind
  cases hkk : i.k <;> simp only [hkk] at hk
  case struct fs => obtain ⟨_, fields, hu, _⟩ := hk; simp [isAgg, run_und hu, TK.isAgg]
  case arr n e => simp [isAgg, run_und hk.1, TK.isAgg]
  case slice e => simp [isAgg, run_und hk.1, TK.isAgg]
  case fn => obtain ⟨_, _, _, hu⟩ := hk; simp [isAgg, run_und hu, TK.isAgg]
  case ifc => obtain ⟨_, hu⟩ := hk; simp [isAgg, run_und hu, TK.isAgg]
  case tup => obtain ⟨_, hu⟩ := hk; simp [isAgg, run_und hu, TK.isAgg]
  case oth => exact absurd hkk hne
  all_goals simp [isAgg, run_und hk, TK.isAgg]

/-! ### Sharing -/
theorem relA_cp {x : AV} {v : Value} {t : List Nat} {κ : AV → R} (h : relA I w mp x v t) (hk : cp x κ = some r) : ∃ y, κ y = some r ∧ relA I w mp y v [] := by
  cases x with
  | tup => simp [cp] at hk
  | top => exact ⟨.top, hk, rfl⟩
  | und => exact ⟨.und, hk, h.1, rfl⟩
  | v x => exact ⟨.v x.share, hk, relV_share h⟩
  | el ds off => exact ⟨.el ds off, hk, h.1, rfl⟩
  | ifc t x => exact ⟨.ifc t x, hk, h.1, rfl⟩

theorem relA_fixT {x : AV} {v : Value} {t : List Nat} (ty : TypeId) (h : relA I w mp x v t) : relA I w mp (fixT E ty x) v t := by
  unfold fixT
  split
  · split
    · obtain ⟨a, cap, hv, hl, hr, hf⟩ := h
      refine ⟨a, cap, hv, hl, .inl rfl, ?_⟩
      rcases hf with hf | ⟨b, arr, T, fz, ha, ht, h0, _⟩
      · exact .inl hf
      · simp at h0
    · exact h
  · exact h

theorem relA_int {k : IntKind} {n : Int} {v : Value} {t : List Nat} (h : relA I w mp (.v (.c (.int k n))) v t) : v = .int k n := h.1
theorem relA_bool {b : Bool} {v : Value} {t : List Nat} (h : relA I w mp (.v (.c (.bool b))) v t) : v = .bool b := h.1
theorem relA_str {l : List UInt8} {v : Value} {t : List Nat} (h : relA I w mp (.v (.c (.str l))) v t) : v = .string ⟨l.toArray⟩ := h.1
theorem relA_vI (k : IntKind) (n : Int) : relA I w mp (vI k n) (.int k n) [] := ⟨rfl, rfl⟩
theorem relA_vB (b : Bool) : relA I w mp (vB b) (.bool b) [] := ⟨rfl, rfl⟩
theorem relA_vS (l : List UInt8) : relA I w mp (vS l) (.string ⟨l.toArray⟩) [] := ⟨rfl, rfl⟩

/-! ### Arithmetic -/
theorem binOp_int {op : BinOp} {k : IntKind} {a b : Int} {κ : AV → R} (hop : op ≠ .shl ∧ op ≠ .shr) (t : TypeId) (h : intA op k a b κ = some r) :
    ∃ x v, κ x = some r ∧ (binOp op t (.int k a) (.int k b)).run P w = .ok v w ∧ relA I w mp x v [] := by
  cases op <;> simp only [intA, reduceCtorEq] at h <;> first | (exact absurd rfl hop.1) | (exact absurd rfl hop.2) | skip
  case quo =>
    obtain ⟨hb, h⟩ := chk_inv h
    have hb : b ≠ 0 := by simpa using hb
    exact ⟨_, _, h, by simp [binOp, Op.intDiv, hb] <;> rfl, relA_vI _ _⟩
  case rem =>
    obtain ⟨hb, h⟩ := chk_inv h
    have hb : b ≠ 0 := by simpa using hb
    exact ⟨_, _, h, by simp [binOp, Op.intDiv, hb] <;> rfl, relA_vI _ _⟩
  case neq => exact ⟨_, _, h, by simp [binOp, Op.intCmp] <;> rfl, relA_vB _⟩
  case gtr => exact ⟨_, _, h, by simp [binOp, Op.intCmp] <;> rfl, relA_vB _⟩
  case geq => exact ⟨_, _, h, by simp [binOp, Op.intCmp] <;> rfl, relA_vB _⟩
  case and => exact ⟨_, _, h, by simp [binOp, Op.intBits] <;> rfl, relA_vI _ _⟩
  case or => exact ⟨_, _, h, by simp [binOp, Op.intBits] <;> rfl, relA_vI _ _⟩
  case xor => exact ⟨_, _, h, by simp [binOp, Op.intBits] <;> rfl, relA_vI _ _⟩
  all_goals first
    | exact ⟨_, _, h, by simp [binOp, Op.intArith] <;> rfl, relA_vI _ _⟩
    | exact ⟨_, _, h, by simp [binOp, Op.intCmp] <;> rfl, relA_vB _⟩

theorem binOp_shift {op : BinOp} {k k' : IntKind} {a b : Int} {κ : AV → R} (t : TypeId) (h : shiftA op k a b κ = some r) :
    ∃ x v, κ x = some r ∧ (binOp op t (.int k a) (.int k' b)).run P w = .ok v w ∧ relA I w mp x v [] := by
  cases op <;> simp only [shiftA, reduceCtorEq] at h
  all_goals
    obtain ⟨hb, h⟩ := chk_inv h
    have hb : ¬ b < 0 := by simpa using hb
    exact ⟨_, _, h, by simp [binOp, Op.shift, hb] <;> rfl, relA_vI _ _⟩

theorem binOp_str {op : BinOp} {a b : List UInt8} {κ : AV → R} (t : TypeId) (h : strA op a b κ = some r) :
    ∃ x v, κ x = some r ∧ (binOp op t (.string ⟨a.toArray⟩) (.string ⟨b.toArray⟩)).run P w = .ok v w ∧ relA I w mp x v [] := by
  cases op <;> simp only [strA, reduceCtorEq] at h
  case add =>
    obtain ⟨hb, h⟩ := chk_inv h
    have hb : a.length + b.length ≤ 9223372036854775807 := by simpa using hb
    refine ⟨_, _, h, ?_, relA_vS _⟩
    rw [binOp_string_add, run_string_add_sum _ _ _ (by simpa [ByteArray.size] using hb)]
    congr 2
  case eql => exact ⟨_, _, h, by simp [binOp, Op.stringOp] <;> rfl, relA_vB _⟩
  case neq => exact ⟨_, _, h, by simp [binOp, Op.stringOp] <;> rfl, relA_vB _⟩

theorem run_unA {op : UnOp} {x : AV} {v : Value} {t : List Nat} {κ : AV → R} (hx : relA I w mp x v t) (h : unA op x κ = some r) :
    ∃ y u, κ y = some r ∧ (Op.unary op v).run P w = .ok u w ∧ relA I w mp y u [] := by
  cases op <;> simp only [unA, reduceCtorEq] at h
  case not =>
    obtain ⟨b, rfl, h⟩ := asB_inv h
    obtain rfl := relA_bool hx
    exact ⟨_, _, h, by simp [Op.unary] <;> rfl, relA_vB _⟩
  case neg =>
    obtain ⟨k, n, rfl, h⟩ := asIk_inv h
    obtain rfl := relA_int hx
    exact ⟨_, _, h, by simp [Op.unary, Op.intArith] <;> rfl, relA_vI _ _⟩
  case xor =>
    obtain ⟨k, n, rfl, h⟩ := asIk_inv h
    obtain rfl := relA_int hx
    exact ⟨_, _, h, by simp [Op.unary, Op.intBits] <;> rfl, relA_vI _ _⟩

/-! ### Equality -/
theorem run_eqC {k : TK} {x y : C} {u v : Value} {t1 t2 : List Nat} {κ : Bool → R} {t : TypeId} (hx : relC I w mp x u t1) (hy : relC I w mp y v t2)
    (hk : match k with | .int k => P.underlying t = some (.int k) | .bool => P.underlying t = some .bool | .str => P.underlying t = some .string | _ => True) (h : eqC k x y κ = some r) :
    ∃ b, κ b = some r ∧ ∀ d, (Op.equalIn (d + 1) t u v).run P w = .ok b w := by
  cases k <;> simp only [eqC, reduceCtorEq] at h
  case int k =>
    obtain ⟨a, hx', h1⟩ := asI_inv h
    obtain ⟨b, hy', h2⟩ := asI_inv h1
    cases hx'; cases hy'
    simp only [relC] at hx hy
    rw [hx.1, hy.1]
    exact ⟨_, h2, fun d => run_equalIn_int w d t k k a b hk⟩
  case bool =>
    obtain ⟨a, hx', h1⟩ := asB_inv h
    obtain ⟨b, hy', h2⟩ := asB_inv h1
    cases hx'; cases hy'
    simp only [relC] at hx hy
    rw [hx.1, hy.1]
    exact ⟨_, h2, fun d => run_equalIn_bool' w d t a b hk⟩
  case str =>
    obtain ⟨a, hx', h1⟩ := asS_inv h
    obtain ⟨b, hy', h2⟩ := asS_inv h1
    cases hx'; cases hy'
    simp only [relC] at hx hy
    rw [hx.1, hy.1]
    exact ⟨_, h2, fun d => by rw [run_equalIn_string w d t _ _ hk]; simp⟩

/-- A scalar's type, off its row of the table. -/
theorem kind_scalar (hT : WellT P E.T) {t : TypeId} {i : TI} (h : nth E.T t = some i) :
    match i.k with | .int k => P.underlying t = some (.int k) | .bool => P.underlying t = some .bool | .str => P.underlying t = some .string | _ => True := by
  have hk := (hT t i h).kind
  cases hkk : i.k <;> simp only [hkk] at hk ⊢ <;> exact hk

theorem eqC_scalar {k : TK} {x y : C} {κ : Bool → R} (h : eqC k x y κ = some r) : k.isAgg = false ∧ k ≠ .oth := by
  cases k <;> simp_all [eqC, TK.isAgg]

theorem run_part (hT : WellT P E.T) {t : TypeId} {i : TI} (h : nth E.T t = some i) (ha : i.k.isAgg = false) (hne : i.k ≠ .oth) {vs : List Value} {o : Nat} {v : Value} (hv : vs[o]? = some v) :
    (part t vs.toArray o).run P w = .ok v w := by
  simp [part, run_isAgg hT h hne, ha, hv]

theorem run_eqFs (hT : WellT P E.T) (d : Nat) {xs ys : List C} {us vs : List Value} (hx : relL I w mp xs us []) (hy : relL I w mp ys vs []) :
    ∀ (fs : List Field) (κ : Bool → R), (∀ f ∈ fs, f.name ≠ "_") → eqFs E (fs.map fun f => (f.offset, f.type)) xs ys κ = some r →
      ∃ b, κ b = some r ∧ (Op.eqFields (d + 1) us.toArray vs.toArray fs).run P w = .ok b w
  | [], κ, _, h => ⟨true, h, by simp [Op.eqFields]⟩
  | f :: fs, κ, hn, h => by
    simp only [List.map_cons, eqFs] at h
    obtain ⟨i, hi, h⟩ := ty_inv h
    obtain ⟨x, hxo, h⟩ := onO_inv h
    obtain ⟨y, hyo, h⟩ := onO_inv h
    have hs := eqC_scalar h
    rw [nth_eq] at hxo hyo
    obtain ⟨u, t1, hu, hxu⟩ := relL_get hx hxo
    obtain ⟨v, t2, hv, hyv⟩ := relL_get hy hyo
    obtain ⟨a, h, hrun⟩ := run_eqC (P := P) hxu hyv (kind_scalar hT hi) h
    obtain ⟨b, h, hrest⟩ := run_eqFs hT d hx hy fs (fun b => κ (a && b)) (fun g hg => hn g (by simp [hg])) h
    refine ⟨_, h, ?_⟩
    have hne : f.name ≠ "_" := hn f (by simp)
    simp only [Op.eqFields, hne, ne_eq, not_false_eq_true, if_true, Sem.run_bind, run_part hT hi hs.1 hs.2 hu, run_part hT hi hs.1 hs.2 hv, Result.andThen_ok, hrun d]
    cases a
    · simp
    · simpa using hrest

theorem run_eqRow (hT : WellT P E.T) {e : TypeId} {j : TI} (hj : nth E.T e = some j) (d : Nat) {us vs : List Value} :
    ∀ (xs ys : List C) (o : Nat) (κ : Bool → R), relL I w mp xs (us.drop o) [] → relL I w mp ys (vs.drop o) [] → eqRow j.k xs ys κ = some r → xs.length = ys.length →
      ∃ b, κ b = some r ∧ (Op.eqItems (d + 1) e 1 us.toArray vs.toArray (List.range' o xs.length)).run P w = .ok b w
  | [], [], o, κ, _, _, h, _ => ⟨true, h, by simp [Op.eqItems]⟩
  | [], _ :: _, _, _, _, _, h, _ => by simp [eqRow] at h
  | _ :: _, [], _, _, _, _, h, _ => by simp [eqRow] at h
  | x :: xs, y :: ys, o, κ, hx, hy, h, hl => by
    simp only [eqRow] at h
    have hs := eqC_scalar h
    obtain ⟨u, lu, hu, hxu, hx'⟩ := relL_nil_cons.1 hx
    obtain ⟨v, lv, hv, hyv, hy'⟩ := relL_nil_cons.1 hy
    have hu0 : us[o]? = some u := by have := congrArg (·[0]?) hu; simpa using this
    have hv0 : vs[o]? = some v := by have := congrArg (·[0]?) hv; simpa using this
    have hu1 : us.drop (o + 1) = lu := by rw [← List.drop_drop, hu]; rfl
    have hv1 : vs.drop (o + 1) = lv := by rw [← List.drop_drop, hv]; rfl
    obtain ⟨a, h, hrun⟩ := run_eqC (P := P) hxu hyv (kind_scalar hT hj) h
    obtain ⟨b, h, hrest⟩ := run_eqRow hT hj d xs ys (o + 1) (fun b => κ (a && b)) (hu1 ▸ hx') (hv1 ▸ hy') h (by simpa using hl)
    refine ⟨_, h, ?_⟩
    simp only [List.length_cons, List.range'_succ, Op.eqItems, Sem.run_bind, Nat.mul_one, run_part hT hj hs.1 hs.2 hu0, run_part hT hj hs.1 hs.2 hv0, Result.andThen_ok, hrun d]
    cases a
    · simp
    · simpa using hrest

theorem run_eqA (hT : WellT P E.T) {t : TypeId} {i : TI} (hi : nth E.T t = some i) {x y : AV} {u v : Value} {t1 t2 : List Nat} {κ : Bool → R} (hx : relA I w mp x u t1) (hy : relA I w mp y v t2)
    (hb : match i.k with | .bool | .arr _ _ | .struct _ => True | _ => False) (h : eqA E i x y κ = some r) :
    ∃ b, κ b = some r ∧ (Op.equal t u v).run P w = .ok b w ∧ ((∃ a b, u = .bool a ∧ v = .bool b) ∨ ∃ a b, u = .agg a ∧ v = .agg b ∧ P.eqGuardType P.depth t = false) := by
  have hk := (hT t i hi).kind
  unfold eqA at h
  unfold Op.equal Op.maxDepth
  cases hkk : i.k <;> simp only [hkk, reduceCtorEq] at h hk hb
  case bool =>
    obtain ⟨x', ex, h1⟩ := asV_inv h
    obtain ⟨y', ey, h2⟩ := asV_inv h1
    clear h h1
    subst ex; subst ey
    split at h2
    · rename_i cx cy
      obtain ⟨a, hx', h3⟩ := asB_inv (by simpa [eqC] using h2)
      obtain ⟨b, hy', h4⟩ := asB_inv h3
      cases hx'; cases hy'
      obtain rfl := relA_bool hx; obtain rfl := relA_bool hy
      exact ⟨_, h4, run_equalIn_bool' w 9999 t a b hk, .inl ⟨_, _, rfl, rfl⟩⟩
    · cases h2
  case struct fs =>
    obtain ⟨_, fields, hu, hf, hn, hso, hg⟩ := hk
    obtain ⟨xs, ex, h1⟩ := asG_inv h
    obtain ⟨ys, ey, h2⟩ := asG_inv h1
    clear h h1
    subst ex; subst ey
    obtain ⟨_, us, rfl, hxs, _⟩ := hx
    obtain ⟨_, vs, rfl, hys, _⟩ := hy
    rw [← hf] at h2
    obtain ⟨b, h, hr⟩ := run_eqFs (P := P) hT 9998 hxs hys fields.toList κ (fun f hf => (hn f hf).1) h2
    have hfo : P.fieldsOf t = fields := by simp [Program.fieldsOf, hu]
    refine ⟨b, h, ?_, .inr ⟨_, _, rfl, rfl, hg⟩⟩
    rw [show (10000 : Nat) = 9999 + 1 from rfl, run_equalIn_struct w 9999 t _ _ (by rw [hfo]; exact hu) hso, hfo]
    exact hr
  case arr n e =>
    obtain ⟨hu, hie, hg⟩ := hk
    obtain ⟨j, hj, h0⟩ := ty_inv h
    obtain ⟨xs, ex, h1⟩ := asG_inv h0
    obtain ⟨ys, ey, h2⟩ := asG_inv h1
    obtain ⟨hc, h3⟩ := chk_inv h2
    clear h h0 h1 h2
    subst ex; subst ey
    simp only [Bool.and_eq_true] at hc
    have c1 := Nat.eq_of_beq_eq_true hc.1.1
    have c2 := Nat.eq_of_beq_eq_true hc.1.2
    have c3 := Nat.eq_of_beq_eq_true hc.2
    obtain ⟨_, us, rfl, hxs, _⟩ := hx
    obtain ⟨_, vs, rfl, hys, _⟩ := hy
    obtain ⟨b, h, hr⟩ := run_eqRow (P := P) (us := us) (vs := vs) hT hj 9998 xs ys 0 κ (by simpa using hxs) (by simpa using hys) h3 (by omega)
    obtain ⟨inf, hinf, hs, _⟩ := ok_info hT hj
    refine ⟨b, h, ?_, .inr ⟨_, _, rfl, rfl, hg⟩⟩
    rw [show (10000 : Nat) = 9999 + 1 from rfl, run_equalIn_array w 9999 _ _ hu hinf]
    have hc1 : P.cellsOf e = 1 := by simp [Program.cellsOf, hinf, hs, c1]
    rw [hc1, List.range_eq_range', ← c2]
    exact hr
end
end Go.Proofs.YtmbhohnoolflbaaDoorX
