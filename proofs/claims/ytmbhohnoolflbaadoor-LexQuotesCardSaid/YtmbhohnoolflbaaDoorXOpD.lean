/-
  THE THEOREM OVER ALL OPERATIONS THAT ONLY HAND BACK A VALUE.
-/
import Derived.Test.YtmbhohnoolflbaaDoorXOpC
set_option linter.unusedVariables false
set_option linter.unusedSimpArgs false
namespace Go.Proofs.YtmbhohnoolflbaaDoorX

section
variable {P : Program} {E : Cfg} {I : Imm} {w : World} {mp : PRef → Option Nat} {r : Res}

theorem HRes.mk' {o : Oper} {ρ : Operand → Value} {κ : AV → R} (h : ∃ x v w' J, κ x = some r ∧ (execOp ρ o).run P w = .ok (.value v) w' ∧ Step No I J w w' ∧ relA J w' mp x v []) : HRes P o ρ I w mp κ r := h

theorem run_eqGuard (op : BinOp) (t : TypeId) (x y : Operand) {a b : Value} (h : (∀ c, a ≠ .agg c) ∧ a ≠ .nilIface ∨ ∃ c d, a = .agg c ∧ b = .agg d ∧ P.eqGuardType P.depth t = false) :
    (eqGuard op t x y a b).run P w = .ok () w := by
  rcases h with ⟨h1, h2⟩ | ⟨c, d, rfl, rfl, hg⟩
  · cases op <;> simp only [eqGuard] <;> cases a <;> simp_all
  · exact run_eqGuard_agg w op t x y c d hg

theorem run_binA (hT : WellT P E.T) {op : BinOp} {t yt : TypeId} {ox oy : Operand} {x y : AV} {u v : Value} {tx ty' : List Nat} {κ : AV → R} (hx : relA I w mp x u tx) (hy : relA I w mp y v ty')
    (h : binA E op t x y κ = some r) : ∃ z q, κ z = some r ∧ ((do eqGuard op t ox oy u v; binOp op t u v) : Sem Value).run P w = .ok q w ∧ relA I w mp z q [] := by
  have shift : ∀ {op : BinOp}, (asIk x fun k a => asIk y fun _ b => shiftA op k a b κ) = some r → ∃ z q, κ z = some r ∧ ((do eqGuard op t ox oy u v; binOp op t u v) : Sem Value).run P w = .ok q w ∧ relA I w mp z q [] := by
    intro op h
    obtain ⟨k, a, ex, h1⟩ := asIk_inv h
    obtain ⟨k', b, ey, h2⟩ := asIk_inv h1
    subst ex; subst ey
    obtain rfl := relA_int hx
    obtain rfl := relA_int hy
    obtain ⟨z, q, h3, h4, h5⟩ := binOp_shift (P := P) (I := I) (w := w) (mp := mp) (k' := k') t h2
    exact ⟨z, q, h3, by rw [Sem.run_bind, run_eqGuard op t ox oy (.inl ⟨by simp, by simp⟩)]; exact h4, h5⟩
  have rest : ∀ {op : BinOp}, op ≠ .shl ∧ op ≠ .shr → (ty E t fun i => match i.k with
    | .int k => asI k x fun a => asI k y fun b => intA op k a b κ
    | .str => asS x fun a => asS y fun b => strA op a b κ
    | .bool | .arr _ _ | .struct _ => eqB E op i x y κ
    | _ => none) = some r → ∃ z q, κ z = some r ∧ ((do eqGuard op t ox oy u v; binOp op t u v) : Sem Value).run P w = .ok q w ∧ relA I w mp z q [] := by
    intro op hop h
    obtain ⟨i, hi, h1⟩ := ty_inv h
    have eqs : eqB E op i x y κ = some r → (match i.k with | .bool | .arr _ _ | .struct _ => True | _ => False) → ∃ z q, κ z = some r ∧ ((do eqGuard op t ox oy u v; binOp op t u v) : Sem Value).run P w = .ok q w ∧ relA I w mp z q [] := by
      intro h2 hk2
      cases op <;> simp only [eqB, reduceCtorEq] at h2
      case eql =>
        obtain ⟨b, h3, h4, h5⟩ := run_eqA (P := P) hT hi hx hy hk2 h2
        refine ⟨_, .bool b, h3, ?_, relA_vB _⟩
        rcases h5 with ⟨a, b', rfl, rfl⟩ | ⟨a, b', rfl, rfl, hg⟩
        · rw [Sem.run_bind, run_eqGuard .eql t ox oy (.inl ⟨by simp, by simp⟩)]
          simp only [Result.andThen_ok, binOp, Sem.run_bind, h4, Sem.run_pure]
        · rw [Sem.run_bind, run_eqGuard .eql t ox oy (.inr ⟨_, _, rfl, rfl, hg⟩)]
          simp only [Result.andThen_ok, binOp, Sem.run_bind, h4, Sem.run_pure]
      case neq =>
        obtain ⟨b, h3, h4, h5⟩ := run_eqA (P := P) hT hi hx hy hk2 h2
        refine ⟨_, .bool (!b), h3, ?_, relA_vB _⟩
        rcases h5 with ⟨a, b', rfl, rfl⟩ | ⟨a, b', rfl, rfl, hg⟩
        · rw [Sem.run_bind, run_eqGuard .neq t ox oy (.inl ⟨by simp, by simp⟩)]
          simp only [Result.andThen_ok, binOp, Sem.run_bind, h4, Sem.run_pure]
        · rw [Sem.run_bind, run_eqGuard .neq t ox oy (.inr ⟨_, _, rfl, rfl, hg⟩)]
          simp only [Result.andThen_ok, binOp, Sem.run_bind, h4, Sem.run_pure]
    cases hk : i.k <;> simp only [hk, reduceCtorEq] at h1
    case int k =>
      obtain ⟨a, ex, h2⟩ := asI_inv h1
      obtain ⟨b, ey, h3⟩ := asI_inv h2
      subst ex; subst ey
      obtain rfl := relA_int hx
      obtain rfl := relA_int hy
      obtain ⟨z, q, h4, h5, h6⟩ := binOp_int (P := P) (I := I) (w := w) (mp := mp) hop t h3
      exact ⟨z, q, h4, by rw [Sem.run_bind, run_eqGuard op t ox oy (.inl ⟨by simp, by simp⟩)]; exact h5, h6⟩
    case str =>
      obtain ⟨a, ex, h2⟩ := asS_inv h1
      obtain ⟨b, ey, h3⟩ := asS_inv h2
      subst ex; subst ey
      obtain rfl := relA_str hx
      obtain rfl := relA_str hy
      obtain ⟨z, q, h4, h5, h6⟩ := binOp_str (P := P) (I := I) (w := w) (mp := mp) t h3
      exact ⟨z, q, h4, by rw [Sem.run_bind, run_eqGuard op t ox oy (.inl ⟨by simp, by simp⟩)]; exact h5, h6⟩
    all_goals exact eqs h1 (by simp [hk])
  unfold binA at h
  split at h
  · exact shift h
  · exact shift h
  · rename_i op hn1 hn2
    exact rest ⟨fun e => hn1 e, fun e => hn2 e⟩ h

theorem run_nilA (hT : WellT P E.T) {op : BinOp} {t : TypeId} {ox oy : Operand} {x : AV} {u : Value} {tx : List Nat} {κ : AV → R} (hx : relA I w mp x u tx) (hy : isNilI oy = true)
    (h : nilA E op t x κ = some r) : ∃ z q, κ z = some r ∧ ((do eqGuard op t ox oy u .nilIface; binOp op t u .nilIface) : Sem Value).run P w = .ok q w ∧ relA I w mp z q [] := by
  unfold nilA at h
  obtain ⟨i, hi, h1⟩ := ty_inv h
  have hk := (hT t i hi).kind
  cases hkk : i.k <;> simp only [hkk, reduceCtorEq] at h1 hk
  obtain ⟨ms, hu⟩ := hk
  split at h1
  · rename_i t' v
    obtain ⟨⟨u', rfl, _⟩, _⟩ := hx
    have hg := run_eqGuard (P := P) (w := w) op t ox oy (a := .iface t' u') (b := .nilIface) (.inl ⟨by simp, by simp⟩)
    have heq : (Op.equal t (.iface t' u') .nilIface).run P w = .ok false w := by
      have hd : ∀ d, (Op.equalIn (d + 1) t (.iface t' u') .nilIface).run P w = .ok false w := fun d => by simp [Op.equalIn, run_und hu]
      exact hd 9999
    cases op <;> simp only [reduceCtorEq] at h1
    · refine ⟨_, _, h1, ?_, relA_vB _⟩
      rw [Sem.run_bind, hg]
      simp only [Result.andThen_ok, binOp, Sem.run_bind, heq, Sem.run_pure]
    · refine ⟨_, _, h1, ?_, relA_vB _⟩
      rw [Sem.run_bind, hg]
      simp only [Result.andThen_ok, binOp, Sem.run_bind, heq, Sem.run_pure]
      rfl
  · obtain ⟨rfl, _⟩ := hx
    have heq : (Op.equal t .nilIface .nilIface).run P w = .ok true w := by
      have hd : ∀ d, (Op.equalIn (d + 1) t .nilIface .nilIface).run P w = .ok true w := fun d => by simp [Op.equalIn, run_und hu]
      exact hd 9999
    have hg : ∀ op, (eqGuard op t ox oy .nilIface .nilIface).run P w = .ok () w := by
      intro op
      unfold isNilI at hy
      split at hy
      · cases op <;> simp [eqGuard]
      · cases hy
    cases op <;> simp only [reduceCtorEq] at h1
    · refine ⟨_, _, h1, ?_, relA_vB _⟩
      rw [Sem.run_bind, hg]
      simp only [Result.andThen_ok, binOp, Sem.run_bind, heq, Sem.run_pure]
    · refine ⟨_, _, h1, ?_, relA_vB _⟩
      rw [Sem.run_bind, hg]
      simp only [Result.andThen_ok, binOp, Sem.run_bind, heq, Sem.run_pure]
      rfl
  · cases h1

/-- The boxes that an operation may read. -/
def MemOk (I : Imm) (w : World) (mp : PRef → Option Nat) (mem : PRef → Option (List C)) : Prop := ∀ p cs, mem p = some cs → ∃ b t, mp p = some b ∧ relB I w b cs t

theorem capsOf_inv : ∀ {l : List AV} {ps : List PRef} {vs : List Value}, capsOf l = some ps → l.length = vs.length → (∀ (j : Nat) (x : AV) (v : Value), l[j]? = some x → vs[j]? = some v → ∃ t, relA I w mp x v t) →
    ∃ bs : List Nat, ps.map mp = bs.map some ∧ vs = bs.map fun b => Value.pointer (some ⟨b, 0, none⟩)
  | [], ps, vs, h, hl, _ => by
    simp [capsOf] at h; subst h
    have : vs = [] := List.eq_nil_of_length_eq_zero (by simpa using hl.symm)
    exact ⟨[], rfl, this⟩
  | x :: l, ps, vs, h, hl, hr => by
    unfold capsOf at h
    split at h
    · rename_i heq; cases heq
    · rename_i p l' heq
      cases heq
      split at h
      · rename_i ps' hps
        cases h
        cases vs with
        | nil => simp at hl
        | cons v vs =>
          obtain ⟨t, hx⟩ := hr 0 (.v (.c (.ptr p 0))) v (by simp) (by simp)
          obtain ⟨⟨b, hb, rfl⟩, _⟩ := hx
          obtain ⟨bs, h1, h2⟩ := capsOf_inv hps (by simpa using hl) (fun j x v hj hv => hr (j + 1) x v (by simpa using hj) (by simpa using hv))
          exact ⟨b :: bs, by simp [hb, h1], by simp [h2]⟩
      · cases h
    · cases h

theorem mapM_fields (hT : WellT P E.T) : ∀ (fields : List Field), (∀ f ∈ fields, (nth E.T f.type).isSome = true) →
    (fields.mapM fun f => (do pure (f.offset, ← sizeOf f.type) : Sem (Nat × Nat))).run P w = .ok (fields.map fun f => (f.offset, szOf E f.type)) w
  | [], _ => by simp
  | f :: fs, h => by
    have ih := mapM_fields hT fs (fun g hg => h g (by simp [hg]))
    rw [List.mapM_cons]
    simp only [Sem.run_bind, run_size' hT (h f (by simp)), Result.andThen_ok, Sem.run_pure, ih, List.map_cons]

theorem run_build (hT : WellT P E.T) {ρ : Operand → Value} {g : Operand → AV} (hg : ∀ x, ∃ t, relA I w mp (g x) (ρ x) t) {t : TypeId} {i : TI} (hi : nth E.T t = some i) {parts : Array (Nat × Operand)} {place : Nat → Option (Nat × Nat)} {κ : List C → R}
    (hk : (∃ fs, i.k = .struct fs ∧ place = fieldOf E fs) ∨ ∃ n e, i.k = .arr n e ∧ place = fun j => bif Nat.blt j n then some (j * szOf E e, szOf E e) else none)
    (h : fillP place g parts.toList (i.zero.map C.bz) κ = some r) (hz : i.zero ≠ []) (hzp : i.zero.all noPtr = true) :
    ∃ cs v, κ cs = some r ∧ (Instr.build t (parts.map fun (i, x) => (i, ρ x))).run P w = .ok v w ∧ relA I w mp (.v (.agg cs)) v [] := by
  obtain ⟨inf, hinf, hs, hb, hzz⟩ := (hT t i hi).info
  have hkk := (hT t i hi).kind
  rcases hzz hz with ⟨⟨te, h2⟩, _⟩ | ⟨z, hz1, hz2, hz3, _, hz5⟩
  · rw [h2] at hzp; simp [noPtr] at hzp
  have hbz : ∀ {cs : List C} {vs : List Value}, relL I w mp cs vs [] → relL I w mp (cs.map C.bz) vs [] := by
    intro cs
    induction cs with
    | nil => intro vs h; exact h
    | cons c cs ih =>
      intro vs h
      obtain ⟨v, l, rfl, hc, hl⟩ := relL_nil_cons.1 h
      refine relL_nil_cons.2 ⟨v, l, rfl, ?_, ih hl⟩
      cases c <;> try exact hc
      case sl sz es fl =>
        cases fl <;> try exact hc
        obtain ⟨a, cap, hv, hlc, hr, hf⟩ := hc
        refine ⟨a, cap, hv, hlc, hr, ?_⟩
        rcases hf with hf | ⟨_, _, _, _, _, ht, _⟩
        · exact hf
        · cases ht
  have hbzp : (i.zero.map C.bz).all noPtr = true := by
    rw [List.all_eq_true] at hzp ⊢
    intro c hc
    obtain ⟨c', hc', rfl⟩ := List.mem_map.1 hc
    have := hzp c' hc'
    cases c' <;> try exact this
    case sl sz es fl => cases fl <;> rfl
  have hzr := hbz (relL_zero I w mp _ _ hz2)
  rcases hk with ⟨fs, hfs, rfl⟩ | ⟨n, e, hne, rfl⟩
  · simp only [hfs] at hkk hz5
    obtain ⟨hin, fields, hu, hmap, _⟩ := hkk
    obtain ⟨cs0, rfl⟩ := hz5
    obtain ⟨cs', vs', h4, h5, h6, h7⟩ := run_fillP (place := fieldOf E fs) (rplace := fun j => (fields.map fun f => (f.offset, szOf E f.type))[j]?) hg (fun j o n hj => by
      unfold fieldOf at hj
      rw [nth_eq, ← hmap] at hj
      simp only [List.getElem?_map] at hj
      simp only [Array.getElem?_map]
      cases hf : fields.toList[j]? with
      | none => simp [hf] at hj
      | some f =>
        simp only [hf, Option.map_some, Option.some.injEq, Prod.mk.injEq] at hj
        obtain ⟨rfl, rfl⟩ := hj
        rw [Array.getElem?_toList] at hf
        simp [hf]) parts.toList _ _ κ h hzr hbzp
    refine ⟨cs', .agg vs'.toArray, h4, ?_, rfl, vs', rfl, h6, h7⟩
    have hm := mapM_fields (P := P) (E := E) (w := w) hT fields.toList (fun f hf => by
      rw [List.all_eq_true] at hin
      exact hin (f.offset, f.type) (by rw [← hmap]; exact List.mem_map.2 ⟨f, hf, rfl⟩))
    have hmA : (fields.mapM fun f => (do pure (f.offset, ← sizeOf f.type) : Sem (Nat × Nat))).run P w = .ok (fields.map fun f => (f.offset, szOf E f.type)) w := by
      have e := Array.toList_mapM (m := Sem) (xs := fields) (f := fun f => (do pure (f.offset, ← sizeOf f.type) : Sem (Nat × Nat)))
      rw [← e, Sem.run_map] at hm
      generalize (fields.mapM fun f => (do pure (f.offset, ← sizeOf f.type) : Sem (Nat × Nat))).run P w = q at hm
      cases q with
      | ok a w1 =>
        simp only [Result.andThen_ok, Result.ok.injEq] at hm
        obtain ⟨h1, rfl⟩ := hm
        congr 1
        exact Array.ext' (by rw [h1]; simp)
      | halt x w1 => simp at hm
    simp only [Value.cells] at h5
    have h5' : Instr.fill (fun j => (fields.map fun f => (f.offset, szOf E f.type))[j]?) cs0 (parts.map fun (i, x) => (i, ρ x)).toList = some vs'.toArray := by
      rw [Array.toList_map]; simpa using h5
    simp only [Instr.build, Sem.run_bind, zeroValue, typeInfo, run_program, Result.andThen_ok, hinf, Sem.run_pure, hz1, run_und hu, Value.cells, hmA, h5']
  · simp only [hne] at hkk hz5
    obtain ⟨hu, hie, _⟩ := hkk
    obtain ⟨cs0, rfl⟩ := hz5
    obtain ⟨cs', vs', h4, h5, h6, h7⟩ := run_fillP (rplace := fun j => some (j * szOf E e, szOf E e)) hg (fun j o n' hj => by
      cases hb : Nat.blt j n
      · simp [hb] at hj
      · simpa [hb] using hj) parts.toList _ _ κ h hzr hbzp
    refine ⟨cs', .agg vs'.toArray, h4, ?_, rfl, vs', rfl, h6, h7⟩
    simp only [Value.cells] at h5
    have h5' : Instr.fill (fun j => some (j * szOf E e, szOf E e)) cs0 (parts.map fun (i, x) => (i, ρ x)).toList = some vs'.toArray := by
      rw [Array.toList_map]; simpa using h5
    simp only [Instr.build, Sem.run_bind, zeroValue, typeInfo, run_program, Result.andThen_ok, hinf, Sem.run_pure, hz1, run_und hu, Value.cells, run_size' hT hie, h5']
theorem run_hOp (hT : WellT P E.T) (hI : ∀ b o, I b o → b < w.heap.size) {a : Act} {g : Operand → AV} (hg : ∀ x, ∃ t, relA I w mp (g x) (a.eval x) t) {mem : PRef → Option (List C)} (hm : MemOk I w mp mem) {o : Oper} {κ : AV → R}
    (h : hOp E o g mem κ = some r) : HRes P o a.eval I w mp κ r := by
  obtain ⟨dst, op, type, pos, after, guard⟩ := o
  cases op <;> simp only [hOp, reduceCtorEq] at h
  case move x =>
    obtain ⟨t, hx⟩ := hg x
    obtain ⟨y, h1, h2⟩ := relA_cp (relA_fixT (E := E) type hx) h
    exact .same h1 (by simp [execOp]) h2
  case assign x =>
    obtain ⟨t, hx⟩ := hg x
    obtain ⟨y, h1, h2⟩ := relA_cp (relA_fixT (E := E) type hx) h
    exact .same h1 (by simp [execOp]) h2
  case pick c x y =>
    obtain ⟨tc, hc⟩ := hg c
    obtain ⟨b, hb, h1⟩ := asB_inv h
    rw [hb] at hc
    have hcb := relA_bool hc
    cases b
    · obtain ⟨t, hy⟩ := hg y
      obtain ⟨z, h2, h3⟩ := relA_cp hy h1
      exact .same h2 (by simp [execOp, hcb, asBool]) h3
    · obtain ⟨t, hx⟩ := hg x
      obtain ⟨z, h2, h3⟩ := relA_cp hx h1
      exact .same h2 (by simp [execOp, hcb, asBool]) h3
  case nilCheck x =>
    obtain ⟨t, hx⟩ := hg x
    split at h
    · rename_i p off he
      rw [he] at hx
      obtain ⟨⟨b, hb, hv⟩, ht⟩ := hx
      exact .same h (by simp [execOp, hv]) ⟨⟨b, hb, rfl⟩, rfl⟩
    · rename_i f ps he
      rw [he] at hx
      obtain ⟨⟨bs, hb, hv⟩, ht⟩ := hx
      exact .same h (by simp [execOp, hv]) ⟨⟨bs, hb, rfl⟩, rfl⟩
    · rename_i ds off he
      rw [he] at hx
      obtain ⟨⟨b, o, hv, hr⟩, ht⟩ := hx
      exact .same h (by simp [execOp, hv]) ⟨⟨b, o, rfl, hr⟩, rfl⟩
    · cases h
  case binOp op t x y yt =>
    obtain ⟨tx, hx⟩ := hg x
    obtain ⟨ty', hy⟩ := hg y
    cases hn : isNilI y with
    | true =>
      rw [hn] at h
      obtain ⟨z, q, h1, h2, h3⟩ := run_nilA (P := P) hT (ox := x) (oy := y) hx hn h
      have hy' : a.eval y = .nilIface := by
        unfold isNilI at hn
        split at hn
        · rfl
        · cases hn
      refine .same h1 ?_ h3
      simp only [execOp, hy']
      rw [Sem.run_bind, h2]
      rfl
    | false =>
    rw [hn] at h
    simp only [cond_false] at h
    obtain ⟨z, q, h1, h2, h3⟩ := run_binA (P := P) hT (yt := yt) (ox := x) (oy := y) hx hy h
    refine .same h1 ?_ h3
    simp only [execOp]
    rw [Sem.run_bind, h2]
    rfl
  case unOp op t x =>
    obtain ⟨tx, hx⟩ := hg x
    obtain ⟨y, u, h1, h2, h3⟩ := run_unA (P := P) hx h
    exact .same h1 (by simp [execOp, h2]) h3
  case convert s d x =>
    obtain ⟨tx, hx⟩ := hg x
    obtain ⟨y, v, w', J, h1, h2, h3, h4⟩ := run_convA (P := P) hT hI hx h
    exact ⟨y, v, w', J, h1, by simp [execOp, h2], h3, h4⟩
  case makeInterface t x =>
    obtain ⟨tx, hx⟩ := hg x
    obtain ⟨i, hi, h0⟩ := ty_inv h
    have hk := (hT t i hi).kind
    have key : (asV (g x) fun v => chk ((valCells v).all noPtr) (κ (.ifc t v.share))) = some r → (∃ d, P.underlying t = some d ∧ ∀ ms, d ≠ .interface ms) → HRes P { dst, op := .makeInterface t x, type, pos, after, guard } a.eval I w mp κ r := by
      rintro h ⟨d, hd, hne⟩
      obtain ⟨v, hv, h1⟩ := asV_inv h
      obtain ⟨hnp, h1⟩ := chk_inv h1
      rw [hv] at hx
      refine .same h1 (v := .iface t (a.eval x)) ?_ ⟨⟨_, rfl, relV_share (relV_mp hnp hx)⟩, rfl⟩
      cases d <;> first | exact absurd rfl (hne _) | simp [execOp, Instr.makeInterface, run_und hd]
    cases hkk : i.k <;> simp only [hkk, reduceCtorEq] at h0 hk
    case struct fs => obtain ⟨_, f, hu, _⟩ := hk; exact key h0 ⟨_, hu, by simp⟩
    case arr n e => exact key h0 ⟨_, hk.1, by simp⟩
    case slice e => exact key h0 ⟨_, hk.1, by simp⟩
    case fn => obtain ⟨_, _, _, hu⟩ := hk; exact key h0 ⟨_, hu, by simp⟩
    case tup => obtain ⟨_, hu⟩ := hk; exact key h0 ⟨_, hu, by simp⟩
    all_goals exact key h0 ⟨_, hk, by simp⟩
  case typeAssert x u t ok =>
    cases ok <;> simp only [reduceCtorEq] at h
    obtain ⟨tx, hx⟩ := hg x
    obtain ⟨i, hi, h0⟩ := ty_inv h
    have hk := (hT t i hi).kind
    have key : (match g x with | .ifc t' v => chk (Nat.beq t' t) (κ (.tup [v, .c (.bool true)] [])) | _ => none) = some r → (∃ d, P.underlying t = some d ∧ ∀ ms, d ≠ .interface ms) → HRes P { dst, op := .typeAssert x u t true, type, pos, after, guard } a.eval I w mp κ r := by
      rintro h ⟨d, hd, hne⟩
      split at h
      · rename_i t' v he
        rw [he] at hx
        obtain ⟨⟨q, hv, hr⟩, _⟩ := hx
        obtain ⟨hc, h1⟩ := chk_inv h
        have := Nat.eq_of_beq_eq_true hc
        subst this
        refine .same h1 (v := .tuple #[q, .bool true]) ?_ ⟨[q, .bool true], rfl, ⟨q, [.bool true], [], [], rfl, rfl, by simpa [memN] using hr, ⟨.bool true, [], [], [], rfl, rfl, by simp [memN]; exact ⟨rfl, rfl⟩, rfl, rfl⟩⟩⟩
        cases d <;> first | exact absurd rfl (hne _) | simp [execOp, Instr.typeAssert, run_und hd, hv]
      · cases h
    cases hkk : i.k <;> simp only [hkk, reduceCtorEq] at h0 hk
    case struct fs => obtain ⟨_, f, hu, _⟩ := hk; exact key h0 ⟨_, hu, by simp⟩
    case arr n e => exact key h0 ⟨_, hk.1, by simp⟩
    case slice e => exact key h0 ⟨_, hk.1, by simp⟩
    case fn => obtain ⟨_, _, _, hu⟩ := hk; exact key h0 ⟨_, hu, by simp⟩
    case tup => obtain ⟨_, hu⟩ := hk; exact key h0 ⟨_, hu, by simp⟩
    all_goals exact key h0 ⟨_, hk, by simp⟩
  case makeFunc fn first caps =>
    cases fn <;> simp only [reduceCtorEq] at h
    case func f =>
      split at h
      · rename_i hf
        obtain ⟨ps, hps, h1⟩ := onO_inv h
        obtain ⟨bs, h2, h3⟩ := capsOf_inv (mp := mp) (I := I) (w := w) (vs := caps.toList.map a.eval) hps (by simp) (fun j x v hj hv => by
          simp only [List.getElem?_map, Option.map_eq_some_iff] at hj hv
          obtain ⟨y, hy, rfl⟩ := hj
          obtain ⟨z, hz, rfl⟩ := hv
          rw [hy] at hz; cases hz
          exact hg y)
        have hfe : first = #[] := Array.ext' hf
        have hce : caps.map a.eval = (bs.map fun b => Value.pointer (some ⟨b, 0, none⟩)).toArray := by
          apply Array.ext'; rw [Array.toList_map, h3]
        exact .same h1 (v := .func (.func f) #[] (caps.map a.eval)) (by simp [execOp, Instr.makeFunc, hfe]) (by rw [hce]; exact ⟨⟨bs, h2, rfl⟩, rfl⟩)
      · cases h
  case slice t x lo hi mx =>
    cases mx <;> simp only [reduceCtorEq] at h
    obtain ⟨tx, hx⟩ := hg x
    have side : ∀ (y : Option Operand), (y.map g = none ∧ y.map a.eval = none) ∨ ∃ z v t, y.map g = some z ∧ y.map a.eval = some v ∧ relA I w mp z v t := fun y => by
      cases y with
      | none => exact .inl ⟨rfl, rfl⟩
      | some y => obtain ⟨t, hy⟩ := hg y; exact .inr ⟨_, _, t, rfl, rfl, hy⟩
    obtain ⟨y, v, h1, h2, h3⟩ := run_slA (P := P) hT hx (side lo) (side hi) h
    exact .same h1 (by simp [execOp, h2]) h3
  case fieldAddr s x f =>
    obtain ⟨tx, hx⟩ := hg x
    obtain ⟨i, hi, h1⟩ := ty_inv h
    have hk := (hT s i hi).kind
    split at h1
    · rename_i fs hkk
      simp only [hkk] at hk
      obtain ⟨hin, fields, hu, hmap, hpos, _⟩ := hk
      obtain ⟨⟨o, ft⟩, hof, h2⟩ := onO_inv h1
      rw [nth_eq, ← hmap, List.getElem?_map] at hof
      obtain ⟨fd, hfd, he⟩ := Option.map_eq_some_iff.1 hof
      cases he
      have hfa : fields[f]? = some fd := by rw [← Array.getElem?_toList]; exact hfd
      have hft : (nth E.T fd.type).isSome = true := by rw [List.all_eq_true] at hin; exact hin (fd.offset, fd.type) (by rw [← hmap]; exact List.mem_map.2 ⟨fd, List.mem_of_getElem? hfd, rfl⟩)
      have hsz : szOf E fd.type ≠ 0 := by
        have := (hpos fd (List.mem_of_getElem? hfd)).2
        obtain ⟨fi, hfi⟩ := Option.isSome_iff_exists.1 hft
        obtain ⟨inf, hinf, hs, _⟩ := ok_info hT hfi
        rw [szOf_eq hfi]
        simp [Program.cellsOf, hinf, hs] at this
        omega
      have hrun : ∀ b off, (Instr.fieldAt s (.pointer (some ⟨b, off, none⟩)) f).run P w = .ok (.pointer (some ⟨b, off + fd.offset, none⟩)) w := fun b off => by
        simp [Instr.fieldAt, run_und hu, hfa, Instr.sureAddr, fieldPlace, run_size' hT hft, hsz, addr_add]
      split at h2
      · rename_i p off he
        rw [he] at hx
        obtain ⟨⟨b, hb, hv⟩, ht⟩ := hx
        exact .same h2 (by simp [execOp, hv, hrun] <;> rfl) ⟨⟨b, hb, rfl⟩, rfl⟩
      · rename_i ds off he
        rw [he] at hx
        obtain ⟨⟨b, o', hv, hr⟩, ht⟩ := hx
        exact .same h2 (by simp [execOp, hv, hrun] <;> rfl) ⟨⟨b, o', by simp [Nat.add_assoc], hr⟩, rfl⟩
      · cases h2
    · cases h1
  case indexAddr t x i =>
    obtain ⟨tx, hx⟩ := hg x
    obtain ⟨ti, hi⟩ := hg i
    obtain ⟨j, hj, h1⟩ := ty_inv h
    have hk := (hT t j hj).kind
    split at h1
    · rename_i e hkk
      simp only [hkk] at hk
      obtain ⟨sz, es, fl, he, h2⟩ := asL_inv h1
      obtain ⟨hsz, h3⟩ := chk_inv h2
      obtain ⟨ik, n, hn, h4⟩ := asIk_inv h3
      obtain ⟨c0, c1, hget, h5⟩ := elAt_inv h4
      rw [he] at hx
      rw [hn] at hi
      have hiv := relA_int hi
      obtain ⟨ad, cap, hxv, hlc, hes⟩ := relA_slice hx
      rcases hes with hes | ⟨b, o, rfl, hr⟩
      · subst hes; simp at c1; omega
      · have hg' := relEs_get hr hget
        have hsz' := Nat.eq_of_beq_eq_true hsz
        refine .same h5 (v := .pointer (some ⟨b, o + n.toNat * szOf E e, none⟩)) ?_ ⟨⟨b, o + n.toNat * szOf E e, by simp, by rw [← hsz']; exact hg'.2⟩, rfl⟩
        simp [execOp, hiv, hxv, Instr.indexAt, asIntOf, run_und hk.1, c0, c1, run_size' hT hk.2, addr_add]
    · rename_i n e hkk
      simp only [hkk] at hk
      obtain ⟨_, _, h1⟩ := ty_inv h1
      obtain ⟨ik, m, hm', h2⟩ := asIk_inv h1
      obtain ⟨hin, h3⟩ := chk_inv h2
      simp only [inB, Bool.and_eq_true, decide_eq_true_eq] at hin
      rw [hm'] at hi
      have hiv := relA_int hi
      have hrun : ∀ b off, (Instr.indexAt t (.pointer (some ⟨b, off, none⟩)) (.int ik m)).run P w = .ok (.pointer (some ⟨b, off + m.toNat * szOf E e, none⟩)) w := fun b off => by
        simp [Instr.indexAt, asIntOf, run_und hk.1, Instr.sureAddr, hin.1, hin.2, run_size' hT hk.2.1, addr_add]
      split at h3
      · rename_i p off he
        rw [he] at hx
        obtain ⟨⟨b, hb, hv⟩, ht⟩ := hx
        exact .same h3 (by simp [execOp, hv, hiv, hrun] <;> rfl) ⟨⟨b, hb, rfl⟩, rfl⟩
      · rename_i ds off he
        rw [he] at hx
        obtain ⟨⟨b, o', hv, hr⟩, ht⟩ := hx
        exact .same h3 (by simp [execOp, hv, hiv, hrun] <;> rfl) ⟨⟨b, o', by simp [Nat.add_assoc], hr⟩, rfl⟩
      · cases h3
    · cases h1
  case index t x i =>
    obtain ⟨tx, hx⟩ := hg x
    obtain ⟨ti, hi⟩ := hg i
    obtain ⟨j, hj, h1⟩ := ty_inv h
    have hk := (hT t j hj).kind
    split at h1
    · rename_i hkk
      simp only [hkk] at hk
      obtain ⟨l, he, h2⟩ := asS_inv h1
      obtain ⟨ik, n, hn, h3⟩ := asIk_inv h2
      obtain ⟨c0, c1, h4⟩ := chAt_inv h3
      rw [he] at hx
      rw [hn] at hi
      have hiv := relA_int hi
      have hxv := relA_str hx
      have hlt : n.toNat < l.length := by omega
      refine .same h4 (v := .int .u8 ((l.getD n.toNat 0).toNat : Int)) ?_ (relA_vI _ _)
      have hget : (ByteArray.mk l.toArray)[n.toNat]? = some (l.getD n.toNat 0) := by
        have hs : n.toNat < (ByteArray.mk l.toArray).size := by simpa [ByteArray.size] using hlt
        have e : (ByteArray.mk l.toArray)[n.toNat]? = some ((ByteArray.mk l.toArray)[n.toNat]'hs) := getElem?_pos (ByteArray.mk l.toArray) n.toNat hs
        rw [e]
        simp [List.getD, List.getElem?_eq_getElem hlt]
        rfl
      simp [execOp, hiv, hxv, Instr.index, asIntOf, run_und hk, c0, hget]
    · rename_i n e hkk
      simp only [hkk] at hk
      obtain ⟨ei, hei, h2⟩ := ty_inv h1
      obtain ⟨cs, he, h3⟩ := asG_inv h2
      obtain ⟨ik, m, hm, h4⟩ := asIk_inv h3
      obtain ⟨hc, h5⟩ := chk_inv h4
      simp only [inB, Bool.and_eq_true, decide_eq_true_eq] at hc
      obtain ⟨⟨⟨c0, c1⟩, c2⟩, c3⟩ := hc
      have c2' := Nat.eq_of_beq_eq_true c2
      obtain ⟨c, hcc, h6⟩ := onO_inv h5
      rw [nth_eq] at hcc
      rw [he] at hx
      rw [hm] at hi
      have hiv := relA_int hi
      obtain ⟨rfl, arr, hxv, hl, hnp⟩ := hx
      obtain ⟨v, t1, hv, hcv⟩ := relL_get hl hcc
      have hcn : noPtr c = true := by rw [List.all_eq_true] at hnp; exact hnp c (List.mem_of_getElem? hcc)
      obtain ⟨y, h7, hy, hne, hnp', _⟩ := viewC_inv h6 hcv
      have hagg : ei.k.isAgg = false := by cases hk : ei.k <;> simp [hk, TK.isAggB, TK.isAgg] at c3 ⊢
      refine .same h7 (v := v) ?_ (relC_share hy)
      have hsz := run_size hT hei w
      rw [c2'] at hsz
      have hv' : arr[m.toNat]? = some v := by simpa using hv
      simp [execOp, hiv, hxv, Instr.index, asIntOf, run_und hk.1, c0, c1, hsz, part, run_isAgg hT hei hne, hagg, hv']
    · cases h1
  case extract x i =>
    obtain ⟨tx, hx⟩ := hg x
    split at h
    · rename_i vs used he
      rw [he] at hx
      obtain ⟨l, hl, ht⟩ := hx
      obtain ⟨hmu, h⟩ := chk_inv h
      simp only [Bool.not_eq_true'] at hmu
      obtain ⟨j, hj, h1⟩ := ty_inv h
      obtain ⟨v, hv, h2⟩ := onO_inv h1
      rw [nth_eq] at hv
      obtain ⟨u, t, hu, hr⟩ := relT_get ht hv
      have hvv : ∃ y : V, κ (.v y.share) = some r ∧ relV I w mp y.share u [] := by
        rw [if_neg (by simp [hmu])] at hr
        obtain ⟨y, h3, h4, _⟩ := viewV_inv h2 hr
        exact ⟨y, h3, relV_mp0 (relV_share h4)⟩
      obtain ⟨y, h3, h4⟩ := hvv
      exact .same h3 (v := u) (by simp [execOp, hl, Instr.extract, hu]) h4
    · cases h
  case call c =>
    obtain ⟨callee, args, argTypes⟩ := c
    cases callee <;> try simp only [reduceCtorEq] at h
    case builtin bi =>
      cases bi <;> simp only [reduceCtorEq] at h
      case len =>
        split at h
        · rename_i x t ts he hts
          obtain ⟨tx, hx⟩ := hg x
          obtain ⟨i, hi, h1⟩ := ty_inv h
          have hk := (hT t i hi).kind
          have ha0 : args = #[x] := Array.ext' he
          have ht0 : argTypes[0]? = some t := by rw [← Array.getElem?_toList, hts]; rfl
          split at h1
          · rename_i hkk
            simp only [hkk] at hk
            obtain ⟨l, hl, h2⟩ := asS_inv h1
            rw [hl] at hx
            have hxv := relA_str hx
            have hsz : (ByteArray.mk l.toArray).size = l.length := rfl
            exact .same h2 (by simp [execOp, resolve, invoke, builtin, Builtin.len_, ht0, ha0, hxv, run_und hk, goInt, hsz]) (relA_vI _ _)
          · rename_i e hkk
            simp only [hkk] at hk
            obtain ⟨sz, es, fl, hl, h2⟩ := asL_inv h1
            rw [hl] at hx
            obtain ⟨ad, cap, hxv, _⟩ := relA_slice hx
            exact .same h2 (by simp [execOp, resolve, invoke, builtin, Builtin.len_, ht0, ha0, hxv, run_und hk.1, goInt]) (relA_vI _ _)
          · cases h1
        · cases h
      case min =>
        split at h
        · rename_i x y he
          obtain ⟨m, hm', h1⟩ := asI_inv h
          obtain ⟨n, hn, h2⟩ := asI_inv h1
          obtain ⟨tx, hx⟩ := hg x
          obtain ⟨ty', hy⟩ := hg y
          rw [hm'] at hx; rw [hn] at hy
          have ha0 : args = #[x, y] := Array.ext' he
          have e1 := relA_int hx; have e2 := relA_int hy
          exact .same h2 (by simp [execOp, resolve, invoke, builtin, ha0, e1, e2, Builtin.min_, Builtin.min2]) (relA_vI _ _)
        · cases h
      case max =>
        split at h
        · rename_i x y he
          obtain ⟨m, hm', h1⟩ := asI_inv h
          obtain ⟨n, hn, h2⟩ := asI_inv h1
          obtain ⟨tx, hx⟩ := hg x
          obtain ⟨ty', hy⟩ := hg y
          rw [hm'] at hx; rw [hn] at hy
          have ha0 : args = #[x, y] := Array.ext' he
          have e1 := relA_int hx; have e2 := relA_int hy
          exact .same h2 (by simp [execOp, resolve, invoke, builtin, ha0, e1, e2, Builtin.max_, Builtin.max2]) (relA_vI _ _)
        · cases h
  case build t parts =>
    obtain ⟨i, hi, h1⟩ := ty_inv h
    have hz : (!i.zero.isEmpty && i.zero.all noPtr) = true → i.zero ≠ [] ∧ i.zero.all noPtr = true := by
      intro hc; simp only [Bool.and_eq_true, Bool.not_eq_true', List.isEmpty_eq_false_iff] at hc; exact hc
    split at h1
    · rename_i fs hkk
      obtain ⟨hc, h2⟩ := chk_inv h1
      obtain ⟨cs, v, h3, h4, h5⟩ := run_build (P := P) hT hg hi (.inl ⟨fs, hkk, rfl⟩) h2 (hz hc).1 (hz hc).2
      exact .same h3 (by simp [execOp, h4]) h5
    · rename_i n e hkk
      obtain ⟨hc, h2⟩ := chk_inv h1
      obtain ⟨cs, v, h3, h4, h5⟩ := run_build (P := P) hT hg hi (.inr ⟨n, e, hkk, rfl⟩) h2 (hz hc).1 (hz hc).2
      exact .same h3 (by simp [execOp, h4]) h5
    · cases h1
  case buildSlice t len parts =>
    obtain ⟨i, hi, h1⟩ := ty_inv h
    split at h1
    · rename_i e hkk
      obtain ⟨ei, hei, h2⟩ := ty_inv h1
      obtain ⟨hz, h3⟩ := chk_inv h2
      obtain ⟨es, vss, h4, e1, e2, e3, e4, e5⟩ := run_elems (r := r) hg parts.toList 0 _ h3
      obtain ⟨hc, h5⟩ := chk_inv h4
      simp only [Bool.and_eq_true, szOf_eq hei] at hc h5
      obtain ⟨⟨⟨c1, c2⟩, c3⟩, c4⟩ := hc
      have hlen := Nat.eq_of_beq_eq_true c1
      obtain ⟨v, w', J, h6, h7, h8⟩ := run_buildSliceA (P := P) (w := w) (mp := mp) hT hI hg hi hkk hei (by simpa using hz) (len := len) e1 e2 e3 e4 e5 hlen c2 (by simp [Nat.blt] at c3; omega) (Nat.le_of_ble_eq_true c4)
      exact ⟨_, v, w', J, h5, by simp [execOp, h6], h7, h8⟩
    · cases h1
  case load t x =>
    obtain ⟨tx, hx⟩ := hg x
    obtain ⟨i, hi, h1⟩ := ty_inv h
    split at h1
    · rename_i p off he
      rw [he] at hx
      obtain ⟨⟨b, hb, hv⟩, ht⟩ := hx
      obtain ⟨cs, hcs, h2⟩ := onO_inv h1
      obtain ⟨b', t', hb', hB⟩ := hm p cs hcs
      rw [hb] at hb'; cases hb'
      obtain ⟨y, v, h3, h4, h5⟩ := run_ldB (P := P) (mp := mp) hT hi hB h2
      exact .same h3 (by simp [execOp, hv, Instr.loadAt, Instr.sureAddr, h4]) h5
    · rename_i ds off he
      rw [he] at hx
      obtain ⟨⟨b, o, hv, hr⟩, ht⟩ := hx
      obtain ⟨y, v, h3, h4, h5⟩ := run_ldD (P := P) (mp := mp) hT hi hr h1
      exact .same h3 (by simp [execOp, hv, Instr.loadAt, Instr.sureAddr, h4]) h5
    · cases h1

end
end Go.Proofs.YtmbhohnoolflbaaDoorX
