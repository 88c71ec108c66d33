/-
  WHAT EACH SMALL STEP OF THE INTERPRETER TOLD, WHERE IT ANSWERS; and when its table of types fits a program.
-/
import Derived.Test.YtmbhohnoolflbaaDoorXMem
set_option linter.unusedVariables false
set_option linter.unusedSimpArgs false
namespace Go.Proofs.YtmbhohnoolflbaaDoorX

section inv
variable {r : Res}
theorem asI_inv {k : IntKind} {x : AV} {κ : Int → R} (h : asI k x κ = some r) : ∃ n, x = .v (.c (.int k n)) ∧ κ n = some r := by
  unfold asI at h; split at h
  · split at h
    · rename_i k' n hk; subst hk; exact ⟨n, rfl, h⟩
    · cases h
  · cases h
theorem asIk_inv {x : AV} {κ : IntKind → Int → R} (h : asIk x κ = some r) : ∃ k n, x = .v (.c (.int k n)) ∧ κ k n = some r := by
  unfold asIk at h; split at h
  · exact ⟨_, _, rfl, h⟩
  · cases h
theorem asB_inv {x : AV} {κ : Bool → R} (h : asB x κ = some r) : ∃ b, x = .v (.c (.bool b)) ∧ κ b = some r := by
  unfold asB at h; split at h
  · exact ⟨_, rfl, h⟩
  · cases h
theorem asS_inv {x : AV} {κ : List UInt8 → R} (h : asS x κ = some r) : ∃ l, x = .v (.c (.str l)) ∧ κ l = some r := by
  unfold asS at h; split at h
  · exact ⟨_, rfl, h⟩
  · cases h
theorem asL_inv {x : AV} {κ : Nat → List (List D) → Fl → R} (h : asL x κ = some r) : ∃ sz es fl, x = .v (.c (.sl sz es fl)) ∧ κ sz es fl = some r := by
  unfold asL at h; split at h
  · exact ⟨_, _, _, rfl, h⟩
  · cases h
theorem asG_inv {x : AV} {κ : List C → R} (h : asG x κ = some r) : ∃ cs, x = .v (.agg cs) ∧ κ cs = some r := by
  unfold asG at h; split at h
  · exact ⟨_, rfl, h⟩
  · cases h
theorem asV_inv {x : AV} {κ : V → R} (h : asV x κ = some r) : ∃ v, x = .v v ∧ κ v = some r := by
  unfold asV at h; split at h
  · exact ⟨_, rfl, h⟩
  · cases h
theorem onO_inv {α : Type} {o : Option α} {κ : α → R} (h : onO o κ = some r) : ∃ a, o = some a ∧ κ a = some r := by
  unfold onO at h; split at h
  · exact ⟨_, rfl, h⟩
  · cases h
theorem chk_inv {b : Bool} {x : R} (h : chk b x = some r) : b = true ∧ x = some r := by
  cases b
  · simp [chk] at h
  · exact ⟨rfl, by simpa [chk] using h⟩
theorem ty_inv {E : Cfg} {t : TypeId} {κ : TI → R} (h : ty E t κ = some r) : ∃ i, nth E.T t = some i ∧ κ i = some r := onO_inv h
theorem cut_inv {α : Type} {n : Nat} {cs : List α} {off : Nat} {κ : List α → R} (h : cut n cs off κ = some r) : off + n ≤ cs.length ∧ κ ((cs.drop off).take n) = some r := by
  obtain ⟨h1, h2⟩ := chk_inv h
  exact ⟨Nat.le_of_ble_eq_true h1, h2⟩
theorem paste_inv {n : Nat} {cs : List C} {off : Nat} {new : List C} {κ : List C → R} (h : paste n cs off new κ = some r) :
    new.length = n ∧ off + n ≤ cs.length ∧ κ (cs.take off ++ new ++ cs.drop (off + n)) = some r := by
  obtain ⟨h1, h2⟩ := chk_inv h
  simp only [Bool.and_eq_true] at h1
  exact ⟨Nat.eq_of_beq_eq_true h1.1, Nat.le_of_ble_eq_true h1.2, h2⟩
theorem elAt_inv {es : List (List D)} {i : Int} {κ : List D → R} (h : elAt es i κ = some r) : 0 ≤ i ∧ i < es.length ∧ es[i.toNat]? = some (es.getD i.toNat []) ∧ κ (es.getD i.toNat []) = some r := by
  obtain ⟨h1, h2⟩ := chk_inv h
  simp only [inB, Bool.and_eq_true, decide_eq_true_eq] at h1
  refine ⟨h1.1, h1.2, ?_, h2⟩
  have : i.toNat < es.length := by omega
  simp [List.getD, List.getElem?_eq_getElem this]
theorem chAt_inv {l : List UInt8} {i : Int} {κ : Int → R} (h : chAt l i κ = some r) : 0 ≤ i ∧ i < l.length ∧ κ ((l.getD i.toNat 0).toNat : Int) = some r := by
  obtain ⟨h1, h2⟩ := chk_inv h
  simp only [inB, Bool.and_eq_true, decide_eq_true_eq] at h1
  exact ⟨h1.1, h1.2, h2⟩
theorem cutL_inv {α : Type} {l : List α} {lo hi : Int} {κ : List α → R} (h : cutL l lo hi κ = some r) :
    0 ≤ lo ∧ lo ≤ hi ∧ hi ≤ l.length ∧ κ ((l.take hi.toNat).drop lo.toNat) = some r := by
  obtain ⟨h1, h2⟩ := chk_inv h
  simp only [Bool.and_eq_true, decide_eq_true_eq] at h1
  exact ⟨h1.1.1, h1.1.2, h1.2, h2⟩
end inv

theorem nth_eq {α : Type} : ∀ (l : List α) (n : Nat), nth l n = l[n]?
  | [], _ => by simp [nth]
  | x :: r, 0 => by simp [nth]
  | x :: r, n + 1 => by simp [nth, nth_eq r n]

/-! ### The table of types -/
def zeroOk : List C → List Value → Bool
  | [], [] => true
  | .int k n :: r, .int k' m :: s => decide (k = k') && decide (n = m) && zeroOk r s
  | .bool b :: r, .bool c :: s => (b == c) && zeroOk r s
  | .str [] :: r, .string t :: s => t.data.toList.isEmpty && zeroOk r s
  | .sl _ [] .own :: r, .slice none 0 0 :: s => zeroOk r s
  | .nif :: r, .nilIface :: s => zeroOk r s
  | .nptr :: r, .pointer none :: s => zeroOk r s
  | .nfn :: r, .nilFunc :: s => zeroOk r s
  | _, _ => false

theorem relL_zero (I : Imm) (w : World) (mp : PRef → Option Nat) : ∀ (cs : List C) (vs : List Value), zeroOk cs vs = true → relL I w mp cs vs []
  | [], [], _ => ⟨rfl, rfl⟩
  | [], _ :: _, h => by simp [zeroOk] at h
  | c :: cs, [], h => by cases c <;> simp [zeroOk] at h
  | c :: cs, v :: vs, h => by
    unfold zeroOk at h
    split at h <;> (try (cases h; done))
    case h_1 h1 h2 => cases h1
    case h_2 h1 h2 =>
      cases h1; cases h2
      simp only [Bool.and_eq_true, decide_eq_true_eq] at h
      obtain ⟨⟨rfl, rfl⟩, h⟩ := h
      exact ⟨_, _, [], [], rfl, rfl, ⟨rfl, rfl⟩, relL_zero I w mp _ _ h⟩
    case h_3 h1 h2 =>
      cases h1; cases h2
      simp only [Bool.and_eq_true, beq_iff_eq] at h
      obtain ⟨rfl, h⟩ := h
      exact ⟨_, _, [], [], rfl, rfl, ⟨rfl, rfl⟩, relL_zero I w mp _ _ h⟩
    case h_4 t s h1 h2 =>
      cases h1; cases h2
      simp only [Bool.and_eq_true] at h
      obtain ⟨he, h⟩ := h
      refine ⟨_, _, [], [], rfl, rfl, ⟨?_, rfl⟩, relL_zero I w mp _ _ h⟩
      have hd : t.data.toList = [] := by simpa using he
      cases t with
      | mk d => congr 1; cases d with | mk l => simp at hd; subst hd; rfl
    case h_5 h1 h2 =>
      cases h1; cases h2
      exact ⟨_, _, [], [], rfl, rfl, ⟨none, 0, rfl, Nat.le_refl _, .inl rfl, .inl ⟨rfl, rfl⟩⟩, relL_zero I w mp _ _ h⟩
    case h_6 h1 h2 =>
      cases h1; cases h2
      exact ⟨_, _, [], [], rfl, rfl, ⟨rfl, rfl⟩, relL_zero I w mp _ _ h⟩
    case h_7 h1 h2 =>
      cases h1; cases h2
      exact ⟨_, _, [], [], rfl, rfl, ⟨rfl, rfl⟩, relL_zero I w mp _ _ h⟩
    case h_8 h1 h2 =>
      cases h1; cases h2
      exact ⟨_, _, [], [], rfl, rfl, ⟨rfl, rfl⟩, relL_zero I w mp _ _ h⟩

/-- What one row of the table says is so. -/
structure TyOk (P : Program) (T : List TI) (t : TypeId) (i : TI) : Prop where
  info : ∃ inf, P.info? t = some inf ∧ inf.size = i.size ∧ inf.bytes = i.bytes ∧ (i.zero ≠ [] → ((∃ te, i.zero = [.bld t te []]) ∧ i.size = 2 ∧ inf.zero = some (.agg #[.pointer none, .slice none 0 0])) ∨ ∃ z, inf.zero = some z ∧ zeroOk i.zero z.cells.toList = true ∧ z.cells.size = i.size ∧ i.zero.all noPtr = true ∧
    (match i.k with | .struct _ | .arr _ _ => ∃ cs, z = .agg cs | _ => z.oneCell' = true))
  kind : match i.k with
    | .int k => P.underlying t = some (.int k)
    | .bool => P.underlying t = some .bool
    | .str => P.underlying t = some .string
    | .slice e => P.underlying t = some (.slice e) ∧ (nth T e).isSome = true
    | .struct fs => (fs.all fun x => (nth T x.2).isSome) = true ∧ ∃ fields : Array Field, P.underlying t = some (.struct fields) ∧ fields.toList.map (fun f => (f.offset, f.type)) = fs ∧ (∀ f ∈ fields.toList, f.name ≠ "_" ∧ 0 < P.cellsOf f.type) ∧ P.stoodInHeld t = false ∧ P.eqGuardType P.depth t = false
    | .arr n e => P.underlying t = some (.array n e) ∧ (nth T e).isSome = true ∧ P.eqGuardType P.depth t = false
    | .ptr e => P.underlying t = some (.pointer e)
    | .fn => ∃ a b c, P.underlying t = some (.func a b c)
    | .ifc => ∃ ms, P.underlying t = some (.interface ms)
    | .tup => ∃ ts, P.underlying t = some (.tuple ts)
    | .oth => True

def tyOkB (P : Program) (T : List TI) (t : TypeId) (i : TI) : Bool :=
  (match P.info? t with
   | some inf => Nat.beq inf.size i.size && Nat.beq inf.bytes i.bytes && (match i.zero with
      | [] => true
      | _ => (match inf.zero with
        | some z => (match i.zero with | [.bld t' _ []] => (match z with | .agg cs => (match cs.toList with | [.pointer none, .slice none 0 0] => Nat.beq 2 i.size && Nat.beq t' t | _ => false) | _ => false) | _ => zeroOk i.zero z.cells.toList && Nat.beq z.cells.size i.size && i.zero.all noPtr &&
            (match i.k with | .struct _ | .arr _ _ => (match z with | .agg _ => true | _ => false) | _ => z.oneCell'))
        | none => false))
   | none => false) &&
  (match i.k, P.underlying t with
   | .int k, some (.int k') => decide (k = k')
   | .bool, some .bool => true
   | .str, some .string => true
   | .slice e, some (.slice e') => Nat.beq e e' && (nth T e).isSome
   | .struct fs, some (.struct fields) => decide (fields.toList.map (fun f => (f.offset, f.type)) = fs) && fields.toList.all (fun f => !(f.name == "_") && Nat.blt 0 (P.cellsOf f.type)) && !P.stoodInHeld t && !P.eqGuardType P.depth t && (fs.all fun x => (nth T x.2).isSome)
   | .arr n e, some (.array n' e') => Nat.beq n n' && Nat.beq e e' && (nth T e).isSome && !P.eqGuardType P.depth t
   | .ptr e, some (.pointer e') => Nat.beq e e'
   | .fn, some (.func _ _ _) => true
   | .ifc, some (.interface _) => true
   | .tup, some (.tuple _) => true
   | .oth, _ => true
   | _, _ => false)

theorem tyOk_of_B {P : Program} {T : List TI} {t : TypeId} {i : TI} (h : tyOkB P T t i = true) : TyOk P T t i := by
  unfold tyOkB at h
  simp only [Bool.and_eq_true] at h
  obtain ⟨h1, h2⟩ := h
  constructor
  · cases hinf : P.info? t with
    | none => simp [hinf] at h1
    | some inf =>
      simp only [hinf, Bool.and_eq_true] at h1
      obtain ⟨⟨hs, hb⟩, hz⟩ := h1
      refine ⟨inf, rfl, Nat.eq_of_beq_eq_true hs, Nat.eq_of_beq_eq_true hb, fun hne => ?_⟩
      cases hzz : i.zero with
      | nil => exact absurd hzz hne
      | cons c cs =>
        simp only [hzz] at hz
        cases hz2 : inf.zero with
        | none => simp [hz2] at hz
        | some z =>
          simp only [hz2] at hz
          split at hz
          · rename_i hbl
            split at hz
            · rename_i arr
              split at hz
              · rename_i hl
                simp only [Bool.and_eq_true] at hz
                have ht := Nat.eq_of_beq_eq_true hz.2
                subst ht
                refine .inl ⟨⟨_, hbl⟩, (Nat.eq_of_beq_eq_true hz.1).symm, ?_⟩
                have : arr = #[.pointer none, .slice none 0 0] := Array.ext' hl
                rw [this]
              · cases hz
            · cases hz
          simp only [Bool.and_eq_true] at hz
          obtain ⟨⟨⟨ha, hb⟩, hc⟩, hd⟩ := hz
          refine .inr ⟨z, rfl, ha, Nat.eq_of_beq_eq_true hb, hc, ?_⟩
          split at hd
          · split at hd
            · simp_all
            · cases hd
          · split at hd
            · simp_all
            · cases hd
          · exact hd
  · split at h2
    case h_1 k k' hk hu => simp only [hk]; rw [hu, of_decide_eq_true h2]
    case h_2 hk hu => simp only [hk]; exact hu
    case h_3 hk hu => simp only [hk]; exact hu
    case h_4 e e' hk hu =>
      simp only [hk]
      simp only [Bool.and_eq_true] at h2
      have he := Nat.eq_of_beq_eq_true h2.1
      subst he
      exact ⟨hu, h2.2⟩
    case h_5 fs fields hk hu =>
      simp only [hk]
      simp only [Bool.and_eq_true, decide_eq_true_eq, List.all_eq_true, Bool.not_eq_true', beq_eq_false_iff_ne, Bool.not_eq_eq_eq_not, Bool.not_true] at h2
      obtain ⟨⟨⟨⟨ha, hb⟩, hc⟩, hd⟩, he⟩ := h2
      refine ⟨by simpa using he, fields, hu, ha, fun f hf => ⟨(hb f hf).1, by have := (hb f hf).2; simp [Nat.blt] at this; omega⟩, hc, hd⟩
    case h_6 n e n' e' hk hu =>
      simp only [hk]
      simp only [Bool.and_eq_true, Bool.not_eq_true', Bool.not_eq_eq_eq_not, Bool.not_true] at h2
      obtain ⟨⟨⟨ha, hb⟩, hd⟩, hc⟩ := h2
      have h1 := Nat.eq_of_beq_eq_true ha; have h3 := Nat.eq_of_beq_eq_true hb
      subst h1; subst h3
      exact ⟨hu, hd, hc⟩
    case h_7 e e' hk hu => simp only [hk]; rw [hu, Nat.eq_of_beq_eq_true h2]
    case h_8 hk hu => simp only [hk]; exact ⟨_, _, _, hu⟩
    case h_9 hk hu => simp only [hk]; exact ⟨_, hu⟩
    case h_10 hk hu => simp only [hk]; exact ⟨_, hu⟩
    case h_11 hk => simp only [hk]
    case h_12 => cases h2

def WellT (P : Program) (T : List TI) : Prop := ∀ t i, nth T t = some i → TyOk P T t i
def wellB (P : Program) (T : List TI) : List TI → Nat → Bool
  | [], _ => true
  | i :: r, t => tyOkB P T t i && wellB P T r (t + 1)
theorem wellT_of_B {P : Program} {T : List TI} (h : wellB P T T 0 = true) : WellT P T := by
  have key : ∀ (L : List TI) (k : Nat), wellB P T L k = true → ∀ t i, nth L t = some i → TyOk P T (k + t) i := by
    intro L
    induction L with
    | nil => intro k _ t i h; simp [nth] at h
    | cons x r ih =>
      intro k hk t i h
      simp only [wellB, Bool.and_eq_true] at hk
      cases t with
      | zero => simp only [nth, Option.some.injEq] at h; subst h; exact tyOk_of_B hk.1
      | succ t => have := ih (k + 1) hk.2 t i h; rwa [show k + 1 + t = k + (t + 1) by omega] at this
  intro t i hi
  simpa using key T 0 h t i hi

end Go.Proofs.YtmbhohnoolflbaaDoorX
