/-
  UNIFORMITY: an operation that only hands back a value finds it without a look at what comes behind.
-/
import Derived.Test.YtmbhohnoolflbaaDoorXExec
set_option linter.unusedVariables false
set_option linter.unusedSimpArgs false
namespace Go.Proofs.YtmbhohnoolflbaaDoorX

def Uni {α : Type} (F : (α → R) → R) : Prop := ∀ κ r, F κ = some r → ∃ a, κ a = some r ∧ ∀ κ' r', κ' a = some r' → F κ' = some r'

section
variable {α β : Type}
theorem uni_none : Uni (fun _ : α → R => Option.none) := fun κ r h => by cases h
theorem uni_ret (a : α) : Uni (fun κ : α → R => κ a) := fun κ r h => ⟨a, h, fun κ' r' h' => h'⟩
theorem uni_asI {k : IntKind} {x : AV} {G : Int → (α → R) → R} (h : ∀ n, Uni (G n)) : Uni (fun κ => asI k x fun n => G n κ) := fun κ r hk => by
  obtain ⟨n, rfl, h1⟩ := asI_inv hk
  obtain ⟨a, h2, h3⟩ := h n κ r h1
  exact ⟨a, h2, fun κ' r' h' => by simpa [YtmbhohnoolflbaaDoorX.asI] using h3 κ' r' h'⟩
theorem uni_asIk {x : AV} {G : IntKind → Int → (α → R) → R} (h : ∀ k n, Uni (G k n)) : Uni (fun κ => asIk x fun k n => G k n κ) := fun κ r hk => by
  obtain ⟨k, n, rfl, h1⟩ := asIk_inv hk
  obtain ⟨a, h2, h3⟩ := h k n κ r h1
  exact ⟨a, h2, fun κ' r' h' => by simpa [YtmbhohnoolflbaaDoorX.asIk] using h3 κ' r' h'⟩
theorem uni_asB {x : AV} {G : Bool → (α → R) → R} (h : ∀ n, Uni (G n)) : Uni (fun κ => asB x fun n => G n κ) := fun κ r hk => by
  obtain ⟨n, rfl, h1⟩ := asB_inv hk
  obtain ⟨a, h2, h3⟩ := h n κ r h1
  exact ⟨a, h2, fun κ' r' h' => by simpa [YtmbhohnoolflbaaDoorX.asB] using h3 κ' r' h'⟩
theorem uni_asS {x : AV} {G : List UInt8 → (α → R) → R} (h : ∀ n, Uni (G n)) : Uni (fun κ => asS x fun n => G n κ) := fun κ r hk => by
  obtain ⟨n, rfl, h1⟩ := asS_inv hk
  obtain ⟨a, h2, h3⟩ := h n κ r h1
  exact ⟨a, h2, fun κ' r' h' => by simpa [YtmbhohnoolflbaaDoorX.asS] using h3 κ' r' h'⟩
theorem uni_asL {x : AV} {G : Nat → List (List D) → Fl → (α → R) → R} (h : ∀ a b c, Uni (G a b c)) : Uni (fun κ => asL x fun a b c => G a b c κ) := fun κ r hk => by
  obtain ⟨n, es, fl, rfl, h1⟩ := asL_inv hk
  obtain ⟨a, h2, h3⟩ := h n es fl κ r h1
  exact ⟨a, h2, fun κ' r' h' => by simpa [YtmbhohnoolflbaaDoorX.asL] using h3 κ' r' h'⟩
theorem uni_asG {x : AV} {G : List C → (α → R) → R} (h : ∀ n, Uni (G n)) : Uni (fun κ => asG x fun n => G n κ) := fun κ r hk => by
  obtain ⟨n, rfl, h1⟩ := asG_inv hk
  obtain ⟨a, h2, h3⟩ := h n κ r h1
  exact ⟨a, h2, fun κ' r' h' => by simpa [YtmbhohnoolflbaaDoorX.asG] using h3 κ' r' h'⟩
theorem uni_asV {x : AV} {G : V → (α → R) → R} (h : ∀ n, Uni (G n)) : Uni (fun κ => asV x fun n => G n κ) := fun κ r hk => by
  obtain ⟨n, rfl, h1⟩ := asV_inv hk
  obtain ⟨a, h2, h3⟩ := h n κ r h1
  exact ⟨a, h2, fun κ' r' h' => by simpa [YtmbhohnoolflbaaDoorX.asV] using h3 κ' r' h'⟩
theorem uni_onO {o : Option β} {G : β → (α → R) → R} (h : ∀ n, Uni (G n)) : Uni (fun κ => onO o fun n => G n κ) := fun κ r hk => by
  obtain ⟨n, rfl, h1⟩ := onO_inv hk
  obtain ⟨a, h2, h3⟩ := h n κ r h1
  exact ⟨a, h2, fun κ' r' h' => by simpa [YtmbhohnoolflbaaDoorX.onO] using h3 κ' r' h'⟩
theorem uni_ty {E : Cfg} {t : TypeId} {G : TI → (α → R) → R} (h : ∀ n, Uni (G n)) : Uni (fun κ => ty E t fun n => G n κ) := uni_onO h
theorem uni_chk {b : Bool} {G : (α → R) → R} (h : Uni G) : Uni (fun κ => chk b (G κ)) := fun κ r hk => by
  obtain ⟨rfl, h1⟩ := chk_inv hk
  obtain ⟨a, h2, h3⟩ := h κ r h1
  exact ⟨a, h2, fun κ' r' h' => by simpa [YtmbhohnoolflbaaDoorX.chk] using h3 κ' r' h'⟩
theorem uni_cnd {b : Bool} {F G : (α → R) → R} (h : Uni F) (h' : Uni G) : Uni (fun κ => bif b then F κ else G κ) := by cases b <;> assumption
theorem uni_cut {l : List β} {n off : Nat} {G : List β → (α → R) → R} (h : ∀ n, Uni (G n)) : Uni (fun κ => cut n l off fun n => G n κ) := uni_chk (h _)
theorem uni_paste {n off : Nat} {l l' : List C} {G : List C → (α → R) → R} (h : ∀ n, Uni (G n)) : Uni (fun κ => paste n l off l' fun n => G n κ) := uni_chk (h _)
theorem uni_elAt {l : List (List D)} {i : Int} {G : List D → (α → R) → R} (h : ∀ n, Uni (G n)) : Uni (fun κ => elAt l i fun n => G n κ) := uni_chk (h _)
theorem uni_chAt {l : List UInt8} {i : Int} {G : Int → (α → R) → R} (h : ∀ n, Uni (G n)) : Uni (fun κ => chAt l i fun n => G n κ) := uni_chk (h _)
theorem uni_cutL {l : List β} {i j : Int} {G : List β → (α → R) → R} (h : ∀ n, Uni (G n)) : Uni (fun κ => cutL l i j fun n => G n κ) := uni_chk (h _)
theorem uni_viewC {E : Cfg} {k : TK} {x : C} {G : C → (α → R) → R} (h : ∀ n, Uni (G n)) : Uni (fun κ => viewC E k x fun n => G n κ) := by
  cases k <;> simp only [YtmbhohnoolflbaaDoorX.viewC]
  case int k => split <;> first | exact uni_none | (split <;> first | exact uni_none | exact h _)
  case slice e => split <;> first | exact uni_none | exact uni_chk (h _)
  all_goals first | exact uni_none | (split <;> first | exact uni_none | exact h _)
theorem uni_viewV {E : Cfg} {k : TK} {x : V} {G : V → (α → R) → R} (h : ∀ n, Uni (G n)) : Uni (fun κ => viewV E k x fun n => G n κ) := by
  cases k <;> simp only [YtmbhohnoolflbaaDoorX.viewV] <;> (split <;> first | exact uni_none | exact h _ | exact uni_viewC (G := fun y κ => G (.c y) κ) fun n => h _)
theorem uni_orI {n : Nat} {x : Option AV} {G : Int → (α → R) → R} (h : ∀ n, Uni (G n)) : Uni (fun κ => orI n x fun n => G n κ) := by
  cases x <;> simp only [YtmbhohnoolflbaaDoorX.orI]
  · exact h _
  · exact uni_asI h
theorem uni_cellsD {x : V} {G : List D → (α → R) → R} (h : ∀ n, Uni (G n)) : Uni (fun κ => cellsD x fun n => G n κ) := by
  cases x <;> simp only [YtmbhohnoolflbaaDoorX.cellsD]
  · exact uni_onO fun d => h _
  · exact uni_onO h
theorem uni_one1 {x : List V} {G : V → (α → R) → R} (h : ∀ n, Uni (G n)) : Uni (fun κ => one1 x fun n => G n κ) := by
  unfold YtmbhohnoolflbaaDoorX.one1
  split
  · exact h _
  · exact uni_none
end

theorem uni_cp {x : AV} : Uni (fun κ => cp x κ) := by
  unfold YtmbhohnoolflbaaDoorX.cp; split
  · exact uni_none
  · exact uni_ret _
theorem uni_ldB {E : Cfg} {i : TI} {cs : List C} {off : Nat} : Uni (fun κ => ldB E i cs off κ) := by
  unfold YtmbhohnoolflbaaDoorX.ldB
  split
  · exact uni_chk (uni_cut fun l => uni_ret _)
  · exact uni_chk (uni_cut fun l => uni_ret _)
  · exact uni_onO fun c => uni_viewC fun c => uni_ret _
theorem uni_ldD {E : Cfg} {i : TI} {cs : List D} {off : Nat} : Uni (fun κ => ldD E i cs off κ) := by
  unfold YtmbhohnoolflbaaDoorX.ldD
  split
  · exact uni_cut fun l => uni_ret _
  · exact uni_cut fun l => uni_ret _
  · exact uni_onO fun c => uni_viewC fun c => uni_ret _

section
variable {α : Type}
theorem uni_eqC {k : TK} {x y : C} {G : Bool → (α → R) → R} (h : ∀ n, Uni (G n)) : Uni (fun κ => eqC k x y fun n => G n κ) := by
  unfold YtmbhohnoolflbaaDoorX.eqC
  split
  · exact uni_asI fun a => uni_asI fun b => h _
  · exact uni_asB fun a => uni_asB fun b => h _
  · exact uni_asS fun a => uni_asS fun b => h _
  · exact uni_none
theorem uni_eqRow {k : TK} : ∀ {xs ys : List C} {G : Bool → (α → R) → R}, (∀ n, Uni (G n)) → Uni (fun κ => eqRow k xs ys fun n => G n κ)
  | [], [], G, h => h _
  | [], _ :: _, G, h => uni_none
  | _ :: _, [], G, h => uni_none
  | x :: xs, y :: ys, G, h => uni_eqC fun a => uni_eqRow (G := fun b κ => G (a && b) κ) fun b => h _
theorem uni_eqFs {E : Cfg} : ∀ {fs : List (Nat × TypeId)} {xs ys : List C} {G : Bool → (α → R) → R}, (∀ n, Uni (G n)) → Uni (fun κ => eqFs E fs xs ys fun n => G n κ)
  | [], _, _, G, h => h _
  | (o, t) :: r, xs, ys, G, h => uni_ty fun i => uni_onO fun x => uni_onO fun y => uni_eqC fun a => uni_eqFs (G := fun b κ => G (a && b) κ) fun b => h _
theorem uni_eqA {E : Cfg} {i : TI} {x y : AV} {G : Bool → (α → R) → R} (h : ∀ n, Uni (G n)) : Uni (fun κ => eqA E i x y fun n => G n κ) := by
  unfold YtmbhohnoolflbaaDoorX.eqA
  split
  · exact uni_asV fun x => uni_asV fun y => by split <;> first | exact uni_none | exact uni_eqC h
  · exact uni_asV fun x => uni_asV fun y => by split <;> first | exact uni_none | exact uni_eqC h
  · exact uni_asV fun x => uni_asV fun y => by split <;> first | exact uni_none | exact uni_eqC h
  · exact uni_ty fun j => uni_asG fun xs => uni_asG fun ys => uni_chk (uni_eqRow h)
  · exact uni_asG fun xs => uni_asG fun ys => uni_eqFs h
  · exact uni_none
end

theorem uni_intA {op : BinOp} {k : IntKind} {a b : Int} : Uni (fun κ => intA op k a b κ) := by
  cases op <;> simp only [YtmbhohnoolflbaaDoorX.intA] <;> first | exact uni_ret _ | exact uni_chk (uni_ret _) | exact uni_none
theorem uni_shiftA {op : BinOp} {k : IntKind} {a b : Int} : Uni (fun κ => shiftA op k a b κ) := by
  cases op <;> simp only [YtmbhohnoolflbaaDoorX.shiftA] <;> first | exact uni_chk (uni_ret _) | exact uni_none
theorem uni_strA {op : BinOp} {a b : List UInt8} : Uni (fun κ => strA op a b κ) := by
  cases op <;> simp only [YtmbhohnoolflbaaDoorX.strA] <;> first | exact uni_ret _ | exact uni_chk (uni_ret _) | exact uni_none
theorem uni_eqB {E : Cfg} {op : BinOp} {i : TI} {x y : AV} : Uni (fun κ => eqB E op i x y κ) := by
  cases op <;> simp only [YtmbhohnoolflbaaDoorX.eqB] <;> first | exact uni_eqA fun b => uni_ret _ | exact uni_none
theorem uni_binA {E : Cfg} {op : BinOp} {t : TypeId} {x y : AV} : Uni (fun κ => binA E op t x y κ) := by
  have g : ∀ op, Uni (fun κ => ty E t fun i => match i.k with
    | .int k => asI k x fun a => asI k y fun b => intA op k a b κ
    | .str => asS x fun a => asS y fun b => strA op a b κ
    | .bool | .arr _ _ | .struct _ => eqB E op i x y κ
    | _ => none) := fun op => uni_ty fun i => by
      cases hk : i.k <;> simp only <;> first | exact uni_asI fun a => uni_asI fun b => uni_intA | exact uni_asS fun a => uni_asS fun b => uni_strA | exact uni_eqB | exact uni_none
  have sh : ∀ op, Uni (fun κ => asIk x fun k a => asIk y fun _ b => shiftA op k a b κ) := fun op => uni_asIk fun k a => uni_asIk fun _ b => uni_shiftA
  cases op <;> simp only [YtmbhohnoolflbaaDoorX.binA] <;> first | exact sh _ | exact g _
theorem uni_convA {E : Cfg} {s d : TypeId} {x : AV} : Uni (fun κ => convA E s d x κ) := by
  unfold YtmbhohnoolflbaaDoorX.convA
  refine uni_ty fun i => uni_ty fun j => ?_
  split
  · exact uni_asI fun n => uni_ret _
  · exact uni_asS fun n => uni_ret _
  · refine uni_ty fun ei => ?_
    split
    · exact uni_asL fun _ es _ => uni_onO fun l => uni_ret _
    · exact uni_none
  · refine uni_ty fun ei => ?_
    split
    · exact uni_asS fun l => uni_ret _
    · exact uni_none
  · exact uni_none
theorem uni_unA {op : UnOp} {x : AV} : Uni (fun κ => unA op x κ) := by
  cases op <;> simp only [YtmbhohnoolflbaaDoorX.unA] <;> first | exact uni_asB fun b => uni_ret _ | exact uni_asIk fun k n => uni_ret _ | exact uni_none
theorem uni_fillP {place : Nat → Option (Nat × Nat)} {g : Operand → AV} : ∀ {l : List (Nat × Operand)} {cs : List C} {α : Type} {G : List C → (α → R) → R}, (∀ n, Uni (G n)) → Uni (fun κ => fillP place g l cs fun n => G n κ)
  | [], cs, _, G, h => h _
  | (i, x) :: r, cs, _, G, h => by
    simp only [YtmbhohnoolflbaaDoorX.fillP]
    refine uni_onO fun p => uni_asV fun v => ?_
    cases v with
    | c c => exact uni_chk (uni_paste fun cs => uni_fillP h)
    | agg l => exact uni_paste fun cs => uni_fillP h
theorem uni_elems {g : Operand → AV} : ∀ {l : List (Nat × Operand)} {n : Nat} {α : Type} {G : List (List D) → (α → R) → R}, (∀ n, Uni (G n)) → Uni (fun κ => elems g l n fun n => G n κ)
  | [], n, _, G, h => h _
  | (i, x) :: r, n, _, G, h => by
    simp only [YtmbhohnoolflbaaDoorX.elems]
    exact uni_chk (uni_asV fun v => uni_cellsD fun ds => uni_elems (G := fun l κ => G (ds :: l) κ) fun l => h _)
theorem uni_slA {E : Cfg} {t : TypeId} {x : AV} {lo hi : Option AV} : Uni (fun κ => slA E t x lo hi κ) := by
  unfold YtmbhohnoolflbaaDoorX.slA
  refine uni_ty fun i => ?_
  split
  · exact uni_asS fun l => uni_orI fun a => uni_orI fun b => uni_cutL fun l => uni_ret _
  · exact uni_asL fun sz es _ => uni_chk (uni_orI fun a => uni_orI fun b => uni_cutL fun l => uni_ret _)
  · exact uni_none
theorem uni_resA {E : Cfg} {t : TypeId} {vs : List V} : Uni (fun κ => resA E t vs κ) := by
  unfold YtmbhohnoolflbaaDoorX.resA
  refine uni_ty fun i => ?_
  split
  · exact uni_chk (uni_ret _)
  · exact uni_one1 fun v => uni_viewV fun v => uni_ret _

theorem uni_hOp {E : Cfg} {o : Oper} {g : Operand → AV} {mem : PRef → Option (List C)} : Uni (fun κ => hOp E o g mem κ) := by
  obtain ⟨dst, op, type, pos, after, guard⟩ := o
  cases op <;> simp only [YtmbhohnoolflbaaDoorX.hOp] <;> try exact uni_none
  case move x => exact uni_cp
  case assign x => exact uni_cp
  case pick c a b => exact uni_asB fun t => uni_cnd uni_cp uni_cp
  case build t parts =>
    refine uni_ty fun i => ?_
    split
    · exact uni_chk (uni_fillP fun cs => uni_ret _)
    · exact uni_chk (uni_fillP fun cs => uni_ret _)
    · exact uni_none
  case buildSlice t len parts =>
    refine uni_ty fun i => ?_
    split
    · exact uni_ty fun ei => uni_chk (uni_elems fun es => uni_chk (uni_ret _))
    · exact uni_none
  case load t a =>
    refine uni_ty fun i => ?_
    split
    · exact uni_onO fun cs => uni_ldB
    · exact uni_ldD
    · exact uni_none
  case nilCheck x => split <;> first | exact uni_ret _ | exact uni_none
  case binOp op t x y yt =>
    cases isNilI y with
    | true =>
      refine uni_ty fun i => ?_
      split
      · split
        · cases op <;> first | exact uni_ret _ | exact uni_none
        · cases op <;> first | exact uni_ret _ | exact uni_none
        · exact uni_none
      · exact uni_none
    | false => exact uni_binA
  case typeAssert x u t ok =>
    cases ok <;> simp only <;> try exact uni_none
    refine uni_ty fun i => ?_
    split
    · exact uni_none
    · exact uni_none
    · split
      · exact uni_chk (uni_ret _)
      · exact uni_none
  case unOp op t x => exact uni_unA
  case convert s d x => exact uni_convA
  case makeInterface t x =>
    refine uni_ty fun i => ?_
    split
    · exact uni_none
    · exact uni_none
    · exact uni_asV fun v => uni_chk (uni_ret _)
  case makeFunc fn first caps =>
    cases fn <;> simp only <;> try exact uni_none
    split
    · exact uni_onO fun ps => uni_ret _
    · exact uni_none
  case slice t x lo hi mx =>
    cases mx <;> simp only
    · exact uni_slA
    · exact uni_none
  case fieldAddr s x f =>
    refine uni_ty fun i => ?_
    split
    · refine uni_onO fun p => ?_
      split <;> first | exact uni_ret _ | exact uni_none
    · exact uni_none
  case indexAddr t x i =>
    refine uni_ty fun j => ?_
    split
    · exact uni_asL fun sz es _ => uni_chk (uni_asIk fun _ i => uni_elAt fun d => uni_ret _)
    · refine uni_ty fun _ => uni_asIk fun _ i => uni_chk ?_
      split <;> first | exact uni_ret _ | exact uni_none
    · exact uni_none
  case index t x i =>
    refine uni_ty fun j => ?_
    split
    · exact uni_asS fun l => uni_asIk fun _ i => uni_chAt fun n => uni_ret _
    · exact uni_ty fun _ => uni_asG fun cs => uni_asIk fun _ i => uni_chk (uni_onO fun c => uni_viewC fun c => uni_ret _)
    · exact uni_none
  case extract x i =>
    split
    · exact uni_chk (uni_ty fun j => uni_onO fun v => uni_viewV fun v => uni_ret _)
    · exact uni_none
  case call c =>
    obtain ⟨callee, args, tys⟩ := c
    cases callee <;> try exact uni_none
    case builtin bi =>
      cases bi <;> try exact uni_none
      case len =>
        simp only
        split
        · refine uni_ty fun i => ?_
          split
          · exact uni_asS fun l => uni_ret _
          · exact uni_asL fun _ es _ => uni_ret _
          · exact uni_none
        · exact uni_none
      case min => simp only; split <;> first | exact uni_none | exact uni_asI fun x => uni_asI fun y => uni_ret _
      case max => simp only; split <;> first | exact uni_none | exact uni_asI fun x => uni_asI fun y => uni_ret _

end Go.Proofs.YtmbhohnoolflbaaDoorX
