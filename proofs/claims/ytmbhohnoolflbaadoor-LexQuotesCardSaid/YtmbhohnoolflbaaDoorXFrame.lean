/-
  FRAMES: what an operation looks at decides what it does; all else it leaves alone.
-/
import Derived.Test.YtmbhohnoolflbaaDoorXUni
set_option linter.unusedVariables false
set_option linter.unusedSimpArgs false
namespace Go.Proofs.YtmbhohnoolflbaaDoorX

theorem elems_congr {g g' : Operand → AV} : ∀ {l : List (Nat × Operand)} {n : Nat} {κ : List (List D) → R}, (∀ x, x ∈ l.map (·.2) → g x = g' x) → elems g l n κ = elems g' l n κ
  | [], _, _, _ => rfl
  | (i, x) :: r, n, κ, h => by
    simp only [elems]
    rw [h x (by simp)]
    have : ∀ (m : Nat) (κ : List (List D) → R), elems g r m κ = elems g' r m κ := fun m κ => elems_congr fun y hy => h y (by simp at hy ⊢; exact .inr hy)
    simp only [this]
theorem fillP_congr {place : Nat → Option (Nat × Nat)} {g g' : Operand → AV} : ∀ {l : List (Nat × Operand)} {cs : List C} {κ : List C → R}, (∀ x, x ∈ l.map (·.2) → g x = g' x) → fillP place g l cs κ = fillP place g' l cs κ
  | [], _, _, _ => rfl
  | (i, x) :: r, cs, κ, h => by
    simp only [fillP]
    rw [h x (by simp)]
    have : ∀ (cs : List C) (κ : List C → R), fillP place g r cs κ = fillP place g' r cs κ := fun cs κ => fillP_congr fun y hy => h y (by simp at hy ⊢; exact .inr hy)
    simp only [this]

theorem hOp_congr {E : Cfg} {o : Oper} {g g' : Operand → AV} {mem mem' : PRef → Option (List C)} {κ : AV → R} (hg : ∀ x, x ∈ o.op.operands.toList → g' x = g x) (hm : ∀ p, p ∈ touches o g → mem' p = mem p) : hOp E o g' mem' κ = hOp E o g mem κ := by
  obtain ⟨dst, op, type, pos, after, guard⟩ := o
  cases op <;> simp only [Op.operands] at hg <;> simp only [hOp] <;> try rfl
  case move x => rw [hg x (by simp)]
  case assign x => rw [hg x (by simp)]
  case pick c a b => rw [hg c (by simp), hg a (by simp), hg b (by simp)]
  case build t parts =>
    have h : ∀ pl cs κ, fillP pl g' parts.toList cs κ = fillP pl g parts.toList cs κ := fun pl cs κ => fillP_congr fun x hx => hg x (by simpa using hx)
    simp only [h]
  case buildSlice t len parts =>
    have h : ∀ n κ, elems g' parts.toList n κ = elems g parts.toList n κ := fun n κ => elems_congr fun x hx => hg x (by simpa using hx)
    simp only [h]
  case load t a =>
    rw [hg a (by simp)]
    congr 1
    funext i
    split
    · rename_i p off he
      rw [hm p (by simp [touches, he, ptrsA, ptrsV, ptrsC])]
    · rfl
    · rfl
  case nilCheck x => rw [hg x (by simp)]
  case binOp op t x y yt => rw [hg x (by simp), hg y (by simp)]
  case unOp op t x => rw [hg x (by simp)]
  case convert s d x => rw [hg x (by simp)]
  case makeInterface t x => rw [hg x (by simp)]
  case typeAssert x u t ok => cases ok <;> simp only; rw [hg x (by simp)]
  case makeFunc fn first caps =>
    cases fn <;> simp only
    have h : caps.toList.map g' = caps.toList.map g := List.map_congr_left fun x hx => hg x (by simp at hx ⊢; exact .inr hx)
    rw [h]
  case slice t x lo hi mx =>
    cases mx <;> simp only
    have h1 : lo.map g' = lo.map g := by cases lo with
      | none => rfl
      | some y => simp only [Option.map_some]; rw [hg y (by simp)]
    have h2 : hi.map g' = hi.map g := by cases hi with
      | none => rfl
      | some y => simp only [Option.map_some]; rw [hg y (by simp)]
    rw [h1, h2, hg x (by simp)]
  case fieldAddr s x f => rw [hg x (by simp)]
  case indexAddr t x i => rw [hg x (by simp), hg i (by simp)]
  case index t x i => rw [hg x (by simp), hg i (by simp)]
  case extract x i => rw [hg x (by simp)]
  case call c =>
    obtain ⟨callee, args, tys⟩ := c
    cases callee <;> try rfl
    case builtin bi =>
      have ha : ∀ x, x ∈ args.toList → g' x = g x := fun x hx => hg x (by simp [Call.operands]; simpa using hx)
      cases bi <;> try rfl
      case len =>
        simp only
        split
        · rename_i x t ts he hts; rw [ha x (by simp [he])]
        · rfl
      case min =>
        simp only
        split
        · rename_i x y he; rw [ha x (by simp [he]), ha y (by simp [he])]
        · rfl
      case max =>
        simp only
        split
        · rename_i x y he; rw [ha x (by simp [he]), ha y (by simp [he])]
        · rfl

def Wr (a : Ann) : List Nat := a.o.dst.toList ++ (if a.m then takesOf a.o else [])
def TM (a : Ann) : List PRef := if a.m then a.T else []
/-- Nothing but these temporaries and boxes has changed. -/
structure Chg (W : List Nat) (T : List PRef) (s s' : St) : Prop where
  env : ∀ n, n ∉ W → getE s'.env n = getE s.env n
  box : ∀ p, p ∉ T → s'.box p = s.box p
  dfr : s'.dfr = s.dfr
structure Agr (R : List Nat) (T : List PRef) (s t : St) : Prop where
  env : ∀ n, n ∈ R → getE t.env n = getE s.env n
  box : ∀ p, p ∈ T → t.box p = s.box p
  dfr : t.dfr = s.dfr
structure Tr (W : List Nat) (T : List PRef) (s' t t' : St) : Prop where
  env : ∀ n, n ∈ W → getE t'.env n = getE s'.env n
  box : ∀ p, p ∈ T → t'.box p = s'.box p
  chg : Chg W T t t'

theorem Chg.refl (W : List Nat) (T : List PRef) (s : St) : Chg W T s s := ⟨fun _ _ => rfl, fun _ _ => rfl, rfl⟩
theorem ev_agr {R : List Nat} {T : List PRef} {s t : St} (h : Agr R T s t) {x : Operand} (hx : ∀ n, n ∈ tmpOf x → n ∈ R) : ev t.env x = ev s.env x := by
  cases x <;> try rfl
  case tmp n => exact h.env n (hx n (by simp [tmpOf]))

theorem take_frame {s : St} {x : Operand} {κ : AV → St → R} {r : Res} (h : take s x κ = some r) : ∃ (v : AV) (F : St → St), κ v (F s) = some r ∧ Chg (tmpOf x) [] s (F s) ∧
    ∀ t, (∀ n, n ∈ tmpOf x → getE t.env n = getE s.env n) → (∀ κ' : AV → St → R, take t x κ' = κ' v (F t)) ∧ Tr (tmpOf x) [] (F s) t (F t) := by
  unfold take at h
  split at h
  · rename_i n
    have upd : ∀ (u : St) (y : AV), Chg [n] [] u { u with env := setE u.env n y } := fun u y => ⟨fun m hm => by simp only [getE_setE]; rw [if_neg (by simpa using hm)], fun p _ => by cases p <;> rfl, rfl⟩
    have tr : ∀ (t : St) (y : AV), Tr [n] [] { s with env := setE s.env n y } t { t with env := setE t.env n y } := fun t y => ⟨fun m hm => by simp only [getE_setE]; simp at hm; simp [hm], by simp, upd t y⟩
    split at h
    · rename_i sz es fl he
      refine ⟨_, fun t => { t with env := setE t.env n (.v (.c (.sl sz es .sh))) }, h, upd s _, fun t ht => ⟨fun κ' => ?_, tr t _⟩⟩
      have := ht n (by simp [tmpOf])
      simp only [take, this, he]
    · rename_i vs used he
      refine ⟨_, fun t => { t with env := setE t.env n .top }, h, upd s _, fun t ht => ⟨fun κ' => ?_, tr t _⟩⟩
      have := ht n (by simp [tmpOf])
      simp only [take, this, he]
    · rename_i h1 h2
      refine ⟨_, fun t => t, h, .refl _ _ _, fun t ht => ⟨fun κ' => ?_, ⟨ht, by simp, .refl _ _ _⟩⟩⟩
      have := ht n (by simp [tmpOf])
      simp only [take, this]
  · rename_i hne
    refine ⟨_, fun t => t, h, .refl _ _ _, fun t ht => ⟨fun κ' => ?_, ⟨ht, by simp, .refl _ _ _⟩⟩⟩
    cases x <;> first | rfl | exact absurd rfl (hne _)

/-- What is asked of an operation that changes things. -/
def MFrame (E : Cfg) (Φ : Callee) (o : Oper) (s : St) (κ : AV → St → R) (r : Res) (T : List PRef) : Prop :=
  ∃ (v : AV) (F : St → St), κ v (F s) = some r ∧ Chg (takesOf o) T s (F s) ∧
    ∀ t, Agr (o.op.operands.toList.flatMap tmpOf) T s t → (∀ (κ' : AV → St → R) r', κ' v (F t) = some r' → mOp E Φ o t κ' noneP = some r') ∧ Tr (takesOf o) T (F s) t (F t)

theorem Chg.weaken {W W' : List Nat} {T T' : List PRef} {s s' : St} (h : Chg W T s s') (hW : ∀ n, n ∈ W → n ∈ W') (hT : ∀ p, p ∈ T → p ∈ T') : Chg W' T' s s' :=
  ⟨fun n hn => h.env n (fun h => hn (hW n h)), fun p hp => h.box p (fun h => hp (hT p h)), h.dfr⟩

theorem chg_setBox (s : St) (p : PRef) (cs : List C) (W : List Nat) {T : List PRef} (hp : p ∈ T) : Chg W T s (s.setBox p cs) :=
  ⟨fun n _ => by rw [setBox_env], fun q hq => by rw [box_setBox, if_neg (fun h => hq (by rw [h.1]; exact hp))], setBox_dfr s p cs⟩
theorem Chg.trans {W : List Nat} {T : List PRef} {s s1 s2 : St} (h : Chg W T s s1) (k : Chg W T s1 s2) : Chg W T s s2 :=
  ⟨fun n hn => (k.env n hn).trans (h.env n hn), fun p hp => (k.box p hp).trans (h.box p hp), k.dfr.trans h.dfr⟩

section
variable {E : Cfg} {Φ : Callee} {o : Oper} {s : St} {κ : AV → St → R} {r : Res}

theorem frame_move {x : Operand} (ho : o.op = .move x ∨ o.op = .assign x) (h : take s x (fun v s => κ (fixT E o.type v) s) = some r) {T : List PRef} : MFrame E Φ o s κ r T := by
  have hops : o.op.operands.toList.flatMap tmpOf = tmpOf x := by rcases ho with ho | ho <;> simp [ho, Op.operands]
  have htk : takesOf o = tmpOf x := by rcases ho with ho | ho <;> simp [takesOf, ho]
  obtain ⟨v, F, h1, h2, h3⟩ := take_frame h
  refine ⟨_, F, h1, ?_, fun t ht => ?_⟩
  · rw [htk]; exact h2.weaken (fun _ h => h) (by simp)
  · rw [hops] at ht
    obtain ⟨k1, k2⟩ := h3 t ht.env
    refine ⟨fun κ' r' h' => ?_, ?_⟩
    · rcases ho with ho | ho <;> simp only [mOp, ho, k1, h']
    · rw [htk]
      exact ⟨k2.env, fun p hp => by rw [k2.chg.box p (by simp), ht.box p hp, h2.box p (by simp)], k2.chg.weaken (fun _ h => h) (by simp)⟩

theorem newLoc_frame {d : Option Nat} {b : List C} (h : newLoc s d b κ = some r) : ∃ (v : AV) (F : St → St), κ v (F s) = some r ∧ (∀ W, Chg W (locOf d) s (F s)) ∧
    ∀ t, (∀ p, p ∈ locOf d → t.box p = s.box p) → (∀ (κ' : AV → St → R) r', κ' v (F t) = some r' → newLoc t d b κ' = some r') ∧ (∀ p, p ∈ locOf d → (F t).box p = (F s).box p) ∧ (∀ W, Chg W (locOf d) t (F t)) := by
  unfold newLoc at h
  split at h
  · rename_i n
    split at h
    · rename_i hn
      have chg : ∀ (u : St) W, Chg W (locOf (some n)) u { u with loc := (n, b) :: u.loc } := fun u W => ⟨fun _ _ => rfl, fun p hp => by
        cases p with
        | out i => rfl
        | loc m =>
          have : Nat.beq n m = false := beqF (fun e => hp (by simp [locOf, e]))
          simp [St.box, assoc, this], rfl⟩
      refine ⟨_, fun t => { t with loc := (n, b) :: t.loc }, h, chg s, fun t ht => ⟨fun κ' r' h' => ?_, ?_, chg t⟩⟩
      · have := ht (.loc n) (by simp [locOf])
        simp only [St.box, hn] at this
        simp only [newLoc, this, h']
      · intro p hp
        simp [locOf] at hp
        subst hp
        simp [St.box, assoc]
    · cases h
  · cases h

theorem frame_alloc {t : TypeId} (ho : o.op = .alloc t) (h : ty E t (fun i => chk (!i.zero.isEmpty) (newLoc s o.dst i.zero κ)) = some r) : MFrame E Φ o s κ r (locOf o.dst) := by
  obtain ⟨i, hi, h1⟩ := ty_inv h
  obtain ⟨hz, h2⟩ := chk_inv h1
  obtain ⟨v, F, k1, k2, k3⟩ := newLoc_frame h2
  refine ⟨v, F, k1, k2 _, fun u hu => ?_⟩
  obtain ⟨e1, e2, e3⟩ := k3 u hu.box
  exact ⟨fun κ' r' h' => by simp [mOp, ho, ty, onO, hi, chk, hz, e1 κ' r' h'], fun n hn => by simp [takesOf, ho] at hn, e2, e3 _⟩

theorem frame_box {t : TypeId} {x : Operand} (ho : o.op = .box t x) (h : ty E t (fun i => asV (ev s.env x).share fun v => chk (Nat.beq (valCells v).length i.size && (valCells v).all noPtr) (newLoc s o.dst (valCells v) κ)) = some r) : MFrame E Φ o s κ r (locOf o.dst) := by
  obtain ⟨i, hi, h1⟩ := ty_inv h
  obtain ⟨v, hv, h2⟩ := asV_inv h1
  obtain ⟨hz, h3⟩ := chk_inv h2
  obtain ⟨u, F, k1, k2, k3⟩ := newLoc_frame h3
  refine ⟨u, F, k1, k2 _, fun t' ht => ?_⟩
  obtain ⟨e1, e2, e3⟩ := k3 t' ht.box
  have hev : ev t'.env x = ev s.env x := ev_agr ht (fun n hn => by simp [ho, Op.operands, hn])
  exact ⟨fun κ' r' h' => by simp only [mOp, ho, ty, onO, hi, hev, hv, asV, hz, chk, cond_true]; exact e1 κ' r' h', fun n hn => by simp [takesOf, ho] at hn, e2, e3 _⟩

theorem frame_store {t : TypeId} {ad x : Operand} (ho : o.op = .store t ad x)
    (h : ty E t (fun i => (match ev s.env ad with
    | .v (.c (.ptr p off)) => take s x fun v s => asV (fixT E t v) fun v => chk ((valCells v).all noPtr) (onO (s.box p) fun cs => chk (cs.all noPtr) (paste i.size cs off (valCells v) fun cs => κ .und (s.setBox p cs)))
    | _ => none)) = some r) : MFrame E Φ o s κ r (ptrsA (ev s.env ad)) := by
  obtain ⟨i, hi, h1⟩ := ty_inv h
  split at h1
  · rename_i p off he
    obtain ⟨v, F, h2, c1, h3⟩ := take_frame h1
    obtain ⟨u, hu, h4⟩ := asV_inv h2
    obtain ⟨hnp, h5⟩ := chk_inv h4
    obtain ⟨cs, hcs, h6⟩ := onO_inv h5
    obtain ⟨hcp, h7⟩ := chk_inv h6
    have h8 := h7
    obtain ⟨hl1, hl2, h9⟩ := paste_inv h8
    have hT : ptrsA (ev s.env ad) = [p] := by simp [he, ptrsA, ptrsV, ptrsC]
    have htk : takesOf o = tmpOf x := by simp [takesOf, ho]
    rw [hT]
    refine ⟨.und, fun t => (F t).setBox p (List.take off cs ++ valCells u ++ List.drop (off + i.size) cs), h9, ?_, fun t' ht => ?_⟩
    · rw [htk]; exact (c1.weaken (fun _ h => h) (by simp)).trans (chg_setBox _ _ _ _ (by simp))
    · obtain ⟨k1, k2⟩ := h3 t' (fun n hn => ht.env n (by simp [ho, Op.operands, hn]))
      have hev : ev t'.env ad = ev s.env ad := ev_agr ht (fun n hn => by simp [ho, Op.operands, hn])
      have hbox : (F t').box p = some cs := by rw [k2.chg.box p (by simp), ht.box p (by simp), ← c1.box p (by simp)]; exact hcs
      refine ⟨fun κ' r' h' => ?_, ?_⟩
      · simp only [mOp, ho, ty, onO, hi, hev, he, k1, hu, asV, hnp, chk, cond_true, hbox, hcp]
        unfold paste at h7 ⊢
        obtain ⟨hb, _⟩ := chk_inv h7
        rw [hb]
        exact h'
      · rw [htk]
        refine ⟨fun n hn => ?_, fun q hq => ?_, (k2.chg.weaken (fun _ h => h) (by simp)).trans (chg_setBox _ _ _ _ (by simp))⟩
        · rw [setBox_env, setBox_env]; exact k2.env n hn
        · simp at hq; subst hq
          rw [box_setBox, box_setBox, hbox, hcs]
  · cases h1

theorem frame_loadMove {t : TypeId} {ad : Operand} (ho : o.op = .load t ad)
    (h : ty E t (fun i => (match i.k, ev s.env ad with
    | .slice e, .v (.c (.ptr p off)) => onO (s.box p) fun cs => onO (nth cs off) fun c0 => viewC E (.slice e) c0 fun c =>
        paste 1 cs off [c0.dem] fun cs => κ (.v (.c c)) (s.setBox p cs)
    | _, _ => none)) = some r) : MFrame E Φ o s κ r (ptrsA (ev s.env ad)) := by
  obtain ⟨i, hi, h1⟩ := ty_inv h
  split at h1
  · rename_i e p off hk he
    obtain ⟨cs, hcs, h2⟩ := onO_inv h1
    obtain ⟨x, hx, h3⟩ := onO_inv h2
    obtain ⟨q, h6, h7⟩ := (uni_viewC (E := E) (k := .slice e) (x := x) (G := fun (c : C) (κ : (C × List C) → R) => paste 1 cs off [x.dem] fun cs => κ (c, cs)) (fun n => uni_paste fun cs => uni_ret _)) (fun a => κ (.v (.c a.1)) (s.setBox p a.2)) r h3
    have hT : ptrsA (ev s.env ad) = [p] := by simp [he, ptrsA, ptrsV, ptrsC]
    rw [hT]
    refine ⟨_, fun t => t.setBox p q.2, h6, chg_setBox _ _ _ _ (by simp), fun t' ht => ?_⟩
    have hev : ev t'.env ad = ev s.env ad := ev_agr ht (fun n hn => by simp [ho, Op.operands, hn])
    have hbox : t'.box p = some cs := by rw [ht.box p (by simp)]; exact hcs
    refine ⟨fun κ' r' h' => ?_, ⟨fun n hn => by simp [takesOf, ho] at hn, fun q' hq => ?_, chg_setBox _ _ _ _ (by simp)⟩⟩
    · simp only [mOp, ho, ty, onO, hi, hev, he, hk, hbox, hx]
      exact h7 (fun a => κ' (.v (.c a.1)) (t'.setBox p a.2)) r' h'
    · simp at hq; subst hq
      rw [box_setBox, box_setBox, hbox, hcs]
  · cases h1

theorem frame_extract {x : Operand} {n : Nat} (ho : o.op = .extract x n) (h : extA E s o.type x n κ = some r) {T : List PRef} : MFrame E Φ o s κ r T := by
  unfold extA at h
  cases x with
  | tmp tt =>
    simp only at h
    split at h
    · rename_i vs used he
      obtain ⟨hmu, h1⟩ := chk_inv h
      obtain ⟨j, hj, h2⟩ := ty_inv h1
      obtain ⟨v, hv, h3⟩ := onO_inv h2
      obtain ⟨q, h6, h7⟩ := (uni_viewV (E := E) (k := j.k) (x := v) (G := fun (c : V) (κ : V → R) => κ c) (fun n => uni_ret _)) (fun v => κ (.v v) { s with env := setE s.env tt (.tup vs (n :: used)) }) r h3
      have upd : ∀ (u : St) (y : AV), Chg [tt] T u { u with env := setE u.env tt y } := fun u y => ⟨fun m hm => by simp only [getE_setE]; rw [if_neg (by simpa using hm)], fun p _ => by cases p <;> rfl, rfl⟩
      have htk : takesOf o = [tt] := by simp [takesOf, ho, tmpOf]
      refine ⟨_, fun t => { t with env := setE t.env tt (.tup vs (n :: used)) }, h6, by rw [htk]; exact upd s _, fun t' ht => ?_⟩
      have hev : getE t'.env tt = .tup vs used := by rw [ht.env tt (by simp [ho, Op.operands, tmpOf])]; exact he
      refine ⟨fun κ' r' h' => ?_, ?_⟩
      · simp only [mOp, ho, extA, hev, hmu, chk, cond_true, ty, onO, hj, hv]
        exact h7 (fun v => κ' (.v v) { t' with env := setE t'.env tt (.tup vs (n :: used)) }) r' h'
      · rw [htk]
        refine ⟨fun m hm => ?_, fun p hp => ?_, upd t' _⟩
        · simp at hm; subst hm; simp [getE_setE]
        · have e1 : ∀ (u : St) (y : AV), St.box { u with env := setE u.env tt y } p = u.box p := fun u y => by cases p <;> rfl
          rw [e1, e1]; exact ht.box p hp
    · cases h
  | _ => cases h

theorem frame_append {t t' : TypeId} {x y : Operand} {as : Array Operand} {tys : Array TypeId} (ho : o.op = .call { callee := .builtin .append, args := as, argTypes := tys }) (has : as.toList = [x, y]) (hty : tys.toList = [t, t'])
    (h : chk (Nat.beq t t') (appendA E s t x y κ) = some r) {T : List PRef} : MFrame E Φ o s κ r T := by
  obtain ⟨htt, h0⟩ := chk_inv h
  have htk : takesOf o = tmpOf x := by simp [takesOf, ho, has]
  unfold appendA at h0
  obtain ⟨i, hi, h1⟩ := ty_inv h0
  cases hk : i.k <;> simp only [hk, reduceCtorEq] at h1
  case slice e =>
    obtain ⟨ei, hei, h2⟩ := ty_inv h1
    obtain ⟨v, F, h3, c1, h4⟩ := take_frame h2
    obtain ⟨sz, es, fl, hv, h5⟩ := asL_inv h3
    obtain ⟨sz2, es2, fl2, hv2, h6⟩ := asL_inv h5
    obtain ⟨hc1, h7⟩ := chk_inv h6
    obtain ⟨hc2, h8⟩ := chk_inv h7
    refine ⟨_, F, h8, by rw [htk]; exact c1.weaken (fun _ h => h) (by simp), fun u hu => ?_⟩
    have hin : ∀ z, z = x ∨ z = y → ∀ n, n ∈ tmpOf z → n ∈ o.op.operands.toList.flatMap tmpOf := by
      intro z hz n hn
      refine List.mem_flatMap.2 ⟨z, ?_, hn⟩
      simp only [ho, Op.operands, Call.operands]
      have : z ∈ as.toList := by rw [has]; simpa using hz
      simpa using this
    obtain ⟨k1, k2⟩ := h4 u (fun n hn => hu.env n (hin x (.inl rfl) n hn))
    have hev : ev (F u).env y = ev (F s).env y := by
      cases y <;> try rfl
      case tmp m =>
        show getE (F u).env m = getE (F s).env m
        by_cases hm : m ∈ tmpOf x
        · exact k2.env m hm
        · rw [k2.chg.env m hm, c1.env m hm]; exact hu.env m (hin _ (.inr rfl) m (by simp [tmpOf]))
    refine ⟨fun κ' r' h' => ?_, ?_⟩
    · simp only [mOp, ho, has, hty, htt, chk, cond_true, appendA, ty, onO, hi, hk, hei, k1, hv, asL, hev, hv2, hc1, hc2, h']
    · rw [htk]
      exact ⟨k2.env, fun p hp => by rw [k2.chg.box p (by simp), hu.box p hp, c1.box p (by simp)], k2.chg.weaken (fun _ h => h) (by simp)⟩

theorem boxesOf_agr {t : St} : ∀ {ps : List PRef}, (∀ p, p ∈ ps → t.box p = s.box p) → boxesOf t ps = boxesOf s ps
  | [], _ => rfl
  | p :: r, h => by simp only [boxesOf, h p (by simp), boxesOf_agr (ps := r) fun q hq => h q (by simp [hq])]

theorem dedupP_sub : ∀ (l acc : List PRef) (p : PRef), p ∈ dedupP l acc → p ∈ l ∨ p ∈ acc
  | [], acc, p, h => by simp [dedupP] at h; exact .inr h
  | q :: r, acc, p, h => by
    simp only [dedupP] at h
    split at h
    · exact (dedupP_sub r acc p h).imp (fun h => by simp [h]) id
    · rcases dedupP_sub r (q :: acc) p h with h | h
      · exact .inl (by simp [h])
      · rcases List.mem_cons.1 h with h | h
        · exact .inl (by simp [h])
        · exact .inr h
theorem ptrsA_share (x : AV) : ptrsA x.share = ptrsA x := by
  cases x <;> try rfl
  case v x => cases x <;> try rfl
              case c x => cases x <;> rfl

theorem frame_call {f : Operand} {as : Array Operand} {tys : Array TypeId} (ho : o.op = .call { callee := .value f, args := as, argTypes := tys })
    (h : callA E Φ s o.type (ev s.env f) ((as.toList.map (ev s.env)).map AV.share) κ noneP = some r) : MFrame E Φ o s κ r (touches o (ev s.env)) := by
  have h0 := h
  unfold callA at h
  split at h
  · rename_i fid caps hf
    obtain ⟨vs, hvs, h1⟩ := onO_inv h
    obtain ⟨bs, hbs, h2⟩ := onO_inv h1
    generalize hps : dedupP ((List.map AV.share (List.map (ev s.env) as.toList) ++ List.map (fun p => AV.v (V.c (C.ptr p 0))) caps).flatMap ptrsA) [] = ps at hvs hbs h2
    have hn : ps.Nodup := by rw [← hps]; exact dedupP_nodup _ _ .nil
    have hsub : ∀ p, p ∈ ps → p ∈ touches o (ev s.env) := by
      intro p hp
      rw [← hps] at hp
      rcases dedupP_sub _ _ _ hp with hp | hp
      · obtain ⟨z, hz, hpz⟩ := List.mem_flatMap.1 hp
        simp only [touches, ho, hf]
        rcases List.mem_append.1 hz with hz | hz
        · obtain ⟨z1, hz1, rfl⟩ := List.mem_map.1 hz
          obtain ⟨z2, hz2, rfl⟩ := List.mem_map.1 hz1
          rw [ptrsA_share] at hpz
          exact List.mem_append.2 (.inr (List.mem_flatMap.2 ⟨z2, hz2, hpz⟩))
        · obtain ⟨z1, hz1, rfl⟩ := List.mem_map.1 hz
          simp [ptrsA, ptrsV, ptrsC] at hpz
          subst hpz
          exact List.mem_append.2 (.inl (by simpa [ptrsA, ptrsV, ptrsC] using hz1))
      · simp at hp
    have hres : ∃ rs bs', Φ fid vs bs = some (.ret rs bs') ∧ Nat.beq bs'.length ps.length = true ∧ resA E o.type rs (fun v => κ v (putBoxes s ps bs' 0)) = some r := by
      cases hq : Φ fid vs bs with
      | none => rw [hq] at h2; simp [onRes] at h2
      | some q =>
        rw [hq] at h2
        cases q with
        | ret rs bs' => obtain ⟨h3, h4⟩ := chk_inv h2; exact ⟨rs, bs', rfl, h3, h4⟩
        | pan t x bs' => obtain ⟨h3, h4⟩ := chk_inv h2; cases h4
    obtain ⟨rs, bs', hq, hlen, h3⟩ := hres
    obtain ⟨v, h4, h5⟩ := uni_resA _ r h3
    obtain ⟨_, hget⟩ := boxesOf_get hbs
    have hsome : ∀ p, p ∈ ps → (s.box p).isSome = true := fun p hp => by
      obtain ⟨i, hi⟩ := List.getElem?_of_mem hp
      obtain ⟨cs, _, h2⟩ := hget i p hi
      simp [h2]
    have chg : ∀ (u : St), (∀ p, p ∈ ps → (u.box p).isSome = true) → ∀ W, Chg W (touches o (ev s.env)) u (putBoxes u ps bs' 0) := fun u hu W => by
      obtain ⟨e1, e2⟩ := putBoxes_env ps bs' u 0
      refine ⟨fun n _ => by rw [e1], fun p hp => ?_, e2⟩
      rw [putBoxes_box hn hu]
      cases hx : ixP ps p 0 with
      | none => rfl
      | some i => obtain ⟨j, _, hg⟩ := ixP_some hx; exact absurd (hsub p (List.mem_of_getElem? hg)) hp
    refine ⟨v, fun t => putBoxes t ps bs' 0, h4, chg s hsome _, fun t' ht => ?_⟩
    have hin : ∀ z, z = f ∨ z ∈ as.toList → ∀ n, n ∈ tmpOf z → n ∈ o.op.operands.toList.flatMap tmpOf := by
      intro z hz n hn
      refine List.mem_flatMap.2 ⟨z, ?_, hn⟩
      simp only [ho, Op.operands, Call.operands]
      rcases hz with hz | hz
      · simp [hz]
      · simp; exact .inr (by simpa using hz)
    have hevf : ev t'.env f = ev s.env f := ev_agr ht (hin f (.inl rfl))
    have heva : as.toList.map (ev t'.env) = as.toList.map (ev s.env) := List.map_congr_left fun z hz => ev_agr ht (hin z (.inr hz))
    have hbs' : boxesOf t' ps = some bs := by rw [boxesOf_agr fun p hp => ht.box p (hsub p hp)]; exact hbs
    have hsome' : ∀ p, p ∈ ps → (t'.box p).isSome = true := fun p hp => by rw [ht.box p (hsub p hp)]; exact hsome p hp
    refine ⟨fun κ' r' h' => ?_, ⟨fun n hn => by simp [takesOf, ho] at hn, fun p hp => ?_, chg t' hsome' _⟩⟩
    · simp only [mOp, ho, hevf, heva, callA, hf, hps, hvs, onO, hbs', hq, onRes, hlen, chk, cond_true]
      exact h5 (fun v => κ' v (putBoxes t' ps bs' 0)) r' h'
    · rw [putBoxes_box hn hsome, putBoxes_box hn hsome']
      cases hx : ixP ps p 0 with
      | some i => rfl
      | none => exact ht.box p hp
  · cases h

theorem touches_congr {g g' : Operand → AV} (hg : ∀ x, x ∈ o.op.operands.toList → g' x = g x) : touches o g' = touches o g := by
  obtain ⟨dst, op, type, pos, after, guard⟩ := o
  cases op <;> simp only [Op.operands] at hg <;> simp only [touches]
  case load t a => rw [hg a (by simp)]
  case store t a x => rw [hg a (by simp)]
  case call c =>
    obtain ⟨callee, args, tys⟩ := c
    cases callee <;> try rfl
    case value f =>
      simp only
      rw [hg f (by simp [Call.operands])]
      congr 1
      have : ∀ l : List Operand, (∀ x, x ∈ l → g' x = g x) → (l.flatMap fun x => ptrsA (g' x)) = l.flatMap fun x => ptrsA (g x) := by
        intro l
        induction l with
        | nil => intro _; rfl
        | cons y l ih => intro h; simp only [List.flatMap_cons]; rw [h y (by simp), ih fun x hx => h x (by simp [hx])]
      exact this _ fun x hx => hg x (by simp [Call.operands]; exact .inr (by simpa using hx))
theorem isM_congr {g g' : Operand → AV} {ops : List Oper} (hg : ∀ x, x ∈ o.op.operands.toList → g' x = g x) : isM o g' ops = isM o g ops := by
  obtain ⟨dst, op, type, pos, after, guard⟩ := o
  cases op <;> simp only [Op.operands] at hg <;> simp only [isM]
  case move x => rw [hg x (by simp)]
  case assign x => rw [hg x (by simp)]
  case load t a => rw [hg a (by simp)]
  case extract x i => rw [hg x (by simp)]
  case call c =>
    obtain ⟨callee, args, tys⟩ := c
    cases callee <;> try rfl
    case builtin bi => cases bi <;> rfl

theorem put_chg (s : St) (d : Option Nat) (v : AV) (T : List PRef) : Chg d.toList T s (s.put d v) := by
  cases d with
  | none => exact .refl _ _ _
  | some n => exact ⟨fun m hm => by simp only [St.put, getE_setE]; rw [if_neg (by simpa using hm)], fun p _ => by cases p <;> rfl, rfl⟩
theorem put_dst (s : St) (d : Option Nat) (v : AV) {n : Nat} (hn : n ∈ d.toList) : getE (s.put d v).env n = v := by
  cases d with
  | none => simp at hn
  | some m => simp at hn; subst hn; simp [St.put, getE_setE]
theorem put_ne (s : St) (d : Option Nat) (v : AV) {n : Nat} (hn : n ∉ d.toList) : getE (s.put d v).env n = getE s.env n := (put_chg s d v []).env n hn

set_option maxHeartbeats 2000000 in
theorem opStep_frame {ops : List Oper} {κ : St → R} (h : opStep E Φ ops o s κ noneP = some r) (hdf : isDefer o = false) :
    ∃ F : St → St, κ (F s) = some r ∧ Chg (Wr (annOf ops o s)) (TM (annOf ops o s)) s (F s) ∧
      ∀ t, Agr (o.op.operands.toList.flatMap tmpOf) (touches o (ev s.env)) s t → (∀ (κ' : St → R) r', κ' (F t) = some r' → opStep E Φ ops o t κ' noneP = some r') ∧ Tr (Wr (annOf ops o s)) (TM (annOf ops o s)) (F s) t (F t) := by
  have hevs : ∀ t, Agr (o.op.operands.toList.flatMap tmpOf) (touches o (ev s.env)) s t → ∀ x, x ∈ o.op.operands.toList → ev t.env x = ev s.env x := fun t ht x hx => ev_agr ht (fun n hn => List.mem_flatMap.2 ⟨x, hx, hn⟩)
  unfold opStep at h
  cases hm : isM o (ev s.env) ops with
  | false =>
    rw [hm] at h
    simp only [cond_false] at h
    obtain ⟨v, h1, h2⟩ := uni_hOp (fun v => κ (s.put o.dst v)) r h
    have hW : Wr (annOf ops o s) = o.dst.toList := by simp [Wr, annOf, hm]
    have hT : TM (annOf ops o s) = [] := by simp [TM, annOf, hm]
    rw [hW, hT]
    refine ⟨fun t => t.put o.dst v, h1, put_chg s o.dst v [], fun t ht => ⟨fun κ' r' h' => ?_, ⟨fun n hn => by rw [put_dst _ _ _ hn, put_dst _ _ _ hn], by simp, put_chg t o.dst v []⟩⟩⟩
    unfold opStep
    rw [isM_congr (hevs t ht), hm]
    simp only [cond_false]
    rw [hOp_congr (hevs t ht) ht.box]
    exact h2 (fun v => κ' (t.put o.dst v)) r' h'
  | true =>
    rw [hm] at h
    simp only [cond_true] at h
    have key : MFrame E Φ o s (fun v s => κ (s.put o.dst v)) r (touches o (ev s.env)) := by
      unfold mOp at h
      split at h
      · rename_i t ho; have := frame_alloc (Φ := Φ) ho h; simpa [touches, ho] using this
      · rename_i t x ho; have := frame_box (Φ := Φ) ho h; simpa [touches, ho] using this
      · rename_i t ad x ho; have := frame_store (E := E) (s := s) (κ := fun v s => κ (s.put o.dst v)) (r := r) (Φ := Φ) ho h; simpa [touches, ho] using this
      · rename_i x ho; exact frame_move (.inl ho) h
      · rename_i x ho; exact frame_move (.inr ho) h
      · rename_i t ad ho; have := frame_loadMove (E := E) (s := s) (κ := fun v s => κ (s.put o.dst v)) (r := r) (Φ := Φ) ho h; simpa [touches, ho] using this
      · rename_i x i ho; exact frame_extract ho h
      · rename_i as tys ho
        split at h
        · rename_i x y t t' h1 h2; exact frame_append ho h1 h2 h
        · cases h
      · rename_i f as tys ho; exact frame_call ho h
      · rename_i f as tys ho; simp [isDefer, ho] at hdf
      · rename_i x ho
        split at h <;> cases h
      · cases h
    obtain ⟨v, F, h1, h2, h3⟩ := key
    have hW : Wr (annOf ops o s) = o.dst.toList ++ takesOf o := by simp [Wr, annOf, hm]
    have hT : TM (annOf ops o s) = touches o (ev s.env) := by simp [TM, annOf, hm]
    rw [hW, hT]
    have chg : ∀ {u u1 : St}, Chg (takesOf o) (touches o (ev s.env)) u u1 → Chg (o.dst.toList ++ takesOf o) (touches o (ev s.env)) u (u1.put o.dst v) := fun hc =>
      (hc.weaken (fun n hn => by simp [hn]) (fun _ h => h)).trans ((put_chg _ o.dst v _).weaken (fun n hn => List.mem_append.2 (.inl hn)) (fun _ h => h))
    refine ⟨fun t => (F t).put o.dst v, h1, chg h2, fun t ht => ?_⟩
    obtain ⟨k1, k2⟩ := h3 t ht
    refine ⟨fun κ' r' h' => ?_, ⟨fun n hn => ?_, fun p hp => by rw [put_box, put_box]; exact k2.box p hp, chg k2.chg⟩⟩
    · unfold opStep
      rw [isM_congr (hevs t ht), hm]
      simp only [cond_true]
      exact k1 _ _ h'
    · by_cases hd : n ∈ o.dst.toList
      · rw [put_dst _ _ _ hd, put_dst _ _ _ hd]
      · rw [put_ne _ _ _ hd, put_ne _ _ _ hd]
        exact k2.env n ((List.mem_append.1 hn).resolve_left hd)

theorem guard_frame {ops : List Oper} {yes no : St → R} (h : guardA ops o s yes no = some r) : ∃ (y : Bool) (G : St → St), Chg [] [] s (G s) ∧ (bif y then yes (G s) else no (G s)) = some r ∧
    ∀ t, (∀ n, n ∈ guardT ops o → getE t.env n = getE s.env n) → Chg [] [] t (G t) ∧ ∀ yes' no' : St → R, guardA ops o t yes' no' = bif y then yes' (G t) else no' (G t) := by
  unfold guardA at h
  cases hg : o.guard with
  | none => rw [hg] at h; exact ⟨true, fun t => t, .refl _ _ _, h, fun t _ => ⟨.refl _ _ _, fun yes' no' => by unfold guardA; rw [hg]; rfl⟩⟩
  | some jw =>
    obtain ⟨j, want⟩ := jw
    rw [hg] at h
    simp only at h
    obtain ⟨oj, hoj, h1⟩ := onO_inv h
    obtain ⟨d, hd, h2⟩ := onO_inv h1
    have hdr : d ∈ guardT ops o := by simp [guardT, hg, hoj, hd]
    have sets : ∀ (u : St) (b : Bool), getE u.env d = .v (.c (.bool b)) → Chg [] [] u { u with env := setE u.env d (vB b) } := fun u b hu =>
      ⟨fun n _ => by
        simp only [getE_setE]; split
        · rename_i e; rw [e, hu]; rfl
        · rfl, fun p _ => by cases p <;> rfl, rfl⟩
    split at h2
    · rename_i he
      refine ⟨false, fun t => t, .refl _ _ _, h2, fun t ht => ⟨.refl _ _ _, fun yes' no' => ?_⟩⟩
      have := ht d hdr
      rw [he] at this
      unfold guardA; rw [hg]; simp only [onO, hoj, hd, this]; rfl
    · rename_i b he
      cases b with
      | true =>
        simp only [cond_true] at h2
        refine ⟨want, fun t => { t with env := setE t.env d (vB true) }, sets s true he, h2, fun t ht => ⟨sets t true (by rw [ht d hdr, he]), fun yes' no' => ?_⟩⟩
        have := ht d hdr
        rw [he] at this
        unfold guardA; rw [hg]; simp only [onO, hoj, hd, this, cond_true]
      | false =>
        simp only [cond_false] at h2
        refine ⟨!want, fun t => { t with env := setE t.env d (vB false) }, sets s false he, by cases want <;> exact h2, fun t ht => ⟨sets t false (by rw [ht d hdr, he]), fun yes' no' => ?_⟩⟩
        have := ht d hdr
        rw [he] at this
        unfold guardA; rw [hg]; simp only [onO, hoj, hd, this, cond_false]
        cases want <;> rfl
    · cases h2

theorem takes_reads {n : Nat} (hn : n ∈ takesOf o) : n ∈ o.op.operands.toList.flatMap tmpOf := by
  obtain ⟨dst, op, type, pos, after, guard⟩ := o
  cases op <;> simp only [takesOf] at hn <;> try (simp at hn; done)
  case move x => simpa [Op.operands] using hn
  case assign x => simpa [Op.operands] using hn
  case store t a x => simp only [Op.operands]; simp; exact .inr hn
  case extract x i => simpa [Op.operands] using hn
  case call c =>
    obtain ⟨callee, args, tys⟩ := c
    cases callee <;> try (simp at hn; done)
    case builtin bi =>
      cases bi <;> try (simp at hn; done)
      case append =>
        simp only at hn
        split at hn
        · rename_i x l he
          refine List.mem_flatMap.2 ⟨x, ?_, hn⟩
          simp only [Op.operands, Call.operands]
          have : x ∈ args.toList := by rw [he]; simp
          simpa using this
        · simp at hn

theorem Chg.nil_trans {W : List Nat} {T : List PRef} {s sg s' : St} (h : Chg [] [] s sg) (k : Chg W T sg s') : Chg W T s s' := (h.weaken (by simp) (by simp)).trans k

/-- One operation of a region, with its guard. -/
theorem step_frame {ops : List Oper} {κ : St → R} (h : stepO E Φ ops o s κ = some r) (hdf : isDefer o = false) :
    ∃ F : St → St, κ (F s) = some r ∧ Chg (Wr (annOf ops o s)) (TM (annOf ops o s)) s (F s) ∧
      ∀ t, Agr (readsOf ops o) (annOf ops o s).T s t → annOf ops o t = annOf ops o s ∧ (∀ (κ' : St → R) r', κ' (F t) = some r' → stepO E Φ ops o t κ' = some r') ∧ Tr (Wr (annOf ops o s)) (TM (annOf ops o s)) (F s) t (F t) := by
  unfold stepO stepOP at h
  have hann : ∀ (u t : St), (∀ x, x ∈ o.op.operands.toList → ev t.env x = ev u.env x) → annOf ops o t = annOf ops o u := fun u t ht => by
    unfold annOf; rw [touches_congr ht, isM_congr ht]
  have hat : ∀ t, Agr (readsOf ops o) (annOf ops o s).T s t → annOf ops o t = annOf ops o s := fun t ht =>
    hann s t fun x hx => ev_agr ht (fun n hn => List.mem_append.2 (.inl (List.mem_flatMap.2 ⟨x, hx, hn⟩)))
  obtain ⟨y, G, hsg, h1, hgt⟩ := guard_frame h
  have hsga : annOf ops o (G s) = annOf ops o s := hat (G s) ⟨fun n _ => hsg.env n (by simp), fun p _ => hsg.box p (by simp), hsg.dfr⟩
  have hgo : ∀ t, Agr (readsOf ops o) (annOf ops o s).T s t → Chg [] [] t (G t) ∧ Agr (readsOf ops o) (annOf ops o s).T (G s) (G t) ∧ ∀ yes' no' : St → R, guardA ops o t yes' no' = bif y then yes' (G t) else no' (G t) := fun t ht => by
    obtain ⟨k1, k2⟩ := hgt t (fun n hn => ht.env n (List.mem_append.2 (.inr hn)))
    exact ⟨k1, ⟨fun n hn => by rw [k1.env n (by simp), ht.env n hn, hsg.env n (by simp)], fun p hp => by rw [k1.box p (by simp), ht.box p hp, hsg.box p (by simp)], by rw [k1.dfr, ht.dfr, hsg.dfr]⟩, k2⟩
  cases y with
  | true =>
    simp only [cond_true] at h1
    obtain ⟨F, h2, h3, h4⟩ := opStep_frame h1 hdf
    rw [hsga] at h3 h4
    refine ⟨fun t => F (G t), h2, hsg.nil_trans h3, fun t ht => ⟨hat t ht, ?_⟩⟩
    obtain ⟨k1, k2, k3⟩ := hgo t ht
    have hT : touches o (ev (G s).env) = (annOf ops o s).T := by rw [← hsga]; rfl
    obtain ⟨e1, e2⟩ := h4 (G t) ⟨fun n hn => k2.env n (List.mem_append.2 (.inl hn)), by rw [hT]; exact k2.box, k2.dfr⟩
    exact ⟨fun κ' r' h' => by unfold stepO stepOP; rw [k3]; exact e1 κ' r' h', ⟨e2.env, e2.box, k1.nil_trans e2.chg⟩⟩
  | false =>
    simp only [cond_false] at h1
    have pc : ∀ u : St, Chg (Wr (annOf ops o s)) (TM (annOf ops o s)) u (u.put o.dst .und) := fun u => (put_chg u o.dst .und _).weaken (fun n hn => List.mem_append.2 (.inl hn)) (fun _ h => h)
    refine ⟨fun t => (G t).put o.dst .und, h1, hsg.nil_trans (pc (G s)), fun t ht => ⟨hat t ht, ?_⟩⟩
    obtain ⟨k1, k2, k3⟩ := hgo t ht
    refine ⟨fun κ' r' h' => by unfold stepO stepOP; rw [k3]; exact h', ⟨fun n hn => ?_, fun p hp => ?_, k1.nil_trans (pc (G t))⟩⟩
    · by_cases hd : n ∈ o.dst.toList
      · rw [put_dst _ _ _ hd, put_dst _ _ _ hd]
      · rw [put_ne _ _ _ hd, put_ne _ _ _ hd]
        refine k2.env n ?_
        have hn' := (List.mem_append.1 hn).resolve_left hd
        split at hn'
        · exact List.mem_append.2 (.inl (takes_reads hn'))
        · simp at hn'
    · rw [put_box, put_box]
      unfold TM at hp
      split at hp
      · exact k2.box p hp
      · simp at hp

end
end Go.Proofs.YtmbhohnoolflbaaDoorX
