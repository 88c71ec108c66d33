/-
  REGIONS WHOSE ORDER IS DRAWN: every order answers as the written one does.
-/
import Derived.Test.YtmbhohnoolflbaaDoorXFrame
import Derived.Orders
set_option linter.unusedVariables false
set_option linter.unusedSimpArgs false
namespace Go.Proofs.YtmbhohnoolflbaaDoorX

theorem Same.refl (s : St) : Same s s := ⟨fun _ => rfl, fun _ => rfl, rfl⟩
theorem Same.trans {s t u : St} (h : Same s t) (k : Same t u) : Same s u := ⟨fun n => (h.env n).trans (k.env n), fun p => (h.box p).trans (k.box p), h.dfr.trans k.dfr⟩

section
variable {E : Cfg} {Φ : Callee} {ops : List Oper} {s : St} {r : Res}

structure Good (E : Cfg) (Φ : Callee) (ops : List Oper) (a : Ann) (s s' : St) : Prop where
  ann : annOf ops a.o s = a
  df : isDefer a.o = false
  to : ∀ (κ : St → R) r, κ s' = some r → stepO E Φ ops a.o s κ = some r

open Classical in
theorem Good.frame {a : Ann} {s' : St} (g : Good E Φ ops a s s') : Chg (Wr a) (TM a) s s' ∧ ∀ t, Agr (readsOf ops a.o) a.T s t → ∃ t', Good E Φ ops a t t' ∧ Tr (Wr a) (TM a) s' t t' := by
  have h := g.to (fun x => if x = s' then some (.ret [] []) else none) (.ret [] []) (by simp)
  obtain ⟨F, h1, h2, h3⟩ := step_frame h g.df
  rw [g.ann] at h2 h3
  have hF : F s = s' := by
    by_cases e : F s = s'
    · exact e
    · simp only [if_neg e] at h1; cases h1
  rw [hF] at h2 h3
  refine ⟨h2, fun t ht => ?_⟩
  obtain ⟨k1, k2, k3⟩ := h3 t ht
  exact ⟨F t, ⟨k1, g.df, k2⟩, k3⟩

inductive ARun (E : Cfg) (Φ : Callee) (ops : List Oper) : List Ann → St → St → Prop where
  | nil (s : St) : ARun E Φ ops [] s s
  | cons {a : Ann} {l : List Ann} {s s1 s2 : St} (h : Good E Φ ops a s s1) (k : ARun E Φ ops l s1 s2) : ARun E Φ ops (a :: l) s s2

theorem ARun.same {l : List Ann} {s s' : St} (h : ARun E Φ ops l s s') : ∀ {t : St}, Same s t → ∃ t', ARun E Φ ops l t t' ∧ Same s' t' := by
  induction h with
  | nil s => intro t ht; exact ⟨t, .nil t, ht⟩
  | cons g _ ih =>
    rename_i a l s s1 s2 _
    intro t ht
    obtain ⟨h1, h2⟩ := g.frame
    obtain ⟨t1, k1, k2⟩ := h2 t ⟨fun n _ => (ht.env n).symm, fun p _ => (ht.box p).symm, ht.dfr.symm⟩
    have hs : Same s1 t1 := by
      refine ⟨fun n => ?_, fun p => ?_, ?_⟩
      · by_cases hn : n ∈ Wr a
        · exact (k2.env n hn).symm
        · rw [h1.env n hn, k2.chg.env n hn, ht.env n]
      · by_cases hp : p ∈ TM a
        · exact (k2.box p hp).symm
        · rw [h1.box p hp, k2.chg.box p hp, ht.box p]
      · rw [h1.dfr, k2.chg.dfr, ht.dfr]
    obtain ⟨t', e1, e2⟩ := ih hs
    exact ⟨t', .cons k1 e1, e2⟩

theorem apartN_iff {a b : List Nat} (h : apartN a b = true) {n : Nat} (hn : n ∈ a) : n ∉ b := by
  simp only [apartN, List.all_eq_true, Bool.not_eq_true'] at h
  intro hm
  have := h n hn
  rw [memN_iff'.2 hm] at this
  cases this
where memN_iff' {n : Nat} : ∀ {l : List Nat}, memN l n = true ↔ n ∈ l
  | [] => by simp [memN]
  | m :: r => by
    simp only [memN]
    by_cases h : m = n
    · subst h; simp
    · rw [beqF h]; simp only [cond_false, List.mem_cons]; rw [memN_iff']; simp [show ¬ n = m from fun e => h e.symm]
theorem disj_iff {a b : List PRef} (h : disj a b = true) {p : PRef} (hp : p ∈ a) : p ∉ b := by
  simp only [disj, List.all_eq_true] at h
  have := h p hp
  split at this
  · cases this
  · rename_i hx; exact ixP_none hx

/-! ### Readings of boxes: one that takes the right to append, and another one -/
def DEq (x y : Option (List C)) : Prop := x.map (List.map C.dem) = y.map (List.map C.dem)
theorem dem_dem (c : C) : c.dem.dem = c.dem := by
  cases c with
  | sl sz es fl => cases fl <;> rfl
  | _ => rfl
theorem dem_inj {c c' : C} (h : c.dem = c'.dem) : c = c' ∨ ∃ sz es fl fl', c = .sl sz es fl ∧ c' = .sl sz es fl' := by
  cases c with
  | sl sz es fl =>
    cases c' with
    | sl sz' es' fl' =>
      simp only [C.dem, C.sl.injEq] at h
      obtain ⟨rfl, rfl, _⟩ := h
      exact .inr ⟨_, _, _, _, rfl, rfl⟩
    | _ => cases h
  | _ =>
    left
    cases c' with
    | sl sz' es' fl' => cases h
    | _ => exact h
theorem deq_paste {cs : List C} {off : Nat} {c0 : C} (h : nth cs off = some c0) : (cs.take off ++ [c0.dem] ++ cs.drop (off + 1)).map C.dem = cs.map C.dem := by
  rw [nth_eq] at h
  obtain ⟨hh, hc⟩ := List.getElem?_eq_some_iff.1 h
  conv => rhs; rw [← List.take_append_drop off cs, List.drop_eq_getElem_cons hh, hc]
  simp [dem_dem]
theorem nth_deq {cs cs' : List C} (h : cs.map C.dem = cs'.map C.dem) (n : Nat) : (nth cs n).map C.dem = (nth cs' n).map C.dem := by
  rw [nth_eq, nth_eq, ← List.getElem?_map, ← List.getElem?_map, h]
theorem viewC_deq {k : TK} {c c' : C} (h : c.dem = c'.dem) (κ : AV → R) : (viewC E k c fun c => κ (.v (.c c.share))) = (viewC E k c' fun c => κ (.v (.c c.share))) := by
  rcases dem_inj h with rfl | ⟨sz, es, fl, fl', rfl, rfl⟩
  · rfl
  · cases k <;> rfl
theorem ldB_deq {i : TI} {cs cs' : List C} (h : cs.map C.dem = cs'.map C.dem) (off : Nat) (κ : AV → R) : ldB E i cs off κ = ldB E i cs' off κ := by
  have hl : cs.length = cs'.length := by simpa using congrArg List.length h
  have hag : cut i.size cs off (fun l => κ (.v (.agg (l.map C.dem)))) = cut i.size cs' off (fun l => κ (.v (.agg (l.map C.dem)))) := by
    unfold cut
    rw [hl]
    have : ((cs.drop off).take i.size).map C.dem = ((cs'.drop off).take i.size).map C.dem := by
      rw [List.map_take, List.map_drop, h, ← List.map_drop, ← List.map_take]
    simp only [this]
  have hone : (onO (nth cs off) fun c => viewC E i.k c fun c => κ (.v (.c c.share))) = onO (nth cs' off) fun c => viewC E i.k c fun c => κ (.v (.c c.share)) := by
    have := nth_deq h off
    cases h1 : nth cs off with
    | none =>
      rw [h1] at this
      cases h2 : nth cs' off with
      | none => rfl
      | some c' => rw [h2] at this; cases this
    | some c =>
      rw [h1] at this
      cases h2 : nth cs' off with
      | none => rw [h2] at this; cases this
      | some c' =>
        rw [h2] at this
        simp only [Option.map_some, Option.some.injEq] at this
        exact viewC_deq this κ
  unfold ldB
  cases hk : i.k <;> simp only <;> first | (rw [hag]) | (rw [hk] at hone; exact hone)
theorem hOp_ld {o : Oper} {g g' : Operand → AV} {mem mem' : PRef → Option (List C)} {κ : AV → R} (ho : isLd o = true) (hg : ∀ x, x ∈ o.op.operands.toList → g' x = g x) (hm : ∀ p, p ∈ touches o g → DEq (mem' p) (mem p)) : hOp E o g' mem' κ = hOp E o g mem κ := by
  obtain ⟨dst, op, type, pos, after, guard⟩ := o
  cases op <;> simp only [isLd, Bool.false_eq_true] at ho
  case load t a =>
    simp only [Op.operands] at hg
    simp only [hOp, hg a (by simp)]
    congr 1
    funext i
    split
    · rename_i p off he
      have := hm p (by simp [touches, he, ptrsA, ptrsV, ptrsC])
      unfold DEq at this
      cases h1 : mem p with
      | none =>
        rw [h1] at this
        cases h2 : mem' p with
        | none => rfl
        | some c => rw [h2] at this; cases this
      | some cs =>
        rw [h1] at this
        cases h2 : mem' p with
        | none => rw [h2] at this; cases this
        | some cs' =>
          rw [h2] at this
          simp only [Option.map_some, Option.some.injEq] at this
          exact ldB_deq this off κ
    · rfl
    · rfl

open Classical in
/-- A reading that takes no right, moved to where only rights differ. -/
theorem Good.ld {a : Ann} {s' : St} (g : Good E Φ ops a s s') (hl : isLd a.o = true) (hm : a.m = false) {t : St} (he : ∀ n, n ∈ readsOf ops a.o → getE t.env n = getE s.env n) (hb : ∀ p, p ∈ a.T → DEq (t.box p) (s.box p)) (hd : t.dfr = s.dfr) :
    ∃ t', Good E Φ ops a t t' ∧ Tr (Wr a) (TM a) s' t t' := by
  have hann := g.ann
  have hat : annOf ops a.o t = a := by
    rw [← hann]
    have hx : ∀ x, x ∈ a.o.op.operands.toList → ev t.env x = ev s.env x := fun x hx => by
      cases x <;> try rfl
      case tmp n => exact he n (List.mem_append.2 (.inl (List.mem_flatMap.2 ⟨_, hx, by simp [tmpOf]⟩)))
    unfold annOf; rw [touches_congr hx, isM_congr hx]
  have hmi : isM a.o (ev s.env) ops = false := (congrArg Ann.m hann).trans hm
  have hTs : touches a.o (ev s.env) = a.T := congrArg Ann.T hann
  have h := g.to (fun x => if x = s' then some (.ret [] []) else none) (.ret [] []) (by simp)
  unfold stepO stepOP at h
  obtain ⟨y, G, hsg, h1, hgt⟩ := guard_frame h
  obtain ⟨k1, k2⟩ := hgt t (fun n hn => he n (List.mem_append.2 (.inr hn)))
  have eqv : ∀ {u : St}, (∀ n, n ∈ readsOf ops a.o → getE u.env n = getE s.env n) → ∀ x, x ∈ a.o.op.operands.toList → ev u.env x = ev s.env x := fun {u} hu x hx => by
    cases x <;> try rfl
    case tmp n => exact hu n (List.mem_append.2 (.inl (List.mem_flatMap.2 ⟨_, hx, by simp [tmpOf]⟩)))
  have es : ∀ x, x ∈ a.o.op.operands.toList → ev (G s).env x = ev s.env x := eqv fun n _ => hsg.env n (by simp)
  have et : ∀ x, x ∈ a.o.op.operands.toList → ev (G t).env x = ev s.env x := eqv fun n hn => (k1.env n (by simp)).trans (he n hn)
  have hW : Wr a = a.o.dst.toList := by simp [Wr, hm]
  have hT : TM a = [] := by simp [TM, hm]
  cases y with
  | true =>
    simp only [cond_true] at h1
    unfold opStep at h1
    rw [isM_congr es, hmi] at h1
    simp only [cond_false] at h1
    obtain ⟨v, h2, h3⟩ := uni_hOp (fun v => (if (G s).put a.o.dst v = s' then some (.ret [] []) else none : R)) _ h1
    have hs' : (G s).put a.o.dst v = s' := by
      by_cases e : (G s).put a.o.dst v = s'
      · exact e
      · simp only [if_neg e] at h2; cases h2
    subst hs'
    refine ⟨(G t).put a.o.dst v, ⟨hat, g.df, fun κ r hr => ?_⟩, ⟨fun n hn => ?_, by rw [hT]; simp, ?_⟩⟩
    · unfold stepO stepOP
      rw [k2]
      simp only [cond_true]
      unfold opStep
      rw [isM_congr et, hmi]
      simp only [cond_false]
      rw [hOp_ld (g := ev (G s).env) (mem := (G s).box) hl (fun x hx => (et x hx).trans (es x hx).symm) (fun p hp => by
        rw [touches_congr es, hTs] at hp
        rw [k1.box p (by simp), hsg.box p (by simp)]
        exact hb p hp)]
      exact h3 (fun v => κ ((G t).put a.o.dst v)) r hr
    · rw [hW] at hn; rw [put_dst _ _ _ hn, put_dst _ _ _ hn]
    · rw [hW, hT]; exact k1.nil_trans (put_chg (G t) a.o.dst v [])
  | false =>
    simp only [cond_false] at h1
    have hs' : (G s).put a.o.dst .und = s' := by
      by_cases e : (G s).put a.o.dst .und = s'
      · exact e
      · simp only [if_neg e] at h1; cases h1
    subst hs'
    refine ⟨(G t).put a.o.dst .und, ⟨hat, g.df, fun κ r hr => ?_⟩, ⟨fun n hn => ?_, by rw [hT]; simp, ?_⟩⟩
    · unfold stepO stepOP; rw [k2]; exact hr
    · rw [hW] at hn; rw [put_dst _ _ _ hn, put_dst _ _ _ hn]
    · rw [hW, hT]; exact k1.nil_trans (put_chg (G t) a.o.dst .und [])
open Classical in
/-- One that takes the right leaves all the rest. -/
theorem Good.ldM {a : Ann} {s' : St} (g : Good E Φ ops a s s') (hl : isLd a.o = true) (hm : a.m = true) (p : PRef) : DEq (s'.box p) (s.box p) := by
  have hann := g.ann
  have hmi : isM a.o (ev s.env) ops = true := (congrArg Ann.m hann).trans hm
  have h := g.to (fun x => if x = s' then some (.ret [] []) else none) (.ret [] []) (by simp)
  unfold stepO stepOP at h
  obtain ⟨y, G, hsg, h1, _⟩ := guard_frame h
  have es : ∀ x, x ∈ a.o.op.operands.toList → ev (G s).env x = ev s.env x := fun x hx => by
    cases x <;> try rfl
    case tmp n => exact hsg.env n (by simp)
  have fin : ∀ {u : St}, (if u = s' then some (.ret [] []) else none : R) = some (.ret [] []) → u = s' := fun {u} h => by
    by_cases e : u = s'
    · exact e
    · simp only [if_neg e] at h; cases h
  cases y with
  | true =>
    simp only [cond_true] at h1
    unfold opStep at h1
    rw [isM_congr es, hmi] at h1
    simp only [cond_true] at h1
    obtain ⟨t, ad, ho⟩ : ∃ t ad, a.o.op = .load t ad := by
      unfold isLd at hl
      split at hl
      · rename_i t ad e; exact ⟨t, ad, e⟩
      · cases hl
    · simp only [mOp, ho] at h1
      obtain ⟨i, hi, h2⟩ := ty_inv h1
      split at h2
      · rename_i e q off hk he
        obtain ⟨cs, hcs, h3⟩ := onO_inv h2
        obtain ⟨c0, hc0, h4⟩ := onO_inv h3
        obtain ⟨c, h5, _⟩ := (uni_viewC (E := E) (k := .slice e) (x := c0) (G := fun (c : C) (κ : C → R) => κ c) (fun n => uni_ret _)) (fun c => paste 1 cs off [c0.dem] fun cs => (if ((G s).setBox q cs).put a.o.dst (.v (.c c)) = s' then some (.ret [] []) else none : R)) _ h4
        obtain ⟨_, _, h6⟩ := paste_inv h5
        have := fin h6
        subst this
        rw [put_box, box_setBox]
        by_cases hp : p = q ∧ ((G s).box q).isSome = true
        · rw [if_pos hp]
          obtain ⟨rfl, _⟩ := hp
          unfold DEq
          rw [← hsg.box p (by simp), hcs, Option.map_some, Option.map_some, deq_paste hc0]
        · rw [if_neg hp]
          unfold DEq
          rw [hsg.box p (by simp)]
      · cases h2
  | false =>
    simp only [cond_false] at h1
    have := fin h1
    subst this
    unfold DEq
    rw [put_box, hsg.box p (by simp)]

theorem swap2 {a b : Ann} {s1 s2 : St} (hok : okPair ops a b = true) (ga : Good E Φ ops a s s1) (gb : Good E Φ ops b s1 s2) : ∃ u1 u2, Good E Φ ops b s u1 ∧ Good E Φ ops a u1 u2 ∧ Same s2 u2 := by
  simp only [okPair, Bool.and_eq_true, Bool.not_eq_true', Bool.or_eq_true] at hok
  obtain ⟨⟨⟨⟨⟨h1, h2⟩, h3⟩, h5⟩, h6⟩, h7⟩ := hok
  obtain ⟨ca, fa⟩ := ga.frame
  obtain ⟨cb, fb⟩ := gb.frame
  have hdj : a.m = true ∨ b.m = true → disj a.T b.T = true ∨ twoLd a b = true := by
    intro h
    rcases h5 with (h5 | h5) | h5
    · rcases h with h | h <;> simp [h] at h5
    · exact .inl h5
    · exact .inr h5
  -- what the one looks at the other leaves alone
  have rb : ∀ n, n ∈ readsOf ops b.o → n ∉ Wr a := fun n hn hw => by
    rcases List.mem_append.1 hw with hw | hw
    · exact apartN_iff h1 hw hn
    · split at hw
      · rename_i hma
        rcases h6 with h6 | h6
        · rw [hma] at h6; cases h6
        · exact apartN_iff h6 hw hn
      · simp at hw
  have ra : ∀ n, n ∈ readsOf ops a.o → n ∉ Wr b := fun n hn hw => by
    rcases List.mem_append.1 hw with hw | hw
    · exact apartN_iff h2 hw hn
    · split at hw
      · rename_i hmb
        rcases h7 with h7 | h7
        · rw [hmb] at h7; cases h7
        · exact apartN_iff h7 hw hn
      · simp at hw
  have first : ∃ u1, Good E Φ ops b s u1 ∧ Tr (Wr b) (TM b) s2 s u1 := by
    by_cases hx : a.m = true ∧ twoLd a b = true
    · obtain ⟨hma, hx⟩ := hx
      simp only [twoLd, Bool.and_eq_true, Bool.not_eq_true', hma, Bool.true_and] at hx
      exact gb.ld hx.1.2 hx.2 (fun n hn => (ca.env n (rb n hn)).symm) (fun p _ => (ga.ldM hx.1.1 hma p).symm) ca.dfr.symm
    · refine fb s ⟨fun n hn => (ca.env n (rb n hn)).symm, fun p hp => (ca.box p fun hw => ?_).symm, ca.dfr.symm⟩
      unfold TM at hw
      split at hw
      · rename_i hma
        exact disj_iff ((hdj (.inl hma)).resolve_right fun h => hx ⟨hma, h⟩) hw hp
      · simp at hw
  obtain ⟨u1, g1, t1⟩ := first
  have second : ∃ u2, Good E Φ ops a u1 u2 ∧ Tr (Wr a) (TM a) s1 u1 u2 := by
    by_cases hx : b.m = true ∧ twoLd a b = true
    · obtain ⟨hmb, hx⟩ := hx
      simp only [twoLd, Bool.and_eq_true, Bool.not_eq_true', hmb, Bool.and_true] at hx
      exact ga.ld hx.1.1 hx.2 (fun n hn => t1.chg.env n (ra n hn)) (fun p _ => g1.ldM hx.1.2 hmb p) t1.chg.dfr
    · refine fa u1 ⟨fun n hn => t1.chg.env n (ra n hn), fun p hp => t1.chg.box p fun hw => ?_, t1.chg.dfr⟩
      unfold TM at hw
      split at hw
      · rename_i hmb
        exact disj_iff ((hdj (.inr hmb)).resolve_right fun h => hx ⟨hmb, h⟩) hp hw
      · simp at hw
  obtain ⟨u2, g2, t2⟩ := second
  have tk : ∀ (o : Oper) n, n ∈ takesOf o → n ∈ readsOf ops o := fun o n hn => List.mem_append.2 (.inl (takes_reads hn))
  have wab : ∀ n, n ∈ Wr a → n ∉ Wr b := fun n hn hw => by
    rcases List.mem_append.1 hn with hn | hn
    · rcases List.mem_append.1 hw with hw | hw
      · exact apartN_iff h3 hn hw
      · split at hw
        · exact apartN_iff h1 hn (tk _ _ hw)
        · simp at hw
    · split at hn
      · exact ra n (tk _ _ hn) hw
      · simp at hn
  have mab : ∀ p, p ∈ TM a → p ∉ TM b := fun p hp hw => by
    unfold TM at hp hw
    split at hp
    · rename_i hma
      split at hw
      · rename_i hmb
        rcases hdj (.inl hma) with h | h
        · exact disj_iff h hp hw
        · simp [twoLd, hma, hmb] at h
      · simp at hw
    · simp at hp
  refine ⟨u1, u2, g1, g2, ⟨fun n => ?_, fun p => ?_, ?_⟩⟩
  · by_cases hn : n ∈ Wr a
    · rw [t2.env n hn, cb.env n (wab n hn)]
    · rw [t2.chg.env n hn]
      by_cases hnb : n ∈ Wr b
      · rw [t1.env n hnb]
      · rw [t1.chg.env n hnb, cb.env n hnb, ca.env n hn]
  · by_cases hp : p ∈ TM a
    · rw [t2.box p hp, cb.box p (mab p hp)]
    · rw [t2.chg.box p hp]
      by_cases hpb : p ∈ TM b
      · rw [t1.box p hpb]
      · rw [t1.chg.box p hpb, cb.box p hpb, ca.box p hp]
  · rw [t2.chg.dfr, t1.chg.dfr, cb.dfr, ca.dfr]

theorem front {a : Ann} {l2 : List Ann} : ∀ {l1 : List Ann} {s s' : St}, (∀ x, x ∈ l1 → okPair ops x a = true) → ARun E Φ ops (l1 ++ a :: l2) s s' → ∃ s'', ARun E Φ ops (a :: (l1 ++ l2)) s s'' ∧ Same s' s''
  | [], s, s', _, h => ⟨s', h, .refl _⟩
  | x :: l1, s, s', hok, h => by
    cases h with
    | cons gx k =>
      obtain ⟨s'', k1, k2⟩ := front (fun y hy => hok y (by simp [hy])) k
      cases k1 with
      | cons ga k3 =>
        obtain ⟨u1, u2, g1, g2, hs⟩ := swap2 (hok x (by simp)) gx ga
        obtain ⟨v, e1, e2⟩ := k3.same hs
        exact ⟨v, .cons g1 (.cons g2 e1), k2.trans e2⟩

/-! ### From the written order -/
structure ClS (ops : Array Oper) (n : Nat) (cl : List (List Nat)) : Prop where
  len : cl.length = n
  back : ∀ j o, j < n → ops[j]? = some o → ∀ e, e ∈ o.after.toList → Region.binds .any e = true → e.on < j
  down : ∀ j o, j < n → ops[j]? = some o → ∀ k, k ∈ cl.getD j [] → ∃ e, e ∈ o.after.toList ∧ Region.binds .any e = true ∧ (k = e.on ∨ k ∈ cl.getD e.on [])
structure Cl (ops : Array Oper) (L : List Ann) (cl : List (List Nat)) : Prop where
  s : ClS ops L.length cl
  pair : ∀ (i j : Nat) x y, i < j → L[i]? = some x → L[j]? = some y → i ∈ cl.getD j [] ∨ okPair ops.toList x y = true

theorem okAll_get {b : Ann} {cl : List Nat} : ∀ {acc : List Ann} {i : Nat}, okAll ops b cl acc i = true → ∀ (j : Nat) x, acc[j]? = some x → i + j ∈ cl ∨ okPair ops x b = true
  | [], _, _, j, x, h => by simp at h
  | a :: r, i, h, j, x, hx => by
    simp only [okAll, Bool.and_eq_true, Bool.or_eq_true] at h
    cases j with
    | zero => simp at hx; subst hx; exact h.1.imp (fun h => apartN_iff.memN_iff'.1 h) id
    | succ j =>
      have := okAll_get h.2 j x (by simpa using hx)
      rwa [show i + 1 + j = i + (j + 1) by omega] at this

theorem unionN_mem {k : Nat} : ∀ {a b : List Nat}, k ∈ unionN a b → k ∈ a ∨ k ∈ b
  | [], b, h => .inr h
  | x :: a, b, h => by
    simp only [unionN] at h
    cases hx : memN b x with
    | true =>
      rw [hx] at h
      rcases unionN_mem h with h | h
      · exact .inl (List.mem_cons_of_mem _ h)
      · exact .inr h
    | false =>
      rw [hx] at h
      rcases unionN_mem h with h | h
      · exact .inl (List.mem_cons_of_mem _ h)
      · rcases List.mem_cons.1 h with h | h
        · exact .inl (by simp [h])
        · exact .inr h

theorem foldl_cl (cl : List (List Nat)) : ∀ (es : List Edge) (acc : List Nat) (k : Nat), k ∈ es.foldl (fun l e => bif Region.binds .any e then unionN (e.on :: (cl.getD e.on [])) l else l) acc → k ∈ acc ∨ ∃ e, e ∈ es ∧ Region.binds .any e = true ∧ (k = e.on ∨ k ∈ cl.getD e.on [])
  | [], acc, k, h => .inl h
  | e :: es, acc, k, h => by
    simp only [List.foldl_cons] at h
    rcases foldl_cl cl es _ k h with h | ⟨e', h1, h2, h3⟩
    · cases hb : Region.binds .any e with
      | false => rw [hb] at h; exact .inl h
      | true =>
        rw [hb] at h
        simp only [cond_true] at h
        rcases unionN_mem h with h | h
        · rcases List.mem_cons.1 h with h | h
          · exact .inr ⟨e, by simp, hb, .inl h⟩
          · exact .inr ⟨e, by simp, hb, .inr h⟩
        · exact .inl h
    · exact .inr ⟨e', by simp [h1], h2, h3⟩

theorem getD_snoc_lt {cl : List (List Nat)} {c : List Nat} {j : Nat} (h : j < cl.length) : (cl ++ [c]).getD j [] = cl.getD j [] := by
  rw [List.getD_eq_getElem?_getD, List.getD_eq_getElem?_getD, List.getElem?_append_left h]
theorem getD_snoc_eq {cl : List (List Nat)} {c : List Nat} {j : Nat} (h : j = cl.length) : (cl ++ [c]).getD j [] = c := by
  subst h
  rw [List.getD_eq_getElem?_getD, List.getElem?_append_right (Nat.le_refl _)]; simp
theorem afterOk_get {o : Oper} {n : Nat} (h : afterOk o n = true) {e : Edge} (he : e ∈ o.after.toList) (hb : Region.binds .any e = true) : e.on < n := by
  simp only [afterOk, List.all_eq_true, Bool.or_eq_true, Bool.not_eq_true'] at h
  rcases h e he with h | h
  · rw [hb] at h; cases h
  · exact Nat.le_of_ble_eq_true h
theorem ClS.snoc {ops : Array Oper} {n : Nat} {cl : List (List Nat)} (h : ClS ops n cl) {o : Oper} (ho : ops[n]? = some o) (ha : afterOk o n = true) : ClS ops (n + 1) (cl ++ [closOf o cl]) := by
  refine ⟨by simp [h.len], fun j o' hj ho' e he hb => ?_, fun j o' hj ho' k hk => ?_⟩
  · by_cases hjn : j < n
    · exact h.back j o' hjn ho' e he hb
    · have : j = n := by omega
      subst this
      rw [ho] at ho'; cases ho'
      exact afterOk_get ha he hb
  · by_cases hjn : j < n
    · rw [getD_snoc_lt (by rw [h.len]; exact hjn)] at hk
      obtain ⟨e, k1, k2, k3⟩ := h.down j o' hjn ho' k hk
      refine ⟨e, k1, k2, ?_⟩
      rw [getD_snoc_lt (by rw [h.len]; exact Nat.lt_trans (h.back j o' hjn ho' e k1 k2) hjn)]
      exact k3
    · have : j = n := by omega
      subst this
      rw [ho] at ho'; cases ho'
      rw [getD_snoc_eq h.len.symm] at hk
      rcases foldl_cl cl _ _ k hk with h' | ⟨e, k1, k2, k3⟩
      · simp at h'
      · refine ⟨e, k1, k2, ?_⟩
        rw [getD_snoc_lt (by rw [h.len]; exact afterOk_get ha k1 k2)]
        exact k3
/-- The operations behind a place come behind it in every order. -/
theorem laterOk_full {ops : Array Oper} {k : Nat} : ∀ {rest : List Oper} {pre : List Oper} {cl : List (List Nat)}, pre ++ rest = ops.toList → ClS ops pre.length cl → laterOk k pre.length rest cl = true →
    ∃ clF, ClS ops ops.size clF ∧ (∀ j, j < pre.length → clF.getD j [] = cl.getD j []) ∧ ∀ j, pre.length ≤ j → j < ops.size → k ∈ clF.getD j []
  | [], pre, cl, hp, hcl, _ => by
    have hl : pre.length = ops.size := by have := congrArg List.length hp; simpa using this
    exact ⟨cl, hl ▸ hcl, fun _ _ => rfl, fun j h1 h2 => by omega⟩
  | o :: rest, pre, cl, hp, hcl, h => by
    simp only [laterOk, Bool.and_eq_true] at h
    have ho : ops[pre.length]? = some o := by
      rw [← Array.getElem?_toList, ← hp, List.getElem?_append_right (Nat.le_refl _)]; simp
    have hl : (pre ++ [o]).length = pre.length + 1 := by simp
    obtain ⟨clF, h1, h2, h3⟩ := laterOk_full (pre := pre ++ [o]) (rest := rest) (cl := cl ++ [closOf o cl]) (by simpa using hp) (by rw [hl]; exact hcl.snoc ho h.1.1) (by rw [hl]; exact h.2)
    rw [hl] at h2 h3
    refine ⟨clF, h1, fun j hj => ?_, fun j hj hs => ?_⟩
    · rw [h2 j (by omega), getD_snoc_lt (by rw [hcl.len]; exact hj)]
    · by_cases e : j = pre.length
      · subst e
        rw [h2 _ (by omega), getD_snoc_eq hcl.len.symm]
        exact apartN_iff.memN_iff'.1 h.1.2
      · exact h3 j (by omega) hs
theorem earlierOk_get {c : List Nat} : ∀ {acc : List Ann} {i : Nat}, earlierOk c acc i = true → ∀ (j : Nat) x, acc[j]? = some x → i + j ∈ c ∨ x.m = false ∨ x.T.all isLocP = true
  | [], _, _, j, x, h => by simp at h
  | a :: r, i, h, j, x, hx => by
    simp only [earlierOk, Bool.and_eq_true, Bool.or_eq_true, Bool.not_eq_true'] at h
    cases j with
    | zero =>
      simp at hx; subst hx
      rcases h.1 with (h | h) | h
      · exact .inl (apartN_iff.memN_iff'.1 h)
      · exact .inr (.inl h)
      · exact .inr (.inr h)
    | succ j =>
      have := earlierOk_get h.2 j x (by simpa using hx)
      rwa [show i + 1 + j = i + (j + 1) by omega] at this

/-! ### An operation that panics -/
structure PanAt (E : Cfg) (Φ : Callee) (ops : List Oper) (a : Ann) (t : TypeId) (x : V) (F : St → St) (s : St) : Prop where
  df : isDefer a.o = false
  fr : ∀ u, Agr (readsOf ops a.o) a.T s u → annOf ops a.o u = a ∧ (∀ (κ : St → R) (κp : TypeId → V → St → R) r, κp t x (F u) = some r → stepOP E Φ ops a.o u κ κp = some r) ∧
    (∀ i, PRef.out i ∉ a.T → (F u).box (.out i) = u.box (.out i)) ∧ (∀ i, PRef.out i ∈ a.T → (F u).box (.out i) = (F s).box (.out i)) ∧ (F u).dfr = u.dfr
theorem Agr.trans {R : List Nat} {T : List PRef} {s t u : St} (h : Agr R T s t) (k : Agr R T t u) : Agr R T s u :=
  ⟨fun n hn => (k.env n hn).trans (h.env n hn), fun p hp => (k.box p hp).trans (h.box p hp), k.dfr.trans h.dfr⟩
theorem Agr.refl (R : List Nat) (T : List PRef) (s : St) : Agr R T s s := ⟨fun _ _ => rfl, fun _ _ => rfl, rfl⟩
theorem PanAt.move {a : Ann} {t : TypeId} {x : V} {F : St → St} (h : PanAt E Φ ops a t x F s) {u : St} (hu : Agr (readsOf ops a.o) a.T s u) : PanAt E Φ ops a t x F u := by
  refine ⟨h.df, fun v hv => ?_⟩
  obtain ⟨k1, k2, k3, k4, k5⟩ := h.fr v (hu.trans hv)
  obtain ⟨j1, j2, j3, j4, j5⟩ := h.fr u hu
  exact ⟨k1, k2, k3, fun i hi => (k4 i hi).trans (j4 i hi).symm, k5⟩
theorem PanAt.outs {a : Ann} {t : TypeId} {x : V} {F : St → St} (h : PanAt E Φ ops a t x F s) {u : St} (hu : Agr (readsOf ops a.o) a.T s u) (ho : ∀ i, PRef.out i ∉ a.T → u.box (.out i) = s.box (.out i)) (i : Nat) : (F u).box (.out i) = (F s).box (.out i) := by
  obtain ⟨k1, k2, k3, k4, k5⟩ := h.fr u hu
  obtain ⟨j1, j2, j3, j4, j5⟩ := h.fr s (.refl _ _ _)
  by_cases hi : PRef.out i ∈ a.T
  · exact k4 i hi
  · rw [k3 i hi, j3 i hi, ho i hi]

open Classical in
/-- An operation goes on, or panics. -/
theorem step_split {o : Oper} {κ : St → R} {κp : TypeId → V → St → R} (h : stepOP E Φ ops o s κ κp = some r) (hdf : isDefer o = false) :
    stepO E Φ ops o s κ = some r ∨ ∃ t x F, κp t x (F s) = some r ∧ PanAt E Φ ops (annOf ops o s) t x F s := by
  have h0 := h
  unfold stepOP at h
  obtain ⟨y, G, hsg, h1, hgt⟩ := guard_frame h
  have hann : ∀ (u t : St), (∀ x, x ∈ o.op.operands.toList → ev t.env x = ev u.env x) → annOf ops o t = annOf ops o u := fun u t ht => by
    unfold annOf; rw [touches_congr ht, isM_congr ht]
  have evs : ∀ {u : St}, (∀ n, n ∈ readsOf ops o → getE u.env n = getE s.env n) → ∀ x, x ∈ o.op.operands.toList → ev u.env x = ev s.env x := fun {u} hu x hx => by
    cases x <;> try rfl
    case tmp n => exact hu n (List.mem_append.2 (.inl (List.mem_flatMap.2 ⟨_, hx, by simp [tmpOf]⟩)))
  have es := evs (u := G s) fun n _ => hsg.env n (by simp)
  have back : ∀ {κ1 : St → R} {κp1 : TypeId → V → St → R}, (bif y then opStep E Φ ops o (G s) κ1 κp1 else κ1 ((G s).put o.dst .und)) = some r → stepOP E Φ ops o s κ1 κp1 = some r := fun {κ1 κp1} h => by
    unfold stepOP
    rw [(hgt s fun _ _ => rfl).2]
    exact h
  cases y with
  | false => exact .inl (back (κp1 := noneP) h1)
  | true =>
    simp only [cond_true] at h1
    have norm : opStep E Φ ops o (G s) κ noneP = some r → stepO E Φ ops o s κ = some r := fun h => back (κp1 := noneP) h
    cases hm : isM o (ev (G s).env) ops with
    | false =>
      left
      refine norm ?_
      unfold opStep at h1 ⊢
      rw [hm] at h1 ⊢
      exact h1
    | true =>
      unfold opStep at h1
      rw [hm] at h1
      simp only [cond_true] at h1
      have stay : mOp E Φ o (G s) (fun v s => κ (s.put o.dst v)) noneP = some r → stepO E Φ ops o s κ = some r := fun h => norm (by unfold opStep; rw [hm]; exact h)
      by_cases hc : ∃ f as tys, o.op = .call { callee := .value f, args := as, argTypes := tys }
      · obtain ⟨f, as, tys, ho⟩ := hc
        simp only [mOp, ho] at h1
        have h2 := h1
        unfold callA at h2
        split at h2
        case h_2 => cases h2
        rename_i fid caps hf
        obtain ⟨vs, hvs, h3⟩ := onO_inv h2
        obtain ⟨bs, hbs, h4⟩ := onO_inv h3
        cases hq : Φ fid vs bs with
        | none => rw [hq] at h4; simp [onRes] at h4
        | some q =>
          rw [hq] at h4
          cases q with
          | ret rs bs' =>
            left
            refine stay ?_
            simp only [mOp, ho, callA, hf, hvs, onO, hbs, hq]
            exact h4
          | pan t x bs' =>
            right
            obtain ⟨hlen, h5⟩ := chk_inv h4
            generalize hps : dedupP ((List.map AV.share (List.map (ev (G s).env) as.toList) ++ List.map (fun p => AV.v (V.c (C.ptr p 0))) caps).flatMap ptrsA) [] = ps at hvs hbs hlen h5
            have hn : ps.Nodup := by rw [← hps]; exact dedupP_nodup _ _ .nil
            obtain ⟨_, hget⟩ := boxesOf_get hbs
            have hsome : ∀ p, p ∈ ps → ((G s).box p).isSome = true := fun p hp => by
              obtain ⟨i, hi⟩ := List.getElem?_of_mem hp
              obtain ⟨cs, _, h2⟩ := hget i p hi
              simp [h2]
            have hsub : ∀ p, p ∈ ps → p ∈ touches o (ev s.env) := by
              intro p hp
              rw [← touches_congr es]
              rw [← hps] at hp
              rcases dedupP_sub _ _ _ hp with hp | hp
              · obtain ⟨z, hz, hpz⟩ := List.mem_flatMap.1 hp
                simp only [touches, ho, hf]
                rcases List.mem_append.1 hz with hz | hz
                · obtain ⟨z1, hz1, rfl⟩ := List.mem_map.1 hz
                  obtain ⟨z2, hz2, rfl⟩ := List.mem_map.1 hz1
                  rw [ptrsA_share] at hpz
                  exact List.mem_append.2 (.inr (List.mem_flatMap.2 ⟨z2, hz2, hpz⟩))
                · obtain ⟨z1, hz1, rfl⟩ := List.mem_map.1 hz
                  simp [ptrsA, ptrsV, ptrsC] at hpz
                  subst hpz
                  exact List.mem_append.2 (.inl (by simpa [ptrsA, ptrsV, ptrsC] using hz1))
              · simp at hp
            refine ⟨t, x, fun u => putBoxes (G u) ps bs' 0, h5, hdf, fun u hu => ?_⟩
            have eu := evs (u := u) hu.env
            obtain ⟨g1, g2⟩ := hgt u fun n hn => hu.env n (List.mem_append.2 (.inr hn))
            have egu : ∀ x, x ∈ o.op.operands.toList → ev (G u).env x = ev (G s).env x := fun x hx => by
              have k1 := evs (u := G u) (fun n hn => (g1.env n (by simp)).trans (hu.env n hn)) x hx
              exact k1.trans (es x hx).symm
            have hbu : ∀ p, p ∈ ps → (G u).box p = (G s).box p := fun p hp => by
              rw [g1.box p (by simp), hsg.box p (by simp)]; exact hu.box p (hsub p hp)
            have hsome' : ∀ p, p ∈ ps → ((G u).box p).isSome = true := fun p hp => by rw [hbu p hp]; exact hsome p hp
            obtain ⟨pe1, pe2⟩ := putBoxes_env ps bs' (G u) 0
            refine ⟨hann s u eu, fun κ' κp' r' h' => ?_, fun i hi => ?_, fun i hi => ?_, ?_⟩
            · show stepOP E Φ ops o u κ' κp' = some r'
              unfold stepOP
              rw [g2]
              simp only [cond_true]
              unfold opStep
              rw [isM_congr egu, hm]
              simp only [cond_true]
              have hin : ∀ z, z = f ∨ z ∈ as.toList → z ∈ o.op.operands.toList := by
                intro z hz
                simp only [ho, Op.operands, Call.operands]
                rcases hz with hz | hz
                · simp [hz]
                · simp; exact .inr (by simpa using hz)
              have hevf := egu f (hin f (.inl rfl))
              have heva : as.toList.map (ev (G u).env) = as.toList.map (ev (G s).env) := List.map_congr_left fun z hz => egu z (hin z (.inr hz))
              have hbs' : boxesOf (G u) ps = some bs := by rw [boxesOf_agr hbu]; exact hbs
              simp only [mOp, ho, hevf, heva, callA, hf, hps, hvs, onO, hbs', hq, onRes, hlen, chk, cond_true]
              exact h'
            · show (putBoxes (G u) ps bs' 0).box (.out i) = u.box (.out i)
              rw [putBoxes_box hn hsome']
              cases hx : ixP ps (.out i) 0 with
              | none => exact g1.box _ (by simp)
              | some j => obtain ⟨j', _, hg⟩ := ixP_some hx; exact absurd (hsub _ (List.mem_of_getElem? hg)) hi
            · show (putBoxes (G u) ps bs' 0).box (.out i) = (putBoxes (G s) ps bs' 0).box (.out i)
              rw [putBoxes_box hn hsome', putBoxes_box hn hsome]
              cases hx : ixP ps (.out i) 0 with
              | some j => rfl
              | none =>
                rw [g1.box _ (by simp), hsg.box _ (by simp)]
                exact hu.box _ hi
            · exact pe2.trans g1.dfr
      · by_cases hpn : ∃ x, o.op = .panic x
        · obtain ⟨xo, ho⟩ := hpn
          simp only [mOp, ho] at h1
          split at h1
          · rename_i t v hx
            right
            refine ⟨t, v, G, h1, hdf, fun u hu => ?_⟩
            have eu := evs (u := u) hu.env
            obtain ⟨g1, g2⟩ := hgt u fun n hn => hu.env n (List.mem_append.2 (.inr hn))
            have egu : ∀ x, x ∈ o.op.operands.toList → ev (G u).env x = ev (G s).env x := fun x hx => by
              have k1 := evs (u := G u) (fun n hn => (g1.env n (by simp)).trans (hu.env n hn)) x hx
              exact k1.trans (es x hx).symm
            have hT : (annOf ops o s).T = [] := by simp [annOf, touches, ho]
            refine ⟨hann s u eu, fun κ' κp' r' h' => ?_, fun i hi => g1.box _ (by simp), fun i hi => ?_, g1.dfr⟩
            · show stepOP E Φ ops o u κ' κp' = some r'
              unfold stepOP
              rw [g2]
              simp only [cond_true]
              unfold opStep
              rw [isM_congr egu, hm]
              simp only [cond_true, mOp, ho]
              rw [egu xo (by simp [ho, Op.operands]), hx]
              exact h'
            · rw [hT] at hi; simp at hi
          · cases h1
        · left
          refine stay ?_
          unfold mOp at h1 ⊢
          cases ho : o.op <;> rw [ho] at h1 <;> (try exact h1)
          case call c =>
            obtain ⟨callee, as, tys⟩ := c
            cases callee <;> (try exact h1)
            case value f => exact absurd ⟨f, as, tys, ho⟩ hc
            case builtin bi => cases bi <;> exact h1
          case defer c =>
            obtain ⟨callee, as, tys⟩ := c
            cases callee <;> exact h1
          case panic x => exact absurd ⟨x, ho⟩ hpn

/-- One that panics, ahead of one that it need not wait for. -/
theorem swapP {a b : Ann} {s1 : St} {t : TypeId} {x : V} {F : St → St} (hok : okPair ops a b = true) (hnl : isLd b.o = false) (ha : a.m = false ∨ a.T.all isLocP = true) (ga : Good E Φ ops a s s1) (gb : PanAt E Φ ops b t x F s1) :
    PanAt E Φ ops b t x F s ∧ (∀ i, (F s).box (.out i) = (F s1).box (.out i)) := by
  simp only [okPair, Bool.and_eq_true, Bool.not_eq_true', Bool.or_eq_true] at hok
  obtain ⟨⟨⟨⟨⟨h1, h2⟩, h3⟩, h5⟩, h6⟩, h7⟩ := hok
  obtain ⟨ca, _⟩ := ga.frame
  have rb : ∀ n, n ∈ readsOf ops b.o → n ∉ Wr a := fun n hn hw => by
    rcases List.mem_append.1 hw with hw | hw
    · exact apartN_iff h1 hw hn
    · split at hw
      · rename_i hma
        rcases h6 with h6 | h6
        · rw [hma] at h6; cases h6
        · exact apartN_iff h6 hw hn
      · simp at hw
  have tb : ∀ p, p ∈ b.T → p ∉ TM a := fun p hp hw => by
    unfold TM at hw
    split at hw
    · rename_i hma
      rcases h5 with (h5 | h5) | h5
      · simp [hma] at h5
      · exact disj_iff h5 hw hp
      · simp [twoLd, hnl] at h5
    · simp at hw
  have hag : Agr (readsOf ops b.o) b.T s1 s := ⟨fun n hn => (ca.env n (rb n hn)).symm, fun p hp => (ca.box p (tb p hp)).symm, ca.dfr.symm⟩
  refine ⟨gb.move hag, gb.outs hag fun i _ => (ca.box _ fun hw => ?_).symm⟩
  unfold TM at hw
  split at hw
  · rename_i hma
    rcases ha with h | h
    · rw [hma] at h; cases h
    · have := List.all_eq_true.1 h _ hw
      simp [isLocP] at this
  · simp at hw

/-- It comes first. -/
theorem frontP {b : Ann} {t : TypeId} {x : V} {F : St → St} (hnl : isLd b.o = false) : ∀ {l : List Ann} {s s1 : St}, (∀ a, a ∈ l → okPair ops a b = true ∧ (a.m = false ∨ a.T.all isLocP = true)) → ARun E Φ ops l s s1 → PanAt E Φ ops b t x F s1 →
    PanAt E Φ ops b t x F s ∧ (∀ i, (F s).box (.out i) = (F s1).box (.out i)) ∧ s1.dfr = s.dfr
  | [], s, s1, _, h, hp => by cases h; exact ⟨hp, fun _ => rfl, rfl⟩
  | a :: l, s, s1, hok, h, hp => by
    cases h with
    | cons ga k =>
      obtain ⟨h1, h2, h3⟩ := frontP hnl (fun y hy => hok y (by simp [hy])) k hp
      obtain ⟨h4, h5⟩ := swapP (hok a (by simp)).1 hnl (hok a (by simp)).2 ga h1
      exact ⟨h4, fun i => (h5 i).trans (h2 i), h3.trans ga.frame.1.dfr⟩
theorem panAt_ld {a : Ann} {t : TypeId} {x : V} {F : St → St} {κp : TypeId → V → St → R} (h : PanAt E Φ ops a t x F s) : isLd a.o = false := by
  cases hl : isLd a.o with
  | false => rfl
  | true =>
    exfalso
    obtain ⟨_, h2, _⟩ := h.fr s (.refl _ _ _)
    have h3 := h2 (fun _ => none) (fun _ _ _ => some (.ret [] [])) (.ret [] []) rfl
    rcases step_split h3 h.df with h4 | ⟨_, _, _, _, _⟩
    · obtain ⟨_, h5, _⟩ := step_frame h4 h.df
      cases h5
    · -- a reading goes on
      unfold stepOP at h3
      obtain ⟨y, G, _, h5, _⟩ := guard_frame h3
      cases y with
      | false => cases h5
      | true =>
        simp only [cond_true] at h5
        unfold opStep at h5
        obtain ⟨tt, ad, ho⟩ : ∃ t ad, a.o.op = .load t ad := by
          unfold isLd at hl
          split at hl
          · rename_i t ad e; exact ⟨t, ad, e⟩
          · cases hl
        cases hm : isM a.o (ev (G s).env) ops with
        | false =>
          rw [hm] at h5
          simp only [cond_false] at h5
          obtain ⟨_, h6, _⟩ := uni_hOp _ _ h5
          cases h6
        | true =>
          rw [hm] at h5
          simp only [cond_true, mOp, ho] at h5
          obtain ⟨i, _, h6⟩ := ty_inv h5
          split at h6
          · obtain ⟨cs, _, h7⟩ := onO_inv h6
            obtain ⟨c0, _, h8⟩ := onO_inv h7
            obtain ⟨c, h9, _⟩ := (uni_viewC (E := E) (x := c0) (G := fun (c : C) (κ : C → R) => κ c) (fun n => uni_ret _)) _ _ h8
            obtain ⟨_, _, h10⟩ := paste_inv h9
            cases h10
          · cases h6

theorem runD_inv {ops : Array Oper} {κ : St → R} {κp : TypeId → V → St → R} : ∀ {rest : List Oper} {cl : List (List Nat)} {acc : List Ann} {s : St}, acc.map (·.o) ++ rest = ops.toList → Cl ops acc cl → runD E Φ ops.toList rest cl acc s κ κp = some r →
    (∃ L cl' s', L.map (·.o) = rest ∧ ARun E Φ ops.toList L s s' ∧ κ s' = some r ∧ Cl ops (acc ++ L) cl') ∨
    (∃ L b rest' cl' s1 t x F, L.map (·.o) ++ b.o :: rest' = rest ∧ ARun E Φ ops.toList L s s1 ∧ PanAt E Φ ops.toList b t x F s1 ∧ κp t x (F s1) = some r ∧ s1.dfr = none ∧ Cl ops (acc ++ L ++ [b]) cl' ∧
      laterOk (acc ++ L).length ((acc ++ L).length + 1) rest' cl' = true ∧ earlierOk (cl'.getD (acc ++ L).length []) (acc ++ L) 0 = true)
  | [], cl, acc, s, _, hcl, h => .inl ⟨[], cl, s, rfl, .nil s, h, by simpa using hcl⟩
  | o :: rest, cl, acc, s, hops, hcl, h => by
    simp only [runD] at h
    obtain ⟨hc, h1⟩ := chk_inv h
    simp only [Bool.and_eq_true, Bool.not_eq_true'] at hc
    obtain ⟨⟨c1, c2⟩, c3⟩ := hc
    have hget : ops[acc.length]? = some o := by
      rw [← Array.getElem?_toList, ← hops, List.getElem?_append_right (by simp)]
      simp
    have hpre : ∀ j, j < acc.length → (acc ++ [annOf ops.toList o s])[j]? = acc[j]? := fun j hj => List.getElem?_append_left hj
    have hcl' : Cl ops (acc ++ [annOf ops.toList o s]) (cl ++ [closOf o cl]) := by
      refine ⟨by simpa using hcl.s.snoc hget c2, fun i j x y hij hx hy => ?_⟩
      have hj : j < (acc ++ [annOf ops.toList o s]).length := (List.getElem?_eq_some_iff.1 hy).1
      simp only [List.length_append, List.length_singleton] at hj
      rw [hpre i (by omega)] at hx
      by_cases hja : j < acc.length
      · rw [hpre j hja] at hy
        rw [getD_snoc_lt (by rw [hcl.s.len]; exact hja)]
        exact hcl.pair i j x y hij hx hy
      · have : j = acc.length := by omega
        subst this
        rw [List.getElem?_append_right (Nat.le_refl _)] at hy
        simp at hy
        subst hy
        rw [getD_snoc_eq hcl.s.len.symm]
        have := okAll_get c3 i x hx
        rwa [Nat.zero_add] at this
    rcases step_split h1 c1 with h1 | ⟨t, x, F, h1, hp⟩
    · obtain ⟨F, h2, h3, h4⟩ := step_frame h1 c1
      obtain ⟨_, h5, _⟩ := h4 s ⟨fun _ _ => rfl, fun _ _ => rfl, rfl⟩
      rcases runD_inv (rest := rest) (acc := acc ++ [annOf ops.toList o s]) (by simpa [annOf] using hops) hcl' h2 with ⟨L, cl', s', k1, k2, k3, k4⟩ | ⟨L, b, rest', cl', s1, t, x, F', k1, k2, k3, k4, k5, k6, k7, k8⟩
      · exact .inl ⟨annOf ops.toList o s :: L, cl', s', by simp [k1, annOf], .cons ⟨rfl, c1, h5⟩ k2, k3, by simpa using k4⟩
      · refine .inr ⟨annOf ops.toList o s :: L, b, rest', cl', s1, t, x, F', by simp [← k1, annOf], .cons ⟨rfl, c1, h5⟩ k2, k3, k4, k5, by simpa using k6, ?_, ?_⟩
        · simpa using k7
        · simpa using k8
    · obtain ⟨hk, h2⟩ := chk_inv h1
      simp only [Bool.and_eq_true] at hk
      refine .inr ⟨[], annOf ops.toList o s, rest, cl ++ [closOf o cl], s, t, x, F, rfl, .nil s, hp, h2, by simpa using hk.1.1, by simpa using hcl', ?_, ?_⟩
      · simpa using hk.1.2
      · rw [List.append_nil, getD_snoc_eq hcl.s.len.symm]; exact hk.2

end

open Classical in
theorem draw_pan {P : Program} {E : Cfg} (hT : WellT P E.T) {W : Imm → World → Prop} (hW : Lasts W) {Φ : Callee} (hΦ : FnSpec P W Φ) {B : Base} {r : Res} {ops : Array Oper} {κp : TypeId → V → St → R} {Q : Exit → Act → World → Prop} (hB : W B.I0 B.w0) (hd : dstOk B.nt ops.toList = true)
    (hnp : ∀ t x u s a w, κp t x s = some r → PInv B s x u a w → Q (.panic [{ v := .iface t u, recovered := false }]) a w) {s : St} {a : Act} {w : World} (hi : Inv B s a w) (hκp : PanInv κp) {L : List Ann} {b : Ann} {rest' : List Oper} {cl0 : List (List Nat)} {sb : St} {tb : TypeId} {xb : V} {F : St → St}
    (hL : L.map (·.o) ++ b.o :: rest' = ops.toList) (hrun : ARun E Φ ops.toList L s sb) (hpan : PanAt E Φ ops.toList b tb xb F sb) (hkp : κp tb xb (F sb) = some r) (hdn : sb.dfr = none) (hcl0 : Cl ops (L ++ [b]) cl0)
    (hlat : laterOk L.length (L.length + 1) rest' cl0 = true) (hear : earlierOk (cl0.getD L.length []) L 0 = true) : wpAny P .any ops Q ops.size (Array.replicate ops.size false) a w := by
  obtain ⟨clF, hS, hpre, hlater⟩ := laterOk_full (ops := ops) (k := L.length) (pre := (L ++ [b]).map (·.o)) (rest := rest') (cl := cl0) (by simpa using hL) (by simpa using hcl0.s) (by simpa using hlat)
  simp only [List.length_map, List.length_append, List.length_singleton] at hpre hlater
  have hget : ∀ (i : Nat) (x : Ann), L[i]? = some x → ops[i]? = some x.o := fun i x hx => by
    rw [← Array.getElem?_toList, ← hL, List.getElem?_append_left (by simpa using (List.getElem?_eq_some_iff.1 hx).1), List.getElem?_map, hx]; rfl
  have hgb : ops[L.length]? = some b.o := by
    rw [← Array.getElem?_toList, ← hL, List.getElem?_append_right (by simp)]; simp
  have hlt : L.length < ops.size := (Array.getElem?_eq_some_iff.1 hgb).1
  have hnl := panAt_ld (κp := κp) hpan
  have hFd : ∀ {u : St}, PanAt E Φ ops.toList b tb xb F u → (F u).dfr = u.dfr := fun h => (h.fr _ (.refl _ _ _)).2.2.2.2
  have key : ∀ (fuel : Nat) (listed : Array Bool) (rem : List Nat) (s : St) (a : Act) (w : World) (s1 : St), Inv B s a w → rem.length = fuel → listed.size = ops.size → rem.Pairwise (· < ·) → (∀ i, i ∈ rem ↔ i < ops.size ∧ listed.getD i true = false) →
      (∀ j, j < ops.size → listed.getD j true = true → ∀ k, k ∈ clF.getD j [] → listed.getD k true = true) → L.length ∈ rem →
      ARun E Φ ops.toList (rem.filterMap (L[·]?)) s s1 → PanAt E Φ ops.toList b tb xb F s1 → κp tb xb (F s1) = some r → s1.dfr = none → wpAny P .any ops Q fuel listed a w := by
    intro fuel
    induction fuel with
    | zero =>
      intro listed rem s a w s1 hi hl hsz hpw hmem hclo hin
      have hr0 : rem = [] := List.eq_nil_of_length_eq_zero hl
      subst hr0
      simp at hin
    | succ fuel ih =>
      intro listed rem s a w s1 hi hl hsz hpw hmem hclo hin hr hp hk hdn
      refine ⟨fun hready => ?_, fun i hir => ?_⟩
      · exfalso
        cases rem with
        | nil => simp at hl
        | cons i0 rem =>
          have h0 := (hmem i0).1 (by simp)
          have hx : i0 ∈ Region.ready .any ops listed := by
            unfold Region.ready
            rw [List.mem_filter]
            refine ⟨by simpa using h0.1, ?_⟩
            have ho : ops[i0]? = some ops[i0] := Array.getElem?_eq_getElem h0.1
            simp only [h0.2, Bool.not_false, Bool.true_and, ho, Option.map_some, Option.getD_some]
            rw [← Array.all_toList, List.all_eq_true]
            intro e he
            cases hb : Region.binds .any e with
            | false => rfl
            | true =>
              simp only [Bool.not_true, Bool.false_or]
              have hlt := hS.back i0 _ h0.1 ho e he hb
              have hlt' : e.on < listed.size := by omega
              cases hle : listed.getD e.on true with
              | false =>
                have := (hmem e.on).2 ⟨by omega, hle⟩
                rcases List.mem_cons.1 this with h | h
                · omega
                · have := (List.pairwise_cons.1 hpw).1 _ h; omega
              | true =>
                simp only [Array.getD_eq_getD_getElem?, Array.getElem?_eq_getElem hlt', Option.getD_some] at hle ⊢
                exact hle
          rw [hready] at hx
          simp at hx
      · unfold Region.ready at hir
        rw [List.mem_filter] at hir
        obtain ⟨hi1, hi2⟩ := hir
        simp only [List.mem_range] at hi1
        simp only [Bool.and_eq_true, Bool.not_eq_true'] at hi2
        obtain ⟨hi2, hi3⟩ := hi2
        have hirem := (hmem i).2 ⟨hi1, hi2⟩
        obtain ⟨oi, hoi⟩ : ∃ o, ops[i]? = some o := ⟨_, Array.getElem?_eq_getElem hi1⟩
        simp only [hoi, Option.map_some, Option.getD_some] at hi3
        rw [← Array.all_toList, List.all_eq_true] at hi3
        have hpre' : ∀ e, e ∈ oi.after.toList → Region.binds .any e = true → listed.getD e.on true = true := fun e he hb => by
          have := hi3 e he
          rw [hb] at this
          simp only [Bool.not_true, Bool.false_or] at this
          have hlt := hS.back i _ hi1 hoi e he hb
          have hlt' : e.on < listed.size := by omega
          simp only [Array.getD_eq_getD_getElem?, Array.getElem?_eq_getElem hlt', Option.getD_some] at this ⊢
          exact this
        have hcli : ∀ k, k ∈ clF.getD i [] → listed.getD k true = true := fun k hk => by
          obtain ⟨e, k1, k2, k3⟩ := hS.down i _ hi1 hoi k hk
          have h1 := hpre' e k1 k2
          rcases k3 with k3 | k3
          · rw [k3]; exact h1
          · have := hS.back i _ hi1 hoi e k1 k2
            exact hclo e.on (by omega) h1 k k3
        rcases Nat.lt_trichotomy i L.length with hik | hik | hik
        · obtain ⟨l1, l2, hsplit⟩ := List.append_of_mem hirem
          obtain ⟨ai, hai⟩ : ∃ ai, L[i]? = some ai := ⟨L[i]'hik, List.getElem?_eq_getElem hik⟩
          have hoi' := hget i ai hai
          rw [hoi] at hoi'
          cases hoi'
          subst hsplit
          have hpw' := List.pairwise_append.1 hpw
          rw [List.filterMap_append, List.filterMap_cons, hai] at hr
          simp only at hr
          have hok : ∀ x, x ∈ l1.filterMap (L[·]?) → okPair ops.toList x ai = true := by
            intro x hx
            obtain ⟨j, hj, hjx⟩ := List.mem_filterMap.1 hx
            have hji : j < i := hpw'.2.2 j hj i (by simp)
            rcases hcl0.pair j i x ai hji (by rw [List.getElem?_append_left (by omega)]; exact hjx) (by rw [List.getElem?_append_left hik]; exact hai) with h | h
            · rw [← hpre i (by omega)] at h
              have h1 := hcli j h
              have h2 := ((hmem j).1 (by simp [hj])).2
              rw [h2] at h1; cases h1
            · exact h
          obtain ⟨s'', hr', hss⟩ := front hok hr
          rw [← List.filterMap_append] at hr'
          have hag : Agr (readsOf ops.toList b.o) b.T s1 s'' := ⟨fun n _ => (hss.env n).symm, fun p _ => (hss.box p).symm, hss.dfr.symm⟩
          have hp'' := hp.move hag
          have hd'' : s''.dfr = none := hss.dfr.symm.trans hdn
          have hk'' : κp tb xb (F s'') = some r := by
            rw [← hk]
            exact hκp tb xb _ _ ((hFd hp'').trans hd'') ((hFd hp).trans hdn) fun i => hp.outs hag (fun i _ => (hss.box _).symm) i
          cases hr' with
          | cons g k =>
            rename_i s2
            have hstep := g.to (fun x => if x = s2 then some r else none) r (by simp)
            have hod := dstOk_get hd (Array.mem_toList_iff.2 (Array.mem_of_getElem? hoi))
            have hne : L.length ≠ i := by omega
            have next : ∀ (a' : Act) (w' : World), Inv B s2 a' w' → wpAny P .any ops Q fuel (listed.setIfInBounds i true) a' w' := by
              intro a' w' hi'
              have hgs : ∀ j, (listed.setIfInBounds i true).getD j true = if j = i then true else listed.getD j true := fun j => by
                simp only [Array.getD_eq_getD_getElem?, Array.getElem?_setIfInBounds]
                by_cases e : i = j
                · subst e; simp; split <;> rfl
                · rw [if_neg e, if_neg (fun h => e h.symm)]
              refine ih (listed.setIfInBounds i true) (l1 ++ l2) s2 a' w' s'' hi' ?_ (by simpa using hsz) ?_ ?_ ?_ ?_ k hp'' hk'' hd''
              · simp at hl ⊢; omega
              · exact hpw.sublist (by simp)
              · intro j
                rw [hgs]
                have hj := hmem j
                simp only [List.mem_append, List.mem_cons] at hj ⊢
                by_cases e : j = i
                · subst e
                  simp only [if_true, Bool.true_eq_false, and_false, iff_false]
                  rintro (h | h)
                  · exact absurd (hpw'.2.2 j h j (by simp)) (by omega)
                  · exact absurd ((List.pairwise_cons.1 hpw'.2.1).1 j h) (by omega)
                · rw [if_neg e, ← hj]
                  constructor
                  · rintro (h | h)
                    · exact .inl h
                    · exact .inr (.inr h)
                  · rintro (h | h | h)
                    · exact .inl h
                    · exact absurd h e
                    · exact .inr h
              · intro j hj hlj k hk
                rw [hgs] at hlj ⊢
                by_cases e : k = i
                · rw [if_pos e]
                · rw [if_neg e]
                  by_cases e' : j = i
                  · subst e'; exact hcli k hk
                  · rw [if_neg e'] at hlj; exact hclo j hj hlj k hk
              · rcases List.mem_append.1 hin with h | h
                · exact List.mem_append.2 (.inl h)
                · rcases List.mem_cons.1 h with h | h
                  · exact absurd h hne
                  · exact List.mem_append.2 (.inr h)
            unfold wpOp
            rw [hoi]
            simp only
            unfold stepO stepOP at hstep
            rcases guard_ok hi hstep with ⟨hw, sg, h1, hig⟩ | ⟨hw, sg, h1, hig⟩
            · rw [if_pos hw]
              refine .inl (op_sound hT hW hΦ hB hod hig h1 (fun s3 a' w' k1 k2 => ?_) (fun t x u s3 a' w' k1 => by cases k1))
              by_cases e : s3 = s2
              · subst e; exact next a' w' k2
              · simp only [if_neg e] at k1; cases k1
            · rw [hw]
              simp only [Bool.false_eq_true, if_false]
              obtain ⟨mp, ow, I, c⟩ := hig
              have hput := (c.mid (v := .und) (x := undef) ⟨rfl, rfl⟩).put ai.o.dst hod
              by_cases e : sg.put ai.o.dst .und = s2
              · rw [e] at hput; exact next _ _ hput
              · simp only [if_neg e] at h1; cases h1
        · subst hik
          rw [hgb] at hoi
          cases hoi
          have hok : ∀ x, x ∈ rem.filterMap (L[·]?) → okPair ops.toList x b = true ∧ (x.m = false ∨ x.T.all isLocP = true) := by
            intro x hx
            obtain ⟨j, hj, hjx⟩ := List.mem_filterMap.1 hx
            have hji : j < L.length := (List.getElem?_eq_some_iff.1 hjx).1
            have hnot : j ∉ cl0.getD L.length [] := fun h => by
              rw [← hpre L.length (by omega)] at h
              have h1 := hcli j h
              have h2 := ((hmem j).1 hj).2
              rw [h2] at h1; cases h1
            refine ⟨(hcl0.pair j L.length x b hji (by rw [List.getElem?_append_left hji]; exact hjx) (by rw [List.getElem?_append_right (Nat.le_refl _)]; simp)).resolve_left hnot, ?_⟩
            exact (earlierOk_get hear j x hjx).resolve_left (by rw [Nat.zero_add]; exact hnot)
          obtain ⟨hps, houts, hds⟩ := frontP hnl hok hr hp
          have hks : κp tb xb (F s) = some r := by
            rw [← hk]
            exact hκp tb xb _ _ ((hFd hps).trans (hds.symm.trans hdn)) ((hFd hp).trans hdn) houts
          have hstep := (hps.fr s (.refl _ _ _)).2.1 (fun _ => none) κp r hks
          have hod := dstOk_get hd (Array.mem_toList_iff.2 (Array.mem_of_getElem? hgb))
          unfold wpOp
          rw [hgb]
          simp only
          unfold stepOP at hstep
          rcases guard_ok hi hstep with ⟨hw, sg, h1, hig⟩ | ⟨hw, sg, h1, hig⟩
          · rw [if_pos hw]
            exact .inl (op_sound hT hW hΦ hB hod hig h1 (fun s3 a' w' k1 k2 => by cases k1) (fun t x u s3 a' w' k1 k2 => hnp t x u s3 a' w' k1 k2))
          · cases h1
        · have h1 := hcli _ (hlater i (by omega) hi1)
          have h2 := ((hmem _).1 hin).2
          rw [h2] at h1; cases h1
  refine key ops.size _ (List.range ops.size) s a w sb hi (by simp) (by simp) List.pairwise_lt_range ?_ ?_ (by simpa using hlt) ?_ hpan hkp hdn
  · intro i
    simp only [List.mem_range, Array.getD_eq_getD_getElem?, Array.getElem?_replicate]
    constructor
    · intro h; exact ⟨h, by simp [h]⟩
    · exact fun h => h.1
  · intro j hj h
    simp [Array.getD_eq_getD_getElem?, Array.getElem?_replicate, hj] at h
  · have : (List.range ops.size).filterMap (L[·]?) = L := by
      have h1 : ∀ (l : List Ann) (n : Nat), l.length ≤ n → (List.range n).filterMap (fun i => l[i]?) = l := by
        intro l
        induction l with
        | nil => intro n _; induction n with
          | zero => rfl
          | succ n ih => rw [List.range_succ]; simp
        | cons x l ih =>
          intro n hn
          cases n with
          | zero => simp at hn
          | succ n =>
            rw [List.range_succ_eq_map, List.filterMap_cons]
            simp only [List.getElem?_cons_zero]
            rw [List.filterMap_map]
            have : ((fun i => (x :: l)[i]?) ∘ Nat.succ) = fun i => l[i]? := by funext i; simp
            rw [this, ih n (by simpa using hn)]
      exact h1 L ops.size (by omega)
    rw [this]; exact hrun

open Classical in
theorem draw_sound {P : Program} {E : Cfg} (hT : WellT P E.T) {W : Imm → World → Prop} (hW : Lasts W) (hm : P.follows .mixedOrders = true) {Φ : Callee} (hΦ : FnSpec P W Φ) : DrawSound P E Φ W := by
  intro B r ops κ κp Q hB hd hn hnp s a w hi h hκ hκp t
  simp only [Region.schedule, hm, Bool.true_or, if_true]
  rcases runD_inv (rest := ops.toList) (acc := []) (by simp) ⟨⟨rfl, by simp, by simp⟩, by simp⟩ h with ⟨L, cl, s', hL, hrun, hks, hcl⟩ | ⟨L, b, rest', cl, sb, tb, xb, F, hL, hrun, hpan, hkp, hdn, hcl, hlat, hear⟩
  rotate_left
  · refine wpAny_sound ops.size t _ a _ (draw_pan hT hW hΦ hB hd hnp (s := s) ?_ hκp hL hrun hpan hkp hdn (by simpa using hcl) (by simpa using hlat) (by simpa using hear))
    obtain ⟨mp, ow, I, c⟩ := hi
    exact ⟨mp, ow, I, c.go (Step.drew I w) (fun _ _ _ _ h => h) (fun _ h => h.elim)⟩
  simp only [List.nil_append] at hcl
  have hlen : L.length = ops.size := by have := congrArg List.length hL; simpa using this
  have hget : ∀ (i : Nat) (x : Ann), L[i]? = some x → ops[i]? = some x.o := fun i x hx => by
    rw [← Array.getElem?_toList, ← hL, List.getElem?_map, hx]; rfl
  have key : ∀ (fuel : Nat) (listed : Array Bool) (rem : List Nat) (s : St) (a : Act) (w : World) (s' : St), Inv B s a w → rem.length = fuel → listed.size = ops.size → rem.Pairwise (· < ·) → (∀ i, i ∈ rem ↔ i < ops.size ∧ listed.getD i true = false) →
      (∀ j, j < ops.size → listed.getD j true = true → ∀ k, k ∈ cl.getD j [] → listed.getD k true = true) →
      ARun E Φ ops.toList (rem.filterMap (L[·]?)) s s' → κ s' = some r → wpAny P .any ops Q fuel listed a w := by
    intro fuel
    induction fuel with
    | zero =>
      intro listed rem s a w s' hi hl hsz hpw hmem hclo hr hk
      have hr0 : rem = [] := List.eq_nil_of_length_eq_zero hl
      subst hr0
      refine ⟨?_, ?_⟩
      · unfold Region.ready
        rw [List.filter_eq_nil_iff]
        intro i hi' hc
        simp only [Bool.and_eq_true, Bool.not_eq_true'] at hc
        have := (hmem i).2 ⟨by simpa using hi', hc.1⟩
        simp at this
      · simp only [List.filterMap_nil] at hr
        cases hr
        exact hn s a w hk hi
    | succ fuel ih =>
      intro listed rem s a w s' hi hl hsz hpw hmem hclo hr hk
      refine ⟨fun hready => ?_, fun i hir => ?_⟩
      · -- the first of those left is ready
        exfalso
        cases rem with
        | nil => simp at hl
        | cons i0 rem =>
          have h0 := (hmem i0).1 (by simp)
          have hx : i0 ∈ Region.ready .any ops listed := by
            unfold Region.ready
            rw [List.mem_filter]
            refine ⟨by simpa using h0.1, ?_⟩
            have ho : ops[i0]? = some ops[i0] := Array.getElem?_eq_getElem h0.1
            simp only [h0.2, Bool.not_false, Bool.true_and, ho, Option.map_some, Option.getD_some]
            rw [← Array.all_toList, List.all_eq_true]
            intro e he
            cases hb : Region.binds .any e with
            | false => rfl
            | true =>
              simp only [Bool.not_true, Bool.false_or]
              have hlt := hcl.s.back i0 _ (by omega) ho e he hb
              have hlt' : e.on < listed.size := by omega
              cases hle : listed.getD e.on true with
              | false =>
                have := (hmem e.on).2 ⟨by omega, hle⟩
                rcases List.mem_cons.1 this with h | h
                · omega
                · have := (List.pairwise_cons.1 hpw).1 _ h; omega
              | true =>
                simp only [Array.getD_eq_getD_getElem?, Array.getElem?_eq_getElem hlt', Option.getD_some] at hle ⊢
                exact hle
          rw [hready] at hx
          simp at hx
      · unfold Region.ready at hir
        rw [List.mem_filter] at hir
        obtain ⟨hi1, hi2⟩ := hir
        simp only [List.mem_range] at hi1
        simp only [Bool.and_eq_true, Bool.not_eq_true'] at hi2
        obtain ⟨hi2, hi3⟩ := hi2
        have hirem := (hmem i).2 ⟨hi1, hi2⟩
        obtain ⟨l1, l2, hsplit⟩ := List.append_of_mem hirem
        have hLi : ∃ ai, L[i]? = some ai := ⟨L[i]'(by omega), List.getElem?_eq_getElem (by omega)⟩
        obtain ⟨ai, hai⟩ := hLi
        have hoi := hget i ai hai
        simp only [hoi, Option.map_some, Option.getD_some] at hi3
        rw [← Array.all_toList, List.all_eq_true] at hi3
        have hpre : ∀ e, e ∈ ai.o.after.toList → Region.binds .any e = true → listed.getD e.on true = true := fun e he hb => by
          have := hi3 e he
          rw [hb] at this
          simp only [Bool.not_true, Bool.false_or] at this
          have hlt := hcl.s.back i _ (by omega) hoi e he hb
          have hlt' : e.on < listed.size := by omega
          simp only [Array.getD_eq_getD_getElem?, Array.getElem?_eq_getElem hlt', Option.getD_some] at this ⊢
          exact this
        have hcli : ∀ k, k ∈ cl.getD i [] → listed.getD k true = true := fun k hk => by
          obtain ⟨e, k1, k2, k3⟩ := hcl.s.down i _ (by omega) hoi k hk
          have h1 := hpre e k1 k2
          rcases k3 with k3 | k3
          · rw [k3]; exact h1
          · have := hcl.s.back i _ (by omega) hoi e k1 k2
            exact hclo e.on (by omega) h1 k k3
        subst hsplit
        have hpw' := List.pairwise_append.1 hpw
        rw [List.filterMap_append, List.filterMap_cons, hai] at hr
        simp only at hr
        have hok : ∀ x, x ∈ l1.filterMap (L[·]?) → okPair ops.toList x ai = true := by
          intro x hx
          obtain ⟨j, hj, hjx⟩ := List.mem_filterMap.1 hx
          have hji : j < i := hpw'.2.2 j hj i (by simp)
          rcases hcl.pair j i x ai hji hjx hai with h | h
          · have h1 := hcli j h
            have h2 := ((hmem j).1 (by simp [hj])).2
            rw [h2] at h1; cases h1
          · exact h
        obtain ⟨s'', hr', hss⟩ := front hok hr
        rw [← List.filterMap_append] at hr'
        have hk'' : κ s'' = some r := by rw [← hκ _ _ hss]; exact hk
        cases hr' with
        | cons g k =>
          rename_i s1
          have hstep := g.to (fun x => if x = s1 then some r else none) r (by simp)
          have hod := dstOk_get hd (Array.mem_toList_iff.2 (Array.mem_of_getElem? hoi))
          have next : ∀ (a' : Act) (w' : World), Inv B s1 a' w' → wpAny P .any ops Q fuel (listed.setIfInBounds i true) a' w' := by
            intro a' w' hi'
            have hgs : ∀ j, (listed.setIfInBounds i true).getD j true = if j = i then true else listed.getD j true := fun j => by
              simp only [Array.getD_eq_getD_getElem?, Array.getElem?_setIfInBounds]
              by_cases e : i = j
              · subst e; simp; split <;> rfl
              · rw [if_neg e, if_neg (fun h => e h.symm)]
            refine ih (listed.setIfInBounds i true) (l1 ++ l2) s1 a' w' s'' hi' ?_ (by simpa using hsz) ?_ ?_ ?_ k hk''
            · simp at hl ⊢; omega
            · exact hpw.sublist (by simp)
            · intro j
              rw [hgs]
              have hj := hmem j
              simp only [List.mem_append, List.mem_cons] at hj ⊢
              by_cases e : j = i
              · subst e
                simp only [if_true, Bool.true_eq_false, and_false, iff_false]
                rintro (h | h)
                · exact absurd (hpw'.2.2 j h j (by simp)) (by omega)
                · exact absurd ((List.pairwise_cons.1 hpw'.2.1).1 j h) (by omega)
              · rw [if_neg e, ← hj]
                constructor
                · rintro (h | h)
                  · exact .inl h
                  · exact .inr (.inr h)
                · rintro (h | h | h)
                  · exact .inl h
                  · exact absurd h e
                  · exact .inr h
            · intro j hj hlj k hk
              rw [hgs] at hlj ⊢
              by_cases e : k = i
              · rw [if_pos e]
              · rw [if_neg e]
                by_cases e' : j = i
                · subst e'; exact hcli k hk
                · rw [if_neg e'] at hlj; exact hclo j hj hlj k hk
          unfold wpOp
          rw [hoi]
          simp only
          unfold stepO at hstep
          rcases guard_ok hi hstep with ⟨hw, sg, h1, hig⟩ | ⟨hw, sg, h1, hig⟩
          · rw [if_pos hw]
            refine .inl (op_sound hT hW hΦ hB hod hig h1 (fun s2 a' w' k1 k2 => ?_) (fun t x u s2 a' w' k1 => by cases k1))
            by_cases e : s2 = s1
            · subst e; exact next a' w' k2
            · simp only [if_neg e] at k1; cases k1
          · rw [hw]
            simp only [Bool.false_eq_true, if_false]
            obtain ⟨mp, ow, I, c⟩ := hig
            have hput := (c.mid (v := .und) (x := undef) ⟨rfl, rfl⟩).put ai.o.dst hod
            by_cases e : sg.put ai.o.dst .und = s1
            · rw [e] at hput; exact next _ _ hput
            · simp only [if_neg e] at h1; cases h1
  refine wpAny_sound ops.size t _ a _ (key ops.size _ (List.range ops.size) s a _ s' ?_ (by simp) (by simp) List.pairwise_lt_range ?_ ?_ ?_ hks)
  · obtain ⟨mp, ow, I, c⟩ := hi
    exact ⟨mp, ow, I, c.go (Step.drew I w) (fun _ _ _ _ h => h) (fun _ h => h.elim)⟩
  · intro i
    simp only [List.mem_range, Array.getD_eq_getD_getElem?, Array.getElem?_replicate]
    constructor
    · intro h; exact ⟨h, by simp [h]⟩
    · exact fun h => h.1
  · intro j hj h
    simp [Array.getD_eq_getD_getElem?, Array.getElem?_replicate, hj] at h
  · have : (List.range ops.size).filterMap (L[·]?) = L := by
      rw [← hlen]
      have : ∀ l : List Ann, (List.range l.length).filterMap (fun i => l[i]?) = l := by
        intro l
        induction l with
        | nil => rfl
        | cons x l ih =>
          rw [List.length_cons, List.range_succ_eq_map]
          simp only [List.filterMap_cons, List.getElem?_cons_zero, List.filterMap_map]
          congr 1
      exact this L
    rw [this]; exact hrun

end Go.Proofs.YtmbhohnoolflbaaDoorX
