/-
  CODE AND FUNCTIONS.
-/
import Derived.Test.YtmbhohnoolflbaaDoorXRun
set_option linter.unusedVariables false
set_option linter.unusedSimpArgs false
namespace Go.Proofs.YtmbhohnoolflbaaDoorX

theorem dedupP_keeps : ∀ (l acc : List PRef) (p : PRef), (p ∈ l ∨ p ∈ acc) → p ∈ dedupP l acc
  | [], acc, p, h => by simp [dedupP] at h ⊢; exact h
  | q :: r, acc, p, h => by
    simp only [dedupP]
    split
    · rename_i j hj
      obtain ⟨i, _, h2⟩ := ixP_some hj
      refine dedupP_keeps r acc p ?_
      rcases h with h | h
      · rcases List.mem_cons.1 h with h | h
        · subst h; exact .inr (List.mem_of_getElem? h2)
        · exact .inl h
      · exact .inr h
    · refine dedupP_keeps r (q :: acc) p ?_
      rcases h with h | h
      · rcases List.mem_cons.1 h with h | h
        · exact .inr (by simp [h])
        · exact .inl h
      · exact .inr (by simp [h])
theorem getE_canonE (e : List (Nat × AV)) (t : Nat) : ∀ ts : List Nat, getE (canonE e ts) t = if t ∈ ts then getE e t else .top
  | [] => by simp [canonE, getE, assoc]
  | n :: r => by
    have ih := getE_canonE e t r
    simp only [canonE]
    by_cases h : n = t
    · subst h; simp [getE, assoc]
    · have hb : Nat.beq n t = false := beqF h
      simp only [getE, assoc, hb, cond_false] at ih ⊢
      rw [ih]
      simp [show ¬ t = n from fun e => h e.symm]
theorem mem_canonE (e : List (Nat × AV)) {t : Nat} : ∀ {ts : List Nat}, t ∈ ts → (t, getE e t) ∈ canonE e ts
  | [], h => by simp at h
  | n :: r, h => by
    simp only [canonE, List.mem_cons] at h ⊢
    rcases h with h | h
    · subst h; exact .inl rfl
    · exact .inr (mem_canonE e h)
theorem assoc_canonLoc (loc : List (Nat × List C)) (n : Nat) : ∀ ps : List PRef, assoc (canonLoc loc ps) n = if .loc n ∈ ps then assoc loc n else none
  | [] => by simp [canonLoc, assoc]
  | .out i :: r => by simp [canonLoc, assoc_canonLoc loc n r]
  | .loc m :: r => by
    have ih := assoc_canonLoc loc n r
    simp only [canonLoc]
    by_cases h : m = n
    · subst h
      simp only [List.mem_cons, true_or, if_true]
      cases hm : assoc loc m with
      | none => simp only; rw [ih, hm]; split <;> rfl
      | some b => simp [assoc]
    · have hb : Nat.beq m n = false := beqF h
      have hne : ¬ PRef.loc n = PRef.loc m := fun e => by cases e; exact h rfl
      cases hm : assoc loc m with
      | none => simp only; rw [ih]; simp [hne]
      | some b => simp only [assoc, hb, cond_false]; rw [ih]; simp [hne]

section
variable {P : Program} {E : Cfg} {B : Base} {s : St} {a : Act} {w : World} {r : Res}

theorem Inv.canon (h : Inv B s a w) (ts : List Nat) : Inv B (canon ts s) a w := by
  obtain ⟨mp, ow, I, c⟩ := h
  let ms := mentions (canonE s.env ts) s.dfr
  let mp' : PRef → Option Nat := fun p => match p with
    | .out i => mp (.out i)
    | .loc n => if .loc n ∈ ms then mp (.loc n) else none
  have hmm : ∀ p, p ∈ ms → ∀ b, mp p = some b → mp' p = some b := by
    intro p hp b hb
    cases p with
    | out i => exact hb
    | loc n => simp only [mp']; rw [if_pos hp]; exact hb
  have hsub : ∀ p b, mp' p = some b → mp p = some b := by
    intro p b hb
    cases p with
    | out i => exact hb
    | loc n => simp only [mp'] at hb; split at hb
               · exact hb
               · cases hb
  refine ⟨mp', ow, I, ?_⟩
  constructor
  case env =>
    intro t
    show ∃ ts', relA I w mp' (getE (canonE s.env ts) t) _ ts' ∧ _
    rw [getE_canonE]
    by_cases ht : t ∈ ts
    · rw [if_pos ht]
      obtain ⟨ts', k1, k2⟩ := c.env t
      refine ⟨ts', relA_mono (fun p hp b hb => hmm p ?_ b hb) k1, k2⟩
      exact dedupP_keeps _ _ _ (.inl (List.mem_append.2 (.inl (List.mem_flatMap.2 ⟨_, mem_canonE s.env ht, hp⟩))))
    · rw [if_neg ht]; exact ⟨[], rfl, .nil _ _⟩
  case box =>
    intro p cs hp
    cases p with
    | out i => obtain ⟨b, tb, k1, k2⟩ := c.box (.out i) cs hp; exact ⟨b, tb, k1, k2⟩
    | loc n =>
      have hp' : assoc (canonLoc s.loc ms) n = some cs := hp
      rw [assoc_canonLoc] at hp'
      split at hp'
      · rename_i hm
        obtain ⟨b, tb, k1, k2⟩ := c.box (.loc n) cs hp'
        exact ⟨b, tb, hmm _ hm b k1, k2⟩
      · cases hp'
  case dom =>
    intro p hp
    cases p with
    | out i => exact c.dom (.out i) hp
    | loc n =>
      have hp' : assoc (canonLoc s.loc ms) n = none := hp
      rw [assoc_canonLoc] at hp'
      simp only [mp']
      split at hp'
      · rename_i hm; rw [if_pos hm]; exact c.dom (.loc n) hp'
      · rename_i hm; rw [if_neg hm]
  case outs => exact c.outs
  case fresh => exact c.fresh
  case lt => exact c.lt
  case bnd => exact c.bnd
  case size => exact c.size
  case step => exact c.step
  case dfr =>
    refine c.dfr.mono (fun f ps hd p hp b hb => hmm p ?_ b hb)
    exact dedupP_keeps _ _ _ (.inl (List.mem_append.2 (.inr (by rw [show s.dfr = some (f, ps) from hd]; exact hp))))

theorem Inv.pre (h : Inv B s a w) (f : FuncId) (c : Code) : Inv B (pre E f c s) a w := by
  unfold YtmbhohnoolflbaaDoorX.pre
  split
  · split
    · exact h.canon _
    · exact h
  · exact h
theorem Inv.post (h : Inv B s a w) (f : FuncId) (id : Nat) : Inv B (post E f id s) a w := by
  unfold YtmbhohnoolflbaaDoorX.post
  split
  · exact h.canon _
  · exact h

/-- What the continuations promise. -/
structure Ks (B : Base) (r : Res) (Q : Exit → Act → World → Prop) (κ : St → R) (κx : Nat → St → R) (κr : St → R) (κp : TypeId → V → St → R) : Prop where
  kn : ∀ s a w, κ s = some r → Inv B s a w → Q .normal a w
  kx : ∀ i s a w, κx i s = some r → Inv B s a w → Q (.exit i) a w
  kr : ∀ s a w, κr s = some r → Inv B s a w → Q .ret a w
  kp : ∀ t x u s a w, κp t x s = some r → PInv B s x u a w → Q (.panic [{ v := .iface t u, recovered := false }]) a w

def opsAt (ops : Array Oper) (idx : List Nat) : List Oper := idx.filterMap fun i => ops[i]?
theorem opsAt_range (ops : Array Oper) : opsAt ops (List.range ops.size) = ops.toList := by
  have : ∀ l : List Oper, (List.range l.length).filterMap (fun i => l[i]?) = l := by
    intro l
    induction l with
    | nil => rfl
    | cons x l ih =>
      rw [List.length_cons, List.range_succ_eq_map]
      simp only [List.filterMap_cons, List.getElem?_cons_zero, List.filterMap_map]
      congr 1
  have h := this ops.toList
  simpa [opsAt] using h

def dstOk (nt : Nat) (ops : List Oper) : Bool := ops.all fun o => match o.dst with | some n => Nat.blt n nt | none => true
theorem dstOk_get {nt : Nat} {ops : List Oper} (h : dstOk nt ops = true) {o : Oper} (ho : o ∈ ops) : ∀ n, o.dst = some n → n < nt := by
  intro n hn
  simp only [dstOk, List.all_eq_true] at h
  have := h o ho
  rw [hn] at this
  exact Nat.le_of_ble_eq_true this

theorem guard_ok {o : Oper} {ops : Array Oper} {yes no : St → R} (hc : Inv B s a w) (h : guardA ops.toList o s yes no = some r) :
    (Region.wanted o (yielded ops a.tmps) = true ∧ ∃ s', yes s' = some r ∧ Inv B s' a w) ∨ (Region.wanted o (yielded ops a.tmps) = false ∧ ∃ s', no s' = some r ∧ Inv B s' a w) := by
  unfold guardA at h
  split at h
  · rename_i hg
    exact .inl ⟨by simp [Region.wanted, hg], s, h, hc⟩
  · rename_i j want hg
    obtain ⟨oj, hoj, h1⟩ := onO_inv h
    obtain ⟨d, hd, h2⟩ := onO_inv h1
    rw [nth_eq, Array.getElem?_toList] at hoj
    obtain ⟨mp, ow, I, c⟩ := hc
    obtain ⟨ts, hv, hh⟩ := c.env d
    have hy : yielded ops a.tmps j = match a.tmps[d]? with | some (.bool b) => some b | _ => none := by
      unfold yielded
      simp only [hoj, Option.bind_some, hd]
      rfl
    split at h2
    · rename_i he
      rw [he] at hv
      refine .inr ⟨?_, s, h2, mp, ow, I, c⟩
      have hu : a.tmps.getD d undef = undef := hv.1
      have : yielded ops a.tmps j = none := by
        rw [hy]
        rw [Array.getD_eq_getD_getElem?] at hu
        cases hx : a.tmps[d]? with
        | none => rfl
        | some v => rw [hx] at hu; simp at hu; subst hu; rfl
      simp [Region.wanted, hg, this]
    · rename_i b he
      rw [he] at hv
      have hu : a.tmps.getD d undef = .bool b := hv.1
      have hyb : yielded ops a.tmps j = some b := by
        rw [hy]
        rw [Array.getD_eq_getD_getElem?] at hu
        cases hx : a.tmps[d]? with
        | none => rw [hx] at hu; simp [undef] at hu
        | some v => rw [hx] at hu; simp at hu; subst hu; rfl
      have hw : Region.wanted o (yielded ops a.tmps) = (b == want) := by simp [Region.wanted, hg, hyb]
      have hs : ∀ b', b' = b → Inv B { s with env := setE s.env d (vB b') } a w := fun b' e => by
        subst e
        exact ⟨mp, ow, I, c.setE (ow' := ow) (ts := []) (by rw [hu]; exact relA_vB b') (.nil _ _) (fun _ _ h => h) (fun _ _ h => h) (fun _ _ _ h => h) (fun b x h => ⟨x, h⟩)⟩
      cases b with
      | true =>
        simp only [cond_true] at h2
        cases want with
        | true => exact .inl ⟨by rw [hw]; rfl, _, h2, hs true rfl⟩
        | false => exact .inr ⟨by rw [hw]; rfl, _, h2, hs true rfl⟩
      | false =>
        simp only [cond_false] at h2
        cases want with
        | true => exact .inr ⟨by rw [hw]; rfl, _, h2, hs false rfl⟩
        | false => exact .inl ⟨by rw [hw]; rfl, _, h2, hs false rfl⟩
    · cases h2

theorem runOps_sound (hT : WellT P E.T) {W : Imm → World → Prop} (hW : Lasts W) {Φ : Callee} (hΦ : FnSpec P W Φ) (hB : W B.I0 B.w0) {ops : Array Oper} (hd : dstOk B.nt ops.toList = true) {κ : St → R} {κp : TypeId → V → St → R}
    {Q : Exit → Act → World → Prop} (hn : ∀ s a w, κ s = some r → Inv B s a w → Q .normal a w)
    (hp : ∀ t x u s a w, κp t x s = some r → PInv B s x u a w → Q (.panic [{ v := .iface t u, recovered := false }]) a w) :
    ∀ (idx : List Nat) (s : St) (a : Act) (w : World), Inv B s a w → runOps E Φ ops.toList (opsAt ops idx) s κ κp = some r → wpOps P ops Q idx a w := by
  intro idx
  induction idx with
  | nil => intro s a w hc h; exact hn s a w h hc
  | cons i rest ih =>
    intro s a w hc h
    simp only [wpOps]
    cases ho : ops[i]? with
    | none =>
      simp only
      refine ih s a w hc ?_
      simpa [opsAt, ho] using h
    | some o =>
      simp only
      have hcons : opsAt ops (i :: rest) = o :: opsAt ops rest := by simp [opsAt, ho]
      rw [hcons] at h
      simp only [runOps] at h
      have hod := dstOk_get hd (Array.mem_toList_iff.2 (Array.mem_of_getElem? ho))
      rcases guard_ok hc h with ⟨hw, s', h1, hc'⟩ | ⟨hw, s', h1, hc'⟩
      · rw [if_pos hw]
        exact .inl (op_sound hT hW hΦ hB hod hc' h1 (fun s'' a' w' k1 k2 => ih s'' a' w' k2 k1) hp)
      · rw [hw]
        simp only [Bool.false_eq_true, if_false]
        obtain ⟨mp, ow, I, c⟩ := hc'
        exact ih _ _ w ((c.mid (v := .und) (x := undef) ⟨rfl, rfl⟩).put o.dst hod) h1

/-- Every operation of a function's code writes to one of its temporaries. -/
def codeOk (nt : Nat) : Code → Bool
  | .region _ ops _ => dstOk nt ops.toList
  | .seq a b => codeOk nt a && codeOk nt b
  | .cond _ a b => codeOk nt a && codeOk nt b
  | .block _ b => codeOk nt b
  | .loop b => codeOk nt b
  | _ => true

/-- Two states that answer alike. -/
structure Same (s t : St) : Prop where
  env : ∀ n, getE s.env n = getE t.env n
  box : ∀ p, s.box p = t.box p
  dfr : s.dfr = t.dfr

theorem nth_ext {α : Type} : ∀ {l m : List α}, (∀ i, nth l i = nth m i) → l = m := by
  intro l m h
  apply List.ext_getElem?
  intro i
  have := h i
  rwa [nth_eq, nth_eq] at this

theorem canonE_same {e e' : List (Nat × AV)} (h : ∀ n, getE e n = getE e' n) : ∀ ts, canonE e ts = canonE e' ts
  | [] => rfl
  | t :: r => by simp only [canonE, h t, canonE_same h r]
theorem canonLoc_same {l l' : List (Nat × List C)} (h : ∀ n, assoc l n = assoc l' n) : ∀ ps, canonLoc l ps = canonLoc l' ps
  | [] => rfl
  | .out i :: r => by simp only [canonLoc, canonLoc_same h r]
  | .loc n :: r => by simp only [canonLoc, h n, canonLoc_same h r]
theorem Same.canon {s t : St} (h : Same s t) (ts : List Nat) : canon ts s = canon ts t := by
  have h1 : canonE s.env ts = canonE t.env ts := canonE_same h.env ts
  have h2 : ∀ ps, canonLoc s.loc ps = canonLoc t.loc ps := canonLoc_same (fun n => h.box (.loc n))
  have h3 : s.out = t.out := nth_ext (fun i => h.box (.out i))
  unfold YtmbhohnoolflbaaDoorX.canon
  rw [h1, h.dfr, h2, h3]
theorem Same.post {s t : St} (h : Same s t) {E : Cfg} {f : FuncId} {id : Nat} (hl : (assoc (E.live f) id).isSome = true) : post E f id s = post E f id t := by
  unfold YtmbhohnoolflbaaDoorX.post
  cases hx : assoc (E.live f) id with
  | none => rw [hx] at hl; cases hl
  | some io => exact h.canon _

/-- What comes of a panic hangs on the boxes from outside alone, where nothing is deferred. -/
def PanInv (κp : TypeId → V → St → R) : Prop := ∀ t x (s s' : St), s.dfr = none → s'.dfr = none → (∀ i, s.box (.out i) = s'.box (.out i)) → κp t x s = κp t x s'
/-- What a region whose order is drawn needs. -/
def DrawSound (P : Program) (E : Cfg) (Φ : Callee) (W : Imm → World → Prop) : Prop :=
  ∀ (B : Base) (r : Res) (ops : Array Oper) (κ : St → R) (κp : TypeId → V → St → R) (Q : Exit → Act → World → Prop), W B.I0 B.w0 → dstOk B.nt ops.toList = true → (∀ s a w, κ s = some r → Inv B s a w → Q .normal a w) → (∀ t x u s a w, κp t x s = some r → PInv B s x u a w → Q (.panic [{ v := .iface t u, recovered := false }]) a w) →
    ∀ (s : St) (a : Act) (w : World), Inv B s a w → runD E Φ ops.toList ops.toList [] [] s κ κp = some r → (∀ s t, Same s t → κ s = κ t) → PanInv κp → ∀ t, wpOps P ops Q (Region.schedule (P.follows .mixedOrders) ops t) a { w with drawn := w.drawn + 1 }

theorem exec_sound (hT : WellT P E.T) {W : Imm → World → Prop} (hW : Lasts W) {Φ : Callee} (hΦ : FnSpec P W Φ) (hD : DrawSound P E Φ W) (hB : W B.I0 B.w0) (n : Nat) (f : FuncId) :
    ∀ (c : Code), codeOk B.nt c = true → ∀ (s : St) (a : Act) (w : World) (κ : St → R) (κx : Nat → St → R) (κr : St → R) (κp : TypeId → V → St → R) (Q : Exit → Act → World → Prop), PanInv κp →
      exec E Φ (loopN n) f c s κ κx κr κp = some r → Inv B s a w → Ks B r Q κ κx κr κp → c.wp P Q a w := by
  intro c
  induction c with
  | skip => intro _ s a w κ κx κr κp Q hz h hi hk; exact wp_skip (hk.kn s a w h hi)
  | ret => intro _ s a w κ κx κr κp Q hz h hi hk; exact wp_ret (hk.kr s a w h hi)
  | exit id => intro _ s a w κ κx κr κp Q hz h hi hk; exact wp_exit (hk.kx id s a w h hi)
  | seq x y ihx ihy =>
    intro hc s a w κ κx κr κp Q hz h hi hk
    simp only [codeOk, Bool.and_eq_true] at hc
    exact wp_seq (ihx hc.1 s a w _ κx κr κp _ hz h hi ⟨fun s a w h1 h2 => ihy hc.2 _ a w κ κx κr κp Q hz h1 (h2.pre f y) hk, hk.kx, hk.kr, hk.kp⟩)
  | cond x y z ihy ihz =>
    intro hc s a w κ κx κr κp Q hz h hi hk
    simp only [codeOk, Bool.and_eq_true] at hc
    obtain ⟨t, ht, h1⟩ := asB_inv h
    obtain ⟨mp, ow, I, c⟩ := hi
    obtain ⟨tx, hx, _⟩ := c.ev x
    rw [ht] at hx
    refine wp_cond (relA_bool hx) ?_
    cases t with
    | true => exact ihy hc.1 s a w κ κx κr κp Q hz h1 ⟨mp, ow, I, c⟩ hk
    | false => exact ihz hc.2 s a w κ κx κr κp Q hz h1 ⟨mp, ow, I, c⟩ hk
  | block id b ih =>
    intro hc s a w κ κx κr κp Q hz h hi hk
    refine wp_block (ih hc s a w κ _ κr κp _ hz h hi ⟨hk.kn, ?_, hk.kr, hk.kp⟩)
    intro i s a w h1 h2
    simp only [Exit.inBlock]
    by_cases e : i = id
    · subst e; simp only [Nat.beq_refl, cond_true] at h1; simp only [if_true]; exact hk.kn s a w h1 h2
    · rw [beqF e] at h1; simp only [cond_false] at h1; rw [if_neg e]; exact hk.kx i s a w h1 h2
  | loop b ih =>
    intro hc s a w κ κx κr κp Q hz h hi hk
    refine wp_loop_rounds n ?_
    have key : ∀ k s a w, loopN k (fun s q => exec E Φ (loopN n) f b (pre E f b s) q κx κr κp) s = some r → Inv B s a w → Code.rounds P b Q k a w := by
      intro k
      induction k with
      | zero => intro s a w h; cases h
      | succ k ihk =>
        intro s a w h hi
        exact ih hc _ a w _ κx κr κp _ hz h (hi.pre f b) ⟨fun s a w h1 h2 => ihk s a w h1 h2, hk.kx, hk.kr, hk.kp⟩
    exact key n s a w h hi
  | region id ops draw =>
    intro hc s a w κ κx κr κp Q hz h hi hk
    simp only [exec] at h
    cases draw with
    | false =>
      exact wp_region (runOps_sound hT hW hΦ hB hc (fun s a w h1 h2 => hk.kn _ a w h1 (h2.post f id)) hk.kp _ s a w hi (by rw [opsAt_range]; exact h))
    | true =>
      obtain ⟨hl, h1⟩ := chk_inv h
      exact wp_region_draw (hD B r ops (fun s => κ (post E f id s)) κp Q hB hc (fun s a w h1 h2 => hk.kn _ a w h1 (h2.post f id)) hk.kp s a w hi h1 (fun s t h => by rw [h.post hl]) hz)
  | _ => intro _ s a w κ κx κr κp Q hz h hi hk; cases h

end
end Go.Proofs.YtmbhohnoolflbaaDoorX
