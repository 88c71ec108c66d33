/-
  REGIONS WHOSE ORDER IS DRAWN: every order answers as the written one does.
-/
import Derived.Test.YtmbhohnoolflbaaXFrame
import Derived.Orders
set_option linter.unusedVariables false
set_option linter.unusedSimpArgs false
namespace Go.Proofs.YtmbhohnoolflbaaX

theorem Same.refl (s : St) : Same s s := ⟨fun _ => rfl, fun _ => rfl, rfl⟩
theorem Same.trans {s t u : St} (h : Same s t) (k : Same t u) : Same s u := ⟨fun n => (h.env n).trans (k.env n), fun p => (h.box p).trans (k.box p), h.dfr.trans k.dfr⟩

section
variable {E : Cfg} {Φ : Callee} {ops : List Oper} {s : St} {r : Res}

structure Good (E : Cfg) (Φ : Callee) (ops : List Oper) (a : Ann) (s s' : St) : Prop where
  ann : annOf ops a.o s = a
  df : isDefer a.o = false
  to : ∀ (κ : St → R) r, κ s' = some r → stepO E Φ ops a.o s κ = some r

open Classical in
theorem Good.frame {a : Ann} {s' : St} (g : Good E Φ ops a s s') : Chg (Wr a) (TM a) s s' ∧ ∀ t, Agr (readsOf ops a.o) a.T s t → ∃ t', Good E Φ ops a t t' ∧ Tr (Wr a) (TM a) s' t t' := by
  have h := g.to (fun x => if x = s' then some (.ret [] []) else none) (.ret [] []) (by simp)
  obtain ⟨F, h1, h2, h3⟩ := step_frame h g.df
  rw [g.ann] at h2 h3
  have hF : F s = s' := by
    by_cases e : F s = s'
    · exact e
    · simp only [if_neg e] at h1; cases h1
  rw [hF] at h2 h3
  refine ⟨h2, fun t ht => ?_⟩
  obtain ⟨k1, k2, k3⟩ := h3 t ht
  exact ⟨F t, ⟨k1, g.df, k2⟩, k3⟩

inductive ARun (E : Cfg) (Φ : Callee) (ops : List Oper) : List Ann → St → St → Prop where
  | nil (s : St) : ARun E Φ ops [] s s
  | cons {a : Ann} {l : List Ann} {s s1 s2 : St} (h : Good E Φ ops a s s1) (k : ARun E Φ ops l s1 s2) : ARun E Φ ops (a :: l) s s2

theorem ARun.same {l : List Ann} {s s' : St} (h : ARun E Φ ops l s s') : ∀ {t : St}, Same s t → ∃ t', ARun E Φ ops l t t' ∧ Same s' t' := by
  induction h with
  | nil s => intro t ht; exact ⟨t, .nil t, ht⟩
  | cons g _ ih =>
    rename_i a l s s1 s2 _
    intro t ht
    obtain ⟨h1, h2⟩ := g.frame
    obtain ⟨t1, k1, k2⟩ := h2 t ⟨fun n _ => (ht.env n).symm, fun p _ => (ht.box p).symm, ht.dfr.symm⟩
    have hs : Same s1 t1 := by
      refine ⟨fun n => ?_, fun p => ?_, ?_⟩
      · by_cases hn : n ∈ Wr a
        · exact (k2.env n hn).symm
        · rw [h1.env n hn, k2.chg.env n hn, ht.env n]
      · by_cases hp : p ∈ TM a
        · exact (k2.box p hp).symm
        · rw [h1.box p hp, k2.chg.box p hp, ht.box p]
      · rw [h1.dfr, k2.chg.dfr, ht.dfr]
    obtain ⟨t', e1, e2⟩ := ih hs
    exact ⟨t', .cons k1 e1, e2⟩

theorem apartN_iff {a b : List Nat} (h : apartN a b = true) {n : Nat} (hn : n ∈ a) : n ∉ b := by
  simp only [apartN, List.all_eq_true, Bool.not_eq_true'] at h
  intro hm
  have := h n hn
  rw [memN_iff'.2 hm] at this
  cases this
where memN_iff' {n : Nat} : ∀ {l : List Nat}, memN l n = true ↔ n ∈ l
  | [] => by simp [memN]
  | m :: r => by
    simp only [memN]
    by_cases h : m = n
    · subst h; simp
    · rw [beqF h]; simp only [cond_false, List.mem_cons]; rw [memN_iff']; simp [show ¬ n = m from fun e => h e.symm]
theorem disj_iff {a b : List PRef} (h : disj a b = true) {p : PRef} (hp : p ∈ a) : p ∉ b := by
  simp only [disj, List.all_eq_true] at h
  have := h p hp
  split at this
  · cases this
  · rename_i hx; exact ixP_none hx

theorem swap2 {a b : Ann} {s1 s2 : St} (hok : okPair ops a b = true) (ga : Good E Φ ops a s s1) (gb : Good E Φ ops b s1 s2) : ∃ u1 u2, Good E Φ ops b s u1 ∧ Good E Φ ops a u1 u2 ∧ Same s2 u2 := by
  simp only [okPair, Bool.and_eq_true, Bool.not_eq_true', Bool.or_eq_true] at hok
  obtain ⟨⟨⟨⟨⟨h1, h2⟩, h3⟩, h5⟩, h6⟩, h7⟩ := hok
  obtain ⟨ca, fa⟩ := ga.frame
  obtain ⟨cb, fb⟩ := gb.frame
  have hdj : a.m = true ∨ b.m = true → disj a.T b.T = true := by
    intro h
    rcases h5 with h5 | h5
    · rcases h with h | h <;> simp [h] at h5
    · exact h5
  -- what the one looks at the other leaves alone
  have rb : ∀ n, n ∈ readsOf ops b.o → n ∉ Wr a := fun n hn hw => by
    rcases List.mem_append.1 hw with hw | hw
    · exact apartN_iff h1 hw hn
    · split at hw
      · rename_i hma
        rcases h6 with h6 | h6
        · rw [hma] at h6; cases h6
        · exact apartN_iff h6 hw hn
      · simp at hw
  have ra : ∀ n, n ∈ readsOf ops a.o → n ∉ Wr b := fun n hn hw => by
    rcases List.mem_append.1 hw with hw | hw
    · exact apartN_iff h2 hw hn
    · split at hw
      · rename_i hmb
        rcases h7 with h7 | h7
        · rw [hmb] at h7; cases h7
        · exact apartN_iff h7 hw hn
      · simp at hw
  have tb : ∀ p, p ∈ b.T → p ∉ TM a := fun p hp hw => by
    unfold TM at hw
    split at hw
    · rename_i hma; exact disj_iff (hdj (.inl hma)) hw hp
    · simp at hw
  have ta : ∀ p, p ∈ a.T → p ∉ TM b := fun p hp hw => by
    unfold TM at hw
    split at hw
    · rename_i hmb; exact disj_iff (hdj (.inr hmb)) hp hw
    · simp at hw
  obtain ⟨u1, g1, t1⟩ := fb s ⟨fun n hn => (ca.env n (rb n hn)).symm, fun p hp => (ca.box p (tb p hp)).symm, ca.dfr.symm⟩
  obtain ⟨u2, g2, t2⟩ := fa u1 ⟨fun n hn => t1.chg.env n (ra n hn), fun p hp => t1.chg.box p (ta p hp), t1.chg.dfr⟩
  have tk : ∀ (o : Oper) n, n ∈ takesOf o → n ∈ readsOf ops o := fun o n hn => List.mem_append.2 (.inl (takes_reads hn))
  have wab : ∀ n, n ∈ Wr a → n ∉ Wr b := fun n hn hw => by
    rcases List.mem_append.1 hn with hn | hn
    · rcases List.mem_append.1 hw with hw | hw
      · exact apartN_iff h3 hn hw
      · split at hw
        · exact apartN_iff h1 hn (tk _ _ hw)
        · simp at hw
    · split at hn
      · exact ra n (tk _ _ hn) hw
      · simp at hn
  have mab : ∀ p, p ∈ TM a → p ∉ TM b := fun p hp hw => by
    unfold TM at hp hw
    split at hp
    · rename_i hma
      split at hw
      · exact disj_iff (hdj (.inl hma)) hp hw
      · simp at hw
    · simp at hp
  refine ⟨u1, u2, g1, g2, ⟨fun n => ?_, fun p => ?_, ?_⟩⟩
  · by_cases hn : n ∈ Wr a
    · rw [t2.env n hn, cb.env n (wab n hn)]
    · rw [t2.chg.env n hn]
      by_cases hnb : n ∈ Wr b
      · rw [t1.env n hnb]
      · rw [t1.chg.env n hnb, cb.env n hnb, ca.env n hn]
  · by_cases hp : p ∈ TM a
    · rw [t2.box p hp, cb.box p (mab p hp)]
    · rw [t2.chg.box p hp]
      by_cases hpb : p ∈ TM b
      · rw [t1.box p hpb]
      · rw [t1.chg.box p hpb, cb.box p hpb, ca.box p hp]
  · rw [t2.chg.dfr, t1.chg.dfr, cb.dfr, ca.dfr]

theorem front {a : Ann} {l2 : List Ann} : ∀ {l1 : List Ann} {s s' : St}, (∀ x, x ∈ l1 → okPair ops x a = true) → ARun E Φ ops (l1 ++ a :: l2) s s' → ∃ s'', ARun E Φ ops (a :: (l1 ++ l2)) s s'' ∧ Same s' s''
  | [], s, s', _, h => ⟨s', h, .refl _⟩
  | x :: l1, s, s', hok, h => by
    cases h with
    | cons gx k =>
      obtain ⟨s'', k1, k2⟩ := front (fun y hy => hok y (by simp [hy])) k
      cases k1 with
      | cons ga k3 =>
        obtain ⟨u1, u2, g1, g2, hs⟩ := swap2 (hok x (by simp)) gx ga
        obtain ⟨v, e1, e2⟩ := k3.same hs
        exact ⟨v, .cons g1 (.cons g2 e1), k2.trans e2⟩

/-! ### From the written order -/
structure Cl (ops : Array Oper) (L : List Ann) (cl : List (List Nat)) : Prop where
  len : cl.length = L.length
  back : ∀ j o, j < L.length → ops[j]? = some o → ∀ e, e ∈ o.after.toList → Region.binds .any e = true → e.on < j
  down : ∀ j o, j < L.length → ops[j]? = some o → ∀ k, k ∈ cl.getD j [] → ∃ e, e ∈ o.after.toList ∧ Region.binds .any e = true ∧ (k = e.on ∨ k ∈ cl.getD e.on [])
  pair : ∀ (i j : Nat) x y, i < j → L[i]? = some x → L[j]? = some y → i ∈ cl.getD j [] ∨ okPair ops.toList x y = true

theorem okAll_get {b : Ann} {cl : List Nat} : ∀ {acc : List Ann} {i : Nat}, okAll ops b cl acc i = true → ∀ (j : Nat) x, acc[j]? = some x → i + j ∈ cl ∨ okPair ops x b = true
  | [], _, _, j, x, h => by simp at h
  | a :: r, i, h, j, x, hx => by
    simp only [okAll, Bool.and_eq_true, Bool.or_eq_true] at h
    cases j with
    | zero => simp at hx; subst hx; exact h.1.imp (fun h => apartN_iff.memN_iff'.1 h) id
    | succ j =>
      have := okAll_get h.2 j x (by simpa using hx)
      rwa [show i + 1 + j = i + (j + 1) by omega] at this

theorem unionN_mem {k : Nat} : ∀ {a b : List Nat}, k ∈ unionN a b → k ∈ a ∨ k ∈ b
  | [], b, h => .inr h
  | x :: a, b, h => by
    simp only [unionN] at h
    cases hx : memN b x with
    | true =>
      rw [hx] at h
      rcases unionN_mem h with h | h
      · exact .inl (List.mem_cons_of_mem _ h)
      · exact .inr h
    | false =>
      rw [hx] at h
      rcases unionN_mem h with h | h
      · exact .inl (List.mem_cons_of_mem _ h)
      · rcases List.mem_cons.1 h with h | h
        · exact .inl (by simp [h])
        · exact .inr h

theorem foldl_cl (cl : List (List Nat)) : ∀ (es : List Edge) (acc : List Nat) (k : Nat), k ∈ es.foldl (fun l e => bif Region.binds .any e then unionN (e.on :: (cl.getD e.on [])) l else l) acc → k ∈ acc ∨ ∃ e, e ∈ es ∧ Region.binds .any e = true ∧ (k = e.on ∨ k ∈ cl.getD e.on [])
  | [], acc, k, h => .inl h
  | e :: es, acc, k, h => by
    simp only [List.foldl_cons] at h
    rcases foldl_cl cl es _ k h with h | ⟨e', h1, h2, h3⟩
    · cases hb : Region.binds .any e with
      | false => rw [hb] at h; exact .inl h
      | true =>
        rw [hb] at h
        simp only [cond_true] at h
        rcases unionN_mem h with h | h
        · rcases List.mem_cons.1 h with h | h
          · exact .inr ⟨e, by simp, hb, .inl h⟩
          · exact .inr ⟨e, by simp, hb, .inr h⟩
        · exact .inl h
    · exact .inr ⟨e', by simp [h1], h2, h3⟩

theorem runD_inv {ops : Array Oper} {κ : St → R} : ∀ {rest : List Oper} {cl : List (List Nat)} {acc : List Ann} {s : St}, acc.map (·.o) ++ rest = ops.toList → Cl ops acc cl → runD E Φ ops.toList rest cl acc s κ = some r →
    ∃ L cl' s', L.map (·.o) = rest ∧ ARun E Φ ops.toList L s s' ∧ κ s' = some r ∧ Cl ops (acc ++ L) cl'
  | [], cl, acc, s, _, hcl, h => ⟨[], cl, s, rfl, .nil s, h, by simpa using hcl⟩
  | o :: rest, cl, acc, s, hops, hcl, h => by
    simp only [runD] at h
    obtain ⟨hc, h1⟩ := chk_inv h
    simp only [Bool.and_eq_true, Bool.not_eq_true'] at hc
    obtain ⟨⟨c1, c2⟩, c3⟩ := hc
    obtain ⟨F, h2, h3, h4⟩ := step_frame h1 c1
    obtain ⟨_, h5, _⟩ := h4 s ⟨fun _ _ => rfl, fun _ _ => rfl, rfl⟩
    have hal : acc.length < ops.size := by
      have := congrArg List.length hops
      simp at this; omega
    have hget : ops[acc.length]? = some o := by
      rw [← Array.getElem?_toList, ← hops, List.getElem?_append_right (by simp)]
      simp
    have hpre : ∀ j, j < acc.length → (acc ++ [annOf ops.toList o s])[j]? = acc[j]? := fun j hj => List.getElem?_append_left hj
    have hcl' : Cl ops (acc ++ [annOf ops.toList o s]) (cl ++ [o.after.toList.foldl (fun l e => bif Region.binds .any e then unionN (e.on :: (cl.getD e.on [])) l else l) []]) := by
      have hgl : ∀ j, j < acc.length → (cl ++ [o.after.toList.foldl (fun l e => bif Region.binds .any e then unionN (e.on :: (cl.getD e.on [])) l else l) []]).getD j [] = cl.getD j [] := fun j hj => by
        rw [List.getD_eq_getElem?_getD, List.getD_eq_getElem?_getD, List.getElem?_append_left (by rw [hcl.len]; exact hj)]
      have hgr : (cl ++ [o.after.toList.foldl (fun l e => bif Region.binds .any e then unionN (e.on :: (cl.getD e.on [])) l else l) []]).getD acc.length [] = o.after.toList.foldl (fun l e => bif Region.binds .any e then unionN (e.on :: (cl.getD e.on [])) l else l) [] := by
        rw [List.getD_eq_getElem?_getD, List.getElem?_append_right (by rw [hcl.len]; exact Nat.le_refl _), hcl.len]; simp
      have hafter : ∀ e, e ∈ o.after.toList → Region.binds .any e = true → e.on < acc.length := fun e he hb => by
        simp only [afterOk, List.all_eq_true, Bool.or_eq_true, Bool.not_eq_true'] at c2
        rcases c2 e he with h | h
        · rw [hb] at h; cases h
        · exact Nat.le_of_ble_eq_true h
      refine ⟨by simp [hcl.len], fun j o' hj ho' e he hb => ?_, fun j o' hj ho' k hk => ?_, fun i j x y hij hx hy => ?_⟩
      · simp only [List.length_append, List.length_singleton] at hj
        by_cases hja : j < acc.length
        · exact hcl.back j o' hja ho' e he hb
        · have : j = acc.length := by omega
          subst this
          rw [hget] at ho'; cases ho'
          exact hafter e he hb
      · simp only [List.length_append, List.length_singleton] at hj
        by_cases hja : j < acc.length
        · rw [hgl j hja] at hk
          obtain ⟨e, k1, k2, k3⟩ := hcl.down j o' hja ho' k hk
          refine ⟨e, k1, k2, ?_⟩
          rw [hgl e.on (Nat.lt_trans (hcl.back j o' hja ho' e k1 k2) hja)]
          exact k3
        · have : j = acc.length := by omega
          subst this
          rw [hget] at ho'; cases ho'
          rw [hgr] at hk
          rcases foldl_cl cl _ _ k hk with h | ⟨e, k1, k2, k3⟩
          · simp at h
          · refine ⟨e, k1, k2, ?_⟩
            rw [hgl e.on (hafter e k1 k2)]
            exact k3
      · have hj : j < (acc ++ [annOf ops.toList o s]).length := (List.getElem?_eq_some_iff.1 hy).1
        simp only [List.length_append, List.length_singleton] at hj
        rw [hpre i (by omega)] at hx
        by_cases hja : j < acc.length
        · rw [hpre j hja] at hy
          rw [hgl j hja]
          exact hcl.pair i j x y hij hx hy
        · have : j = acc.length := by omega
          subst this
          rw [List.getElem?_append_right (Nat.le_refl _)] at hy
          simp at hy
          subst hy
          rw [hgr]
          have := okAll_get c3 i x hx
          rwa [Nat.zero_add] at this
    obtain ⟨L, cl', s', k1, k2, k3, k4⟩ := runD_inv (rest := rest) (acc := acc ++ [annOf ops.toList o s]) (by simpa [annOf] using hops) hcl' h2
    refine ⟨annOf ops.toList o s :: L, cl', s', by simp [k1, annOf], .cons ⟨rfl, c1, h5⟩ k2, k3, by simpa using k4⟩

end

open Classical in
theorem draw_sound {P : Program} {E : Cfg} (hT : WellT P E.T) {W : Imm → World → Prop} (hW : Lasts W) (hm : P.follows .mixedOrders = true) {Φ : Callee} (hΦ : FnSpec P W Φ) : DrawSound P E Φ W := by
  intro B r ops κ Q hB hd hn s a w hi h hκ t
  obtain ⟨L, cl, s', hL, hrun, hks, hcl⟩ := runD_inv (rest := ops.toList) (acc := []) (by simp) ⟨rfl, by simp, by simp, by simp⟩ h
  simp only [List.nil_append] at hcl
  simp only [Region.schedule, hm, Bool.true_or, if_true]
  have hlen : L.length = ops.size := by have := congrArg List.length hL; simpa using this
  have hget : ∀ (i : Nat) (x : Ann), L[i]? = some x → ops[i]? = some x.o := fun i x hx => by
    rw [← Array.getElem?_toList, ← hL, List.getElem?_map, hx]; rfl
  have key : ∀ (fuel : Nat) (listed : Array Bool) (rem : List Nat) (s : St) (a : Act) (w : World) (s' : St), Inv B s a w → rem.length = fuel → listed.size = ops.size → rem.Pairwise (· < ·) → (∀ i, i ∈ rem ↔ i < ops.size ∧ listed.getD i true = false) →
      (∀ j, j < ops.size → listed.getD j true = true → ∀ k, k ∈ cl.getD j [] → listed.getD k true = true) →
      ARun E Φ ops.toList (rem.filterMap (L[·]?)) s s' → κ s' = some r → wpAny P .any ops Q fuel listed a w := by
    intro fuel
    induction fuel with
    | zero =>
      intro listed rem s a w s' hi hl hsz hpw hmem hclo hr hk
      have hr0 : rem = [] := List.eq_nil_of_length_eq_zero hl
      subst hr0
      refine ⟨?_, ?_⟩
      · unfold Region.ready
        rw [List.filter_eq_nil_iff]
        intro i hi' hc
        simp only [Bool.and_eq_true, Bool.not_eq_true'] at hc
        have := (hmem i).2 ⟨by simpa using hi', hc.1⟩
        simp at this
      · simp only [List.filterMap_nil] at hr
        cases hr
        exact hn s a w hk hi
    | succ fuel ih =>
      intro listed rem s a w s' hi hl hsz hpw hmem hclo hr hk
      refine ⟨fun hready => ?_, fun i hir => ?_⟩
      · -- the first of those left is ready
        exfalso
        cases rem with
        | nil => simp at hl
        | cons i0 rem =>
          have h0 := (hmem i0).1 (by simp)
          have hx : i0 ∈ Region.ready .any ops listed := by
            unfold Region.ready
            rw [List.mem_filter]
            refine ⟨by simpa using h0.1, ?_⟩
            have ho : ops[i0]? = some ops[i0] := Array.getElem?_eq_getElem h0.1
            simp only [h0.2, Bool.not_false, Bool.true_and, ho, Option.map_some, Option.getD_some]
            rw [← Array.all_toList, List.all_eq_true]
            intro e he
            cases hb : Region.binds .any e with
            | false => rfl
            | true =>
              simp only [Bool.not_true, Bool.false_or]
              have hlt := hcl.back i0 _ (by omega) ho e he hb
              have hlt' : e.on < listed.size := by omega
              cases hle : listed.getD e.on true with
              | false =>
                have := (hmem e.on).2 ⟨by omega, hle⟩
                rcases List.mem_cons.1 this with h | h
                · omega
                · have := (List.pairwise_cons.1 hpw).1 _ h; omega
              | true =>
                simp only [Array.getD_eq_getD_getElem?, Array.getElem?_eq_getElem hlt', Option.getD_some] at hle ⊢
                exact hle
          rw [hready] at hx
          simp at hx
      · unfold Region.ready at hir
        rw [List.mem_filter] at hir
        obtain ⟨hi1, hi2⟩ := hir
        simp only [List.mem_range] at hi1
        simp only [Bool.and_eq_true, Bool.not_eq_true'] at hi2
        obtain ⟨hi2, hi3⟩ := hi2
        have hirem := (hmem i).2 ⟨hi1, hi2⟩
        obtain ⟨l1, l2, hsplit⟩ := List.append_of_mem hirem
        have hLi : ∃ ai, L[i]? = some ai := ⟨L[i]'(by omega), List.getElem?_eq_getElem (by omega)⟩
        obtain ⟨ai, hai⟩ := hLi
        have hoi := hget i ai hai
        simp only [hoi, Option.map_some, Option.getD_some] at hi3
        rw [← Array.all_toList, List.all_eq_true] at hi3
        have hpre : ∀ e, e ∈ ai.o.after.toList → Region.binds .any e = true → listed.getD e.on true = true := fun e he hb => by
          have := hi3 e he
          rw [hb] at this
          simp only [Bool.not_true, Bool.false_or] at this
          have hlt := hcl.back i _ (by omega) hoi e he hb
          have hlt' : e.on < listed.size := by omega
          simp only [Array.getD_eq_getD_getElem?, Array.getElem?_eq_getElem hlt', Option.getD_some] at this ⊢
          exact this
        have hcli : ∀ k, k ∈ cl.getD i [] → listed.getD k true = true := fun k hk => by
          obtain ⟨e, k1, k2, k3⟩ := hcl.down i _ (by omega) hoi k hk
          have h1 := hpre e k1 k2
          rcases k3 with k3 | k3
          · rw [k3]; exact h1
          · have := hcl.back i _ (by omega) hoi e k1 k2
            exact hclo e.on (by omega) h1 k k3
        subst hsplit
        have hpw' := List.pairwise_append.1 hpw
        rw [List.filterMap_append, List.filterMap_cons, hai] at hr
        simp only at hr
        have hok : ∀ x, x ∈ l1.filterMap (L[·]?) → okPair ops.toList x ai = true := by
          intro x hx
          obtain ⟨j, hj, hjx⟩ := List.mem_filterMap.1 hx
          have hji : j < i := hpw'.2.2 j hj i (by simp)
          rcases hcl.pair j i x ai hji hjx hai with h | h
          · have h1 := hcli j h
            have h2 := ((hmem j).1 (by simp [hj])).2
            rw [h2] at h1; cases h1
          · exact h
        obtain ⟨s'', hr', hss⟩ := front hok hr
        rw [← List.filterMap_append] at hr'
        have hk'' : κ s'' = some r := by rw [← hκ _ _ hss]; exact hk
        cases hr' with
        | cons g k =>
          rename_i s1
          have hstep := g.to (fun x => if x = s1 then some r else none) r (by simp)
          have hod := dstOk_get hd (Array.mem_toList_iff.2 (Array.mem_of_getElem? hoi))
          have next : ∀ (a' : Act) (w' : World), Inv B s1 a' w' → wpAny P .any ops Q fuel (listed.setIfInBounds i true) a' w' := by
            intro a' w' hi'
            have hgs : ∀ j, (listed.setIfInBounds i true).getD j true = if j = i then true else listed.getD j true := fun j => by
              simp only [Array.getD_eq_getD_getElem?, Array.getElem?_setIfInBounds]
              by_cases e : i = j
              · subst e; simp; split <;> rfl
              · rw [if_neg e, if_neg (fun h => e h.symm)]
            refine ih (listed.setIfInBounds i true) (l1 ++ l2) s1 a' w' s'' hi' ?_ (by simpa using hsz) ?_ ?_ ?_ k hk''
            · simp at hl ⊢; omega
            · exact hpw.sublist (by simp)
            · intro j
              rw [hgs]
              have hj := hmem j
              simp only [List.mem_append, List.mem_cons] at hj ⊢
              by_cases e : j = i
              · subst e
                simp only [if_true, Bool.true_eq_false, and_false, iff_false]
                rintro (h | h)
                · exact absurd (hpw'.2.2 j h j (by simp)) (by omega)
                · exact absurd ((List.pairwise_cons.1 hpw'.2.1).1 j h) (by omega)
              · rw [if_neg e, ← hj]
                constructor
                · rintro (h | h)
                  · exact .inl h
                  · exact .inr (.inr h)
                · rintro (h | h | h)
                  · exact .inl h
                  · exact absurd h e
                  · exact .inr h
            · intro j hj hlj k hk
              rw [hgs] at hlj ⊢
              by_cases e : k = i
              · rw [if_pos e]
              · rw [if_neg e]
                by_cases e' : j = i
                · subst e'; exact hcli k hk
                · rw [if_neg e'] at hlj; exact hclo j hj hlj k hk
          unfold wpOp
          rw [hoi]
          simp only
          unfold stepO at hstep
          rcases guard_ok hi hstep with ⟨hw, sg, h1, hig⟩ | ⟨hw, sg, h1, hig⟩
          · rw [if_pos hw]
            refine .inl (op_sound hT hW hΦ hB hod hig h1 (fun s2 a' w' k1 k2 => ?_) (fun t x u s2 a' w' k1 => by cases k1))
            by_cases e : s2 = s1
            · subst e; exact next a' w' k2
            · simp only [if_neg e] at k1; cases k1
          · rw [hw]
            simp only [Bool.false_eq_true, if_false]
            obtain ⟨mp, ow, I, c⟩ := hig
            have hput := (c.mid (v := .und) (x := undef) ⟨rfl, rfl⟩).put ai.o.dst hod
            by_cases e : sg.put ai.o.dst .und = s1
            · rw [e] at hput; exact next _ _ hput
            · simp only [if_neg e] at h1; cases h1
  refine wpAny_sound ops.size t _ a _ (key ops.size _ (List.range ops.size) s a _ s' ?_ (by simp) (by simp) List.pairwise_lt_range ?_ ?_ ?_ hks)
  · obtain ⟨mp, ow, I, c⟩ := hi
    exact ⟨mp, ow, I, c.go (Step.drew I w) (fun _ _ _ _ h => h) (fun _ h => h.elim)⟩
  · intro i
    simp only [List.mem_range, Array.getD_eq_getD_getElem?, Array.getElem?_replicate]
    constructor
    · intro h; exact ⟨h, by simp [h]⟩
    · exact fun h => h.1
  · intro j hj h
    simp [Array.getD_eq_getD_getElem?, Array.getElem?_replicate, hj] at h
  · have : (List.range ops.size).filterMap (L[·]?) = L := by
      rw [← hlen]
      have : ∀ l : List Ann, (List.range l.length).filterMap (fun i => l[i]?) = l := by
        intro l
        induction l with
        | nil => rfl
        | cons x l ih =>
          rw [List.length_cons, List.range_succ_eq_map]
          simp only [List.filterMap_cons, List.getElem?_cons_zero, List.filterMap_map]
          congr 1
      exact this L
    rw [this]; exact hrun

end Go.Proofs.YtmbhohnoolflbaaX
