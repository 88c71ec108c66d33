/-
  THE ABSTRACT DATA AND MEMORY: when a value of the machine reads as an abstract one, in a world; which blocks are one's own; how that stays as the world goes on.
-/
import Derived.Test.YtmbhohnoolflbaaDoorXAbs
import Derived.Calls
import Derived.Laws.AppendOwn
import Derived.Lib.FrozenHead
set_option linter.unusedVariables false
set_option linter.unusedSimpArgs false
namespace Go.Proofs.YtmbhohnoolflbaaDoorX

abbrev Imm := Nat → Nat → Prop
def cellAt (w : World) (b o : Nat) : Option Value := w.cell? ⟨b, o, none⟩

/-! ### Data -/
mutual
def relD (I : Imm) (w : World) : D → Value → Prop
  | .int k n, v => v = .int k n
  | .bool b, v => v = .bool b
  | .str l, v => v = .string ⟨l.toArray⟩
  | .sl sz es, v => ∃ a cap, v = .slice a es.length cap ∧ es.length ≤ cap ∧ (es = [] ∨ ∃ b o, a = some ⟨b, o, none⟩ ∧ relEs I w b o sz es)
  | .nif, v => v = .nilIface
  | .nptr, v => v = .pointer none
  | .nfn, v => v = .nilFunc
def relEs (I : Imm) (w : World) (b o sz : Nat) : List (List D) → Prop
  | [] => True
  | e :: r => e.length = sz ∧ relCs I w b o e ∧ relEs I w b (o + sz) sz r
def relCs (I : Imm) (w : World) (b o : Nat) : List D → Prop
  | [] => True
  | d :: r => (I b o ∧ ∃ v, cellAt w b o = some v ∧ relD I w d v) ∧ relCs I w b (o + 1) r
end

/-- The immutable cells of the first world are there in the second one, with what they hold. -/
def Agree (I : Imm) (w w' : World) : Prop := ∀ b o, I b o → cellAt w' b o = cellAt w b o
def Sub (I J : Imm) : Prop := ∀ b o, I b o → J b o
theorem Sub.refl (I : Imm) : Sub I I := fun _ _ h => h
theorem Agree.refl (I : Imm) (w : World) : Agree I w w := fun _ _ _ => rfl
theorem Sub.trans {I J K : Imm} (h : Sub I J) (k : Sub J K) : Sub I K := fun _ _ x => k _ _ (h _ _ x)
theorem Agree.trans {I J : Imm} {w w1 w2 : World} (h : Agree I w w1) (hs : Sub I J) (k : Agree J w1 w2) : Agree I w w2 := fun b o x => (k b o (hs _ _ x)).trans (h b o x)

section
variable {I J : Imm} {w w' : World}
mutual
theorem relD_mono (hs : Sub I J) (ha : Agree I w w') : ∀ (d : D) (v : Value), relD I w d v → relD J w' d v
  | .int _ _, _, h => h
  | .bool _, _, h => h
  | .str _, _, h => h
  | .nif, _, h => h
  | .nptr, _, h => h
  | .nfn, _, h => h
  | .sl sz es, v, h => by
    obtain ⟨a, cap, hv, hc, h⟩ := h
    refine ⟨a, cap, hv, hc, ?_⟩
    rcases h with h | ⟨b, o, ha', h⟩
    · exact .inl h
    · exact .inr ⟨b, o, ha', relEs_mono hs ha b o sz es h⟩
theorem relEs_mono (hs : Sub I J) (ha : Agree I w w') (b o sz : Nat) : ∀ (es : List (List D)), relEs I w b o sz es → relEs J w' b o sz es
  | [], _ => trivial
  | e :: r, h => ⟨h.1, relCs_mono hs ha b o e h.2.1, relEs_mono hs ha b (o + sz) sz r h.2.2⟩
theorem relCs_mono (hs : Sub I J) (ha : Agree I w w') (b o : Nat) : ∀ (ds : List D), relCs I w b o ds → relCs J w' b o ds
  | [], _ => trivial
  | d :: r, h => by
    obtain ⟨⟨hI, v, hv, hd⟩, hr⟩ := h
    exact ⟨⟨hs _ _ hI, v, (ha _ _ hI).trans hv, relD_mono hs ha d v hd⟩, relCs_mono hs ha b (o + 1) r hr⟩
end
end

theorem relD_one {I : Imm} {w : World} {d : D} {v : Value} (h : relD I w d v) : v.oneCell' = true := by
  cases d <;> simp only [relD] at h
  case sl sz es => obtain ⟨a, cap, rfl, _⟩ := h; rfl
  all_goals (subst h; rfl)

theorem relCs_get {I : Imm} {w : World} {b : Nat} : ∀ {ds : List D} {o : Nat}, relCs I w b o ds → ∀ {j : Nat} {d : D}, ds[j]? = some d → I b (o + j) ∧ ∃ v, cellAt w b (o + j) = some v ∧ relD I w d v
  | [], _, _, j, d, hd => by simp at hd
  | x :: r, o, h, j, d, hd => by
    cases j with
    | zero => simp at hd; subst hd; simpa using h.1
    | succ j =>
      simp at hd
      have := relCs_get (o := o + 1) h.2 hd
      simpa [Nat.add_assoc, Nat.add_comm 1 j] using this

theorem relCs_append {I : Imm} {w : World} {b : Nat} : ∀ {xs ys : List D} {o : Nat}, relCs I w b o (xs ++ ys) ↔ relCs I w b o xs ∧ relCs I w b (o + xs.length) ys
  | [], ys, o => by simp [relCs]
  | x :: xs, ys, o => by
    simp only [List.cons_append, relCs, List.length_cons]
    rw [relCs_append (xs := xs) (o := o + 1), show o + 1 + xs.length = o + (xs.length + 1) by omega]
    exact and_assoc.symm

theorem relEs_append {I : Imm} {w : World} {b sz : Nat} : ∀ {xs ys : List (List D)} {o : Nat}, relEs I w b o sz (xs ++ ys) ↔ relEs I w b o sz xs ∧ relEs I w b (o + xs.length * sz) sz ys
  | [], ys, o => by simp [relEs]
  | x :: xs, ys, o => by
    simp only [List.cons_append, relEs, List.length_cons]
    rw [relEs_append (xs := xs) (o := o + sz), show o + sz + xs.length * sz = o + (xs.length + 1) * sz by rw [Nat.add_mul]; omega]
    constructor
    · rintro ⟨h1, h2, h3, h4⟩; exact ⟨⟨h1, h2, h3⟩, h4⟩
    · rintro ⟨⟨h1, h2, h3⟩, h4⟩; exact ⟨h1, h2, h3, h4⟩

/-- Element j lies where it should. -/
theorem relEs_get {I : Imm} {w : World} {b sz : Nat} : ∀ {es : List (List D)} {o : Nat}, relEs I w b o sz es → ∀ {j : Nat} {e : List D}, es[j]? = some e → e.length = sz ∧ relCs I w b (o + j * sz) e
  | [], _, _, j, e, he => by simp at he
  | x :: r, o, h, j, e, he => by
    cases j with
    | zero => simp at he; subst he; simpa using ⟨h.1, h.2.1⟩
    | succ j =>
      simp at he
      have := relEs_get (o := o + sz) h.2.2 he
      rwa [show o + sz + j * sz = o + (j + 1) * sz by rw [Nat.add_mul]; omega] at this

/-! ### Cells and values -/
/-- 'mp': the boxes' blocks; 'ts': the blocks whose spare cells the value owns. -/
def relC (I : Imm) (w : World) (mp : PRef → Option Nat) : C → Value → List Nat → Prop
  | .int k n, v, ts => v = .int k n ∧ ts = []
  | .bool b, v, ts => v = .bool b ∧ ts = []
  | .str l, v, ts => v = .string ⟨l.toArray⟩ ∧ ts = []
  | .nif, v, ts => v = .nilIface ∧ ts = []
  | .nptr, v, ts => v = .pointer none ∧ ts = []
  | .nfn, v, ts => v = .nilFunc ∧ ts = []
  | .bld _ _ _, _, _ => False
  | .ptr p off, v, ts => (∃ b, mp p = some b ∧ v = .pointer (some ⟨b, off, none⟩)) ∧ ts = []
  | .fn f caps, v, ts => (∃ bs : List Nat, caps.map mp = bs.map some ∧ v = .func (.func f) #[] (bs.map fun b => Value.pointer (some ⟨b, 0, none⟩)).toArray) ∧ ts = []
  | .sl sz es fl, v, ts => ∃ a cap, v = .slice a es.length cap ∧ es.length ≤ cap ∧ (es = [] ∨ ∃ b o, a = some ⟨b, o, none⟩ ∧ relEs I w b o sz es) ∧
      (match fl with
       | .sh => ts = []
       | .ti => ts = [] ∧ cap = es.length
       | .own => (ts = [] ∧ cap = es.length) ∨
          (∃ b arr T fz, a = some ⟨b, 0, none⟩ ∧ ts = [b] ∧ 0 < es.length ∧ w.heap[b]? = some (.cells arr T fz) ∧ arr.size = cap * sz ∧ fz.2 ≤ es.length * sz ∧ cap ≤ maxLen ∧ ∀ o, es.length * sz ≤ o → ¬ I b o))

/-- Cells, with all that they own. -/
def relL (I : Imm) (w : World) (mp : PRef → Option Nat) : List C → List Value → List Nat → Prop
  | [], vs, ts => vs = [] ∧ ts = []
  | c :: cs, vs, ts => ∃ v r t1 t2, vs = v :: r ∧ ts = t1 ++ t2 ∧ relC I w mp c v t1 ∧ relL I w mp cs r t2

def relV (I : Imm) (w : World) (mp : PRef → Option Nat) : V → Value → List Nat → Prop
  | .c x, v, ts => relC I w mp x v ts
  | .agg cs, v, ts => ts = [] ∧ ∃ vs : List Value, v = .agg vs.toArray ∧ relL I w mp cs vs [] ∧ cs.all noPtr = true

/-- Several values; those already taken out own nothing more. -/
def relT (I : Imm) (w : World) (mp : PRef → Option Nat) (used : List Nat) : Nat → List V → List Value → List Nat → Prop
  | _, [], vs, ts => vs = [] ∧ ts = []
  | i, x :: xs, vs, ts => ∃ v r t1 t2, vs = v :: r ∧ ts = t1 ++ t2 ∧ relV I w mp (if memN used i then x.share else x) v t1 ∧ relT I w mp used (i + 1) xs r t2

def relA (I : Imm) (w : World) (mp : PRef → Option Nat) : AV → Value → List Nat → Prop
  | .top, _, ts => ts = []
  | .und, v, ts => v = undef ∧ ts = []
  | .v x, v, ts => relV I w mp x v ts
  | .tup vs used, v, ts => ∃ l : List Value, v = .tuple l.toArray ∧ relT I w (fun _ => none) used 0 vs l ts
  | .el ds off, v, ts => (∃ b o, v = .pointer (some ⟨b, o + off, none⟩) ∧ relCs I w b o ds) ∧ ts = []
  | .ifc t x, v, ts => (∃ u, v = .iface t u ∧ relV I w (fun _ => none) x u []) ∧ ts = []

/-- A box: its block's cells, none of them immutable. -/
def relB (I : Imm) (w : World) (b : Nat) (cs : List C) (ts : List Nat) : Prop :=
  (∃ (arr : Array Value) (T : TypeId), w.heap[b]? = some (.cells arr T (0, 0)) ∧ relL I w (fun _ => none) cs arr.toList ts ∧ cs.all noPtr = true ∧ ∀ o, ¬ I b o) ∨
  (∃ (l : List UInt8) (p v : Value) (T te : TypeId), cs = [.bld T te l] ∧ w.heap[b]? = some (.cells #[p, v] T (0, 0)) ∧ (p = .pointer none ∨ p = .pointer (some ⟨b, 0, none⟩)) ∧
    relC I w (fun _ => none) (.sl 1 (bytesD l) .own) v ts ∧ (∀ o, ¬ I b o) ∧ (∀ g, g ∈ ts → ∃ arr fz, w.heap[g]? = some (.cells arr te fz)) ∧ (l = [] ∧ v = .slice none 0 0 ∨ ts ≠ []))

def relBs (I : Imm) (w : World) : List Nat → List (List C) → List Nat → Prop
  | [], [], ts => ts = []
  | b :: bl, cs :: r, ts => ∃ t1 t2, ts = t1 ++ t2 ∧ relB I w b cs t1 ∧ relBs I w bl r t2
  | _, _, _ => False

/-! ### The world goes on -/
/-- No block. -/
abbrev No : Nat → Prop := fun _ => False
/-- Only some blocks of the first world have changed. -/
structure Ext (ch : Nat → Prop) (w w' : World) : Prop where
  os : w'.os = w.os
  tape : w'.tape = w.tape
  output : w'.output = w.output
  size : w.heap.size ≤ w'.heap.size
  block : ∀ b, b < w.heap.size → ¬ ch b → w'.heap[b]? = w.heap[b]?

theorem Ext.refl (ch : Nat → Prop) (w : World) : Ext ch w w := ⟨rfl, rfl, rfl, Nat.le_refl _, fun _ _ _ => rfl⟩
theorem Ext.trans {ch : Nat → Prop} {w w1 w2 : World} (h : Ext ch w w1) {ch' : Nat → Prop} (k : Ext ch' w1 w2) (hc : ∀ b, ch' b → ch b ∨ w.heap.size ≤ b) : Ext ch w w2 :=
  ⟨k.os.trans h.os, k.tape.trans h.tape, k.output.trans h.output, Nat.le_trans h.size k.size, fun b hb hn =>
    (k.block b (Nat.lt_of_lt_of_le hb h.size) fun hm => (hc b hm).elim hn (by omega)).trans (h.block b hb hn)⟩
theorem Ext.mono {ch ch' : Nat → Prop} {w w' : World} (h : Ext ch w w') (hs : ∀ b, ch b → ch' b) : Ext ch' w w' :=
  ⟨h.os, h.tape, h.output, h.size, fun b hb hn => h.block b hb fun hm => hn (hs b hm)⟩
theorem Ext.drew (w : World) : Ext No w w.drew := ⟨rfl, rfl, rfl, Nat.le_refl _, fun _ _ _ => rfl⟩
theorem Ext.alloc (w : World) (o : Obj) : Ext No w (w.alloc o) := ⟨rfl, rfl, rfl, by simp, fun b hb _ => heap_alloc_old w o b hb⟩
theorem Ext.setRow (w : World) (g : Nat) (cs : Array Value) : Ext (fun b => b = g) w (w.setRow g cs) := ⟨rfl, rfl, rfl, by simp, fun b _ hn => setRow_other w g b cs hn⟩

theorem cellAt_of_block {w w' : World} {b o : Nat} (h : w'.heap[b]? = w.heap[b]?) : cellAt w' b o = cellAt w b o := by simp [cellAt, World.cell?, h]
theorem lt_of_cellAt {w : World} {b o : Nat} {v : Value} (h : cellAt w b o = some v) : b < w.heap.size := World.block_lt_of_cell? w ⟨b, o, none⟩ h
theorem lt_of_heap {w : World} {b : Nat} {x : Obj} (h : w.heap[b]? = some x) : b < w.heap.size := (Array.getElem?_eq_some_iff.1 h).1

/-- What a step must keep: the immutable cells; new ones are new cells, or lay in what was changed. -/
structure Step (ch : Nat → Prop) (I J : Imm) (w w' : World) : Prop where
  ext : Ext ch w w'
  sub : Sub I J
  agree : Agree I w w'
  made : ∀ b o, J b o → I b o ∨ ((ch b ∨ w.heap.size ≤ b) ∧ b < w'.heap.size)
theorem Step.new {ch : Nat → Prop} {I J : Imm} {w w' : World} (h : Step ch I J w w') (b o : Nat) (hJ : J b o) : I b o ∨ ch b ∨ w.heap.size ≤ b := (h.made b o hJ).imp id And.left
theorem Step.bnd {ch : Nat → Prop} {I J : Imm} {w w' : World} (h : Step ch I J w w') (hI : ∀ b o, I b o → b < w.heap.size) (b o : Nat) (hJ : J b o) : b < w'.heap.size :=
  (h.made b o hJ).elim (fun hi => Nat.lt_of_lt_of_le (hI b o hi) h.ext.size) And.right
theorem Step.trans {ch ch' : Nat → Prop} {I J K : Imm} {w w1 w2 : World} (h : Step ch I J w w1) (k : Step ch' J K w1 w2) (hc : ∀ b, ch' b → ch b ∨ w.heap.size ≤ b) : Step ch I K w w2 :=
  ⟨h.ext.trans k.ext hc, h.sub.trans k.sub, h.agree.trans h.sub k.agree, fun b o hK => by
    rcases k.made b o hK with h1 | ⟨h1, h2⟩
    · rcases h.made b o h1 with h3 | ⟨h3, h4⟩
      · exact .inl h3
      · exact .inr ⟨h3, Nat.lt_of_lt_of_le h4 k.ext.size⟩
    · refine .inr ⟨?_, h2⟩
      rcases h1 with h1 | h1
      · exact hc b h1
      · exact .inr (Nat.le_trans h.ext.size h1)⟩

theorem Step.refl (ch : Nat → Prop) (I : Imm) (w : World) : Step ch I I w w := ⟨.refl _ _, .refl _, .refl _ _, fun _ _ h => .inl h⟩
theorem Step.drew (I : Imm) (w : World) : Step No I I w w.drew := ⟨.drew w, .refl _, fun _ _ _ => rfl, fun _ _ h => .inl h⟩

section
variable {ch : Nat → Prop} {I J : Imm} {w w' : World} {mp : PRef → Option Nat}

theorem relC_step (h : Step ch I J w w') {c : C} {v : Value} {ts : List Nat} (hc : relC I w mp c v ts) (hd : ∀ b, b ∈ ts → ¬ ch b) : relC J w' mp c v ts := by
  cases c <;> simp only [relC] at hc ⊢
  case sl sz es fl =>
    obtain ⟨a, cap, hv, hl, hr, hf⟩ := hc
    refine ⟨a, cap, hv, hl, ?_, ?_⟩
    · rcases hr with hr | ⟨b, o, ha, hr⟩
      · exact .inl hr
      · exact .inr ⟨b, o, ha, relEs_mono h.sub h.agree b o sz es hr⟩
    · cases fl <;> simp only at hf ⊢
      · exact hf
      · rcases hf with hf | ⟨b, arr, T, fz, ha, ht, h0, hb, hs, hz, hm, hn⟩
        · exact .inl hf
        · have hbc : ¬ ch b := hd b (by simp [ht])
          refine .inr ⟨b, arr, T, fz, ha, ht, h0, (h.ext.block b (lt_of_heap hb) hbc).trans hb, hs, hz, hm, fun o ho hJ => ?_⟩
          rcases h.new b o hJ with h1 | h1 | h1
          · exact hn o ho h1
          · exact hbc h1
          · have := lt_of_heap hb; omega
      · exact hf
  all_goals exact hc

theorem relL_step (h : Step ch I J w w') : ∀ {cs : List C} {vs : List Value} {ts : List Nat}, relL I w mp cs vs ts → (∀ b, b ∈ ts → ¬ ch b) → relL J w' mp cs vs ts
  | [], _, _, hl, _ => hl
  | c :: cs, vs, ts, hl, hd => by
    obtain ⟨v, r, t1, t2, rfl, rfl, hc, hr⟩ := hl
    exact ⟨v, r, t1, t2, rfl, rfl, relC_step h hc (fun b hb => hd b (by simp [hb])), relL_step h hr (fun b hb => hd b (by simp [hb]))⟩

theorem relV_step (h : Step ch I J w w') {x : V} {v : Value} {ts : List Nat} (hc : relV I w mp x v ts) (hd : ∀ b, b ∈ ts → ¬ ch b) : relV J w' mp x v ts := by
  cases x with
  | c x => exact relC_step h hc hd
  | agg cs => obtain ⟨ht, vs, hv, hl, hp⟩ := hc; exact ⟨ht, vs, hv, relL_step h hl (by simp), hp⟩

theorem relT_step (h : Step ch I J w w') {used : List Nat} : ∀ {xs : List V} {i : Nat} {vs : List Value} {ts : List Nat}, relT I w mp used i xs vs ts → (∀ b, b ∈ ts → ¬ ch b) → relT J w' mp used i xs vs ts
  | [], _, _, _, hl, _ => hl
  | x :: xs, i, vs, ts, hl, hd => by
    obtain ⟨v, r, t1, t2, rfl, rfl, hc, hr⟩ := hl
    exact ⟨v, r, t1, t2, rfl, rfl, relV_step h hc (fun b hb => hd b (by simp [hb])), relT_step h hr (fun b hb => hd b (by simp [hb]))⟩

theorem relA_step (h : Step ch I J w w') {x : AV} {v : Value} {ts : List Nat} (hc : relA I w mp x v ts) (hd : ∀ b, b ∈ ts → ¬ ch b) : relA J w' mp x v ts := by
  cases x with
  | top => exact hc
  | und => exact hc
  | v x => exact relV_step h hc hd
  | tup xs used => obtain ⟨l, hl, ht⟩ := hc; exact ⟨l, hl, relT_step h ht hd⟩
  | el ds off => obtain ⟨⟨b, o, hv, hr⟩, ht⟩ := hc; exact ⟨⟨b, o, hv, relCs_mono h.sub h.agree b o ds hr⟩, ht⟩
  | ifc t x => obtain ⟨⟨u, hv, hx⟩, ht⟩ := hc; exact ⟨⟨u, hv, relV_step h hx (by simp)⟩, ht⟩

theorem relB_step (h : Step ch I J w w') {b : Nat} {cs : List C} {ts : List Nat} (hb : relB I w b cs ts) (hn : ¬ ch b) (hd : ∀ b, b ∈ ts → ¬ ch b) : relB J w' b cs ts := by
  have hnew : (∀ o, ¬ I b o) → b < w.heap.size → ∀ o, ¬ J b o := fun hI hlt o hJ => by
    rcases h.new b o hJ with h1 | h1 | h1
    · exact hI o h1
    · exact hn h1
    · omega
  rcases hb with ⟨arr, T, hh, hl, hp, hI⟩ | ⟨l, p, v, T, te, hcs, hh, hp, hv, hI, hte, hown⟩
  · exact .inl ⟨arr, T, (h.ext.block b (lt_of_heap hh) hn).trans hh, relL_step h hl hd, hp, hnew hI (lt_of_heap hh)⟩
  · exact .inr ⟨l, p, v, T, te, hcs, (h.ext.block b (lt_of_heap hh) hn).trans hh, hp, relC_step h hv hd, hnew hI (lt_of_heap hh), fun g hg => by
      obtain ⟨arr, fz, hgg⟩ := hte g hg
      exact ⟨arr, fz, (h.ext.block g (lt_of_heap hgg) (hd g hg)).trans hgg⟩, hown⟩

theorem relBs_step (h : Step ch I J w w') : ∀ {bl : List Nat} {bs : List (List C)} {ts : List Nat}, relBs I w bl bs ts → (∀ b, b ∈ bl → ¬ ch b) → (∀ b, b ∈ ts → ¬ ch b) → relBs J w' bl bs ts
  | [], [], _, hr, _, _ => hr
  | b :: bl, cs :: r, ts, hr, hn, hd => by
    obtain ⟨t1, t2, rfl, hb, hr⟩ := hr
    exact ⟨t1, t2, rfl, relB_step h hb (hn b (by simp)) (fun b hb => hd b (by simp [hb])), relBs_step h hr (fun b hb => hn b (by simp [hb])) (fun b hb => hd b (by simp [hb]))⟩
  | [], _ :: _, _, hr, _, _ => hr.elim
  | _ :: _, [], _, hr, _, _ => hr.elim
end

/-! ### What is owned lies in the heap -/
theorem relC_tips_lt {I : Imm} {w : World} {mp : PRef → Option Nat} {c : C} {v : Value} {ts : List Nat} (h : relC I w mp c v ts) : ∀ b, b ∈ ts → b < w.heap.size := by
  intro b hb
  cases c <;> simp only [relC] at h
  case sl sz es fl =>
    obtain ⟨a, cap, hv, hl, hr, hf⟩ := h
    cases fl <;> simp only at hf
    · subst hf; simp at hb
    · rcases hf with hf | ⟨b', arr, T, fz, ha, ht, h0, hbb, _⟩
      · rw [hf.1] at hb; simp at hb
      · rw [ht] at hb; simp at hb; subst hb; exact lt_of_heap hbb
    · rw [hf.1] at hb; simp at hb
  all_goals (first | exact h.elim | (rw [h.2] at hb; simp at hb))
theorem relL_tips_lt {I : Imm} {w : World} {mp : PRef → Option Nat} : ∀ {cs : List C} {vs : List Value} {ts : List Nat}, relL I w mp cs vs ts → ∀ b, b ∈ ts → b < w.heap.size
  | [], _, _, h, b, hb => by rw [h.2] at hb; simp at hb
  | c :: cs, vs, ts, h, b, hb => by
    obtain ⟨v, r, t1, t2, rfl, rfl, hc, hr⟩ := h
    rcases List.mem_append.1 hb with h1 | h1
    · exact relC_tips_lt hc b h1
    · exact relL_tips_lt hr b h1

theorem relL_length {I : Imm} {w : World} {mp : PRef → Option Nat} : ∀ {cs : List C} {vs : List Value} {ts : List Nat}, relL I w mp cs vs ts → vs.length = cs.length
  | [], _, _, h => by rw [h.1]; rfl
  | c :: cs, vs, ts, h => by
    obtain ⟨v, r, t1, t2, rfl, rfl, hc, hr⟩ := h
    simp [relL_length hr]

theorem relC_one {I : Imm} {w : World} {mp : PRef → Option Nat} {c : C} {v : Value} {ts : List Nat} (h : relC I w mp c v ts) (hp : noPtr c = true) : v.oneCell' = true := by
  cases c <;> simp only [relC, noPtr] at h hp
  case sl sz es fl => obtain ⟨a, cap, rfl, _⟩ := h; rfl
  all_goals first | exact h.elim | (rw [h.1]; rfl) | (exact absurd hp (by simp))
theorem relL_one {I : Imm} {w : World} {mp : PRef → Option Nat} : ∀ {cs : List C} {vs : List Value} {ts : List Nat}, relL I w mp cs vs ts → cs.all noPtr = true → ∀ v, v ∈ vs → v.oneCell' = true
  | [], _, _, h, _, v, hv => by rw [h.1] at hv; simp at hv
  | c :: cs, vs, ts, h, hp, v, hv => by
    obtain ⟨u, r, t1, t2, rfl, rfl, hc, hr⟩ := h
    simp only [List.all_cons, Bool.and_eq_true] at hp
    rcases List.mem_cons.1 hv with h1 | h1
    · subst h1; exact relC_one hc hp.1
    · exact relL_one hr hp.2 v h1

/-! ### Sharing, giving away -/
theorem relC_share {I : Imm} {w : World} {mp : PRef → Option Nat} {c : C} {v : Value} {ts : List Nat} (h : relC I w mp c v ts) : relC I w mp c.share v [] := by
  cases c <;> simp only [relC, C.share] at h ⊢
  case sl sz es fl => obtain ⟨a, cap, hv, hl, hr, _⟩ := h; exact ⟨a, cap, hv, hl, hr, trivial⟩
  all_goals first | exact h.elim | exact ⟨h.1, trivial⟩
theorem relC_dem {I : Imm} {w : World} {mp : PRef → Option Nat} {c : C} {v : Value} {ts : List Nat} (h : relC I w mp c v ts) : relC I w mp c.dem v [] := by
  cases c <;> simp only [relC, C.dem] at h ⊢
  case sl sz es fl =>
    obtain ⟨a, cap, hv, hl, hr, hf⟩ := h
    refine ⟨a, cap, hv, hl, hr, ?_⟩
    cases fl <;> simp only [Fl.dem] at hf ⊢
    exact ⟨trivial, hf.2⟩
  all_goals first | exact h.elim | exact ⟨h.1, trivial⟩
theorem relL_dem {I : Imm} {w : World} {mp : PRef → Option Nat} : ∀ {cs : List C} {vs : List Value} {ts : List Nat}, relL I w mp cs vs ts → relL I w mp (cs.map C.dem) vs []
  | [], _, _, h => ⟨h.1, rfl⟩
  | c :: cs, vs, ts, h => by
    obtain ⟨v, r, t1, t2, rfl, rfl, hc, hr⟩ := h
    exact ⟨v, r, [], [], rfl, rfl, relC_dem hc, relL_dem hr⟩
theorem relV_share {I : Imm} {w : World} {mp : PRef → Option Nat} {x : V} {v : Value} {ts : List Nat} (h : relV I w mp x v ts) : relV I w mp x.share v [] := by
  cases x with
  | c x => exact relC_share h
  | agg cs => exact ⟨rfl, h.2⟩
theorem noPtr_dem (c : C) : noPtr c.dem = noPtr c := by cases c <;> rfl
theorem noPtr_share (c : C) : noPtr c.share = noPtr c := by cases c <;> rfl
theorem all_noPtr_dem : ∀ cs : List C, (cs.map C.dem).all noPtr = cs.all noPtr
  | [] => rfl
  | c :: cs => by simp only [List.map_cons, List.all_cons, noPtr_dem, all_noPtr_dem cs]

/-- Pure data as cells. -/
theorem relC_of_D {I : Imm} {w : World} {mp : PRef → Option Nat} {d : D} {v : Value} (h : relD I w d v) : relC I w mp d.toC v [] := by
  cases d <;> simp only [relD, D.toC, relC] at h ⊢
  case sl sz es => obtain ⟨a, cap, hv, hl, hr⟩ := h; exact ⟨a, cap, hv, hl, hr, trivial⟩
  all_goals exact ⟨h, trivial⟩
theorem relD_of_C {I : Imm} {w : World} {mp : PRef → Option Nat} {c : C} {d : D} {v : Value} {ts : List Nat} (h : relC I w mp c v ts) (hd : c.toD = some d) : relD I w d v := by
  cases c <;> simp only [C.toD, Option.some.injEq, reduceCtorEq] at hd <;> subst hd <;> simp only [relC, relD] at h ⊢
  case sl sz es fl => obtain ⟨a, cap, hv, hl, hr, _⟩ := h; exact ⟨a, cap, hv, hl, hr⟩
  all_goals exact h.1
theorem noPtr_of_D (d : D) : noPtr d.toC = true := by cases d <;> rfl

end Go.Proofs.YtmbhohnoolflbaaDoorX
