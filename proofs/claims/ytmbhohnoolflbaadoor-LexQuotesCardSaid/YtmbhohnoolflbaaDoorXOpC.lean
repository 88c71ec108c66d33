/-
  OPERATIONS THAT ONLY HAND BACK A VALUE, part 3: rows, conversions, slicing, places; and the theorem over them all.
-/
import Derived.Test.YtmbhohnoolflbaaDoorXOpB
import Derived.Laws.Slices
import Derived.Laws.Build
import Derived.Deep.WholeRow
set_option linter.unusedVariables false
set_option linter.unusedSimpArgs false
namespace Go.Proofs.YtmbhohnoolflbaaDoorX

section
variable {P : Program} {E : Cfg} {I : Imm} {w : World} {mp : PRef → Option Nat} {ρ : Operand → Value} {r : Res}

/-- Data, one cell after the other. -/
def relR (I : Imm) (w : World) : List D → List Value → Prop
  | [], vs => vs = []
  | d :: ds, vs => ∃ v l, vs = v :: l ∧ relD I w d v ∧ relR I w ds l

theorem relR_length : ∀ {ds : List D} {vs : List Value}, relR I w ds vs → vs.length = ds.length
  | [], _, h => by rw [h]; rfl
  | d :: ds, _, h => by obtain ⟨v, l, rfl, _, hr⟩ := h; simp [relR_length hr]
theorem relR_append : ∀ {ds es : List D} {vs us : List Value}, relR I w ds vs → relR I w es us → relR I w (ds ++ es) (vs ++ us)
  | [], _, _, _, h, k => by rw [show _ = [] from h]; exact k
  | d :: ds, _, _, _, h, k => by obtain ⟨v, l, rfl, hd, hr⟩ := h; exact ⟨v, _, rfl, hd, relR_append hr k⟩
theorem relR_step {ch : Nat → Prop} {J : Imm} {w' : World} (hs : Step ch I J w w') : ∀ {ds : List D} {vs : List Value}, relR I w ds vs → relR J w' ds vs
  | [], _, h => h
  | d :: ds, _, h => by obtain ⟨v, l, rfl, hd, hr⟩ := h; exact ⟨v, l, rfl, relD_mono hs.sub hs.agree d v hd, relR_step hs hr⟩
theorem relR_of_L : ∀ {cs : List C} {vs : List Value} {ds : List D}, relL I w mp cs vs [] → toDs cs = some ds → relR I w ds vs
  | [], _, ds, h, hd => by simp [toDs] at hd; subst hd; exact h.1
  | c :: cs, _, ds, h, hd => by
    obtain ⟨v, l, rfl, hc, hl⟩ := relL_nil_cons.1 h
    simp only [toDs] at hd
    split at hd
    · rename_i d hdc
      split at hd
      · rename_i l' hl'
        cases hd
        exact ⟨v, l, rfl, relD_of_C hc hdc, relR_of_L hl hl'⟩
      · cases hd
    · cases hd
theorem run_cellsD {x : V} {v : Value} {ts : List Nat} {κ : List D → R} (hx : relV I w mp x v ts) (h : cellsD x κ = some r) : ∃ ds, κ ds = some r ∧ relR I w ds v.cells.toList := by
  cases x with
  | c c =>
    obtain ⟨d, hd, h1⟩ := onO_inv h
    refine ⟨[d], h1, ?_⟩
    rw [cells_of_relC hx]
    exact ⟨v, [], rfl, relD_of_C hx hd, rfl⟩
  | agg cs =>
    obtain ⟨ds, hd, h1⟩ := onO_inv h
    obtain ⟨_, vs, rfl, hl, _⟩ := hx
    exact ⟨ds, h1, relR_of_L hl hd⟩

theorem relR_oneCell : ∀ {ds : List D} {vs : List Value}, relR I w ds vs → ∀ v ∈ vs, v.oneCell' = true
  | [], _, h, v, hv => by rw [show _ = [] from h] at hv; simp at hv
  | d :: ds, _, h, v, hv => by
    obtain ⟨u, l, rfl, hd, hr⟩ := h
    rcases List.mem_cons.1 hv with h1 | h1
    · subst h1; exact relD_one hd
    · exact relR_oneCell hr v h1

/-- Data that lies in immutable cells. -/
theorem relCs_of_R {J : Imm} {w' : World} {b : Nat} : ∀ {ds : List D} {vs : List Value} {o : Nat}, relR J w' ds vs → (∀ j v, vs[j]? = some v → cellAt w' b (o + j) = some v) → (∀ j, j < ds.length → J b (o + j)) → relCs J w' b o ds
  | [], _, _, _, _, _ => trivial
  | d :: ds, _, o, h, hc, hJ => by
    obtain ⟨v, l, rfl, hd, hr⟩ := h
    refine ⟨⟨by simpa using hJ 0 (by simp), v, by simpa using hc 0 v (by simp), hd⟩, relCs_of_R hr (fun j u hj => ?_) (fun j hj => ?_)⟩
    · have := hc (j + 1) u (by simpa using hj); rwa [show o + (j + 1) = o + 1 + j by omega] at this
    · have := hJ (j + 1) (by simpa using hj); rwa [show o + (j + 1) = o + 1 + j by omega] at this

theorem flatten_length {sz : Nat} : ∀ {es : List (List D)}, allLen sz es = true → es.flatten.length = es.length * sz
  | [], _ => by simp
  | e :: es, h => by
    simp only [allLen, Bool.and_eq_true] at h
    rw [List.flatten_cons, List.length_append, Nat.eq_of_beq_eq_true h.1, flatten_length h.2, List.length_cons, Nat.add_mul]; omega

theorem relEs_of_flat {b sz : Nat} : ∀ {es : List (List D)} {o : Nat}, allLen sz es = true → relCs I w b o es.flatten → relEs I w b o sz es
  | [], _, _, _ => trivial
  | e :: es, o, h, hc => by
    simp only [allLen, Bool.and_eq_true] at h
    rw [List.flatten_cons, relCs_append] at hc
    have hl := Nat.eq_of_beq_eq_true h.1
    exact ⟨hl, hc.1, relEs_of_flat h.2 (hl ▸ hc.2)⟩
theorem flat_of_relEs {b sz : Nat} : ∀ {es : List (List D)} {o : Nat}, relEs I w b o sz es → relCs I w b o es.flatten ∧ allLen sz es = true
  | [], _, _ => ⟨trivial, rfl⟩
  | e :: es, o, h => by
    obtain ⟨hl, hc, hr⟩ := h
    obtain ⟨h1, h2⟩ := flat_of_relEs hr
    rw [List.flatten_cons, relCs_append, hl]
    exact ⟨⟨hc, h1⟩, by simp [allLen, hl, h2, Nat.beq_eq_true_eq]⟩

/-- Elements, one after the other. -/
theorem run_elems {g : Operand → AV} (hg : ∀ x, ∃ t, relA I w mp (g x) (ρ x) t) : ∀ (parts : List (Nat × Operand)) (n : Nat) (κ : List (List D) → R), elems g parts n κ = some r →
    ∃ (es : List (List D)) (vss : List (List Value)), κ es = some r ∧ es.length = parts.length ∧ vss.length = parts.length ∧ relR I w es.flatten vss.flatten ∧ (∀ (j : Nat) (e : List D) (vs : List Value), es[j]? = some e → vss[j]? = some vs → vs.length = e.length) ∧
      (parts.map fun (i, x) => (i, ρ x)).map (fun x => (x.1, x.2.cells.toList)) = (vss.zipIdx n).map fun x => (x.2, x.1)
  | [], n, κ, h => ⟨[], [], h, rfl, rfl, rfl, by simp, by simp⟩
  | (i, x) :: parts, n, κ, h => by
    simp only [elems] at h
    obtain ⟨hi, h1⟩ := chk_inv h
    obtain ⟨v, hv, h2⟩ := asV_inv h1
    obtain ⟨t, hx⟩ := hg x
    rw [hv] at hx
    obtain ⟨ds, h3, hds⟩ := run_cellsD hx h2
    obtain ⟨es, vss, h4, h5, h6, h7, h8, h9⟩ := run_elems hg parts (n + 1) _ h3
    refine ⟨ds :: es, (ρ x).cells.toList :: vss, h4, by simp [h5], by simp [h6], by simpa using relR_append hds h7, fun j e vs hj hvs => ?_, ?_⟩
    · cases j with
      | zero => simp at hj hvs; subst hj; subst hvs; simpa using relR_length hds
      | succ j => simp at hj hvs; exact h8 j e vs hj hvs
    · simp only [List.map_cons, List.zipIdx_cons, h9]
      rw [Nat.eq_of_beq_eq_true hi]

theorem fill_row (size : Nat) : ∀ (vss : List (List Value)) (k : Nat) (parts : List (Nat × Value)) (done : List Value) (rest : List Value), done.length = k * size → rest.length = vss.length * size → (∀ vs ∈ vss, vs.length = size) →
    parts.map (fun x => (x.1, x.2.cells.toList)) = (vss.zipIdx k).map (fun x => (x.2, x.1)) → Instr.fill (fun i => some (i * size, size)) (done ++ rest).toArray parts = some (done ++ vss.flatten).toArray
  | [], k, parts, done, rest, hd, hr, _, hp => by
    have : parts = [] := by simpa using hp
    subst this
    have : rest = [] := List.eq_nil_of_length_eq_zero (by simpa using hr)
    subst this
    simp [Instr.fill]
  | vs :: vss, k, parts, done, rest, hd, hr, hl, hp => by
    cases parts with
    | nil => simp at hp
    | cons p parts =>
      obtain ⟨i, v⟩ := p
      simp only [List.map_cons, List.zipIdx_cons, List.cons.injEq, Prod.mk.injEq] at hp
      obtain ⟨⟨rfl, hv⟩, hp⟩ := hp
      have hvl : vs.length = size := hl vs (by simp)
      simp only [List.length_cons, Nat.add_mul] at hr
      rw [fill_one (o := i * size) (n := size) rfl (by rw [← Array.length_toList, hv, hvl]) (by simp; omega), hv]
      have e : ((done ++ rest).toArray.toList.take (i * size) ++ vs ++ (done ++ rest).toArray.toList.drop (i * size + size)) = (done ++ vs) ++ rest.drop size := by
        simp only [List.toList_toArray, ← hd]
        rw [List.take_left, ← List.drop_drop, List.drop_left]
      rw [e, fill_row size vss (i + 1) parts (done ++ vs) (rest.drop size) (by simp [hd, hvl, Nat.add_mul]) (by simp; omega) (fun x hx => hl x (by simp [hx])) hp]
      simp

theorem allLen_get {n : Nat} : ∀ {es : List (List D)}, allLen n es = true → ∀ e ∈ es, e.length = n
  | [], _, e, he => by simp at he
  | x :: es, h, e, he => by
    simp only [allLen, Bool.and_eq_true] at h
    rcases List.mem_cons.1 he with h1 | h1
    · subst h1; exact Nat.eq_of_beq_eq_true h.1
    · exact allLen_get h.2 e h1

/-- Immutable cells of a new block. -/
def addI (I : Imm) (b n : Nat) : Imm := fun b' o => I b' o ∨ (b' = b ∧ o < n)
theorem step_alloc (cs : Array Value) (T : TypeId) (n : Nat) (hI : ∀ b o, I b o → b < w.heap.size) : Step No I (addI I w.heap.size n) w (w.alloc (.cells cs T)) :=
  ⟨.alloc w _, fun _ _ h => .inl h, fun b o h => cellAt_of_block ((Ext.alloc w _).block b (hI b o h) (by simp)), fun b o h => by
    rcases h with h | ⟨h, _⟩
    · exact .inl h
    · exact .inr ⟨.inr (by omega), by simp; omega⟩⟩
theorem step_alloc' (cs : Array Value) (T : TypeId) (hI : ∀ b o, I b o → b < w.heap.size) : Step No I I w (w.alloc (.cells cs T)) :=
  ⟨.alloc w _, .refl _, fun b o h => cellAt_of_block ((Ext.alloc w _).block b (hI b o h) (by simp)), fun b o h => .inl h⟩

theorem relA_slice {sz : Nat} {es : List (List D)} {fl : Fl} {v : Value} {t : List Nat} (h : relA I w mp (.v (.c (.sl sz es fl))) v t) :
    ∃ a cap, v = .slice a es.length cap ∧ es.length ≤ cap ∧ (es = [] ∨ ∃ b o, a = some ⟨b, o, none⟩ ∧ relEs I w b o sz es) := by
  obtain ⟨a, cap, h1, h2, h3, _⟩ := h
  exact ⟨a, cap, h1, h2, h3⟩

theorem textD_inv : ∀ {es : List (List D)} {l : List UInt8}, textD es = some l → ∃ ns : List Int, es = ns.map (fun n => [D.int .u8 n]) ∧ l = ns.map fun n => UInt8.ofNat n.toNat
  | [], l, h => by simp [textD] at h; subst h; exact ⟨[], rfl, rfl⟩
  | e :: es, l, h => by
    simp only [textD] at h
    split at h
    · rename_i b hb
      split at h
      · rename_i l' hl'
        cases h
        obtain ⟨ns, h1, h2⟩ := textD_inv hl'
        unfold byteD at hb
        split at hb
        · rename_i n
          cases hb
          exact ⟨n :: ns, by simp [h1], by simp [h2]⟩
        · cases hb
      · cases h
    · cases h

theorem bytesD_length (l : List UInt8) : (bytesD l).length = l.length := by induction l <;> simp_all [bytesD]
theorem bytesD_get : ∀ (l : List UInt8) (j : Nat), (bytesD l)[j]? = (l[j]?).map fun b => [D.int .u8 (b.toNat : Int)]
  | [], j => by simp [bytesD]
  | b :: l, 0 => by simp [bytesD]
  | b :: l, j + 1 => by simp [bytesD, bytesD_get l j]
theorem relEs_bytes {b : Nat} : ∀ {l : List UInt8} {o : Nat}, (∀ j, j < l.length → I b (o + j) ∧ cellAt w b (o + j) = some (.int .u8 ((l.getD j 0).toNat : Int))) → relEs I w b o 1 (bytesD l)
  | [], _, _ => trivial
  | x :: l, o, h => by
    refine ⟨rfl, ⟨⟨(h 0 (by simp)).1, _, (h 0 (by simp)).2, rfl⟩, trivial⟩, relEs_bytes fun j hj => ?_⟩
    have := h (j + 1) (by simpa using hj)
    rw [show o + (j + 1) = o + 1 + j by omega] at this
    simpa using this

theorem relT_get {used : List Nat} : ∀ {xs : List V} {i k : Nat} {vs : List Value} {ts : List Nat} {x : V}, relT I w mp used k xs vs ts → xs[i]? = some x →
    ∃ v t, vs[i]? = some v ∧ relV I w mp (if memN used (k + i) then x.share else x) v t
  | [], i, k, _, _, x, _, h => by simp at h
  | y :: xs, i, k, vs, ts, x, hr, h => by
    obtain ⟨v, l, t1, t2, rfl, rfl, hy, hl⟩ := hr
    cases i with
    | zero => simp at h; subst h; exact ⟨v, t1, by simp, hy⟩
    | succ i =>
      simp at h
      obtain ⟨v', t, h1, h2⟩ := relT_get hl h
      exact ⟨v', t, by simpa using h1, by rwa [show k + 1 + i = k + (i + 1) by omega] at h2⟩

theorem V.share_share (x : V) : x.share.share = x.share := by cases x with
  | c c => cases c <;> rfl
  | agg cs => rfl

theorem viewV_inv {k : TK} {x : V} {κ : V → R} {v : Value} {ts : List Nat} (h : viewV E k x κ = some r) (hr : relV I w mp x v ts) : ∃ y, κ y = some r ∧ relV I w mp y v ts ∧ k ≠ .oth := by
  cases x with
  | c c =>
    have h' : k.isAgg = false ∧ viewC E k c (fun x => κ (.c x)) = some r := by
      cases k <;> simp only [viewV, reduceCtorEq] at h <;> exact ⟨rfl, h⟩
    obtain ⟨y, h1, h2, h3, _⟩ := viewC_inv h'.2 hr
    exact ⟨.c y, h1, h2, h3⟩
  | agg cs =>
    cases k <;> simp only [viewV, reduceCtorEq] at h
    all_goals exact ⟨_, h, hr, by simp⟩

theorem run_slice_bounds {isSlice : Bool} {len cap : Nat} {lo hi : Option Value} {a b : Int} (hlo : (lo = none ∧ a = 0) ∨ lo = some (.int .i64 a)) (hhi : (hi = none ∧ b = len) ∨ hi = some (.int .i64 b))
    (h0 : 0 ≤ a) (h1 : a ≤ b) (h2 : b ≤ len) (h3 : len ≤ cap) : (Instr.sliceBounds isSlice len cap lo hi none).run P w = .ok (a.toNat, b.toNat, cap) w := by
  have hb : 0 ≤ b := by omega
  have hbc : b ≤ (cap : Int) := by omega
  have hab : a ≤ (b.toNat : Int) := by omega
  rcases hlo with ⟨rfl, rfl⟩ | rfl <;> rcases hhi with ⟨rfl, rfl⟩ | rfl
  · simp [Instr.sliceBounds]
  · simp [Instr.sliceBounds, Instr.sliceBound, asIntOf, hb, hbc]
  · simp [Instr.sliceBounds, Instr.sliceBound, asIntOf, h0, h1]
  · have hm : ¬ max b 0 < a := by omega
    simp [Instr.sliceBounds, Instr.sliceBound, asIntOf, hb, hbc, h0, hm]

theorem run_slA (hT : WellT P E.T) {t : TypeId} {x : AV} {u : Value} {tx : List Nat} {lo hi : Option AV} {lo' hi' : Option Value} {κ : AV → R} (hx : relA I w mp x u tx)
    (hlo : (lo = none ∧ lo' = none) ∨ ∃ y v t, lo = some y ∧ lo' = some v ∧ relA I w mp y v t) (hhi : (hi = none ∧ hi' = none) ∨ ∃ y v t, hi = some y ∧ hi' = some v ∧ relA I w mp y v t)
    (h : slA E t x lo hi κ = some r) : ∃ y v, κ y = some r ∧ (Instr.sliceAt t u lo' hi' none).run P w = .ok v w ∧ relA I w mp y v [] := by
  have low : ∀ {κ' : Int → R}, orI 0 lo κ' = some r → ∃ a, κ' a = some r ∧ ((lo' = none ∧ a = 0) ∨ lo' = some (.int .i64 a)) := by
    intro κ' h
    rcases hlo with ⟨rfl, rfl⟩ | ⟨y, v, t, rfl, rfl, hy⟩
    · exact ⟨0, h, .inl ⟨rfl, rfl⟩⟩
    · obtain ⟨a, rfl, h1⟩ := asI_inv h
      obtain rfl := relA_int hy
      exact ⟨a, h1, .inr rfl⟩
  have high : ∀ {n : Nat} {κ' : Int → R}, orI n hi κ' = some r → ∃ b, κ' b = some r ∧ ((hi' = none ∧ b = n) ∨ hi' = some (.int .i64 b)) := by
    intro n κ' h
    rcases hhi with ⟨rfl, rfl⟩ | ⟨y, v, t, rfl, rfl, hy⟩
    · exact ⟨n, h, .inl ⟨rfl, rfl⟩⟩
    · obtain ⟨a, rfl, h1⟩ := asI_inv h
      obtain rfl := relA_int hy
      exact ⟨a, h1, .inr rfl⟩
  obtain ⟨i, hi', h1⟩ := ty_inv h
  have hk := (hT t i hi').kind
  cases hkk : i.k <;> simp only [hkk, reduceCtorEq] at h1 hk
  case str =>
    obtain ⟨l, rfl, h2⟩ := asS_inv h1
    obtain rfl := relA_str hx
    obtain ⟨a, h3, ea⟩ := low h2
    obtain ⟨b, h4, eb⟩ := high h3
    obtain ⟨c0, c1, c2, h5⟩ := cutL_inv h4
    refine ⟨_, _, h5, ?_, relA_vS _⟩
    have hb := run_slice_bounds (P := P) (w := w) (isSlice := false) (len := l.length) (cap := l.length) ea eb c0 c1 c2 (Nat.le_refl _)
    have hs : (ByteArray.mk l.toArray).size = l.length := by simp [ByteArray.size]
    simp only [Instr.sliceAt, Instr.slice, Sem.run_bind, run_und hk, Result.andThen_ok, hs, hb, Option.isSome, Bool.false_eq_true, if_false, Sem.run_pure]
    congr 2
    apply ByteArray.ext
    apply Array.ext'
    simp [ByteArray.data_extract, List.drop_take]
  case slice e =>
    obtain ⟨sz, es, fl, rfl, h2⟩ := asL_inv h1
    obtain ⟨hsz, h2⟩ := chk_inv h2
    obtain ⟨ad, cap, rfl, hlc, hes⟩ := relA_slice hx
    obtain ⟨a, h3, ea⟩ := low h2
    obtain ⟨b, h4, eb⟩ := high h3
    obtain ⟨c0, c1, c2, h5⟩ := cutL_inv h4
    have hb := run_slice_bounds (P := P) (w := w) (isSlice := true) (len := es.length) (cap := cap) ea eb c0 c1 c2 hlc
    have hlen : ((es.take b.toNat).drop a.toNat).length = b.toNat - a.toNat := by simp; omega
    refine ⟨_, .slice (if cap = a.toNat then ad else ad.map (·.add (a.toNat * szOf E e))) (b.toNat - a.toNat) (cap - a.toNat), h5, ?_, ?_⟩
    · simp only [Instr.sliceAt, Instr.slice, Sem.run_bind, run_und hk.1, Result.andThen_ok, hb, run_size' hT hk.2, Sem.run_pure]
    · refine ⟨_, _, by rw [hlen], by omega, ?_, rfl⟩
      by_cases hz : (es.take b.toNat).drop a.toNat = []
      · exact .inl hz
      · rcases hes with rfl | ⟨bl, o, rfl, hr⟩
        · simp at hz
        · have hlt : a.toNat < b.toNat := by
            rcases Nat.lt_or_ge a.toNat b.toNat with h | h
            · exact h
            · exact absurd (List.eq_nil_of_length_eq_zero (by rw [hlen]; omega)) hz
          have hsz' : sz = szOf E e := by
            simp only [Bool.or_eq_true] at hsz
            rcases hsz with h | h
            · exact Nat.eq_of_beq_eq_true h
            · have : es = [] := by simpa using h
              subst this; simp at hz
          refine .inr ⟨bl, o + a.toNat * szOf E e, ?_, ?_⟩
          · rw [if_neg (by omega)]; simp [addr_add]
          · have h1 := (List.take_append_drop b.toNat es).symm
            rw [h1, relEs_append] at hr
            have h2 := (List.take_append_drop a.toNat (es.take b.toNat)).symm
            have hr1 := hr.1
            rw [h2, relEs_append] at hr1
            have hl2 : ((es.take b.toNat).take a.toNat).length = a.toNat := by simp; omega
            rw [hl2, hsz'] at hr1
            rw [hsz']
            exact hr1.2

theorem run_convA (hT : WellT P E.T) (hI : ∀ b o, I b o → b < w.heap.size) {s d : TypeId} {x : AV} {u : Value} {tx : List Nat} {κ : AV → R} (hx : relA I w mp x u tx) (h : convA E s d x κ = some r) :
    ∃ y v w' J, κ y = some r ∧ (convert s d u).run P w = .ok v w' ∧ Step No I J w w' ∧ relA J w' mp y v [] := by
  obtain ⟨i, hi, h1⟩ := ty_inv h
  obtain ⟨j, hj, h2⟩ := ty_inv h1
  have hk := (hT s i hi).kind
  have hk' := (hT d j hj).kind
  cases hki : i.k <;> cases hkj : j.k <;> simp only [hki, hkj, reduceCtorEq] at h2 hk hk'
  case int.int k k' =>
    obtain ⟨n, rfl, h3⟩ := asI_inv h2
    obtain rfl := relA_int hx
    exact ⟨_, _, w, I, h3, by simp [convert, run_und hk, run_und hk', Conv.intToInt] <;> rfl, .refl _ _ _, relA_vI _ _⟩
  case str.str =>
    obtain ⟨l, rfl, h3⟩ := asS_inv h2
    obtain rfl := relA_str hx
    exact ⟨_, _, w, I, h3, by simp [convert, run_und hk, run_und hk'] <;> rfl, .refl _ _ _, relA_vS _⟩
  case slice.str e =>
    obtain ⟨ei, hei, h3⟩ := ty_inv h2
    have hke := (hT e ei hei).kind
    split at h3
    · rename_i hkk
      simp only [hkk] at hke
      obtain ⟨sz, es, fl, rfl, h4⟩ := asL_inv h3
      obtain ⟨l, hl, h5⟩ := onO_inv h4
      obtain ⟨ad, cap, rfl, hlc, hes⟩ := relA_slice hx
      obtain ⟨ns, rfl, rfl⟩ := textD_inv hl
      refine ⟨_, _, w, I, h5, ?_, .refl _ _ _, relA_vS _⟩
      rcases hes with hes | ⟨b, o, rfl, hr⟩
      · have : ns = [] := by simpa using hes
        subst this
        rcases ad with _ | ad
        · exact run_convert_bytes_nil w s e hk.1 hke _ _ d hk'
        · have := run_convert_bytes_arg (P := P) w s e hk.1 hke ad.block ad.off 0 cap [] rfl (by simp) d hk'
          rcases ad with ⟨b, o, sp⟩
          simp [convert, run_und hk.1, run_und hk', run_und hke, Conv.bytesToString, loadCells, loadCellsFrom]
          rfl
      · have := run_convert_bytes_arg (P := P) w s e hk.1 hke b o ns.length cap ns rfl (fun i hi => by
          have hg := relEs_get hr (j := i) (e := [D.int .u8 ns[i]]) (by simp [List.getElem?_eq_getElem hi])
          have hsz : sz = 1 := by simpa using hg.1.symm
          obtain ⟨⟨_, v, hv, hd⟩, _⟩ := hg.2
          rw [hsz, Nat.mul_one] at hv
          simp only [relD] at hd
          subst hd
          simpa [cellAt, List.getD, List.getElem?_eq_getElem hi] using hv) d hk'
        rw [List.length_map]
        exact this
    · cases h3
  case str.slice e =>
    obtain ⟨ei, hei, h3⟩ := ty_inv h2
    have hke := (hT e ei hei).kind
    split at h3
    · rename_i hkk
      simp only [hkk] at hke
      obtain ⟨l, rfl, h4⟩ := asS_inv h3
      obtain rfl := relA_str hx
      have hs : (ByteArray.mk l.toArray).size = l.length := by simp [ByteArray.size]
      refine ⟨_, _, _, addI I w.heap.size l.length, h4, Lib.run_convert_string_bytes w s d e _ hk hk'.1 hke, ⟨⟨rfl, rfl, rfl, by rw [Lib.bytesWorld_size]; omega, fun b hb _ => Lib.bytesWorld_at_old w e _ b hb⟩, fun _ _ h => .inl h, fun b o h => cellAt_of_block (Lib.bytesWorld_at_old w e _ b (hI b o h)), fun b o h => ?_⟩, ?_⟩
      · rcases h with h | ⟨h, _⟩
        · exact .inl h
        · exact .inr ⟨.inr (by omega), by rw [Lib.bytesWorld_size]; omega⟩
      · refine ⟨_, _, by rw [bytesD_length, hs], ?_, ?_, rfl⟩
        · rw [bytesD_length, ← hs]; exact grownCap_ge w _ 0 e
        · refine .inr ⟨w.heap.size, 0, rfl, relEs_bytes fun j hj => ⟨.inr ⟨rfl, by simpa using hj⟩, ?_⟩⟩
          have := Lib.bytesWorld_cell w e ⟨l.toArray⟩ j (by rw [hs]; exact hj)
          simpa [cellAt] using this
    · cases h3

theorem run_buildSliceA (hT : WellT P E.T) (hI : ∀ b o, I b o → b < w.heap.size) {g : Operand → AV} (hg : ∀ x, ∃ t, relA I w mp (g x) (ρ x) t) {t : TypeId} {e : TypeId} {i ei : TI} (hi : nth E.T t = some i) (hk : i.k = .slice e) (hei : nth E.T e = some ei)
    (hz : ei.zero ≠ []) {len : Nat} {parts : Array (Nat × Operand)} {es : List (List D)} {vss : List (List Value)} (hel : es.length = parts.toList.length) (hvl : vss.length = parts.toList.length) (hR : relR I w es.flatten vss.flatten)
    (hlens : ∀ (j : Nat) (e : List D) (vs : List Value), es[j]? = some e → vss[j]? = some vs → vs.length = e.length)
    (hparts : (parts.toList.map fun (i, x) => (i, ρ x)).map (fun x => (x.1, x.2.cells.toList)) = (vss.zipIdx 0).map fun x => (x.2, x.1)) (hlen : es.length = len) (hall : allLen ei.size es = true) (hpos : 0 < ei.size) (hle : len * ei.size ≤ 16777216) :
    ∃ v w' J, (Instr.buildSlice t len (parts.map fun (i, x) => (i, ρ x))).run P w = .ok v w' ∧ Step No I J w w' ∧ relA J w' mp (.v (.c (.sl ei.size es .ti))) v [] := by
  have hkk := (hT t i hi).kind
  simp only [hk] at hkk
  obtain ⟨inf, hinf, hs, hb, hzz⟩ := (hT e ei hei).info
  have hzero : ∃ z, inf.zero = some z ∧ z.cells.size = ei.size := by
    rcases hzz hz with ⟨_, h2, h3⟩ | ⟨z, h1, _, h2, _⟩
    · exact ⟨_, h3, by rw [h2]; rfl⟩
    · exact ⟨z, h1, h2⟩
  obtain ⟨z, hz1, hz2⟩ := hzero
  have hvs : ∀ vs ∈ vss, vs.length = ei.size := by
    intro vs hv
    obtain ⟨j, hj, rfl⟩ := List.getElem_of_mem hv
    have hje : j < es.length := by omega
    have := hlens j es[j] vss[j] (List.getElem?_eq_getElem hje) (List.getElem?_eq_getElem hj)
    rw [this]; exact allLen_get hall _ (List.getElem_mem hje)
  have hlenv : vss.length = len := by omega
  have hfill := fill_row ei.size vss 0 ((parts.map fun (i, x) => (i, ρ x)).toList) [] ((List.range (len * ei.size)).map (z.cells[· % z.cells.size]!)) (by simp) (by simp [hlenv]) hvs (by rw [Array.toList_map]; exact hparts)
  simp only [List.nil_append] at hfill
  have hrow : (Array.range (len * ei.size)).map (fun x => z.cells[x % z.cells.size]!) = ((List.range (len * ei.size)).map (z.cells[· % z.cells.size]!)).toArray := by
    apply Array.ext'; simp
  refine ⟨.slice (some ⟨w.heap.size, 0, none⟩) len len, _, addI I w.heap.size (len * ei.size), ?_, step_alloc vss.flatten.toArray e _ hI, ?_⟩
  · by_cases h0 : len * ei.size = 0
    · have hl0 : len = 0 := by
        rcases Nat.mul_eq_zero.1 h0 with h | h
        · exact h
        · omega
      have hv0 : vss = [] := List.eq_nil_of_length_eq_zero (by omega)
      subst hv0
      have hp0 : parts = #[] := by
        have : parts.toList = [] := List.eq_nil_of_length_eq_zero (by simpa using hvl.symm)
        exact Array.ext' this
      subst hp0
      simp [Instr.buildSlice, run_und hkk.1, run_size hT hei, h0, hl0, Instr.fill, newRow]
      congr 2
      exact Array.ext' (by simp)
    · have hle' : ¬ 2 ^ 24 < len * ei.size := by simpa using hle
      simp only [Instr.buildSlice, Sem.run_bind, run_und hkk.1, Result.andThen_ok, run_size hT hei, gt_iff_lt, hle', if_false, h0, zeroValue, typeInfo, run_program, hinf, Sem.run_pure, hz1, hrow, hfill, newRow, run_newObj]
      rfl
  · have hlen' : es.length = len := hlen
    refine ⟨_, len, by rw [hlen'], by omega, ?_, rfl, hlen'.symm⟩
    refine .inr ⟨w.heap.size, 0, rfl, relEs_of_flat hall (relCs_of_R (relR_step (step_alloc _ e _ hI) hR) (fun j v hj => ?_) (fun j hj => ?_))⟩
    · rw [cellAt_heap (heap_alloc_last w _)]
      simpa using hj
    · refine .inr ⟨rfl, ?_⟩
      rw [flatten_length hall, hlen'] at hj
      omega

end
end Go.Proofs.YtmbhohnoolflbaaDoorX
