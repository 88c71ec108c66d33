/-
  APPEND, over a slice whose spare cells are one's own.
-/
import Derived.Test.YtmbhohnoolflbaaDoorXOpM
set_option linter.unusedVariables false
set_option linter.unusedSimpArgs false
namespace Go.Proofs.YtmbhohnoolflbaaDoorX

section
variable {P : Program} {E : Cfg} {B : Base} {mp : PRef → Option Nat} {ow : Own} {I : Imm} {s : St} {a : Act} {w : World} {r : Res}

theorem relCs_R {b : Nat} : ∀ {ds : List D} {o : Nat}, relCs I w b o ds → ∃ vs : List Value, vs.length = ds.length ∧ relR I w ds vs ∧ (∀ j v, vs[j]? = some v → cellAt w b (o + j) = some v) ∧ ∀ j, j < ds.length → I b (o + j)
  | [], _, _ => ⟨[], rfl, rfl, by simp, by simp⟩
  | d :: ds, o, ⟨⟨hI, v, hv, hd⟩, hr⟩ => by
    obtain ⟨vs, h1, h2, h3, h4⟩ := relCs_R hr
    refine ⟨v :: vs, by simp [h1], ⟨v, vs, rfl, hd, h2⟩, ?_, ?_⟩
    · intro j u hu
      cases j with
      | zero => simp at hu; subst hu; simpa using hv
      | succ j => simp at hu; have := h3 j u hu; rwa [show o + 1 + j = o + (j + 1) by omega] at this
    · intro j hj
      cases j with
      | zero => simpa using hI
      | succ j => have := h4 j (by simpa using hj); rwa [show o + 1 + j = o + (j + 1) by omega] at this

theorem allLen_append {n : Nat} : ∀ {xs ys : List (List D)}, allLen n xs = true → allLen n ys = true → allLen n (xs ++ ys) = true
  | [], _, _, h => h
  | x :: xs, ys, h1, h2 => by
    simp only [List.cons_append, allLen, Bool.and_eq_true] at h1 ⊢
    exact ⟨h1.1, allLen_append h1.2 h2⟩

theorem slice_row {ad : Option Addr} {sz n : Nat} {es : List (List D)} (h : es = [] ∨ ∃ b o, ad = some ⟨b, o, none⟩ ∧ relEs I w b o sz es) (hs : sz = n ∨ es = []) :
    ∃ vs : List Value, vs.length = es.length * n ∧ relR I w es.flatten vs ∧ allLen n es = true ∧ (∀ x, ad = some x → ∀ j u, vs[j]? = some u → w.cell? (x.add j) = some u) ∧ (es ≠ [] → ∃ b o, ad = some ⟨b, o, none⟩ ∧ ∀ j, j < es.length * n → I b (o + j)) := by
  by_cases he : es = []
  · subst he; exact ⟨[], by simp, rfl, rfl, by simp, fun h => absurd rfl h⟩
  · rcases hs with hs | hs
    · subst hs
      rcases h with h | ⟨b, o, rfl, hr⟩
      · exact absurd h he
      · obtain ⟨h1, h2⟩ := flat_of_relEs hr
        obtain ⟨vs, k1, k2, k3, k4⟩ := relCs_R h1
        rw [flatten_length h2] at k1 k4
        refine ⟨vs, k1, k2, h2, ?_, fun _ => ⟨b, o, rfl, k4⟩⟩
        intro x hx j u hu
        cases hx
        rw [addr_add]; exact k3 j u hu
    · exact absurd hs he

/-- A new row with elements and spare cells: it is one's own. -/
theorem grown_own (hI : ∀ b o, I b o → b < w.heap.size) {n cap : Nat} {es : List (List D)} {vs : List Value} (hlen : vs.length = es.length * n) (hr : relR I w es.flatten vs) (hal : allLen n es = true) (hpos : 0 < es.length)
    {arr : Array Value} {T : TypeId} (harr : ∀ (j : Nat) (u : Value), vs[j]? = some u → arr[j]? = some u) (hs : arr.size = cap * n) (hc : es.length ≤ cap) (hm : cap ≤ maxLen) :
    Step No I (addI I w.heap.size (es.length * n)) w (w.drew.alloc (.cells arr T)) ∧
    relC (addI I w.heap.size (es.length * n)) (w.drew.alloc (.cells arr T)) mp (.sl n es .own) (.slice (some ⟨w.heap.size, 0, none⟩) es.length cap) [w.heap.size] := by
  have hst : Step No I (addI I w.heap.size (es.length * n)) w (w.drew.alloc (.cells arr T)) := by
    have h2 := step_alloc (w := w.drew) arr T (es.length * n) hI
    exact (Step.drew I w).trans h2 (fun _ h => h.elim)
  refine ⟨hst, ⟨some ⟨w.heap.size, 0, none⟩, cap, rfl, hc, .inr ⟨w.heap.size, 0, rfl, ?_⟩, .inr ⟨w.heap.size, arr, T, (0, 0), rfl, rfl, hpos, heap_alloc_new w.drew _, hs, by simp, hm, ?_⟩⟩⟩
  · refine relEs_of_flat hal (relCs_of_R (relR_step hst hr) ?_ ?_)
    · intro j v hv
      have := harr j v hv
      have hn : (w.drew.alloc (.cells arr T)).heap[w.heap.size]? = some (.cells arr T) := heap_alloc_new w.drew _
      rw [Nat.zero_add, cellAt_heap hn]
      exact this
    · intro j hj
      rw [flatten_length hal] at hj
      exact .inr ⟨rfl, by omega⟩
  · intro o ho h
    rcases h with h | ⟨_, h⟩
    · have := hI _ _ h; omega
    · omega

theorem run_append_roomF (t ty e : TypeId) (i : TypeInfo) (ht : P.underlying t = some (.slice e)) (hi : P.info? e = some i)
    (g sLen sCap : Nat) (cur : Array Value) {T : TypeId} {fz : Nat × Nat} (hg : w.heap[g]? = some (.cells cur T fz)) (hfz : fz.2 ≤ sLen * i.size)
    (ad : Addr) (m c : Nat) (news : List Value) (hl : news.length = m * i.size) (hnews : ∀ j u, news[j]? = some u → w.cell? (ad.add j) = some u) (h1 : ∀ u ∈ news, u.oneCell' = true)
    (hroom : sLen + m ≤ sCap) (hfit : sLen * i.size + news.length ≤ cur.size) :
    (Builtin.append_ #[t, t] ty #[.slice (some ⟨g, 0, none⟩) sLen sCap, .slice (some ad) m c]).run P w =
      .ok (.slice (some ⟨g, 0, none⟩) (sLen + m) sCap) (w.setRow g (cur.toList.take (sLen * i.size) ++ news ++ cur.toList.drop (sLen * i.size + news.length)).toArray) := by
  have hf := run_firstCells_some (P := P) w i.size m ad m c news hl hnews
  have hst := run_storeCells_atF P g (sLen * i.size) T fz news 0 cur w hg (by simpa using hfz) (by simpa using hfit) h1
  simp only [Nat.add_zero] at hst
  simp [Builtin.append_, run_underlying ht, sizeOf, typeInfo, hi, Builtin.lenOf, hroom, hf, Addr.add_lit, hst]

theorem run_append0 (t ty e : TypeId) (i : TypeInfo) (ht : P.underlying t = some (.slice e)) (hi : P.info? e = some i) (ad : Option Addr) (sLen sCap : Nat) (hc : sLen ≤ sCap) (ad2 : Option Addr) (c : Nat) :
    (Builtin.append_ #[t, t] ty #[.slice ad sLen sCap, .slice ad2 0 c]).run P w = .ok (.slice ad sLen sCap) w := by
  cases ad <;> cases ad2 <;> simp [Builtin.append_, run_underlying ht, sizeOf, typeInfo, hi, Builtin.lenOf, hc, Builtin.firstCells, loadCells, loadCellsFrom, storeCells]

/-- The blocks' type. -/
def TeOk (e : TypeId) (ts : List Nat) (w : World) : Prop := ∀ g, g ∈ ts → ∃ arr fz, w.heap[g]? = some (.cells arr e fz)

/-- Appending, whatever the new elements come from. -/
theorem run_appendX (hT : WellT P E.T) (hI : ∀ b o, I b o → b < w.heap.size) {t e : TypeId} {i ei : TI} (hi : nth E.T t = some i) (hk : i.k = .slice e) (hei : nth E.T e = some ei)
    {sz : Nat} {es : List (List D)} {fl : Fl} {va : Value} {ts : List Nat} (hv : relC I w mp (.sl sz es fl) va ts) (hok : fl.ok = true)
    {es2 : List (List D)} {news : List Value} (m1 : news.length = es2.length * ei.size) (m2 : relR I w es2.flatten news) (m3 : allLen ei.size es2 = true)
    (hsz : sz = ei.size ∨ es = []) (hpos : 0 < ei.size) (hbp : 0 < ei.bytes) (hz : ei.zero ≠ []) (hb : (es.length + es2.length) * ei.bytes ≤ 140737488355328) (hnd : ts.Nodup)
    {ap : Value → Sem Value}
    (ap0 : es2 = [] → ∀ (ad : Option Addr) (c : Nat), es.length ≤ c → (ap (.slice ad es.length c)).run P w = .ok (.slice ad es.length c) w)
    (apNil : ∀ (inf : TypeInfo) (z : Value), P.info? e = some inf → inf.size = ei.size → inf.bytes = ei.bytes → inf.zero = some z → es2 ≠ [] → (es2.length : Int) ≤ 9223372036854775807 → es2.length * inf.bytes ≤ 281474976710656 →
      (ap (.slice none 0 0)).run P w = .ok (.slice (some ⟨w.heap.size, 0, none⟩) es2.length (grownCap w es2.length 0 e)) (w.drew.alloc (.cells (news.toArray ++ Builtin.zeroCells z.cells (grownCap w es2.length 0 e - es2.length)) e)))
    (apGrow : ∀ (inf : TypeInfo) (z : Value), P.info? e = some inf → inf.size = ei.size → inf.bytes = ei.bytes → inf.zero = some z → es2 ≠ [] → ∀ (b : Addr) (sLen sCap : Nat) (olds : List Value), olds.length = sLen * inf.size → (∀ j v, olds[j]? = some v → w.cell? (b.add j) = some v) →
      sCap < sLen + es2.length → ((sLen + es2.length : Nat) : Int) ≤ 9223372036854775807 → Builtin.nextslicecap (sLen + es2.length) sCap * inf.bytes ≤ 281474976710656 →
      (ap (.slice (some b) sLen sCap)).run P w = .ok (.slice (some ⟨w.heap.size, 0, none⟩) (sLen + es2.length) (grownCap w (sLen + es2.length) sCap e))
        (w.drew.alloc (.cells (olds.toArray ++ news.toArray ++ Builtin.zeroCells z.cells (grownCap w (sLen + es2.length) sCap e - (sLen + es2.length))) e)))
    (apRoom : ∀ (inf : TypeInfo), P.info? e = some inf → inf.size = ei.size → es2 ≠ [] → ∀ (g sLen sCap : Nat) (cur : Array Value) (T : TypeId) (fz : Nat × Nat), w.heap[g]? = some (.cells cur T fz) → fz.2 ≤ sLen * inf.size → (∀ u ∈ news, u.oneCell' = true) → sLen + es2.length ≤ sCap → sLen * inf.size + news.length ≤ cur.size →
      (ap (.slice (some ⟨g, 0, none⟩) sLen sCap)).run P w = .ok (.slice (some ⟨g, 0, none⟩) (sLen + es2.length) sCap) (w.setRow g (cur.toList.take (sLen * inf.size) ++ news ++ cur.toList.drop (sLen * inf.size + news.length)).toArray)) :
    ∃ v' w' J ts', (ap va).run P w = .ok v' w' ∧ Step (fun b => b ∈ ts) I J w w' ∧ relC J w' mp (.sl ei.size (es ++ es2) .own) v' ts' ∧ ts'.Nodup ∧ (∀ b, b ∈ ts' → b ∈ ts ∨ (w.heap.size ≤ b ∧ b < w'.heap.size)) ∧ (TeOk e ts w → TeOk e ts' w') ∧ (es2 ≠ [] → ts' ≠ []) ∧ (es2 = [] → ts' = ts ∧ v' = va) := by
  have hkk := (hT t i hi).kind
  rw [hk] at hkk
  obtain ⟨inf, hinf, his, hib, hzz⟩ := (hT e ei hei).info
  obtain ⟨z, hz1, hzs⟩ : ∃ z, inf.zero = some z ∧ z.cells.size = ei.size := by
    rcases hzz hz with ⟨h3, h4, h5⟩ | ⟨z, h3, _, h5, _⟩
    · exact ⟨_, h5, by simp [Value.cells, h4]⟩
    · exact ⟨z, h3, h5⟩
  obtain ⟨ad, cap, rfl, hlc, hrow, hfl⟩ := hv
  obtain ⟨olds, o1, o2, o3, o4, o5⟩ := slice_row hrow hsz
  have hmul : es.length + es2.length ≤ 140737488355328 := Nat.le_trans (Nat.le_mul_of_pos_right _ hbp) hb
  by_cases he2 : es2 = []
  · -- nothing to append
    subst he2
    have hrow' : es = [] ∨ ∃ b o, ad = some ⟨b, o, none⟩ ∧ relEs I w b o ei.size es := by
      rcases hrow with h | ⟨b, o, h1, h2⟩
      · exact .inl h
      · rcases hsz with h | h
        · subst h; exact .inr ⟨b, o, h1, h2⟩
        · exact .inl h
    refine ⟨_, w, I, ts, ap0 rfl ad cap hlc, Step.refl _ I w, ?_, hnd, fun b h => .inl h, fun h => h, fun h => absurd rfl h, fun _ => ⟨rfl, rfl⟩⟩
    rw [List.append_nil]
    refine ⟨ad, cap, rfl, hlc, hrow', ?_⟩
    cases fl with
    | sh => simp [Fl.ok] at hok
    | ti => exact .inl hfl
    | own =>
      rcases hfl with h | ⟨b, arr, T, fz, h1, h2, h3, h4, h5, h6⟩
      · exact .inl h
      · rcases hsz with h | h
        · subst h; exact .inr ⟨b, arr, T, fz, h1, h2, h3, h4, h5, h6⟩
        · subst h; simp at h3
  · have hp2 : 0 < es2.length := by cases es2 with
      | nil => exact absurd rfl he2
      | cons _ _ => simp
    have hflat : relR I w (es ++ es2).flatten (olds ++ news) := by rw [List.flatten_append]; exact relR_append o2 m2
    have hall := allLen_append o3 m3
    have hlen : (olds ++ news).length = (es ++ es2).length * ei.size := by simp [o1, m1, Nat.add_mul]
    have hone := relR_oneCell hflat
    -- a new row
    have grow : cap < es.length + es2.length → (ad = none → es.length = 0 ∧ cap = 0) → ∃ v' w' J ts', (ap (.slice ad es.length cap)).run P w = .ok v' w' ∧ Step (fun b => b ∈ ts) I J w w' ∧
        relC J w' mp (.sl ei.size (es ++ es2) .own) v' ts' ∧ ts'.Nodup ∧ (∀ b, b ∈ ts' → b ∈ ts ∨ (w.heap.size ≤ b ∧ b < w'.heap.size)) ∧ (TeOk e ts w → TeOk e ts' w') ∧ (es2 ≠ [] → ts' ≠ []) ∧ (es2 = [] → ts' = ts ∧ v' = .slice ad es.length cap) := by
      intro hlt hnone
      have hcm : ∀ old, grownCap w (es.length + es2.length) old e ≤ maxLen := fun old => grownCap_le_maxLen w _ old e (by simp only [maxLen]; omega)
      have fin : ∀ (old : Nat) (arr : Array Value), arr = olds.toArray ++ news.toArray ++ Builtin.zeroCells z.cells (grownCap w (es.length + es2.length) old e - (es.length + es2.length)) →
          (ap (.slice ad es.length cap)).run P w = .ok (.slice (some ⟨w.heap.size, 0, none⟩) (es.length + es2.length) (grownCap w (es.length + es2.length) old e)) (w.drew.alloc (.cells arr e)) →
          ∃ v' w' J ts', (ap (.slice ad es.length cap)).run P w = .ok v' w' ∧ Step (fun b => b ∈ ts) I J w w' ∧
        relC J w' mp (.sl ei.size (es ++ es2) .own) v' ts' ∧ ts'.Nodup ∧ (∀ b, b ∈ ts' → b ∈ ts ∨ (w.heap.size ≤ b ∧ b < w'.heap.size)) ∧ (TeOk e ts w → TeOk e ts' w') ∧ (es2 ≠ [] → ts' ≠ []) ∧ (es2 = [] → ts' = ts ∧ v' = .slice ad es.length cap) := by
        intro old arr harr hrun
        have hge := grownCap_ge w (es.length + es2.length) old e
        obtain ⟨g1, g2⟩ := grown_own (mp := mp) (cap := grownCap w (es.length + es2.length) old e) (arr := arr) (T := e) hI hlen hflat hall (by simp; omega) (by
          intro j u hu
          have hj : j < (olds ++ news).length := (List.getElem?_eq_some_iff.1 hu).1
          subst harr
          rw [← Array.getElem?_toList]
          simp only [Array.toList_append, List.append_assoc]
          rw [← List.append_assoc, List.getElem?_append_left hj]
          exact hu) (by
          subst harr
          simp only [Array.size_append, List.size_toArray, size_zeroCells, hzs, o1, m1, ← Nat.add_mul]
          congr 1; omega) (by simpa using hge) (hcm old)
        rw [List.length_append] at g1 g2
        refine ⟨_, _, _, [w.heap.size], hrun, ⟨g1.ext.mono (fun _ h => h.elim), g1.sub, g1.agree, fun b o h => (g1.made b o h).imp id (fun h => ⟨h.1.imp (fun h => h.elim) id, h.2⟩)⟩, g2, by simp, fun b h => ?_, fun _ b h => ?_, fun _ => by simp, fun h => absurd h he2⟩
        · simp at h; subst h; exact .inr ⟨Nat.le_refl _, by simp⟩
        · simp at h; subst h; exact ⟨_, _, heap_alloc_new w.drew _⟩
      cases ad with
      | none =>
        obtain ⟨h0, h0'⟩ := hnone rfl
        have hes : es = [] := List.eq_nil_of_length_eq_zero h0
        have hol : olds = [] := List.eq_nil_of_length_eq_zero (by rw [o1, h0]; simp)
        have hr := apNil inf z hinf his hib hz1 he2 (by omega) (by rw [hib]; have := hb; rw [h0, Nat.zero_add] at this; omega)
        refine fin 0 _ rfl ?_
        rw [hol, h0, h0', Nat.zero_add]
        simpa using hr
      | some ad =>
        have hr := apGrow inf z hinf his hib hz1 he2 ad es.length cap olds (by rw [o1, his]) (o4 _ rfl) hlt (by omega) (growslice_fits hlt (by rw [hib]; exact hb))
        exact fin cap _ rfl hr
    have tight : ts = [] ∧ cap = es.length → ∃ v' w' J ts', (ap (.slice ad es.length cap)).run P w = .ok v' w' ∧ Step (fun b => b ∈ ts) I J w w' ∧
        relC J w' mp (.sl ei.size (es ++ es2) .own) v' ts' ∧ ts'.Nodup ∧ (∀ b, b ∈ ts' → b ∈ ts ∨ (w.heap.size ≤ b ∧ b < w'.heap.size)) ∧ (TeOk e ts w → TeOk e ts' w') ∧ (es2 ≠ [] → ts' ≠ []) ∧ (es2 = [] → ts' = ts ∧ v' = .slice ad es.length cap) := by
      rintro ⟨h1, h2⟩
      refine grow (by omega) (fun hn => ?_)
      have : es = [] := by
        by_cases h : es = []
        · exact h
        · obtain ⟨b, o, hh, _⟩ := o5 h; rw [hn] at hh; cases hh
      subst this
      exact ⟨rfl, by simpa using h2⟩
    cases fl with
    | sh => simp [Fl.ok] at hok
    | ti => exact tight hfl
    | own =>
      rcases hfl with h | ⟨g, arr, T, fz, h1, h2, h3, h4, h5, h6, h7, h8⟩
      · exact tight h
      · subst h1; subst h2
        have hse : sz = ei.size := hsz.resolve_right (fun h => by subst h; simp at h3)
        subst hse
        by_cases hroom : es.length + es2.length ≤ cap
        · have hfit : es.length * inf.size + news.length ≤ arr.size := by rw [m1, his, h5, ← Nat.add_mul]; exact Nat.mul_le_mul_right _ hroom
          have hr := apRoom inf hinf his he2 g es.length cap arr T fz h4 (by rw [his]; exact h6) (fun u hu => hone u (by simp [hu])) hroom hfit
          rw [his] at hr
          let J : Imm := fun b o => I b o ∨ (b = g ∧ o < (es.length + es2.length) * ei.size)
          obtain ⟨bb, oo, hbb, hIo⟩ := o5 (fun h => by subst h; simp at h3)
          simp only [Option.some.injEq, Addr.mk.injEq] at hbb
          obtain ⟨rfl, rfl, _⟩ := hbb
          have hpre : arr.toList.take (es.length * ei.size) = olds := by
            apply List.ext_getElem?
            intro j
            rw [List.getElem?_take]
            split
            · rename_i hj
              have hj' : j < olds.length := by rw [o1]; exact hj
              have := o4 _ rfl j olds[j] (List.getElem?_eq_getElem hj')
              rw [addr_add, Nat.zero_add, cell_of_row w _ j arr T fz h4, ← Array.getElem?_toList] at this
              rw [this, List.getElem?_eq_getElem hj']
            · rename_i hj; rw [List.getElem?_eq_none (by omega)]
          have harrL : (arr.toList.take (es.length * ei.size) ++ news ++ arr.toList.drop (es.length * ei.size + news.length)).length = arr.size := by
            simp only [List.length_append, List.length_take, List.length_drop, Array.length_toList]
            rw [his] at hfit
            omega
          have hcell : ∀ j u, (olds ++ news)[j]? = some u → cellAt (w.setRow g (arr.toList.take (es.length * ei.size) ++ news ++ arr.toList.drop (es.length * ei.size + news.length)).toArray) g j = some u := by
            intro j u hu
            rw [cellAt_heap (setRow_heap w g arr _ T fz h4), hpre]
            have hj : j < (olds ++ news).length := (List.getElem?_eq_some_iff.1 hu).1
            rw [← Array.getElem?_toList]
            simp only
            rw [List.getElem?_append_left hj]
            exact hu
          have hst : Step (fun b => b ∈ [g]) I J w (w.setRow g (arr.toList.take (es.length * ei.size) ++ news ++ arr.toList.drop (es.length * ei.size + news.length)).toArray) := by
            refine ⟨(Ext.setRow w g _).mono (fun b h => by simp [h]), fun b o h => .inl h, ?_, ?_⟩
            · intro b o h
              by_cases hbg : b = g
              · subst hbg
                have ho : o < es.length * ei.size := by
                  rcases Nat.lt_or_ge o (es.length * ei.size) with h' | h'
                  · exact h'
                  · exact absurd h (h8 o h')
                have ho' : o < olds.length := by rw [o1]; exact ho
                rw [hcell o olds[o] (by rw [List.getElem?_append_left ho', List.getElem?_eq_getElem ho'])]
                have := o4 _ rfl o olds[o] (List.getElem?_eq_getElem ho')
                rw [addr_add, Nat.zero_add] at this
                exact this.symm
              · exact cellAt_of_block (setRow_other w g b _ hbg)
            · intro b o h
              rcases h with h | ⟨h, _⟩
              · exact .inl h
              · subst h; exact .inr ⟨.inl (by simp), by have := lt_of_heap h4; simpa using this⟩
          refine ⟨_, _, J, [g], hr, hst, ?_, by simp, fun b h => .inl h, fun hte b h => ?_, fun _ => by simp, fun h => absurd h he2⟩
          rotate_left
          · simp at h; subst h
            obtain ⟨arr', fz', hh⟩ := hte b (by simp)
            rw [h4] at hh; cases hh
            exact ⟨_, _, setRow_heap w b arr _ e fz h4⟩
          refine ⟨some ⟨g, 0, none⟩, cap, by rw [List.length_append], by simpa using hroom, .inr ⟨g, 0, rfl, ?_⟩, .inr ⟨g, _, T, fz, rfl, rfl, by simp; omega, setRow_heap w g arr _ T fz h4, ?_, ?_, h7, ?_⟩⟩
          · refine relEs_of_flat hall (relCs_of_R (relR_step hst hflat) ?_ ?_)
            · intro j v hv; rw [Nat.zero_add]; exact hcell j v hv
            · intro j hj
              rw [flatten_length hall] at hj
              exact .inr ⟨rfl, by simpa using hj⟩
          · rw [List.size_toArray, harrL, h5]
          · rw [List.length_append, Nat.add_mul]; omega
          · intro o ho h
            rw [List.length_append] at ho
            rcases h with h | ⟨_, h⟩
            · exact h8 o (by rw [Nat.add_mul] at ho; omega) h
            · omega
        · exact grow (by omega) (fun hn => by cases hn)
theorem run_appendA (hT : WellT P E.T) (hI : ∀ b o, I b o → b < w.heap.size) {t e : TypeId} {i ei : TI} (hi : nth E.T t = some i) (hk : i.k = .slice e) (hei : nth E.T e = some ei)
    {sz : Nat} {es : List (List D)} {fl : Fl} {va : Value} {ts : List Nat} (hv : relC I w mp (.sl sz es fl) va ts) (hok : fl.ok = true)
    {sz2 : Nat} {es2 : List (List D)} {fl2 : Fl} {vx : Value} {tx : List Nat} (hx : relC I w mp (.sl sz2 es2 fl2) vx tx)
    (hsz : sz = ei.size ∨ es = []) (hsz2 : sz2 = ei.size ∨ es2 = []) (hpos : 0 < ei.size) (hbp : 0 < ei.bytes) (hz : ei.zero ≠ []) (hb : (es.length + es2.length) * ei.bytes ≤ 140737488355328) (ty : TypeId) (hnd : ts.Nodup) :
    ∃ v' w' J ts', (Builtin.append_ #[t, t] ty #[va, vx]).run P w = .ok v' w' ∧ Step (fun b => b ∈ ts) I J w w' ∧ relC J w' mp (.sl ei.size (es ++ es2) .own) v' ts' ∧ ts'.Nodup ∧ (∀ b, b ∈ ts' → b ∈ ts ∨ (w.heap.size ≤ b ∧ b < w'.heap.size)) ∧ (TeOk e ts w → TeOk e ts' w') ∧ (es2 ≠ [] → ts' ≠ []) := by
  have hkk := (hT t i hi).kind
  rw [hk] at hkk
  obtain ⟨ad2, cap2, rfl, hlc2, hrow2, _⟩ := hx
  obtain ⟨news, m1, m2, m3, m4, m5⟩ := slice_row hrow2 hsz2
  have key := run_appendX hT hI hi hk hei hv hok m1 m2 m3 hsz hpos hbp hz hb hnd (ap := fun va => Builtin.append_ #[t, t] ty #[va, .slice ad2 es2.length cap2]) ?_ ?_ ?_ ?_
  · obtain ⟨v', w', J, ts', k1, k2, k3, k4, k5, k6, k7, _⟩ := key
    exact ⟨v', w', J, ts', k1, k2, k3, k4, k5, k6, k7⟩
  · intro he2 ad c hc
    obtain ⟨inf, hinf, _⟩ := (hT e ei hei).info
    subst he2
    exact run_append0 t ty e inf hkk.1 hinf ad es.length c hc ad2 cap2
  · intro inf z hinf his hib hz1 he2 h63 h48
    obtain ⟨b2, o2', rfl, _⟩ := m5 he2
    exact run_append_nil (P := P) w t ty e inf z hkk.1 hinf hz1 ⟨b2, o2', none⟩ es2.length cap2 news (by rw [m1, his]) (m4 _ rfl) (List.length_pos_iff.2 he2) h63 h48
  · intro inf z hinf his hib hz1 he2 b sLen sCap olds h1 h2 h3 h4 h5
    obtain ⟨b2, o2', rfl, _⟩ := m5 he2
    exact run_append_grow (P := P) w t ty e inf z hkk.1 hinf hz1 b sLen sCap olds h1 h2 ⟨b2, o2', none⟩ es2.length cap2 news (by rw [m1, his]) (m4 _ rfl) h3 h4 h5
  · intro inf hinf his he2 g sLen sCap cur T fz h1 h2 h3 h4 h5
    obtain ⟨b2, o2', rfl, _⟩ := m5 he2
    exact run_append_roomF (P := P) t ty e inf hkk.1 hinf g sLen sCap cur h1 h2 ⟨b2, o2', none⟩ es2.length cap2 news (by rw [m1, his]) (m4 _ rfl) h3 h4 h5

/-! ### A text's bytes appended -/
def byteVals (l : List UInt8) : List Value := l.map fun b => Value.int .u8 (b.toNat : Int)
theorem run_firstCells_str (w : World) (l : List UInt8) (n : Nat) : (Builtin.firstCells 1 l.length (.string ⟨l.toArray⟩)).run P w = .ok (byteVals l).toArray w := by
  have hx : ((⟨l.toArray⟩ : ByteArray).extract 0 l.length).data = l.toArray := by
    rw [ByteArray.data_extract]
    exact Array.extract_size
  simp only [Builtin.firstCells, hx, Sem.run_pure, byteVals, List.map_toArray]
theorem run_appendS (hT : WellT P E.T) (hI : ∀ b o, I b o → b < w.heap.size) {t e ts' : TypeId} {i ei : TI} (hi : nth E.T t = some i) (hk : i.k = .slice e) (hei : nth E.T e = some ei) (hu : P.underlying ts' = some .string)
    {sz : Nat} {es : List (List D)} {fl : Fl} {va : Value} {ts : List Nat} (hv : relC I w mp (.sl sz es fl) va ts) (hok : fl.ok = true) {l : List UInt8}
    (hsz : sz = ei.size ∨ es = []) (h1 : ei.size = 1) (hbp : 0 < ei.bytes) (hz : ei.zero ≠ []) (hb : (es.length + l.length) * ei.bytes ≤ 140737488355328) (ty : TypeId) (hnd : ts.Nodup) :
    ∃ v' w' J ts2, (Builtin.append_ #[t, ts'] ty #[va, .string ⟨l.toArray⟩]).run P w = .ok v' w' ∧ Step (fun b => b ∈ ts) I J w w' ∧ relC J w' mp (.sl ei.size (es ++ bytesD l) .own) v' ts2 ∧ ts2.Nodup ∧ (∀ b, b ∈ ts2 → b ∈ ts ∨ (w.heap.size ≤ b ∧ b < w'.heap.size)) ∧ (TeOk e ts w → TeOk e ts2 w') ∧ (bytesD l ≠ [] → ts2 ≠ []) ∧ (bytesD l = [] → ts2 = ts ∧ v' = va) := by
  have hkk := (hT t i hi).kind
  rw [hk] at hkk
  have hss : (⟨l.toArray⟩ : ByteArray).size = l.length := rfl
  have hmul : es.length + l.length ≤ 140737488355328 := Nat.le_trans (Nat.le_mul_of_pos_right _ hbp) hb
  have hll : (bytesD l).length = l.length := bytesD_length l
  refine run_appendX hT hI hi hk hei hv hok (es2 := bytesD l) (news := byteVals l) (by rw [hll, h1]; simp [byteVals]) ?_ ?_ hsz (by omega) hbp hz (by rw [hll]; exact hb) hnd (ap := fun va => Builtin.append_ #[t, ts'] ty #[va, .string ⟨l.toArray⟩]) ?_ ?_ ?_ ?_
  · clear hb hmul hll hss
    induction l with
    | nil => exact rfl
    | cons b l ih => exact ⟨_, _, rfl, rfl, ih⟩
  · clear hb hmul hll hss
    rw [h1]
    induction l with
    | nil => rfl
    | cons b l ih => simp only [bytesD, allLen, ih]; rfl
  · intro he2 ad c hc
    obtain ⟨inf, hinf, _⟩ := (hT e ei hei).info
    have hl0 : l = [] := by cases l with
      | nil => rfl
      | cons b l => cases he2
    subst hl0
    have hs0 : (⟨#[]⟩ : ByteArray).size = 0 := rfl
    cases ad <;> simp [Builtin.append_, run_und hkk.1, run_und hu, sizeOf, typeInfo, hinf, Builtin.lenOf, hs0, hc, Builtin.firstCells, storeCells]
  · intro inf z hinf his hib hz1 he2 h63 h48
    rw [hll] at h63 h48
    rw [hll]
    have h0 : 0 < l.length := by cases l with
      | nil => exact absurd rfl he2
      | cons b l => simp
    have hn : l.length ≠ 0 := by omega
    have h63' : ¬ (9223372036854775807 < (l.length : Int)) := by omega
    have h48' : ¬ (281474976710656 < Builtin.nextslicecap l.length 0 * inf.bytes) := by rw [nextslicecap_zero h0]; omega
    have hf := run_firstCells_str (P := P) w.drew l 0
    have e1 : inf.size = 1 := by rw [his, h1]
    simp [Builtin.append_, run_und hkk.1, run_und hu, sizeOf, typeInfo, zeroValue, hinf, hz1, Builtin.lenOf, hss, hn, h63', h48', Question.forced, run_firstCells_none, e1, hf, newRow, grownCap]
  · intro inf z hinf his hib hz1 he2 b sLen sCap olds k1 k2 k3 k4 k5
    rw [hll] at k3 k4 k5
    rw [hll]
    have hn : ¬ (sLen + l.length ≤ sCap) := by omega
    have h63' : ¬ (9223372036854775807 < ((sLen : Int) + (l.length : Int))) := by omega
    have h48' : ¬ (281474976710656 < Builtin.nextslicecap (sLen + l.length) sCap * inf.bytes) := by omega
    have e1 : inf.size = 1 := by rw [his, h1]
    have hf := run_firstCells_str (P := P) w.drew l 0
    have hfo := run_firstCells_some (P := P) w.drew inf.size sLen b sLen sCap olds k1 (by simpa using k2)
    rw [e1] at hfo
    simp [Builtin.append_, run_und hkk.1, run_und hu, sizeOf, typeInfo, zeroValue, hinf, hz1, Builtin.lenOf, hss, hn, h63', h48', Question.forced, e1, hf, hfo, newRow, grownCap]
    congr 2
    apply Array.ext'
    simp [List.append_assoc]
  · intro inf hinf his he2 g sLen sCap cur T fz k1 k2 k3 k4 k5
    rw [hll] at k4
    rw [hll]
    have e1 : inf.size = 1 := by rw [his, h1]
    have hf := run_firstCells_str (P := P) w l 0
    have hst := run_storeCells_atF P g (sLen * inf.size) T fz (byteVals l) 0 cur w k1 (by simpa using k2) (by simpa using k5) k3
    rw [e1] at hst
    simp only [Nat.add_zero] at hst
    simp [Builtin.append_, run_und hkk.1, run_und hu, sizeOf, typeInfo, hinf, Builtin.lenOf, hss, k4, e1, hf, Addr.add_lit] at hst ⊢
    simp [hst]

theorem run_appendM (hT : WellT P E.T) (c : Core B mp ow I s a w) {o : Oper} {t t' : TypeId} {x y : Operand} {as : Array Operand} {tys : Array TypeId} (ho : o.op = .call { callee := .builtin .append, args := as, argTypes := tys }) (has : as.toList = [x, y]) (hty : tys.toList = [t, t'])
    {κ : AV → St → R} (h : chk (Nat.beq t t') (appendA E s t x y κ) = some r) : MRes P B o a w κ r := by
  obtain ⟨htt, h0⟩ := chk_inv h
  have htt' := Nat.eq_of_beq_eq_true htt
  subst htt'
  unfold appendA at h0
  obtain ⟨i, hi, h1⟩ := ty_inv h0
  split at h1
  · rename_i e hk
    obtain ⟨ei, hei, h2⟩ := ty_inv h1
    obtain ⟨v, s', ow', ts, h3, c', hx, hh, _⟩ := c.take h2
    obtain ⟨sz, es, fl, hv, h4⟩ := asL_inv h3
    obtain ⟨sz2, es2, fl2, hv2, h5⟩ := asL_inv h4
    obtain ⟨hc1, h6⟩ := chk_inv h5
    obtain ⟨hc2, h7⟩ := chk_inv h6
    simp only [Bool.and_eq_true, Bool.or_eq_true, Bool.not_eq_true', decide_eq_true_eq] at hc1 hc2
    obtain ⟨⟨⟨⟨⟨c1, c2⟩, c3⟩, c4⟩, c5⟩, c6⟩ := hc1
    obtain ⟨tx, hy, _⟩ := c'.ev y
    rw [hv2] at hy
    rw [hv] at hx
    have e1 : ∀ {l : List (List D)} {k : Nat}, (Nat.beq k ei.size = true ∨ l.isEmpty = true) → k = ei.size ∨ l = [] := fun h => h.imp Nat.eq_of_beq_eq_true (by simp)
    obtain ⟨v', w', J, ts', hr, hst, hrel, hnd, htip, _⟩ := run_appendA (P := P) (mp := mp) hT c'.bnd hi hk hei hx c3 hy (e1 c1) (e1 c2) (by simp [Nat.blt] at c4; omega) (by simp [Nat.blt] at c5; omega) (by intro e; simp [e] at c6) hc2 o.type hh.1
    have ha : as = #[x, y] := Array.ext' has
    have ht : tys = #[t, t] := Array.ext' hty
    have cgo := c'.go hst (fun b z hz hne hm => by have := hh.2 b hm; rw [this] at hz; cases hz; exact hne rfl) (fun b hb => c'.fresh b _ (hh.2 b hb))
    have hsz : ∀ b z, ow' b = some z → b < w.heap.size := c'.lt
    refine ⟨_, v', s', w', h7, .inl ?_, mp, fun b => if b ∈ ts' then some .res else if ow' b = some .res then none else ow' b, J, ts', ?_, hrel, hnd, fun b hb => by simp [hb]⟩
    · simp [execOp, ho, resolve, invoke, builtin, ha, ht, hr]
    · have hne : ∀ b z, ow' b = some z → z ≠ .res → b ∉ ts' := fun b z hz hn hm => by
        rcases htip b hm with h | ⟨h, _⟩
        · have := hh.2 b h; rw [this] at hz; cases hz; exact hn rfl
        · have := hsz b z hz; omega
      constructor
      case env => intro k; obtain ⟨tk, k1, k2⟩ := cgo.env k; exact ⟨tk, k1, k2.1, fun b hb => by have := k2.2 b hb; simp [hne b _ this (by simp), this]⟩
      case box => intro p cs hp; obtain ⟨b, tb, k1, k2, k3, k4⟩ := cgo.box p cs hp; exact ⟨b, tb, k1, by simp [hne b _ k2 (by simp), k2], k3, k4.1, fun x hx => by have := k4.2 x hx; simp [hne x _ this (by simp), this]⟩
      case dom => exact cgo.dom
      case outs => exact cgo.outs
      case fresh =>
        intro b z hz
        by_cases hm : b ∈ ts'
        · rcases htip b hm with h | ⟨h, _⟩
          · exact c'.fresh b _ (hh.2 b h)
          · exact .inr (Nat.le_trans c'.step.ext.size h)
        · simp only [if_neg hm] at hz
          cases hob : ow' b with
          | none => simp [hob] at hz
          | some q => exact c'.fresh b q hob
      case lt =>
        intro b z hz
        by_cases hm : b ∈ ts'
        · rcases htip b hm with h | ⟨_, h⟩
          · exact Nat.lt_of_lt_of_le (c'.lt b _ (hh.2 b h)) hst.ext.size
          · exact h
        · simp only [if_neg hm] at hz
          cases hob : ow' b with
          | none => simp [hob] at hz
          | some q => exact Nat.lt_of_lt_of_le (c'.lt b q hob) hst.ext.size
      case bnd => exact cgo.bnd
      case size => exact cgo.size
      case step => exact cgo.step
      case dfr => exact cgo.dfr
  · cases h1

end
end Go.Proofs.YtmbhohnoolflbaaDoorX
