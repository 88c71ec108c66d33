/-
  strings.Builder: what its methods do to the memory, by walks over the library's own text.
-/
import Derived.Test.YtmbhohnoolflbaaDoorXCfg
import Derived.Lib.Builder
import Derived.Lib.UnsafeStr
import Derived.Lib.Walk
import Derived.WalkKit
import Derived.Laws.Externs
import Derived.Laws.IdiomCopy
import Derived.Shelf.RegionOpenPlain
set_option linter.unusedVariables false
set_option linter.unusedSimpArgs false
set_option maxRecDepth 100000
namespace Go.Proofs.YtmbhohnoolflbaaDoorX
open Go.Lib Go.RowKit

def tB : Nat := 59
theorem bld_size : ∃ j, Tryd.prog.info? 59 = some j ∧ j.size = 2 := by
  have h : (Tryd.prog.info? 59).map (·.size) = some 2 := by kernel_rfl
  exact Option.map_eq_some_iff.1 h
theorem bld_lies : liesAt Tryd.prog Tryd.prog.depth 59 (2 / Tryd.prog.cellsOf 59) 0 59 1 = true := by kernel_rfl

set_option maxHeartbeats 1000000 in
theorem copyCheck_used (b : Nat) (w : World) (h0 : w.cell? ⟨b, 0, none⟩ = some (.pointer (some ⟨b, 0, none⟩))) :
    Calls Tryd.prog 66 #[.pointer (some ⟨b, 0, none⟩)] w fun e w' => e = .returned (.tuple #[]) ∧ w' = w := by
  obtain ⟨j, hj, _⟩ := bld_size
  go_enter Tryd.func66, Tryd.ntmps66
  go_wp2
  rw [Lib.run_neq_ptr_same w _ (P := Tryd.prog) (te := 59) (by kernel_rfl) hj]
  go_wp2
  go_end0
  exact ⟨rfl, rfl⟩

set_option maxHeartbeats 1000000 in
theorem copyCheck_fresh (b : Nat) (w : World) (h0 : w.cell? ⟨b, 0, none⟩ = some (.pointer none)) (hsh : w.shape? b = some (59, 2)) (hfz : w.frozen? ⟨b, 0, none⟩ = false) :
    Calls Tryd.prog 66 #[.pointer (some ⟨b, 0, none⟩)] w fun e w' => e = .returned (.tuple #[]) ∧ w' = w.setCell ⟨b, 0, none⟩ (.pointer (some ⟨b, 0, none⟩)) := by
  obtain ⟨j, hj, hjs⟩ := bld_size
  have hp : Tryd.prog.underlying 56 = some (.pointer 59) := by kernel_rfl
  have hu : Tryd.prog.underlying 92 = some .unsafePointer := by kernel_rfl
  go_enter Tryd.func66, Tryd.ntmps66
  go_wp2
  rw [Lib.run_to_unsafe w ⟨b, 0, none⟩ hp hu hj (by rw [hjs]; decide) hsh (Nat.zero_lt_succ 1)]
  simp only [Result.andThen]
  rw [Oper.upon_value]
  go_wp2
  rw [run_callFunc_extern Tryd.func84 (by kernel_rfl) (by kernel_rfl) (by kernel_rfl) (e := Extern.AbiNoEscape.same) (by kernel_rfl)]
  rw [Lib.run_noEscape]
  simp only [Result.andThen]
  rw [Oper.upon_value]
  go_wp2
  rw [Lib.run_from_unsafe w ⟨b, 0, none⟩ hu hp hj hsh bld_lies]
  simp only [Result.andThen]
  rw [Oper.upon_value]
  go_wp2
  go_end0
  exact ⟨rfl, rfl⟩

/-! ### The world's steps -/
theorem heap_setCell_same {w : World} {b o : Nat} {arr : Array Value} {T : TypeId} {fz : Nat × Nat} (h : w.heap[b]? = some (.cells arr T fz)) (v : Value) : (w.setCell ⟨b, o, none⟩ v).heap[b]? = some (.cells (arr.setIfInBounds o v) T fz) := by
  simp [World.setCell, Array.getElem?_modify, h]
theorem step_setCell {I : Imm} {w : World} {b o : Nat} (v : Value) (hI : ∀ o, ¬ I b o) : Step (fun x => x = b) I I w (w.setCell ⟨b, o, none⟩ v) := by
  have hblk : ∀ k, k ≠ b → (w.setCell ⟨b, o, none⟩ v).heap[k]? = w.heap[k]? := fun k hk => by
    simp only [World.setCell, Array.getElem?_modify]
    rw [if_neg (fun e => hk e.symm)]
  refine ⟨⟨rfl, rfl, rfl, by simp [World.setCell], fun k _ hk => hblk k hk⟩, .refl _, ?_, fun _ _ h => .inl h⟩
  intro k j hk
  exact cellAt_of_block (hblk k (fun e => hI j (e ▸ hk)))

theorem bytesD_append (l m : List UInt8) : bytesD (l ++ m) = bytesD l ++ bytesD m := by
  induction l with
  | nil => rfl
  | cons a l ih => simp [bytesD, ih]

theorem wpList_app {P : Program} {ops : Array Oper} {rest : List Oper} {o : Oper} {a : Act} {Q : Exit → Act → World → Prop} {w w' : World} {v' : Value} (hgd : o.guard = none) (s x : Operand) {t t2 : TypeId}
    (ho : o.op = .call { callee := .builtin .append, args := #[s, x], argTypes := #[t, t2] }) (hr : (Builtin.append_ #[t, t2] o.type #[a.eval s, a.eval x]).run P w = .ok v' w') (h : wpList P ops Q rest (a.put o.dst v') w') : wpList P ops Q (o :: rest) a w := by
  refine wpList_plain hgd fun K hK => ?_
  unfold Oper.wp execOp
  simp only [ho, resolve, invoke, builtin, Sem.run_bind, Sem.run_pure, Result.andThen_ok, List.map_toArray, List.map_cons, List.map_nil, hr]
  exact hK _ _ h

/-- What a builder's block and buffer are. -/
structure BldAt (I : Imm) (w : World) (b : Nat) (used : Bool) (l : List UInt8) (v : Value) (ts : List Nat) : Prop where
  heap : w.heap[b]? = some (.cells #[(if used then .pointer (some ⟨b, 0, none⟩) else .pointer none), v] 59 (0, 0))
  rel : relC I w (fun _ => none) (.sl 1 (bytesD l) .own) v ts
  imm : ∀ o, ¬ I b o
  te : ∀ g, g ∈ ts → ∃ arr fz, w.heap[g]? = some (.cells arr 5 fz)
  ne : b ∉ ts
  own : l = [] ∧ v = .slice none 0 0 ∨ ts ≠ []

theorem BldAt.cell0 {I : Imm} {w : World} {b : Nat} {u : Bool} {l : List UInt8} {v : Value} {ts : List Nat} (h : BldAt I w b u l v ts) : w.cell? ⟨b, 0, none⟩ = some (if u then .pointer (some ⟨b, 0, none⟩) else .pointer none) := by
  simp [World.cell?, h.heap]
theorem BldAt.cell1 {I : Imm} {w : World} {b : Nat} {u : Bool} {l : List UInt8} {v : Value} {ts : List Nat} (h : BldAt I w b u l v ts) : w.cell? ⟨b, 1, none⟩ = some v := by
  simp [World.cell?, h.heap]
theorem BldAt.step {I J : Imm} {w w' : World} {b : Nat} {u : Bool} {l : List UInt8} {v : Value} {ts : List Nat} (h : BldAt I w b u l v ts) {ch : Nat → Prop} (hs : Step ch I J w w') (hb : ¬ ch b) (ht : ∀ g, g ∈ ts → ¬ ch g) : BldAt J w' b u l v ts := by
  refine ⟨(hs.ext.block b (lt_of_heap h.heap) hb).trans h.heap, relC_step hs h.rel ht, fun o hJ => ?_, fun g hg => ?_, h.ne, h.own⟩
  · rcases hs.new b o hJ with h1 | h1 | h1
    · exact h.imm o h1
    · exact hb h1
    · have := lt_of_heap h.heap; omega
  · obtain ⟨arr, fz, hgg⟩ := h.te g hg
    exact ⟨arr, fz, (hs.ext.block g (lt_of_heap hgg) (ht g hg)).trans hgg⟩

theorem copyCheck_walk {I : Imm} {w : World} {b : Nat} {u : Bool} {l : List UInt8} {v : Value} {ts : List Nat} (h : BldAt I w b u l v ts) :
    Calls Tryd.prog 66 #[.pointer (some ⟨b, 0, none⟩)] w fun e w' => e = .returned (.tuple #[]) ∧ BldAt I w' b true l v ts ∧ Step (fun x => x = b) I I w w' := by
  cases u with
  | true =>
    refine (copyCheck_used b w (by simpa using h.cell0)).mono ?_
    rintro e w' ⟨rfl, rfl⟩
    exact ⟨rfl, h, .refl _ _ _⟩
  | false =>
    refine (copyCheck_fresh b w (by simpa using h.cell0) (by simp [World.shape?, h.heap]) (by simp [World.frozen?, h.heap])).mono ?_
    rintro e w' ⟨rfl, rfl⟩
    have hs : Step (fun x => x = b) I I w (w.setCell ⟨b, 0, none⟩ (.pointer (some ⟨b, 0, none⟩))) := step_setCell _ h.imm
    have hnb : ∀ g, g ∈ ts → ¬ g = b := fun g hg e => h.ne (e ▸ hg)
    refine ⟨rfl, ⟨?_, relC_step hs h.rel hnb, h.imm, fun g hg => ?_, h.ne, h.own⟩, hs⟩
    · rw [heap_setCell_same h.heap]; rfl
    · obtain ⟨arr, fz, hgg⟩ := h.te g hg
      exact ⟨arr, fz, (hs.ext.block g (lt_of_heap hgg) (hnb g hg)).trans hgg⟩

noncomputable def E00 : Cfg := { T := tys, fns := fnT, live := liveF, prim := fun _ => none, dfr := fun _ => none }
theorem nth_tys_sl : ∃ i, nth tys 57 = some i ∧ i.k = .slice 5 := ⟨_, rfl, rfl⟩
theorem nth_tys_u8 : ∃ i, nth tys 5 = some i ∧ i.size = 1 ∧ i.bytes = 1 ∧ i.zero ≠ [] := ⟨_, rfl, rfl, rfl, by simp⟩

set_option maxHeartbeats 2000000 in
theorem writeByte_walk (hT : WellT Tryd.prog tys) {I : Imm} {w : World} {b : Nat} {u : Bool} {l : List UInt8} {v : Value} {ts : List Nat} (h : BldAt I w b u l v ts) (hnd : ts.Nodup) (hI : ∀ b o, I b o → b < w.heap.size) (x : UInt8) (hl : l.length + 1 ≤ 140737488355328) :
    Calls Tryd.prog 42 #[.pointer (some ⟨b, 0, none⟩), .int .u8 x.toNat] w fun e w' => e = .returned .nilIface ∧ ∃ J v' ts', BldAt J w' b true (l ++ [x]) v' ts' ∧ Step (fun y => y = b ∨ y ∈ ts) I J w w' ∧ ts'.Nodup ∧ ∀ g, g ∈ ts' → g ∈ ts ∨ (w.heap.size ≤ g ∧ g < w'.heap.size) := by
  go_enter Tryd.func42, Tryd.ntmps42
  go_wp2_with (go_at_call 66; refine (copyCheck_walk h).mono ?_)
  rintro e w1 ⟨rfl, h1, s1⟩
  have hlt1 := lt_of_heap h1.heap
  have hI1 : ∀ b o, I b o → b < w1.heap.size := s1.bnd hI
  -- the world with the one byte's row
  have s2 := step_alloc (w := w1) #[.int .u8 x.toNat] 5 1 hI1
  have hne : b ≠ w1.heap.size := by omega
  have h2 := h1.step s2 (fun h => h) (fun _ _ h => h)
  obtain ⟨i, hi, hk⟩ := nth_tys_sl
  obtain ⟨ei, hei, hes, heb, hez⟩ := nth_tys_u8
  have hx : relC (addI I w1.heap.size 1) (w1.alloc (.cells #[.int .u8 x.toNat] 5)) (fun _ => none) (.sl 1 (bytesD [x]) .ti) (.slice (some ⟨w1.heap.size, 0, none⟩) 1 1) [] := by
    refine ⟨_, 1, rfl, Nat.le_refl _, .inr ⟨_, 0, rfl, rfl, ⟨⟨?_, _, ?_, rfl⟩, trivial⟩, trivial⟩, rfl, rfl⟩
    · exact .inr ⟨rfl, by omega⟩
    · rw [cellAt_heap (heap_alloc_new w1 _)]; rfl
  obtain ⟨v', w2, J, ts', hA, s3, hv', hnd', hts', hte', hnn⟩ := run_appendA (P := Tryd.prog) (E := E00) hT (s2.bnd hI1) hi hk hei h2.rel rfl hx (.inl hes.symm) (.inl hes.symm) (by omega) (by omega) hez (by rw [bytesD_length]; simp [bytesD, heb]; omega) 57 hnd
  rw [hes, ← bytesD_append] at hv'
  have hb2 : w2.heap[b]? = some (.cells #[.pointer (some ⟨b, 0, none⟩), v] 59 (0, 0)) := (s3.ext.block b (lt_of_heap h2.heap) h2.ne).trans h2.heap
  have himm : ∀ o, ¬ J b o := fun o hJ => by
    rcases s3.new b o hJ with h1 | h1 | h1
    · exact h2.imm o h1
    · exact h2.ne h1
    · have := lt_of_heap h2.heap; omega
  have hne' : b ∉ ts' := fun hb => by
    rcases hts' b hb with h1 | ⟨h1, _⟩
    · exact h.ne h1
    · have := lt_of_heap h2.heap; omega
  have s4 := step_setCell (I := J) (w := w2) (b := b) (o := 1) v' himm
  have hnb : ∀ g, g ∈ ts' → ¬ g = b := fun g hg e => hne' (e ▸ hg)
  have fin : BldAt J (w2.setCell ⟨b, 1, none⟩ v') b true (l ++ [x]) v' ts' := by
    refine ⟨by rw [heap_setCell_same hb2]; rfl, relC_step s4 hv' hnb, himm, fun g hg => ?_, hne', .inr (hnn (by simp [bytesD]))⟩
    obtain ⟨arr, fz, hgg⟩ := hte' h2.te g hg
    exact ⟨arr, fz, (s4.ext.block g (lt_of_heap hgg) (hnb g hg)).trans hgg⟩
  have hst : Step (fun y => y = b ∨ y ∈ ts) I J w (w2.setCell ⟨b, 1, none⟩ v') := by
    have a1 : Step (fun y => y = b ∨ y ∈ ts) I I w w1 := ⟨s1.ext.mono (fun _ h => .inl h), s1.sub, s1.agree, fun b o h => (s1.made b o h).imp id (fun h => ⟨h.1.imp .inl id, h.2⟩)⟩
    have a2 := (a1.trans s2 (fun _ h => h.elim)).trans s3 (fun b hb => .inl (.inr hb))
    exact a2.trans s4 (fun b hb => .inl (.inl hb))
  have d0 : w2.cell? ⟨b, 0, none⟩ = some (.pointer (some ⟨b, 0, none⟩)) := by simp [World.cell?, hb2]
  have d1 : w2.cell? ⟨b, 1, none⟩ = some v := by simp [World.cell?, hb2]
  have f1 : w2.frozen? ⟨b, 1, none⟩ = false := by simp [World.frozen?, hb2]
  have c1 : w1.cell? ⟨b, 1, none⟩ = some v := h1.cell1
  obtain ⟨a', n', cap', rfl⟩ : ∃ a' n' cap', v' = .slice a' n' cap' := by obtain ⟨a, cap, hh, _⟩ := hv'; exact ⟨_, _, _, hh⟩
  go_wp2_with (at_builtin; refine wpList_app rfl _ _ rfl hA ?_)
  go_wp2
  go_ret
  refine ⟨rfl, J, _, ts', fin, hst, hnd', fun g hg => ?_⟩
  rcases hts' g hg with h1 | ⟨h1, h2⟩
  · exact .inl h1
  · refine .inr ⟨?_, ?_⟩
    · have := s1.ext.size; have := s2.ext.size; omega
    · have := s4.ext.size; omega

set_option maxHeartbeats 2000000 in
theorem writeString_walk (hT : WellT Tryd.prog tys) {I : Imm} {w : World} {b : Nat} {u : Bool} {l : List UInt8} {v : Value} {ts : List Nat} (h : BldAt I w b u l v ts) (hnd : ts.Nodup) (hI : ∀ b o, I b o → b < w.heap.size) (x : List UInt8) (hl : l.length + x.length ≤ 140737488355328) :
    Calls Tryd.prog 43 #[.pointer (some ⟨b, 0, none⟩), .string ⟨x.toArray⟩] w fun e w' => e = .returned (.tuple #[.int .i64 (x.length : Int), .nilIface]) ∧ ∃ J v' ts', BldAt J w' b true (l ++ x) v' ts' ∧ Step (fun y => y = b ∨ y ∈ ts) I J w w' ∧ ts'.Nodup ∧ ∀ g, g ∈ ts' → g ∈ ts ∨ (w.heap.size ≤ g ∧ g < w'.heap.size) := by
  go_enter Tryd.func43, Tryd.ntmps43
  go_wp2_with (go_at_call 66; refine (copyCheck_walk h).mono ?_)
  rintro e w1 ⟨rfl, h1, s1⟩
  have hlt1 := lt_of_heap h1.heap
  have hI1 : ∀ b o, I b o → b < w1.heap.size := s1.bnd hI
  obtain ⟨i, hi, hk⟩ := nth_tys_sl
  obtain ⟨ei, hei, hes, heb, hez⟩ := nth_tys_u8
  obtain ⟨v', w2, J, ts', hA, s3, hv', hnd', hts', hte', hnn, hsame⟩ := run_appendS (P := Tryd.prog) (E := E00) hT hI1 (ts' := 9) hi hk hei (by kernel_rfl) h1.rel rfl (l := x) (.inl hes.symm) hes (by omega) hez (by rw [bytesD_length, heb]; omega) 57 hnd
  rw [hes, ← bytesD_append] at hv'
  have hb2 : w2.heap[b]? = some (.cells #[.pointer (some ⟨b, 0, none⟩), v] 59 (0, 0)) := (s3.ext.block b (lt_of_heap h1.heap) h1.ne).trans h1.heap
  have himm : ∀ o, ¬ J b o := fun o hJ => by
    rcases s3.new b o hJ with h1' | h1' | h1'
    · exact h1.imm o h1'
    · exact h1.ne h1'
    · have := lt_of_heap h1.heap; omega
  have hne' : b ∉ ts' := fun hb => by
    rcases hts' b hb with h2 | ⟨h2, _⟩
    · exact h1.ne h2
    · have := lt_of_heap h1.heap; omega
  have s4 := step_setCell (I := J) (w := w2) (b := b) (o := 1) v' himm
  have hnb : ∀ g, g ∈ ts' → ¬ g = b := fun g hg e => hne' (e ▸ hg)
  have hown : l ++ x = [] ∧ v' = .slice none 0 0 ∨ ts' ≠ [] := by
    by_cases hx0 : x = []
    · subst hx0
      obtain ⟨e1, e2⟩ := hsame rfl
      rw [e1, e2, List.append_nil]
      exact h1.own
    · exact .inr (hnn (by cases x with | nil => exact absurd rfl hx0 | cons a b => simp [bytesD]))
  have fin : BldAt J (w2.setCell ⟨b, 1, none⟩ v') b true (l ++ x) v' ts' := by
    refine ⟨by rw [heap_setCell_same hb2]; rfl, relC_step s4 hv' hnb, himm, fun g hg => ?_, hne', hown⟩
    obtain ⟨arr, fz, hgg⟩ := hte' h1.te g hg
    exact ⟨arr, fz, (s4.ext.block g (lt_of_heap hgg) (hnb g hg)).trans hgg⟩
  have hst : Step (fun y => y = b ∨ y ∈ ts) I J w (w2.setCell ⟨b, 1, none⟩ v') := by
    have a1 : Step (fun y => y = b ∨ y ∈ ts) I I w w1 := ⟨s1.ext.mono (fun _ h => .inl h), s1.sub, s1.agree, fun b o h => (s1.made b o h).imp id (fun h => ⟨h.1.imp .inl id, h.2⟩)⟩
    have a2 := a1.trans s3 (fun b hb => .inl (.inr hb))
    exact a2.trans s4 (fun b hb => .inl (.inl hb))
  have d0 : w2.cell? ⟨b, 0, none⟩ = some (.pointer (some ⟨b, 0, none⟩)) := by simp [World.cell?, hb2]
  have d1 : w2.cell? ⟨b, 1, none⟩ = some v := by simp [World.cell?, hb2]
  have f1 : w2.frozen? ⟨b, 1, none⟩ = false := by simp [World.frozen?, hb2]
  have c1 : w1.cell? ⟨b, 1, none⟩ = some v := h1.cell1
  obtain ⟨a', n', cap', rfl⟩ : ∃ a' n' cap', v' = .slice a' n' cap' := by obtain ⟨a, cap, hh, _⟩ := hv'; exact ⟨_, _, _, hh⟩
  go_wp2_with (at_builtin; refine wpList_app rfl _ _ rfl hA ?_)
  go_wp2
  go_ret2
  refine ⟨rfl, J, _, ts', fin, hst, hnd', fun g hg => ?_⟩
  rcases hts' g hg with h2 | ⟨h2, h3⟩
  · exact .inl h2
  · refine .inr ⟨?_, ?_⟩
    · have := s1.ext.size; omega
    · have := s4.ext.size; omega

theorem heap_freeze {w : World} {g n : Nat} {arr : Array Value} {T : TypeId} {fz : Nat × Nat} (h : w.heap[g]? = some (.cells arr T fz)) (hn : n ≠ 0) :
    ∃ fz', (w.freeze ⟨g, 0, none⟩ n).heap[g]? = some (.cells arr T fz') ∧ (fz.2 ≤ n → fz'.2 ≤ n) := by
  obtain ⟨lo, hi⟩ := fz
  refine ⟨if lo == hi then (0, 0 + n) else (min lo 0, max hi (0 + n)), by simp [World.freeze, hn, Array.getElem?_modify, h], fun hf => ?_⟩
  simp only at hf
  split <;> simp <;> omega
theorem step_freeze {I : Imm} {w : World} {g n : Nat} {arr : Array Value} {T : TypeId} {fz : Nat × Nat} (h : w.heap[g]? = some (.cells arr T fz)) (hn : n ≠ 0) : Step (fun x => x = g) I I w (w.freeze ⟨g, 0, none⟩ n) := by
  have hblk : ∀ k, k ≠ g → (w.freeze ⟨g, 0, none⟩ n).heap[k]? = w.heap[k]? := fun k hk => by
    simp only [World.freeze, hn, if_false, Array.getElem?_modify]
    rw [if_neg (fun e => hk e.symm)]
  obtain ⟨fz', hf, _⟩ := heap_freeze h hn
  refine ⟨⟨by simp [World.freeze, hn], by simp [World.freeze, hn], by simp [World.freeze, hn], by simp [World.freeze, hn], fun k _ hk => hblk k hk⟩, .refl _, ?_, fun _ _ h => .inl h⟩
  intro k j _
  by_cases hk : k = g
  · subst hk; rw [cellAt_heap hf, cellAt_heap h]
  · exact cellAt_of_block (hblk k hk)

set_option maxHeartbeats 2000000 in
theorem string_walk {I : Imm} {w : World} {b : Nat} {u : Bool} {l : List UInt8} {v : Value} {ts : List Nat} (h : BldAt I w b u l v ts) (hl : l.length ≤ 140737488355328) :
    Calls Tryd.prog 44 #[.pointer (some ⟨b, 0, none⟩)] w fun e w' => e = .returned (.string ⟨l.toArray⟩) ∧ BldAt I w' b u l v ts ∧ Step (fun y => y ∈ ts) I I w w' := by
  have hpt : Tryd.prog.underlying 79 = some (.pointer 5) := by kernel_rfl
  have mixed : Tryd.prog.follows .mixedOrders = true := by kernel_rfl
  rcases h.own with ⟨rfl, rfl⟩ | hne
  · have hts : ts = [] := by
      obtain ⟨a, cap, hv, _, _, hf⟩ := h.rel
      rcases hf with ⟨h1, _⟩ | ⟨_, _, _, _, _, _, h3, _⟩
      · exact h1
      · simp [bytesD] at h3
    subst hts
    have hUS : ∀ W : World, (Builtin.unsafeString_ #[79, 3] 9 #[.pointer none, .int .i64 0]).run Tryd.prog W = .ok (.string .empty) W := fun W => Lib.run_unsafeString_none W _ _ _ none
    have hSD : ∀ W : World, (Builtin.unsafeSliceData_ #[57] 79 #[.slice none 0 0]).run Tryd.prog W = .ok (.pointer none) W := fun W => rfl
    have c1 : w.drew.cell? ⟨b, 1, none⟩ = some (.slice none 0 0) := h.cell1
    have c0 : w.cell? ⟨b, 1, none⟩ = some (.slice none 0 0) := h.cell1
    go_enter Tryd.func44, Tryd.ntmps44
    go_wp2
    go_region_o
    all_goals (go_wp2; go_ret; exact ⟨rfl, h.step (Step.drew I w) (fun h => h) (fun _ _ h => h), ⟨(Ext.drew w).mono (fun _ h => h.elim), .refl _, fun _ _ _ => rfl, fun _ _ h => .inl h⟩⟩)
  · obtain ⟨a, cap, hv, hlc, hr, hf⟩ := h.rel
    obtain ⟨g, arr, T, fz, rfl, rfl, h3, hg, hs, hfz, hm, hn⟩ := hf.resolve_left (fun h' => hne h'.1)
    rw [bytesD_length] at h3 hv hlc hfz
    obtain ⟨arr2, fz2, hg2⟩ := h.te g (by simp)
    rw [hg] at hg2; cases hg2
    subst hv
    have h0 : l ≠ [] := by intro e; simp [e] at h3
    have hl0 : l.length ≠ 0 := by omega
    obtain ⟨b', o', hbo, hes⟩ := hr.resolve_left (by intro e; rw [← List.length_eq_zero_iff, bytesD_length] at e; omega)
    simp only [Option.some.injEq, Addr.mk.injEq] at hbo
    obtain ⟨rfl, rfl, _⟩ := hbo
    have hcells : ∀ (W : World), W.heap[g]? = some (.cells arr 5 fz) → ∀ j x, l[j]? = some x → W.cell? ((⟨g, 0, none⟩ : Addr).add j) = some (.int .u8 x.toNat) := by
      intro W hW j x hx
      have he : (bytesD l)[j]? = some [.int .u8 (x.toNat : Int)] := by
        have key : ∀ (l : List UInt8) (j : Nat), l[j]? = some x → (bytesD l)[j]? = some [.int .u8 (x.toNat : Int)] := by
          intro l
          induction l with
          | nil => intro j h; simp at h
          | cons a l ih =>
            intro j h
            cases j with
            | zero => simp at h; subst h; rfl
            | succ j => simp at h; simpa [bytesD] using ih j h
        exact key l j hx
      obtain ⟨_, hc⟩ := relEs_get hes he
      obtain ⟨⟨_, v, hv, hd⟩, _⟩ := hc
      simp only [relD] at hd
      subst hd
      have h1 : cellAt W g (0 + j * 1) = cellAt w g (0 + j * 1) := by rw [cellAt_heap hW, cellAt_heap hg]
      rw [Nat.zero_add, Nat.mul_one] at hv h1
      rw [addr_add, Nat.zero_add]
      exact h1.trans hv
    have hcb : Tryd.prog.cellsOf 5 = 1 := by kernel_rfl
    have hsz : l.length ≤ arr.size := by rw [hs]; omega
    have hSD : ∀ W : World, (Builtin.unsafeSliceData_ #[57] 79 #[.slice (some ⟨g, 0, none⟩) l.length cap]).run Tryd.prog W = .ok (.pointer (some ⟨g, 0, none⟩)) W := fun W => Lib.run_unsafeSliceData_row _ _ _ _ _ _ (by omega)
    have hUS : (Builtin.unsafeString_ #[79, 3] 9 #[.pointer (some ⟨g, 0, none⟩), .int .i64 l.length]).run Tryd.prog w.drew = .ok (.string ⟨l.toArray⟩) (w.drew.freeze ⟨g, 0, none⟩ l.length) :=
      Lib.run_unsafeString_row w.drew 79 3 9 5 hpt hcb g arr.size (by have hg' : w.drew.heap[g]? = some (.cells arr 5 fz) := hg; simp [World.shape?, hg']) l h0 hsz (by omega) (hcells w.drew hg)
    have c1 : w.drew.cell? ⟨b, 1, none⟩ = some (.slice (some ⟨g, 0, none⟩) l.length cap) := h.cell1
    have c0 : w.cell? ⟨b, 1, none⟩ = some (.slice (some ⟨g, 0, none⟩) l.length cap) := h.cell1
    have hgd : w.drew.heap[g]? = some (.cells arr 5 fz) := hg
    have hst : Step (fun y => y ∈ [g]) I I w (w.drew.freeze ⟨g, 0, none⟩ l.length) := by
      have s1 := step_freeze (I := I) hgd hl0
      have s0 : Step (fun y => y ∈ [g]) I I w w.drew := ⟨(Ext.drew w).mono (fun _ h => h.elim), .refl _, fun _ _ _ => rfl, fun _ _ h => .inl h⟩
      exact s0.trans s1 (fun b hb => .inl (by simp [hb]))
    have fin : BldAt I (w.drew.freeze ⟨g, 0, none⟩ l.length) b u l (.slice (some ⟨g, 0, none⟩) l.length cap) [g] := by
      obtain ⟨fz', hf1, hf2⟩ := heap_freeze hgd hl0
      have hbg : b ≠ g := fun e => h.ne (by simp [e])
      refine ⟨(hst.ext.block b (lt_of_heap h.heap) (by simpa using hbg)).trans h.heap, ?_, h.imm, fun k hk => ?_, h.ne, .inr (by simp)⟩
      · refine ⟨some ⟨g, 0, none⟩, cap, by rw [bytesD_length], by rw [bytesD_length]; exact hlc, .inr ⟨g, 0, rfl, relEs_mono hst.sub hst.agree _ _ _ _ hes⟩, .inr ⟨g, arr, _, fz', rfl, rfl, by rw [bytesD_length]; exact h3, hf1, hs, by rw [bytesD_length]; have := hf2 (by omega); omega, hm, ?_⟩⟩
        intro o ho
        exact hn o ho
      · simp at hk; subst hk; exact ⟨_, _, hf1⟩
    go_enter Tryd.func44, Tryd.ntmps44
    go_wp2
    go_region_o
    all_goals (go_wp2; go_ret; exact ⟨rfl, fin, hst⟩)

end Go.Proofs.YtmbhohnoolflbaaDoorX
