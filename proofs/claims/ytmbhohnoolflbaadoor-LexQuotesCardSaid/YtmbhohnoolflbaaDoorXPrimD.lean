/-
  MORE LIBRARY CALLS that the interpreter takes as known: Builder.WriteString, strings.Join, strconv.Itoa of small numbers; strings.Contains and strings.Fields, where the library's tables hold what they should.
-/
import Derived.Test.YtmbhohnoolflbaaDoorXPrim
set_option linter.unusedVariables false
set_option linter.unusedSimpArgs false
set_option maxRecDepth 100000
namespace Go.Proofs.YtmbhohnoolflbaaDoorX
open Go.Lib Go.RowKit

theorem fnSpec_new {P : Program} {W : Imm → World → Prop} {f : FuncId} {p : List V → List (List C) → R} (hf : FnAt P f)
    (h : ∀ vs bs r, p vs bs = some r → ∃ v, r = .ret [v] bs ∧ ∀ w I mo args, W I w → (∀ b o, I b o → b < w.heap.size) → relVs I w (mpo mo) vs args → Calls P f args.toArray w (fun e w' => ∃ u J, e = .returned u ∧ Step No I J w w' ∧ relV J w' (fun _ => none) v u [])) :
    FnSpec P W (onlyP f p) := by
  intro g vs bs r hr
  unfold onlyP at hr
  split at hr
  · rename_i hg
    subst hg
    refine ⟨hf, ?_⟩
    intro w I mo ow args hW hv hb hI hl
    obtain ⟨v, rfl, h1⟩ := h vs bs r hr
    refine (h1 w I mo args hW hI hv).mono ?_
    rintro e w' ⟨u, J, rfl, hs, hu⟩
    refine ⟨J, ow, [u], [], ⟨⟨hs.ext.mono (fun _ h => h.elim), hs.sub, hs.agree, fun b o h => (hs.made b o h).imp id (fun h => ⟨h.1.imp (fun h => h.elim) id, h.2⟩)⟩, ?_, fun b x hx => .inl (by simp [hx]), fun b x hx => Nat.lt_of_lt_of_le (hl b x hx) hs.ext.size⟩, rfl, ⟨u, [], [], [], rfl, rfl, ?_, rfl, rfl⟩, .nil _ _⟩
    · refine ⟨hb.1, fun i cs hi => ?_⟩
      obtain ⟨b, ts, e1, e2, e3, e4⟩ := hb.2 i cs hi
      exact ⟨b, ts, e1, e2, relB_step hs e3 (fun h => h) (fun _ _ h => h), e4⟩
    · simp only [memN, Bool.false_eq_true, if_false]
      exact hu
  · cases hr

def pWriteString : List V → List (List C) → R
  | [.c (.ptr (.out 0) 0), .c (.str x)], [[.bld T te l]] =>
    chk (Nat.beq T 59 && Nat.beq te 5 && Nat.ble (l.length + x.length) 140737488355328) (some (.ret [.c (.int .i64 (x.length : Int)), .c .nif] [[.bld T te (l ++ x)]]))
  | _, _ => none
theorem writeString_spec (hT : WellT Tryd.prog tys) (W : Imm → World → Prop) : FnSpec Tryd.prog W (onlyP 43 pWriteString) := by
  intro g vs bs r hr
  unfold onlyP at hr
  split at hr
  case isFalse => cases hr
  rename_i hg
  subst hg
  refine ⟨⟨Tryd.f43, Tryd.func43, by kernel_rfl, by kernel_rfl⟩, ?_⟩
  intro w I mo ow args hW hv hb hI hl
  unfold pWriteString at hr
  split at hr
  case h_2 => cases hr
  rename_i x T te l
  obtain ⟨hc, h1⟩ := chk_inv hr
  simp only [Bool.and_eq_true] at hc
  obtain ⟨⟨c1, c2⟩, c5⟩ := hc
  have hT' := Nat.eq_of_beq_eq_true c1
  have hte' := Nat.eq_of_beq_eq_true c2
  have c5' := Nat.le_of_ble_eq_true c5
  obtain ⟨b, u, v, ts, rfl, hB, hbld, hh⟩ := bldAt_of hb hT' hte'
  obtain ⟨_, _, rfl, ⟨⟨b', hb1, rfl⟩, _⟩, _, _, rfl, ⟨rfl, _⟩, rfl⟩ := hv
  have : b' = b := by simp [mpo, nth] at hb1; exact hb1.symm
  subst this
  cases h1
  refine (writeString_walk hT hbld hh.1 hI x c5').mono ?_
  rintro e w' ⟨rfl, J, v', ts', h2, hs, hnd, hts⟩
  obtain ⟨ow', h3⟩ := end_bld hB hbld hh hl h2 hs hnd hts
  subst hT'; subst hte'
  exact ⟨J, ow', [.int .i64 (x.length : Int), .nilIface], [], h3, rfl, ⟨_, [.nilIface], [], [], rfl, rfl, ⟨rfl, rfl⟩, .nilIface, [], [], [], rfl, rfl, ⟨rfl, rfl⟩, rfl, rfl⟩, .nil _ _⟩

def pItoa : List V → List (List C) → R
  | [.c (.int .i64 n)], [] => chk (decide (0 ≤ n) && decide (n < 100)) (some (.ret [.c (.str (Lib.decDigits n.toNat))] []))
  | _, _ => none
theorem itoa_spec (W : Imm → World → Prop) : FnSpec Tryd.prog W (onlyP 89 pItoa) := by
  refine fnSpec_pure ⟨Tryd.f89, Tryd.func89, by kernel_rfl, by kernel_rfl⟩ ?_
  intro vs bs r hr
  unfold pItoa at hr
  split at hr
  case h_2 => cases hr
  rename_i n
  obtain ⟨hc, h1⟩ := chk_inv hr
  simp only [Bool.and_eq_true, decide_eq_true_eq] at hc
  cases h1
  refine ⟨_, rfl, ?_⟩
  intro w I mo args hW hv
  obtain ⟨_, _, rfl, ⟨rfl, _⟩, rfl⟩ := hv
  obtain ⟨k, rfl⟩ := Int.eq_ofNat_of_zero_le hc.1
  refine ⟨_, (Tryd.strconv_Itoa_small k (by omega) w).mono ?_, ⟨rfl, rfl⟩⟩
  rintro e w' ⟨rfl, rfl⟩
  exact ⟨rfl, 0, rfl⟩

/-- Elements that are texts. -/
def strsD : List (List D) → Option (List (List UInt8))
  | [] => some []
  | [.str l] :: r => (match strsD r with | some q => some (l :: q) | none => none)
  | _ => none
def pJoin : List V → List (List C) → R
  | [.c (.sl sz es fl), .c (.str sep)], [] => onO (strsD es) fun xs => chk ((Nat.beq sz 1 || es.isEmpty) && Nat.ble xs.length 140737488355328 && Nat.ble (Lib.join xs sep).length 140737488355328) (some (.ret [.c (.str (Lib.join xs sep))] []))
  | _, _ => none
theorem strsD_inv : ∀ {es : List (List D)} {xs : List (List UInt8)}, strsD es = some xs → es = xs.map fun l => [D.str l]
  | [], xs, h => by cases h; rfl
  | e :: r, xs, h => by
    unfold strsD at h
    split at h
    · rename_i heq; cases heq
    · rename_i l r' heq
      cases heq
      split at h
      · rename_i q hq; cases h; rw [strsD_inv hq]; rfl
      · cases h
    · cases h
theorem below_step {I : Imm} {w w' : World} (hI : ∀ b o, I b o → b < w.heap.size) (h : Below w.heap.size w w') : Step No I I w w' :=
  ⟨⟨h.os, h.tape, h.output, h.size, fun k hk _ => h.block k hk⟩, .refl _, fun b o hb => cellAt_of_block (h.block b (hI b o hb)), fun b o hb => .inl hb⟩
theorem join_spec (W : Imm → World → Prop) : FnSpec Tryd.prog W (onlyP 73 pJoin) := by
  refine fnSpec_new ⟨Tryd.f73, Tryd.func73, by kernel_rfl, by kernel_rfl⟩ ?_
  intro vs bs r hr
  unfold pJoin at hr
  split at hr
  case h_2 => cases hr
  rename_i sz es fl sep
  obtain ⟨xs, hxs, h1⟩ := onO_inv hr
  obtain ⟨hc, h2⟩ := chk_inv h1
  simp only [Bool.and_eq_true] at hc
  cases h2
  have hes := strsD_inv hxs
  refine ⟨_, rfl, ?_⟩
  intro w I mo args hW hI hv
  obtain ⟨v, _, rfl, hsl, _, _, rfl, ⟨rfl, _⟩, rfl⟩ := hv
  obtain ⟨a, cap, rfl, hlc, hrow, _⟩ := hsl
  have hlen : es.length = xs.length := by rw [hes]; simp
  rw [hlen] at hlc
  rw [hlen]
  by_cases he : es = []
  · have hx : xs = [] := by rw [he] at hlen; exact List.eq_nil_of_length_eq_zero hlen.symm
    subst hx
    refine (Tryd.strings_Join_none a cap ⟨sep.toArray⟩ w).mono ?_
    rintro e w' ⟨rfl, rfl⟩
    exact ⟨_, I, rfl, .refl _ _ _, rfl, rfl⟩
  · obtain ⟨b, o, rfl, hr⟩ := hrow.resolve_left he
    have hsz : sz = 1 := by
      have := hc.1.1
      simp only [Bool.or_eq_true, List.isEmpty_iff] at this
      exact Nat.eq_of_beq_eq_true (this.resolve_right he)
    subst hsz
    have hcell : ∀ (j : Nat) l, xs[j]? = some l → I b (o + j) ∧ cellAt w b (o + j) = some (.string ⟨l.toArray⟩) := by
      intro j l hl
      obtain ⟨_, hcs⟩ := relEs_get hr (j := j) (e := [D.str l]) (by rw [hes, List.getElem?_map, hl]; rfl)
      obtain ⟨⟨hi, v, hv, hd⟩, _⟩ := hcs
      simp only [relD] at hd
      subst hd
      rw [Nat.mul_one] at hi hv
      exact ⟨hi, hv⟩
    have hb : b < w.heap.size := by
      cases xs with
      | nil => simp at hlen; exact absurd hlen he
      | cons x r => exact hI b _ (hcell 0 x rfl).1
    have hmap : (xs.map fun l : List UInt8 => (⟨l.toArray⟩ : ByteArray)).map (·.data.toList) = xs := by
      rw [List.map_map]; exact List.map_id' xs
    have hl2 : (xs.map fun l : List UInt8 => (⟨l.toArray⟩ : ByteArray)).length = xs.length := List.length_map ..
    have key := Tryd.strings_Join b o cap (xs.map fun l : List UInt8 => (⟨l.toArray⟩ : ByteArray)) ⟨sep.toArray⟩ w (fun j x hx => by
      rw [List.getElem?_map, Option.map_eq_some_iff] at hx
      obtain ⟨l, hl, rfl⟩ := hx
      exact (hcell j l hl).2) hb (by rw [hl2]; exact Nat.le_of_ble_eq_true hc.1.2) (by rw [hl2]; exact hlc) (by rw [hmap]; exact Nat.le_of_ble_eq_true hc.2)
    rw [hmap, hl2] at key
    refine key.mono ?_
    rintro e w' ⟨rfl, hw⟩
    exact ⟨_, I, rfl, below_step hI hw, rfl, rfl⟩

/-- The library's variables hold what they should, and nobody writes them. -/
def WMax (I : Imm) (w : World) : Prop := ∃ m, I 1 0 ∧ w.cell? ⟨1, 0, none⟩ = some (.int .i64 m)
theorem lasts_max : Lasts WMax := by
  rintro ch I J w w' hs ⟨m, h1, h2⟩
  exact ⟨m, hs.sub _ _ h1, (hs.agree _ _ h1).trans h2⟩
def pContains : List V → List (List C) → R
  | [.c (.str l), .c (.str m)], [] => chk (Nat.ble l.length 1000000) (some (.ret [.c (.bool (Lib.contains l m))] []))
  | _, _ => none
theorem contains_spec {W : Imm → World → Prop} (hWM : ∀ I w, W I w → WMax I w) : FnSpec Tryd.prog W (onlyP 65 pContains) := by
  refine fnSpec_pure ⟨Tryd.f65, Tryd.func65, by kernel_rfl, by kernel_rfl⟩ ?_
  intro vs bs r hr
  unfold pContains at hr
  split at hr
  case h_2 => cases hr
  rename_i l m
  obtain ⟨hc, h1⟩ := chk_inv hr
  have hc' := Nat.le_of_ble_eq_true hc
  cases h1
  refine ⟨_, rfl, ?_⟩
  intro w I mo args hW hv
  obtain ⟨_, _, rfl, ⟨rfl, _⟩, _, _, rfl, ⟨rfl, _⟩, rfl⟩ := hv
  obtain ⟨k, _, hk⟩ := hWM _ _ hW
  have hs : (⟨l.toArray⟩ : ByteArray).size = l.length := rfl
  refine ⟨_, (Tryd.strings_Contains ⟨l.toArray⟩ ⟨m.toArray⟩ k w (by omega) hk).mono ?_, ⟨rfl, rfl⟩⟩
  rintro e w' ⟨rfl, rfl⟩
  exact ⟨rfl, 0, rfl⟩

def WSpace (I : Imm) (w : World) : Prop := ∀ c : Nat, c < 256 → I 0 c ∧ w.cell? ⟨0, c, none⟩ = some (.int .u8 (if Lib.isSp (UInt8.ofNat c) then 1 else 0))
theorem lasts_space : Lasts WSpace := by
  rintro ch I J w w' hs h c hc
  obtain ⟨h1, h2⟩ := h c hc
  exact ⟨hs.sub _ _ h1, (hs.agree _ _ h1).trans h2⟩
def asciiB (l : List UInt8) : Bool := l.all fun b => Nat.blt b.toNat 128
def strEls (xs : List (List UInt8)) : List (List D) := xs.map fun l => [D.str l]
def pFields : List V → List (List C) → R
  | [.c (.str l)], [] => chk (Nat.ble l.length 1000000 && asciiB l) (some (.ret [.c (.sl 1 (strEls (Lib.fields l)) .sh)] []))
  | _, _ => none
theorem relEs_strs {I : Imm} {w : World} {b : Nat} : ∀ {xs : List (List UInt8)} {o : Nat}, (∀ j l, xs[j]? = some l → I b (o + j) ∧ cellAt w b (o + j) = some (.string ⟨l.toArray⟩)) → relEs I w b o 1 (strEls xs)
  | [], _, _ => trivial
  | x :: r, o, h => by
    refine ⟨rfl, ⟨⟨(h 0 x rfl).1, _, (h 0 x rfl).2, rfl⟩, trivial⟩, relEs_strs fun j l hl => ?_⟩
    have := h (j + 1) l hl
    rwa [show o + (j + 1) = o + 1 + j by omega] at this
theorem fields_spec {W : Imm → World → Prop} (hWS : ∀ I w, W I w → WSpace I w) : FnSpec Tryd.prog W (onlyP 82 pFields) := by
  refine fnSpec_new ⟨Tryd.f82, Tryd.func82, by kernel_rfl, by kernel_rfl⟩ ?_
  intro vs bs r hr
  unfold pFields at hr
  split at hr
  case h_2 => cases hr
  rename_i l
  obtain ⟨hc, h1⟩ := chk_inv hr
  simp only [Bool.and_eq_true] at hc
  have hc' := Nat.le_of_ble_eq_true hc.1
  have hs : (⟨l.toArray⟩ : ByteArray).size = l.length := rfl
  cases h1
  refine ⟨_, rfl, ?_⟩
  intro w I mo args hW hI hv
  obtain ⟨_, _, rfl, ⟨rfl, _⟩, rfl⟩ := hv
  refine (Any.strings_Fields_core Tryd.lays157 (by kernel_rfl) ⟨l.toArray⟩ w (by omega) (fun j b hb => ?_) (fun c hc => (hWS _ _ hW c hc).2)).mono ?_
  · have h1 := List.all_eq_true.1 hc.2 b (List.mem_of_getElem? hb)
    have h2 := Nat.le_of_ble_eq_true h1
    omega
  · rintro e w' ⟨rfl, rfl⟩
    have hlen : (strEls (Lib.fields l)).length = (Lib.fields l).length := List.length_map ..
    refine ⟨_, addI I w.heap.size (Lib.fields l).length, rfl, step_alloc _ _ _ hI, some ⟨w.heap.size, 0, none⟩, (Lib.fields l).length, by rw [hlen], by rw [hlen]; exact Nat.le_refl _, .inr ⟨_, 0, rfl, relEs_strs fun j x hx => ⟨?_, ?_⟩⟩, rfl⟩
    · have := (List.getElem?_eq_some_iff.1 hx).1
      exact .inr ⟨rfl, by omega⟩
    · rw [cellAt_heap (heap_alloc_new w _), Nat.zero_add, ← Array.getElem?_toList]
      simp only [List.getElem?_map, hx, Option.map_some]

end Go.Proofs.YtmbhohnoolflbaaDoorX
