/- A law's arguments opened, the general part: numbers, strings, slices of what can be read. -/
import Derived.Test.YtimeecimaokldaaL1
import Derived.Test.YtimeecimaokldaaM1
import Derived.Deep.Slices
import Derived.Deep.Fields
import Derived.Lib.SmallJoins
namespace Go.Proofs.Ytimeecimaokldaa
open Go Go.RowKit Go.WideShapes Go.ChangeShapes Go.ChangeAt Go.Joins Go.Deep
set_option linter.unusedVariables false
set_option linter.unusedSimpArgs false
set_option maxRecDepth 100000

theorem own : ownKnob Try.prog.godebug = none := by kernel_rfl
theorem laidOut : laidOutB Try.prog = true := by kernel_rfl
theorem cells_int : Try.prog.cellsOf 3 = 1 := by kernel_rfl
theorem cells_string : Try.prog.cellsOf 9 = 1 := by kernel_rfl

theorem i64_bd {n : Int} (h : (Lit.int .i64 n).wf = true) : -9223372036854775808 ≤ n ∧ n ≤ 9223372036854775807 := by
  simpa [Lit.wf, IntKind.min, IntKind.max, IntKind.signed, IntKind.bits] using h

section
variable {H : Type} {enc : TypeId × Value → H} {w : World} {base : Nat} {spare : Nat → Bool} {held : Bool}

theorem rd_struct {P : Program} {t : TypeId} {fs : Array Field} {fuel : Nat} {cs : List Value} {y : DataW H × List MemPlace} (ht : P.underlying t = some (.struct fs)) (h : DataW.trod enc P w base spare held fuel t cs = some y) :
    cs.length = P.cellsOf t ∧ ∃ m, ∀ (i : Nat) (f : Field), fs[i]? = some f → ∃ y', DataW.trod enc P w base spare held m f.type ((cs.drop f.offset).take (P.cellsOf f.type)) = some y' := by
  obtain ⟨xs, n, _, _, hl, hlen, hf⟩ := DataW.trod_struct ht h
  refine ⟨hl, n, fun i f hi => ?_⟩
  have hlt : i < fs.size := (Array.getElem?_eq_some_iff.1 hi).1
  rw [hf i f hi]
  exact ⟨_, List.getElem?_eq_getElem (by omega)⟩

/-- A slice that came in: its elements, each by its cells. -/
theorem rd_slice {P : Program} {α : Type} {sz : Nat} {C : α → List Value} {good : α → Prop} {t e : TypeId} {fuel : Nat} {cs : List Value} {y : DataW H × List MemPlace} (ht : P.underlying t = some (.slice e)) (hC : P.cellsOf e = sz) (hsz : 0 < sz)
    (hE : ∀ n cs y, DataW.trod enc P w base spare held n e cs = some y → ∃ x, cs = C x ∧ good x) (h : DataW.trod enc P w base spare held fuel t cs = some y) :
    ∃ v, cs = [v] ∧ ∃ xs : List α, Sl w sz v xs.length (xs.flatMap C) ∧ ∀ x ∈ xs, good x := by
  rcases open_slice ht h with ⟨rfl, _⟩ | ⟨a, len, cap, m, n, D, Pl, rfl, _, hl, hm, hmm, _, hi⟩
  · exact ⟨_, rfl, [], ⟨none, 0, rfl, Nat.le_refl _, by unfold maxLen; omega, Reads.none_⟩, fun x hx => by cases hx⟩
  refine ⟨_, rfl, ?_⟩
  have hlm : len ≤ m := by rw [hmm]; split <;> omega
  have hstep : ∀ i, i < len → ∃ x, good x ∧ (C x).length = sz ∧ ∀ j, j < sz → w.cell? (a.add (i * sz + j)) = (C x)[j]? := by
    intro i hil
    obtain ⟨cs', hc, ht'⟩ := hi i (by omega)
    rw [hC] at hc
    obtain ⟨_, hcl, hat⟩ := World.cells?_some hc
    obtain ⟨x, rfl, hg⟩ := hE _ _ _ ht'
    exact ⟨x, hg, hcl, fun j hj => by rw [← add_of_add]; exact hat j hj⟩
  have hall : ∀ k, k ≤ len → ∃ xs : List α, xs.length = k ∧ (∀ x ∈ xs, good x ∧ (C x).length = sz) ∧ ∀ i x, xs[i]? = some x → ∀ j, j < sz → w.cell? (a.add (i * sz + j)) = (C x)[j]? := by
    intro k
    induction k with
    | zero => exact fun _ => ⟨[], rfl, (fun x hx => by cases hx), fun i x hx => by simp at hx⟩
    | succ k ih =>
      intro hk
      obtain ⟨xs, hxl, hxg, hxc⟩ := ih (by omega)
      obtain ⟨x, hg, hcl, hc⟩ := hstep k (by omega)
      refine ⟨xs ++ [x], by simp [hxl], fun z hz => ?_, fun i z hz j hj => ?_⟩
      · rcases List.mem_append.1 hz with hz | hz
        · exact hxg z hz
        · simp at hz; subst hz; exact ⟨hg, hcl⟩
      · rcases Nat.lt_or_ge i k with hik | hik
        · rw [List.getElem?_append_left (by omega)] at hz
          exact hxc i z hz j hj
        · rw [List.getElem?_append_right (by omega), hxl] at hz
          have : i = k := by
            have := (List.getElem?_eq_some_iff.1 hz).1
            simp at this
            omega
          subst this
          simp at hz
          subst hz
          exact hc j hj
  obtain ⟨xs, hxl, hxg, hxc⟩ := hall len (Nat.le_refl _)
  have hlen : ∀ x ∈ xs, (C x).length = sz := fun x hx => (hxg x hx).2
  have hat : ∀ j u, (xs.flatMap C)[j]? = some u → w.cell? (a.add j) = some u := fun k u hu => by
    obtain ⟨i, j, x, rfl, hj, hx, hu⟩ := flat_at hlen hsz hu
    rw [hxc i x hx j hj]
    exact hu
  refine ⟨xs, ⟨some a, cap, by rw [hxl], by omega, hm, flat_length hlen, fun hn => ⟨a, rfl, ?_, hat⟩⟩, fun x hx => (hxg x hx).1⟩
  have h0 : 0 < (xs.flatMap C).length := by rw [flat_length hlen]; exact Nat.mul_pos hn hsz
  have := World.block_lt_of_cell? w _ (hat 0 _ (List.getElem?_eq_getElem h0))
  rwa [block_of_add] at this

theorem agg_of {P : Program} {r : Reach} {b0 : Nat} {t : TypeId} {fs : Array Field} {v : Value} {d : DataW H} {p : List MemPlace} (ht : P.underlying t = some (.struct fs)) (hv : Value.okWide P w r b0 t v) (h : DataW.Trod enc P w base spare held t v d p) :
    ∃ cs n, v = .agg cs ∧ DataW.trod enc P w base spare held n t cs.toList = some (d, p) := by
  obtain ⟨cs, rfl, _⟩ := okWide_struct ht hv
  obtain ⟨n, hn⟩ := h
  exact ⟨cs, n, rfl, hn⟩
theorem agg_eq {cs : Array Value} {l : List Value} (h : cs.toList = l) : Value.agg cs = .agg l.toArray := by subst h; rfl

theorem op_int {b0 : Nat} {r : Reach} {v : Value} {d : DataW H} {p : List MemPlace} (hv : Value.okWide Try.prog w r b0 3 v) (h : DataW.Trod enc Try.prog w base spare held 3 v d p) :
    ∃ n : Int, v = .int .i64 n ∧ (-9223372036854775808 ≤ n ∧ n ≤ 9223372036854775807) := by
  obtain ⟨n, rfl, _, _, wf⟩ := open_int Try.underlying3 hv h
  exact ⟨n, rfl, i64_bd wf⟩
theorem op_string {b0 : Nat} {r : Reach} {v : Value} {d : DataW H} {p : List MemPlace} (hv : Value.okWide Try.prog w r b0 9 v) (h : DataW.Trod enc Try.prog w base spare held 9 v d p) :
    ∃ s : ByteArray, v = .string s ∧ s.size ≤ maxLen := by
  obtain ⟨s, rfl, _, _, hs⟩ := Go.ChangeMaps.open_string Try.underlying9 hv h
  exact ⟨s, rfl, hs⟩
theorem op_Ints {b0 : Nat} {r : Reach} {v : Value} {d : DataW H} {p : List MemPlace} (hv : Value.okWide Try.prog w r b0 44 v) (h : DataW.Trod enc Try.prog w base spare held 44 v d p) :
    ∃ zs : List Int, Ints w v zs ∧ ∀ z ∈ zs, -9223372036854775808 ≤ z ∧ z ≤ 9223372036854775807 := by
  obtain ⟨a, l, c, rfl⟩ := okWide_slice Try.underlying44 hv
  obtain ⟨n, hn⟩ := h
  obtain ⟨v', e, xs, hsl, hg⟩ := rd_slice (C := fun z : Int => [Value.int .i64 z]) (good := fun z => -9223372036854775808 ≤ z ∧ z ≤ 9223372036854775807) Try.underlying44 cells_int (by omega)
    (fun n cs y hy => by obtain ⟨z, e, _, wf⟩ := DataW.trod_int Try.underlying3 hy; exact ⟨z, e, i64_bd wf⟩) hn
  simp only [Value.cells, List.cons.injEq, and_true] at e
  subst e
  exact ⟨xs, by unfold Ints; rw [← List.flatMap_singleton' (xs.map _), List.flatMap_map]; exact hsl, hg⟩
theorem rd_Strs {fuel : Nat} {cs : List Value} {y : DataW H × List MemPlace} (h : DataW.trod enc Try.prog w base spare held fuel 24 cs = some y) : ∃ v, cs = [v] ∧ ∃ ss : List ByteArray, Strs w v ss ∧ ∀ s ∈ ss, s.size ≤ maxLen := by
  obtain ⟨v, e, xs, hsl, hg⟩ := rd_slice (C := fun s : ByteArray => [Value.string s]) (good := fun s => s.size ≤ maxLen) Try.underlying24 cells_string (by omega)
    (fun n cs y hy => by obtain ⟨s, e, _, hs⟩ := DataW.trod_string Try.underlying9 hy; exact ⟨s, e, hs⟩) h
  exact ⟨v, e, xs, by unfold Strs; rw [← List.flatMap_singleton' (xs.map _), List.flatMap_map]; exact hsl, hg⟩
theorem op_Strs {b0 : Nat} {r : Reach} {v : Value} {d : DataW H} {p : List MemPlace} (hv : Value.okWide Try.prog w r b0 24 v) (h : DataW.Trod enc Try.prog w base spare held 24 v d p) :
    ∃ ss : List ByteArray, Strs w v ss ∧ ∀ s ∈ ss, s.size ≤ maxLen := by
  obtain ⟨a, l, c, rfl⟩ := okWide_slice Try.underlying24 hv
  obtain ⟨n, hn⟩ := h
  obtain ⟨v', e, xs, hsl, hg⟩ := rd_Strs hn
  simp only [Value.cells, List.cons.injEq, and_true] at e
  subst e
  exact ⟨xs, hsl, hg⟩
theorem cells_Strs : Try.prog.cellsOf 24 = 1 := by kernel_rfl
end
end Go.Proofs.Ytimeecimaokldaa
