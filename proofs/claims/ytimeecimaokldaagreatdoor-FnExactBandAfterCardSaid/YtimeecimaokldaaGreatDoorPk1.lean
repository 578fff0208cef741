/- A law's arguments opened, the general part: numbers, strings, slices of what can be read. -/
import Derived.Test.YtimeecimaokldaaGreatDoorPk0
import Derived.Deep.Slices
import Derived.Deep.Fields
import Derived.Lib.SmallJoins
namespace Go.Proofs.YtimeecimaokldaaGreatDoor
open Go Go.RowKit Go.WideShapes Go.ChangeShapes Go.ChangeAt Go.Joins Go.Deep
set_option linter.unusedVariables false
set_option linter.unusedSimpArgs false
set_option maxRecDepth 100000

theorem own : ownKnob Tryz.prog.godebug = none := by kernel_rfl
theorem laidOut : laidOutB Tryz.prog = true := by kernel_rfl
theorem cells_int : Tryz.prog.cellsOf 3 = 1 := by kernel_rfl
theorem cells_string : Tryz.prog.cellsOf 9 = 1 := by kernel_rfl

theorem i64_bd {n : Int} (h : (Lit.int .i64 n).wf = true) : -9223372036854775808 ≤ n ∧ n ≤ 9223372036854775807 := by
  simpa [Lit.wf, IntKind.min, IntKind.max, IntKind.signed, IntKind.bits] using h

section
variable {H : Type} {enc : TypeId × Value → H} {w : World} {base : Nat} {spare : Nat → Bool} {held : Bool}

theorem rd_struct {P : Program} {t : TypeId} {fs : Array Field} {fuel : Nat} {cs : List Value} {y : DataW H × List MemPlace} (ht : P.underlying t = some (.struct fs)) (h : DataW.trod enc P w base spare held fuel t cs = some y) :
    cs.length = P.cellsOf t ∧ ∃ m, ∀ (i : Nat) (f : Field), fs[i]? = some f → ∃ y', DataW.trod enc P w base spare held m f.type ((cs.drop f.offset).take (P.cellsOf f.type)) = some y' := by
  obtain ⟨xs, n, _, _, hl, hlen, hf⟩ := DataW.trod_struct ht h
  refine ⟨hl, n, fun i f hi => ?_⟩
  have hlt : i < fs.size := (Array.getElem?_eq_some_iff.1 hi).1
  rw [hf i f hi]
  exact ⟨_, List.getElem?_eq_getElem (by omega)⟩

/-- A slice that came in: its elements, each by its cells. -/
theorem rd_slice {P : Program} {α : Type} {sz : Nat} {C : α → List Value} {good : α → Prop} {t e : TypeId} {fuel : Nat} {cs : List Value} {y : DataW H × List MemPlace} (ht : P.underlying t = some (.slice e)) (hC : P.cellsOf e = sz) (hsz : 0 < sz)
    (hE : ∀ n cs y, DataW.trod enc P w base spare held n e cs = some y → ∃ x, cs = C x ∧ good x) (h : DataW.trod enc P w base spare held fuel t cs = some y) :
    ∃ v, cs = [v] ∧ ∃ xs : List α, Sl w sz v xs.length (xs.flatMap C) ∧ ∀ x ∈ xs, good x := by
  rcases open_slice ht h with ⟨rfl, _⟩ | ⟨a, len, cap, m, n, D, Pl, rfl, _, hl, hm, hmm, _, hi⟩
  · exact ⟨_, rfl, [], ⟨none, 0, rfl, Nat.le_refl _, by unfold maxLen; omega, Reads.none_⟩, fun x hx => by cases hx⟩
  refine ⟨_, rfl, ?_⟩
  have hlm : len ≤ m := by rw [hmm]; split <;> omega
  have hstep : ∀ i, i < len → ∃ x, good x ∧ (C x).length = sz ∧ ∀ j, j < sz → w.cell? (a.add (i * sz + j)) = (C x)[j]? := by
    intro i hil
    obtain ⟨cs', hc, ht'⟩ := hi i (by omega)
    rw [hC] at hc
    obtain ⟨_, hcl, hat⟩ := World.cells?_some hc
    obtain ⟨x, rfl, hg⟩ := hE _ _ _ ht'
    exact ⟨x, hg, hcl, fun j hj => by rw [← add_of_add]; exact hat j hj⟩
  have hall : ∀ k, k ≤ len → ∃ xs : List α, xs.length = k ∧ (∀ x ∈ xs, good x ∧ (C x).length = sz) ∧ ∀ i x, xs[i]? = some x → ∀ j, j < sz → w.cell? (a.add (i * sz + j)) = (C x)[j]? := by
    intro k
    induction k with
    | zero => exact fun _ => ⟨[], rfl, (fun x hx => by cases hx), fun i x hx => by simp at hx⟩
    | succ k ih =>
      intro hk
      obtain ⟨xs, hxl, hxg, hxc⟩ := ih (by omega)
      obtain ⟨x, hg, hcl, hc⟩ := hstep k (by omega)
      refine ⟨xs ++ [x], by simp [hxl], fun z hz => ?_, fun i z hz j hj => ?_⟩
      · rcases List.mem_append.1 hz with hz | hz
        · exact hxg z hz
        · simp at hz; subst hz; exact ⟨hg, hcl⟩
      · rcases Nat.lt_or_ge i k with hik | hik
        · rw [List.getElem?_append_left (by omega)] at hz
          exact hxc i z hz j hj
        · rw [List.getElem?_append_right (by omega), hxl] at hz
          have : i = k := by
            have := (List.getElem?_eq_some_iff.1 hz).1
            simp at this
            omega
          subst this
          simp at hz
          subst hz
          exact hc j hj
  obtain ⟨xs, hxl, hxg, hxc⟩ := hall len (Nat.le_refl _)
  have hlen : ∀ x ∈ xs, (C x).length = sz := fun x hx => (hxg x hx).2
  have hat : ∀ j u, (xs.flatMap C)[j]? = some u → w.cell? (a.add j) = some u := fun k u hu => by
    obtain ⟨i, j, x, rfl, hj, hx, hu⟩ := flat_at hlen hsz hu
    rw [hxc i x hx j hj]
    exact hu
  refine ⟨xs, ⟨some a, cap, by rw [hxl], by omega, hm, flat_length hlen, fun hn => ⟨a, rfl, ?_, hat⟩⟩, fun x hx => (hxg x hx).1⟩
  have h0 : 0 < (xs.flatMap C).length := by rw [flat_length hlen]; exact Nat.mul_pos hn hsz
  have := World.block_lt_of_cell? w _ (hat 0 _ (List.getElem?_eq_getElem h0))
  rwa [block_of_add] at this

theorem agg_of {P : Program} {r : Reach} {b0 : Nat} {t : TypeId} {fs : Array Field} {v : Value} {d : DataW H} {p : List MemPlace} (ht : P.underlying t = some (.struct fs)) (hv : Value.okWide P w r b0 t v) (h : DataW.Trod enc P w base spare held t v d p) :
    ∃ cs n, v = .agg cs ∧ DataW.trod enc P w base spare held n t cs.toList = some (d, p) := by
  obtain ⟨cs, rfl, _⟩ := okWide_struct ht hv
  obtain ⟨n, hn⟩ := h
  exact ⟨cs, n, rfl, hn⟩
theorem agg_eq {cs : Array Value} {l : List Value} (h : cs.toList = l) : Value.agg cs = .agg l.toArray := by subst h; rfl

theorem op_int {b0 : Nat} {r : Reach} {v : Value} {d : DataW H} {p : List MemPlace} (hv : Value.okWide Tryz.prog w r b0 3 v) (h : DataW.Trod enc Tryz.prog w base spare held 3 v d p) :
    ∃ n : Int, v = .int .i64 n ∧ (-9223372036854775808 ≤ n ∧ n ≤ 9223372036854775807) := by
  obtain ⟨n, rfl, _, _, wf⟩ := open_int Tryz.underlying3 hv h
  exact ⟨n, rfl, i64_bd wf⟩
theorem op_string {b0 : Nat} {r : Reach} {v : Value} {d : DataW H} {p : List MemPlace} (hv : Value.okWide Tryz.prog w r b0 9 v) (h : DataW.Trod enc Tryz.prog w base spare held 9 v d p) :
    ∃ s : ByteArray, v = .string s ∧ s.size ≤ maxLen := by
  obtain ⟨s, rfl, _, _, hs⟩ := Go.ChangeMaps.open_string Tryz.underlying9 hv h
  exact ⟨s, rfl, hs⟩
theorem op_Ints {b0 : Nat} {r : Reach} {v : Value} {d : DataW H} {p : List MemPlace} (hv : Value.okWide Tryz.prog w r b0 57 v) (h : DataW.Trod enc Tryz.prog w base spare held 57 v d p) :
    ∃ zs : List Int, Ints w v zs ∧ ∀ z ∈ zs, -9223372036854775808 ≤ z ∧ z ≤ 9223372036854775807 := by
  obtain ⟨a, l, c, rfl⟩ := okWide_slice Tryz.underlying57 hv
  obtain ⟨n, hn⟩ := h
  obtain ⟨v', e, xs, hsl, hg⟩ := rd_slice (C := fun z : Int => [Value.int .i64 z]) (good := fun z => -9223372036854775808 ≤ z ∧ z ≤ 9223372036854775807) Tryz.underlying57 cells_int (by omega)
    (fun n cs y hy => by obtain ⟨z, e, _, wf⟩ := DataW.trod_int Tryz.underlying3 hy; exact ⟨z, e, i64_bd wf⟩) hn
  simp only [Value.cells, List.cons.injEq, and_true] at e
  subst e
  exact ⟨xs, by unfold Ints; rw [← List.flatMap_singleton' (xs.map _), List.flatMap_map]; exact hsl, hg⟩
theorem rd_Strs {fuel : Nat} {cs : List Value} {y : DataW H × List MemPlace} (h : DataW.trod enc Tryz.prog w base spare held fuel 22 cs = some y) : ∃ v, cs = [v] ∧ ∃ ss : List ByteArray, Strs w v ss ∧ ∀ s ∈ ss, s.size ≤ maxLen := by
  obtain ⟨v, e, xs, hsl, hg⟩ := rd_slice (C := fun s : ByteArray => [Value.string s]) (good := fun s => s.size ≤ maxLen) Tryz.underlying22 cells_string (by omega)
    (fun n cs y hy => by obtain ⟨s, e, _, hs⟩ := DataW.trod_string Tryz.underlying9 hy; exact ⟨s, e, hs⟩) h
  exact ⟨v, e, xs, by unfold Strs; rw [← List.flatMap_singleton' (xs.map _), List.flatMap_map]; exact hsl, hg⟩
theorem op_Strs {b0 : Nat} {r : Reach} {v : Value} {d : DataW H} {p : List MemPlace} (hv : Value.okWide Tryz.prog w r b0 22 v) (h : DataW.Trod enc Tryz.prog w base spare held 22 v d p) :
    ∃ ss : List ByteArray, Strs w v ss ∧ ∀ s ∈ ss, s.size ≤ maxLen := by
  obtain ⟨a, l, c, rfl⟩ := okWide_slice Tryz.underlying22 hv
  obtain ⟨n, hn⟩ := h
  obtain ⟨v', e, xs, hsl, hg⟩ := rd_Strs hn
  simp only [Value.cells, List.cons.injEq, and_true] at e
  subst e
  exact ⟨xs, hsl, hg⟩
theorem cells_Strs : Tryz.prog.cellsOf 22 = 1 := by kernel_rfl
end
end Go.Proofs.YtimeecimaokldaaGreatDoor

/- Contracts of small functions on numbers and words. -/
namespace Go.Proofs.YtimeecimaokldaaGreatDoor
open Go Go.RowKit
set_option linter.unusedVariables false
set_option linter.unusedSimpArgs false

def letter (c : UInt8) : Bool := decide (97 ≤ (c.toNat : Int) ∧ (c.toNat : Int) ≤ 122)
def wordB (l : List UInt8) : Bool := l.all letter && decide (1 ≤ l.length ∧ l.length ≤ 10)

theorem within_any (n a b : Int) (w : World) : Calls Tryz.prog 113 #[.int .i64 n, .int .i64 a, .int .i64 b] w fun e w' => e = .returned (.bool (decide (a ≤ n ∧ n ≤ b))) ∧ w = w' := by
  by_cases h1 : a ≤ n
  · by_cases h2 : n ≤ b
    all_goals
      go_enter Tryz.func113, Tryz.ntmps113
      go_wp2
      go_ret
      exact ⟨ret_bool (by simp [*]), rfl⟩
  · go_enter Tryz.func113, Tryz.ntmps113
    go_wp2
    go_ret
    exact ⟨ret_bool (by simp; omega), rfl⟩

theorem letter_no1 {c : UInt8} (h : (c.toNat : Int) < 97) : letter c = false := by unfold letter; simp; omega
theorem letter_no2 {c : UInt8} (h : 122 < (c.toNat : Int)) : letter c = false := by unfold letter; simp; omega
theorem letter_yes {c : UInt8} (h1 : ¬ (c.toNat : Int) < 97) (h2 : (c.toNat : Int) ≤ 122) : letter c = true := by unfold letter; simp; omega
theorem word_no {l : List UInt8} {k : Nat} (hk : k < l.length) (h : letter l[k] = false) : wordB l = false := by unfold wordB; rw [all_false hk h]; rfl
theorem word_end {s : ByteArray} {k : Nat} {b : Bool} (hk : k ≤ s.size) (hn : ¬ k < s.size) (h : (s.data.toList.take k).all letter = true) (hb : b = decide (1 ≤ (s.size : Int) ∧ (s.size : Int) ≤ 10)) : b = wordB s.data.toList := by
  unfold wordB
  rw [all_true (by simp; omega) h, hb, bytes_len]
  simp only [Bool.true_and]
  congr 1
  apply propext
  omega

theorem isWord_any (s : ByteArray) (w : World) (hs : s.size ≤ maxLen) : Calls Tryz.prog 168 #[.string s] w fun e w' => e = .returned (.bool (wordB s.data.toList)) ∧ w = w' := by
  unfold maxLen at hs
  go_enter Tryz.func168, Tryz.ntmps168
  go_wp2
  go_loop [6] (fun i => ∃ k : Nat, k ≤ s.size ∧ i = .int .i64 k ∧ (s.data.toList.take k).all letter = true) (fun i => s.size - (intOf i).toNat)
  case atStart => exact ⟨0, Nat.zero_le _, rfl, by simp⟩
  case round =>
    obtain ⟨k, hk, rfl, ha⟩ := hrel
    have Ha := Lib.hid ha
    clear ha
    by_cases hlt : k < s.size
    · go_wp2
      · go_ret
        exact ⟨ret_bool (word_no (by simpa using hlt) (letter_no1 (by assumption))).symm, rfl⟩
      · go_ret
        exact ⟨ret_bool (word_no (by simpa using hlt) (letter_no2 (by assumption))).symm, rfl⟩
      · exact ⟨⟨k + 1, by omega, by go_num, all_step (by simpa using hlt) Ha.out (letter_yes (by assumption) (by assumption))⟩, by simp [intOf]; omega⟩
    · go_wp2
      all_goals
        go_ret
        exact ⟨ret_bool (word_end hk hlt Ha.out (by simp; omega)), rfl⟩
theorem l1In_any (n a b : Int) (w : World) : Calls Tryz.prog 43 #[.int .i64 n, .int .i64 a, .int .i64 b] w fun e w' => e = .returned (.bool (decide (a ≤ n ∧ n ≤ b))) ∧ w = w' := by
  by_cases h1 : a ≤ n
  · by_cases h2 : n ≤ b
    all_goals
      go_enter Tryz.func43, Tryz.ntmps43
      go_wp2
      go_ret
      exact ⟨ret_bool (by simp [*]), rfl⟩
  · go_enter Tryz.func43, Tryz.ntmps43
    go_wp2
    go_ret
    exact ⟨ret_bool (by simp; omega), rfl⟩
theorem isStage_any (n : Int) (w : World) : Calls Tryz.prog 79 #[.int .i64 n] w fun e w' => e = .returned (.bool (decide (3 ≤ n ∧ n ≤ 8))) ∧ w = w' := by
  by_cases h1 : 3 ≤ n
  · by_cases h2 : n ≤ 8
    all_goals
      go_enter Tryz.func79, Tryz.ntmps79
      go_wp2
      go_ret
      exact ⟨ret_bool (by simp [*]), rfl⟩
  · go_enter Tryz.func79, Tryz.ntmps79
    go_wp2
    go_ret
    exact ⟨ret_bool (by simp; omega), rfl⟩
theorem l4Name_any (s : ByteArray) (w : World) (hs : s.size ≤ maxLen) : Calls Tryz.prog 130 #[.string s] w fun e w' => e = .returned (.bool (wordB s.data.toList)) ∧ w = w' := by
  unfold maxLen at hs
  go_enter Tryz.func130, Tryz.ntmps130
  go_wp2
  go_loop [3] (fun i => ∃ k : Nat, k ≤ s.size ∧ i = .int .i64 k ∧ (s.data.toList.take k).all letter = true) (fun i => s.size - (intOf i).toNat)
  case atStart => exact ⟨0, Nat.zero_le _, rfl, by simp⟩
  case round =>
    obtain ⟨k, hk, rfl, ha⟩ := hrel
    have Ha := Lib.hid ha
    clear ha
    by_cases hlt : k < s.size
    · go_wp2
      · go_ret
        exact ⟨ret_bool (word_no (by simpa using hlt) (letter_no1 (by assumption))).symm, rfl⟩
      · go_ret
        exact ⟨ret_bool (word_no (by simpa using hlt) (letter_no2 (by assumption))).symm, rfl⟩
      · exact ⟨⟨k + 1, by omega, by go_num, all_step (by simpa using hlt) Ha.out (letter_yes (by assumption) (by assumption))⟩, by simp [intOf]; omega⟩
    · go_wp2_with (go_at_call 43; refine (l1In_any _ _ _ _).mono ?_; rintro e w' ⟨rfl, rfl⟩)
      go_ret
      exact ⟨ret_bool (word_end hk hlt Ha.out (by simp)), rfl⟩
end Go.Proofs.YtimeecimaokldaaGreatDoor

/- Contracts: evenings and items. -/
namespace Go.Proofs.YtimeecimaokldaaGreatDoor
open Go Go.RowKit
set_option linter.unusedVariables false
set_option linter.unusedSimpArgs false

def evB (a b c d : Int) : Bool := decide (3 ≤ a ∧ a ≤ 8) && decide (1 ≤ b ∧ b ≤ 100) && decide (0 ≤ c ∧ c ≤ 20000) && decide (0 ≤ d ∧ d ≤ 1000)

end Go.Proofs.YtimeecimaokldaaGreatDoor

/- Contracts: items, and the time of one. -/
namespace Go.Proofs.YtimeecimaokldaaGreatDoor
open Go Go.RowKit
set_option linter.unusedVariables false
set_option linter.unusedSimpArgs false

structure It where
  name : ByteArray
  stage : Int
  rows : Int
  worth : Int
def It.cells (x : It) : List Value := [.string x.name, .int .i64 x.stage, .int .i64 x.rows, .int .i64 x.worth]
def Items (w : World) (v : Value) (xs : List It) : Prop := Sl w 4 v xs.length (xs.flatMap It.cells) ∧ ∀ x ∈ xs, x.name.size ≤ maxLen
theorem Items.to {w w' : World} {v : Value} {xs : List It} (h : Items w v xs) (hb : Below w.heap.size w w') : Items w' v xs := ⟨h.1.to hb, h.2⟩
theorem items_el {w : World} {B : Nat} {A : Option Addr} {xs : List It} (hr : Reads w B 4 A xs.length (xs.flatMap It.cells)) {k : Nat} (hk : k < xs.length) :
    ∃ ad, A = some ad ∧ ∀ w', Below B w w' → w'.cell? (ad.add (k * 4)) = some (.string xs[k].name) ∧ w'.cell? ⟨(ad.add (k * 4)).block, (ad.add (k * 4)).off + 1, none⟩ = some (.int .i64 xs[k].stage) ∧
      w'.cell? ⟨(ad.add (k * 4)).block, (ad.add (k * 4)).off + 2, none⟩ = some (.int .i64 xs[k].rows) ∧ w'.cell? ⟨(ad.add (k * 4)).block, (ad.add (k * 4)).off + 3, none⟩ = some (.int .i64 xs[k].worth) := by
  obtain ⟨ad, e, h⟩ := hr.el (fun _ _ => rfl) hk
  refine ⟨ad, e, fun w' hb => ⟨?_, ?_, ?_, ?_⟩⟩
  · have := h w' hb 0 _ (by omega) rfl; rwa [add_zero'] at this
  · exact h w' hb 1 _ (by omega) rfl
  · exact h w' hb 2 _ (by omega) rfl
  · exact h w' hb 3 _ (by omega) rfl
def itB (x : It) : Bool := wordB x.name.data.toList && decide (3 ≤ x.stage ∧ x.stage ≤ 8) && decide (1 ≤ x.rows ∧ x.rows ≤ 800) && decide (0 ≤ x.worth ∧ x.worth ≤ 100)
def szAfter (k n : Int) : Int := if k - n < 0 then -1 else k - n
theorem szAfter_neg {k n : Int} (h : k - n < 0) : -1 = szAfter k n := by rw [szAfter, if_pos h]
theorem szAfter_pos {k n : Int} (h : 0 ≤ k - n) : k - n = szAfter k n := by rw [szAfter, if_neg (by omega)]
def timeB (a b c d : Int) (x : It) : Bool := evB a b c d && itB x && decide (x.stage ≤ a)
def timeN (a b c d : Int) (x : It) : Int := if timeB a b c d x then x.rows * b else 0

theorem evB_bd {a b c d : Int} (h : evB a b c d = true) : 3 ≤ a ∧ a ≤ 8 ∧ 1 ≤ b ∧ b ≤ 100 ∧ 0 ≤ c ∧ c ≤ 20000 ∧ 0 ≤ d ∧ d ≤ 1000 := by simp [evB] at h; omega
theorem itB_bd {x : It} (h : itB x = true) : 3 ≤ x.stage ∧ x.stage ≤ 8 ∧ 1 ≤ x.rows ∧ x.rows ≤ 800 ∧ 0 ≤ x.worth ∧ x.worth ≤ 100 := by simp [itB] at h; omega
theorem mul_bd {a b m n : Int} (h1 : 0 ≤ a) (h2 : a ≤ m) (h3 : 0 ≤ b) (h4 : b ≤ n) : 0 ≤ a * b ∧ a * b ≤ m * n :=
  ⟨Int.mul_nonneg h1 h3, Int.mul_le_mul h2 h4 h3 (by omega)⟩
theorem rows_pace {a b c d : Int} {x : It} (h : evB a b c d = true) (k : itB x = true) : 0 ≤ x.rows * b ∧ x.rows * b ≤ 80000 := by
  obtain ⟨_, _, h1, h2, _⟩ := evB_bd h
  obtain ⟨_, _, k1, k2, _⟩ := itB_bd k
  exact mul_bd (by omega) k2 (by omega) h2
end Go.Proofs.YtimeecimaokldaaGreatDoor

/- Contracts: slices of items and of numbers; the total time of a choice. -/
namespace Go.Proofs.YtimeecimaokldaaGreatDoor
open Go Go.RowKit
set_option linter.unusedVariables false
set_option linter.unusedSimpArgs false

theorem szAfter_le {k : Int} {m : Nat} (h : k ≤ 1048576) : szAfter k m ≤ 1048576 := by unfold szAfter; split <;> omega
end Go.Proofs.YtimeecimaokldaaGreatDoor

/- A region that draws its order, walked once in the order of the text, its calls leaving all that lay below a base world as it was. -/
namespace Go.Proofs.YtimeecimaokldaaGreatDoor
open Go Go.RowKit
set_option linter.unusedVariables false
set_option linter.unusedSimpArgs false

/-- A world in which all that lay in wb's heap is as it was. -/
structure Aft (wb : World) where
  w : World
  h : Below wb.heap.size wb w
instance (wb : World) : Nonempty (Aft wb) := ⟨⟨wb, Below.refl _ _⟩⟩
theorem wp_region_aft {P : Program} {wb : World} {id : Nat} {Q : Exit → Act → World → Prop} {a : Act} {w : World} {l : List Oper} (hm : P.follows .mixedOrders = true) (hB : Region.lexB .any l.toArray = true) (hw : Below wb.heap.size wb w)
    (h : wpQuiet P l.toArray (fun w' => ∃ x : Aft wb, w' = x.w) (fun a' => ∀ w', (∃ x : Aft wb, w' = x.w) → Q .normal a' w') l a) : (Code.region id l.toArray true).wp P Q a w :=
  wp_region_quiet (C := fun w' => ∃ x : Aft wb, w' = x.w) hm hB ⟨⟨_, hw.drew⟩, rfl⟩ (by simpa using h)
theorem calls_aft {P : Program} {f : FuncId} {args : Array Value} {wb : World} {x : Aft wb} {v : Value} (h : ∀ w, Below wb.heap.size wb w → Calls P f args w fun e w' => e = .returned v ∧ Below w.heap.size w w') :
    Calls P f args x.w fun e w'' => e = .returned v ∧ ∃ y : Aft wb, w'' = y.w :=
  (h x.w x.h).mono fun e w' ⟨he, hb⟩ => ⟨he, ⟨w', bw_to x.h hb⟩, rfl⟩
theorem calls_aft_same {P : Program} {f : FuncId} {args : Array Value} {wb : World} {x : Aft wb} {v : Value} (h : ∀ w, Below wb.heap.size wb w → Calls P f args w fun e w' => e = .returned v ∧ w = w') :
    Calls P f args x.w fun e w'' => e = .returned v ∧ ∃ y : Aft wb, w'' = y.w :=
  (h x.w x.h).mono fun e w' ⟨he, hb⟩ => ⟨he, x, hb.symm⟩
theorem one_mem {u : Value} (h : u.oneCell' = true) : ∀ x ∈ [u], x.oneCell' = true := by
  intro x hx; rw [List.mem_singleton] at hx; subst hx; exact h
theorem own_base {w : World} {base base' : Nat} {e : TypeId} {size : Nat} {v : Value} {n : Nat} {xs : List Value} (h : w.ownsRow base e size v n xs) (hb : base' ≤ base) : w.ownsRow base' e size v n xs := by
  obtain ⟨h1, h2⟩ := h
  refine ⟨h1, ?_⟩
  rcases h2 with h2 | ⟨g, cap, cur, hv, hg, r⟩
  · exact .inl h2
  · exact .inr ⟨g, cap, cur, hv, Nat.le_trans hb hg, r⟩
theorem own_of_heap {w : World} {base g n : Nat} {e : TypeId} {size : Nat} {cs : Array Value} (h : w.heap[g]? = some (.cells cs e (0, 0))) (hb : base ≤ g) (hm : n ≤ maxLen) (hs : cs.size = n * size) :
    w.ownsRow base e size (.slice (some ⟨g, 0, none⟩) n n) n cs.toList :=
  ⟨by simpa using hs, .inr ⟨g, n, cs, rfl, hb, h, Nat.le_refl _, hm, hs, List.take_of_length_le (by rw [Array.length_toList, hs]; exact Nat.le_refl _)⟩⟩
/-- A block that was laid just ahead of an append into another row is still there behind it. -/
theorem grown_new {w w2 : World} {o : Obj} {base : Nat} {e : TypeId} {size : Nat} {v : Value} {n : Nat} {xs : List Value} (hown : w.ownsRow base e size v n xs) (hg : (w.alloc o).grownBy w2 v.ownBlock) : w2.heap[w.heap.size]? = some o :=
  (hg.block w.heap.size (by simp) (fun h => by have := (hown.lt _ h.symm).2; omega)).trans (heap_new w o)
theorem heap_cell {w : World} {g : Nat} {cs : Array Value} {t : TypeId} (h : w.heap[g]? = some (.cells cs t (0, 0))) (i : Nat) : w.cell? ⟨g, i, none⟩ = cs[i]? := cell_of_row w g i cs t (0, 0) h
/-- wpList_app, the element's block by its number. -/
theorem wpList_app_at {P : Program} (w : World) {ops : Array Oper} {rest : List Oper} {o : Oper} {a : Act} {Q : Exit → Act → World → Prop} (hgd : o.guard = none) (s x : Operand) (t : TypeId)
    (ho : o.op = .call { callee := .builtin .append, args := #[s, x], argTypes := #[t, t] })
    (base : Nat) (e : TypeId) (z : Value) (size bytes : Nat) (ht : P.underlying t = some (.slice e)) (hinfo : (P.info? e).map (fun i => (i.zero, i.size, i.bytes)) = some (some z, size, bytes))
    (hzs : z.cells.size = size) (hsz : 0 < size) {v : Value} {n : Nat} {xs : List Value} (hown : w.ownsRow base e size v n xs) (news : List Value) (hl : news.length = size) (hs : a.eval s = v)
    {g : Nat} (hx : a.eval x = .slice (some ⟨g, 0, none⟩) 1 1) (hg : g = w.heap.size) (h1 : ∀ u ∈ news, u.oneCell' = true) (hby : bytes ≤ 1024) (hn : n ≤ 100000000) (hbase : base ≤ w.heap.size)
    (h : ∀ v' w', w'.ownsRow base e size v' (n + 1) (xs ++ news) → Below base w w' → w.grownBy w' v.ownBlock → (v'.ownBlock = v.ownBlock ∨ ∀ g, v'.ownBlock = some g → w.heap.size ≤ g) → wpList P ops Q rest (a.put o.dst v') w') :
    wpList P ops Q (o :: rest) a (w.alloc (.cells news.toArray e)) := by
  subst hg
  exact wpList_app w hgd s x t ho base e z size bytes ht hinfo hzs hsz hown news hl hs hx h1 hby hn hbase h
end Go.Proofs.YtimeecimaokldaaGreatDoor
