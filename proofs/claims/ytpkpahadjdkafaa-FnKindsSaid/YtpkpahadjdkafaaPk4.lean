/- A law's arguments opened: bytes. -/
import Derived.Test.YtpkpahadjdkafaaPk2
import Derived.Test.YtpkpahadjdkafaaPk3
import Derived.Test.YtpkpahadjdkafaaPk1
namespace Go.Proofs.Ytpkpahadjdkafaa
open Go Go.RowKit Go.WideShapes Go.ChangeShapes Go.ChangeAt Go.Joins Go.Deep
set_option linter.unusedVariables false
set_option linter.unusedSimpArgs false
set_option maxRecDepth 100000
section
variable {H : Type} {enc : TypeId × Value → H} {w : World} {base : Nat} {spare : Nat → Bool} {held : Bool}
theorem cells_u8 : Try.prog.cellsOf 5 = 1 := by kernel_rfl
theorem u8_bd {n : Int} (h : (Lit.int .u8 n).wf = true) : 0 ≤ n ∧ n ≤ 255 := by
  simpa [Lit.wf, IntKind.min, IntKind.max, IntKind.signed, IntKind.bits] using h
theorem op_Bytes {b0 : Nat} {r : Reach} {v : Value} {d : DataW H} {p : List MemPlace} (hv : Value.okWide Try.prog w r b0 61 v) (h : DataW.Trod enc Try.prog w base spare held 61 v d p) :
    ∃ k : Nat, BytesAt w w.heap.size v := by
  obtain ⟨a, l, c, rfl⟩ := okWide_slice Try.underlying61 hv
  obtain ⟨n, hn⟩ := h
  obtain ⟨v', e, xs, hsl, hg⟩ := rd_slice (C := fun z : Int => [Value.int .u8 z]) (good := fun z => 0 ≤ z ∧ z ≤ 255) Try.underlying61 cells_u8 (by omega)
    (fun n cs y hy => by obtain ⟨z, e, _, wf⟩ := DataW.trod_int Try.underlying5 hy; exact ⟨z, e, u8_bd wf⟩) hn
  simp only [Value.cells, List.cons.injEq, and_true] at e
  subst e
  obtain ⟨A, c', e, h1, h2, hr⟩ := hsl
  refine ⟨0, A, _, c', xs, e, rfl, h1, h2, ?_, hg⟩
  rw [← List.flatMap_singleton' (xs.map _), List.flatMap_map]
  exact hr
end
end Go.Proofs.Ytpkpahadjdkafaa

/- Contracts of small functions on numbers and words. -/
namespace Go.Proofs.Ytpkpahadjdkafaa
open Go Go.RowKit
set_option linter.unusedVariables false
set_option linter.unusedSimpArgs false

def letter (c : UInt8) : Bool := decide (97 ≤ (c.toNat : Int) ∧ (c.toNat : Int) ≤ 122)
def wordB (l : List UInt8) : Bool := l.all letter && decide (1 ≤ l.length ∧ l.length ≤ 10)

theorem within_any (n a b : Int) (w : World) : Calls Try.prog 39 #[.int .i64 n, .int .i64 a, .int .i64 b] w fun e w' => e = .returned (.bool (decide (a ≤ n ∧ n ≤ b))) ∧ w = w' := by
  by_cases h1 : a ≤ n
  · by_cases h2 : n ≤ b
    all_goals
      go_enter Try.func39, Try.ntmps39
      go_wp2
      go_ret
      exact ⟨ret_bool (by simp [*]), rfl⟩
  · go_enter Try.func39, Try.ntmps39
    go_wp2
    go_ret
    exact ⟨ret_bool (by simp; omega), rfl⟩

theorem letter_no1 {c : UInt8} (h : (c.toNat : Int) < 97) : letter c = false := by unfold letter; simp; omega
theorem letter_no2 {c : UInt8} (h : 122 < (c.toNat : Int)) : letter c = false := by unfold letter; simp; omega
theorem letter_yes {c : UInt8} (h1 : ¬ (c.toNat : Int) < 97) (h2 : (c.toNat : Int) ≤ 122) : letter c = true := by unfold letter; simp; omega
theorem word_no {l : List UInt8} {k : Nat} (hk : k < l.length) (h : letter l[k] = false) : wordB l = false := by unfold wordB; rw [all_false hk h]; rfl
theorem word_end {s : ByteArray} {k : Nat} {b : Bool} (hk : k ≤ s.size) (hn : ¬ k < s.size) (h : (s.data.toList.take k).all letter = true) (hb : b = decide (1 ≤ (s.size : Int) ∧ (s.size : Int) ≤ 10)) : b = wordB s.data.toList := by
  unfold wordB
  rw [all_true (by simp; omega) h, hb, bytes_len]
  simp only [Bool.true_and]
  congr 1
  apply propext
  omega

theorem isWord_any (s : ByteArray) (w : World) (hs : s.size ≤ maxLen) : Calls Try.prog 92 #[.string s] w fun e w' => e = .returned (.bool (wordB s.data.toList)) ∧ w = w' := by
  unfold maxLen at hs
  go_enter Try.func92, Try.ntmps92
  go_wp2
  go_loop [6] (fun i => ∃ k : Nat, k ≤ s.size ∧ i = .int .i64 k ∧ (s.data.toList.take k).all letter = true) (fun i => s.size - (intOf i).toNat)
  case atStart => exact ⟨0, Nat.zero_le _, rfl, by simp⟩
  case round =>
    obtain ⟨k, hk, rfl, ha⟩ := hrel
    have Ha := Lib.hid ha
    clear ha
    by_cases hlt : k < s.size
    · go_wp2
      · go_ret
        exact ⟨ret_bool (word_no (by simpa using hlt) (letter_no1 (by assumption))).symm, rfl⟩
      · go_ret
        exact ⟨ret_bool (word_no (by simpa using hlt) (letter_no2 (by assumption))).symm, rfl⟩
      · exact ⟨⟨k + 1, by omega, by go_num, all_step (by simpa using hlt) Ha.out (letter_yes (by assumption) (by assumption))⟩, by simp [intOf]; omega⟩
    · go_wp2
      all_goals
        go_ret
        exact ⟨ret_bool (word_end hk hlt Ha.out (by simp; omega)), rfl⟩
theorem l1In_any (n a b : Int) (w : World) : Calls Try.prog 37 #[.int .i64 n, .int .i64 a, .int .i64 b] w fun e w' => e = .returned (.bool (decide (a ≤ n ∧ n ≤ b))) ∧ w = w' := by
  by_cases h1 : a ≤ n
  · by_cases h2 : n ≤ b
    all_goals
      go_enter Try.func37, Try.ntmps37
      go_wp2
      go_ret
      exact ⟨ret_bool (by simp [*]), rfl⟩
  · go_enter Try.func37, Try.ntmps37
    go_wp2
    go_ret
    exact ⟨ret_bool (by simp; omega), rfl⟩
theorem isStage_any (n : Int) (w : World) : Calls Try.prog 143 #[.int .i64 n] w fun e w' => e = .returned (.bool (decide (3 ≤ n ∧ n ≤ 8))) ∧ w = w' := by
  by_cases h1 : 3 ≤ n
  · by_cases h2 : n ≤ 8
    all_goals
      go_enter Try.func143, Try.ntmps143
      go_wp2
      go_ret
      exact ⟨ret_bool (by simp [*]), rfl⟩
  · go_enter Try.func143, Try.ntmps143
    go_wp2
    go_ret
    exact ⟨ret_bool (by simp; omega), rfl⟩
theorem l4Name_any (s : ByteArray) (w : World) (hs : s.size ≤ maxLen) : Calls Try.prog 89 #[.string s] w fun e w' => e = .returned (.bool (wordB s.data.toList)) ∧ w = w' := by
  unfold maxLen at hs
  go_enter Try.func89, Try.ntmps89
  go_wp2
  go_loop [3] (fun i => ∃ k : Nat, k ≤ s.size ∧ i = .int .i64 k ∧ (s.data.toList.take k).all letter = true) (fun i => s.size - (intOf i).toNat)
  case atStart => exact ⟨0, Nat.zero_le _, rfl, by simp⟩
  case round =>
    obtain ⟨k, hk, rfl, ha⟩ := hrel
    have Ha := Lib.hid ha
    clear ha
    by_cases hlt : k < s.size
    · go_wp2
      · go_ret
        exact ⟨ret_bool (word_no (by simpa using hlt) (letter_no1 (by assumption))).symm, rfl⟩
      · go_ret
        exact ⟨ret_bool (word_no (by simpa using hlt) (letter_no2 (by assumption))).symm, rfl⟩
      · exact ⟨⟨k + 1, by omega, by go_num, all_step (by simpa using hlt) Ha.out (letter_yes (by assumption) (by assumption))⟩, by simp [intOf]; omega⟩
    · go_wp2_with (go_at_call 37; refine (l1In_any _ _ _ _).mono ?_; rintro e w' ⟨rfl, rfl⟩)
      go_ret
      exact ⟨ret_bool (word_end hk hlt Ha.out (by simp)), rfl⟩
end Go.Proofs.Ytpkpahadjdkafaa

/- Contracts: evenings and items. -/
namespace Go.Proofs.Ytpkpahadjdkafaa
open Go Go.RowKit
set_option linter.unusedVariables false
set_option linter.unusedSimpArgs false

def evB (a b c d : Int) : Bool := decide (3 ≤ a ∧ a ≤ 8) && decide (1 ≤ b ∧ b ≤ 100) && decide (0 ≤ c ∧ c ≤ 20000) && decide (0 ≤ d ∧ d ≤ 1000)

end Go.Proofs.Ytpkpahadjdkafaa

/- Contracts: items, and the time of one. -/
namespace Go.Proofs.Ytpkpahadjdkafaa
open Go Go.RowKit
set_option linter.unusedVariables false
set_option linter.unusedSimpArgs false

structure It where
  name : ByteArray
  stage : Int
  rows : Int
  worth : Int
def It.cells (x : It) : List Value := [.string x.name, .int .i64 x.stage, .int .i64 x.rows, .int .i64 x.worth]
def Items (w : World) (v : Value) (xs : List It) : Prop := Sl w 4 v xs.length (xs.flatMap It.cells) ∧ ∀ x ∈ xs, x.name.size ≤ maxLen
theorem Items.to {w w' : World} {v : Value} {xs : List It} (h : Items w v xs) (hb : Below w.heap.size w w') : Items w' v xs := ⟨h.1.to hb, h.2⟩
theorem items_el {w : World} {B : Nat} {A : Option Addr} {xs : List It} (hr : Reads w B 4 A xs.length (xs.flatMap It.cells)) {k : Nat} (hk : k < xs.length) :
    ∃ ad, A = some ad ∧ ∀ w', Below B w w' → w'.cell? (ad.add (k * 4)) = some (.string xs[k].name) ∧ w'.cell? ⟨(ad.add (k * 4)).block, (ad.add (k * 4)).off + 1, none⟩ = some (.int .i64 xs[k].stage) ∧
      w'.cell? ⟨(ad.add (k * 4)).block, (ad.add (k * 4)).off + 2, none⟩ = some (.int .i64 xs[k].rows) ∧ w'.cell? ⟨(ad.add (k * 4)).block, (ad.add (k * 4)).off + 3, none⟩ = some (.int .i64 xs[k].worth) := by
  obtain ⟨ad, e, h⟩ := hr.el (fun _ _ => rfl) hk
  refine ⟨ad, e, fun w' hb => ⟨?_, ?_, ?_, ?_⟩⟩
  · have := h w' hb 0 _ (by omega) rfl; rwa [add_zero'] at this
  · exact h w' hb 1 _ (by omega) rfl
  · exact h w' hb 2 _ (by omega) rfl
  · exact h w' hb 3 _ (by omega) rfl
def itB (x : It) : Bool := wordB x.name.data.toList && decide (3 ≤ x.stage ∧ x.stage ≤ 8) && decide (1 ≤ x.rows ∧ x.rows ≤ 800) && decide (0 ≤ x.worth ∧ x.worth ≤ 100)
def szAfter (k n : Int) : Int := if k - n < 0 then -1 else k - n
theorem szAfter_neg {k n : Int} (h : k - n < 0) : -1 = szAfter k n := by rw [szAfter, if_pos h]
theorem szAfter_pos {k n : Int} (h : 0 ≤ k - n) : k - n = szAfter k n := by rw [szAfter, if_neg (by omega)]
def timeB (a b c d : Int) (x : It) : Bool := evB a b c d && itB x && decide (x.stage ≤ a)
def timeN (a b c d : Int) (x : It) : Int := if timeB a b c d x then x.rows * b else 0

theorem evB_bd {a b c d : Int} (h : evB a b c d = true) : 3 ≤ a ∧ a ≤ 8 ∧ 1 ≤ b ∧ b ≤ 100 ∧ 0 ≤ c ∧ c ≤ 20000 ∧ 0 ≤ d ∧ d ≤ 1000 := by simp [evB] at h; omega
theorem itB_bd {x : It} (h : itB x = true) : 3 ≤ x.stage ∧ x.stage ≤ 8 ∧ 1 ≤ x.rows ∧ x.rows ≤ 800 ∧ 0 ≤ x.worth ∧ x.worth ≤ 100 := by simp [itB] at h; omega
theorem mul_bd {a b m n : Int} (h1 : 0 ≤ a) (h2 : a ≤ m) (h3 : 0 ≤ b) (h4 : b ≤ n) : 0 ≤ a * b ∧ a * b ≤ m * n :=
  ⟨Int.mul_nonneg h1 h3, Int.mul_le_mul h2 h4 h3 (by omega)⟩
theorem rows_pace {a b c d : Int} {x : It} (h : evB a b c d = true) (k : itB x = true) : 0 ≤ x.rows * b ∧ x.rows * b ≤ 80000 := by
  obtain ⟨_, _, h1, h2, _⟩ := evB_bd h
  obtain ⟨_, _, k1, k2, _⟩ := itB_bd k
  exact mul_bd (by omega) k2 (by omega) h2
end Go.Proofs.Ytpkpahadjdkafaa

/- Contracts: slices of items and of numbers; the total time of a choice. -/
namespace Go.Proofs.Ytpkpahadjdkafaa
open Go Go.RowKit
set_option linter.unusedVariables false
set_option linter.unusedSimpArgs false

theorem szAfter_le {k : Int} {m : Nat} (h : k ≤ 1048576) : szAfter k m ≤ 1048576 := by unfold szAfter; split <;> omega
theorem eqItem_same (x : It) (w : World) : Calls Try.prog 13 #[.agg #[.string x.name, .int .i64 x.stage, .int .i64 x.rows, .int .i64 x.worth], .agg #[.string x.name, .int .i64 x.stage, .int .i64 x.rows, .int .i64 x.worth]] w fun e w' =>
    e = .returned (.bool true) ∧ Below w.heap.size w w' := by
  go_enter Try.func13, Try.ntmps13
  go_wp2
  go_ret
  exact ⟨rfl, bw_al (bw_al (Below.refl _ _) _) _⟩
end Go.Proofs.Ytpkpahadjdkafaa
