/- Contracts: items, and the time of one. -/
import Derived.Test.YtimeecimaokldaaB1
namespace Go.Proofs.Ytimeecimaokldaa
open Go Go.RowKit
set_option linter.unusedVariables false
set_option linter.unusedSimpArgs false

structure It where
  name : ByteArray
  stage : Int
  rows : Int
  worth : Int
def It.cells (x : It) : List Value := [.string x.name, .int .i64 x.stage, .int .i64 x.rows, .int .i64 x.worth]
def Items (w : World) (v : Value) (xs : List It) : Prop := Sl w 4 v xs.length (xs.flatMap It.cells) ∧ ∀ x ∈ xs, x.name.size ≤ maxLen
theorem Items.to {w w' : World} {v : Value} {xs : List It} (h : Items w v xs) (hb : Below w.heap.size w w') : Items w' v xs := ⟨h.1.to hb, h.2⟩
theorem items_el {w : World} {B : Nat} {A : Option Addr} {xs : List It} (hr : Reads w B 4 A xs.length (xs.flatMap It.cells)) {k : Nat} (hk : k < xs.length) :
    ∃ ad, A = some ad ∧ ∀ w', Below B w w' → w'.cell? (ad.add (k * 4)) = some (.string xs[k].name) ∧ w'.cell? ⟨(ad.add (k * 4)).block, (ad.add (k * 4)).off + 1, none⟩ = some (.int .i64 xs[k].stage) ∧
      w'.cell? ⟨(ad.add (k * 4)).block, (ad.add (k * 4)).off + 2, none⟩ = some (.int .i64 xs[k].rows) ∧ w'.cell? ⟨(ad.add (k * 4)).block, (ad.add (k * 4)).off + 3, none⟩ = some (.int .i64 xs[k].worth) := by
  obtain ⟨ad, e, h⟩ := hr.el (fun _ _ => rfl) hk
  refine ⟨ad, e, fun w' hb => ⟨?_, ?_, ?_, ?_⟩⟩
  · have := h w' hb 0 _ (by omega) rfl; rwa [add_zero'] at this
  · exact h w' hb 1 _ (by omega) rfl
  · exact h w' hb 2 _ (by omega) rfl
  · exact h w' hb 3 _ (by omega) rfl
def itB (x : It) : Bool := wordB x.name.data.toList && decide (3 ≤ x.stage ∧ x.stage ≤ 8) && decide (1 ≤ x.rows ∧ x.rows ≤ 800) && decide (0 ≤ x.worth ∧ x.worth ≤ 100)
def szAfter (k n : Int) : Int := if k - n < 0 then -1 else k - n
theorem szAfter_neg {k n : Int} (h : k - n < 0) : -1 = szAfter k n := by rw [szAfter, if_pos h]
theorem szAfter_pos {k n : Int} (h : 0 ≤ k - n) : k - n = szAfter k n := by rw [szAfter, if_neg (by omega)]
def timeB (a b c d : Int) (x : It) : Bool := evB a b c d && itB x && decide (x.stage ≤ a)
def timeN (a b c d : Int) (x : It) : Int := if timeB a b c d x then x.rows * b else 0

theorem evB_bd {a b c d : Int} (h : evB a b c d = true) : 3 ≤ a ∧ a ≤ 8 ∧ 1 ≤ b ∧ b ≤ 100 ∧ 0 ≤ c ∧ c ≤ 20000 ∧ 0 ≤ d ∧ d ≤ 1000 := by simp [evB] at h; omega
theorem itB_bd {x : It} (h : itB x = true) : 3 ≤ x.stage ∧ x.stage ≤ 8 ∧ 1 ≤ x.rows ∧ x.rows ≤ 800 ∧ 0 ≤ x.worth ∧ x.worth ≤ 100 := by simp [itB] at h; omega
theorem mul_bd {a b m n : Int} (h1 : 0 ≤ a) (h2 : a ≤ m) (h3 : 0 ≤ b) (h4 : b ≤ n) : 0 ≤ a * b ∧ a * b ≤ m * n :=
  ⟨Int.mul_nonneg h1 h3, Int.mul_le_mul h2 h4 h3 (by omega)⟩
theorem rows_pace {a b c d : Int} {x : It} (h : evB a b c d = true) (k : itB x = true) : 0 ≤ x.rows * b ∧ x.rows * b ≤ 80000 := by
  obtain ⟨_, _, h1, h2, _⟩ := evB_bd h
  obtain ⟨_, _, k1, k2, _⟩ := itB_bd k
  exact mul_bd (by omega) k2 (by omega) h2
end Go.Proofs.Ytimeecimaokldaa
