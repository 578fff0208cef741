/- Plain account of the alignment of ideal and struck times. -/
import Derived.Test.YtimeecimaokldaaGreatDoorPk1
namespace Go.Proofs.YtimeecimaokldaaGreatDoor
open Go Go.RowKit
set_option linter.unusedVariables false
set_option linter.unusedSimpArgs false

/-- The least price of aligning a with b. -/
def prL (k : Int) : List Int → List Int → Int
  | [], b => k * b.length
  | _ :: a, [] => k * (a.length + 1)
  | x :: a, y :: b => min (min (k + prL k a (y :: b)) (k + prL k (x :: a) b)) ((x - y).natAbs + prL k a b)
termination_by a b => a.length + b.length
theorem pr_nil (k : Int) (b : List Int) : prL k [] b = k * b.length := by rw [prL]
theorem pr_end (k : Int) (a : List Int) : prL k a [] = k * a.length := by
  cases a with
  | nil => rw [prL]
  | cons x a => rw [prL]; simp
theorem pr_step (k x y : Int) (a b : List Int) : prL k (x :: a) (y :: b) = min (min (k + prL k a (y :: b)) (k + prL k (x :: a) b)) ((x - y).natAbs + prL k a b) := by rw [prL]
theorem pr_le_one (k x : Int) (a b : List Int) : prL k (x :: a) b ≤ k + prL k a b := by
  cases b with
  | nil => rw [pr_end, pr_end]; simp; rw [Int.mul_add]; omega
  | cons y b => rw [pr_step]; omega
theorem pr_le_two (k y : Int) (a b : List Int) : prL k a (y :: b) ≤ k + prL k a b := by
  cases a with
  | nil => rw [pr_nil, pr_nil]; simp; rw [Int.mul_add]; omega
  | cons x a => rw [pr_step]; omega
theorem pr_nonneg {k : Int} (hk : 0 ≤ k) : ∀ (a b : List Int), 0 ≤ prL k a b
  | [], b => by rw [pr_nil]; exact Int.mul_nonneg hk (by omega)
  | x :: a, [] => by rw [pr_end]; exact Int.mul_nonneg hk (by omega)
  | x :: a, y :: b => by
    have h1 := pr_nonneg hk a (y :: b)
    have h2 := pr_nonneg hk (x :: a) b
    have h3 := pr_nonneg hk a b
    rw [pr_step]; omega
termination_by a b => a.length + b.length
theorem pr_most {k : Int} (hk : 0 ≤ k) : ∀ (a b : List Int), prL k a b ≤ k * (a.length + b.length)
  | [], b => by rw [pr_nil]; simp
  | x :: a, b => by
    have h1 := pr_le_one k x a b
    have h2 := pr_most hk a b
    have e : k * (((x :: a).length : Int) + b.length) = k + k * (a.length + b.length) := by simp [Int.mul_add]; omega
    rw [e]; omega
/-- The first place at which the next time can be struck. -/
def atB (k x : Int) (a b : List Int) (n : Nat) : Bool := decide (k * n + (x - b.getD n 0).natAbs + prL k a (b.drop (n + 1)) = prL k (x :: a) b)
def fstJ (k x : Int) (a b : List Int) : Option Nat := (List.range b.length).find? (atB k x a b)
theorem pr_ex (k x : Int) (a : List Int) : ∀ b : List Int, k + prL k a b = prL k (x :: a) b ∨ ∃ n, n < b.length ∧ atB k x a b n = true
  | [] => .inl (by rw [pr_end, pr_end]; simp; rw [Int.mul_add]; omega)
  | y :: b => by
    have e := pr_step k x y a b
    by_cases h1 : k + prL k a (y :: b) = prL k (x :: a) (y :: b)
    · exact .inl h1
    · by_cases h2 : ((x - y).natAbs : Int) + prL k a b = prL k (x :: a) (y :: b)
      · exact .inr ⟨0, by simp, by unfold atB; simp; exact h2⟩
      · have h3 : prL k (x :: a) (y :: b) = k + prL k (x :: a) b := by omega
        rcases pr_ex k x a b with h | ⟨n, hn, h⟩
        · exfalso
          have := pr_le_two k y a b
          have := pr_le_one k x a (y :: b)
          omega
        · refine .inr ⟨n + 1, by simp; omega, ?_⟩
          unfold atB at h ⊢
          simp at h ⊢
          rw [h3, ← h, Int.mul_add]; omega
theorem fst_some {k x : Int} {a b : List Int} (h : ¬ k + prL k a b = prL k (x :: a) b) : ∃ n, fstJ k x a b = some n ∧ n < b.length ∧ atB k x a b n = true ∧ ∀ m, m < n → atB k x a b m = false := by
  rcases pr_ex k x a b with h' | ⟨n, hn, h'⟩
  · exact absurd h' h
  · cases hf : fstJ k x a b with
    | none =>
      unfold fstJ at hf
      rw [List.find?_eq_none] at hf
      exact absurd h' (hf n (by simpa using hn))
    | some m =>
      unfold fstJ at hf
      have h1 := List.mem_of_find?_eq_some hf
      refine ⟨m, rfl, by simpa using h1, List.find?_some hf, ?_⟩
      intro i hi
      rw [List.find?_range_eq_some] at hf
      have := hf.2.2 i hi
      simpa using this
/-- The match: behind j times that are past. -/
def matL (k : Int) : List Int → List Int → Nat → List Int
  | [], _, _ => []
  | x :: a, b, j => if k + prL k a b = prL k (x :: a) b then -1 :: matL k a b j else match fstJ k x a b with
    | some n => ((j + n : Nat) : Int) :: matL k a (b.drop (n + 1)) (j + n + 1)
    | none => []
theorem mat_skip {k x : Int} {a b : List Int} {j : Nat} (h : k + prL k a b = prL k (x :: a) b) : matL k (x :: a) b j = -1 :: matL k a b j := by rw [matL, if_pos h]
theorem mat_hit {k x : Int} {a b : List Int} {j n : Nat} (h : ¬ k + prL k a b = prL k (x :: a) b) (hf : fstJ k x a b = some n) : matL k (x :: a) b j = ((j + n : Nat) : Int) :: matL k a (b.drop (n + 1)) (j + n + 1) := by
  rw [matL, if_neg h, hf]
theorem mat_len (k : Int) : ∀ (a b : List Int) (j : Nat), (matL k a b j).length = a.length
  | [], b, j => by rw [matL]
  | x :: a, b, j => by
    by_cases h : k + prL k a b = prL k (x :: a) b
    · rw [mat_skip h]; simp [mat_len k a]
    · obtain ⟨n, hf, _⟩ := fst_some h
      rw [mat_hit h hf]; simp [mat_len k a]
theorem mat_rng (k : Int) : ∀ (a b : List Int) (j : Nat), ∀ o ∈ matL k a b j, o = -1 ∨ ((j : Int) ≤ o ∧ o < j + b.length)
  | [], b, j, o, ho => by rw [matL] at ho; cases ho
  | x :: a, b, j, o, ho => by
    by_cases h : k + prL k a b = prL k (x :: a) b
    · rw [mat_skip h] at ho
      rcases List.mem_cons.1 ho with rfl | ho
      · exact .inl rfl
      · exact mat_rng k a b j o ho
    · obtain ⟨n, hf, hn, _⟩ := fst_some h
      rw [mat_hit h hf] at ho
      rcases List.mem_cons.1 ho with rfl | ho
      · exact .inr (by omega)
      · rcases mat_rng k a _ _ o ho with h | h
        · exact .inl h
        · rw [List.length_drop] at h
          exact .inr (by omega)
def missN (l : List Int) : Nat := (l.filter fun o => decide (o < 0)).length
def farL (b : List Int) : List Int → List Int → Int
  | x :: a, o :: l => (if o < 0 then 0 else ((x - b.getD o.toNat 0).natAbs : Int)) + farL b a l
  | _, _ => 0
theorem miss_cons (o : Int) (l : List Int) : missN (o :: l) = (if o < 0 then 1 else 0) + missN l := by
  unfold missN
  by_cases h : o < 0
  · simp [h]; omega
  · simp [h]
theorem miss_le (l : List Int) : missN l ≤ l.length := List.length_filter_le _ _
/-- What the match costs. -/
theorem mat_cost (k : Int) (B : List Int) : ∀ (a b : List Int) (j : Nat), b = B.drop j → j ≤ B.length → prL k a b + k * (a.length - missN (matL k a b j)) = k * missN (matL k a b j) + k * b.length + farL B a (matL k a b j)
  | [], b, j, hb, hj => by rw [matL, pr_nil]; simp [missN, farL]
  | x :: a, b, j, hb, hj => by
    by_cases h : k + prL k a b = prL k (x :: a) b
    · have ih := mat_cost k B a b j hb hj
      rw [mat_skip h, ← h, miss_cons, farL]
      have hm := miss_le (matL k a b j)
      rw [mat_len] at hm
      simp only [show ((-1 : Int) < 0) from by omega, if_true]
      rw [show (((x :: a).length : Int) - ((1 + missN (matL k a b j) : Nat) : Int)) = (a.length : Int) - missN (matL k a b j) by simp; omega]
      rw [show (((1 + missN (matL k a b j) : Nat) : Int)) = 1 + (missN (matL k a b j) : Int) by omega, Int.mul_add]
      omega
    · obtain ⟨n, hf, hn, ha, _⟩ := fst_some h
      have hd : b.drop (n + 1) = B.drop (j + n + 1) := by rw [hb, List.drop_drop]; congr 1
      have hl : b.length = B.length - j := by rw [hb, List.length_drop]
      have ih := mat_cost k B a (b.drop (n + 1)) (j + n + 1) hd (by omega)
      have hg : B.getD (((j + n : Nat) : Int)).toNat 0 = b.getD n 0 := by
        rw [hb, show (((j + n : Nat) : Int)).toNat = j + n by omega, List.getD_eq_getElem?_getD, List.getD_eq_getElem?_getD, List.getElem?_drop]
      rw [mat_hit h hf, miss_cons, farL, hg]
      unfold atB at ha
      rw [decide_eq_true_eq] at ha
      rw [← ha]
      have hz : ¬ (((j + n : Nat) : Int) < 0) := by omega
      simp only [hz, if_false]
      rw [Nat.zero_add]
      have hm := miss_le (matL k a (b.drop (n + 1)) (j + n + 1))
      rw [mat_len] at hm
      rw [List.length_drop] at ih
      have e1 : (((x :: a).length : Int) - (missN (matL k a (b.drop (n + 1)) (j + n + 1)) : Int)) = 1 + ((a.length : Int) - missN (matL k a (b.drop (n + 1)) (j + n + 1))) := by simp; omega
      rw [e1, Int.mul_add]
      have e2 : k * (b.length : Int) = k * n + k * 1 + k * ((b.length - (n + 1) : Nat) : Int) := by
        rw [← Int.mul_add, ← Int.mul_add]; congr 1; omega
      rw [e2]
      omega
end Go.Proofs.YtimeecimaokldaaGreatDoor
