/- Plain: what a record is judged at. -/
import Derived.Test.YtimeecimaokldaaEN
namespace Go.Proofs.Ytimeecimaokldaa
open Go Go.RowKit
set_option linter.unusedVariables false
set_option linter.unusedSimpArgs false

structure Jd where
  m : Int
  e : Int
  f : Int
  w : Int
  p : Int
def Jd.v (d : Jd) : Value := .agg #[.int .i64 d.m, .int .i64 d.e, .int .i64 d.f, .int .i64 d.w]
def jdOne (a c : List Int) (s bell : Int) (d : Jd) : Jd :=
  ⟨d.m + missN (matL s a c 0), d.e + (c.length - (a.length - missN (matL s a c 0))), d.f + farL c a (matL s a c 0), if d.p < prL s a c then bell else d.w, if d.p < prL s a c then prL s a c else d.p⟩
def jd (A C : Int → List Int) (s : Int) : Nat → Jd
  | 0 => ⟨0, 0, 0, 0, -1⟩
  | k + 1 => jdOne (A ((k : Int) + 1)) (C ((k : Int) + 1)) s ((k : Int) + 1) (jd A C s k)
theorem far_nonneg (c : List Int) : ∀ (a l : List Int), 0 ≤ farL c a l
  | [], l => by rw [farL]; · exact Int.le_refl _
                · intro x y z w h; cases h
  | x :: a, [] => by rw [farL]; · exact Int.le_refl _
                     · intro x y z w _ h; cases h
  | x :: a, o :: l => by
    have ih := far_nonneg c a l
    rw [farL]
    split <;> omega
theorem far_take (c : List Int) : ∀ (a l : List Int) (i : Nat) (ha : i < a.length) (hl : i < l.length), farL c (a.take (i + 1)) (l.take (i + 1)) = farL c (a.take i) (l.take i) + (if l[i] < 0 then 0 else ((a[i] - c.getD (l[i]).toNat 0).natAbs : Int))
  | x :: a, o :: l, 0, ha, hl => by simp [farL]
  | x :: a, o :: l, i + 1, ha, hl => by
    have ih := far_take c a l i (by simpa using ha) (by simpa using hl)
    simp only [List.take_succ_cons, List.getElem_cons_succ, farL] at ih ⊢
    rw [ih]
    omega
/-- What the price of a matching is made of. -/
theorem cost0 (s : Int) (a c : List Int) : prL s a c + s * ((a.length : Int) - missN (matL s a c 0)) = s * (missN (matL s a c 0) : Int) + s * (c.length : Int) + farL c a (matL s a c 0) :=
  mat_cost s c a c 0 rfl (Nat.zero_le _)
theorem far_is (s : Int) (a c : List Int) : prL s a c - s * ((missN (matL s a c 0) : Int) + ((c.length : Int) - ((a.length : Int) - missN (matL s a c 0)))) = farL c a (matL s a c 0) := by
  have h := cost0 s a c
  have e1 : s * ((missN (matL s a c 0) : Int) + ((c.length : Int) - ((a.length : Int) - missN (matL s a c 0)))) = s * (missN (matL s a c 0) : Int) + s * (c.length : Int) - s * ((a.length : Int) - missN (matL s a c 0)) := by
    rw [Int.mul_add, Int.mul_sub]
    omega
  omega
theorem one_rng {s : Int} {a c : List Int} (hg : GoodM a c s) : (a.length ≤ 60 ∧ c.length ≤ 60 ∧ missN (matL s a c 0) ≤ a.length) ∧ (0 ≤ farL c a (matL s a c 0) ∧ farL c a (matL s a c 0) ≤ 1800000) ∧ 0 ≤ prL s a c ∧ prL s a c ≤ 1200000 := by
  have ha := hg.1.1
  have hc := hg.2.1.1
  have hs := hg.2.2
  have hm := miss_len (matL s a c 0)
  rw [mat_len0] at hm
  have hp := prT_rng (k := s) hs ha hc 0 0
  have hp' : 0 ≤ prL s a c ∧ prL s a c ≤ 1200000 := hp
  have h := cost0 s a c
  have h1 : s * ((a.length : Int) - missN (matL s a c 0)) ≤ 10000 * 60 := Int.le_trans (Int.mul_le_mul_of_nonneg_left (show ((a.length : Int) - missN (matL s a c 0)) ≤ 60 by omega) hs.1) (Int.mul_le_mul_of_nonneg_right hs.2 (by omega))
  have h2 : 0 ≤ s * (missN (matL s a c 0) : Int) := Int.mul_nonneg hs.1 (by omega)
  have h3 : 0 ≤ s * (c.length : Int) := Int.mul_nonneg hs.1 (by omega)
  exact ⟨⟨ha, hc, hm⟩, ⟨far_nonneg _ _ _, by omega⟩, hp'⟩
theorem jd_rng {A C : Int → List Int} {s : Int} : ∀ (k : Nat), (∀ i : Nat, i < k → GoodM (A ((i : Int) + 1)) (C ((i : Int) + 1)) s) →
    (0 ≤ (jd A C s k).m ∧ (jd A C s k).m ≤ 60 * k) ∧ (-60 * (k : Int) ≤ (jd A C s k).e ∧ (jd A C s k).e ≤ 60 * k) ∧ (0 ≤ (jd A C s k).f ∧ (jd A C s k).f ≤ 1800000 * k) ∧ -1 ≤ (jd A C s k).p ∧ (jd A C s k).p ≤ 1200000
  | 0, _ => by simp [jd]
  | k + 1, h => by
    obtain ⟨h1, h2, h3, h4⟩ := jd_rng k (fun i hi => h i (by omega))
    obtain ⟨g1, g2, g3⟩ := one_rng (h k (by omega))
    rw [jd]
    unfold jdOne
    simp only
    refine ⟨by omega, by omega, by omega, ?_⟩
    split <;> omega
def JOk (b : Bt) (l : List ByteArray) (st : List (Int × Int)) (s : Int) : Prop := GoodRs l ∧ ∃ r, l[0]? = some r ∧ ∀ k : Nat, k < r.size → GoodJ b l st ((k : Int) + 1) s
def jdOf (b : Bt) (l : List ByteArray) (st : List (Int × Int)) (s : Int) (k : Nat) : Jd := jd (ofL (idL b 0 l)) (ofL st) s k
/-- What JudgeRecord answers. -/
def JdPost (w : World) (b : Bt) (l : List ByteArray) (st : List (Int × Int)) (s : Int) (e : Ending) (w' : World) : Prop :=
  ((JOk b l st s ∧ ∃ r, l[0]? = some r ∧ e = .returned (.tuple #[(jdOf b l st s r.size).v, .bool true])) ∨ (¬ JOk b l st s ∧ e = .returned (.tuple #[.agg #[.int .i64 0, .int .i64 0, .int .i64 0, .int .i64 0], .bool false]))) ∧ Below w.heap.size w w'
end Go.Proofs.Ytimeecimaokldaa
