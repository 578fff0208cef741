/- Changes: a plain account; the contracts of l2Change, places, arePlaces, GoodChange. -/
import Derived.Test.YtimeecimaokldaaD1
import Derived.Test.YtimeecimaokldaaM2
namespace Go.Proofs.Ytimeecimaokldaa
open Go Go.RowKit
set_option linter.unusedVariables false
set_option linter.unusedSimpArgs false

def place (c : UInt8) : Int := (c.toNat : Int) - 48
def fromB (n : Int) : Int → List UInt8 → Bool
  | last, [] => decide ((n - last) % 2 = 0)
  | last, c :: cs => decide (last + 1 ≤ place c ∧ place c ≤ n) && (!decide ((place c - last) % 2 = 0) && fromB n (place c) cs)
def changeB (n : Int) (l : List UInt8) : Bool :=
  decide (3 ≤ n ∧ n ≤ 8) && (decide (1 ≤ l.length ∧ (l.length : Int) ≤ n - 2) && (if l = [45] then decide (n % 2 = 0) else fromB n 0 l))

theorem fromB_step {n last : Int} {l : List UInt8} {k : Nat} {b : Bool} (hk : k < l.length) (h0 : fromB n last (l.drop k) = b) (h1 : last + 1 ≤ place l[k] ∧ place l[k] ≤ n) (h2 : ¬ (place l[k] - last) % 2 = 0) :
    fromB n (place l[k]) (l.drop (k + 1)) = b := by
  rw [List.drop_eq_getElem_cons hk] at h0
  rw [fromB, decide_eq_true h1, decide_eq_false h2] at h0
  simpa using h0
theorem fromB_no1 {n last : Int} {l : List UInt8} {k : Nat} {b : Bool} (hk : k < l.length) (h0 : fromB n last (l.drop k) = b) (h1 : ¬ (last + 1 ≤ place l[k] ∧ place l[k] ≤ n)) : b = false := by
  rw [List.drop_eq_getElem_cons hk] at h0
  rw [fromB, decide_eq_false h1] at h0
  simpa using h0.symm
theorem fromB_no2 {n last : Int} {l : List UInt8} {k : Nat} {b : Bool} (hk : k < l.length) (h0 : fromB n last (l.drop k) = b) (h2 : (place l[k] - last) % 2 = 0) : b = false := by
  rw [List.drop_eq_getElem_cons hk] at h0
  rw [fromB, decide_eq_true h2] at h0
  simpa using h0.symm
theorem fromB_end {n last : Int} {l : List UInt8} {k : Nat} {b : Bool} (hk : ¬ k < l.length) (h0 : fromB n last (l.drop k) = b) : b = decide ((n - last) % 2 = 0) := by
  rw [List.drop_of_length_le (by omega)] at h0
  exact h0.symm
theorem changeB_no1 {n : Int} {l : List UInt8} (h : ¬ (3 ≤ n ∧ n ≤ 8)) : changeB n l = false := by unfold changeB; rw [decide_eq_false h]; rfl
theorem changeB_no2 {n : Int} {l : List UInt8} (h : ¬ (1 ≤ l.length ∧ (l.length : Int) ≤ n - 2)) : changeB n l = false := by unfold changeB; rw [decide_eq_false h]; simp
theorem changeB_dash {n : Int} {l : List UInt8} (h0 : 3 ≤ n ∧ n ≤ 8) (h : l = [45]) : changeB n l = decide (n % 2 = 0) := by
  unfold changeB; rw [decide_eq_true h0, decide_eq_true (by rw [h]; simp; omega), if_pos h]; rfl
theorem changeB_from {n : Int} {l : List UInt8} (h0 : 3 ≤ n ∧ n ≤ 8) (h1 : 1 ≤ l.length ∧ (l.length : Int) ≤ n - 2) (h : ¬ l = [45]) : changeB n l = fromB n 0 l := by
  unfold changeB; rw [decide_eq_true h0, decide_eq_true h1, if_neg h]; rfl
theorem bytes_toList (s : ByteArray) : s.toList = s.data.toList := ByteArray.toList_eq s
theorem dash_iff (s : ByteArray) : (s.toList == [45]) = decide (s.data.toList = [45]) := by rw [bytes_toList]; by_cases h : s.data.toList = [45] <;> simp [h]
theorem empty_iff (s : ByteArray) : s.toList.isEmpty = decide (s.data.toList.length = 0) := by rw [bytes_toList]; cases h : s.data.toList <;> simp
theorem place_wrap (c : UInt8) : wrap64 (wrap64 (c.toNat : Int) - 48) = place c := by
  have h := c.toNat_lt
  rw [IntWalk.wrap64_in (c.toNat : Int) ⟨by omega, by omega⟩, IntWalk.wrap64_in _ ⟨by omega, by omega⟩]; rfl
theorem place_rng (c : UInt8) : -48 ≤ place c ∧ place c ≤ 207 := by
  have h := c.toNat_lt
  unfold place; omega
theorem place_u8 (c : UInt8) (h : 49 ≤ (c.toNat : Int)) : IntKind.u8.wrap ((c.toNat : Int) - 48) = place c := by
  have h := c.toNat_lt
  rw [IntWalk.u8_in _ ⟨by omega, by omega⟩]; rfl
theorem info_i64 : (Try.prog.info? 3).map (fun i => (i.zero, i.size, i.bytes)) = some (some (.int .i64 0), 1, 8) := by kernel_rfl
theorem info_str : (Try.prog.info? 9).map (fun i => (i.zero, i.size, i.bytes)) = some (some (.string ⟨#[]⟩), 1, 16) := by kernel_rfl
theorem beq_dec (a b : Int) : (a == b) = decide (a = b) := rfl
def isDig (c : UInt8) : Bool := decide (1 ≤ place c ∧ place c ≤ 8)
def digitsB (l : List UInt8) : Bool := l.all isDig
def chainB : Int → List Int → Bool
  | _, [] => true
  | a, b :: l => decide (a < b) && (!decide ((b - a) % 2 = 0) && chainB b l)
def areB (n : Int) (zs : List Int) : Bool :=
  !decide (zs.length = 0) && (!decide ((zs.length : Int) = n) && (!decide (zs.headD 0 % 2 = 0) && (decide (zs.getLastD 0 % 2 = n % 2) && (decide (zs.getLastD 0 ≤ n) && chainB (zs.headD 0) (zs.drop 1)))))
theorem are_of {n : Int} {zs : List Int} (hp : 0 < zs.length) : areB n zs =
    (!decide ((zs.length : Int) = n) && (!decide (zs[0] % 2 = 0) && (decide (zs[zs.length - 1] % 2 = n % 2) && (decide (zs[zs.length - 1] ≤ n) && chainB zs[0] (zs.drop 1))))) := by
  have hz0 : zs[0] = zs.headD 0 := by cases zs <;> simp at hp ⊢
  have hz1 : zs[zs.length - 1] = zs.getLastD 0 := by rw [List.getLastD_eq_getLast?, List.getLast?_eq_getElem?, List.getElem?_eq_getElem (by omega)]; rfl
  rw [hz0, hz1, areB, decide_eq_false (show ¬ zs.length = 0 by omega)]
  rfl
theorem chain_step {a : Int} {l : List Int} {k : Nat} {b : Bool} (hk : k < l.length) (h0 : chainB a (l.drop k) = b) (h1 : a < l[k]) (h2 : ¬ (l[k] - a) % 2 = 0) : chainB l[k] (l.drop (k + 1)) = b := by
  rw [List.drop_eq_getElem_cons hk, chainB, decide_eq_true h1, decide_eq_false h2] at h0
  simpa using h0
theorem chain_no1 {a : Int} {l : List Int} {k : Nat} {b : Bool} (hk : k < l.length) (h0 : chainB a (l.drop k) = b) (h1 : ¬ a < l[k]) : b = false := by
  rw [List.drop_eq_getElem_cons hk, chainB, decide_eq_false h1] at h0
  simpa using h0.symm
theorem chain_no2 {a : Int} {l : List Int} {k : Nat} {b : Bool} (hk : k < l.length) (h0 : chainB a (l.drop k) = b) (h2 : (l[k] - a) % 2 = 0) : b = false := by
  rw [List.drop_eq_getElem_cons hk, chainB, decide_eq_true h2] at h0
  simpa using h0.symm
theorem chain_end {a : Int} {l : List Int} {k : Nat} {b : Bool} (hk : l.length ≤ k) (h0 : chainB a (l.drop k) = b) : b = true := by
  rw [List.drop_of_length_le hk] at h0
  exact h0.symm

theorem chain_bd {zs : List Int} : ∀ {a : Int}, chainB a zs = true → a + zs.length ≤ zs.getLastD a ∧ (zs.getLastD a - a - zs.length) % 2 = 0 ∧ ∀ z ∈ zs, a + 1 ≤ z ∧ z ≤ zs.getLastD a := by
  induction zs with
  | nil => intro a _; simp
  | cons b t ih =>
    intro a h
    rw [chainB, Bool.and_eq_true, Bool.and_eq_true] at h
    obtain ⟨h1, h2, h3⟩ := h
    have h1 := of_decide_eq_true h1
    have h2 : ¬ (b - a) % 2 = 0 := by simpa using h2
    obtain ⟨i1, i2, i3⟩ := ih h3
    rw [List.getLastD_cons, List.length_cons]
    refine ⟨by omega, by omega, ?_⟩
    intro z hz
    rcases List.mem_cons.1 hz with rfl | hz
    · omega
    · have := i3 z hz; omega
theorem fromB_chain {n : Int} {l : List UInt8} : ∀ {a : Int}, a ≤ n → fromB n a l = (chainB a (l.map place) && (decide ((l.map place).getLastD a ≤ n) && decide ((n - (l.map place).getLastD a) % 2 = 0))) := by
  induction l with
  | nil => intro a h; simp [fromB, chainB, h]
  | cons c t ih =>
    intro a h
    rw [List.map_cons, List.getLastD_cons, fromB, chainB]
    by_cases h1 : a < place c
    · by_cases h2 : place c ≤ n
      · rw [ih h2, decide_eq_true (show a + 1 ≤ place c ∧ place c ≤ n by omega), decide_eq_true h1]
        simp [Bool.and_assoc]
      · rw [decide_eq_false (show ¬ (a + 1 ≤ place c ∧ place c ≤ n) by omega)]
        symm
        cases hc : chainB (place c) (t.map place)
        · simp
        · have := (chain_bd hc).1
          rw [decide_eq_false (show ¬ (t.map place).getLastD (place c) ≤ n by omega)]
          simp
    · rw [decide_eq_false (show ¬ (a + 1 ≤ place c ∧ place c ≤ n) by omega), decide_eq_false h1]
      rfl
theorem changeB_are {n : Int} {l : List UInt8} (hn : 3 ≤ n ∧ n ≤ 8) (hd : ¬ l = [45]) : changeB n l = (digitsB l && areB n (l.map place)) := by
  unfold changeB
  rw [decide_eq_true hn, if_neg hd, fromB_chain (by omega)]
  cases l with
  | nil => rfl
  | cons c t =>
    unfold digitsB areB
    rw [List.map_cons, List.getLastD_cons, List.length_cons, List.length_cons, List.length_map, List.headD_cons, List.drop_one, List.tail_cons]
    rw [Bool.eq_iff_iff]
    simp only [Bool.and_eq_true, Bool.true_and, decide_eq_true_eq, Bool.not_eq_true', decide_eq_false_iff_not, chainB]
    constructor
    · rintro ⟨⟨h1, h2⟩, ⟨h3, h4, h5⟩, h6, h7⟩
      obtain ⟨i1, i2, i3⟩ := chain_bd h5
      refine ⟨?_, by omega, by omega, by omega, by omega, by omega, h5⟩
      rw [List.all_eq_true]
      intro x hx
      apply decide_eq_true
      rcases List.mem_cons.1 hx with rfl | hx
      · omega
      · have := i3 _ (List.mem_map_of_mem hx); omega
    · rintro ⟨h1, h2, h3, h4, h5, h6, h7⟩
      obtain ⟨i1, i2, i3⟩ := chain_bd h7
      have h8 := of_decide_eq_true (List.all_eq_true.1 h1 c (by simp))
      rw [List.length_map] at i1 i2
      refine ⟨⟨by omega, by omega⟩, ⟨by omega, by omega, h7⟩, by omega, by omega⟩
theorem digits_rng {l : List UInt8} (h : digitsB l = true) : ∀ z ∈ l.map place, 1 ≤ z ∧ z ≤ 8 := by
  intro z hz
  obtain ⟨c, hc, rfl⟩ := List.mem_map.1 hz
  exact of_decide_eq_true (List.all_eq_true.1 h c hc)
end Go.Proofs.Ytimeecimaokldaa
