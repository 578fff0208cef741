/- The repair of a touch: a plain account. -/
import Derived.Test.YtajffjkmmenaoaaGreatPk17
import Derived.Test.YtajffjkmmenaoaaGreatPk35
namespace Go.Proofs.YtajffjkmmenaoaaGreat
open Go Go.RowKit
set_option linter.unusedVariables false
set_option linter.unusedSimpArgs false

def visitAll (S xs : List ByteArray) : List ByteArray := xs.foldl visitB S
theorem va_cons (S : List ByteArray) (x : ByteArray) (xs : List ByteArray) : visitAll S (x :: xs) = visitAll (visitB S x) xs := rfl
theorem va_snoc (S xs : List ByteArray) (x : ByteArray) : visitAll S (xs ++ [x]) = visitB (visitAll S xs) x := by simp [visitAll]
theorem va_pre : ∀ (xs S : List ByteArray), S <+: visitAll S xs
  | [], S => List.prefix_refl _
  | x :: xs, S => (visit_pre S x).trans (va_pre xs (visitB S x))
theorem va_nodup : ∀ (xs : List ByteArray) {S : List ByteArray}, S.Nodup → (visitAll S xs).Nodup
  | [], S, h => h
  | x :: xs, S, h => va_nodup xs (visit_nodup h x)
theorem visit_iff (L : List ByteArray) (x z : ByteArray) : z ∈ visitB L x ↔ z ∈ L ∨ z = x := by
  unfold visitB
  by_cases h : x ∈ L
  · rw [if_pos h]
    constructor
    · exact .inl
    · rintro (h1 | rfl)
      · exact h1
      · exact h
  · rw [if_neg h]; simp
theorem va_mem : ∀ (xs S : List ByteArray) (z : ByteArray), z ∈ visitAll S xs ↔ z ∈ S ∨ z ∈ xs
  | [], S, z => by simp [visitAll]
  | x :: xs, S, z => by rw [va_cons, va_mem xs, visit_iff, List.mem_cons, or_assoc]
theorem va_len : ∀ (xs S : List ByteArray), (visitAll S xs).length ≤ S.length + xs.length
  | [], S => by simp [visitAll]
  | x :: xs, S => by
    have h := va_len xs (visitB S x)
    have h2 : (visitB S x).length ≤ S.length + 1 := by
      unfold visitB
      by_cases h : x ∈ S
      · rw [if_pos h]; omega
      · rw [if_neg h]; simp
    rw [va_cons, List.length_cons]; omega
/-- What is new behind a list. -/
def newsB (S xs : List ByteArray) : List ByteArray := (visitAll S xs).drop S.length
theorem news_app (S xs : List ByteArray) : S ++ newsB S xs = visitAll S xs := by
  obtain ⟨r, hr⟩ := va_pre xs S
  unfold newsB
  rw [← hr, List.drop_left]
theorem news_nodup {S : List ByteArray} (h : S.Nodup) (xs : List ByteArray) : (newsB S xs).Nodup := by
  have h1 := va_nodup xs h
  rw [← news_app, List.nodup_append] at h1
  exact h1.2.1
theorem news_mem {S : List ByteArray} (h : S.Nodup) (xs : List ByteArray) (z : ByteArray) : z ∈ newsB S xs ↔ z ∈ xs ∧ z ∉ S := by
  have h1 := va_nodup xs h
  rw [← news_app, List.nodup_append] at h1
  have h2 := va_mem xs S z
  rw [← news_app, List.mem_append] at h2
  constructor
  · intro hz
    have hns : z ∉ S := fun hS => h1.2.2 z hS z hz rfl
    rcases h2.1 (.inr hz) with h3 | h3
    · exact absurd h3 hns
    · exact ⟨h3, hns⟩
  · rintro ⟨hz, hn⟩
    rcases h2.2 (.inr hz) with h3 | h3
    · exact absurd h3 hn
    · exact h3
def prodsB (hs L : List ByteArray) : List ByteArray := L.flatMap fun r => hs.map (timesB r)
theorem prods_mem {hs L : List ByteArray} {z : ByteArray} : z ∈ prodsB hs L ↔ ∃ r ∈ L, ∃ h ∈ hs, timesB r h = z := by
  unfold prodsB
  rw [List.mem_flatMap]
  constructor
  · rintro ⟨r, hr, hz⟩
    obtain ⟨h, hh, e⟩ := List.mem_map.1 hz
    exact ⟨r, hr, h, hh, e⟩
  · rintro ⟨r, hr, h, hh, e⟩
    exact ⟨r, hr, List.mem_map.2 ⟨h, hh, e⟩⟩
theorem prods_take {hs L : List ByteArray} {k : Nat} (h : k < L.length) : prodsB hs (L.take (k + 1)) = prodsB hs (L.take k) ++ hs.map (timesB L[k]) := by
  unfold prodsB; rw [List.take_succ_eq_append_getElem h, List.flatMap_append]; simp
theorem prods_len (hs : List ByteArray) : ∀ L : List ByteArray, (prodsB hs L).length = L.length * hs.length
  | [] => by simp [prodsB]
  | r :: L => by
    have ih := prods_len hs L
    unfold prodsB at ih ⊢
    rw [List.flatMap_cons, List.length_append, ih, List.length_map, List.length_cons, Nat.succ_mul, Nat.add_comm]
/-- The layers, and what is seen with each. -/
def lsR (hs : List ByteArray) (fr : ByteArray) : Nat → List ByteArray × List ByteArray
  | 0 => ([fr], [fr])
  | i + 1 => (sortB (newsB (lsR hs fr i).2 (prodsB hs (lsR hs fr i).1)), visitAll (lsR hs fr i).2 (prodsB hs (lsR hs fr i).1))
def layR (hs : List ByteArray) (fr : ByteArray) (i : Nat) : List ByteArray := (lsR hs fr i).1
def seenR (hs : List ByteArray) (fr : ByteArray) (i : Nat) : List ByteArray := (lsR hs fr i).2
theorem layR_succ (hs : List ByteArray) (fr : ByteArray) (i : Nat) : layR hs fr (i + 1) = sortB (newsB (seenR hs fr i) (prodsB hs (layR hs fr i))) := rfl
theorem seenR_succ (hs : List ByteArray) (fr : ByteArray) (i : Nat) : seenR hs fr (i + 1) = visitAll (seenR hs fr i) (prodsB hs (layR hs fr i)) := rfl
theorem seenR_nodup (hs : List ByteArray) (fr : ByteArray) : ∀ i, (seenR hs fr i).Nodup
  | 0 => by simp [seenR, lsR]
  | i + 1 => by rw [seenR_succ]; exact va_nodup _ (seenR_nodup hs fr i)
theorem layR_new {hs : List ByteArray} {fr : ByteArray} {i : Nat} {z : ByteArray} : z ∈ layR hs fr (i + 1) ↔ z ∈ prodsB hs (layR hs fr i) ∧ z ∉ seenR hs fr i := by
  rw [layR_succ, sortB_mem]; exact news_mem (seenR_nodup hs fr i) _ _
theorem layR_nodup (hs : List ByteArray) (fr : ByteArray) : ∀ i, (layR hs fr i).Nodup
  | 0 => by simp [layR, lsR]
  | i + 1 => by rw [layR_succ]; exact sortB_nodup (news_nodup (seenR_nodup hs fr i) _)
theorem layR_sorted (hs : List ByteArray) (fr : ByteArray) (i : Nat) : SortedS (layR hs fr (i + 1)) := by rw [layR_succ]; exact sortB_sorted _
theorem seenR_mem {hs : List ByteArray} {fr : ByteArray} : ∀ (k : Nat) (z : ByteArray), z ∈ seenR hs fr k ↔ ∃ i, i ≤ k ∧ z ∈ layR hs fr i
  | 0, z => by
    constructor
    · intro h; exact ⟨0, by omega, h⟩
    · rintro ⟨i, hi, h⟩
      obtain rfl : i = 0 := by omega
      exact h
  | k + 1, z => by
    have ih := seenR_mem (hs := hs) (fr := fr) k z
    rw [seenR_succ, va_mem]
    constructor
    · rintro (h | h)
      · obtain ⟨i, hi, h2⟩ := ih.1 h
        exact ⟨i, by omega, h2⟩
      · by_cases hs' : z ∈ seenR hs fr k
        · obtain ⟨i, hi, h2⟩ := ih.1 hs'
          exact ⟨i, by omega, h2⟩
        · exact ⟨k + 1, by omega, layR_new.2 ⟨h, hs'⟩⟩
    · rintro ⟨i, hi, h⟩
      by_cases e : i = k + 1
      · subst e; exact .inr (layR_new.1 h).1
      · exact .inl (ih.2 ⟨i, by omega, h⟩)
theorem layR_apart {hs : List ByteArray} {fr z : ByteArray} {i j : Nat} (hi : z ∈ layR hs fr i) (hj : z ∈ layR hs fr j) : i = j := by
  have key : ∀ a b, a < b → z ∈ layR hs fr a → z ∈ layR hs fr b → False := fun a b hab ha hb => by
    obtain ⟨c, rfl⟩ : ∃ c, b = c + 1 := ⟨b - 1, by omega⟩
    exact (layR_new.1 hb).2 ((seenR_mem c z).2 ⟨a, by omega, ha⟩)
  rcases Nat.lt_trichotomy i j with h | h | h
  · exact (key i j h hi hj).elim
  · exact h
  · exact (key j i h hj hi).elim
theorem layR_step {hs : List ByteArray} {fr x h : ByteArray} {i : Nat} (hx : x ∈ layR hs fr i) (hh : h ∈ hs) : ∃ k, k ≤ i + 1 ∧ timesB x h ∈ layR hs fr k := by
  have h1 : timesB x h ∈ seenR hs fr (i + 1) := by
    rw [seenR_succ, va_mem]
    exact .inr (prods_mem.2 ⟨x, hx, h, hh, rfl⟩)
  obtain ⟨k, hk, h2⟩ := (seenR_mem (i + 1) _).1 h1
  exact ⟨k, hk, h2⟩
theorem layR_pred {hs : List ByteArray} {fr y : ByteArray} {i : Nat} (hy : y ∈ layR hs fr (i + 1)) : ∃ x ∈ layR hs fr i, ∃ h ∈ hs, timesB x h = y := prods_mem.1 (layR_new.1 hy).1
theorem seenR_len (hs : List ByteArray) (fr : ByteArray) (i : Nat) : (seenR hs fr (i + 1)).length = (seenR hs fr i).length + (layR hs fr (i + 1)).length := by
  rw [layR_succ, sortB_len, seenR_succ, ← news_app, List.length_append]
theorem layR_le (hs : List ByteArray) (fr : ByteArray) : ∀ i, (layR hs fr i).length ≤ (seenR hs fr i).length
  | 0 => by simp [layR, seenR, lsR]
  | i + 1 => by rw [seenR_len]; omega
/-- How many steps the search takes. -/
def repGo (hs : List ByteArray) (fr tg : ByteArray) : Nat → Nat → Option Nat
  | 0, _ => none
  | f + 1, i => if 800 < (seenR hs fr i).length then none else if tg ∈ layR hs fr (i + 1) then some (i + 1) else repGo hs fr tg f (i + 1)
def repB (hs : List ByteArray) (fr tg : ByteArray) : Option Nat := repGo hs fr tg 8 0
theorem repGo_some {hs : List ByteArray} {fr tg : ByteArray} : ∀ (f i N : Nat), repGo hs fr tg f i = some N → i < N ∧ N ≤ i + f ∧ tg ∈ layR hs fr N ∧ (seenR hs fr (N - 1)).length ≤ 800
  | 0, i, N, h => by cases h
  | f + 1, i, N, h => by
    rw [repGo] at h
    by_cases h1 : 800 < (seenR hs fr i).length
    · rw [if_pos h1] at h; cases h
    · rw [if_neg h1] at h
      by_cases h2 : tg ∈ layR hs fr (i + 1)
      · rw [if_pos h2] at h
        cases h
        exact ⟨by omega, by omega, h2, by simpa using Nat.not_lt.1 h1⟩
      · rw [if_neg h2] at h
        obtain ⟨h3, h4, h5, h6⟩ := repGo_some f (i + 1) N h
        exact ⟨by omega, by omega, h5, h6⟩
/-- The least touch of n calls that leads there. -/
def leastB (F : UInt8 → ByteArray) (tg : ByteArray) : Nat → ByteArray → Option (List UInt8)
  | 0, r => if r = tg then some [] else none
  | n + 1, r => match leastB F tg n (timesB r (F 98)) with
    | some t => some (98 :: t)
    | none => match leastB F tg n (timesB r (F 112)) with
      | some t => some (112 :: t)
      | none => match leastB F tg n (timesB r (F 115)) with
        | some t => some (115 :: t)
        | none => none
def headsR (F : UInt8 → ByteArray) : List ByteArray := [F 112, F 98, F 115]
theorem least_step {F : UInt8 → ByteArray} {tg : ByteArray} {n : Nat} {r : ByteArray} : (leastB F tg (n + 1) r).isSome = true ↔ ∃ h ∈ headsR F, (leastB F tg n (timesB r h)).isSome = true := by
  rw [leastB]
  unfold headsR
  cases h1 : leastB F tg n (timesB r (F 98))
  · cases h2 : leastB F tg n (timesB r (F 112))
    · cases h3 : leastB F tg n (timesB r (F 115))
      · simp [h1, h2, h3]
      · simp [h1, h2, h3]
    · simp [h1, h2]
  · simp [h1]
/-- From a layer no row leads there faster. -/
theorem least_far {F : UInt8 → ByteArray} {fr tg : ByteArray} {N : Nat} (ht : tg ∈ layR (headsR F) fr N) : ∀ (d k : Nat) (x : ByteArray), x ∈ layR (headsR F) fr k → (leastB F tg d x).isSome = true → N ≤ k + d
  | 0, k, x, hx, h => by
    rw [leastB] at h
    by_cases e : x = tg
    · subst e; have := layR_apart hx ht; omega
    · rw [if_neg e] at h; cases h
  | d + 1, k, x, hx, h => by
    obtain ⟨g, hg, h2⟩ := least_step.1 h
    obtain ⟨j, hj, hy⟩ := layR_step hx hg
    have := least_far ht d j _ hy h2
    omega
/-- The rows from which the way on leads there. -/
def goodR (F : UInt8 → ByteArray) (fr tg : ByteArray) (N i : Nat) (r : ByteArray) : Prop := r ∈ layR (headsR F) fr i ∧ (leastB F tg (N - i) r).isSome = true
theorem goodR_top {F : UInt8 → ByteArray} {fr tg : ByteArray} {N : Nat} (ht : tg ∈ layR (headsR F) fr N) (r : ByteArray) : goodR F fr tg N N r ↔ r = tg := by
  unfold goodR
  rw [Nat.sub_self, leastB]
  constructor
  · rintro ⟨_, h⟩
    by_cases e : r = tg
    · exact e
    · rw [if_neg e] at h; cases h
  · rintro rfl
    exact ⟨ht, by simp⟩
theorem goodR_next {F : UInt8 → ByteArray} {fr tg : ByteArray} {N i : Nat} (ht : tg ∈ layR (headsR F) fr N) (hi : i < N) {r h : ByteArray} (hr : r ∈ layR (headsR F) fr i) (hh : h ∈ headsR F) : goodR F fr tg N (i + 1) (timesB r h) ↔ (leastB F tg (N - (i + 1)) (timesB r h)).isSome = true := by
  constructor
  · exact fun h => h.2
  · intro h2
    obtain ⟨k, hk, hy⟩ := layR_step hr hh
    have := least_far ht _ k _ hy h2
    obtain rfl : k = i + 1 := by omega
    exact ⟨hy, h2⟩
theorem goodR_step {F : UInt8 → ByteArray} {fr tg : ByteArray} {N i : Nat} (ht : tg ∈ layR (headsR F) fr N) (hi : i < N) {r : ByteArray} (hr : r ∈ layR (headsR F) fr i) : goodR F fr tg N i r ↔ ∃ h ∈ headsR F, goodR F fr tg N (i + 1) (timesB r h) := by
  have e : N - i = N - (i + 1) + 1 := by omega
  have h1 : goodR F fr tg N i r ↔ (leastB F tg (N - (i + 1) + 1) r).isSome = true := by
    unfold goodR; rw [e]
    exact ⟨fun h => h.2, fun h => ⟨hr, h⟩⟩
  rw [h1, least_step]
  constructor
  · rintro ⟨h, hh, h2⟩; exact ⟨h, hh, (goodR_next ht hi hr hh).2 h2⟩
  · rintro ⟨h, hh, h2⟩; exact ⟨h, hh, h2.2⟩
theorem goodR_from {F : UInt8 → ByteArray} {fr tg : ByteArray} {N : Nat} (ht : tg ∈ layR (headsR F) fr N) : ∀ d, d ≤ N → ∃ r ∈ layR (headsR F) fr (N - d), (leastB F tg d r).isSome = true
  | 0, _ => ⟨tg, by simpa using ht, by simp [leastB]⟩
  | d + 1, hd => by
    obtain ⟨y, hy, h⟩ := goodR_from ht d (by omega)
    have e : N - d = N - (d + 1) + 1 := by omega
    rw [e] at hy
    obtain ⟨x, hx, g, hg, rfl⟩ := layR_pred hy
    exact ⟨x, hx, least_step.2 ⟨g, hg, h⟩⟩
theorem least_from {F : UInt8 → ByteArray} {fr tg : ByteArray} {N : Nat} (ht : tg ∈ layR (headsR F) fr N) : (leastB F tg N fr).isSome = true := by
  obtain ⟨r, hr, h⟩ := goodR_from ht N (Nat.le_refl _)
  rw [Nat.sub_self] at hr
  have e : r = fr := by simpa [layR, lsR] using hr
  rw [← e]; exact h
/-- The repair's answer. -/
def mendB (F : UInt8 → ByteArray) (fr tg : ByteArray) : Option (List UInt8) := match repB (headsR F) fr tg with
  | some N => leastB F tg N fr
  | none => none
end Go.Proofs.YtajffjkmmenaoaaGreat

/- Contracts: what a repair asks, the program's. -/
namespace Go.Proofs.YtajffjkmmenaoaaGreat
open Go Go.RowKit
set_option linter.unusedVariables false
set_option linter.unusedSimpArgs false

theorem perm_in {n : Nat} (hn : n ≤ 8) {r : ByteArray} (h : PermR n r) : RowIn n r :=
  ⟨by have := h.length_eq; rw [roundsL_len, bytes_len] at this; exact this, fun b hb => inL_rounds hn b (h.mem_iff.1 hb)⟩
theorem rounds_nodup {n : Nat} (hn : n ≤ 8) : (roundsL n).Nodup := by
  have : n = 0 ∨ n = 1 ∨ n = 2 ∨ n = 3 ∨ n = 4 ∨ n = 5 ∨ n = 6 ∨ n = 7 ∨ n = 8 := by omega
  rcases this with rfl | rfl | rfl | rfl | rfl | rfl | rfl | rfl | rfl <;> decide
theorem perm_nodup {n : Nat} (hn : n ≤ 8) {r : ByteArray} (h : PermR n r) : r.data.toList.Nodup := h.nodup_iff.2 (rounds_nodup hn)
/-- The mask of some bytes. -/
def maskOf : List UInt8 → Nat
  | [] => 0
  | b :: l => 2 ^ (b.toNat - 49) ||| maskOf l
theorem mask_bit : ∀ (l : List UInt8) (j : Nat), (maskOf l).testBit j = l.any (fun b => decide (b.toNat - 49 = j))
  | [], j => by simp [maskOf]
  | b :: l, j => by
    rw [maskOf, Nat.testBit_or, mask_bit l j, List.any_cons, Nat.testBit_two_pow]
theorem mask_lt : ∀ (l : List UInt8), (∀ b ∈ l, b.toNat < 57) → maskOf l < 256
  | [], _ => by simp [maskOf]
  | b :: l, h => by
    rw [maskOf]
    have h1 := mask_lt l (fun x hx => h x (List.mem_cons_of_mem _ hx))
    have h2 := h b (List.mem_cons_self ..)
    have h3 : 2 ^ (b.toNat - 49) < 2 ^ 8 := Nat.pow_lt_pow_right (by omega) (by omega)
    exact Nat.or_lt_two_pow (n := 8) (by simpa using h3) (by simpa using h1)
theorem mask_snoc (l : List UInt8) (b : UInt8) : maskOf (l ++ [b]) = maskOf l ||| 2 ^ (b.toNat - 49) := by
  induction l with
  | nil => simp [maskOf]
  | cons a l ih => rw [List.cons_append, maskOf, ih, maskOf, Nat.or_assoc]
theorem i64_or_nat (a b : Nat) (ha : a < 9223372036854775808) (hb : b < 9223372036854775808) : bits .or .i64 (a : Int) (b : Int) = ((a ||| b : Nat) : Int) := by
  have ofInt : ∀ a : Nat, a < 9223372036854775808 → (BitVec.ofInt 64 (a : Int)).toNat = a := fun a ha => by
    rw [BitVec.ofInt_natCast, BitVec.toNat_ofNat]; exact Nat.mod_eq_of_lt (by omega)
  have hx : a ||| b < 2 ^ 63 := Nat.or_lt_two_pow (by omega) (by omega)
  show IntKind.i64.wrap ((BitVec.ofInt 64 (a : Int) ||| BitVec.ofInt 64 (b : Int)).toNat : Int) = _
  rw [BitVec.toNat_or, ofInt a ha, ofInt b hb, IntKind.wrap_i64]
  omega
theorem mask_new {n : Nat} (hn : n ≤ 8) {r : ByteArray} (h : PermR n r) {k : Nat} (hk : k < r.data.toList.length) : (maskOf (r.data.toList.take k)).testBit (r.data.toList[k].toNat - 49) = false := by
  rw [mask_bit, List.any_eq_false]
  intro b hb
  rw [decide_eq_true_eq]
  intro e
  have hin := perm_in hn h
  have h1 := hin.2 b (List.mem_of_mem_take hb)
  have h2 := hin.2 _ (List.getElem_mem hk)
  have hbe : b = r.data.toList[k] := UInt8.toNat_inj.1 (by omega)
  obtain ⟨i, hi, hie⟩ := List.getElem_of_mem hb
  rw [List.length_take] at hi
  rw [List.getElem_take] at hie
  exact (List.pairwise_iff_getElem.1 (perm_nodup hn h)) i k (by omega) hk (by omega) (hie.trans hbe)
set_option maxRecDepth 10000 in
set_option maxHeartbeats 2000000 in
theorem goodRow_yes (n : Nat) (r : ByteArray) (w : World) (hn : n ≤ 8) (h3 : 3 ≤ n) (h : PermR n r) : Calls Tryz.prog 110 #[.string r] w fun e w' => e = .returned (.bool true) ∧ w = w' := by
  have hin := perm_in hn h
  have hsz := hin.1
  have Hin := Lib.hid hin
  have Hmk := Lib.hid (fun k hk => mask_new hn h (k := k) hk)
  have Hst := Lib.hid (fun W => isStage_any (n : Int) W)
  rw [show decide (3 ≤ (n : Int) ∧ (n : Int) ≤ 8) = true by simp; omega] at Hst
  have Hlt := Lib.hid (fun k => mask_lt (r.data.toList.take k) (fun b hb => by have := hin.2 b (List.mem_of_mem_take hb); omega))
  clear h hin
  go_enter Tryz.func110, Tryz.ntmps110
  go_wp2_with (go_at_call 135; refine (Hst.out _).mono ?_; rintro e w' ⟨rfl, rfl⟩)
  go_loop [3, 12] (fun s i => ∃ k : Nat, k ≤ n ∧ i = .int .i64 k ∧ s = .int .i64 ((maskOf (r.data.toList.take k) : Nat) : Int)) (fun _ i => n - (intOf i).toNat)
  case atStart => exact ⟨0, by omega, rfl, rfl⟩
  case round =>
    obtain ⟨k, hk, rfl, rfl⟩ := hrel
    by_cases hlt : k < n
    · have hkr : k < r.size := by omega
      have hkl : k < r.data.toList.length := by rw [bytes_len]; exact hkr
      have hat := Hin.out.at_ hkr
      have hmk := Hmk.out k hkl
      rw [bytes_get r k hkr] at hmk
      have hM := Hlt.out k
      have Hs : Hid (maskOf (r.data.toList.take (k + 1)) = maskOf (r.data.toList.take k) ||| 2 ^ (r[k].toNat - 49)) := Lib.hid (by rw [List.take_succ_eq_append_getElem hkl, mask_snoc, bytes_get r k hkr])
      obtain ⟨M, hMe⟩ : ∃ M, M = maskOf (r.data.toList.take k) := ⟨_, rfl⟩
      rw [← hMe] at hmk hM Hs ⊢
      obtain ⟨j, hj⟩ : ∃ j, r[k].toNat = j + 49 := ⟨r[k].toNat - 49, by omega⟩
      have hj2 : (r[k].toNat : Int) - 49 = (j : Int) := by omega
      have hj8 : j < 8 := by omega
      rw [hj, Nat.add_sub_cancel] at hmk Hs
      have hb := bit_test M j (by omega)
      rw [hmk] at hb
      have ho := i64_or_nat M (2 ^ j) (by omega) (Nat.lt_of_lt_of_le (Nat.pow_lt_pow_right (by omega) hj8) (by omega))
      have hjI : (r[k].toNat : Int) = (j : Int) + 49 := by omega
      have Hj := Lib.hid hj
      have hj0 : decide ((j : Int) < 0) = false := by simp
      have hjn : (j : Int) < (n : Int) := by omega
      obtain ⟨x, hx⟩ : ∃ x : UInt8, x = r[k] := ⟨_, rfl⟩
      clear hMe hmk hj
      have Hw : Hid (wrap64 ((2 : Int) ^ j) = ((2 ^ j : Nat) : Int)) := Lib.hid (by
        have h1 : 2 ^ j < 2 ^ 8 := Nat.pow_lt_pow_right (by omega) hj8
        have e : (2 : Int) ^ j = ((2 ^ j : Nat) : Int) := by simp
        rw [e]
        generalize 2 ^ j = p at h1
        exact IntWalk.wrap64_in _ ⟨by omega, by omega⟩)
      have Ho := Lib.hid ho
      clear ho
      go_wp2_with fail
      refine ⟨⟨k + 1, by omega, by go_num, ?_⟩, by simp [intOf]; omega⟩
      rw [Hw.out, Ho.out, Hs.out]
    · obtain rfl : k = n := by omega
      go_wp2_with fail
      go_ret
      exact ⟨rfl, rfl⟩
set_option maxHeartbeats 1000000 in
theorem isRowOf_yes (n : Nat) (r : ByteArray) (w : World) (hn : n ≤ 8) (h3 : 3 ≤ n) (h : PermR n r) : Calls Tryz.prog 66 #[.int .i64 n, .string r] w fun e w' => e = .returned (.bool true) ∧ w = w' := by
  have Hg := Lib.hid (fun W => goodRow_yes n r W hn h3 h)
  have hsz := (perm_in hn h).1
  clear h
  go_enter Tryz.func66, Tryz.ntmps66
  go_wp2_with (go_at_call 110; refine (Hg.out _).mono ?_; rintro e w' ⟨rfl, rfl⟩)
  go_ret
  exact ⟨rfl, rfl⟩
end Go.Proofs.YtajffjkmmenaoaaGreat
