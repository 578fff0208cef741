/- The table of prices in memory; small numbers' contracts. -/
import Derived.Test.YtimeecimaokldaaEF
import Derived.StillTailTactics
namespace Go.Proofs.Ytimeecimaokldaa
open Go Go.RowKit
set_option linter.unusedVariables false
set_option linter.unusedSimpArgs false

theorem own_blkE {w w' : World} {base : Nat} {e : TypeId} {size n g c : Nat} {xs : List Value} (h : w.ownsRow base e size (.slice (some ⟨g, 0, none⟩) n c) n xs) (hb : w'.heap[g]? = w.heap[g]?) : w'.ownsRow base e size (.slice (some ⟨g, 0, none⟩) n c) n xs := by
  obtain ⟨h1, h2⟩ := h
  refine ⟨h1, ?_⟩
  rcases h2 with h2 | ⟨g', cap, cur, e, hbase, hg, r⟩
  · exact .inl h2
  · injection e with e1 e2 e3
    injection e1 with e1
    injection e1 with e1
    subst e1
    exact .inr ⟨g, cap, cur, by rw [e3], hbase, hb.trans hg, r⟩
theorem cell_same {w w' : World} {g j : Nat} (h : w'.heap[g]? = w.heap[g]?) : w'.cell? ⟨g, j, none⟩ = w.cell? ⟨g, j, none⟩ := by unfold World.cell?; rw [h]
def slv (g m : Nat) : Value := .slice (some ⟨g, 0, none⟩) (m + 1) (m + 1)
/-- A table: the rows from ko on lie in blocks g i (below N, from B0 on), those from k on are done. -/
structure Tb (w : World) (B0 N G n m ko k : Nat) (P : Nat → Nat → Int) (g : Nat → Nat) : Prop where
  hG : B0 ≤ G ∧ G < N
  tv : ∃ tv : List Value, w.ownsRow B0 44 1 (.slice (some ⟨G, 0, none⟩) (n + 1) (n + 1)) (n + 1) tv ∧ ∀ i, ko ≤ i → i ≤ n → tv[i]? = some (slv (g i) m)
  hg : ∀ i, ko ≤ i → i ≤ n → B0 ≤ g i ∧ g i < N ∧ g i ≠ G
  row : ∀ i j, k ≤ i → i ≤ n → j ≤ m → w.cell? ⟨g i, j, none⟩ = some (.int .i64 (P i j))
/-- Row i of the table, under way: done from column j on. -/
structure Cu (w : World) (B0 n m i j : Nat) (P : Nat → Nat → Int) (g : Nat → Nat) : Prop where
  ne : ∀ i', i < i' → i' ≤ n → g i' ≠ g i
  cs : ∃ cs : List Value, w.ownsRow B0 3 1 (slv (g i) m) (m + 1) cs ∧ (∀ j', j' < j → j' ≤ m → cs[j']? = some (.int .i64 0)) ∧ ∀ j', j ≤ j' → j' ≤ m → cs[j']? = some (.int .i64 (P i j'))
theorem Tb.keep {w w' : World} {B0 N G n m ko k : Nat} {P : Nat → Nat → Int} {g : Nat → Nat} (h : Tb w B0 N G n m ko k P g) (hko : ko ≤ k) (hk : ∀ b, b < N → w'.heap[b]? = w.heap[b]?) : Tb w' B0 N G n m ko k P g :=
  ⟨h.hG, let ⟨tv, h1, h2⟩ := h.tv; ⟨tv, own_blkE h1 (hk _ h.hG.2), h2⟩, h.hg, fun i j h1 h2 h3 => (cell_same (hk _ (h.hg i (by omega) h2).2.1)).trans (h.row i j h1 h2 h3)⟩
theorem Cu.keep {w w' : World} {B0 n m i j : Nat} {P : Nat → Nat → Int} {g : Nat → Nat} (h : Cu w B0 n m i j P g) (hk : w'.heap[g i]? = w.heap[g i]?) : Cu w' B0 n m i j P g :=
  ⟨h.ne, let ⟨cs, h1, h2⟩ := h.cs; ⟨cs, own_blkE h1 hk, h2⟩⟩
theorem Tb.more {w : World} {B0 N N' G n m ko k : Nat} {P : Nat → Nat → Int} {g : Nat → Nat} (h : Tb w B0 N G n m ko k P g) (hN : N ≤ N') : Tb w B0 N' G n m ko k P g :=
  ⟨⟨h.hG.1, by have := h.hG.2; omega⟩, h.tv, fun i h1 h2 => by have := h.hg i h1 h2; exact ⟨this.1, by omega, this.2.2⟩, h.row⟩
theorem Tb.to {w w' : World} {B0 N G n m ko k C : Nat} {P : Nat → Nat → Int} {g : Nat → Nat} (h : Tb w B0 N G n m ko k P g) (hko : ko ≤ k) (hb : Below C w w') (hN : N ≤ C) : Tb w' B0 N G n m ko k P g := h.keep hko (fun b hb' => hb.block b (by omega))
theorem Cu.to {w w' : World} {B0 n m i j C : Nat} {P : Nat → Nat → Int} {g : Nat → Nat} (h : Cu w B0 n m i j P g) (hb : Below C w w') (hN : g i < C) : Cu w' B0 n m i j P g := h.keep (hb.block _ hN)
theorem set_other {w : World} {b c j : Nat} (h : b ≠ c) (u : Value) : (w.setCell ⟨c, j, none⟩ u).heap[b]? = w.heap[b]? := Below.heap_setCell w ⟨c, j, none⟩ u b h
theorem Tb.out {w : World} {B0 N G n m ko k : Nat} {P : Nat → Nat → Int} {g : Nat → Nat} (h : Tb w B0 N G n m ko k P g) {i : Nat} (h1 : ko ≤ i) (h2 : i ≤ n) : w.cell? ⟨G, i, none⟩ = some (.slice (some ⟨g i, 0, none⟩) (m + 1) (m + 1)) := by
  obtain ⟨tv, h3, h4⟩ := h.tv
  exact (h3.cellAt i (by omega)).trans (h4 i h1 h2)
theorem Cu.at_ {w : World} {B0 n m i j : Nat} {P : Nat → Nat → Int} {g : Nat → Nat} (h : Cu w B0 n m i j P g) {j' : Nat} (h1 : j ≤ j') (h2 : j' ≤ m) : w.cell? ⟨g i, j', none⟩ = some (.int .i64 (P i j')) := by
  obtain ⟨cs, h3, h4, h5⟩ := h.cs
  exact (h3.cellAt j' (by omega)).trans (h5 j' h1 h2)
theorem Cu.new {w : World} {B0 n m i j : Nat} {P : Nat → Nat → Int} {g : Nat → Nat} (h : Cu w B0 n m i j P g) {j' : Nat} (h1 : j' < j) (h2 : j' ≤ m) : w.cell? ⟨g i, j', none⟩ = some (.int .i64 0) := by
  obtain ⟨cs, h3, h4, h5⟩ := h.cs
  exact (h3.cellAt j' (by omega)).trans (h4 j' h1 h2)
theorem Cu.frz {w : World} {B0 n m i j : Nat} {P : Nat → Nat → Int} {g : Nat → Nat} (h : Cu w B0 n m i j P g) (j' : Nat) : w.frozen? ⟨g i, j', none⟩ = false := by
  obtain ⟨cs, h3, h4, h5⟩ := h.cs
  exact h3.frozenAt j'
/-- Column q of the row under way is written. -/
theorem Cu.put {w : World} {B0 n m i q : Nat} {P : Nat → Nat → Int} {g : Nat → Nat} (h : Cu w B0 n m i (q + 1) P g) (hq : q ≤ m) : Cu (w.setCell ⟨g i, q, none⟩ (.int .i64 (P i q))) B0 n m i q P g := by
  obtain ⟨cs, h3, h4, h5⟩ := h.cs
  have hl : cs.length = m + 1 := by have := h3.1; simpa using this
  refine ⟨h.ne, _, own_set h3 q _, fun j' h1 h2 => ?_, fun j' h1 h2 => ?_⟩
  · rw [List.getElem?_set_ne (by omega)]
    exact h4 j' (by omega) h2
  · by_cases e : j' = q
    · subst e
      rw [List.getElem?_set_self (by omega)]
    · rw [List.getElem?_set_ne (by omega)]
      exact h5 j' (by omega) h2
theorem Tb.put {w : World} {B0 N G n m i k q : Nat} {P : Nat → Nat → Int} {g : Nat → Nat} (h : Tb w B0 N G n m i k P g) (hik : i < k) (hin : i ≤ n) (hne : ∀ i', i < i' → i' ≤ n → g i' ≠ g i) (u : Value) : Tb (w.setCell ⟨g i, q, none⟩ u) B0 N G n m i k P g := by
  have hc := h.hg i (Nat.le_refl _) hin
  refine ⟨h.hG, ?_, h.hg, fun i' j h1 h2 h3 => ?_⟩
  · obtain ⟨tv, h3, h4⟩ := h.tv
    exact ⟨tv, own_blkE h3 (set_other (fun e => hc.2.2 e.symm) u), h4⟩
  · rw [cell_same (set_other (hne i' (by omega) h2) u)]
    exact h.row i' j h1 h2 h3
/-- A row that is done. -/
theorem Tb.done {w : World} {B0 N G n m i : Nat} {P : Nat → Nat → Int} {g : Nat → Nat} (h : Tb w B0 N G n m i (i + 1) P g) (hc : Cu w B0 n m i 0 P g) : Tb w B0 N G n m i i P g := by
  refine ⟨h.hG, h.tv, h.hg, fun i' j h1 h2 h3 => ?_⟩
  by_cases e : i' = i
  · subst e
    exact hc.at_ (Nat.zero_le _) h3
  · exact h.row i' j (by omega) h2 h3
theorem zerosE (N : Nat) : (madeCells (Value.int .i64 0).cells N).toList = List.replicate N (Value.int .i64 0) := by
  rw [show (Value.int .i64 0).cells = #[.int .i64 0] from rfl]
  apply List.ext_getElem?
  intro i
  simp only [madeCells, Array.toList_map, Array.toList_range, List.getElem?_map]
  by_cases hi : i < N
  · rw [List.getElem?_eq_getElem (by simpa using hi), List.getElem?_eq_getElem (by simpa using hi)]
    simp [Nat.mod_one]
  · rw [List.getElem?_eq_none (by simpa using hi), List.getElem?_eq_none (by simpa using hi)]
    rfl
/-- A new row: in block c, its place in the table written. -/
theorem Tb.start {w : World} {B0 N G n m i c : Nat} {P : Nat → Nat → Int} {g : Nat → Nat} (h : Tb w B0 N G n m (i + 1) (i + 1) P g) (hin : i ≤ n) (hc : N ≤ c) (hB : B0 ≤ c) (ho : w.ownsRow B0 3 1 (slv c m) (m + 1) (List.replicate (m + 1) (.int .i64 0))) :
    Tb (w.setCell ⟨G, i, none⟩ (slv c m)) B0 (c + 1) G n m i (i + 1) P (fun x => if x = i then c else g x) ∧ Cu (w.setCell ⟨G, i, none⟩ (slv c m)) B0 n m i (m + 1) P (fun x => if x = i then c else g x) := by
  have hGN := h.hG.2
  refine ⟨⟨⟨h.hG.1, by omega⟩, ?_, fun i' h1 h2 => ?_, fun i' j h1 h2 h3 => ?_⟩, fun i' h1 h2 => ?_, ?_⟩
  · obtain ⟨tv, h3, h4⟩ := h.tv
    have hl : tv.length = n + 1 := by have := h3.1; simpa using this
    refine ⟨_, own_set h3 i _, fun i' h5 h6 => ?_⟩
    by_cases e : i' = i
    · subst e
      rw [List.getElem?_set_self (by omega), if_pos rfl]
    · rw [List.getElem?_set_ne (by omega), if_neg e]
      exact h4 i' (by omega) h6
  · by_cases e : i' = i
    · rw [if_pos e]; exact ⟨hB, by omega, by omega⟩
    · rw [if_neg e]
      have := h.hg i' (by omega) h2
      exact ⟨this.1, by omega, this.2.2⟩
  · rw [if_neg (by omega), cell_same (set_other ((h.hg i' h1 h2).2.2) _)]
    exact h.row i' j h1 h2 h3
  · rw [if_neg (by omega), if_pos rfl]
    have := h.hg i' (by omega) h2
    omega
  · refine ⟨List.replicate (m + 1) (.int .i64 0), ?_, fun j' h1 h2 => ?_, fun j' h1 h2 => absurd h1 (by omega)⟩
    · rw [if_pos rfl]
      exact own_blkE ho (set_other (by omega) _)
    · rw [List.getElem?_replicate, if_pos (by omega)]
theorem l1Least_any (a b : Int) (w : World) : Calls Try.prog 54 #[.int .i64 a, .int .i64 b] w fun e w' => e = .returned (.int .i64 (min a b)) ∧ w = w' := by
  by_cases h : a < b
  · go_enter Try.func54, Try.ntmps54
    go_wp2_with fail
    go_ret
    exact ⟨ret_int (by omega), rfl⟩
  · go_enter Try.func54, Try.ntmps54
    go_wp2_with fail
    go_ret
    exact ⟨ret_int (by omega), rfl⟩
theorem l1MostE_any (a b : Int) (w : World) : Calls Try.prog 55 #[.int .i64 a, .int .i64 b] w fun e w' => e = .returned (.int .i64 (max a b)) ∧ w = w' := by
  by_cases h : b < a
  · go_enter Try.func55, Try.ntmps55
    go_wp2_with fail
    go_ret
    exact ⟨ret_int (by omega), rfl⟩
  · go_enter Try.func55, Try.ntmps55
    go_wp2_with fail
    go_ret
    exact ⟨ret_int (by omega), rfl⟩
theorem l22Far_any (a b : Int) (w : World) (ha : 0 ≤ a ∧ a ≤ 1000000) (hb : 0 ≤ b ∧ b ≤ 1000000) : Calls Try.prog 50 #[.int .i64 a, .int .i64 b] w fun e w' => e = .returned (.int .i64 ((a - b).natAbs : Int)) ∧ w = w' := by
  have w1 : IntKind.i64.wrap (a - b) = a - b := IntWalk.i64_in _ ⟨by omega, by omega⟩
  have w2 : IntKind.i64.wrap (b - a) = b - a := IntWalk.i64_in _ ⟨by omega, by omega⟩
  go_enter Try.func50, Try.ntmps50
  go_wp2_with fail
  refine (l1MostE_any _ _ _).mono ?_; rintro e w' ⟨rfl, rfl⟩
  go_wp2_with fail
  go_ret
  exact ⟨ret_int (by omega), rfl⟩
theorem absE_any (a : Int) (w : World) (ha : -1000000 ≤ a ∧ a ≤ 1000000) : Calls Try.prog 25 #[.int .i64 a] w fun e w' => e = .returned (.int .i64 (a.natAbs : Int)) ∧ w = w' := by
  have w1 : IntKind.i64.wrap (-a) = -a := IntWalk.i64_in _ ⟨by omega, by omega⟩
  by_cases h : 0 ≤ a
  all_goals
    go_enter Try.func25, Try.ntmps25
    go_wp2_with fail
    go_ret
    exact ⟨ret_int (by omega), rfl⟩
/-- The prices of the table. -/
def prT2 (k : Int) (a b : List Int) (i j : Nat) : Int := prL k (a.drop i) (b.drop j)
end Go.Proofs.Ytimeecimaokldaa
