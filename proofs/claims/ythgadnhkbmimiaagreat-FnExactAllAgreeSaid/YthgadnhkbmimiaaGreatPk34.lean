/- The making of a proof, the reference's: plain facts, a row of numbers of the call's own. -/
import Derived.Test.YthgadnhkbmimiaaGreatPk32
import Derived.Test.YthgadnhkbmimiaaGreatPk33
namespace Go.Proofs.YthgadnhkbmimiaaGreat
open Go Go.RowKit
set_option linter.unusedVariables false
set_option linter.unusedSimpArgs false

theorem scan_perm {n : Nat} (hn : n ≤ 8) : ∀ (cs : List ByteArray) {r : ByteArray}, RowIn n r → PermR n r → ∀ x ∈ scanB r cs, PermR n x
  | [], r, hi, hr, x, hx => by rw [List.mem_singleton.1 hx]; exact hr
  | c :: cs, r, hi, hr, x, hx => by
    rw [scanB] at hx
    rcases List.mem_cons.1 hx with rfl | hx
    · exact hr
    · exact scan_perm hn cs (apply_in hn hi c) (run_perm hn [c] hi hr) x hx
theorem lead_permL {n : Nat} (hn : n ≤ 8) (cs : List ByteArray) {r : ByteArray} (hi : RowIn n r) (hr : PermR n r) : ∀ x ∈ leadB r cs, PermR n x := fun x hx => scan_perm hn cs hi hr x (List.mem_of_mem_take hx)
theorem heads_perm {n : Nat} (hn : n ≤ 8) {f : UInt8 → ByteArray} (hf : ∀ c, PermR n (f c)) : ∀ (t : List UInt8) {h : ByteArray}, PermR n h → ∀ x ∈ headsB f h t, PermR n x
  | [], h, hh, x, hx => by rw [List.mem_singleton.1 hx]; exact hh
  | c :: t, h, hh, x, hx => by
    rw [headsB] at hx
    rcases List.mem_cons.1 hx with rfl | hx
    · exact hh
    · exact heads_perm hn hf t (PermR.times hn hh (hf c)) x hx
theorem headsT_perm {m : Mt} {k : Cl} {n : Nat} (h : MGood m n) (t : ByteArray) : ∀ x ∈ headsT m k t, PermR n x := by
  rw [headsT_n h.st]
  exact heads_perm h.hi (fun c => run_perm h.hi _ (rounds_in h.hi) (PermR.rounds h.hi)) _ (PermR.rounds h.hi)
theorem rowsT_perm {m : Mt} {k : Cl} {n : Nat} (h : MGood m n) (t : ByteArray) : ∀ x ∈ rowsT m k t, PermR n x := by
  intro x hx
  unfold rowsT rowsB at hx
  obtain ⟨y, hy, hx⟩ := List.mem_flatMap.1 hx
  have hy' := List.mem_of_mem_take hy
  exact lead_permL h.hi _ (headsT_in h t y hy') (headsT_perm h t y hy') x hx
theorem rows_get {l : List ByteArray} : ∀ (hs : List ByteArray) (i j : Nat) (hi : i < hs.length), j < l.length → (rowsB l hs)[i * l.length + j]? = (leadB hs[i] l)[j]?
  | h :: hs, 0, j, _, hj => by
    unfold rowsB
    rw [List.flatMap_cons, List.getElem?_append_left (by rw [lead_len]; omega)]
    simp
  | h :: hs, i + 1, j, hi, hj => by
    have ih := rows_get hs i j (by simpa using hi) hj
    unfold rowsB at ih ⊢
    rw [List.flatMap_cons, List.getElem?_append_right (by rw [lead_len, Nat.succ_mul]; omega), lead_len]
    have e : (i + 1) * l.length + j - l.length = i * l.length + j := by rw [Nat.succ_mul]; omega
    rw [e]
    exact ih
/-- A row of numbers of the call's own. -/
def SI (W : World) (base g N : Nat) (f : Nat → Int) : Prop := W.ownsRow base 3 1 (.slice (some ⟨g, 0, none⟩) N N) N ((List.range N).map fun i => Value.int .i64 (f i))
theorem SI.cell {W : World} {base g N : Nat} {f : Nat → Int} (h : SI W base g N f) {i : Nat} (hi : i < N) : W.cell? ⟨g, i, none⟩ = some (.int .i64 (f i)) := by
  rw [h.cellAt i (by omega), List.getElem?_map, List.getElem?_eq_getElem (by simpa using hi)]; simp
theorem SI.free {W : World} {base g N : Nat} {f : Nat → Int} (h : SI W base g N f) (i : Nat) : W.frozen? ⟨g, i, none⟩ = false := h.frozenAt i
theorem SI.to {W W' : World} {base g N : Nat} {f : Nat → Int} (h : SI W base g N f) (hb : Below W.heap.size W W') : SI W' base g N f := own_to h hb
theorem SI.low {W W' : World} {base g N B : Nat} {f : Nat → Int} (h : SI W base g N f) (hb : Below B W W') (hg : g < B) : SI W' base g N f := own_blk h (hb.block g hg)
theorem SB.low {W W' : World} {base g N B : Nat} {f : Nat → Bool} (h : SB W base g N f) (hb : Below B W W') (hg : g < B) : SB W' base g N f := own_blk h (hb.block g hg)
theorem SB.past {W : World} {base g N g' : Nat} {f : Nat → Bool} (h : SB W base g N f) (hne : g ≠ g') (j : Nat) (u : Value) : SB (W.setCell ⟨g', j, none⟩ u) base g N f := own_set_past' h (.inr (fun e => hne (by injection e))) j u
theorem SI.past {W : World} {base g N g' : Nat} {f : Nat → Int} (h : SI W base g N f) (hne : g ≠ g') (j : Nat) (u : Value) : SI (W.setCell ⟨g', j, none⟩ u) base g N f := own_set_past' h (.inr (fun e => hne (by injection e))) j u
theorem SI.set {W : World} {base g N : Nat} {f : Nat → Int} (h : SI W base g N f) {i : Nat} (hi : i < N) (v : Int) : SI (W.setCell ⟨g, i, none⟩ (.int .i64 v)) base g N (fun j => if j = i then v else f j) := by
  have h2 := own_set h i (.int .i64 v)
  unfold SI
  have e : ((List.range N).map fun j => Value.int .i64 (f j)).set i (.int .i64 v) = (List.range N).map fun j => Value.int .i64 (if j = i then v else f j) := by
    apply List.ext_getElem?
    intro j
    rw [List.getElem?_set, List.getElem?_map, List.getElem?_map]
    simp only [List.length_map, List.length_range]
    by_cases hij : i = j
    · subst hij
      rw [if_pos rfl, if_pos hi, List.getElem?_eq_getElem (by simpa using hi)]
      simp
    · rw [if_neg hij]
      by_cases hj : j < N
      · rw [List.getElem?_eq_getElem (by simpa using hj)]
        simp only [Option.map_some, List.getElem_range]
        rw [if_neg (fun e => hij e.symm)]
      · rw [List.getElem?_eq_none (by simpa using hj)]; rfl
  rw [← e]
  exact h2
/-- Each row met so far has its lead and its place laid down. -/
def LeadOf (N : Nat) (R : List ByteArray) (q : Nat) (f : Nat → Int) : Prop := ∀ p (hp : p < R.length), p < q → f (placeB R[p]) = ((p / N * 40 + p % N : Nat) : Int)
theorem LeadOf.zero (N : Nat) (R : List ByteArray) (f : Nat → Int) : LeadOf N R 0 f := fun p _ h => absurd h (Nat.not_lt_zero _)
theorem LeadOf.put {n N : Nat} {R : List ByteArray} {q : Nat} {f : Nat → Int} (h : LeadOf N R q f) (hR : ∀ x ∈ R, PermR n x) (hq : q < R.length) (hn : R[q] ∉ R.take q) : LeadOf N R (q + 1) (fun j => if j = placeB R[q] then ((q / N * 40 + q % N : Nat) : Int) else f j) := by
  intro p hp hpq
  by_cases e : p = q
  · subst e; simp
  · have hne : placeB R[p] ≠ placeB R[q] := fun he => by
      have h2 := place_inj (hR _ (List.getElem_mem hp)) (hR _ (List.getElem_mem hq)) he
      apply hn
      rw [← h2, List.mem_iff_getElem]
      exact ⟨p, by rw [List.length_take]; omega, by rw [List.getElem_take]⟩
    show (if placeB R[p] = placeB R[q] then _ else _) = _
    rw [if_neg hne]
    exact h p hp (by omega)
theorem idxB_mem : ∀ {l : List ByteArray} {r : ByteArray}, r ∈ l → ∃ h : idxB r l < l.length, l[idxB r l] = r
  | x :: l, r, h => by
    by_cases e : x = r
    · subst e; exact ⟨by simp [idxB], by simp [idxB]⟩
    · have hr : r ∈ l := by
        rcases List.mem_cons.1 h with h | h
        · exact absurd h.symm e
        · exact h
      obtain ⟨h1, h2⟩ := idxB_mem hr
      have e2 : idxB r (x :: l) = idxB r l + 1 := by rw [idxB, if_neg e]
      refine ⟨by rw [e2, List.length_cons]; omega, ?_⟩
      simp only [e2, List.getElem_cons_succ]
      exact h2
theorem info_int2 : (Tryz.prog.info? 3).map (fun i => (i.zero, i.size, i.bytes)) = some (some (.int .i64 0), 1, 8) := by kernel_rfl
theorem zeros_si (N : Nat) : (madeCells (Value.int .i64 0).cells N).toList = (List.range N).map fun _ => Value.int .i64 0 := by
  rw [show (Value.int .i64 0).cells = #[.int .i64 0] from rfl, made_rep]
  apply List.ext_getElem?
  intro i
  rw [List.getElem?_map]
  by_cases hi : i < N
  · rw [List.getElem?_eq_getElem (by simpa using hi), List.getElem?_eq_getElem (by simpa using hi)]; simp
  · rw [List.getElem?_eq_none (by simpa using hi), List.getElem?_eq_none (by simpa using hi)]; rfl
end Go.Proofs.YthgadnhkbmimiaaGreat
