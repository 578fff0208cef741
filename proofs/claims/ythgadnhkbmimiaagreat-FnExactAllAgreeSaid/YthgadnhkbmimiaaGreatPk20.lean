/- The lines of a proof, sorted by their rows: slices.SortFunc at structs. -/
import Derived.Test.YthgadnhkbmimiaaGreatPk19
import Derived.Shelf.SlSortCmp.NoneTotal
namespace Go.Proofs.YthgadnhkbmimiaaGreat
open Go Go.RowKit Go.Sort Go.Lib
set_option linter.unusedVariables false
set_option linter.unusedSimpArgs false

/-- Where a row stands first. -/
def idxB (r : ByteArray) : List ByteArray → Nat
  | [] => 0
  | x :: l => if x = r then 0 else idxB r l + 1
theorem idxB_get : ∀ {l : List ByteArray}, l.Nodup → ∀ k (hk : k < l.length), idxB l[k] l = k
  | x :: l, h, 0, _ => by simp [idxB]
  | x :: l, h, k + 1, hk => by
    rw [List.nodup_cons] at h
    have hk' : k < l.length := by simpa using hk
    have hne : x ≠ l[k] := fun e => h.1 (by rw [e]; exact List.getElem_mem hk')
    rw [idxB]
    show (if x = l[k] then 0 else idxB l[k] l + 1) = k + 1
    rw [if_neg hne, idxB_get h.2 k hk']
/-- The cells of a row's line: the row, the lead, the place in the lead. -/
def encL (N : Nat) (rows : List ByteArray) (r : ByteArray) : List Value := [.string r, .int .i64 ((idxB r rows / N : Nat) : Int), .int .i64 ((idxB r rows % N : Nat) : Int)]
theorem encL_len (N : Nat) (rows : List ByteArray) (r : ByteArray) : (encL N rows r).length = 3 := rfl
theorem encL_one (N : Nat) (rows : List ByteArray) (r : ByteArray) : ∀ v ∈ encL N rows r, v.oneCell' = true := by
  intro v hv
  unfold encL at hv
  simp only [List.mem_cons, List.not_mem_nil, or_false] at hv
  rcases hv with rfl | rfl | rfl <;> rfl
def encU (N : Nat) (rows : List ByteArray) (l : List UInt8) : List Value := encL N rows (ofL l)
theorem cmp_neg : ∀ (x y : List UInt8), compareBytes x y < 0 ↔ x < y
  | [], [] => by simp [compareBytes]
  | [], _ :: _ => by simp [compareBytes]
  | _ :: _, [] => by simp [compareBytes]
  | a :: x, b :: y => by
    unfold compareBytes
    rw [List.cons_lt_cons_iff]
    by_cases h1 : a < b
    · rw [if_pos h1]; simp [h1]
    · rw [if_neg h1]
      by_cases h2 : b < a
      · rw [if_pos h2]
        have hne : a ≠ b := fun e => by rw [e] at h2; exact absurd h2 (UInt8.lt_irrefl b)
        simp [h1, hne]
      · rw [if_neg h2]
        have he : a = b := by
          have := UInt8.le_antisymm (UInt8.not_lt.1 h2) (UInt8.not_lt.1 h1)
          exact this
        rw [cmp_neg x y]
        simp [h1, he]
theorem lt_cmp (x y : List UInt8) : ltOf compareBytes x y = decide (x < y) := by
  unfold ltOf
  rw [Bool.eq_iff_iff, decide_eq_true_eq, decide_eq_true_eq]
  exact cmp_neg x y
theorem swo_cmp : SWO (ltOf compareBytes) where
  irrefl x := by rw [lt_cmp]; exact decide_eq_false (List.lt_irrefl x)
  trans x y z h1 h2 := by
    rw [lt_cmp] at *
    rw [decide_eq_true_eq] at *
    exact List.lt_trans h1 h2
  ntrans x y z h1 h2 := by
    rw [lt_cmp] at *
    rw [decide_eq_false_iff_not] at *
    rw [List.not_lt] at *
    exact List.le_trans h2 h1
theorem tot_cmp (x y : List UInt8) (h1 : ltOf compareBytes x y = false) (h2 : ltOf compareBytes y x = false) : x = y := by
  rw [lt_cmp, decide_eq_false_iff_not, List.not_lt] at h1 h2
  exact List.le_antisymm h2 h1
theorem le_cmp : (fun x y : List UInt8 => !ltOf compareBytes y x) = fun x y => decide (x ≤ y) := by
  funext x y
  rw [lt_cmp]
  by_cases h : y < x
  · rw [decide_eq_true h, decide_eq_false (List.not_le.2 h)]; rfl
  · rw [decide_eq_false h, decide_eq_true (List.not_lt.1 h)]; rfl
theorem heap_sortedK {w : World} {g n : Nat} {os : Array Obj} {cur : Array Value} {e : TypeId} {fr : Nat × Nat} (F : Array Value) (hb : w.heap[g]? = some (.cells cur e fr)) :
    (grow (putRow id (Sort.ahead w n) g 0 F) os).heap[g]? = some (.cells (putCells id 0 F cur) e fr) := by
  have hg : g < w.heap.size := (Array.getElem?_eq_some_iff.1 hb).1
  rw [heap_grow_old _ _ (by simpa using hg)]
  simp [putRow, mapBlock, Sort.ahead, Array.getElem?_modify, hb, onCells]
theorem grownBy_sortedK {w : World} {g n : Nat} {os : Array Obj} (F : Array Value) : w.grownBy (grow (putRow id (Sort.ahead w n) g 0 F) os) (some g) := by
  refine ⟨rfl, rfl, rfl, by simp, fun k hk hne => ?_⟩
  rw [heap_grow_old _ _ (by simpa using hk)]
  have : g ≠ k := fun e => hne (by rw [e])
  simp [putRow, mapBlock, Sort.ahead, Array.getElem?_modify, this]
theorem take_putCellsK (cur F : Array Value) (h : F.size ≤ cur.size) : (putCells id 0 F cur).toList.take F.size = F.toList := by
  apply List.ext_getElem?
  intro j
  by_cases hj : j < F.size
  · rw [List.getElem?_take_of_lt hj, Array.getElem?_toList]
    simp [putCells, hj, show j < cur.size by omega]
  · rw [List.getElem?_take_eq_none (by omega), List.getElem?_eq_none (by simp; omega)]
theorem flat_list {N : Nat} {rows l : List ByteArray} : (flatK (encU N rows) 3 (l.map (·.data.toList)).toArray).toList = l.flatMap (encL N rows) := by
  apply List.ext_getElem?
  intro t
  have hs : (flatK (encU N rows) 3 (l.map (·.data.toList)).toArray).toList.length = l.length * 3 := by simp
  have hs2 : (l.flatMap (encL N rows)).length = l.length * 3 := flat_length (C := encL N rows) (sz := 3) (fun x _ => encL_len N rows x)
  by_cases ht : t < l.length * 3
  · have hi : t / 3 < l.length := by omega
    have h1 := get_flatK (encU N rows) 3 (l.map (·.data.toList)).toArray t (by simpa using ht)
    have h2 := flat_get (C := encL N rows) (sz := 3) (fun x _ => encL_len N rows x) (List.getElem?_eq_getElem hi) (Nat.mod_lt t (by omega : 0 < 3))
    have e : t / 3 * 3 + t % 3 = t := by omega
    rw [e] at h2
    rw [h2, List.getElem?_eq_getElem (by rw [hs]; exact ht)]
    have h3 : t % 3 < (encL N rows l[t / 3]).length := by rw [encL_len]; omega
    rw [List.getElem?_eq_getElem h3]
    congr 1
    have h4 : (l.map (·.data.toList)).toArray[t / 3]! = l[t / 3].data.toList := by simp [hi]
    rw [h4] at h1
    have h5 : encU N rows l[t / 3].data.toList = encL N rows l[t / 3] := by unfold encU; rw [ofL_eq]
    rw [h5] at h1
    have h6 : (encL N rows l[t / 3])[t % 3]! = (encL N rows l[t / 3])[t % 3] := by rw [getElem!_pos]
    rw [h6] at h1
    rw [← h1]
    have h7 : t < (flatK (encU N rows) 3 (l.map (·.data.toList)).toArray).size := by simpa using ht
    rw [getElem!_pos _ t h7]
    rfl
  · rw [List.getElem?_eq_none (by rw [hs]; omega), List.getElem?_eq_none (by rw [hs2]; omega)]
set_option maxHeartbeats 1000000 in
theorem lineCmp_any (x y : ByteArray) (a b c d : Int) (W : World) : Calls Tryz.prog 94 #[.agg #[.string x, .int .i64 a, .int .i64 b], .agg #[.string y, .int .i64 c, .int .i64 d]] W fun e w' => e = .returned (.int .i64 (compareBytes x.data.toList y.data.toList)) ∧ ∃ q os', w' = grow (W.drewN q) os' := by
  have hcon := fun W' => Tryz.strings_Compare x y W'
  generalize compareBytes x.data.toList y.data.toList = r at hcon ⊢
  go_enter Tryz.func94, Tryz.ntmps94
  go_wp2_with (go_at_call 95; refine (hcon _).mono ?_; rintro e w' ⟨rfl, rfl⟩)
  go_ret
  exact ⟨rfl, 0, _, by rw [alloc_eq_grow, alloc_eq_grow, grow_grow]; rfl⟩
theorem cmpLays_line (N : Nat) (rows : List ByteArray) (blk off size : Nat) (w : World) : CmpLays Tryz.prog 94 #[] (encU N rows) 3 compareBytes blk off size w :=
  fun _ _ _ _ x y => by
    have h := lineCmp_any (ofL x) (ofL y) ((idxB (ofL x) rows / N : Nat) : Int) ((idxB (ofL x) rows % N : Nat) : Int) ((idxB (ofL y) rows / N : Nat) : Int) ((idxB (ofL y) rows % N : Nat) : Int)
    simp only [ofL_list] at h
    exact h _
set_option maxHeartbeats 2000000 in
theorem sortLn_any (N g n c base : Nat) (rows : List ByteArray) (w : World) (h : w.ownsRow base 107 3 (.slice (some ⟨g, 0, none⟩) n c) n (rows.flatMap (encL N rows))) (hl : n ≤ 100000000) : Calls Tryz.prog 93 #[.slice (some ⟨g, 0, none⟩) n c, .func (.func 94) #[] #[]] w fun e w' =>
    e = .returned (.tuple #[]) ∧ w'.ownsRow base 107 3 (.slice (some ⟨g, 0, none⟩) n c) n ((sortB rows).flatMap (encL N rows)) ∧ Below base w w' ∧ w.grownBy w' (some g) := by
  have eg : ∀ args w, (callFunc 94 args).run Tryz.prog w = .ok (.enter 94 args) w := enters_of Tryz.func94 (by kernel_rfl) rfl
  have hlen : rows.length = n := by
    have h1 := h.1
    rw [flat_length (C := encL N rows) (sz := 3) (fun x _ => encL_len N rows x)] at h1
    omega
  subst hlen
  rcases h.2 with ⟨hnil, _⟩ | ⟨g', cap, cur, hv, hbase, hb, h1, h2, h3, h4⟩
  · cases hnil
  · injection hv with ha hn hc
    injection ha with ha
    injection ha with ha
    subst ha hc
    have hsz : (rows.map (·.data.toList)).toArray.size = rows.length := by simp
    have hfl : (flatK (encU N rows) 3 (rows.map (·.data.toList)).toArray).size = rows.length * 3 := by simp
    have hH : HoldsK (encU N rows) 3 w g 0 (rows.map (·.data.toList)).toArray := by
      intro j hj
      rw [hfl] at hj
      have hfz := h.frozenAt j
      have hc := h.cellAt j hj
      rw [Nat.zero_add]
      refine ⟨?_, hfz⟩
      rw [hc, ← flat_list, Array.getElem?_toList, getElem!_pos _ j (by rw [hfl]; exact hj), Array.getElem?_eq_getElem (by rw [hfl]; exact hj)]
      rfl
    have hS := AnyQ.slices_SortFunc_total Tryz.sortL 3 Tryz.isAgg107 Tryz.sizeOf107 (encU N rows) (fun _ => rfl) (fun x => encL_one N rows _) compareBytes swo_cmp 94 #[] g 0 c (rows.map (·.data.toList)).toArray w eg (cmpLays_line N rows g 0 _ w) hH (Array.getElem?_eq_some_iff.1 hb).1 (by rw [hsz]; omega) tot_cmp
    rw [hsz, le_cmp] at hS
    have hperm : ((rows.map (·.data.toList)).toArray.toList.mergeSort fun x y => decide (x ≤ y)) = (sortB rows).map (·.data.toList) := by
      rw [← merge_sortB rows, List.map_map]
      conv => lhs; rw [← List.map_id ((rows.map (·.data.toList)).toArray.toList.mergeSort fun x y => decide (x ≤ y))]
      apply List.map_congr_left
      intro x _
      exact (ofL_list x).symm
    rw [hperm] at hS
    change Calls Tryz.prog 93 _ _ _ at hS
    refine hS.mono ?_
    rintro e w' ⟨rfl, k, os, rfl⟩
    have hg := grownBy_sortedK (w := w) (g := g) (n := k) (os := os) (flatK (encU N rows) 3 ((sortB rows).map (·.data.toList)).toArray)
    have hsl : (flatK (encU N rows) 3 ((sortB rows).map (·.data.toList)).toArray).size = rows.length * 3 := by simp [sortB_len]
    refine ⟨rfl, ⟨?_, .inr ⟨g, c, _, rfl, hbase, heap_sortedK _ hb, h1, h2, by simp [putCells, h3], ?_⟩⟩, (Below.refl _ _).grown hg (by have := (Array.getElem?_eq_some_iff.1 hb).1; omega) (fun k hk => by cases hk; exact hbase), hg⟩
    · rw [flat_length (C := encL N rows) (sz := 3) (fun x _ => encL_len N rows x), sortB_len]
    · rw [← flat_list, ← hsl]
      exact take_putCellsK cur _ (by rw [hsl, h3]; exact Nat.mul_le_mul_right _ h1)
end Go.Proofs.YthgadnhkbmimiaaGreat
