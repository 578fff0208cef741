/- One method put into a row (slices.Insert). -/
import Derived.Test.YtnbehldacehiiaaS6
import Derived.Test.YtnbehldacehiiaaTG
namespace Go.Proofs.Ytnbehldacehiiaa
open Go Go.RowKit
set_option linter.unusedVariables false
set_option linter.unusedSimpArgs false

theorem gr_setRow {a w : World} {g : Nat} (h : a.grownBy w (some g)) (cs : Array Value) : a.grownBy (w.setRow g cs) (some g) :=
  have b := bw_setRow (Below.refl 0 w) (Nat.zero_le g) cs
  ⟨b.os.trans h.os, b.tape.trans h.tape, b.output.trans h.output, Nat.le_trans h.size b.size, fun k hk hne => (setRow_other w g k cs (fun e => hne (by rw [e]))).trans (h.block k hk hne)⟩
theorem gr_bw {a w : World} (h : Below a.heap.size a w) (row : Option Nat) : a.grownBy w row := ⟨h.os, h.tape, h.output, h.size, fun k hk _ => h.block k hk⟩
theorem under_int : Try.prog.underlying 3 = some (.int .i64) := Try.underlying3
set_option maxRecDepth 100000 in
set_option maxHeartbeats 4000000 in
/-- At the end: an append. -/
theorem insMt_end (base n H : Nat) (v : Value) (cs vs : List Value) (w : World) (hown : w.ownsRow base 36 3 v n cs) (hn : n ≤ 100000) (hbase : base ≤ w.heap.size)
    (hv : w.heap[H]? = some (.cells vs.toArray 36 (0, 0))) (hvl : vs.length = 3) (h1 : ∀ u ∈ vs, u.oneCell' = true) :
    Calls Try.prog 66 #[v, .int .i64 n, .slice (some ⟨H, 0, none⟩) 1 1] w fun e w' =>
      ∃ r, e = .returned r ∧ w'.ownsRow base 36 3 r (n + 1) (cs ++ vs) ∧ Below base w w' ∧ w.grownBy w' v.ownBlock := by
  have hsl : Sl w 3 (.slice (some ⟨H, 0, none⟩) 1 1) 1 vs := sl_of_own (base := 0) (e := 36) (own_of_heap (cs := vs.toArray) hv (Nat.zero_le _) (by unfold maxLen; omega) (by simp [hvl]))
  obtain ⟨A, c, rfl, hnc, hcm, _⟩ := sl_of_own hown
  unfold maxLen at hcm
  have hni : (n : Int) ≤ (n : Int) := Int.le_refl _
  have hni0 : (0 : Int) ≤ (n : Int) := by omega
  have hni1 : (n : Int) ≤ (c : Int) := by omega
  go_enter Try.func66, Try.ntmps66
  go_wp2_with (at_builtin; go_must (refine wpList_app_sl w rfl _ _ _ rfl base 36 _ 3 48 Try.underlying25 info_meth rfl (by omega) hown rfl hsl (nilok_own (own_of_heap (base := 0) (size := 3) (n := 1) hv (Nat.zero_le _) (by unfold maxLen; omega) (by simp [hvl]))) rfl h1 (by omega) (by omega) hbase ?_); intro v2 w2 hown2 hb2 hg2 _)
  all_goals
    go_ret
    exact ⟨_, rfl, hown2, hb2, by cases A <;> exact hg2⟩
theorem sz_Mt : (Try.prog.info? 36).map (·.size) = some 3 := by kernel_rfl
theorem szOf_Mt (w : World) : (Go.sizeOf 36).run Try.prog w = .ok 3 w := by
  obtain ⟨i0, hi0, hz0, hzs, hzb⟩ := info_parts info_meth
  simp [Go.sizeOf, typeInfo, hi0, hzs]
set_option maxRecDepth 100000 in
set_option maxHeartbeats 4000000 in
/-- Ahead of the end, and there is room: in place. -/
theorem insMt_shift (base n c g i H : Nat) (cs vs : List Value) (w : World) (hown : w.ownsRow base 36 3 (.slice (some ⟨g, 0, none⟩) n c) n cs) (hi : i < n) (hroom : n + 1 ≤ c)
    (hv : w.heap[H]? = some (.cells vs.toArray 36 (0, 0))) (hvl : vs.length = 3) (h1 : ∀ u ∈ vs, u.oneCell' = true) (h1c : ∀ u ∈ cs, u.oneCell' = true) (hH : H ≠ g) :
    Calls Try.prog 66 #[.slice (some ⟨g, 0, none⟩) n c, .int .i64 i, .slice (some ⟨H, 0, none⟩) 1 1] w fun e w' =>
      ∃ r, e = .returned r ∧ w'.ownsRow base 36 3 r (n + 1) (cs.take (i * 3) ++ vs ++ cs.drop (i * 3)) ∧ Below base w w' ∧ w.grownBy w' (some g) := by
  obtain ⟨hbg, hnc, hcm, cur, hcur, hcl, htk⟩ := own_form hown
  have hcsl : cs.length = n * 3 := hown.1
  have hgl : g < w.heap.size := (Array.getElem?_eq_some_iff.1 hcur).1
  have hsp := ins_splice (i := i * 3) (n := n * 3) (m := 3) (by omega) hvl (by omega) htk
  unfold maxLen at hcm
  have hgd : w.drew.heap[g]? = some (.cells cur.toArray 36 (0, 0)) := hcur
  have hdl : (cs.drop (i * 3)).length = (n - i) * 3 := by rw [List.length_drop, hcsl]; omega
  have hcell : ∀ j v, cs[j]? = some v → w.cell? ⟨g, j, none⟩ = some v := fun j v hj => by
    have hl := (List.getElem?_eq_some_iff.1 hj).1
    rw [hown.cellAt j (by omega)]; exact hj
  have hov : ∀ lb cb, (callFunc 93 #[.slice (some ⟨H, 0, none⟩) 1 1, .slice (some ⟨g, (i + 1) * 3, none⟩) lb cb]).run Try.prog w = .ok (.value (.bool false)) w := fun lb cb => by
    rw [run_callFunc_extern Try.func93 (by kernel_rfl) (by kernel_rfl) (by kernel_rfl) (e := Extern.SlicesOverlaps.overlaps #[25, 25] #[4]) (by kernel_rfl),
      Lib.run_overlaps_apart w 25 4 36 Try.underlying25 3 szOf_Mt ⟨H, 0, none⟩ ⟨g, (i + 1) * 3, none⟩ 1 1 lb cb hH 36 36 vs.length cur.length (by simp [World.shape?, hv]) (by simp [World.shape?, hcur]) (by omega) (by simp [World.frozen?, hv]) (by simp [World.frozen?, hv])]
    rfl
  have hcp1 : ∀ ty dc sc, (Builtin.copy_ #[25, 25] ty #[.slice (some ⟨g, (i + 1) * 3, none⟩) (n - i) dc, .slice (some ⟨g, i * 3, none⟩) (n + 1 - i) sc]).run Try.prog w.drew = .ok (goInt (Nat.min (n + 1 - i) (n - i))) (w.drew.setRow g (splice cur (i * 3 + 3) (cs.drop (i * 3))).toArray) := fun ty dc sc => by
    have h := run_copy_rowN (P := Try.prog) w.drew 25 25 ty 36 3 g ((i + 1) * 3) (n - i) dc ⟨g, i * 3, none⟩ (n + 1 - i) sc cur.toArray 36 (cs.drop (i * 3)) Try.underlying25 sz_Mt hgd
      (by rw [hdl]; congr 1; simp only [Nat.min_def]; split <;> omega)
      (fun j v hj => by rw [Addr.add_lit]; exact hcell (i * 3 + j) v (by rwa [List.getElem?_drop] at hj)) (by rw [hdl]; simp; omega) (fun v hv => h1c v (List.mem_of_mem_drop hv))
    rw [h]
    unfold splice
    rw [show (i + 1) * 3 = i * 3 + 3 by omega, List.append_assoc]
  obtain ⟨S1, hS1⟩ : ∃ S1, S1 = splice cur (i * 3 + 3) (cs.drop (i * 3)) := ⟨_, rfl⟩
  have hS1l : S1.length = c * 3 := by rw [hS1, length_splice _ _ _ (by rw [hdl]; omega), hcl]
  have hg1 : (w.drew.setRow g S1.toArray).heap[g]? = some (.cells S1.toArray 36 (0, 0)) := setRow_heap w.drew g _ _ _ _ hgd
  have hv1 : (w.drew.setRow g S1.toArray).heap[H]? = some (.cells vs.toArray 36 (0, 0)) := (setRow_other w.drew g H _ hH).trans hv
  rw [← hS1] at hcp1 hsp
  have hcp2 : ∀ ty dc, (Builtin.copy_ #[25, 25] ty #[.slice (some ⟨g, i * 3, none⟩) (n + 1 - i) dc, .slice (some ⟨H, 0, none⟩) 1 1]).run Try.prog (w.drew.setRow g S1.toArray) = .ok (goInt (Nat.min 1 (n + 1 - i))) ((w.drew.setRow g S1.toArray).setRow g (splice S1 (i * 3) vs).toArray) := fun ty dc => by
    have h := run_copy_rowN (P := Try.prog) (w.drew.setRow g S1.toArray) 25 25 ty 36 3 g (i * 3) (n + 1 - i) dc ⟨H, 0, none⟩ 1 1 S1.toArray 36 vs Try.underlying25 sz_Mt hg1
      (by rw [hvl, show Nat.min 1 (n + 1 - i) = 1 by simp only [Nat.min_def]; split <;> omega])
      (fun j v hj => by rw [Addr.add_lit, Nat.zero_add, heap_cell hv1]; simpa using hj) (by rw [hvl]; simp; omega) h1
    rw [h]
    unfold splice
    rw [List.append_assoc]
  have Hfin : Hid (((w.drew.setRow g S1.toArray).setRow g (splice S1 (i * 3) vs).toArray).ownsRow base 36 3 (.slice (some ⟨g, 0, none⟩) (n + 1) c) (n + 1) (cs.take (i * 3) ++ vs ++ cs.drop (i * 3)) ∧ Below base w ((w.drew.setRow g S1.toArray).setRow g (splice S1 (i * 3) vs).toArray) ∧ w.grownBy ((w.drew.setRow g S1.toArray).setRow g (splice S1 (i * 3) vs).toArray) (some g)) := Lib.hid
    ⟨own_mk hbg hroom (by unfold maxLen; omega) (setRow_heap _ g _ _ _ _ hg1) (by rw [hsp.2, hcl]) (by rw [show (n + 1) * 3 = n * 3 + 3 by omega]; exact hsp.1) (by simp; omega),
     bw_setRow (bw_setRow (Below.drew (Below.refl _ _)) hbg _) hbg _, gr_setRow (gr_setRow (gr_bw (Below.drew (Below.refl _ _)) _) _) _⟩
  have hw1 : IntKind.i64.wrap ((i : Int) + 1) = (i : Int) + 1 := IntWalk.i64_in _ (by omega)
  have hb1 : (0 : Int) ≤ (i : Int) + 1 := by omega
  have hin : (i : Int) ≤ (n : Int) := by omega
  have hz2 : ¬ ((i : Int) = (n : Int)) := by omega
  have htn : ((i : Int) + 1).toNat = i + 1 := by omega
  have hb2 : ¬ (c = i + 1) := by omega
  have hb3 : (i : Int) ≤ (n : Int) + 1 := by omega
  have hb4 : ¬ (c = i) := by omega
  have mixed : Try.prog.follows .mixedOrders = true := by kernel_rfl
  clear hown hcur hcl htk hsp hgd hdl hcell hS1 hS1l hg1 hv1 hv
  go_enter Try.func66, Try.ntmps66
  go_wp2_with (simp only [hov])
  go_region_law_o (refine step_copy_runI rfl _ _ 25 25 rfl _ _ (by simp [Act.eval, Act.put]) (by simp [Act.eval, Act.put]) (hcp1 _ _ _) ?_)
  go_wp2_with (at_builtin; refine wpList_copy_runI _ rfl _ _ 25 25 rfl _ _ rfl rfl (hcp2 _ _) ?_)
  go_ret
  exact ⟨_, rfl, Hfin.out⟩
theorem grow_splice {cs vs Z : List Value} {k m n : Nat} (hk : k ≤ n) (hc : cs.length = n) (hm : vs.length = m) (hz : m + (n - k) ≤ Z.length) :
    (splice (splice (cs.take k ++ Z) k vs) (k + m) (cs.drop k)).take (n + m) = cs.take k ++ vs ++ cs.drop k ∧ (splice (splice (cs.take k ++ Z) k vs) (k + m) (cs.drop k)).length = k + Z.length := by
  have hl : (cs.take k).length = k := by simp; omega
  have hd : (cs.drop k).length = n - k := by simp; omega
  have e1 : splice (cs.take k ++ Z) k vs = (cs.take k ++ vs) ++ Z.drop m := by
    unfold splice
    rw [List.take_append_of_le_length (by omega), List.take_of_length_le (by omega), List.drop_append, List.drop_of_length_le (by omega), hl, hm, List.nil_append, List.append_assoc]
    congr 3; omega
  obtain ⟨P, hP⟩ : ∃ P, P = cs.take k ++ vs := ⟨_, rfl⟩
  have hPl : P.length = k + m := by rw [hP, List.length_append, hl, hm]
  obtain ⟨D, hD⟩ : ∃ D, D = cs.drop k := ⟨_, rfl⟩
  rw [← hD] at hd ⊢
  have e2 : splice (P ++ Z.drop m) (k + m) D = P ++ D ++ Z.drop (m + (n - k)) := by
    unfold splice
    rw [List.take_append_of_le_length (by omega), List.take_of_length_le (by omega), List.drop_append, List.drop_of_length_le (by omega), hPl, hd, List.nil_append, List.drop_drop, List.append_assoc]
    congr 3; omega
  rw [e1, ← hP, e2]
  refine ⟨?_, by simp; omega⟩
  rw [List.take_append_of_le_length (by simp; omega), List.take_of_length_le (by simp; omega)]
set_option maxRecDepth 100000 in
set_option maxHeartbeats 4000000 in
/-- Ahead of the end, and there is no room: a new row. -/
theorem insMt_grow (base n c g i H : Nat) (cs vs : List Value) (w : World) (hown : w.ownsRow base 36 3 (.slice (some ⟨g, 0, none⟩) n c) n cs) (hi : i < n) (hn : n ≤ 100000) (hroom : c < n + 1) (hbase : base ≤ w.heap.size)
    (hv : w.heap[H]? = some (.cells vs.toArray 36 (0, 0))) (hvl : vs.length = 3) (h1 : ∀ u ∈ vs, u.oneCell' = true) (h1c : ∀ u ∈ cs, u.oneCell' = true) :
    Calls Try.prog 66 #[.slice (some ⟨g, 0, none⟩) n c, .int .i64 i, .slice (some ⟨H, 0, none⟩) 1 1] w fun e w' =>
      ∃ r, e = .returned r ∧ w'.ownsRow base 36 3 r (n + 1) (cs.take (i * 3) ++ vs ++ cs.drop (i * 3)) ∧ Below base w w' ∧ w.grownBy w' (some g) := by
  obtain ⟨hbg, hnc, hcm, cur, hcur, hcl, htk⟩ := own_form hown
  obtain ⟨i0, hi0, hz0, hzs, hzb⟩ := info_parts info_meth
  have hcsl : cs.length = n * 3 := hown.1
  have hgl : g < w.heap.size := (Array.getElem?_eq_some_iff.1 hcur).1
  have hHl : H < w.heap.size := (Array.getElem?_eq_some_iff.1 hv).1
  unfold maxLen at hcm
  have hcell : ∀ j v, cs[j]? = some v → w.cell? ⟨g, j, none⟩ = some v := fun j v hj => by
    have hl := (List.getElem?_eq_some_iff.1 hj).1
    rw [hown.cellAt j (by omega)]; exact hj
  have hkk : (n : Int) + 1 - (i : Int) = ((n + 1 - i : Nat) : Int) := by omega
  have hik : i + (n + 1 - i) = n + 1 := by omega
  have hold : (Builtin.firstCells i0.size i (.slice (some ⟨g, 0, none⟩) i c)).run Try.prog w.drew = .ok (cs.take (i * 3)).toArray w.drew := by
    rw [hzs]
    exact run_firstCells_some w.drew 3 i ⟨g, 0, none⟩ i c (cs.take (i * 3)) (by rw [List.length_take]; omega) (fun j v hj => by
      rw [Addr.add_lit, Nat.zero_add]
      rw [List.getElem?_take] at hj
      split at hj
      · exact hcell j v hj
      · cases hj)
  have hrz : ∀ ty, (Builtin.append_ #[25, 3] ty #[.slice (some ⟨g, 0, none⟩) i c, .int .i64 ((n : Int) + 1 - (i : Int))]).run Try.prog w =
      .ok (.slice (some ⟨w.heap.size, 0, none⟩) (n + 1) (grownCap w (n + 1) c 36)) (w.drew.alloc (.cells ((cs.take (i * 3)).toArray ++ Builtin.zeroCells (Value.agg #[.string ⟨#[]⟩, .int .i64 0, .slice none 0 0]).cells (n + 1 - i) ++ Builtin.zeroCells (Value.agg #[.string ⟨#[]⟩, .int .i64 0, .slice none 0 0]).cells (grownCap w (n + 1) c 36 - (n + 1))) 36)) := fun ty => by
    have h := Lib.run_append_grow_zeros w 25 3 ty 36 i0 _ .i64 .i64 Try.underlying25 Try.underlying3 hi0 hz0 (some ⟨g, 0, none⟩) i c (cs.take (i * 3)) hold (n + 1 - i) (by omega) (by omega) (by omega) (by omega) (by rw [hzb]; omega) (by rw [hzb, hik]; exact growslice_fits hroom (by omega))
    rw [hik] at h
    rw [hkk]; exact h
  obtain ⟨G, hG⟩ : ∃ G, G = grownCap w (n + 1) c 36 := ⟨_, rfl⟩
  have hGn : n + 1 ≤ G := by rw [hG]; exact grownCap_ge w _ _ _
  have hG63 : G ≤ 9223372036854775807 := by
    have := grownCap_le_maxLen w (n + 1) c 36 (by unfold maxLen; omega)
    rw [← hG] at this
    unfold maxLen at this
    omega
  obtain ⟨Z, hZ⟩ : ∃ Z : List Value, Z = (Builtin.zeroCells (Value.agg #[.string ⟨#[]⟩, .int .i64 0, .slice none 0 0]).cells (n + 1 - i) ++ Builtin.zeroCells (Value.agg #[.string ⟨#[]⟩, .int .i64 0, .slice none 0 0]).cells (G - (n + 1))).toList := ⟨_, rfl⟩
  have hZl : Z.length = (n + 1 - i) * 3 + (G - (n + 1)) * 3 := by
    rw [hZ]; simp [Builtin.zeroCells, Value.cells]
  have hrow : ((cs.take (i * 3)).toArray ++ Builtin.zeroCells (Value.agg #[.string ⟨#[]⟩, .int .i64 0, .slice none 0 0]).cells (n + 1 - i) ++ Builtin.zeroCells (Value.agg #[.string ⟨#[]⟩, .int .i64 0, .slice none 0 0]).cells (G - (n + 1))) = (cs.take (i * 3) ++ Z).toArray := by
    rw [hZ]; apply Array.toList_inj.1; simp
  rw [← hG, hrow] at hrz
  have hsp := grow_splice (k := i * 3) (m := 3) (n := n * 3) (Z := Z) (by omega) hcsl hvl (by omega)
  obtain ⟨ROW, hROW⟩ : ∃ ROW, ROW = cs.take (i * 3) ++ Z := ⟨_, rfl⟩
  have hRl : ROW.length = G * 3 := by rw [hROW, List.length_append, hZl]; simp; omega
  rw [← hROW] at hrz hsp
  have hcpA : ∀ (W : World), W.heap[w.heap.size]? = some (.cells ROW.toArray 36 (0, 0)) → W.heap[H]? = some (.cells vs.toArray 36 (0, 0)) → ∀ ty dc, (Builtin.copy_ #[25, 25] ty #[.slice (some ⟨w.heap.size, i * 3, none⟩) (n + 1 - i) dc, .slice (some ⟨H, 0, none⟩) 1 1]).run Try.prog W = .ok (goInt (Nat.min 1 (n + 1 - i))) (W.setRow w.heap.size (splice ROW (i * 3) vs).toArray) := fun W hg1 hv1 ty dc => by
    have h := run_copy_rowN (P := Try.prog) W 25 25 ty 36 3 w.heap.size (i * 3) (n + 1 - i) dc ⟨H, 0, none⟩ 1 1 ROW.toArray 36 vs Try.underlying25 sz_Mt hg1
      (by rw [hvl, show Nat.min 1 (n + 1 - i) = 1 by simp only [Nat.min_def]; split <;> omega])
      (fun j v hj => by rw [Addr.add_lit, Nat.zero_add, heap_cell hv1]; simpa using hj) (by rw [hvl]; simp; omega) h1
    rw [h]
    unfold splice
    rw [List.append_assoc]
  obtain ⟨S1, hS1⟩ : ∃ S1, S1 = splice ROW (i * 3) vs := ⟨_, rfl⟩
  have hS1l : S1.length = G * 3 := by rw [hS1, length_splice _ _ _ (by rw [hvl]; omega), hRl]
  rw [← hS1] at hcpA hsp
  have hdl : (cs.drop (i * 3)).length = (n - i) * 3 := by rw [List.length_drop, hcsl]; omega
  have hcpB : ∀ (W : World), W.heap[w.heap.size]? = some (.cells S1.toArray 36 (0, 0)) → W.heap[g]? = some (.cells cur.toArray 36 (0, 0)) → ∀ ty dc sc, (Builtin.copy_ #[25, 25] ty #[.slice (some ⟨w.heap.size, (i + 1) * 3, none⟩) (n - i) dc, .slice (some ⟨g, i * 3, none⟩) (n - i) sc]).run Try.prog W = .ok (goInt (Nat.min (n - i) (n - i))) (W.setRow w.heap.size (splice S1 (i * 3 + 3) (cs.drop (i * 3))).toArray) := fun W hg1 hc1 ty dc sc => by
    have h := run_copy_rowN (P := Try.prog) W 25 25 ty 36 3 w.heap.size ((i + 1) * 3) (n - i) dc ⟨g, i * 3, none⟩ (n - i) sc S1.toArray 36 (cs.drop (i * 3)) Try.underlying25 sz_Mt hg1
      (by rw [hdl]; congr 1; simp only [Nat.min_def]; split <;> omega)
      (fun j v hj => by
        rw [Addr.add_lit, heap_cell hc1]
        rw [List.getElem?_drop] at hj
        have := hcell _ v hj
        rw [heap_cell hcur] at this
        exact this) (by rw [hdl]; simp; omega) (fun v hv => h1c v (List.mem_of_mem_drop hv))
    rw [h]
    unfold splice
    rw [show (i + 1) * 3 = i * 3 + 3 by omega, List.append_assoc]
  obtain ⟨S2, hS2⟩ : ∃ S2, S2 = splice S1 (i * 3 + 3) (cs.drop (i * 3)) := ⟨_, rfl⟩
  rw [← hS2] at hcpB hsp
  have hne : g ≠ w.heap.size := by omega
  have hnH : H ≠ w.heap.size := by omega
  have Hsp := Lib.hid hsp
  have hw1 : IntKind.i64.wrap ((i : Int) + 1) = (i : Int) + 1 := IntWalk.i64_in _ (by omega)
  have hb1 : (0 : Int) ≤ (i : Int) + 1 := by omega
  have hin : (i : Int) ≤ (n : Int) := by omega
  have hz2 : ¬ ((i : Int) = (n : Int)) := by omega
  have hz3 : (c : Int) < (n : Int) + 1 := by omega
  have htn : ((i : Int) + 1).toNat = i + 1 := by omega
  have hb2 : ¬ (G = i + 1) := by omega
  have hb5 : ¬ (G = i) := by omega
  have hb3 : (i : Int) ≤ (n : Int) + 1 := by omega
  have hb4 : ¬ (c = i) := by omega
  have mixed : Try.prog.follows .mixedOrders = true := by kernel_rfl
  have Hcur := Lib.hid hcur
  have Hv := Lib.hid hv
  obtain ⟨W1, hW1⟩ : ∃ W1, W1 = (w.alloc (.cells ROW.toArray 36)).drew := ⟨_, rfl⟩
  have hcA := hcpA W1 (by rw [hW1]; exact heap_new w _) (by rw [hW1]; exact (Below.heap_alloc w _ H hHl).trans hv)
  have hg2 : (W1.setRow w.heap.size S1.toArray).heap[w.heap.size]? = some (.cells S1.toArray 36 (0, 0)) := setRow_heap W1 _ _ _ _ _ (by rw [hW1]; exact heap_new w _)
  have hc2 : (W1.setRow w.heap.size S1.toArray).heap[g]? = some (.cells cur.toArray 36 (0, 0)) := (setRow_other _ _ g _ hne).trans (by rw [hW1]; exact (Below.heap_alloc w _ g hgl).trans hcur)
  have hcB := hcpB (W1.setRow w.heap.size S1.toArray).drew hg2 hc2
  have hfin : ((W1.setRow w.heap.size S1.toArray).drew.setRow w.heap.size S2.toArray).ownsRow base 36 3 (.slice (some ⟨w.heap.size, 0, none⟩) (n + 1) G) (n + 1) (cs.take (i * 3) ++ vs ++ cs.drop (i * 3)) ∧ Below base w ((W1.setRow w.heap.size S1.toArray).drew.setRow w.heap.size S2.toArray) ∧ w.grownBy ((W1.setRow w.heap.size S1.toArray).drew.setRow w.heap.size S2.toArray) (some g) :=
    ⟨own_mk hbase hGn (by unfold maxLen; omega) (setRow_heap _ _ _ _ _ _ hg2) (by rw [hsp.2, hZl]; omega) (by rw [show (n + 1) * 3 = n * 3 + 3 by omega]; exact hsp.1) (by simp; omega),
     bw_setRow (Below.drew (bw_setRow (by rw [hW1]; exact Below.drew ((Below.refl _ _).alloc hbase _)) hbase _)) hbase _,
     gr_bw (bw_setRow (Below.drew (bw_setRow (by rw [hW1]; exact Below.drew ((Below.refl _ _).alloc (Nat.le_refl _) _)) (Nat.le_refl _) _)) (Nat.le_refl _) _) _⟩
  have Hfin := Lib.hid hfin
  rw [hW1] at hcA
  have HW1 := Lib.hid hW1
  clear hW1
  clear hcpA hcpB hfin hg2 hc2
  clear hkk hik hold hROW hG hRl hrow hZ hZl hown hcur hv hcl htk hsp hcell hS1 hS1l hS2 hdl
  go_enter Try.func66, Try.ntmps66
  go_wp2_with (at_builtin; refine Lib.wpList_append_run _ rfl _ _ _ _ rfl _ _ rfl rfl _ _ (hrz _) ?_)
  rw [← HW1.out]
  clear hcA
  go_region_law_o (refine step_copy_runI rfl _ _ 25 25 rfl _ _ (by simp [Act.eval, Act.put]) (by simp [Act.eval, Act.put]) (hcB _ _ _) ?_)
  go_wp2_with fail
  go_ret
  exact ⟨_, rfl, Hfin.out⟩
end Go.Proofs.Ytnbehldacehiiaa
