/- What the law on obstacles draws. (Printed by a program: tools/mkXI.py.) -/
import Derived.Test.YtheppimoncokcaaGreatPk40
import Derived.Test.YtheppimoncokcaaGreatPk47
namespace Go.Proofs.YtheppimoncokcaaGreat
open Go Go.RowKit
set_option linter.unusedVariables false
set_option linter.unusedSimpArgs false

/-- With the obstacle's box E and its result's block O. -/
structure DO (w : World) (R K O G D E : Nat) (nm : ByteArray) (n : Int) (v : Value) (ss : List ByteArray) (b s : ByteArray) (x y z : Int) (W : World) : Prop where
  dn : DN w R K G D nm n v ss b s W
  ro : ∃ zs, W.ownsRow w.heap.size 58 3 (.slice (some ⟨O, 0, none⟩) 1 1) 1 zs
  ex : W.ownsRow w.heap.size 58 3 (.slice (some ⟨E, 0, none⟩) 1 1) 1 [.int .i64 x, .int .i64 y, .int .i64 z]
  ne2 : O ≠ E
theorem DO.to {w : World} {R K O G D E : Nat} {nm : ByteArray} {n : Int} {v : Value} {ss : List ByteArray} {b s : ByteArray} {x y z : Int} {W W' : World} (h : DO w R K O G D E nm n v ss b s x y z W) (hb : Below W.heap.size W W') : DO w R K O G D E nm n v ss b s x y z W' := ⟨h.dn.to hb, let ⟨zs, hz⟩ := h.ro; ⟨zs, own_to hz hb⟩, own_to h.ex hb, h.ne2⟩
theorem DO.drew {w : World} {R K O G D E : Nat} {nm : ByteArray} {n : Int} {v : Value} {ss : List ByteArray} {b s : ByteArray} {x y z : Int} {W : World} (h : DO w R K O G D E nm n v ss b s x y z W) : DO w R K O G D E nm n v ss b s x y z W.drew := h.to (Below.drew (Below.refl _ _))
theorem DO.draw {w : World} {R K O G D E : Nat} {nm : ByteArray} {n : Int} {v : Value} {ss : List ByteArray} {b s : ByteArray} {x y z : Int} {C lim : Nat} {W W' : World} (h : DO w R K O G D E nm n v ss b s x y z W) (hC : w.heap.size ≤ C) (hc : Cur W C lim) (hg : W.grownBy W' (some C)) : DO w R K O G D E nm n v ss b s x y z W' :=
  ⟨h.dn.draw hC hc hg, let ⟨zs, hz⟩ := h.ro; ⟨zs, own_noC hz hc (by decide) hg⟩, own_noC h.ex hc (by decide) hg, h.ne2⟩
theorem DO.setR1 {w : World} {R K O G D E : Nat} {nm : ByteArray} {n : Int} {v : Value} {ss : List ByteArray} {b s : ByteArray} {x y z : Int} {W : World} (h : DO w R K O G D E nm n v ss b s x y z W) (j : Nat) (u : Value) : DO w R K O G D E nm n v ss b s x y z (W.setCell ⟨R, j, none⟩ u) := by
  obtain ⟨xs, hx⟩ := h.dn.rm
  obtain ⟨zs, hz⟩ := h.ro
  exact ⟨h.dn.setR1 j u, ⟨zs, own_ne1 hz (own_blk_ne hz hx (by decide)) j u⟩, own_ne1 h.ex (own_blk_ne h.ex hx (by decide)) j u, h.ne2⟩
theorem DO.setK1 {w : World} {R K O G D E : Nat} {nm : ByteArray} {n : Int} {v : Value} {ss : List ByteArray} {b s : ByteArray} {x y z : Int} {W : World} (h : DO w R K O G D E nm n v ss b s x y z W) (j : Nat) (u : Value) : DO w R K O G D E nm n v ss b s x y z (W.setCell ⟨K, j, none⟩ u) := by
  obtain ⟨xs, hx⟩ := h.dn.rk
  obtain ⟨zs, hz⟩ := h.ro
  exact ⟨h.dn.setK1 j u, ⟨zs, own_ne1 hz (own_blk_ne hz hx (by decide)) j u⟩, own_ne1 h.ex (own_blk_ne h.ex hx (by decide)) j u, h.ne2⟩
theorem DN.other {w : World} {R K G D : Nat} {nm : ByteArray} {n : Int} {v : Value} {ss : List ByteArray} {b s : ByteArray} {W : World} (h : DN w R K G D nm n v ss b s W) {g base : Nat} {zs : List Value} (hz : W.ownsRow base 58 3 (.slice (some ⟨g, 0, none⟩) 1 1) 1 zs) (hb : w.heap.size ≤ base) (j : Nat) (u : Value) : DN w R K G D nm n v ss b s (W.setCell ⟨g, j, none⟩ u) := by
  obtain ⟨xs, hx⟩ := h.rm
  obtain ⟨ys, hy⟩ := h.rk
  exact ⟨grow_setB9 h.bw (Nat.le_trans hb (hz.lt g rfl).1) u, ⟨xs, own_ne1 hx (own_blk_ne hx hz (by decide)) j u⟩, ⟨ys, own_ne1 hy (own_blk_ne hy hz (by decide)) j u⟩, own_ne1 h.box (own_blk_ne h.box hz (by decide)) j u, own_ne1 h.kx (own_blk_ne h.kx hz (by decide)) j u, h.row.kept (gb_set (gb_refl W g) j u) ((own_kindsX h.row hz (by decide)).imp id (fun x y => x (by rw [y]; rfl))), h.ne, h.nk⟩
theorem DO.setO1 {w : World} {R K O G D E : Nat} {nm : ByteArray} {n : Int} {v : Value} {ss : List ByteArray} {b s : ByteArray} {x y z : Int} {W : World} (h : DO w R K O G D E nm n v ss b s x y z W) (j : Nat) (u : Value) : DO w R K O G D E nm n v ss b s x y z (W.setCell ⟨O, j, none⟩ u) := by
  obtain ⟨zs, hz⟩ := h.ro
  exact ⟨h.dn.other hz (Nat.le_refl _) j u, ⟨_, own_set hz j u⟩, own_ne1 h.ex h.ne2.symm j u, h.ne2⟩
theorem DO.setE1 {w : World} {R K O G D E : Nat} {nm : ByteArray} {n : Int} {v : Value} {ss : List ByteArray} {b s : ByteArray} {x y z : Int} {x' y' z' : Int} {W : World} (h : DO w R K O G D E nm n v ss b s x y z W) (j : Nat) (u : Value) (he : [Value.int .i64 x, .int .i64 y, .int .i64 z].set j u = [.int .i64 x', .int .i64 y', .int .i64 z']) : DO w R K O G D E nm n v ss b s x' y' z' (W.setCell ⟨E, j, none⟩ u) := by
  obtain ⟨zs, hz⟩ := h.ro
  refine ⟨h.dn.other h.ex (Nat.le_refl _) j u, ⟨zs, own_ne1 hz h.ne2 j u⟩, ?_, h.ne2⟩
  have := own_set h.ex j u
  rw [he] at this
  exact this
theorem DO.setR {w : World} {R K O G D E : Nat} {nm : ByteArray} {n : Int} {v : Value} {ss : List ByteArray} {b s : ByteArray} {x y z : Int} {W : World} {a0 a1 a2 : Value} (h : DO w R K O G D E nm n v ss b s x y z W) : DO w R K O G D E nm n v ss b s x y z (((W.setCell ⟨R, 0, none⟩ a0).setCell ⟨R, 1, none⟩ a1).setCell ⟨R, 2, none⟩ a2) := ((h.setR1 0 a0).setR1 1 a1).setR1 2 a2
theorem DO.setK {w : World} {R K O G D E : Nat} {nm : ByteArray} {n : Int} {v : Value} {ss : List ByteArray} {b s : ByteArray} {x y z : Int} {W : World} {a0 a1 : Value} (h : DO w R K O G D E nm n v ss b s x y z W) : DO w R K O G D E nm n v ss b s x y z ((W.setCell ⟨K, 0, none⟩ a0).setCell ⟨K, 1, none⟩ a1) := (h.setK1 0 a0).setK1 1 a1
theorem DO.setO {w : World} {R K O G D E : Nat} {nm : ByteArray} {n : Int} {v : Value} {ss : List ByteArray} {b s : ByteArray} {x y z : Int} {W : World} {a0 a1 a2 : Value} (h : DO w R K O G D E nm n v ss b s x y z W) : DO w R K O G D E nm n v ss b s x y z (((W.setCell ⟨O, 0, none⟩ a0).setCell ⟨O, 1, none⟩ a1).setCell ⟨O, 2, none⟩ a2) := ((h.setO1 0 a0).setO1 1 a1).setO1 2 a2
theorem DO.all {w : World} {R K O G D E : Nat} {nm : ByteArray} {n : Int} {v : Value} {ss : List ByteArray} {b s : ByteArray} {x y z : Int} {W : World} (h : DO w R K O G D E nm n v ss b s x y z W) : DO w R K O G D E nm n v ss b s x y z W ∧ W.cell? ⟨G, 0, none⟩ = some (.string nm) ∧ W.cell? ⟨G, 1, none⟩ = some (.int .i64 n) ∧ W.cell? ⟨G, 2, none⟩ = some (v) ∧ W.cell? ⟨D, 0, none⟩ = some (.string b) ∧ W.cell? ⟨D, 1, none⟩ = some (.string s) ∧ W.cell? ⟨E, 0, none⟩ = some (.int .i64 x) ∧ W.cell? ⟨E, 1, none⟩ = some (.int .i64 y) ∧ W.cell? ⟨E, 2, none⟩ = some (.int .i64 z) ∧ W.cell? ⟨R, 0, none⟩ = some (oldC R 0 W) ∧ W.cell? ⟨R, 1, none⟩ = some (oldC R 1 W) ∧ W.cell? ⟨R, 2, none⟩ = some (oldC R 2 W) ∧ W.cell? ⟨K, 0, none⟩ = some (oldC K 0 W) ∧ W.cell? ⟨K, 1, none⟩ = some (oldC K 1 W) ∧ W.cell? ⟨O, 0, none⟩ = some (oldC O 0 W) ∧ W.cell? ⟨O, 1, none⟩ = some (oldC O 1 W) ∧ W.cell? ⟨O, 2, none⟩ = some (oldC O 2 W) ∧ W.frozen? ⟨R, 0, none⟩ = false ∧ W.frozen? ⟨R, 1, none⟩ = false ∧ W.frozen? ⟨R, 2, none⟩ = false ∧ W.frozen? ⟨K, 0, none⟩ = false ∧ W.frozen? ⟨K, 1, none⟩ = false ∧ W.frozen? ⟨O, 0, none⟩ = false ∧ W.frozen? ⟨O, 1, none⟩ = false ∧ W.frozen? ⟨O, 2, none⟩ = false := by
  obtain ⟨_, g0, g1, g2, d0, d1, r0, r1, r2, k0, k1, f0, f1, f2, f3, f4⟩ := h.dn.all
  obtain ⟨zs, hz⟩ := h.ro
  have hl : zs.length = 3 := hz.1
  refine ⟨h, g0, g1, g2, d0, d1, (h.ex.cellAt 0 (by omega)).trans rfl, (h.ex.cellAt 1 (by omega)).trans rfl, (h.ex.cellAt 2 (by omega)).trans rfl, r0, r1, r2, k0, k1, ?_, ?_, ?_, f0, f1, f2, f3, f4, hz.frozenAt _, hz.frozenAt _, hz.frozenAt _⟩
  · exact oldC_of (x := zs[0]) (by rw [hz.cellAt 0 (by omega)]; simp [hl])
  · exact oldC_of (x := zs[1]) (by rw [hz.cellAt 1 (by omega)]; simp [hl])
  · exact oldC_of (x := zs[2]) (by rw [hz.cellAt 2 (by omega)]; simp [hl])
theorem DO.allR {w : World} {R K O G D E : Nat} {nm : ByteArray} {n : Int} {v : Value} {ss : List ByteArray} {b s : ByteArray} {x y z : Int} {W : World} {a0 a1 a2 : Value} (h : DO w R K O G D E nm n v ss b s x y z W ∧ W.cell? ⟨G, 0, none⟩ = some (.string nm) ∧ W.cell? ⟨G, 1, none⟩ = some (.int .i64 n) ∧ W.cell? ⟨G, 2, none⟩ = some (v) ∧ W.cell? ⟨D, 0, none⟩ = some (.string b) ∧ W.cell? ⟨D, 1, none⟩ = some (.string s) ∧ W.cell? ⟨E, 0, none⟩ = some (.int .i64 x) ∧ W.cell? ⟨E, 1, none⟩ = some (.int .i64 y) ∧ W.cell? ⟨E, 2, none⟩ = some (.int .i64 z) ∧ W.cell? ⟨R, 0, none⟩ = some (oldC R 0 W) ∧ W.cell? ⟨R, 1, none⟩ = some (oldC R 1 W) ∧ W.cell? ⟨R, 2, none⟩ = some (oldC R 2 W) ∧ W.cell? ⟨K, 0, none⟩ = some (oldC K 0 W) ∧ W.cell? ⟨K, 1, none⟩ = some (oldC K 1 W) ∧ W.cell? ⟨O, 0, none⟩ = some (oldC O 0 W) ∧ W.cell? ⟨O, 1, none⟩ = some (oldC O 1 W) ∧ W.cell? ⟨O, 2, none⟩ = some (oldC O 2 W) ∧ W.frozen? ⟨R, 0, none⟩ = false ∧ W.frozen? ⟨R, 1, none⟩ = false ∧ W.frozen? ⟨R, 2, none⟩ = false ∧ W.frozen? ⟨K, 0, none⟩ = false ∧ W.frozen? ⟨K, 1, none⟩ = false ∧ W.frozen? ⟨O, 0, none⟩ = false ∧ W.frozen? ⟨O, 1, none⟩ = false ∧ W.frozen? ⟨O, 2, none⟩ = false) : DO w R K O G D E nm n v ss b s x y z (((W.setCell ⟨R, 0, none⟩ a0).setCell ⟨R, 1, none⟩ a1).setCell ⟨R, 2, none⟩ a2) ∧ (((W.setCell ⟨R, 0, none⟩ a0).setCell ⟨R, 1, none⟩ a1).setCell ⟨R, 2, none⟩ a2).cell? ⟨G, 0, none⟩ = some (.string nm) ∧ (((W.setCell ⟨R, 0, none⟩ a0).setCell ⟨R, 1, none⟩ a1).setCell ⟨R, 2, none⟩ a2).cell? ⟨G, 1, none⟩ = some (.int .i64 n) ∧ (((W.setCell ⟨R, 0, none⟩ a0).setCell ⟨R, 1, none⟩ a1).setCell ⟨R, 2, none⟩ a2).cell? ⟨G, 2, none⟩ = some (v) ∧ (((W.setCell ⟨R, 0, none⟩ a0).setCell ⟨R, 1, none⟩ a1).setCell ⟨R, 2, none⟩ a2).cell? ⟨D, 0, none⟩ = some (.string b) ∧ (((W.setCell ⟨R, 0, none⟩ a0).setCell ⟨R, 1, none⟩ a1).setCell ⟨R, 2, none⟩ a2).cell? ⟨D, 1, none⟩ = some (.string s) ∧ (((W.setCell ⟨R, 0, none⟩ a0).setCell ⟨R, 1, none⟩ a1).setCell ⟨R, 2, none⟩ a2).cell? ⟨E, 0, none⟩ = some (.int .i64 x) ∧ (((W.setCell ⟨R, 0, none⟩ a0).setCell ⟨R, 1, none⟩ a1).setCell ⟨R, 2, none⟩ a2).cell? ⟨E, 1, none⟩ = some (.int .i64 y) ∧ (((W.setCell ⟨R, 0, none⟩ a0).setCell ⟨R, 1, none⟩ a1).setCell ⟨R, 2, none⟩ a2).cell? ⟨E, 2, none⟩ = some (.int .i64 z) ∧ (((W.setCell ⟨R, 0, none⟩ a0).setCell ⟨R, 1, none⟩ a1).setCell ⟨R, 2, none⟩ a2).cell? ⟨R, 0, none⟩ = some (oldC R 0 (((W.setCell ⟨R, 0, none⟩ a0).setCell ⟨R, 1, none⟩ a1).setCell ⟨R, 2, none⟩ a2)) ∧ (((W.setCell ⟨R, 0, none⟩ a0).setCell ⟨R, 1, none⟩ a1).setCell ⟨R, 2, none⟩ a2).cell? ⟨R, 1, none⟩ = some (oldC R 1 (((W.setCell ⟨R, 0, none⟩ a0).setCell ⟨R, 1, none⟩ a1).setCell ⟨R, 2, none⟩ a2)) ∧ (((W.setCell ⟨R, 0, none⟩ a0).setCell ⟨R, 1, none⟩ a1).setCell ⟨R, 2, none⟩ a2).cell? ⟨R, 2, none⟩ = some (oldC R 2 (((W.setCell ⟨R, 0, none⟩ a0).setCell ⟨R, 1, none⟩ a1).setCell ⟨R, 2, none⟩ a2)) ∧ (((W.setCell ⟨R, 0, none⟩ a0).setCell ⟨R, 1, none⟩ a1).setCell ⟨R, 2, none⟩ a2).cell? ⟨K, 0, none⟩ = some (oldC K 0 (((W.setCell ⟨R, 0, none⟩ a0).setCell ⟨R, 1, none⟩ a1).setCell ⟨R, 2, none⟩ a2)) ∧ (((W.setCell ⟨R, 0, none⟩ a0).setCell ⟨R, 1, none⟩ a1).setCell ⟨R, 2, none⟩ a2).cell? ⟨K, 1, none⟩ = some (oldC K 1 (((W.setCell ⟨R, 0, none⟩ a0).setCell ⟨R, 1, none⟩ a1).setCell ⟨R, 2, none⟩ a2)) ∧ (((W.setCell ⟨R, 0, none⟩ a0).setCell ⟨R, 1, none⟩ a1).setCell ⟨R, 2, none⟩ a2).cell? ⟨O, 0, none⟩ = some (oldC O 0 (((W.setCell ⟨R, 0, none⟩ a0).setCell ⟨R, 1, none⟩ a1).setCell ⟨R, 2, none⟩ a2)) ∧ (((W.setCell ⟨R, 0, none⟩ a0).setCell ⟨R, 1, none⟩ a1).setCell ⟨R, 2, none⟩ a2).cell? ⟨O, 1, none⟩ = some (oldC O 1 (((W.setCell ⟨R, 0, none⟩ a0).setCell ⟨R, 1, none⟩ a1).setCell ⟨R, 2, none⟩ a2)) ∧ (((W.setCell ⟨R, 0, none⟩ a0).setCell ⟨R, 1, none⟩ a1).setCell ⟨R, 2, none⟩ a2).cell? ⟨O, 2, none⟩ = some (oldC O 2 (((W.setCell ⟨R, 0, none⟩ a0).setCell ⟨R, 1, none⟩ a1).setCell ⟨R, 2, none⟩ a2)) ∧ (((W.setCell ⟨R, 0, none⟩ a0).setCell ⟨R, 1, none⟩ a1).setCell ⟨R, 2, none⟩ a2).frozen? ⟨R, 0, none⟩ = false ∧ (((W.setCell ⟨R, 0, none⟩ a0).setCell ⟨R, 1, none⟩ a1).setCell ⟨R, 2, none⟩ a2).frozen? ⟨R, 1, none⟩ = false ∧ (((W.setCell ⟨R, 0, none⟩ a0).setCell ⟨R, 1, none⟩ a1).setCell ⟨R, 2, none⟩ a2).frozen? ⟨R, 2, none⟩ = false ∧ (((W.setCell ⟨R, 0, none⟩ a0).setCell ⟨R, 1, none⟩ a1).setCell ⟨R, 2, none⟩ a2).frozen? ⟨K, 0, none⟩ = false ∧ (((W.setCell ⟨R, 0, none⟩ a0).setCell ⟨R, 1, none⟩ a1).setCell ⟨R, 2, none⟩ a2).frozen? ⟨K, 1, none⟩ = false ∧ (((W.setCell ⟨R, 0, none⟩ a0).setCell ⟨R, 1, none⟩ a1).setCell ⟨R, 2, none⟩ a2).frozen? ⟨O, 0, none⟩ = false ∧ (((W.setCell ⟨R, 0, none⟩ a0).setCell ⟨R, 1, none⟩ a1).setCell ⟨R, 2, none⟩ a2).frozen? ⟨O, 1, none⟩ = false ∧ (((W.setCell ⟨R, 0, none⟩ a0).setCell ⟨R, 1, none⟩ a1).setCell ⟨R, 2, none⟩ a2).frozen? ⟨O, 2, none⟩ = false := h.1.setR.all
theorem DO.allRd {w : World} {R K O G D E : Nat} {nm : ByteArray} {n : Int} {v : Value} {ss : List ByteArray} {b s : ByteArray} {x y z : Int} {W : World} {a0 a1 a2 : Value} (h : DO w R K O G D E nm n v ss b s x y z W.drew ∧ W.drew.cell? ⟨G, 0, none⟩ = some (.string nm) ∧ W.drew.cell? ⟨G, 1, none⟩ = some (.int .i64 n) ∧ W.drew.cell? ⟨G, 2, none⟩ = some (v) ∧ W.drew.cell? ⟨D, 0, none⟩ = some (.string b) ∧ W.drew.cell? ⟨D, 1, none⟩ = some (.string s) ∧ W.drew.cell? ⟨E, 0, none⟩ = some (.int .i64 x) ∧ W.drew.cell? ⟨E, 1, none⟩ = some (.int .i64 y) ∧ W.drew.cell? ⟨E, 2, none⟩ = some (.int .i64 z) ∧ W.drew.cell? ⟨R, 0, none⟩ = some (oldC R 0 W.drew) ∧ W.drew.cell? ⟨R, 1, none⟩ = some (oldC R 1 W.drew) ∧ W.drew.cell? ⟨R, 2, none⟩ = some (oldC R 2 W.drew) ∧ W.drew.cell? ⟨K, 0, none⟩ = some (oldC K 0 W.drew) ∧ W.drew.cell? ⟨K, 1, none⟩ = some (oldC K 1 W.drew) ∧ W.drew.cell? ⟨O, 0, none⟩ = some (oldC O 0 W.drew) ∧ W.drew.cell? ⟨O, 1, none⟩ = some (oldC O 1 W.drew) ∧ W.drew.cell? ⟨O, 2, none⟩ = some (oldC O 2 W.drew) ∧ W.drew.frozen? ⟨R, 0, none⟩ = false ∧ W.drew.frozen? ⟨R, 1, none⟩ = false ∧ W.drew.frozen? ⟨R, 2, none⟩ = false ∧ W.drew.frozen? ⟨K, 0, none⟩ = false ∧ W.drew.frozen? ⟨K, 1, none⟩ = false ∧ W.drew.frozen? ⟨O, 0, none⟩ = false ∧ W.drew.frozen? ⟨O, 1, none⟩ = false ∧ W.drew.frozen? ⟨O, 2, none⟩ = false) : DO w R K O G D E nm n v ss b s x y z (((W.setCell ⟨R, 0, none⟩ a0).setCell ⟨R, 1, none⟩ a1).setCell ⟨R, 2, none⟩ a2).drew ∧ (((W.setCell ⟨R, 0, none⟩ a0).setCell ⟨R, 1, none⟩ a1).setCell ⟨R, 2, none⟩ a2).drew.cell? ⟨G, 0, none⟩ = some (.string nm) ∧ (((W.setCell ⟨R, 0, none⟩ a0).setCell ⟨R, 1, none⟩ a1).setCell ⟨R, 2, none⟩ a2).drew.cell? ⟨G, 1, none⟩ = some (.int .i64 n) ∧ (((W.setCell ⟨R, 0, none⟩ a0).setCell ⟨R, 1, none⟩ a1).setCell ⟨R, 2, none⟩ a2).drew.cell? ⟨G, 2, none⟩ = some (v) ∧ (((W.setCell ⟨R, 0, none⟩ a0).setCell ⟨R, 1, none⟩ a1).setCell ⟨R, 2, none⟩ a2).drew.cell? ⟨D, 0, none⟩ = some (.string b) ∧ (((W.setCell ⟨R, 0, none⟩ a0).setCell ⟨R, 1, none⟩ a1).setCell ⟨R, 2, none⟩ a2).drew.cell? ⟨D, 1, none⟩ = some (.string s) ∧ (((W.setCell ⟨R, 0, none⟩ a0).setCell ⟨R, 1, none⟩ a1).setCell ⟨R, 2, none⟩ a2).drew.cell? ⟨E, 0, none⟩ = some (.int .i64 x) ∧ (((W.setCell ⟨R, 0, none⟩ a0).setCell ⟨R, 1, none⟩ a1).setCell ⟨R, 2, none⟩ a2).drew.cell? ⟨E, 1, none⟩ = some (.int .i64 y) ∧ (((W.setCell ⟨R, 0, none⟩ a0).setCell ⟨R, 1, none⟩ a1).setCell ⟨R, 2, none⟩ a2).drew.cell? ⟨E, 2, none⟩ = some (.int .i64 z) ∧ (((W.setCell ⟨R, 0, none⟩ a0).setCell ⟨R, 1, none⟩ a1).setCell ⟨R, 2, none⟩ a2).drew.cell? ⟨R, 0, none⟩ = some (oldC R 0 (((W.setCell ⟨R, 0, none⟩ a0).setCell ⟨R, 1, none⟩ a1).setCell ⟨R, 2, none⟩ a2).drew) ∧ (((W.setCell ⟨R, 0, none⟩ a0).setCell ⟨R, 1, none⟩ a1).setCell ⟨R, 2, none⟩ a2).drew.cell? ⟨R, 1, none⟩ = some (oldC R 1 (((W.setCell ⟨R, 0, none⟩ a0).setCell ⟨R, 1, none⟩ a1).setCell ⟨R, 2, none⟩ a2).drew) ∧ (((W.setCell ⟨R, 0, none⟩ a0).setCell ⟨R, 1, none⟩ a1).setCell ⟨R, 2, none⟩ a2).drew.cell? ⟨R, 2, none⟩ = some (oldC R 2 (((W.setCell ⟨R, 0, none⟩ a0).setCell ⟨R, 1, none⟩ a1).setCell ⟨R, 2, none⟩ a2).drew) ∧ (((W.setCell ⟨R, 0, none⟩ a0).setCell ⟨R, 1, none⟩ a1).setCell ⟨R, 2, none⟩ a2).drew.cell? ⟨K, 0, none⟩ = some (oldC K 0 (((W.setCell ⟨R, 0, none⟩ a0).setCell ⟨R, 1, none⟩ a1).setCell ⟨R, 2, none⟩ a2).drew) ∧ (((W.setCell ⟨R, 0, none⟩ a0).setCell ⟨R, 1, none⟩ a1).setCell ⟨R, 2, none⟩ a2).drew.cell? ⟨K, 1, none⟩ = some (oldC K 1 (((W.setCell ⟨R, 0, none⟩ a0).setCell ⟨R, 1, none⟩ a1).setCell ⟨R, 2, none⟩ a2).drew) ∧ (((W.setCell ⟨R, 0, none⟩ a0).setCell ⟨R, 1, none⟩ a1).setCell ⟨R, 2, none⟩ a2).drew.cell? ⟨O, 0, none⟩ = some (oldC O 0 (((W.setCell ⟨R, 0, none⟩ a0).setCell ⟨R, 1, none⟩ a1).setCell ⟨R, 2, none⟩ a2).drew) ∧ (((W.setCell ⟨R, 0, none⟩ a0).setCell ⟨R, 1, none⟩ a1).setCell ⟨R, 2, none⟩ a2).drew.cell? ⟨O, 1, none⟩ = some (oldC O 1 (((W.setCell ⟨R, 0, none⟩ a0).setCell ⟨R, 1, none⟩ a1).setCell ⟨R, 2, none⟩ a2).drew) ∧ (((W.setCell ⟨R, 0, none⟩ a0).setCell ⟨R, 1, none⟩ a1).setCell ⟨R, 2, none⟩ a2).drew.cell? ⟨O, 2, none⟩ = some (oldC O 2 (((W.setCell ⟨R, 0, none⟩ a0).setCell ⟨R, 1, none⟩ a1).setCell ⟨R, 2, none⟩ a2).drew) ∧ (((W.setCell ⟨R, 0, none⟩ a0).setCell ⟨R, 1, none⟩ a1).setCell ⟨R, 2, none⟩ a2).drew.frozen? ⟨R, 0, none⟩ = false ∧ (((W.setCell ⟨R, 0, none⟩ a0).setCell ⟨R, 1, none⟩ a1).setCell ⟨R, 2, none⟩ a2).drew.frozen? ⟨R, 1, none⟩ = false ∧ (((W.setCell ⟨R, 0, none⟩ a0).setCell ⟨R, 1, none⟩ a1).setCell ⟨R, 2, none⟩ a2).drew.frozen? ⟨R, 2, none⟩ = false ∧ (((W.setCell ⟨R, 0, none⟩ a0).setCell ⟨R, 1, none⟩ a1).setCell ⟨R, 2, none⟩ a2).drew.frozen? ⟨K, 0, none⟩ = false ∧ (((W.setCell ⟨R, 0, none⟩ a0).setCell ⟨R, 1, none⟩ a1).setCell ⟨R, 2, none⟩ a2).drew.frozen? ⟨K, 1, none⟩ = false ∧ (((W.setCell ⟨R, 0, none⟩ a0).setCell ⟨R, 1, none⟩ a1).setCell ⟨R, 2, none⟩ a2).drew.frozen? ⟨O, 0, none⟩ = false ∧ (((W.setCell ⟨R, 0, none⟩ a0).setCell ⟨R, 1, none⟩ a1).setCell ⟨R, 2, none⟩ a2).drew.frozen? ⟨O, 1, none⟩ = false ∧ (((W.setCell ⟨R, 0, none⟩ a0).setCell ⟨R, 1, none⟩ a1).setCell ⟨R, 2, none⟩ a2).drew.frozen? ⟨O, 2, none⟩ = false := by
  have h2 : DO w R K O G D E nm n v ss b s x y z (((W.setCell ⟨R, 0, none⟩ a0).setCell ⟨R, 1, none⟩ a1).setCell ⟨R, 2, none⟩ a2).drew := h.1.setR
  exact h2.all
theorem DO.allK {w : World} {R K O G D E : Nat} {nm : ByteArray} {n : Int} {v : Value} {ss : List ByteArray} {b s : ByteArray} {x y z : Int} {W : World} {a0 a1 : Value} (h : DO w R K O G D E nm n v ss b s x y z W ∧ W.cell? ⟨G, 0, none⟩ = some (.string nm) ∧ W.cell? ⟨G, 1, none⟩ = some (.int .i64 n) ∧ W.cell? ⟨G, 2, none⟩ = some (v) ∧ W.cell? ⟨D, 0, none⟩ = some (.string b) ∧ W.cell? ⟨D, 1, none⟩ = some (.string s) ∧ W.cell? ⟨E, 0, none⟩ = some (.int .i64 x) ∧ W.cell? ⟨E, 1, none⟩ = some (.int .i64 y) ∧ W.cell? ⟨E, 2, none⟩ = some (.int .i64 z) ∧ W.cell? ⟨R, 0, none⟩ = some (oldC R 0 W) ∧ W.cell? ⟨R, 1, none⟩ = some (oldC R 1 W) ∧ W.cell? ⟨R, 2, none⟩ = some (oldC R 2 W) ∧ W.cell? ⟨K, 0, none⟩ = some (oldC K 0 W) ∧ W.cell? ⟨K, 1, none⟩ = some (oldC K 1 W) ∧ W.cell? ⟨O, 0, none⟩ = some (oldC O 0 W) ∧ W.cell? ⟨O, 1, none⟩ = some (oldC O 1 W) ∧ W.cell? ⟨O, 2, none⟩ = some (oldC O 2 W) ∧ W.frozen? ⟨R, 0, none⟩ = false ∧ W.frozen? ⟨R, 1, none⟩ = false ∧ W.frozen? ⟨R, 2, none⟩ = false ∧ W.frozen? ⟨K, 0, none⟩ = false ∧ W.frozen? ⟨K, 1, none⟩ = false ∧ W.frozen? ⟨O, 0, none⟩ = false ∧ W.frozen? ⟨O, 1, none⟩ = false ∧ W.frozen? ⟨O, 2, none⟩ = false) : DO w R K O G D E nm n v ss b s x y z ((W.setCell ⟨K, 0, none⟩ a0).setCell ⟨K, 1, none⟩ a1) ∧ ((W.setCell ⟨K, 0, none⟩ a0).setCell ⟨K, 1, none⟩ a1).cell? ⟨G, 0, none⟩ = some (.string nm) ∧ ((W.setCell ⟨K, 0, none⟩ a0).setCell ⟨K, 1, none⟩ a1).cell? ⟨G, 1, none⟩ = some (.int .i64 n) ∧ ((W.setCell ⟨K, 0, none⟩ a0).setCell ⟨K, 1, none⟩ a1).cell? ⟨G, 2, none⟩ = some (v) ∧ ((W.setCell ⟨K, 0, none⟩ a0).setCell ⟨K, 1, none⟩ a1).cell? ⟨D, 0, none⟩ = some (.string b) ∧ ((W.setCell ⟨K, 0, none⟩ a0).setCell ⟨K, 1, none⟩ a1).cell? ⟨D, 1, none⟩ = some (.string s) ∧ ((W.setCell ⟨K, 0, none⟩ a0).setCell ⟨K, 1, none⟩ a1).cell? ⟨E, 0, none⟩ = some (.int .i64 x) ∧ ((W.setCell ⟨K, 0, none⟩ a0).setCell ⟨K, 1, none⟩ a1).cell? ⟨E, 1, none⟩ = some (.int .i64 y) ∧ ((W.setCell ⟨K, 0, none⟩ a0).setCell ⟨K, 1, none⟩ a1).cell? ⟨E, 2, none⟩ = some (.int .i64 z) ∧ ((W.setCell ⟨K, 0, none⟩ a0).setCell ⟨K, 1, none⟩ a1).cell? ⟨R, 0, none⟩ = some (oldC R 0 ((W.setCell ⟨K, 0, none⟩ a0).setCell ⟨K, 1, none⟩ a1)) ∧ ((W.setCell ⟨K, 0, none⟩ a0).setCell ⟨K, 1, none⟩ a1).cell? ⟨R, 1, none⟩ = some (oldC R 1 ((W.setCell ⟨K, 0, none⟩ a0).setCell ⟨K, 1, none⟩ a1)) ∧ ((W.setCell ⟨K, 0, none⟩ a0).setCell ⟨K, 1, none⟩ a1).cell? ⟨R, 2, none⟩ = some (oldC R 2 ((W.setCell ⟨K, 0, none⟩ a0).setCell ⟨K, 1, none⟩ a1)) ∧ ((W.setCell ⟨K, 0, none⟩ a0).setCell ⟨K, 1, none⟩ a1).cell? ⟨K, 0, none⟩ = some (oldC K 0 ((W.setCell ⟨K, 0, none⟩ a0).setCell ⟨K, 1, none⟩ a1)) ∧ ((W.setCell ⟨K, 0, none⟩ a0).setCell ⟨K, 1, none⟩ a1).cell? ⟨K, 1, none⟩ = some (oldC K 1 ((W.setCell ⟨K, 0, none⟩ a0).setCell ⟨K, 1, none⟩ a1)) ∧ ((W.setCell ⟨K, 0, none⟩ a0).setCell ⟨K, 1, none⟩ a1).cell? ⟨O, 0, none⟩ = some (oldC O 0 ((W.setCell ⟨K, 0, none⟩ a0).setCell ⟨K, 1, none⟩ a1)) ∧ ((W.setCell ⟨K, 0, none⟩ a0).setCell ⟨K, 1, none⟩ a1).cell? ⟨O, 1, none⟩ = some (oldC O 1 ((W.setCell ⟨K, 0, none⟩ a0).setCell ⟨K, 1, none⟩ a1)) ∧ ((W.setCell ⟨K, 0, none⟩ a0).setCell ⟨K, 1, none⟩ a1).cell? ⟨O, 2, none⟩ = some (oldC O 2 ((W.setCell ⟨K, 0, none⟩ a0).setCell ⟨K, 1, none⟩ a1)) ∧ ((W.setCell ⟨K, 0, none⟩ a0).setCell ⟨K, 1, none⟩ a1).frozen? ⟨R, 0, none⟩ = false ∧ ((W.setCell ⟨K, 0, none⟩ a0).setCell ⟨K, 1, none⟩ a1).frozen? ⟨R, 1, none⟩ = false ∧ ((W.setCell ⟨K, 0, none⟩ a0).setCell ⟨K, 1, none⟩ a1).frozen? ⟨R, 2, none⟩ = false ∧ ((W.setCell ⟨K, 0, none⟩ a0).setCell ⟨K, 1, none⟩ a1).frozen? ⟨K, 0, none⟩ = false ∧ ((W.setCell ⟨K, 0, none⟩ a0).setCell ⟨K, 1, none⟩ a1).frozen? ⟨K, 1, none⟩ = false ∧ ((W.setCell ⟨K, 0, none⟩ a0).setCell ⟨K, 1, none⟩ a1).frozen? ⟨O, 0, none⟩ = false ∧ ((W.setCell ⟨K, 0, none⟩ a0).setCell ⟨K, 1, none⟩ a1).frozen? ⟨O, 1, none⟩ = false ∧ ((W.setCell ⟨K, 0, none⟩ a0).setCell ⟨K, 1, none⟩ a1).frozen? ⟨O, 2, none⟩ = false := h.1.setK.all
theorem DO.allKd {w : World} {R K O G D E : Nat} {nm : ByteArray} {n : Int} {v : Value} {ss : List ByteArray} {b s : ByteArray} {x y z : Int} {W : World} {a0 a1 : Value} (h : DO w R K O G D E nm n v ss b s x y z W.drew ∧ W.drew.cell? ⟨G, 0, none⟩ = some (.string nm) ∧ W.drew.cell? ⟨G, 1, none⟩ = some (.int .i64 n) ∧ W.drew.cell? ⟨G, 2, none⟩ = some (v) ∧ W.drew.cell? ⟨D, 0, none⟩ = some (.string b) ∧ W.drew.cell? ⟨D, 1, none⟩ = some (.string s) ∧ W.drew.cell? ⟨E, 0, none⟩ = some (.int .i64 x) ∧ W.drew.cell? ⟨E, 1, none⟩ = some (.int .i64 y) ∧ W.drew.cell? ⟨E, 2, none⟩ = some (.int .i64 z) ∧ W.drew.cell? ⟨R, 0, none⟩ = some (oldC R 0 W.drew) ∧ W.drew.cell? ⟨R, 1, none⟩ = some (oldC R 1 W.drew) ∧ W.drew.cell? ⟨R, 2, none⟩ = some (oldC R 2 W.drew) ∧ W.drew.cell? ⟨K, 0, none⟩ = some (oldC K 0 W.drew) ∧ W.drew.cell? ⟨K, 1, none⟩ = some (oldC K 1 W.drew) ∧ W.drew.cell? ⟨O, 0, none⟩ = some (oldC O 0 W.drew) ∧ W.drew.cell? ⟨O, 1, none⟩ = some (oldC O 1 W.drew) ∧ W.drew.cell? ⟨O, 2, none⟩ = some (oldC O 2 W.drew) ∧ W.drew.frozen? ⟨R, 0, none⟩ = false ∧ W.drew.frozen? ⟨R, 1, none⟩ = false ∧ W.drew.frozen? ⟨R, 2, none⟩ = false ∧ W.drew.frozen? ⟨K, 0, none⟩ = false ∧ W.drew.frozen? ⟨K, 1, none⟩ = false ∧ W.drew.frozen? ⟨O, 0, none⟩ = false ∧ W.drew.frozen? ⟨O, 1, none⟩ = false ∧ W.drew.frozen? ⟨O, 2, none⟩ = false) : DO w R K O G D E nm n v ss b s x y z ((W.setCell ⟨K, 0, none⟩ a0).setCell ⟨K, 1, none⟩ a1).drew ∧ ((W.setCell ⟨K, 0, none⟩ a0).setCell ⟨K, 1, none⟩ a1).drew.cell? ⟨G, 0, none⟩ = some (.string nm) ∧ ((W.setCell ⟨K, 0, none⟩ a0).setCell ⟨K, 1, none⟩ a1).drew.cell? ⟨G, 1, none⟩ = some (.int .i64 n) ∧ ((W.setCell ⟨K, 0, none⟩ a0).setCell ⟨K, 1, none⟩ a1).drew.cell? ⟨G, 2, none⟩ = some (v) ∧ ((W.setCell ⟨K, 0, none⟩ a0).setCell ⟨K, 1, none⟩ a1).drew.cell? ⟨D, 0, none⟩ = some (.string b) ∧ ((W.setCell ⟨K, 0, none⟩ a0).setCell ⟨K, 1, none⟩ a1).drew.cell? ⟨D, 1, none⟩ = some (.string s) ∧ ((W.setCell ⟨K, 0, none⟩ a0).setCell ⟨K, 1, none⟩ a1).drew.cell? ⟨E, 0, none⟩ = some (.int .i64 x) ∧ ((W.setCell ⟨K, 0, none⟩ a0).setCell ⟨K, 1, none⟩ a1).drew.cell? ⟨E, 1, none⟩ = some (.int .i64 y) ∧ ((W.setCell ⟨K, 0, none⟩ a0).setCell ⟨K, 1, none⟩ a1).drew.cell? ⟨E, 2, none⟩ = some (.int .i64 z) ∧ ((W.setCell ⟨K, 0, none⟩ a0).setCell ⟨K, 1, none⟩ a1).drew.cell? ⟨R, 0, none⟩ = some (oldC R 0 ((W.setCell ⟨K, 0, none⟩ a0).setCell ⟨K, 1, none⟩ a1).drew) ∧ ((W.setCell ⟨K, 0, none⟩ a0).setCell ⟨K, 1, none⟩ a1).drew.cell? ⟨R, 1, none⟩ = some (oldC R 1 ((W.setCell ⟨K, 0, none⟩ a0).setCell ⟨K, 1, none⟩ a1).drew) ∧ ((W.setCell ⟨K, 0, none⟩ a0).setCell ⟨K, 1, none⟩ a1).drew.cell? ⟨R, 2, none⟩ = some (oldC R 2 ((W.setCell ⟨K, 0, none⟩ a0).setCell ⟨K, 1, none⟩ a1).drew) ∧ ((W.setCell ⟨K, 0, none⟩ a0).setCell ⟨K, 1, none⟩ a1).drew.cell? ⟨K, 0, none⟩ = some (oldC K 0 ((W.setCell ⟨K, 0, none⟩ a0).setCell ⟨K, 1, none⟩ a1).drew) ∧ ((W.setCell ⟨K, 0, none⟩ a0).setCell ⟨K, 1, none⟩ a1).drew.cell? ⟨K, 1, none⟩ = some (oldC K 1 ((W.setCell ⟨K, 0, none⟩ a0).setCell ⟨K, 1, none⟩ a1).drew) ∧ ((W.setCell ⟨K, 0, none⟩ a0).setCell ⟨K, 1, none⟩ a1).drew.cell? ⟨O, 0, none⟩ = some (oldC O 0 ((W.setCell ⟨K, 0, none⟩ a0).setCell ⟨K, 1, none⟩ a1).drew) ∧ ((W.setCell ⟨K, 0, none⟩ a0).setCell ⟨K, 1, none⟩ a1).drew.cell? ⟨O, 1, none⟩ = some (oldC O 1 ((W.setCell ⟨K, 0, none⟩ a0).setCell ⟨K, 1, none⟩ a1).drew) ∧ ((W.setCell ⟨K, 0, none⟩ a0).setCell ⟨K, 1, none⟩ a1).drew.cell? ⟨O, 2, none⟩ = some (oldC O 2 ((W.setCell ⟨K, 0, none⟩ a0).setCell ⟨K, 1, none⟩ a1).drew) ∧ ((W.setCell ⟨K, 0, none⟩ a0).setCell ⟨K, 1, none⟩ a1).drew.frozen? ⟨R, 0, none⟩ = false ∧ ((W.setCell ⟨K, 0, none⟩ a0).setCell ⟨K, 1, none⟩ a1).drew.frozen? ⟨R, 1, none⟩ = false ∧ ((W.setCell ⟨K, 0, none⟩ a0).setCell ⟨K, 1, none⟩ a1).drew.frozen? ⟨R, 2, none⟩ = false ∧ ((W.setCell ⟨K, 0, none⟩ a0).setCell ⟨K, 1, none⟩ a1).drew.frozen? ⟨K, 0, none⟩ = false ∧ ((W.setCell ⟨K, 0, none⟩ a0).setCell ⟨K, 1, none⟩ a1).drew.frozen? ⟨K, 1, none⟩ = false ∧ ((W.setCell ⟨K, 0, none⟩ a0).setCell ⟨K, 1, none⟩ a1).drew.frozen? ⟨O, 0, none⟩ = false ∧ ((W.setCell ⟨K, 0, none⟩ a0).setCell ⟨K, 1, none⟩ a1).drew.frozen? ⟨O, 1, none⟩ = false ∧ ((W.setCell ⟨K, 0, none⟩ a0).setCell ⟨K, 1, none⟩ a1).drew.frozen? ⟨O, 2, none⟩ = false := by
  have h2 : DO w R K O G D E nm n v ss b s x y z ((W.setCell ⟨K, 0, none⟩ a0).setCell ⟨K, 1, none⟩ a1).drew := h.1.setK
  exact h2.all
theorem DO.allO {w : World} {R K O G D E : Nat} {nm : ByteArray} {n : Int} {v : Value} {ss : List ByteArray} {b s : ByteArray} {x y z : Int} {W : World} {a0 a1 a2 : Value} (h : DO w R K O G D E nm n v ss b s x y z W ∧ W.cell? ⟨G, 0, none⟩ = some (.string nm) ∧ W.cell? ⟨G, 1, none⟩ = some (.int .i64 n) ∧ W.cell? ⟨G, 2, none⟩ = some (v) ∧ W.cell? ⟨D, 0, none⟩ = some (.string b) ∧ W.cell? ⟨D, 1, none⟩ = some (.string s) ∧ W.cell? ⟨E, 0, none⟩ = some (.int .i64 x) ∧ W.cell? ⟨E, 1, none⟩ = some (.int .i64 y) ∧ W.cell? ⟨E, 2, none⟩ = some (.int .i64 z) ∧ W.cell? ⟨R, 0, none⟩ = some (oldC R 0 W) ∧ W.cell? ⟨R, 1, none⟩ = some (oldC R 1 W) ∧ W.cell? ⟨R, 2, none⟩ = some (oldC R 2 W) ∧ W.cell? ⟨K, 0, none⟩ = some (oldC K 0 W) ∧ W.cell? ⟨K, 1, none⟩ = some (oldC K 1 W) ∧ W.cell? ⟨O, 0, none⟩ = some (oldC O 0 W) ∧ W.cell? ⟨O, 1, none⟩ = some (oldC O 1 W) ∧ W.cell? ⟨O, 2, none⟩ = some (oldC O 2 W) ∧ W.frozen? ⟨R, 0, none⟩ = false ∧ W.frozen? ⟨R, 1, none⟩ = false ∧ W.frozen? ⟨R, 2, none⟩ = false ∧ W.frozen? ⟨K, 0, none⟩ = false ∧ W.frozen? ⟨K, 1, none⟩ = false ∧ W.frozen? ⟨O, 0, none⟩ = false ∧ W.frozen? ⟨O, 1, none⟩ = false ∧ W.frozen? ⟨O, 2, none⟩ = false) : DO w R K O G D E nm n v ss b s x y z (((W.setCell ⟨O, 0, none⟩ a0).setCell ⟨O, 1, none⟩ a1).setCell ⟨O, 2, none⟩ a2) ∧ (((W.setCell ⟨O, 0, none⟩ a0).setCell ⟨O, 1, none⟩ a1).setCell ⟨O, 2, none⟩ a2).cell? ⟨G, 0, none⟩ = some (.string nm) ∧ (((W.setCell ⟨O, 0, none⟩ a0).setCell ⟨O, 1, none⟩ a1).setCell ⟨O, 2, none⟩ a2).cell? ⟨G, 1, none⟩ = some (.int .i64 n) ∧ (((W.setCell ⟨O, 0, none⟩ a0).setCell ⟨O, 1, none⟩ a1).setCell ⟨O, 2, none⟩ a2).cell? ⟨G, 2, none⟩ = some (v) ∧ (((W.setCell ⟨O, 0, none⟩ a0).setCell ⟨O, 1, none⟩ a1).setCell ⟨O, 2, none⟩ a2).cell? ⟨D, 0, none⟩ = some (.string b) ∧ (((W.setCell ⟨O, 0, none⟩ a0).setCell ⟨O, 1, none⟩ a1).setCell ⟨O, 2, none⟩ a2).cell? ⟨D, 1, none⟩ = some (.string s) ∧ (((W.setCell ⟨O, 0, none⟩ a0).setCell ⟨O, 1, none⟩ a1).setCell ⟨O, 2, none⟩ a2).cell? ⟨E, 0, none⟩ = some (.int .i64 x) ∧ (((W.setCell ⟨O, 0, none⟩ a0).setCell ⟨O, 1, none⟩ a1).setCell ⟨O, 2, none⟩ a2).cell? ⟨E, 1, none⟩ = some (.int .i64 y) ∧ (((W.setCell ⟨O, 0, none⟩ a0).setCell ⟨O, 1, none⟩ a1).setCell ⟨O, 2, none⟩ a2).cell? ⟨E, 2, none⟩ = some (.int .i64 z) ∧ (((W.setCell ⟨O, 0, none⟩ a0).setCell ⟨O, 1, none⟩ a1).setCell ⟨O, 2, none⟩ a2).cell? ⟨R, 0, none⟩ = some (oldC R 0 (((W.setCell ⟨O, 0, none⟩ a0).setCell ⟨O, 1, none⟩ a1).setCell ⟨O, 2, none⟩ a2)) ∧ (((W.setCell ⟨O, 0, none⟩ a0).setCell ⟨O, 1, none⟩ a1).setCell ⟨O, 2, none⟩ a2).cell? ⟨R, 1, none⟩ = some (oldC R 1 (((W.setCell ⟨O, 0, none⟩ a0).setCell ⟨O, 1, none⟩ a1).setCell ⟨O, 2, none⟩ a2)) ∧ (((W.setCell ⟨O, 0, none⟩ a0).setCell ⟨O, 1, none⟩ a1).setCell ⟨O, 2, none⟩ a2).cell? ⟨R, 2, none⟩ = some (oldC R 2 (((W.setCell ⟨O, 0, none⟩ a0).setCell ⟨O, 1, none⟩ a1).setCell ⟨O, 2, none⟩ a2)) ∧ (((W.setCell ⟨O, 0, none⟩ a0).setCell ⟨O, 1, none⟩ a1).setCell ⟨O, 2, none⟩ a2).cell? ⟨K, 0, none⟩ = some (oldC K 0 (((W.setCell ⟨O, 0, none⟩ a0).setCell ⟨O, 1, none⟩ a1).setCell ⟨O, 2, none⟩ a2)) ∧ (((W.setCell ⟨O, 0, none⟩ a0).setCell ⟨O, 1, none⟩ a1).setCell ⟨O, 2, none⟩ a2).cell? ⟨K, 1, none⟩ = some (oldC K 1 (((W.setCell ⟨O, 0, none⟩ a0).setCell ⟨O, 1, none⟩ a1).setCell ⟨O, 2, none⟩ a2)) ∧ (((W.setCell ⟨O, 0, none⟩ a0).setCell ⟨O, 1, none⟩ a1).setCell ⟨O, 2, none⟩ a2).cell? ⟨O, 0, none⟩ = some (oldC O 0 (((W.setCell ⟨O, 0, none⟩ a0).setCell ⟨O, 1, none⟩ a1).setCell ⟨O, 2, none⟩ a2)) ∧ (((W.setCell ⟨O, 0, none⟩ a0).setCell ⟨O, 1, none⟩ a1).setCell ⟨O, 2, none⟩ a2).cell? ⟨O, 1, none⟩ = some (oldC O 1 (((W.setCell ⟨O, 0, none⟩ a0).setCell ⟨O, 1, none⟩ a1).setCell ⟨O, 2, none⟩ a2)) ∧ (((W.setCell ⟨O, 0, none⟩ a0).setCell ⟨O, 1, none⟩ a1).setCell ⟨O, 2, none⟩ a2).cell? ⟨O, 2, none⟩ = some (oldC O 2 (((W.setCell ⟨O, 0, none⟩ a0).setCell ⟨O, 1, none⟩ a1).setCell ⟨O, 2, none⟩ a2)) ∧ (((W.setCell ⟨O, 0, none⟩ a0).setCell ⟨O, 1, none⟩ a1).setCell ⟨O, 2, none⟩ a2).frozen? ⟨R, 0, none⟩ = false ∧ (((W.setCell ⟨O, 0, none⟩ a0).setCell ⟨O, 1, none⟩ a1).setCell ⟨O, 2, none⟩ a2).frozen? ⟨R, 1, none⟩ = false ∧ (((W.setCell ⟨O, 0, none⟩ a0).setCell ⟨O, 1, none⟩ a1).setCell ⟨O, 2, none⟩ a2).frozen? ⟨R, 2, none⟩ = false ∧ (((W.setCell ⟨O, 0, none⟩ a0).setCell ⟨O, 1, none⟩ a1).setCell ⟨O, 2, none⟩ a2).frozen? ⟨K, 0, none⟩ = false ∧ (((W.setCell ⟨O, 0, none⟩ a0).setCell ⟨O, 1, none⟩ a1).setCell ⟨O, 2, none⟩ a2).frozen? ⟨K, 1, none⟩ = false ∧ (((W.setCell ⟨O, 0, none⟩ a0).setCell ⟨O, 1, none⟩ a1).setCell ⟨O, 2, none⟩ a2).frozen? ⟨O, 0, none⟩ = false ∧ (((W.setCell ⟨O, 0, none⟩ a0).setCell ⟨O, 1, none⟩ a1).setCell ⟨O, 2, none⟩ a2).frozen? ⟨O, 1, none⟩ = false ∧ (((W.setCell ⟨O, 0, none⟩ a0).setCell ⟨O, 1, none⟩ a1).setCell ⟨O, 2, none⟩ a2).frozen? ⟨O, 2, none⟩ = false := h.1.setO.all
theorem DO.allOd {w : World} {R K O G D E : Nat} {nm : ByteArray} {n : Int} {v : Value} {ss : List ByteArray} {b s : ByteArray} {x y z : Int} {W : World} {a0 a1 a2 : Value} (h : DO w R K O G D E nm n v ss b s x y z W.drew ∧ W.drew.cell? ⟨G, 0, none⟩ = some (.string nm) ∧ W.drew.cell? ⟨G, 1, none⟩ = some (.int .i64 n) ∧ W.drew.cell? ⟨G, 2, none⟩ = some (v) ∧ W.drew.cell? ⟨D, 0, none⟩ = some (.string b) ∧ W.drew.cell? ⟨D, 1, none⟩ = some (.string s) ∧ W.drew.cell? ⟨E, 0, none⟩ = some (.int .i64 x) ∧ W.drew.cell? ⟨E, 1, none⟩ = some (.int .i64 y) ∧ W.drew.cell? ⟨E, 2, none⟩ = some (.int .i64 z) ∧ W.drew.cell? ⟨R, 0, none⟩ = some (oldC R 0 W.drew) ∧ W.drew.cell? ⟨R, 1, none⟩ = some (oldC R 1 W.drew) ∧ W.drew.cell? ⟨R, 2, none⟩ = some (oldC R 2 W.drew) ∧ W.drew.cell? ⟨K, 0, none⟩ = some (oldC K 0 W.drew) ∧ W.drew.cell? ⟨K, 1, none⟩ = some (oldC K 1 W.drew) ∧ W.drew.cell? ⟨O, 0, none⟩ = some (oldC O 0 W.drew) ∧ W.drew.cell? ⟨O, 1, none⟩ = some (oldC O 1 W.drew) ∧ W.drew.cell? ⟨O, 2, none⟩ = some (oldC O 2 W.drew) ∧ W.drew.frozen? ⟨R, 0, none⟩ = false ∧ W.drew.frozen? ⟨R, 1, none⟩ = false ∧ W.drew.frozen? ⟨R, 2, none⟩ = false ∧ W.drew.frozen? ⟨K, 0, none⟩ = false ∧ W.drew.frozen? ⟨K, 1, none⟩ = false ∧ W.drew.frozen? ⟨O, 0, none⟩ = false ∧ W.drew.frozen? ⟨O, 1, none⟩ = false ∧ W.drew.frozen? ⟨O, 2, none⟩ = false) : DO w R K O G D E nm n v ss b s x y z (((W.setCell ⟨O, 0, none⟩ a0).setCell ⟨O, 1, none⟩ a1).setCell ⟨O, 2, none⟩ a2).drew ∧ (((W.setCell ⟨O, 0, none⟩ a0).setCell ⟨O, 1, none⟩ a1).setCell ⟨O, 2, none⟩ a2).drew.cell? ⟨G, 0, none⟩ = some (.string nm) ∧ (((W.setCell ⟨O, 0, none⟩ a0).setCell ⟨O, 1, none⟩ a1).setCell ⟨O, 2, none⟩ a2).drew.cell? ⟨G, 1, none⟩ = some (.int .i64 n) ∧ (((W.setCell ⟨O, 0, none⟩ a0).setCell ⟨O, 1, none⟩ a1).setCell ⟨O, 2, none⟩ a2).drew.cell? ⟨G, 2, none⟩ = some (v) ∧ (((W.setCell ⟨O, 0, none⟩ a0).setCell ⟨O, 1, none⟩ a1).setCell ⟨O, 2, none⟩ a2).drew.cell? ⟨D, 0, none⟩ = some (.string b) ∧ (((W.setCell ⟨O, 0, none⟩ a0).setCell ⟨O, 1, none⟩ a1).setCell ⟨O, 2, none⟩ a2).drew.cell? ⟨D, 1, none⟩ = some (.string s) ∧ (((W.setCell ⟨O, 0, none⟩ a0).setCell ⟨O, 1, none⟩ a1).setCell ⟨O, 2, none⟩ a2).drew.cell? ⟨E, 0, none⟩ = some (.int .i64 x) ∧ (((W.setCell ⟨O, 0, none⟩ a0).setCell ⟨O, 1, none⟩ a1).setCell ⟨O, 2, none⟩ a2).drew.cell? ⟨E, 1, none⟩ = some (.int .i64 y) ∧ (((W.setCell ⟨O, 0, none⟩ a0).setCell ⟨O, 1, none⟩ a1).setCell ⟨O, 2, none⟩ a2).drew.cell? ⟨E, 2, none⟩ = some (.int .i64 z) ∧ (((W.setCell ⟨O, 0, none⟩ a0).setCell ⟨O, 1, none⟩ a1).setCell ⟨O, 2, none⟩ a2).drew.cell? ⟨R, 0, none⟩ = some (oldC R 0 (((W.setCell ⟨O, 0, none⟩ a0).setCell ⟨O, 1, none⟩ a1).setCell ⟨O, 2, none⟩ a2).drew) ∧ (((W.setCell ⟨O, 0, none⟩ a0).setCell ⟨O, 1, none⟩ a1).setCell ⟨O, 2, none⟩ a2).drew.cell? ⟨R, 1, none⟩ = some (oldC R 1 (((W.setCell ⟨O, 0, none⟩ a0).setCell ⟨O, 1, none⟩ a1).setCell ⟨O, 2, none⟩ a2).drew) ∧ (((W.setCell ⟨O, 0, none⟩ a0).setCell ⟨O, 1, none⟩ a1).setCell ⟨O, 2, none⟩ a2).drew.cell? ⟨R, 2, none⟩ = some (oldC R 2 (((W.setCell ⟨O, 0, none⟩ a0).setCell ⟨O, 1, none⟩ a1).setCell ⟨O, 2, none⟩ a2).drew) ∧ (((W.setCell ⟨O, 0, none⟩ a0).setCell ⟨O, 1, none⟩ a1).setCell ⟨O, 2, none⟩ a2).drew.cell? ⟨K, 0, none⟩ = some (oldC K 0 (((W.setCell ⟨O, 0, none⟩ a0).setCell ⟨O, 1, none⟩ a1).setCell ⟨O, 2, none⟩ a2).drew) ∧ (((W.setCell ⟨O, 0, none⟩ a0).setCell ⟨O, 1, none⟩ a1).setCell ⟨O, 2, none⟩ a2).drew.cell? ⟨K, 1, none⟩ = some (oldC K 1 (((W.setCell ⟨O, 0, none⟩ a0).setCell ⟨O, 1, none⟩ a1).setCell ⟨O, 2, none⟩ a2).drew) ∧ (((W.setCell ⟨O, 0, none⟩ a0).setCell ⟨O, 1, none⟩ a1).setCell ⟨O, 2, none⟩ a2).drew.cell? ⟨O, 0, none⟩ = some (oldC O 0 (((W.setCell ⟨O, 0, none⟩ a0).setCell ⟨O, 1, none⟩ a1).setCell ⟨O, 2, none⟩ a2).drew) ∧ (((W.setCell ⟨O, 0, none⟩ a0).setCell ⟨O, 1, none⟩ a1).setCell ⟨O, 2, none⟩ a2).drew.cell? ⟨O, 1, none⟩ = some (oldC O 1 (((W.setCell ⟨O, 0, none⟩ a0).setCell ⟨O, 1, none⟩ a1).setCell ⟨O, 2, none⟩ a2).drew) ∧ (((W.setCell ⟨O, 0, none⟩ a0).setCell ⟨O, 1, none⟩ a1).setCell ⟨O, 2, none⟩ a2).drew.cell? ⟨O, 2, none⟩ = some (oldC O 2 (((W.setCell ⟨O, 0, none⟩ a0).setCell ⟨O, 1, none⟩ a1).setCell ⟨O, 2, none⟩ a2).drew) ∧ (((W.setCell ⟨O, 0, none⟩ a0).setCell ⟨O, 1, none⟩ a1).setCell ⟨O, 2, none⟩ a2).drew.frozen? ⟨R, 0, none⟩ = false ∧ (((W.setCell ⟨O, 0, none⟩ a0).setCell ⟨O, 1, none⟩ a1).setCell ⟨O, 2, none⟩ a2).drew.frozen? ⟨R, 1, none⟩ = false ∧ (((W.setCell ⟨O, 0, none⟩ a0).setCell ⟨O, 1, none⟩ a1).setCell ⟨O, 2, none⟩ a2).drew.frozen? ⟨R, 2, none⟩ = false ∧ (((W.setCell ⟨O, 0, none⟩ a0).setCell ⟨O, 1, none⟩ a1).setCell ⟨O, 2, none⟩ a2).drew.frozen? ⟨K, 0, none⟩ = false ∧ (((W.setCell ⟨O, 0, none⟩ a0).setCell ⟨O, 1, none⟩ a1).setCell ⟨O, 2, none⟩ a2).drew.frozen? ⟨K, 1, none⟩ = false ∧ (((W.setCell ⟨O, 0, none⟩ a0).setCell ⟨O, 1, none⟩ a1).setCell ⟨O, 2, none⟩ a2).drew.frozen? ⟨O, 0, none⟩ = false ∧ (((W.setCell ⟨O, 0, none⟩ a0).setCell ⟨O, 1, none⟩ a1).setCell ⟨O, 2, none⟩ a2).drew.frozen? ⟨O, 1, none⟩ = false ∧ (((W.setCell ⟨O, 0, none⟩ a0).setCell ⟨O, 1, none⟩ a1).setCell ⟨O, 2, none⟩ a2).drew.frozen? ⟨O, 2, none⟩ = false := by
  have h2 : DO w R K O G D E nm n v ss b s x y z (((W.setCell ⟨O, 0, none⟩ a0).setCell ⟨O, 1, none⟩ a1).setCell ⟨O, 2, none⟩ a2).drew := h.1.setO
  exact h2.all
/-- The eight cells of the results, written. -/
theorem DO.fin {w : World} {R K O G D E : Nat} {nm : ByteArray} {n : Int} {v : Value} {ss : List ByteArray} {b s : ByteArray} {x y z : Int} {W : World} (h : DO w R K O G D E nm n v ss b s x y z W) (a0 a1 a2 a3 a4 a5 a6 a7 : Value) :
    ∃ W', W' = (((((((W.setCell ⟨R, 0, none⟩ a0).setCell ⟨R, 1, none⟩ a1).setCell ⟨R, 2, none⟩ a2).setCell ⟨K, 0, none⟩ a3).setCell ⟨K, 1, none⟩ a4).setCell ⟨O, 0, none⟩ a5).setCell ⟨O, 1, none⟩ a6).setCell ⟨O, 2, none⟩ a7 ∧ DO w R K O G D E nm n v ss b s x y z W' ∧
      (W'.cell? ⟨R, 0, none⟩ = some a0 ∧ W'.cell? ⟨R, 1, none⟩ = some a1 ∧ W'.cell? ⟨R, 2, none⟩ = some a2) ∧ (W'.cell? ⟨K, 0, none⟩ = some a3 ∧ W'.cell? ⟨K, 1, none⟩ = some a4) ∧ (W'.cell? ⟨O, 0, none⟩ = some a5 ∧ W'.cell? ⟨O, 1, none⟩ = some a6 ∧ W'.cell? ⟨O, 2, none⟩ = some a7) := by
  obtain ⟨n1, n2, n3, n4, n5⟩ := h.dn.nes
  obtain ⟨xs, hx⟩ := h.dn.rm
  obtain ⟨ys, hy⟩ := h.dn.rk
  obtain ⟨zs, hz⟩ := h.ro
  have nRO := own_blk_ne hx hz (by decide)
  have nKO := own_blk_ne hy hz (by decide)
  have hl : xs.length = 3 := hx.1
  have hl2 : ys.length = 2 := hy.1
  have hl3 : zs.length = 3 := hz.1
  refine ⟨_, rfl, (((((((h.setR1 0 a0).setR1 1 a1).setR1 2 a2).setK1 0 a3).setK1 1 a4).setO1 0 a5).setO1 1 a6).setO1 2 a7, ?_, ?_, ?_⟩
  · have h5 := own_ne1 (own_ne1 (own_ne1 (own_ne1 (own_ne1 (own_set (own_set (own_set hx 0 a0) 1 a1) 2 a2) (D := K) (by omega) 0 a3) (D := K) (by omega) 1 a4) (D := O) nRO 0 a5) (D := O) nRO 1 a6) (D := O) nRO 2 a7
    refine ⟨?_, ?_, ?_⟩
    · rw [h5.cellAt 0 (by omega)]; simp [hl]
    · rw [h5.cellAt 1 (by omega)]; simp [hl]
    · rw [h5.cellAt 2 (by omega)]; simp [hl]
  · have h5 := own_ne1 (own_ne1 (own_ne1 (own_set (own_set (own_ne1 (own_ne1 (own_ne1 hy (D := R) (by omega) 0 a0) (D := R) (by omega) 1 a1) (D := R) (by omega) 2 a2) 0 a3) 1 a4) (D := O) nKO 0 a5) (D := O) nKO 1 a6) (D := O) nKO 2 a7
    refine ⟨?_, ?_⟩
    · rw [h5.cellAt 0 (by omega)]; simp [hl2]
    · rw [h5.cellAt 1 (by omega)]; simp [hl2]
  · have h5 := own_set (own_set (own_set (own_ne1 (own_ne1 (own_ne1 (own_ne1 (own_ne1 hz (D := R) nRO.symm 0 a0) (D := R) nRO.symm 1 a1) (D := R) nRO.symm 2 a2) (D := K) nKO.symm 0 a3) (D := K) nKO.symm 1 a4) 0 a5) 1 a6) 2 a7
    refine ⟨?_, ?_, ?_⟩
    · rw [h5.cellAt 0 (by omega)]; simp [hl3]
    · rw [h5.cellAt 1 (by omega)]; simp [hl3]
    · rw [h5.cellAt 2 (by omega)]; simp [hl3]
def PostObst (w : World) (e : Ending) (w' : World) : Prop := ∃ m v k, ∃ x y z : Int, e = .returned (.tuple #[m.v v, k.v, .agg #[.int .i64 x, .int .i64 y, .int .i64 z]]) ∧ PMK w w' m v k
set_option maxRecDepth 100000 in
set_option maxHeartbeats 8000000 in
theorem drawCheckObstacle_any (V : Value) (w : World) (h : BytesAt w w.heap.size V) : Calls Tryz.prog 44 #[V] w (PostObst w) := by
  have H := Lib.hid h
  obtain ⟨A0, n0, c0, zs0, rfl, _⟩ := h
  go_enter Tryz.func44, Tryz.ntmps44
  go_wp2_with fail
  refine box4 (C := fun W => Calls _ _ _ W _) ?_
  intro wb hw hsz k0 k1 k2 k3 hB0
  have C0 := Lib.hid (cur_box H.out hw (by omega) k3)
  have hCw : w.heap.size + 3 < wb.heap.size := (Array.getElem?_eq_some_iff.1 k3).1
  have Hw := Lib.hid hw
  have K0 := Lib.hid (own_of_heap (base := w.heap.size) (n := 1) (size := 3) k0 (Nat.le_refl _) (by unfold maxLen; omega) rfl)
  have K1 := Lib.hid (own_of_heap (base := w.heap.size) (n := 1) (size := 2) k1 (by omega) (by unfold maxLen; omega) rfl)
  have K2 := Lib.hid (own_of_heap (base := w.heap.size) (n := 1) (size := 3) k2 (by omega) (by unfold maxLen; omega) rfl)
  clear k0 k1 k2 k3 hw
  refine (hunted_any wb (w.heap.size + 3) 0 C0.out (by omega)).mono ?_; rintro e w1 ⟨m, v, k, rfl, hz, hl, hs, hst, ⟨hkb, hks⟩, ho, hc, hg⟩
  have C1 := Lib.hid hc
  have B1 := Lib.hid (gb_below Hw.out hg (by omega))
  have O1 := Lib.hid (own_base (base' := w.heap.size) ho (by omega))
  have J0 := Lib.hid (own_noC K0.out C0.out (by decide) hg)
  have J1 := Lib.hid (own_noC K1.out C0.out (by decide) hg)
  have J2 := Lib.hid (own_noC K2.out C0.out (by decide) hg)
  have Hs := Lib.hid hs
  have Hst := Lib.hid hst
  have hz1 : w.heap.size + 3 < w1.heap.size := Nat.lt_of_lt_of_le hCw hg.size
  clear ho hg hc hs hst K0 K1 K2 C0 Hw hB0 hsz
  obtain ⟨nm, n, ss⟩ := m
  obtain ⟨kb, ks⟩ := k
  obtain ⟨A1, q1, ev, _⟩ := sl_of_own O1.out
  subst ev
  simp only at hz hl hkb hks
  have HP := Lib.hid (show nm.size ≤ 20 ∧ ss.length ≤ 60 ∧ kb.size ≤ 20 ∧ ks.size ≤ 20 from ⟨hz, hl, hkb, hks⟩)
  unfold Mt.v Cl.v
  simp only
  obtain ⟨R, hR⟩ : ∃ R, R = w.heap.size := ⟨_, rfl⟩
  obtain ⟨K, hK⟩ : ∃ K, K = w.heap.size + 1 := ⟨_, rfl⟩
  obtain ⟨O, hO⟩ : ∃ K, K = w.heap.size + 2 := ⟨_, rfl⟩
  obtain ⟨C, hC⟩ : ∃ C, C = w.heap.size + 3 := ⟨_, rfl⟩
  rw [← hR] at J0
  rw [← hK] at J1
  rw [← hO] at J2
  rw [← hC] at C1
  rw [← hC, ← hO, ← hK, ← hR]
  have hRz : R < w1.heap.size := by omega
  have hKz : K < w1.heap.size := by omega
  have hOz : O < w1.heap.size := by omega
  have hCz : w.heap.size ≤ C := by omega
  have hRw : w.heap.size ≤ R := by omega
  clear hR hK hO hC hz hl hkb hks
  go_upto_region 3 with fail
  refine box2 (C := fun W => Code.wp _ _ _ _ W) ?_
  intro w3 hw3 k3 k4 hB3
  have hz3 : w1.heap.size + 1 < w3.heap.size := (Array.getElem?_eq_some_iff.1 k4).1
  have N3 := Lib.hid (show DN w R K w1.heap.size (w1.heap.size + 1) nm n (.slice A1 ss.length q1) ss kb ks w3 from ⟨bw_to B1.out hw3, ⟨_, own_base (base' := w.heap.size) (own_to J0.out hw3) hRw⟩, ⟨_, own_to J1.out hw3⟩, own_of_heap (n := 1) (size := 3) k3 (by omega) (by unfold maxLen; omega) rfl, own_of_heap (n := 1) (size := 2) k4 (by omega) (by unfold maxLen; omega) rfl, own_to O1.out hw3, by omega, by omega⟩)
  have C3 := Lib.hid (C1.out.to hw3)
  have J3 := Lib.hid (own_to J2.out hw3)
  obtain ⟨G, hG⟩ : ∃ G, G = w1.heap.size := ⟨_, rfl⟩
  obtain ⟨D, hD⟩ : ∃ D, D = w1.heap.size + 1 := ⟨_, rfl⟩
  have hO3 : O < w3.heap.size := by omega
  rw [← hD, ← hG] at N3
  rw [← hD, ← hG]
  clear k3 k4 hw3 hB3 hG hD C1 B1 O1 J0 J1 J2
  have M3 := Lib.hid (fun W (hN : DN w R K G D nm n (.slice A1 ss.length q1) ss kb ks W) => (show MethAt W ⟨nm, n, ss⟩ (.slice A1 ss.length q1) from ⟨strs_own_v rfl hN.row, by have := HP.out.1; unfold maxLen; show nm.size ≤ _; omega, fun s hs => by have := Hs.out s hs; unfold maxLen; omega⟩))
  have hms : MtSmall ⟨nm, n, ss⟩ := ⟨by have := HP.out.1; show nm.size ≤ _; omega, by have := HP.out.2.1; show ss.length ≤ _; omega, fun s hs => by have := Hs.out s hs; omega⟩
  have hks : ClSmall ⟨kb, ks⟩ := ⟨by have := HP.out.2.2.1; show kb.size ≤ _; omega, by have := HP.out.2.2.2; show ks.size ≤ _; omega⟩
  obtain ⟨⟨x, y, z⟩, so, bo, _, hso⟩ := obst_both ⟨nm, n, ss⟩ ⟨kb, ks⟩ hms hks
  have Hso := Lib.hid (hso (.slice A1 ss.length q1))
  unfold Mt.v Cl.v at Hso
  simp only at Hso
  obtain ⟨⟨q0, q1', q2⟩, q3, q4⟩ : (w3.cell? ⟨G, 0, none⟩ = some (.string nm) ∧ w3.cell? ⟨G, 1, none⟩ = some (.int .i64 n) ∧ w3.cell? ⟨G, 2, none⟩ = some (.slice A1 ss.length q1)) ∧ w3.cell? ⟨D, 0, none⟩ = some (.string kb) ∧ w3.cell? ⟨D, 1, none⟩ = some (.string ks) := by
    obtain ⟨_, a0, a1, a2, b0, b1, _⟩ := N3.out.all
    exact ⟨⟨a0, a1, a2⟩, b0, b1⟩
  clear hso
  go_wp2_with fail
  refine (Hso.out _ (M3.out _ N3.out)).mono ?_; rintro e w4 ⟨rfl, hb4⟩
  have N4 := Lib.hid (N3.out.to hb4)
  have C4 := Lib.hid (C3.out.to hb4)
  have J4 := Lib.hid (own_to J3.out hb4)
  have hO4 : O < w4.heap.size := Nat.lt_of_lt_of_le hO3 hb4.size
  have hw4 : w.heap.size ≤ w4.heap.size := N4.out.bw.size
  clear hb4 N3 C3 J3 q0 q1' q2 q3 q4
  go_upto_region 4 with fail
  refine box1 (C := fun W => Code.wp _ _ _ _ W) ?_
  intro w5 hw5 k5 hB5
  have D5 := Lib.hid (show DO w R K O G D w4.heap.size nm n (.slice A1 ss.length q1) ss kb ks x y z w5 from ⟨N4.out.to hw5, ⟨_, own_to J4.out hw5⟩, own_of_heap (n := 1) (size := 3) k5 hw4 (by unfold maxLen; omega) rfl, by omega⟩)
  have C5 := Lib.hid (C4.out.to hw5)
  obtain ⟨E, hE⟩ : ∃ E, E = w4.heap.size := ⟨_, rfl⟩
  rw [← hE] at D5 ⊢
  clear k5 hw5 hB5 hE N4 C4 J4 hO4 hw4 hO3
  go_wp2_with fail
  refine (pick_any w5 C _ 4 C5.out (by omega) (by omega) (by omega)).mono ?_; rintro e w6 ⟨p, rfl, hp, hc6, hg6⟩
  have D6 := Lib.hid (D5.out.draw hCz C5.out hg6)
  have C6 := Lib.hid hc6
  clear hc6 hg6 D5 C5
  obtain rfl | rfl | ⟨hp0, hp1⟩ : p = 0 ∨ p = 1 ∨ (¬ p = 0 ∧ ¬ p = 1) := by omega
  · obtain ⟨_, _, _, _, _, _, _, _, ez, _⟩ := D6.out.all
    have C6d := Lib.hid (C6.out.to (Below.drew (Below.refl w6.heap.size w6)))
    have D6d := Lib.hid D6.out.drew
    have ez2 : (w6.drew).cell? ⟨E, 2, none⟩ = some (.int .i64 z) := D6d.out.all.2.2.2.2.2.2.2.2.1
    have ez3 : (w6.alloc (.cells #[.int .i64 1, .int .i64 (-1)] 3)).cell? ⟨E, 2, none⟩ = some (.int .i64 z) := (D6.out.to (bw_al (Below.refl w6.heap.size w6) (.cells #[.int .i64 1, .int .i64 (-1)] 3))).all.2.2.2.2.2.2.2.2.1
    have fz : w6.frozen? ⟨E, 2, none⟩ = false := D6.out.ex.frozenAt 2
    have hAm : Calls Tryz.prog 80 #[.pointer (some ⟨C, 0, none⟩), .slice (some ⟨w6.heap.size, 0, none⟩) 2 2] (w6.alloc (.cells #[.int .i64 1, .int .i64 (-1)] 3)).drew (DrewInt w6.drew C (0 + 220 + 2 + 2) fun b => b ∈ [1, -1]) := among_at w6.drew C _ 2 w6.heap.size [1, -1] rfl C6d.out (by omega) rfl (by omega) (by omega)
    have Ham := Lib.hid hAm
    clear hAm
    go_upto_region 6 with fail
    go_region_law ((first | (refine step_callX (by rfl) (Ham.out.mono ?_) ?_; rotate_left; (· go_simp); rintro e w7 ⟨d, rfl, hd, hc7, hg7⟩; refine ⟨_, rfl, ?_⟩; (have D7 := Lib.hid (D6d.out.draw hCz C6d.out hg7)); (have ez7 : w7.cell? ⟨E, 2, none⟩ = some (.int .i64 z) := D7.out.all.2.2.2.2.2.2.2.2.1); (have fz7 : w7.frozen? ⟨E, 2, none⟩ = false := D7.out.ex.frozenAt 2); clear hc7 hg7 hd)))
    all_goals
      go_upto_region 9 with fail
      have D8 := Lib.hid (D7.out.setE1 (x' := x) (y' := y) (z' := IntKind.i64.wrap (z + d)) 2 (.int .i64 (IntKind.i64.wrap (z + d))) rfl)
      obtain ⟨w8, hw8⟩ : ∃ W, W = w7.setCell ⟨E, 2, none⟩ (.int .i64 (IntKind.i64.wrap (z + d))) := ⟨_, rfl⟩
      rw [← hw8] at D8 ⊢
      obtain ⟨z8, hz8⟩ : ∃ z8, z8 = IntKind.i64.wrap (z + d) := ⟨_, rfl⟩
      rw [← hz8] at D8
      clear hw8 hz8 D6 D7 D6d ez ez2 ez3 ez7 fz fz7 C6 C6d
      obtain ⟨n1, n2, n3, n4, n5⟩ := D8.out.dn.nes
      have nRK : K ≠ R := n1.symm
      obtain ⟨nRO, nKO⟩ : R ≠ O ∧ K ≠ O := by
        obtain ⟨xs, hx⟩ := D8.out.dn.rm
        obtain ⟨ys, hy⟩ := D8.out.dn.rk
        obtain ⟨zs, hz⟩ := D8.out.ro
        exact ⟨own_blk_ne hx hz (by decide), own_blk_ne hy hz (by decide)⟩
      have nOR := nRO.symm
      have nOK := nKO.symm
      obtain ⟨_, _, _, _, _, _, _, _, _, r0, r1, r2, p0, p1, o0, o1, o2, f0, f1, f2, g0, g1, h0, h1, h2⟩ := D8.out.all
      have x9 : DO w R K O G D E nm n (.slice A1 ss.length q1) ss kb ks x y z8 _ := D8.out.drew
      clear n2 n3 n4 n5
      go_region_held3 (fun W => DO w R K O G D E nm n (.slice A1 ss.length q1) ss kb ks x y z8 W ∧ W.cell? ⟨G, 0, none⟩ = some (.string nm) ∧ W.cell? ⟨G, 1, none⟩ = some (.int .i64 n) ∧ W.cell? ⟨G, 2, none⟩ = some (.slice A1 ss.length q1) ∧ W.cell? ⟨D, 0, none⟩ = some (.string kb) ∧ W.cell? ⟨D, 1, none⟩ = some (.string ks) ∧ W.cell? ⟨E, 0, none⟩ = some (.int .i64 x) ∧ W.cell? ⟨E, 1, none⟩ = some (.int .i64 y) ∧ W.cell? ⟨E, 2, none⟩ = some (.int .i64 z8) ∧ W.cell? ⟨R, 0, none⟩ = some (oldC R 0 W) ∧ W.cell? ⟨R, 1, none⟩ = some (oldC R 1 W) ∧ W.cell? ⟨R, 2, none⟩ = some (oldC R 2 W) ∧ W.cell? ⟨K, 0, none⟩ = some (oldC K 0 W) ∧ W.cell? ⟨K, 1, none⟩ = some (oldC K 1 W) ∧ W.cell? ⟨O, 0, none⟩ = some (oldC O 0 W) ∧ W.cell? ⟨O, 1, none⟩ = some (oldC O 1 W) ∧ W.cell? ⟨O, 2, none⟩ = some (oldC O 2 W) ∧ W.frozen? ⟨R, 0, none⟩ = false ∧ W.frozen? ⟨R, 1, none⟩ = false ∧ W.frozen? ⟨R, 2, none⟩ = false ∧ W.frozen? ⟨K, 0, none⟩ = false ∧ W.frozen? ⟨K, 1, none⟩ = false ∧ W.frozen? ⟨O, 0, none⟩ = false ∧ W.frozen? ⟨O, 1, none⟩ = false ∧ W.frozen? ⟨O, 2, none⟩ = false) (first | with_reducible assumption | with_reducible exact DO.all (by assumption) | with_reducible exact DO.allR (by assumption) | with_reducible exact DO.allK (by assumption) | with_reducible exact DO.allO (by assumption) | with_reducible exact DO.allRd (by assumption) | with_reducible exact DO.allKd (by assumption) | with_reducible exact DO.allOd (by assumption)) (fail)
      go_wp2_with fail
      obtain ⟨W', eW, F', ⟨e0, e1, e2⟩, ⟨d0, d1⟩, c0, c1, c2⟩ := D8.out.fin (.string nm) (.int .i64 n) (.slice A1 ss.length q1) (.string kb) (.string ks) (.int .i64 x) (.int .i64 y) (.int .i64 z8)
      rw [← eW]
      refine bodyPost_ret (v := .tuple #[.agg #[.string nm, .int .i64 n, .slice A1 ss.length q1], .agg #[.string kb, .string ks], .agg #[.int .i64 x, .int .i64 y, .int .i64 z8]]) (by simp [results, go_sem, e0, e1, e2, d0, d1, c0, c1, c2]) rfl ?_
      have F2 := F'.drew
      exact ⟨⟨nm, n, ss⟩, .slice A1 ss.length q1, ⟨kb, ks⟩, _, _, _, rfl, ⟨HP.out.1, HP.out.2.1, Hs.out, Hst.out, HP.out.2.2.1, HP.out.2.2.2, F2.dn.row, F2.dn.bw⟩⟩
  · obtain ⟨_, _, _, _, _, _, _, ey, _⟩ := D6.out.all
    have fy := D6.out.ex.frozenAt 1
    go_upto_region 9 with fail
    have D7 := Lib.hid (D6.out.setE1 (x' := x) (y' := wrap64 (y + 1)) (z' := z) 1 (.int .i64 (wrap64 (y + 1))) rfl)
    obtain ⟨w7, hw7⟩ : ∃ W, W = w6.setCell ⟨E, 1, none⟩ (.int .i64 (wrap64 (y + 1))) := ⟨_, rfl⟩
    rw [← hw7] at D7 ⊢
    obtain ⟨y7, hy7⟩ : ∃ y7, y7 = wrap64 (y + 1) := ⟨_, rfl⟩
    rw [← hy7] at D7
    clear hw7 hy7 D6 C6 ey fy
    obtain ⟨n1, n2, n3, n4, n5⟩ := D7.out.dn.nes
    have nRK : K ≠ R := n1.symm
    obtain ⟨nRO, nKO⟩ : R ≠ O ∧ K ≠ O := by
      obtain ⟨xs, hx⟩ := D7.out.dn.rm
      obtain ⟨ys, hy⟩ := D7.out.dn.rk
      obtain ⟨zs, hz⟩ := D7.out.ro
      exact ⟨own_blk_ne hx hz (by decide), own_blk_ne hy hz (by decide)⟩
    have nOR := nRO.symm
    have nOK := nKO.symm
    obtain ⟨_, _, _, _, _, _, _, _, _, r0, r1, r2, p0, p1, o0, o1, o2, f0, f1, f2, g0, g1, h0, h1, h2⟩ := D7.out.all
    have x9 : DO w R K O G D E nm n (.slice A1 ss.length q1) ss kb ks x y7 z _ := D7.out.drew
    clear n2 n3 n4 n5
    go_region_held3 (fun W => DO w R K O G D E nm n (.slice A1 ss.length q1) ss kb ks x y7 z W ∧ W.cell? ⟨G, 0, none⟩ = some (.string nm) ∧ W.cell? ⟨G, 1, none⟩ = some (.int .i64 n) ∧ W.cell? ⟨G, 2, none⟩ = some (.slice A1 ss.length q1) ∧ W.cell? ⟨D, 0, none⟩ = some (.string kb) ∧ W.cell? ⟨D, 1, none⟩ = some (.string ks) ∧ W.cell? ⟨E, 0, none⟩ = some (.int .i64 x) ∧ W.cell? ⟨E, 1, none⟩ = some (.int .i64 y7) ∧ W.cell? ⟨E, 2, none⟩ = some (.int .i64 z) ∧ W.cell? ⟨R, 0, none⟩ = some (oldC R 0 W) ∧ W.cell? ⟨R, 1, none⟩ = some (oldC R 1 W) ∧ W.cell? ⟨R, 2, none⟩ = some (oldC R 2 W) ∧ W.cell? ⟨K, 0, none⟩ = some (oldC K 0 W) ∧ W.cell? ⟨K, 1, none⟩ = some (oldC K 1 W) ∧ W.cell? ⟨O, 0, none⟩ = some (oldC O 0 W) ∧ W.cell? ⟨O, 1, none⟩ = some (oldC O 1 W) ∧ W.cell? ⟨O, 2, none⟩ = some (oldC O 2 W) ∧ W.frozen? ⟨R, 0, none⟩ = false ∧ W.frozen? ⟨R, 1, none⟩ = false ∧ W.frozen? ⟨R, 2, none⟩ = false ∧ W.frozen? ⟨K, 0, none⟩ = false ∧ W.frozen? ⟨K, 1, none⟩ = false ∧ W.frozen? ⟨O, 0, none⟩ = false ∧ W.frozen? ⟨O, 1, none⟩ = false ∧ W.frozen? ⟨O, 2, none⟩ = false) (first | with_reducible assumption | with_reducible exact DO.all (by assumption) | with_reducible exact DO.allR (by assumption) | with_reducible exact DO.allK (by assumption) | with_reducible exact DO.allO (by assumption) | with_reducible exact DO.allRd (by assumption) | with_reducible exact DO.allKd (by assumption) | with_reducible exact DO.allOd (by assumption)) (fail)
    go_wp2_with fail
    obtain ⟨W', eW, F', ⟨e0, e1, e2⟩, ⟨d0, d1⟩, c0, c1, c2⟩ := D7.out.fin (.string nm) (.int .i64 n) (.slice A1 ss.length q1) (.string kb) (.string ks) (.int .i64 x) (.int .i64 y7) (.int .i64 z)
    rw [← eW]
    refine bodyPost_ret (v := .tuple #[.agg #[.string nm, .int .i64 n, .slice A1 ss.length q1], .agg #[.string kb, .string ks], .agg #[.int .i64 x, .int .i64 y7, .int .i64 z]]) (by simp [results, go_sem, e0, e1, e2, d0, d1, c0, c1, c2]) rfl ?_
    have F2 := F'.drew
    exact ⟨⟨nm, n, ss⟩, .slice A1 ss.length q1, ⟨kb, ks⟩, _, _, _, rfl, ⟨HP.out.1, HP.out.2.1, Hs.out, Hst.out, HP.out.2.2.1, HP.out.2.2.2, F2.dn.row, F2.dn.bw⟩⟩
  · have hq0 : (p == 0) = false := by simp; omega
    have hq1 : (p == 1) = false := by simp; omega
    go_upto_region 9 with fail
    obtain ⟨n1, n2, n3, n4, n5⟩ := D6.out.dn.nes
    have nRK : K ≠ R := n1.symm
    obtain ⟨nRO, nKO⟩ : R ≠ O ∧ K ≠ O := by
      obtain ⟨xs, hx⟩ := D6.out.dn.rm
      obtain ⟨ys, hy⟩ := D6.out.dn.rk
      obtain ⟨zs, hz⟩ := D6.out.ro
      exact ⟨own_blk_ne hx hz (by decide), own_blk_ne hy hz (by decide)⟩
    have nOR := nRO.symm
    have nOK := nKO.symm
    obtain ⟨_, _, _, _, _, _, _, _, _, r0, r1, r2, p0, p1, o0, o1, o2, f0, f1, f2, g0, g1, h0, h1, h2⟩ := D6.out.all
    have x9 : DO w R K O G D E nm n (.slice A1 ss.length q1) ss kb ks x y z _ := D6.out.drew
    clear n2 n3 n4 n5
    go_region_held3 (fun W => DO w R K O G D E nm n (.slice A1 ss.length q1) ss kb ks x y z W ∧ W.cell? ⟨G, 0, none⟩ = some (.string nm) ∧ W.cell? ⟨G, 1, none⟩ = some (.int .i64 n) ∧ W.cell? ⟨G, 2, none⟩ = some (.slice A1 ss.length q1) ∧ W.cell? ⟨D, 0, none⟩ = some (.string kb) ∧ W.cell? ⟨D, 1, none⟩ = some (.string ks) ∧ W.cell? ⟨E, 0, none⟩ = some (.int .i64 x) ∧ W.cell? ⟨E, 1, none⟩ = some (.int .i64 y) ∧ W.cell? ⟨E, 2, none⟩ = some (.int .i64 z) ∧ W.cell? ⟨R, 0, none⟩ = some (oldC R 0 W) ∧ W.cell? ⟨R, 1, none⟩ = some (oldC R 1 W) ∧ W.cell? ⟨R, 2, none⟩ = some (oldC R 2 W) ∧ W.cell? ⟨K, 0, none⟩ = some (oldC K 0 W) ∧ W.cell? ⟨K, 1, none⟩ = some (oldC K 1 W) ∧ W.cell? ⟨O, 0, none⟩ = some (oldC O 0 W) ∧ W.cell? ⟨O, 1, none⟩ = some (oldC O 1 W) ∧ W.cell? ⟨O, 2, none⟩ = some (oldC O 2 W) ∧ W.frozen? ⟨R, 0, none⟩ = false ∧ W.frozen? ⟨R, 1, none⟩ = false ∧ W.frozen? ⟨R, 2, none⟩ = false ∧ W.frozen? ⟨K, 0, none⟩ = false ∧ W.frozen? ⟨K, 1, none⟩ = false ∧ W.frozen? ⟨O, 0, none⟩ = false ∧ W.frozen? ⟨O, 1, none⟩ = false ∧ W.frozen? ⟨O, 2, none⟩ = false) (first | with_reducible assumption | with_reducible exact DO.all (by assumption) | with_reducible exact DO.allR (by assumption) | with_reducible exact DO.allK (by assumption) | with_reducible exact DO.allO (by assumption) | with_reducible exact DO.allRd (by assumption) | with_reducible exact DO.allKd (by assumption) | with_reducible exact DO.allOd (by assumption)) (fail)
    go_wp2_with fail
    obtain ⟨W', eW, F', ⟨e0, e1, e2⟩, ⟨d0, d1⟩, c0, c1, c2⟩ := D6.out.fin (.string nm) (.int .i64 n) (.slice A1 ss.length q1) (.string kb) (.string ks) (.int .i64 x) (.int .i64 y) (.int .i64 z)
    rw [← eW]
    refine bodyPost_ret (v := .tuple #[.agg #[.string nm, .int .i64 n, .slice A1 ss.length q1], .agg #[.string kb, .string ks], .agg #[.int .i64 x, .int .i64 y, .int .i64 z]]) (by simp [results, go_sem, e0, e1, e2, d0, d1, c0, c1, c2]) rfl ?_
    have F2 := F'.drew
    exact ⟨⟨nm, n, ss⟩, .slice A1 ss.length q1, ⟨kb, ks⟩, _, _, _, rfl, ⟨HP.out.1, HP.out.2.1, Hs.out, Hst.out, HP.out.2.2.1, HP.out.2.2.2, F2.dn.row, F2.dn.bw⟩⟩
end Go.Proofs.YtheppimoncokcaaGreat
