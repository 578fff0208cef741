/- A drawn evening and an item. -/
import Derived.Test.YtofpjbdelmmclaaGreatDoorPk37
namespace Go.Proofs.YtofpjbdelmmclaaGreatDoor
open Go Go.RowKit
set_option linter.unusedVariables false
set_option linter.unusedSimpArgs false

structure ET (w : World) (F I E : Nat) (a b c d : Int) (W : World) : Prop where
  es : ES w F E a b c d W
  ri : ∃ zs, W.ownsRow w.heap.size 55 4 (.slice (some ⟨I, 0, none⟩) 1 1) 1 zs
theorem ET.to {w : World} {F I E : Nat} {a b c d : Int} {W W' : World} (h : ET w F I E a b c d W) (hb : Below W.heap.size W W') : ET w F I E a b c d W' := ⟨h.es.to hb, let ⟨zs, hz⟩ := h.ri; ⟨zs, own_to hz hb⟩⟩
theorem ET.draw {w : World} {F I E : Nat} {a b c d : Int} {C lim : Nat} {W W' : World} (h : ET w F I E a b c d W) (hC : w.heap.size ≤ C) (hc : Cur W C lim) (hg : W.grownBy W' (some C)) : ET w F I E a b c d W' :=
  ⟨h.es.draw hC hc hg, let ⟨zs, hz⟩ := h.ri; ⟨zs, own_noC hz hc (by decide) hg⟩⟩
theorem ET.setF1 {w : World} {F I E : Nat} {a b c d : Int} {W : World} (h : ET w F I E a b c d W) (j : Nat) (u : Value) : ET w F I E a b c d (W.setCell ⟨F, j, none⟩ u) := by
  obtain ⟨zs, hz⟩ := h.ri
  obtain ⟨ys, hy⟩ := h.es.rf
  exact ⟨h.es.setF1 j u, zs, own_othM hz hy (by decide) j u⟩
theorem ET.setI1 {w : World} {F I E : Nat} {a b c d : Int} {W : World} (h : ET w F I E a b c d W) (j : Nat) (u : Value) : ET w F I E a b c d (W.setCell ⟨I, j, none⟩ u) := by
  obtain ⟨zs, hz⟩ := h.ri
  obtain ⟨ys, hy⟩ := h.es.rf
  exact ⟨⟨grow_set h.es.bw (hz.lt I rfl).1 u, ⟨ys, own_othM hy hz (by decide) j u⟩, own_othM h.es.ex hz (by decide) j u, h.es.ne⟩, _, own_set hz j u⟩
theorem ET.all {w : World} {F I E : Nat} {a b c d : Int} {W : World} (h : ET w F I E a b c d W) : ET w F I E a b c d W ∧ W.cell? ⟨E, 0, none⟩ = some (.int .i64 a) ∧ W.cell? ⟨E, 1, none⟩ = some (.int .i64 b) ∧ W.cell? ⟨E, 2, none⟩ = some (.int .i64 c) ∧ W.cell? ⟨E, 3, none⟩ = some (.int .i64 d) ∧ W.cell? ⟨F, 0, none⟩ = some (oldC F 0 W) ∧ W.cell? ⟨F, 1, none⟩ = some (oldC F 1 W) ∧ W.cell? ⟨F, 2, none⟩ = some (oldC F 2 W) ∧ W.cell? ⟨F, 3, none⟩ = some (oldC F 3 W) ∧ W.cell? ⟨I, 0, none⟩ = some (oldC I 0 W) ∧ W.cell? ⟨I, 1, none⟩ = some (oldC I 1 W) ∧ W.cell? ⟨I, 2, none⟩ = some (oldC I 2 W) ∧ W.cell? ⟨I, 3, none⟩ = some (oldC I 3 W) ∧ W.frozen? ⟨F, 0, none⟩ = false ∧ W.frozen? ⟨F, 1, none⟩ = false ∧ W.frozen? ⟨F, 2, none⟩ = false ∧ W.frozen? ⟨F, 3, none⟩ = false ∧ W.frozen? ⟨I, 0, none⟩ = false ∧ W.frozen? ⟨I, 1, none⟩ = false ∧ W.frozen? ⟨I, 2, none⟩ = false ∧ W.frozen? ⟨I, 3, none⟩ = false := by
  obtain ⟨_, e0, e1, e2, e3, f0, f1, f2, f3, z0, z1, z2, z3⟩ := h.es.all
  obtain ⟨zs, hz⟩ := h.ri
  have hl : zs.length = 4 := hz.1
  refine ⟨h, e0, e1, e2, e3, f0, f1, f2, f3, ?_, ?_, ?_, ?_, z0, z1, z2, z3, hz.frozenAt _, hz.frozenAt _, hz.frozenAt _, hz.frozenAt _⟩
  · exact oldC_of (x := zs[0]) (by rw [hz.cellAt 0 (by omega)]; simp [hl])
  · exact oldC_of (x := zs[1]) (by rw [hz.cellAt 1 (by omega)]; simp [hl])
  · exact oldC_of (x := zs[2]) (by rw [hz.cellAt 2 (by omega)]; simp [hl])
  · exact oldC_of (x := zs[3]) (by rw [hz.cellAt 3 (by omega)]; simp [hl])
theorem ET.allF {w : World} {F I E : Nat} {a b c d : Int} {W : World} {a0 a1 a2 a3 : Value} (h : ET w F I E a b c d W ∧ W.cell? ⟨E, 0, none⟩ = some (.int .i64 a) ∧ W.cell? ⟨E, 1, none⟩ = some (.int .i64 b) ∧ W.cell? ⟨E, 2, none⟩ = some (.int .i64 c) ∧ W.cell? ⟨E, 3, none⟩ = some (.int .i64 d) ∧ W.cell? ⟨F, 0, none⟩ = some (oldC F 0 W) ∧ W.cell? ⟨F, 1, none⟩ = some (oldC F 1 W) ∧ W.cell? ⟨F, 2, none⟩ = some (oldC F 2 W) ∧ W.cell? ⟨F, 3, none⟩ = some (oldC F 3 W) ∧ W.cell? ⟨I, 0, none⟩ = some (oldC I 0 W) ∧ W.cell? ⟨I, 1, none⟩ = some (oldC I 1 W) ∧ W.cell? ⟨I, 2, none⟩ = some (oldC I 2 W) ∧ W.cell? ⟨I, 3, none⟩ = some (oldC I 3 W) ∧ W.frozen? ⟨F, 0, none⟩ = false ∧ W.frozen? ⟨F, 1, none⟩ = false ∧ W.frozen? ⟨F, 2, none⟩ = false ∧ W.frozen? ⟨F, 3, none⟩ = false ∧ W.frozen? ⟨I, 0, none⟩ = false ∧ W.frozen? ⟨I, 1, none⟩ = false ∧ W.frozen? ⟨I, 2, none⟩ = false ∧ W.frozen? ⟨I, 3, none⟩ = false) : ET w F I E a b c d ((((W.setCell ⟨F, 0, none⟩ a0).setCell ⟨F, 1, none⟩ a1).setCell ⟨F, 2, none⟩ a2).setCell ⟨F, 3, none⟩ a3) ∧ ((((W.setCell ⟨F, 0, none⟩ a0).setCell ⟨F, 1, none⟩ a1).setCell ⟨F, 2, none⟩ a2).setCell ⟨F, 3, none⟩ a3).cell? ⟨E, 0, none⟩ = some (.int .i64 a) ∧ ((((W.setCell ⟨F, 0, none⟩ a0).setCell ⟨F, 1, none⟩ a1).setCell ⟨F, 2, none⟩ a2).setCell ⟨F, 3, none⟩ a3).cell? ⟨E, 1, none⟩ = some (.int .i64 b) ∧ ((((W.setCell ⟨F, 0, none⟩ a0).setCell ⟨F, 1, none⟩ a1).setCell ⟨F, 2, none⟩ a2).setCell ⟨F, 3, none⟩ a3).cell? ⟨E, 2, none⟩ = some (.int .i64 c) ∧ ((((W.setCell ⟨F, 0, none⟩ a0).setCell ⟨F, 1, none⟩ a1).setCell ⟨F, 2, none⟩ a2).setCell ⟨F, 3, none⟩ a3).cell? ⟨E, 3, none⟩ = some (.int .i64 d) ∧ ((((W.setCell ⟨F, 0, none⟩ a0).setCell ⟨F, 1, none⟩ a1).setCell ⟨F, 2, none⟩ a2).setCell ⟨F, 3, none⟩ a3).cell? ⟨F, 0, none⟩ = some (oldC F 0 ((((W.setCell ⟨F, 0, none⟩ a0).setCell ⟨F, 1, none⟩ a1).setCell ⟨F, 2, none⟩ a2).setCell ⟨F, 3, none⟩ a3)) ∧ ((((W.setCell ⟨F, 0, none⟩ a0).setCell ⟨F, 1, none⟩ a1).setCell ⟨F, 2, none⟩ a2).setCell ⟨F, 3, none⟩ a3).cell? ⟨F, 1, none⟩ = some (oldC F 1 ((((W.setCell ⟨F, 0, none⟩ a0).setCell ⟨F, 1, none⟩ a1).setCell ⟨F, 2, none⟩ a2).setCell ⟨F, 3, none⟩ a3)) ∧ ((((W.setCell ⟨F, 0, none⟩ a0).setCell ⟨F, 1, none⟩ a1).setCell ⟨F, 2, none⟩ a2).setCell ⟨F, 3, none⟩ a3).cell? ⟨F, 2, none⟩ = some (oldC F 2 ((((W.setCell ⟨F, 0, none⟩ a0).setCell ⟨F, 1, none⟩ a1).setCell ⟨F, 2, none⟩ a2).setCell ⟨F, 3, none⟩ a3)) ∧ ((((W.setCell ⟨F, 0, none⟩ a0).setCell ⟨F, 1, none⟩ a1).setCell ⟨F, 2, none⟩ a2).setCell ⟨F, 3, none⟩ a3).cell? ⟨F, 3, none⟩ = some (oldC F 3 ((((W.setCell ⟨F, 0, none⟩ a0).setCell ⟨F, 1, none⟩ a1).setCell ⟨F, 2, none⟩ a2).setCell ⟨F, 3, none⟩ a3)) ∧ ((((W.setCell ⟨F, 0, none⟩ a0).setCell ⟨F, 1, none⟩ a1).setCell ⟨F, 2, none⟩ a2).setCell ⟨F, 3, none⟩ a3).cell? ⟨I, 0, none⟩ = some (oldC I 0 ((((W.setCell ⟨F, 0, none⟩ a0).setCell ⟨F, 1, none⟩ a1).setCell ⟨F, 2, none⟩ a2).setCell ⟨F, 3, none⟩ a3)) ∧ ((((W.setCell ⟨F, 0, none⟩ a0).setCell ⟨F, 1, none⟩ a1).setCell ⟨F, 2, none⟩ a2).setCell ⟨F, 3, none⟩ a3).cell? ⟨I, 1, none⟩ = some (oldC I 1 ((((W.setCell ⟨F, 0, none⟩ a0).setCell ⟨F, 1, none⟩ a1).setCell ⟨F, 2, none⟩ a2).setCell ⟨F, 3, none⟩ a3)) ∧ ((((W.setCell ⟨F, 0, none⟩ a0).setCell ⟨F, 1, none⟩ a1).setCell ⟨F, 2, none⟩ a2).setCell ⟨F, 3, none⟩ a3).cell? ⟨I, 2, none⟩ = some (oldC I 2 ((((W.setCell ⟨F, 0, none⟩ a0).setCell ⟨F, 1, none⟩ a1).setCell ⟨F, 2, none⟩ a2).setCell ⟨F, 3, none⟩ a3)) ∧ ((((W.setCell ⟨F, 0, none⟩ a0).setCell ⟨F, 1, none⟩ a1).setCell ⟨F, 2, none⟩ a2).setCell ⟨F, 3, none⟩ a3).cell? ⟨I, 3, none⟩ = some (oldC I 3 ((((W.setCell ⟨F, 0, none⟩ a0).setCell ⟨F, 1, none⟩ a1).setCell ⟨F, 2, none⟩ a2).setCell ⟨F, 3, none⟩ a3)) ∧ ((((W.setCell ⟨F, 0, none⟩ a0).setCell ⟨F, 1, none⟩ a1).setCell ⟨F, 2, none⟩ a2).setCell ⟨F, 3, none⟩ a3).frozen? ⟨F, 0, none⟩ = false ∧ ((((W.setCell ⟨F, 0, none⟩ a0).setCell ⟨F, 1, none⟩ a1).setCell ⟨F, 2, none⟩ a2).setCell ⟨F, 3, none⟩ a3).frozen? ⟨F, 1, none⟩ = false ∧ ((((W.setCell ⟨F, 0, none⟩ a0).setCell ⟨F, 1, none⟩ a1).setCell ⟨F, 2, none⟩ a2).setCell ⟨F, 3, none⟩ a3).frozen? ⟨F, 2, none⟩ = false ∧ ((((W.setCell ⟨F, 0, none⟩ a0).setCell ⟨F, 1, none⟩ a1).setCell ⟨F, 2, none⟩ a2).setCell ⟨F, 3, none⟩ a3).frozen? ⟨F, 3, none⟩ = false ∧ ((((W.setCell ⟨F, 0, none⟩ a0).setCell ⟨F, 1, none⟩ a1).setCell ⟨F, 2, none⟩ a2).setCell ⟨F, 3, none⟩ a3).frozen? ⟨I, 0, none⟩ = false ∧ ((((W.setCell ⟨F, 0, none⟩ a0).setCell ⟨F, 1, none⟩ a1).setCell ⟨F, 2, none⟩ a2).setCell ⟨F, 3, none⟩ a3).frozen? ⟨I, 1, none⟩ = false ∧ ((((W.setCell ⟨F, 0, none⟩ a0).setCell ⟨F, 1, none⟩ a1).setCell ⟨F, 2, none⟩ a2).setCell ⟨F, 3, none⟩ a3).frozen? ⟨I, 2, none⟩ = false ∧ ((((W.setCell ⟨F, 0, none⟩ a0).setCell ⟨F, 1, none⟩ a1).setCell ⟨F, 2, none⟩ a2).setCell ⟨F, 3, none⟩ a3).frozen? ⟨I, 3, none⟩ = false := ((((h.1.setF1 0 a0).setF1 1 a1).setF1 2 a2).setF1 3 a3).all
theorem ET.allI {w : World} {F I E : Nat} {a b c d : Int} {W : World} {a0 a1 a2 a3 : Value} (h : ET w F I E a b c d W ∧ W.cell? ⟨E, 0, none⟩ = some (.int .i64 a) ∧ W.cell? ⟨E, 1, none⟩ = some (.int .i64 b) ∧ W.cell? ⟨E, 2, none⟩ = some (.int .i64 c) ∧ W.cell? ⟨E, 3, none⟩ = some (.int .i64 d) ∧ W.cell? ⟨F, 0, none⟩ = some (oldC F 0 W) ∧ W.cell? ⟨F, 1, none⟩ = some (oldC F 1 W) ∧ W.cell? ⟨F, 2, none⟩ = some (oldC F 2 W) ∧ W.cell? ⟨F, 3, none⟩ = some (oldC F 3 W) ∧ W.cell? ⟨I, 0, none⟩ = some (oldC I 0 W) ∧ W.cell? ⟨I, 1, none⟩ = some (oldC I 1 W) ∧ W.cell? ⟨I, 2, none⟩ = some (oldC I 2 W) ∧ W.cell? ⟨I, 3, none⟩ = some (oldC I 3 W) ∧ W.frozen? ⟨F, 0, none⟩ = false ∧ W.frozen? ⟨F, 1, none⟩ = false ∧ W.frozen? ⟨F, 2, none⟩ = false ∧ W.frozen? ⟨F, 3, none⟩ = false ∧ W.frozen? ⟨I, 0, none⟩ = false ∧ W.frozen? ⟨I, 1, none⟩ = false ∧ W.frozen? ⟨I, 2, none⟩ = false ∧ W.frozen? ⟨I, 3, none⟩ = false) : ET w F I E a b c d ((((W.setCell ⟨I, 0, none⟩ a0).setCell ⟨I, 1, none⟩ a1).setCell ⟨I, 2, none⟩ a2).setCell ⟨I, 3, none⟩ a3) ∧ ((((W.setCell ⟨I, 0, none⟩ a0).setCell ⟨I, 1, none⟩ a1).setCell ⟨I, 2, none⟩ a2).setCell ⟨I, 3, none⟩ a3).cell? ⟨E, 0, none⟩ = some (.int .i64 a) ∧ ((((W.setCell ⟨I, 0, none⟩ a0).setCell ⟨I, 1, none⟩ a1).setCell ⟨I, 2, none⟩ a2).setCell ⟨I, 3, none⟩ a3).cell? ⟨E, 1, none⟩ = some (.int .i64 b) ∧ ((((W.setCell ⟨I, 0, none⟩ a0).setCell ⟨I, 1, none⟩ a1).setCell ⟨I, 2, none⟩ a2).setCell ⟨I, 3, none⟩ a3).cell? ⟨E, 2, none⟩ = some (.int .i64 c) ∧ ((((W.setCell ⟨I, 0, none⟩ a0).setCell ⟨I, 1, none⟩ a1).setCell ⟨I, 2, none⟩ a2).setCell ⟨I, 3, none⟩ a3).cell? ⟨E, 3, none⟩ = some (.int .i64 d) ∧ ((((W.setCell ⟨I, 0, none⟩ a0).setCell ⟨I, 1, none⟩ a1).setCell ⟨I, 2, none⟩ a2).setCell ⟨I, 3, none⟩ a3).cell? ⟨F, 0, none⟩ = some (oldC F 0 ((((W.setCell ⟨I, 0, none⟩ a0).setCell ⟨I, 1, none⟩ a1).setCell ⟨I, 2, none⟩ a2).setCell ⟨I, 3, none⟩ a3)) ∧ ((((W.setCell ⟨I, 0, none⟩ a0).setCell ⟨I, 1, none⟩ a1).setCell ⟨I, 2, none⟩ a2).setCell ⟨I, 3, none⟩ a3).cell? ⟨F, 1, none⟩ = some (oldC F 1 ((((W.setCell ⟨I, 0, none⟩ a0).setCell ⟨I, 1, none⟩ a1).setCell ⟨I, 2, none⟩ a2).setCell ⟨I, 3, none⟩ a3)) ∧ ((((W.setCell ⟨I, 0, none⟩ a0).setCell ⟨I, 1, none⟩ a1).setCell ⟨I, 2, none⟩ a2).setCell ⟨I, 3, none⟩ a3).cell? ⟨F, 2, none⟩ = some (oldC F 2 ((((W.setCell ⟨I, 0, none⟩ a0).setCell ⟨I, 1, none⟩ a1).setCell ⟨I, 2, none⟩ a2).setCell ⟨I, 3, none⟩ a3)) ∧ ((((W.setCell ⟨I, 0, none⟩ a0).setCell ⟨I, 1, none⟩ a1).setCell ⟨I, 2, none⟩ a2).setCell ⟨I, 3, none⟩ a3).cell? ⟨F, 3, none⟩ = some (oldC F 3 ((((W.setCell ⟨I, 0, none⟩ a0).setCell ⟨I, 1, none⟩ a1).setCell ⟨I, 2, none⟩ a2).setCell ⟨I, 3, none⟩ a3)) ∧ ((((W.setCell ⟨I, 0, none⟩ a0).setCell ⟨I, 1, none⟩ a1).setCell ⟨I, 2, none⟩ a2).setCell ⟨I, 3, none⟩ a3).cell? ⟨I, 0, none⟩ = some (oldC I 0 ((((W.setCell ⟨I, 0, none⟩ a0).setCell ⟨I, 1, none⟩ a1).setCell ⟨I, 2, none⟩ a2).setCell ⟨I, 3, none⟩ a3)) ∧ ((((W.setCell ⟨I, 0, none⟩ a0).setCell ⟨I, 1, none⟩ a1).setCell ⟨I, 2, none⟩ a2).setCell ⟨I, 3, none⟩ a3).cell? ⟨I, 1, none⟩ = some (oldC I 1 ((((W.setCell ⟨I, 0, none⟩ a0).setCell ⟨I, 1, none⟩ a1).setCell ⟨I, 2, none⟩ a2).setCell ⟨I, 3, none⟩ a3)) ∧ ((((W.setCell ⟨I, 0, none⟩ a0).setCell ⟨I, 1, none⟩ a1).setCell ⟨I, 2, none⟩ a2).setCell ⟨I, 3, none⟩ a3).cell? ⟨I, 2, none⟩ = some (oldC I 2 ((((W.setCell ⟨I, 0, none⟩ a0).setCell ⟨I, 1, none⟩ a1).setCell ⟨I, 2, none⟩ a2).setCell ⟨I, 3, none⟩ a3)) ∧ ((((W.setCell ⟨I, 0, none⟩ a0).setCell ⟨I, 1, none⟩ a1).setCell ⟨I, 2, none⟩ a2).setCell ⟨I, 3, none⟩ a3).cell? ⟨I, 3, none⟩ = some (oldC I 3 ((((W.setCell ⟨I, 0, none⟩ a0).setCell ⟨I, 1, none⟩ a1).setCell ⟨I, 2, none⟩ a2).setCell ⟨I, 3, none⟩ a3)) ∧ ((((W.setCell ⟨I, 0, none⟩ a0).setCell ⟨I, 1, none⟩ a1).setCell ⟨I, 2, none⟩ a2).setCell ⟨I, 3, none⟩ a3).frozen? ⟨F, 0, none⟩ = false ∧ ((((W.setCell ⟨I, 0, none⟩ a0).setCell ⟨I, 1, none⟩ a1).setCell ⟨I, 2, none⟩ a2).setCell ⟨I, 3, none⟩ a3).frozen? ⟨F, 1, none⟩ = false ∧ ((((W.setCell ⟨I, 0, none⟩ a0).setCell ⟨I, 1, none⟩ a1).setCell ⟨I, 2, none⟩ a2).setCell ⟨I, 3, none⟩ a3).frozen? ⟨F, 2, none⟩ = false ∧ ((((W.setCell ⟨I, 0, none⟩ a0).setCell ⟨I, 1, none⟩ a1).setCell ⟨I, 2, none⟩ a2).setCell ⟨I, 3, none⟩ a3).frozen? ⟨F, 3, none⟩ = false ∧ ((((W.setCell ⟨I, 0, none⟩ a0).setCell ⟨I, 1, none⟩ a1).setCell ⟨I, 2, none⟩ a2).setCell ⟨I, 3, none⟩ a3).frozen? ⟨I, 0, none⟩ = false ∧ ((((W.setCell ⟨I, 0, none⟩ a0).setCell ⟨I, 1, none⟩ a1).setCell ⟨I, 2, none⟩ a2).setCell ⟨I, 3, none⟩ a3).frozen? ⟨I, 1, none⟩ = false ∧ ((((W.setCell ⟨I, 0, none⟩ a0).setCell ⟨I, 1, none⟩ a1).setCell ⟨I, 2, none⟩ a2).setCell ⟨I, 3, none⟩ a3).frozen? ⟨I, 2, none⟩ = false ∧ ((((W.setCell ⟨I, 0, none⟩ a0).setCell ⟨I, 1, none⟩ a1).setCell ⟨I, 2, none⟩ a2).setCell ⟨I, 3, none⟩ a3).frozen? ⟨I, 3, none⟩ = false := ((((h.1.setI1 0 a0).setI1 1 a1).setI1 2 a2).setI1 3 a3).all
theorem ET.fin {w : World} {F I E : Nat} {a b c d : Int} {W : World} (h : ET w F I E a b c d W) (a0 a1 a2 a3 b0 b1 b2 b3 : Value) : ∃ W', W' = ((((((((W.setCell ⟨F, 0, none⟩ a0).setCell ⟨F, 1, none⟩ a1).setCell ⟨F, 2, none⟩ a2).setCell ⟨F, 3, none⟩ a3).setCell ⟨I, 0, none⟩ b0).setCell ⟨I, 1, none⟩ b1).setCell ⟨I, 2, none⟩ b2).setCell ⟨I, 3, none⟩ b3) ∧ Below w.heap.size w W' ∧ (W'.cell? ⟨F, 0, none⟩ = some a0 ∧ W'.cell? ⟨F, 1, none⟩ = some a1 ∧ W'.cell? ⟨F, 2, none⟩ = some a2 ∧ W'.cell? ⟨F, 3, none⟩ = some a3) ∧
    (W'.cell? ⟨I, 0, none⟩ = some b0 ∧ W'.cell? ⟨I, 1, none⟩ = some b1 ∧ W'.cell? ⟨I, 2, none⟩ = some b2 ∧ W'.cell? ⟨I, 3, none⟩ = some b3) := by
  obtain ⟨zs, hz⟩ := h.es.rf
  obtain ⟨ys, hy⟩ := h.ri
  have hl : zs.length = 4 := hz.1
  have hl2 : ys.length = 4 := hy.1
  have z0 := own_set hz 0 a0
  have z1 := own_set z0 1 a1
  have z2 := own_set z1 2 a2
  have z3 := own_set z2 3 a3
  have y0 := own_othM (own_othM (own_othM (own_othM hy hz (by decide) 0 a0) z0 (by decide) 1 a1) z1 (by decide) 2 a2) z2 (by decide) 3 a3
  have y1 := own_set y0 0 b0
  have y2 := own_set y1 1 b1
  have y3 := own_set y2 2 b2
  have y4 := own_set y3 3 b3
  have x4 := own_othM (own_othM (own_othM (own_othM z3 y0 (by decide) 0 b0) y1 (by decide) 1 b1) y2 (by decide) 2 b2) y3 (by decide) 3 b3
  refine ⟨_, rfl, ((((((((h.setF1 0 a0).setF1 1 a1).setF1 2 a2).setF1 3 a3).setI1 0 b0).setI1 1 b1).setI1 2 b2).setI1 3 b3).es.bw, ⟨?_, ?_, ?_, ?_⟩, ⟨?_, ?_, ?_, ?_⟩⟩
  · rw [x4.cellAt 0 (by omega)]; simp [hl]
  · rw [x4.cellAt 1 (by omega)]; simp [hl]
  · rw [x4.cellAt 2 (by omega)]; simp [hl]
  · rw [x4.cellAt 3 (by omega)]; simp [hl]
  · rw [y4.cellAt 0 (by omega)]; simp [hl2]
  · rw [y4.cellAt 1 (by omega)]; simp [hl2]
  · rw [y4.cellAt 2 (by omega)]; simp [hl2]
  · rw [y4.cellAt 3 (by omega)]; simp [hl2]
/-- What a draw of an evening and an item leaves. -/
def PostTO (w : World) (e : Ending) (w' : World) : Prop := ∃ (a b c d : Int) (x : It), e = .returned (.tuple #[.agg #[.int .i64 a, .int .i64 b, .int .i64 c, .int .i64 d], .agg #[.string x.name, .int .i64 x.stage, .int .i64 x.rows, .int .i64 x.worth]]) ∧ x.name.size ≤ 11 ∧ Below w.heap.size w w'
set_option maxRecDepth 100000 in
set_option maxHeartbeats 4000000 in
theorem drawTimeOf_any (V : Value) (w : World) (h : BytesAt w w.heap.size V) : Calls Tryz.prog 24 #[V] w (PostTO w) := by
  have H := Lib.hid h
  obtain ⟨A0, n0, c0, zs0, rfl, _⟩ := h
  go_enter Tryz.func24, Tryz.ntmps24
  go_wp2_with fail
  refine box3 (C := fun W => Calls _ _ _ W _) ?_
  intro wb hw k0 k1 k2 hB0
  have C0 := Lib.hid (cur_box H.out hw (by omega) k2)
  have Hw := Lib.hid hw
  have K0 := Lib.hid (own_of_heap (base := w.heap.size) (n := 1) (size := 4) k0 (Nat.le_refl _) (by unfold maxLen; omega) rfl)
  have K1 := Lib.hid (own_of_heap (base := w.heap.size) (n := 1) (size := 4) k1 (by omega) (by unfold maxLen; omega) rfl)
  clear k0 k1 k2 hw hB0
  refine (drawEvening_any wb (w.heap.size + 2) 0 C0.out (by omega)).mono ?_; rintro e w1 ⟨a, b, c, d, rfl, hc, hg⟩
  have B1 := Lib.hid (gb_below Hw.out hg (by omega))
  have R0 := Lib.hid (own_noC K0.out C0.out (by decide) hg)
  have R1 := Lib.hid (own_noC K1.out C0.out (by decide) hg)
  have C1 := Lib.hid hc
  have hz1 : w.heap.size + 2 < w1.heap.size := hc.lt
  clear hc hg K0 K1 C0
  go_upto_region 3 with fail
  refine box1 (C := fun W => Code.wp _ _ _ _ W) ?_
  intro w3 hw3 k3 hB3
  have P3 := Lib.hid (show ET w w.heap.size (w.heap.size + 1) w1.heap.size a b c d w3 from ⟨⟨bw_to B1.out hw3, ⟨_, own_to R0.out hw3⟩, own_of_heap (n := 1) (size := 4) k3 (by omega) (by unfold maxLen; omega) rfl, by omega⟩, _, own_to R1.out hw3⟩)
  have C3d := Lib.hid ((C1.out.to hw3).to (Below.drew (Below.refl _ _)))
  have hz3 : w1.heap.size < w3.heap.size := (Array.getElem?_eq_some_iff.1 k3).1
  have hCw : w.heap.size ≤ w.heap.size + 2 := by omega
  obtain ⟨E, hE⟩ : ∃ X, X = w1.heap.size := ⟨_, rfl⟩
  obtain ⟨C, hC⟩ : ∃ X, X = w.heap.size + 2 := ⟨_, rfl⟩
  obtain ⟨I, hI⟩ : ∃ X, X = w.heap.size + 1 := ⟨_, rfl⟩
  obtain ⟨F, hF⟩ : ∃ X, X = w.heap.size := ⟨_, rfl⟩
  rw [← hE] at P3 ⊢
  rw [← hC] at C3d hCw ⊢
  rw [← hI] at P3 ⊢
  have P3 := Lib.hid (show ET w F I E a b c d w3 from by rw [hF]; exact P3.out)
  rw [← hF]
  have y3 : ET w F I E a b c d w3.drew := P3.out.to (Below.drew (Below.refl _ _))
  obtain ⟨_, s0, s1, s2, s3, u0, u1, u2, u3, v0, v1, v2, v3, t0, t1, t2, t3, t4, t5, t6, t7⟩ := P3.out.all
  have nFI : F ≠ I := by omega
  have nIF := nFI.symm
  clear hE hC hF hI R0 R1 C1 B1 k3 hw3 hB3 hz1 hz3 Hw
  go_region_held3 (fun W => ET w F I E a b c d W ∧ W.cell? ⟨E, 0, none⟩ = some (.int .i64 a) ∧ W.cell? ⟨E, 1, none⟩ = some (.int .i64 b) ∧ W.cell? ⟨E, 2, none⟩ = some (.int .i64 c) ∧ W.cell? ⟨E, 3, none⟩ = some (.int .i64 d) ∧ W.cell? ⟨F, 0, none⟩ = some (oldC F 0 W) ∧ W.cell? ⟨F, 1, none⟩ = some (oldC F 1 W) ∧ W.cell? ⟨F, 2, none⟩ = some (oldC F 2 W) ∧ W.cell? ⟨F, 3, none⟩ = some (oldC F 3 W) ∧ W.cell? ⟨I, 0, none⟩ = some (oldC I 0 W) ∧ W.cell? ⟨I, 1, none⟩ = some (oldC I 1 W) ∧ W.cell? ⟨I, 2, none⟩ = some (oldC I 2 W) ∧ W.cell? ⟨I, 3, none⟩ = some (oldC I 3 W) ∧ W.frozen? ⟨F, 0, none⟩ = false ∧ W.frozen? ⟨F, 1, none⟩ = false ∧ W.frozen? ⟨F, 2, none⟩ = false ∧ W.frozen? ⟨F, 3, none⟩ = false ∧ W.frozen? ⟨I, 0, none⟩ = false ∧ W.frozen? ⟨I, 1, none⟩ = false ∧ W.frozen? ⟨I, 2, none⟩ = false ∧ W.frozen? ⟨I, 3, none⟩ = false) (first | with_reducible assumption | with_reducible exact ET.all (by assumption) | with_reducible exact ET.allF (by assumption) | with_reducible exact ET.allI (by assumption)) (first | (go_at_call 69; refine (drawItem_any _ C _ C3d.out (by omega)).mono ?_; rintro e w5 ⟨x, rfl, hx5, hc5, hg5⟩; (have y5 : ET w F I E a b c d w5 := y3.draw hCw C3d.out hg5); (have P5 := Lib.hid y5); clear hc5 hg5))
  go_wp2_with fail
  obtain ⟨W', eW, hb', ⟨e0, e1, e2, e3⟩, i0, i1, i2, i3⟩ := P5.out.fin (.int .i64 a) (.int .i64 b) (.int .i64 c) (.int .i64 d) (.string x.name) (.int .i64 x.stage) (.int .i64 x.rows) (.int .i64 x.worth)
  rw [← eW]
  refine bodyPost_ret (v := .tuple #[.agg #[.int .i64 a, .int .i64 b, .int .i64 c, .int .i64 d], .agg #[.string x.name, .int .i64 x.stage, .int .i64 x.rows, .int .i64 x.worth]]) (by simp [results, go_sem, e0, e1, e2, e3, i0, i1, i2, i3]) rfl ?_
  exact ⟨a, b, c, d, x, rfl, hx5, hb'⟩
end Go.Proofs.YtofpjbdelmmclaaGreatDoor
