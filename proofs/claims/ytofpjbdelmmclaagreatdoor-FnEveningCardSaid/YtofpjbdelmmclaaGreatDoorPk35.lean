/- What the laws on rings draw. (Printed by a program: tools/mkXG.py.) -/
import Derived.Test.YtofpjbdelmmclaaGreatDoorPk34
namespace Go.Proofs.YtofpjbdelmmclaaGreatDoor
open Go Go.RowKit
set_option linter.unusedVariables false
set_option linter.unusedSimpArgs false

/-- What a drawn method with its calls is known by. -/
structure PMK (w w' : World) (m : Mt) (v : Value) (k : Cl) : Prop where
  nm : m.name.size ≤ 20
  ln : m.l.length ≤ 60
  sm : ∀ s ∈ m.l, s.size ≤ 20
  st : StageM m
  kb : k.bob.size ≤ 20
  ks : k.single.size ≤ 20
  row : w'.ownsRow w.heap.size 9 1 v m.l.length (m.l.map Value.string)
  bw : Below w.heap.size w w'
theorem PMK.small {w w' : World} {m : Mt} {v : Value} {k : Cl} (h : PMK w w' m v k) : MtSmall m ∧ ClSmall k :=
  ⟨⟨by have := h.nm; omega, by have := h.ln; omega, fun s hs => by have := h.sm s hs; omega⟩, by have := h.kb; omega, by have := h.ks; omega⟩
theorem PMK.meth {w w' : World} {m : Mt} {v : Value} {k : Cl} (h : PMK w w' m v k) : MethAt w' m v :=
  ⟨strs_own_v rfl h.row, by have := h.nm; unfold maxLen; omega, fun s hs => by have := h.sm s hs; unfold maxLen; omega⟩
theorem PMK.to {w w' w2 : World} {m : Mt} {v : Value} {k : Cl} (h : PMK w w' m v k) (hb : Below w'.heap.size w' w2) : PMK w w2 m v k := { h with row := own_to h.row hb, bw := bw_to h.bw hb }
theorem PMK.from_ {w w1 w2 : World} {m : Mt} {v : Value} {k : Cl} (h : PMK w1 w2 m v k) (hb : Below w.heap.size w w1) : PMK w w2 m v k := { h with row := own_base h.row hb.size, bw := bw_to hb h.bw }
theorem own_noC {w w' : World} {C lim base size n : Nat} {e : TypeId} {v : Value} {xs : List Value} (h : w.ownsRow base e size v n xs) (hc : Cur w C lim) (he : e ≠ 70) (hg : w.grownBy w' (some C)) : w'.ownsRow base e size v n xs := by
  obtain ⟨_, _, _, _, _, _, _, _, ho⟩ := hc
  exact h.kept hg (own_kindsX h ho he)
theorem own_blk_ne {w : World} {b1 b2 : Nat} {e1 e2 : TypeId} {s1 s2 : Nat} {R K : Nat} {x1 x2 : List Value} (h1 : w.ownsRow b1 e1 s1 (.slice (some ⟨R, 0, none⟩) 1 1) 1 x1) (h2 : w.ownsRow b2 e2 s2 (.slice (some ⟨K, 0, none⟩) 1 1) 1 x2) (he : e1 ≠ e2) : R ≠ K := by
  intro e
  subst e
  rcases own_kindsX h1 h2 he with h | h
  · cases h
  · exact h rfl
theorem own_ne1 {w : World} {base g D : Nat} {e : TypeId} {s : Nat} {xs : List Value} (h : w.ownsRow base e s (.slice (some ⟨g, 0, none⟩) 1 1) 1 xs) (hne : g ≠ D) (j : Nat) (u : Value) : (w.setCell ⟨D, j, none⟩ u).ownsRow base e s (.slice (some ⟨g, 0, none⟩) 1 1) 1 xs :=
  h.kept (gb_set (gb_refl w D) j u) (.inr (by simp [Value.ownBlock]; omega))
/-- The state of a drawer: the results' blocks R and K, the method's box G, the calls' box D. -/
structure DN (w : World) (R K G D : Nat) (nm : ByteArray) (n : Int) (v : Value) (ss : List ByteArray) (b s : ByteArray) (W : World) : Prop where
  bw : Below w.heap.size w W
  rm : ∃ xs, W.ownsRow w.heap.size 49 3 (.slice (some ⟨R, 0, none⟩) 1 1) 1 xs
  rk : ∃ ys, W.ownsRow w.heap.size 51 2 (.slice (some ⟨K, 0, none⟩) 1 1) 1 ys
  box : W.ownsRow w.heap.size 49 3 (.slice (some ⟨G, 0, none⟩) 1 1) 1 [.string nm, .int .i64 n, v]
  kx : W.ownsRow w.heap.size 51 2 (.slice (some ⟨D, 0, none⟩) 1 1) 1 [.string b, .string s]
  row : W.ownsRow w.heap.size 9 1 v ss.length (ss.map Value.string)
  ne : R ≠ G
  nk : K ≠ D
theorem DN.to {w : World} {R K G D : Nat} {nm : ByteArray} {n : Int} {v : Value} {ss : List ByteArray} {b s : ByteArray} {W W' : World} (h : DN w R K G D nm n v ss b s W) (hb : Below W.heap.size W W') : DN w R K G D nm n v ss b s W' :=
  ⟨bw_to h.bw hb, let ⟨xs, hx⟩ := h.rm; ⟨xs, own_to hx hb⟩, let ⟨xs, hx⟩ := h.rk; ⟨xs, own_to hx hb⟩, own_to h.box hb, own_to h.kx hb, own_to h.row hb, h.ne, h.nk⟩
theorem DN.drew {w : World} {R K G D : Nat} {nm : ByteArray} {n : Int} {v : Value} {ss : List ByteArray} {b s : ByteArray} {W : World} (h : DN w R K G D nm n v ss b s W) : DN w R K G D nm n v ss b s W.drew := h.to (Below.drew (Below.refl _ _))
theorem DN.draw {w : World} {R K G D : Nat} {nm : ByteArray} {n : Int} {v : Value} {ss : List ByteArray} {b s : ByteArray} {C lim : Nat} {W W' : World} (h : DN w R K G D nm n v ss b s W) (hC : w.heap.size ≤ C) (hc : Cur W C lim) (hg : W.grownBy W' (some C)) : DN w R K G D nm n v ss b s W' :=
  ⟨gb_below h.bw hg hC, let ⟨xs, hx⟩ := h.rm; ⟨xs, own_noC hx hc (by decide) hg⟩, let ⟨xs, hx⟩ := h.rk; ⟨xs, own_noC hx hc (by decide) hg⟩, own_noC h.box hc (by decide) hg, own_noC h.kx hc (by decide) hg, own_noC h.row hc (by decide) hg, h.ne, h.nk⟩
theorem DN.nes {w : World} {R K G D : Nat} {nm : ByteArray} {n : Int} {v : Value} {ss : List ByteArray} {b s : ByteArray} {W : World} (h : DN w R K G D nm n v ss b s W) : R ≠ K ∧ R ≠ D ∧ K ≠ G ∧ w.heap.size ≤ R ∧ w.heap.size ≤ K := by
  obtain ⟨xs, hx⟩ := h.rm
  obtain ⟨ys, hy⟩ := h.rk
  exact ⟨own_blk_ne hx hy (by decide), own_blk_ne hx h.kx (by decide), own_blk_ne hy h.box (by decide), (hx.lt R rfl).1, (hy.lt K rfl).1⟩
theorem DN.setR1 {w : World} {R K G D : Nat} {nm : ByteArray} {n : Int} {v : Value} {ss : List ByteArray} {b s : ByteArray} {W : World} (h : DN w R K G D nm n v ss b s W) (j : Nat) (u : Value) : DN w R K G D nm n v ss b s (W.setCell ⟨R, j, none⟩ u) := by
  obtain ⟨n1, n2, n3, n4, n5⟩ := h.nes
  obtain ⟨xs, hx⟩ := h.rm
  obtain ⟨ys, hy⟩ := h.rk
  have hne := h.ne
  exact ⟨grow_setB9 h.bw n4 u, ⟨_, own_set hx j u⟩, ⟨ys, own_ne1 hy (by omega) j u⟩, own_ne1 h.box (by omega) j u, own_ne1 h.kx (by omega) j u, h.row.kept (gb_set (gb_refl W R) j u) ((own_kindsX h.row hx (by decide)).imp id (fun x y => x (by rw [y]; rfl))), h.ne, h.nk⟩
theorem DN.setK1 {w : World} {R K G D : Nat} {nm : ByteArray} {n : Int} {v : Value} {ss : List ByteArray} {b s : ByteArray} {W : World} (h : DN w R K G D nm n v ss b s W) (j : Nat) (u : Value) : DN w R K G D nm n v ss b s (W.setCell ⟨K, j, none⟩ u) := by
  obtain ⟨n1, n2, n3, n4, n5⟩ := h.nes
  obtain ⟨xs, hx⟩ := h.rm
  obtain ⟨ys, hy⟩ := h.rk
  have hnk := h.nk
  exact ⟨grow_setB9 h.bw n5 u, ⟨xs, own_ne1 hx (by omega) j u⟩, ⟨_, own_set hy j u⟩, own_ne1 h.box (by omega) j u, own_ne1 h.kx (by omega) j u, h.row.kept (gb_set (gb_refl W K) j u) ((own_kindsX h.row hy (by decide)).imp id (fun x y => x (by rw [y]; rfl))), h.ne, h.nk⟩
theorem DN.setR {w : World} {R K G D : Nat} {nm : ByteArray} {n : Int} {v : Value} {ss : List ByteArray} {b s : ByteArray} {W : World} {a0 a1 a2 : Value} (h : DN w R K G D nm n v ss b s W) : DN w R K G D nm n v ss b s (((W.setCell ⟨R, 0, none⟩ a0).setCell ⟨R, 1, none⟩ a1).setCell ⟨R, 2, none⟩ a2) := ((h.setR1 0 a0).setR1 1 a1).setR1 2 a2
theorem DN.setK {w : World} {R K G D : Nat} {nm : ByteArray} {n : Int} {v : Value} {ss : List ByteArray} {b s : ByteArray} {W : World} {a0 a1 : Value} (h : DN w R K G D nm n v ss b s W) : DN w R K G D nm n v ss b s ((W.setCell ⟨K, 0, none⟩ a0).setCell ⟨K, 1, none⟩ a1) := (h.setK1 0 a0).setK1 1 a1
theorem DN.all {w : World} {R K G D : Nat} {nm : ByteArray} {n : Int} {v : Value} {ss : List ByteArray} {b s : ByteArray} {W : World} (h : DN w R K G D nm n v ss b s W) : DN w R K G D nm n v ss b s W ∧ W.cell? ⟨G, 0, none⟩ = some (.string nm) ∧ W.cell? ⟨G, 1, none⟩ = some (.int .i64 n) ∧ W.cell? ⟨G, 2, none⟩ = some (v) ∧ W.cell? ⟨D, 0, none⟩ = some (.string b) ∧ W.cell? ⟨D, 1, none⟩ = some (.string s) ∧ W.cell? ⟨R, 0, none⟩ = some (oldC R 0 W) ∧ W.cell? ⟨R, 1, none⟩ = some (oldC R 1 W) ∧ W.cell? ⟨R, 2, none⟩ = some (oldC R 2 W) ∧ W.cell? ⟨K, 0, none⟩ = some (oldC K 0 W) ∧ W.cell? ⟨K, 1, none⟩ = some (oldC K 1 W) ∧ W.frozen? ⟨R, 0, none⟩ = false ∧ W.frozen? ⟨R, 1, none⟩ = false ∧ W.frozen? ⟨R, 2, none⟩ = false ∧ W.frozen? ⟨K, 0, none⟩ = false ∧ W.frozen? ⟨K, 1, none⟩ = false := by
  obtain ⟨xs, hx⟩ := h.rm
  obtain ⟨ys, hy⟩ := h.rk
  have hl : xs.length = 3 := hx.1
  have hl2 : ys.length = 2 := hy.1
  refine ⟨h, (h.box.cellAt 0 (by omega)).trans rfl, (h.box.cellAt 1 (by omega)).trans rfl, (h.box.cellAt 2 (by omega)).trans rfl, (h.kx.cellAt 0 (by omega)).trans rfl, (h.kx.cellAt 1 (by omega)).trans rfl, ?_, ?_, ?_, ?_, ?_, hx.frozenAt _, hx.frozenAt _, hx.frozenAt _, hy.frozenAt _, hy.frozenAt _⟩
  · exact oldC_of (x := xs[0]) (by rw [hx.cellAt 0 (by omega)]; simp [hl])
  · exact oldC_of (x := xs[1]) (by rw [hx.cellAt 1 (by omega)]; simp [hl])
  · exact oldC_of (x := xs[2]) (by rw [hx.cellAt 2 (by omega)]; simp [hl])
  · exact oldC_of (x := ys[0]) (by rw [hy.cellAt 0 (by omega)]; simp [hl2])
  · exact oldC_of (x := ys[1]) (by rw [hy.cellAt 1 (by omega)]; simp [hl2])
theorem DN.allR {w : World} {R K G D : Nat} {nm : ByteArray} {n : Int} {v : Value} {ss : List ByteArray} {b s : ByteArray} {W : World} {a0 a1 a2 : Value} (h : DN w R K G D nm n v ss b s W ∧ W.cell? ⟨G, 0, none⟩ = some (.string nm) ∧ W.cell? ⟨G, 1, none⟩ = some (.int .i64 n) ∧ W.cell? ⟨G, 2, none⟩ = some (v) ∧ W.cell? ⟨D, 0, none⟩ = some (.string b) ∧ W.cell? ⟨D, 1, none⟩ = some (.string s) ∧ W.cell? ⟨R, 0, none⟩ = some (oldC R 0 W) ∧ W.cell? ⟨R, 1, none⟩ = some (oldC R 1 W) ∧ W.cell? ⟨R, 2, none⟩ = some (oldC R 2 W) ∧ W.cell? ⟨K, 0, none⟩ = some (oldC K 0 W) ∧ W.cell? ⟨K, 1, none⟩ = some (oldC K 1 W) ∧ W.frozen? ⟨R, 0, none⟩ = false ∧ W.frozen? ⟨R, 1, none⟩ = false ∧ W.frozen? ⟨R, 2, none⟩ = false ∧ W.frozen? ⟨K, 0, none⟩ = false ∧ W.frozen? ⟨K, 1, none⟩ = false) : DN w R K G D nm n v ss b s (((W.setCell ⟨R, 0, none⟩ a0).setCell ⟨R, 1, none⟩ a1).setCell ⟨R, 2, none⟩ a2) ∧ (((W.setCell ⟨R, 0, none⟩ a0).setCell ⟨R, 1, none⟩ a1).setCell ⟨R, 2, none⟩ a2).cell? ⟨G, 0, none⟩ = some (.string nm) ∧ (((W.setCell ⟨R, 0, none⟩ a0).setCell ⟨R, 1, none⟩ a1).setCell ⟨R, 2, none⟩ a2).cell? ⟨G, 1, none⟩ = some (.int .i64 n) ∧ (((W.setCell ⟨R, 0, none⟩ a0).setCell ⟨R, 1, none⟩ a1).setCell ⟨R, 2, none⟩ a2).cell? ⟨G, 2, none⟩ = some (v) ∧ (((W.setCell ⟨R, 0, none⟩ a0).setCell ⟨R, 1, none⟩ a1).setCell ⟨R, 2, none⟩ a2).cell? ⟨D, 0, none⟩ = some (.string b) ∧ (((W.setCell ⟨R, 0, none⟩ a0).setCell ⟨R, 1, none⟩ a1).setCell ⟨R, 2, none⟩ a2).cell? ⟨D, 1, none⟩ = some (.string s) ∧ (((W.setCell ⟨R, 0, none⟩ a0).setCell ⟨R, 1, none⟩ a1).setCell ⟨R, 2, none⟩ a2).cell? ⟨R, 0, none⟩ = some (oldC R 0 (((W.setCell ⟨R, 0, none⟩ a0).setCell ⟨R, 1, none⟩ a1).setCell ⟨R, 2, none⟩ a2)) ∧ (((W.setCell ⟨R, 0, none⟩ a0).setCell ⟨R, 1, none⟩ a1).setCell ⟨R, 2, none⟩ a2).cell? ⟨R, 1, none⟩ = some (oldC R 1 (((W.setCell ⟨R, 0, none⟩ a0).setCell ⟨R, 1, none⟩ a1).setCell ⟨R, 2, none⟩ a2)) ∧ (((W.setCell ⟨R, 0, none⟩ a0).setCell ⟨R, 1, none⟩ a1).setCell ⟨R, 2, none⟩ a2).cell? ⟨R, 2, none⟩ = some (oldC R 2 (((W.setCell ⟨R, 0, none⟩ a0).setCell ⟨R, 1, none⟩ a1).setCell ⟨R, 2, none⟩ a2)) ∧ (((W.setCell ⟨R, 0, none⟩ a0).setCell ⟨R, 1, none⟩ a1).setCell ⟨R, 2, none⟩ a2).cell? ⟨K, 0, none⟩ = some (oldC K 0 (((W.setCell ⟨R, 0, none⟩ a0).setCell ⟨R, 1, none⟩ a1).setCell ⟨R, 2, none⟩ a2)) ∧ (((W.setCell ⟨R, 0, none⟩ a0).setCell ⟨R, 1, none⟩ a1).setCell ⟨R, 2, none⟩ a2).cell? ⟨K, 1, none⟩ = some (oldC K 1 (((W.setCell ⟨R, 0, none⟩ a0).setCell ⟨R, 1, none⟩ a1).setCell ⟨R, 2, none⟩ a2)) ∧ (((W.setCell ⟨R, 0, none⟩ a0).setCell ⟨R, 1, none⟩ a1).setCell ⟨R, 2, none⟩ a2).frozen? ⟨R, 0, none⟩ = false ∧ (((W.setCell ⟨R, 0, none⟩ a0).setCell ⟨R, 1, none⟩ a1).setCell ⟨R, 2, none⟩ a2).frozen? ⟨R, 1, none⟩ = false ∧ (((W.setCell ⟨R, 0, none⟩ a0).setCell ⟨R, 1, none⟩ a1).setCell ⟨R, 2, none⟩ a2).frozen? ⟨R, 2, none⟩ = false ∧ (((W.setCell ⟨R, 0, none⟩ a0).setCell ⟨R, 1, none⟩ a1).setCell ⟨R, 2, none⟩ a2).frozen? ⟨K, 0, none⟩ = false ∧ (((W.setCell ⟨R, 0, none⟩ a0).setCell ⟨R, 1, none⟩ a1).setCell ⟨R, 2, none⟩ a2).frozen? ⟨K, 1, none⟩ = false := h.1.setR.all
theorem DN.allK {w : World} {R K G D : Nat} {nm : ByteArray} {n : Int} {v : Value} {ss : List ByteArray} {b s : ByteArray} {W : World} {a0 a1 : Value} (h : DN w R K G D nm n v ss b s W ∧ W.cell? ⟨G, 0, none⟩ = some (.string nm) ∧ W.cell? ⟨G, 1, none⟩ = some (.int .i64 n) ∧ W.cell? ⟨G, 2, none⟩ = some (v) ∧ W.cell? ⟨D, 0, none⟩ = some (.string b) ∧ W.cell? ⟨D, 1, none⟩ = some (.string s) ∧ W.cell? ⟨R, 0, none⟩ = some (oldC R 0 W) ∧ W.cell? ⟨R, 1, none⟩ = some (oldC R 1 W) ∧ W.cell? ⟨R, 2, none⟩ = some (oldC R 2 W) ∧ W.cell? ⟨K, 0, none⟩ = some (oldC K 0 W) ∧ W.cell? ⟨K, 1, none⟩ = some (oldC K 1 W) ∧ W.frozen? ⟨R, 0, none⟩ = false ∧ W.frozen? ⟨R, 1, none⟩ = false ∧ W.frozen? ⟨R, 2, none⟩ = false ∧ W.frozen? ⟨K, 0, none⟩ = false ∧ W.frozen? ⟨K, 1, none⟩ = false) : DN w R K G D nm n v ss b s ((W.setCell ⟨K, 0, none⟩ a0).setCell ⟨K, 1, none⟩ a1) ∧ ((W.setCell ⟨K, 0, none⟩ a0).setCell ⟨K, 1, none⟩ a1).cell? ⟨G, 0, none⟩ = some (.string nm) ∧ ((W.setCell ⟨K, 0, none⟩ a0).setCell ⟨K, 1, none⟩ a1).cell? ⟨G, 1, none⟩ = some (.int .i64 n) ∧ ((W.setCell ⟨K, 0, none⟩ a0).setCell ⟨K, 1, none⟩ a1).cell? ⟨G, 2, none⟩ = some (v) ∧ ((W.setCell ⟨K, 0, none⟩ a0).setCell ⟨K, 1, none⟩ a1).cell? ⟨D, 0, none⟩ = some (.string b) ∧ ((W.setCell ⟨K, 0, none⟩ a0).setCell ⟨K, 1, none⟩ a1).cell? ⟨D, 1, none⟩ = some (.string s) ∧ ((W.setCell ⟨K, 0, none⟩ a0).setCell ⟨K, 1, none⟩ a1).cell? ⟨R, 0, none⟩ = some (oldC R 0 ((W.setCell ⟨K, 0, none⟩ a0).setCell ⟨K, 1, none⟩ a1)) ∧ ((W.setCell ⟨K, 0, none⟩ a0).setCell ⟨K, 1, none⟩ a1).cell? ⟨R, 1, none⟩ = some (oldC R 1 ((W.setCell ⟨K, 0, none⟩ a0).setCell ⟨K, 1, none⟩ a1)) ∧ ((W.setCell ⟨K, 0, none⟩ a0).setCell ⟨K, 1, none⟩ a1).cell? ⟨R, 2, none⟩ = some (oldC R 2 ((W.setCell ⟨K, 0, none⟩ a0).setCell ⟨K, 1, none⟩ a1)) ∧ ((W.setCell ⟨K, 0, none⟩ a0).setCell ⟨K, 1, none⟩ a1).cell? ⟨K, 0, none⟩ = some (oldC K 0 ((W.setCell ⟨K, 0, none⟩ a0).setCell ⟨K, 1, none⟩ a1)) ∧ ((W.setCell ⟨K, 0, none⟩ a0).setCell ⟨K, 1, none⟩ a1).cell? ⟨K, 1, none⟩ = some (oldC K 1 ((W.setCell ⟨K, 0, none⟩ a0).setCell ⟨K, 1, none⟩ a1)) ∧ ((W.setCell ⟨K, 0, none⟩ a0).setCell ⟨K, 1, none⟩ a1).frozen? ⟨R, 0, none⟩ = false ∧ ((W.setCell ⟨K, 0, none⟩ a0).setCell ⟨K, 1, none⟩ a1).frozen? ⟨R, 1, none⟩ = false ∧ ((W.setCell ⟨K, 0, none⟩ a0).setCell ⟨K, 1, none⟩ a1).frozen? ⟨R, 2, none⟩ = false ∧ ((W.setCell ⟨K, 0, none⟩ a0).setCell ⟨K, 1, none⟩ a1).frozen? ⟨K, 0, none⟩ = false ∧ ((W.setCell ⟨K, 0, none⟩ a0).setCell ⟨K, 1, none⟩ a1).frozen? ⟨K, 1, none⟩ = false := h.1.setK.all
/-- The five cells of the results, written. -/
theorem DN.fin {w : World} {R K G D : Nat} {nm : ByteArray} {n : Int} {v : Value} {ss : List ByteArray} {b s : ByteArray} {W : World} (h : DN w R K G D nm n v ss b s W) (a0 a1 a2 a3 a4 : Value) :
    ∃ W', W' = ((((W.setCell ⟨R, 0, none⟩ a0).setCell ⟨R, 1, none⟩ a1).setCell ⟨R, 2, none⟩ a2).setCell ⟨K, 0, none⟩ a3).setCell ⟨K, 1, none⟩ a4 ∧ DN w R K G D nm n v ss b s W' ∧
      (W'.cell? ⟨R, 0, none⟩ = some a0 ∧ W'.cell? ⟨R, 1, none⟩ = some a1 ∧ W'.cell? ⟨R, 2, none⟩ = some a2) ∧ (W'.cell? ⟨K, 0, none⟩ = some a3 ∧ W'.cell? ⟨K, 1, none⟩ = some a4) ∧
      (∀ base V l, BobV W base V l → R < base → K < base → BobV W' base V l) := by
  obtain ⟨n1, n2, n3, n4, n5⟩ := h.nes
  refine ⟨_, rfl, ((((h.setR1 0 a0).setR1 1 a1).setR1 2 a2).setK1 0 a3).setK1 1 a4, ?_, ?_, ?_⟩
  · obtain ⟨xs, hx⟩ := h.rm
    have hl : xs.length = 3 := hx.1
    have h5 := own_ne1 (own_ne1 (own_set (own_set (own_set hx 0 a0) 1 a1) 2 a2) (D := K) (by omega) 0 a3) (D := K) (by omega) 1 a4
    refine ⟨?_, ?_, ?_⟩
    · rw [h5.cellAt 0 (by omega)]; simp [hl]
    · rw [h5.cellAt 1 (by omega)]; simp [hl]
    · rw [h5.cellAt 2 (by omega)]; simp [hl]
  · obtain ⟨ys, hy⟩ := (((h.setR1 0 a0).setR1 1 a1).setR1 2 a2).rk
    have hl : ys.length = 2 := hy.1
    have h5 := own_set (own_set hy 0 a3) 1 a4
    refine ⟨?_, ?_⟩
    · rw [h5.cellAt 0 (by omega)]; simp [hl]
    · rw [h5.cellAt 1 (by omega)]; simp [hl]
  · intro base V l hB hR hK
    have st : ∀ (W : World) (g j : Nat) (u : Value), g < base → BobV W base V l → BobV (W.setCell ⟨g, j, none⟩ u) base V l := fun W g j u hg h => h.draw (gb_set (gb_refl W g) j u) hg
    exact st _ K 1 a4 hK (st _ K 0 a3 hK (st _ R 2 a2 hR (st _ R 1 a1 hR (st _ R 0 a0 hR hB))))
theorem cur_box {w wb : World} {C : Nat} {V : Value} (h : BytesAt w w.heap.size V) (hb : Below w.heap.size w wb) (hC : w.heap.size ≤ C) (hh : wb.heap[C]? = some (.cells #[V, .int .i64 0, .int .u64 0] 70 (0, 0))) : Cur wb C 0 :=
  ⟨V, 0, 0, (h.keep (fun p hp => hb.cell hp)).more hC, by omega, by omega, by omega, by omega, own_of_heap hh (Nat.le_refl _) (by unfold maxLen; omega) rfl⟩
/-- The five cells of two results' blocks written behind a drawer. -/
theorem five_fin {w wb w1 : World} {R K : Nat} {xs ys : List Value} (hw : Below w.heap.size w wb) (hb : Below wb.heap.size wb w1) (hx : w1.ownsRow w.heap.size 49 3 (.slice (some ⟨R, 0, none⟩) 1 1) 1 xs) (hy : w1.ownsRow w.heap.size 51 2 (.slice (some ⟨K, 0, none⟩) 1 1) 1 ys) (a0 a1 a2 a3 a4 : Value) :
    ∃ W', W' = ((((w1.setCell ⟨R, 0, none⟩ a0).setCell ⟨R, 1, none⟩ a1).setCell ⟨R, 2, none⟩ a2).setCell ⟨K, 0, none⟩ a3).setCell ⟨K, 1, none⟩ a4 ∧ Below w.heap.size w W' ∧
      (W'.cell? ⟨R, 0, none⟩ = some a0 ∧ W'.cell? ⟨R, 1, none⟩ = some a1 ∧ W'.cell? ⟨R, 2, none⟩ = some a2) ∧ (W'.cell? ⟨K, 0, none⟩ = some a3 ∧ W'.cell? ⟨K, 1, none⟩ = some a4) ∧
      (∀ base (e : TypeId) (s n : Nat) v zs, w1.ownsRow base e s v n zs → e ≠ 49 → e ≠ 51 → W'.ownsRow base e s v n zs) ∧ (∀ base V l, BobV w1 base V l → BobV W' base V l) := by
  have hl : xs.length = 3 := hx.1
  have hl2 : ys.length = 2 := hy.1
  have hRK := own_blk_ne hx hy (by decide)
  have hR := (hx.lt R rfl).1
  have hK := (hy.lt K rfl).1
  have y3 := own_ne1 (own_ne1 (own_ne1 hy (D := R) (by omega) 0 a0) (D := R) (by omega) 1 a1) (D := R) (by omega) 2 a2
  have hro : ∀ base (e : TypeId) (s n : Nat) v zs, w1.ownsRow base e s v n zs → e ≠ 49 → e ≠ 51 → (((((w1.setCell ⟨R, 0, none⟩ a0).setCell ⟨R, 1, none⟩ a1).setCell ⟨R, 2, none⟩ a2).setCell ⟨K, 0, none⟩ a3).setCell ⟨K, 1, none⟩ a4).ownsRow base e s v n zs := by
    intro base e s n v zs h he1 he2
    have st : ∀ (W : World) (b2 : Nat) (e2 : TypeId) (s2 g j : Nat) (u : Value) (zz : List Value), W.ownsRow base e s v n zs → W.ownsRow b2 e2 s2 (.slice (some ⟨g, 0, none⟩) 1 1) 1 zz → e ≠ e2 → (W.setCell ⟨g, j, none⟩ u).ownsRow base e s v n zs := fun W b2 e2 s2 g j u zz h1 h2 hne =>
      h1.kept (gb_set (gb_refl W g) j u) ((own_kindsX h1 h2 hne).imp id (fun x y => x (by rw [y]; rfl)))
    have x1 := own_set hx 0 a0
    have x2 := own_set x1 1 a1
    have h3 := st _ _ _ _ R 2 a2 _ (st _ _ _ _ R 1 a1 _ (st _ _ _ _ R 0 a0 _ h hx he1) x1 he1) x2 he1
    exact st _ _ _ _ K 1 a4 _ (st _ _ _ _ K 0 a3 _ h3 y3 he2) (own_set y3 0 a3) he2
  refine ⟨_, rfl, ?_, ?_, ?_, hro, ?_⟩
  · exact grow_setB9 (grow_setB9 (grow_setB9 (grow_setB9 (grow_setB9 (bw_to hw hb) hR a0) hR a1) hR a2) hK a3) hK a4
  · have h5 := own_ne1 (own_ne1 (own_set (own_set (own_set hx 0 a0) 1 a1) 2 a2) (D := K) (by omega) 0 a3) (D := K) (by omega) 1 a4
    refine ⟨?_, ?_, ?_⟩
    · rw [h5.cellAt 0 (by omega)]; simp [hl]
    · rw [h5.cellAt 1 (by omega)]; simp [hl]
    · rw [h5.cellAt 2 (by omega)]; simp [hl]
  · have h5 := own_set (own_set y3 0 a3) 1 a4
    refine ⟨?_, ?_⟩
    · rw [h5.cellAt 0 (by omega)]; simp [hl2]
    · rw [h5.cellAt 1 (by omega)]; simp [hl2]
  · intro base V l h
    rcases h with h | ⟨g, q, x, h, e⟩
    · exact .inl (hro _ _ _ _ _ _ h (by decide) (by decide))
    · exact .inr ⟨g, q, x, hro _ _ _ _ _ _ h (by decide) (by decide), e⟩
end Go.Proofs.YtofpjbdelmmclaaGreatDoor
