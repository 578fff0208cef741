/- A method with calls drawn; a hunting one. -/
import Derived.Test.YtofpjbdelmmclaaGreatDoorPk31
import Derived.Test.YtofpjbdelmmclaaGreatDoorPk19
import Derived.Test.YtofpjbdelmmclaaGreatDoorPk15
namespace Go.Proofs.YtofpjbdelmmclaaGreatDoor
open Go Go.RowKit
set_option linter.unusedVariables false
set_option linter.unusedSimpArgs false

/-- What a draw of a method with its calls leaves. -/
def DrewMK (w : World) (C lim : Nat) (e : Ending) (w' : World) : Prop := ∃ (m : Mt) (v : Value) (k : Cl), e = .returned (.tuple #[m.v v, k.v]) ∧ m.name.size ≤ 20 ∧ m.l.length ≤ 60 ∧ (∀ s ∈ m.l, s.size ≤ 20) ∧ StageM m ∧ (k.bob.size ≤ 20 ∧ k.single.size ≤ 20) ∧ w'.ownsRow w.heap.size 9 1 v m.l.length (m.l.map Value.string) ∧ Cur w' C lim ∧ w.grownBy w' (some C)
/-- The blocks of the results (a method in R, calls in K), the cursor, the row of changes. -/
structure FK (w : World) (C R K : Nat) (v : Value) (ss : List ByteArray) (lim : Nat) (W : World) : Prop where
  cur : Cur W C lim
  gb : w.grownBy W (some C)
  rm : ∃ xs, W.ownsRow w.heap.size 49 3 (.slice (some ⟨R, 0, none⟩) 1 1) 1 xs
  rk : ∃ ys, W.ownsRow w.heap.size 51 2 (.slice (some ⟨K, 0, none⟩) 1 1) 1 ys
  row : W.ownsRow w.heap.size 9 1 v ss.length (ss.map Value.string)
  hC : C < w.heap.size
theorem FK.to {w : World} {C R K : Nat} {v : Value} {ss : List ByteArray} {lim : Nat} {W W' : World} (h : FK w C R K v ss lim W) (hb : Below W.heap.size W W') : FK w C R K v ss lim W' :=
  ⟨h.cur.to hb, gb_to h.gb hb, let ⟨xs, hx⟩ := h.rm; ⟨xs, own_to hx hb⟩, let ⟨xs, hx⟩ := h.rk; ⟨xs, own_to hx hb⟩, own_to h.row hb, h.hC⟩
theorem FK.draw {w : World} {C R K : Nat} {v : Value} {ss : List ByteArray} {lim lim' : Nat} {W W' : World} (h : FK w C R K v ss lim W) (hc : Cur W' C lim') (hg : W.grownBy W' (some C)) : FK w C R K v ss lim' W' :=
  ⟨hc, gb_tr h.gb hg, let ⟨xs, hx⟩ := h.rm; ⟨xs, own_ltC hx hg h.hC⟩, let ⟨xs, hx⟩ := h.rk; ⟨xs, own_ltC hx hg h.hC⟩, own_ltC h.row hg h.hC, h.hC⟩
theorem FK.facts {w : World} {C R K : Nat} {v : Value} {ss : List ByteArray} {lim : Nat} {W : World} (h : FK w C R K v ss lim W) :
    (∃ x0 x1 x2, W.cell? ⟨R, 0, none⟩ = some x0 ∧ W.cell? ⟨R, 1, none⟩ = some x1 ∧ W.cell? ⟨R, 2, none⟩ = some x2) ∧ (∃ y0 y1, W.cell? ⟨K, 0, none⟩ = some y0 ∧ W.cell? ⟨K, 1, none⟩ = some y1) ∧
    (W.frozen? ⟨R, 0, none⟩ = false ∧ W.frozen? ⟨R, 1, none⟩ = false ∧ W.frozen? ⟨R, 2, none⟩ = false) ∧ (W.frozen? ⟨K, 0, none⟩ = false ∧ W.frozen? ⟨K, 1, none⟩ = false) := by
  obtain ⟨xs, hx⟩ := h.rm
  obtain ⟨ys, hy⟩ := h.rk
  have hl : xs.length = 3 := hx.1
  have hl2 : ys.length = 2 := hy.1
  refine ⟨⟨xs[0], xs[1], xs[2], ?_, ?_, ?_⟩, ⟨ys[0], ys[1], ?_, ?_⟩, ⟨hx.frozenAt _, hx.frozenAt _, hx.frozenAt _⟩, ⟨hy.frozenAt _, hy.frozenAt _⟩⟩
  · rw [hx.cellAt 0 (by omega)]; simp [hl]
  · rw [hx.cellAt 1 (by omega)]; simp [hl]
  · rw [hx.cellAt 2 (by omega)]; simp [hl]
  · rw [hy.cellAt 0 (by omega)]; simp [hl2]
  · rw [hy.cellAt 1 (by omega)]; simp [hl2]
theorem FK.ne {w : World} {C R K : Nat} {v : Value} {ss : List ByteArray} {lim : Nat} {W : World} (h : FK w C R K v ss lim W) : R ≠ K ∧ w.heap.size ≤ R ∧ w.heap.size ≤ K := by
  obtain ⟨xs, hx⟩ := h.rm
  obtain ⟨ys, hy⟩ := h.rk
  refine ⟨fun e => ?_, (hx.lt R rfl).1, (hy.lt K rfl).1⟩
  subst e
  rcases own_kindsX hx hy (by decide) with h1 | h1
  · cases h1
  · exact h1 rfl
/-- One cell of a result's block is written. -/
theorem FK.set {w : World} {C R K g : Nat} {v : Value} {ss : List ByteArray} {lim : Nat} {W : World} (h : FK w C R K v ss lim W) (hg : g = R ∨ g = K) (j : Nat) (u : Value) : FK w C R K v ss lim (W.setCell ⟨g, j, none⟩ u) := by
  obtain ⟨hne, hR, hK⟩ := h.ne
  have hC := h.hC
  obtain ⟨xs, hx⟩ := h.rm
  obtain ⟨ys, hy⟩ := h.rk
  have hwg : w.heap.size ≤ g := by rcases hg with rfl | rfl <;> assumption
  refine ⟨h.cur.setC (by omega) j u, gb_newC h.gb hwg j u, ?_, ?_, h.row.kept (gb_set (gb_refl W g) j u) ?_, hC⟩
  · rcases hg with rfl | rfl
    · exact ⟨_, own_set hx j u⟩
    · exact ⟨xs, hx.kept (gb_set (gb_refl W g) j u) (.inr (by simp [Value.ownBlock]; omega))⟩
  · rcases hg with rfl | rfl
    · exact ⟨ys, hy.kept (gb_set (gb_refl W g) j u) (.inr (by simp [Value.ownBlock]; omega))⟩
    · exact ⟨_, own_set hy j u⟩
  · rcases hg with rfl | rfl
    · exact (own_kindsX h.row hx (by decide)).imp id (fun x y => x (by rw [y]; rfl))
    · exact (own_kindsX h.row hy (by decide)).imp id (fun x y => x (by rw [y]; rfl))
/-- The five cells of the results, written. -/
theorem FK.fin {w : World} {C R K : Nat} {v : Value} {ss : List ByteArray} {lim : Nat} {W : World} (h : FK w C R K v ss lim W) (a b c d e : Value) :
    ∃ W', W' = ((((W.setCell ⟨R, 0, none⟩ a).setCell ⟨R, 1, none⟩ b).setCell ⟨R, 2, none⟩ c).setCell ⟨K, 0, none⟩ d).setCell ⟨K, 1, none⟩ e ∧ FK w C R K v ss lim W' ∧
      (W'.cell? ⟨R, 0, none⟩ = some a ∧ W'.cell? ⟨R, 1, none⟩ = some b ∧ W'.cell? ⟨R, 2, none⟩ = some c) ∧ (W'.cell? ⟨K, 0, none⟩ = some d ∧ W'.cell? ⟨K, 1, none⟩ = some e) := by
  obtain ⟨hne, hR, hK⟩ := h.ne
  refine ⟨_, rfl, ((((h.set (.inl rfl) 0 a).set (.inl rfl) 1 b).set (.inl rfl) 2 c).set (.inr rfl) 0 d).set (.inr rfl) 1 e, ?_, ?_⟩
  · obtain ⟨xs, hx⟩ := h.rm
    have hl : xs.length = 3 := hx.1
    have h3 := own_set (own_set (own_set hx 0 a) 1 b) 2 c
    have st : ∀ (W' : World) (j : Nat) (u : Value) (L : List Value), W'.ownsRow w.heap.size 49 3 (.slice (some ⟨R, 0, none⟩) 1 1) 1 L → (W'.setCell ⟨K, j, none⟩ u).ownsRow w.heap.size 49 3 (.slice (some ⟨R, 0, none⟩) 1 1) 1 L := fun W' j u L h' =>
      h'.kept (gb_set (gb_refl W' K) j u) (.inr (by simp [Value.ownBlock]; omega))
    have h5 := st _ 1 e _ (st _ 0 d _ h3)
    refine ⟨?_, ?_, ?_⟩
    · rw [h5.cellAt 0 (by omega)]; simp [hl]
    · rw [h5.cellAt 1 (by omega)]; simp [hl]
    · rw [h5.cellAt 2 (by omega)]; simp [hl]
  · have h2 := ((h.set (.inl rfl) 0 a).set (.inl rfl) 1 b).set (.inl rfl) 2 c
    obtain ⟨ys, hy⟩ := h2.rk
    have hl : ys.length = 2 := hy.1
    have h5 := own_set (own_set hy 0 d) 1 e
    refine ⟨?_, ?_⟩
    · rw [h5.cellAt 0 (by omega)]; simp [hl]
    · rw [h5.cellAt 1 (by omega)]; simp [hl]
/-- What a cell holds. -/
def oldC (b j : Nat) (W : World) : Value := (W.cell? ⟨b, j, none⟩).getD (.bool false)
theorem oldC_of {b j : Nat} {W : World} {x : Value} (h : W.cell? ⟨b, j, none⟩ = some x) : W.cell? ⟨b, j, none⟩ = some (oldC b j W) := by unfold oldC; rw [h]; rfl
/-- With the method's box G. -/
structure HC (w : World) (C R K G : Nat) (nm : ByteArray) (n : Int) (v : Value) (ss : List ByteArray) (lim : Nat) (W : World) : Prop where
  st : FK w C R K v ss lim W
  box : W.ownsRow w.heap.size 49 3 (.slice (some ⟨G, 0, none⟩) 1 1) 1 [.string nm, .int .i64 n, v]
  ne : R ≠ G
theorem HC.to {w : World} {C R K G : Nat} {nm : ByteArray} {n : Int} {v : Value} {ss : List ByteArray} {lim : Nat} {W W' : World} (h : HC w C R K G nm n v ss lim W) (hb : Below W.heap.size W W') : HC w C R K G nm n v ss lim W' := ⟨h.st.to hb, own_to h.box hb, h.ne⟩
theorem HC.drew {w : World} {C R K G : Nat} {nm : ByteArray} {n : Int} {v : Value} {ss : List ByteArray} {lim : Nat} {W : World} (h : HC w C R K G nm n v ss lim W) : HC w C R K G nm n v ss lim W.drew := h.to (Below.drew (Below.refl _ _))
theorem HC.draw {w : World} {C R K G : Nat} {nm : ByteArray} {n : Int} {v : Value} {ss : List ByteArray} {lim lim' : Nat} {W W' : World} (h : HC w C R K G nm n v ss lim W) (hc : Cur W' C lim') (hg : W.grownBy W' (some C)) : HC w C R K G nm n v ss lim' W' :=
  ⟨h.st.draw hc hg, own_ltC h.box hg h.st.hC, h.ne⟩
theorem HC.more {w : World} {C R K G : Nat} {nm : ByteArray} {n : Int} {v : Value} {ss : List ByteArray} {lim lim' : Nat} {W : World} (h : HC w C R K G nm n v ss lim W) (hl : lim ≤ lim') : HC w C R K G nm n v ss lim' W := { h with st := { h.st with cur := h.st.cur.more hl } }
theorem HC.cells {w : World} {C R K G : Nat} {nm : ByteArray} {n : Int} {v : Value} {ss : List ByteArray} {lim : Nat} {W : World} (h : HC w C R K G nm n v ss lim W) :
    (W.cell? ⟨G, 0, none⟩ = some (.string nm) ∧ W.cell? ⟨G, 1, none⟩ = some (.int .i64 n) ∧ W.cell? ⟨G, 2, none⟩ = some v) ∧
    (W.cell? ⟨R, 0, none⟩ = some (oldC R 0 W) ∧ W.cell? ⟨R, 1, none⟩ = some (oldC R 1 W) ∧ W.cell? ⟨R, 2, none⟩ = some (oldC R 2 W)) ∧ (W.cell? ⟨K, 0, none⟩ = some (oldC K 0 W) ∧ W.cell? ⟨K, 1, none⟩ = some (oldC K 1 W)) ∧
    (W.frozen? ⟨R, 0, none⟩ = false ∧ W.frozen? ⟨R, 1, none⟩ = false ∧ W.frozen? ⟨R, 2, none⟩ = false) ∧ (W.frozen? ⟨K, 0, none⟩ = false ∧ W.frozen? ⟨K, 1, none⟩ = false) := by
  obtain ⟨⟨x0, x1, x2, a0, a1, a2⟩, ⟨y0, y1, b0, b1⟩, f, g⟩ := h.st.facts
  exact ⟨⟨(h.box.cellAt 0 (by omega)).trans rfl, (h.box.cellAt 1 (by omega)).trans rfl, (h.box.cellAt 2 (by omega)).trans rfl⟩, ⟨oldC_of a0, oldC_of a1, oldC_of a2⟩, ⟨oldC_of b0, oldC_of b1⟩, f, g⟩
theorem HC.set {w : World} {C R K G g : Nat} {nm : ByteArray} {n : Int} {v : Value} {ss : List ByteArray} {lim : Nat} {W : World} (h : HC w C R K G nm n v ss lim W) (hg : g = R ∨ g = K) (j : Nat) (u : Value) : HC w C R K G nm n v ss lim (W.setCell ⟨g, j, none⟩ u) := by
  refine ⟨h.st.set hg j u, h.box.kept (gb_set (gb_refl W g) j u) (.inr (fun e => ?_)), h.ne⟩
  have e2 : G = g := by simpa [Value.ownBlock] using e
  subst e2
  rcases hg with hg | hg
  · exact h.ne hg.symm
  · obtain ⟨ys, hy⟩ := h.st.rk
    subst hg
    rcases own_kindsX h.box hy (by decide) with h1 | h1
    · cases h1
    · exact h1 rfl
/-- One limit for all worlds. -/
def HCx (w : World) (C R K G : Nat) (nm : ByteArray) (n : Int) (v : Value) (ss : List ByteArray) (L : Nat) (W : World) : Prop := ∃ l, l ≤ L ∧ HC w C R K G nm n v ss l W
theorem HCx.setR {w : World} {C R K G : Nat} {nm : ByteArray} {n : Int} {v : Value} {ss : List ByteArray} {L : Nat} {W : World} (h : HCx w C R K G nm n v ss L W) {a b c : Value} : HCx w C R K G nm n v ss L (((W.setCell ⟨R, 0, none⟩ a).setCell ⟨R, 1, none⟩ b).setCell ⟨R, 2, none⟩ c) :=
  let ⟨l, hl, h⟩ := h; ⟨l, hl, ((h.set (.inl rfl) 0 a).set (.inl rfl) 1 b).set (.inl rfl) 2 c⟩
theorem HCx.setK {w : World} {C R K G : Nat} {nm : ByteArray} {n : Int} {v : Value} {ss : List ByteArray} {L : Nat} {W : World} (h : HCx w C R K G nm n v ss L W) {a b : Value} : HCx w C R K G nm n v ss L ((W.setCell ⟨K, 0, none⟩ a).setCell ⟨K, 1, none⟩ b) :=
  let ⟨l, hl, h⟩ := h; ⟨l, hl, (h.set (.inr rfl) 0 a).set (.inr rfl) 1 b⟩
theorem HCx.all {w : World} {C R K G : Nat} {nm : ByteArray} {n : Int} {v : Value} {ss : List ByteArray} {L : Nat} {W : World} (h : HCx w C R K G nm n v ss L W) : HCx w C R K G nm n v ss L W ∧ W.cell? ⟨G, 0, none⟩ = some (.string nm) ∧ W.cell? ⟨G, 1, none⟩ = some (.int .i64 n) ∧ W.cell? ⟨G, 2, none⟩ = some v ∧ W.cell? ⟨R, 0, none⟩ = some (oldC R 0 W) ∧ W.cell? ⟨R, 1, none⟩ = some (oldC R 1 W) ∧ W.cell? ⟨R, 2, none⟩ = some (oldC R 2 W) ∧ W.cell? ⟨K, 0, none⟩ = some (oldC K 0 W) ∧ W.cell? ⟨K, 1, none⟩ = some (oldC K 1 W) ∧ W.frozen? ⟨R, 0, none⟩ = false ∧ W.frozen? ⟨R, 1, none⟩ = false ∧ W.frozen? ⟨R, 2, none⟩ = false ∧ W.frozen? ⟨K, 0, none⟩ = false ∧ W.frozen? ⟨K, 1, none⟩ = false :=
  ⟨h, let ⟨_, _, h⟩ := h; let ⟨⟨a0, a1, a2⟩, ⟨b0, b1, b2⟩, ⟨c0, c1⟩, ⟨d0, d1, d2⟩, e0, e1⟩ := h.cells; ⟨a0, a1, a2, b0, b1, b2, c0, c1, d0, d1, d2, e0, e1⟩⟩
theorem HCx.allR {w : World} {C R K G : Nat} {nm : ByteArray} {n : Int} {v : Value} {ss : List ByteArray} {L : Nat} {W : World} {a b c : Value} (h : HCx w C R K G nm n v ss L W ∧ W.cell? ⟨G, 0, none⟩ = some (.string nm) ∧ W.cell? ⟨G, 1, none⟩ = some (.int .i64 n) ∧ W.cell? ⟨G, 2, none⟩ = some v ∧ W.cell? ⟨R, 0, none⟩ = some (oldC R 0 W) ∧ W.cell? ⟨R, 1, none⟩ = some (oldC R 1 W) ∧ W.cell? ⟨R, 2, none⟩ = some (oldC R 2 W) ∧ W.cell? ⟨K, 0, none⟩ = some (oldC K 0 W) ∧ W.cell? ⟨K, 1, none⟩ = some (oldC K 1 W) ∧ W.frozen? ⟨R, 0, none⟩ = false ∧ W.frozen? ⟨R, 1, none⟩ = false ∧ W.frozen? ⟨R, 2, none⟩ = false ∧ W.frozen? ⟨K, 0, none⟩ = false ∧ W.frozen? ⟨K, 1, none⟩ = false) : HCx w C R K G nm n v ss L (((W.setCell ⟨R, 0, none⟩ a).setCell ⟨R, 1, none⟩ b).setCell ⟨R, 2, none⟩ c) ∧ (((W.setCell ⟨R, 0, none⟩ a).setCell ⟨R, 1, none⟩ b).setCell ⟨R, 2, none⟩ c).cell? ⟨G, 0, none⟩ = some (.string nm) ∧ (((W.setCell ⟨R, 0, none⟩ a).setCell ⟨R, 1, none⟩ b).setCell ⟨R, 2, none⟩ c).cell? ⟨G, 1, none⟩ = some (.int .i64 n) ∧ (((W.setCell ⟨R, 0, none⟩ a).setCell ⟨R, 1, none⟩ b).setCell ⟨R, 2, none⟩ c).cell? ⟨G, 2, none⟩ = some v ∧ (((W.setCell ⟨R, 0, none⟩ a).setCell ⟨R, 1, none⟩ b).setCell ⟨R, 2, none⟩ c).cell? ⟨R, 0, none⟩ = some (oldC R 0 (((W.setCell ⟨R, 0, none⟩ a).setCell ⟨R, 1, none⟩ b).setCell ⟨R, 2, none⟩ c)) ∧ (((W.setCell ⟨R, 0, none⟩ a).setCell ⟨R, 1, none⟩ b).setCell ⟨R, 2, none⟩ c).cell? ⟨R, 1, none⟩ = some (oldC R 1 (((W.setCell ⟨R, 0, none⟩ a).setCell ⟨R, 1, none⟩ b).setCell ⟨R, 2, none⟩ c)) ∧ (((W.setCell ⟨R, 0, none⟩ a).setCell ⟨R, 1, none⟩ b).setCell ⟨R, 2, none⟩ c).cell? ⟨R, 2, none⟩ = some (oldC R 2 (((W.setCell ⟨R, 0, none⟩ a).setCell ⟨R, 1, none⟩ b).setCell ⟨R, 2, none⟩ c)) ∧ (((W.setCell ⟨R, 0, none⟩ a).setCell ⟨R, 1, none⟩ b).setCell ⟨R, 2, none⟩ c).cell? ⟨K, 0, none⟩ = some (oldC K 0 (((W.setCell ⟨R, 0, none⟩ a).setCell ⟨R, 1, none⟩ b).setCell ⟨R, 2, none⟩ c)) ∧ (((W.setCell ⟨R, 0, none⟩ a).setCell ⟨R, 1, none⟩ b).setCell ⟨R, 2, none⟩ c).cell? ⟨K, 1, none⟩ = some (oldC K 1 (((W.setCell ⟨R, 0, none⟩ a).setCell ⟨R, 1, none⟩ b).setCell ⟨R, 2, none⟩ c)) ∧ (((W.setCell ⟨R, 0, none⟩ a).setCell ⟨R, 1, none⟩ b).setCell ⟨R, 2, none⟩ c).frozen? ⟨R, 0, none⟩ = false ∧ (((W.setCell ⟨R, 0, none⟩ a).setCell ⟨R, 1, none⟩ b).setCell ⟨R, 2, none⟩ c).frozen? ⟨R, 1, none⟩ = false ∧ (((W.setCell ⟨R, 0, none⟩ a).setCell ⟨R, 1, none⟩ b).setCell ⟨R, 2, none⟩ c).frozen? ⟨R, 2, none⟩ = false ∧ (((W.setCell ⟨R, 0, none⟩ a).setCell ⟨R, 1, none⟩ b).setCell ⟨R, 2, none⟩ c).frozen? ⟨K, 0, none⟩ = false ∧ (((W.setCell ⟨R, 0, none⟩ a).setCell ⟨R, 1, none⟩ b).setCell ⟨R, 2, none⟩ c).frozen? ⟨K, 1, none⟩ = false := h.1.setR.all
theorem HCx.allK {w : World} {C R K G : Nat} {nm : ByteArray} {n : Int} {v : Value} {ss : List ByteArray} {L : Nat} {W : World} {a b : Value} (h : HCx w C R K G nm n v ss L W ∧ W.cell? ⟨G, 0, none⟩ = some (.string nm) ∧ W.cell? ⟨G, 1, none⟩ = some (.int .i64 n) ∧ W.cell? ⟨G, 2, none⟩ = some v ∧ W.cell? ⟨R, 0, none⟩ = some (oldC R 0 W) ∧ W.cell? ⟨R, 1, none⟩ = some (oldC R 1 W) ∧ W.cell? ⟨R, 2, none⟩ = some (oldC R 2 W) ∧ W.cell? ⟨K, 0, none⟩ = some (oldC K 0 W) ∧ W.cell? ⟨K, 1, none⟩ = some (oldC K 1 W) ∧ W.frozen? ⟨R, 0, none⟩ = false ∧ W.frozen? ⟨R, 1, none⟩ = false ∧ W.frozen? ⟨R, 2, none⟩ = false ∧ W.frozen? ⟨K, 0, none⟩ = false ∧ W.frozen? ⟨K, 1, none⟩ = false) : HCx w C R K G nm n v ss L ((W.setCell ⟨K, 0, none⟩ a).setCell ⟨K, 1, none⟩ b) ∧ ((W.setCell ⟨K, 0, none⟩ a).setCell ⟨K, 1, none⟩ b).cell? ⟨G, 0, none⟩ = some (.string nm) ∧ ((W.setCell ⟨K, 0, none⟩ a).setCell ⟨K, 1, none⟩ b).cell? ⟨G, 1, none⟩ = some (.int .i64 n) ∧ ((W.setCell ⟨K, 0, none⟩ a).setCell ⟨K, 1, none⟩ b).cell? ⟨G, 2, none⟩ = some v ∧ ((W.setCell ⟨K, 0, none⟩ a).setCell ⟨K, 1, none⟩ b).cell? ⟨R, 0, none⟩ = some (oldC R 0 ((W.setCell ⟨K, 0, none⟩ a).setCell ⟨K, 1, none⟩ b)) ∧ ((W.setCell ⟨K, 0, none⟩ a).setCell ⟨K, 1, none⟩ b).cell? ⟨R, 1, none⟩ = some (oldC R 1 ((W.setCell ⟨K, 0, none⟩ a).setCell ⟨K, 1, none⟩ b)) ∧ ((W.setCell ⟨K, 0, none⟩ a).setCell ⟨K, 1, none⟩ b).cell? ⟨R, 2, none⟩ = some (oldC R 2 ((W.setCell ⟨K, 0, none⟩ a).setCell ⟨K, 1, none⟩ b)) ∧ ((W.setCell ⟨K, 0, none⟩ a).setCell ⟨K, 1, none⟩ b).cell? ⟨K, 0, none⟩ = some (oldC K 0 ((W.setCell ⟨K, 0, none⟩ a).setCell ⟨K, 1, none⟩ b)) ∧ ((W.setCell ⟨K, 0, none⟩ a).setCell ⟨K, 1, none⟩ b).cell? ⟨K, 1, none⟩ = some (oldC K 1 ((W.setCell ⟨K, 0, none⟩ a).setCell ⟨K, 1, none⟩ b)) ∧ ((W.setCell ⟨K, 0, none⟩ a).setCell ⟨K, 1, none⟩ b).frozen? ⟨R, 0, none⟩ = false ∧ ((W.setCell ⟨K, 0, none⟩ a).setCell ⟨K, 1, none⟩ b).frozen? ⟨R, 1, none⟩ = false ∧ ((W.setCell ⟨K, 0, none⟩ a).setCell ⟨K, 1, none⟩ b).frozen? ⟨R, 2, none⟩ = false ∧ ((W.setCell ⟨K, 0, none⟩ a).setCell ⟨K, 1, none⟩ b).frozen? ⟨K, 0, none⟩ = false ∧ ((W.setCell ⟨K, 0, none⟩ a).setCell ⟨K, 1, none⟩ b).frozen? ⟨K, 1, none⟩ = false := h.1.setK.all
set_option maxRecDepth 100000 in
set_option maxHeartbeats 8000000 in
theorem called_any (w : World) (C lim : Nat) (h : Cur w C lim) (hl : lim ≤ 10000000) : Calls Tryz.prog 136 #[.pointer (some ⟨C, 0, none⟩)] w (DrewMK w C (lim + 210)) := by
  have H := Lib.hid h
  have hCl := h.lt
  clear h
  go_enter Tryz.func136, Tryz.ntmps136
  go_wp2_with fail
  refine box2 (C := fun W => Calls _ _ _ W _) ?_
  intro wb hw k0 k1 hB0
  have hbz : w.heap.size + 1 < wb.heap.size := (Array.getElem?_eq_some_iff.1 k1).1
  refine (drawMethod_any wb C lim (H.out.to hw) (by omega)).mono ?_; rintro e w1 ⟨⟨nm, n, ss⟩, v, rfl, hz, hl60, hsm, ⟨n, hn3, hn6, rfl⟩, ho, hc1, hg1⟩
  simp only at hz hl60 hsm ho
  have F1 : FK w C w.heap.size (w.heap.size + 1) v ss (lim + 200) w1 :=
    ⟨hc1, gb_tr (gb_to (gb_refl w C) hw) hg1, ⟨_, own_ltC (own_of_heap (base := w.heap.size) (n := 1) (size := 3) k0 (Nat.le_refl _) (by unfold maxLen; omega) rfl) hg1 hCl⟩,
      ⟨_, own_ltC (own_of_heap (base := w.heap.size) (n := 1) (size := 2) k1 (Nat.le_succ _) (by unfold maxLen; omega) rfl) hg1 hCl⟩, own_base ho (by omega), hCl⟩
  have H1 := Lib.hid F1
  have Hsm := Lib.hid hsm
  have hz1 : w.heap.size < w1.heap.size := Nat.lt_of_lt_of_le (by omega) hg1.size
  clear hc1 hg1 ho F1 k0 k1 hw hB0 hsm
  obtain ⟨A0, q0, ev, _⟩ := sl_of_own H1.out.row
  subst ev
  obtain ⟨R, hR⟩ : ∃ R, R = w.heap.size := ⟨_, rfl⟩
  obtain ⟨K, hK⟩ : ∃ K, K = w.heap.size + 1 := ⟨_, rfl⟩
  have hRz : R < w1.heap.size := by omega
  rw [← hK, ← hR] at H1
  rw [← hK, ← hR]
  have HR := Lib.hid hR
  have HK := Lib.hid hK
  clear hR hK
  unfold Mt.v
  go_upto_region 2 with fail
  refine box1 (C := fun W => Code.wp _ _ _ _ W) ?_
  intro w3 hw3 k3 hB03
  have hz3 : w1.heap.size < w3.heap.size := (Array.getElem?_eq_some_iff.1 k3).1
  have T3 : HC w C R K w1.heap.size nm n (.slice A0 ss.length q0) ss (lim + 200) w3 :=
    ⟨H1.out.to hw3, own_of_heap (n := 1) (size := 3) k3 (by omega) (by unfold maxLen; omega) rfl, by omega⟩
  have S3 := Lib.hid T3.drew
  have x3 : HCx w C R K w1.heap.size nm n (.slice A0 ss.length q0) ss (lim + 210) w3.drew := ⟨_, by omega, T3.drew⟩
  have x3' : HCx w C R K w1.heap.size nm n (.slice A0 ss.length q0) ss (lim + 210) w3 := ⟨_, by omega, T3⟩
  obtain ⟨G, hG⟩ : ∃ G, G = w1.heap.size := ⟨_, rfl⟩
  rw [← hG] at S3 x3 x3' ⊢
  clear T3 hG hw3 k3 hB03 H1 x3'
  go_region_held3 (fun W => HCx w C R K G nm n (.slice A0 ss.length q0) ss (lim + 210) W ∧ W.cell? ⟨G, 0, none⟩ = some (.string nm) ∧ W.cell? ⟨G, 1, none⟩ = some (.int .i64 (n : Int)) ∧ W.cell? ⟨G, 2, none⟩ = some (.slice A0 ss.length q0) ∧ W.cell? ⟨R, 0, none⟩ = some (oldC R 0 W) ∧ W.cell? ⟨R, 1, none⟩ = some (oldC R 1 W) ∧ W.cell? ⟨R, 2, none⟩ = some (oldC R 2 W) ∧ W.cell? ⟨K, 0, none⟩ = some (oldC K 0 W) ∧ W.cell? ⟨K, 1, none⟩ = some (oldC K 1 W) ∧ W.frozen? ⟨R, 0, none⟩ = false ∧ W.frozen? ⟨R, 1, none⟩ = false ∧ W.frozen? ⟨R, 2, none⟩ = false ∧ W.frozen? ⟨K, 0, none⟩ = false ∧ W.frozen? ⟨K, 1, none⟩ = false) (first | with_reducible assumption | with_reducible exact HCx.all (by assumption) | with_reducible exact HCx.allR (by assumption) | with_reducible exact HCx.allK (by assumption)) (first | ((have y2 := S4); go_at_call 125; refine (change_any _ C _ n S4.out.st.cur (by omega) hn3 hn6).mono ?_; rintro e w5 ⟨s2, rfl, hs2, hc5, hg5⟩; (have S5 := Lib.hid (S4.out.draw hc5 hg5)); (have x5 : HCx w C R K G nm n (.slice A0 ss.length q0) ss (lim + 210) w5 := ⟨_, by omega, S5.out⟩); clear hc5 hg5) | (go_at_call 125; refine (change_any _ C _ n S3.out.st.cur (by omega) hn3 hn6).mono ?_; rintro e w4 ⟨s1, rfl, hs1, hc4, hg4⟩; (have S4 := Lib.hid (S3.out.draw hc4 hg4)); (have x4 : HCx w C R K G nm n (.slice A0 ss.length q0) ss (lim + 210) w4 := ⟨_, by omega, S4.out⟩); clear hc4 hg4))
  go_wp2_with fail
  obtain ⟨W', eW, F', ⟨e0, e1, e2⟩, d0, d1⟩ := S5.out.st.fin (.string nm) (.int .i64 (n : Int)) (.slice A0 ss.length q0) (.string s1) (.string s2)
  rw [← eW]
  refine bodyPost_ret (v := .tuple #[.agg #[.string nm, .int .i64 (n : Int), .slice A0 ss.length q0], .agg #[.string s1, .string s2]]) (by simp [results, go_sem, e0, e1, e2, d0, d1]) rfl ?_
  exact ⟨⟨nm, n, ss⟩, .slice A0 ss.length q0, ⟨s1, s2⟩, rfl, hz, hl60, Hsm.out, ⟨n, hn3, hn6, rfl⟩, ⟨hs1, hs2⟩, F'.row, F'.cur.more (by omega), F'.gb⟩
/-- With the method's box G and the calls' box D. -/
structure HB (w : World) (C R K G D : Nat) (nm : ByteArray) (n : Int) (v : Value) (ss : List ByteArray) (b s : ByteArray) (lim : Nat) (W : World) : Prop where
  hc : HC w C R K G nm n v ss lim W
  kx : W.ownsRow w.heap.size 51 2 (.slice (some ⟨D, 0, none⟩) 1 1) 1 [.string b, .string s]
  nk : K ≠ D
theorem HB.to {w : World} {C R K G D : Nat} {nm : ByteArray} {n : Int} {v : Value} {ss : List ByteArray} {b s : ByteArray} {lim : Nat} {W W' : World} (h : HB w C R K G D nm n v ss b s lim W) (hb : Below W.heap.size W W') : HB w C R K G D nm n v ss b s lim W' := ⟨h.hc.to hb, own_to h.kx hb, h.nk⟩
theorem HB.drew {w : World} {C R K G D : Nat} {nm : ByteArray} {n : Int} {v : Value} {ss : List ByteArray} {b s : ByteArray} {lim : Nat} {W : World} (h : HB w C R K G D nm n v ss b s lim W) : HB w C R K G D nm n v ss b s lim W.drew := h.to (Below.drew (Below.refl _ _))
theorem HB.draw {w : World} {C R K G D : Nat} {nm : ByteArray} {n : Int} {v : Value} {ss : List ByteArray} {b s : ByteArray} {lim : Nat} {lim' : Nat} {W W' : World} (h : HB w C R K G D nm n v ss b s lim W) (hc : Cur W' C lim') (hg : W.grownBy W' (some C)) : HB w C R K G D nm n v ss b s lim' W' := ⟨h.hc.draw hc hg, own_ltC h.kx hg h.hc.st.hC, h.nk⟩
theorem HB.gd {w : World} {C R K G D : Nat} {nm : ByteArray} {n : Int} {v : Value} {ss : List ByteArray} {b s : ByteArray} {lim : Nat} {W : World} (h : HB w C R K G D nm n v ss b s lim W) : D ≠ G ∧ D ≠ R := by
  obtain ⟨xs, hx⟩ := h.hc.st.rm
  constructor
  · intro e; subst e
    rcases own_kindsX h.hc.box h.kx (by decide) with h1 | h1
    · cases h1
    · exact h1 rfl
  · intro e; subst e
    rcases own_kindsX hx h.kx (by decide) with h1 | h1
    · cases h1
    · exact h1 rfl
theorem HB.set {w : World} {C R K G D : Nat} {nm : ByteArray} {n : Int} {v : Value} {ss : List ByteArray} {b s : ByteArray} {lim : Nat} {g : Nat} {W : World} (h : HB w C R K G D nm n v ss b s lim W) (hg : g = R ∨ g = K) (j : Nat) (u : Value) : HB w C R K G D nm n v ss b s lim (W.setCell ⟨g, j, none⟩ u) := by
  refine ⟨h.hc.set hg j u, h.kx.kept (gb_set (gb_refl W g) j u) (.inr (fun e => ?_)), h.nk⟩
  have e2 : D = g := by simpa [Value.ownBlock] using e
  rcases hg with rfl | rfl
  · exact h.gd.2 e2
  · exact h.nk e2.symm
theorem HB.setR {w : World} {C R K G D : Nat} {nm : ByteArray} {n : Int} {v : Value} {ss : List ByteArray} {b s : ByteArray} {lim : Nat} {W : World} {a0 a1 a2 : Value} (h : HB w C R K G D nm n v ss b s lim W) : HB w C R K G D nm n v ss b s lim (((W.setCell ⟨R, 0, none⟩ a0).setCell ⟨R, 1, none⟩ a1).setCell ⟨R, 2, none⟩ a2) := ((h.set (.inl rfl) 0 a0).set (.inl rfl) 1 a1).set (.inl rfl) 2 a2
theorem HB.setK {w : World} {C R K G D : Nat} {nm : ByteArray} {n : Int} {v : Value} {ss : List ByteArray} {b s : ByteArray} {lim : Nat} {W : World} {a0 a1 : Value} (h : HB w C R K G D nm n v ss b s lim W) : HB w C R K G D nm n v ss b s lim ((W.setCell ⟨K, 0, none⟩ a0).setCell ⟨K, 1, none⟩ a1) := (h.set (.inr rfl) 0 a0).set (.inr rfl) 1 a1
/-- A cell of the calls' box is written. -/
theorem HB.setD {w : World} {C R K G D : Nat} {nm : ByteArray} {n : Int} {v : Value} {ss : List ByteArray} {b s : ByteArray} {lim : Nat} {b' s' : ByteArray} {W : World} (h : HB w C R K G D nm n v ss b s lim W) (j : Nat) (u : Value) (he : [Value.string b, Value.string s].set j u = [.string b', .string s']) : HB w C R K G D nm n v ss b' s' lim (W.setCell ⟨D, j, none⟩ u) := by
  obtain ⟨hne, hR, hK⟩ := h.hc.st.ne
  obtain ⟨hDG, hDR⟩ := h.gd
  have hD := (h.kx.lt D rfl).1
  have hC := h.hc.st.hC
  have hgr := gb_set (gb_refl W D) j u
  obtain ⟨xs, hx⟩ := h.hc.st.rm
  obtain ⟨ys, hy⟩ := h.hc.st.rk
  have hnk := h.nk
  have hnr := h.hc.ne
  refine ⟨⟨⟨h.hc.st.cur.setC (by omega) j u, gb_newC h.hc.st.gb hD j u, ⟨xs, hx.kept hgr (.inr (by simp [Value.ownBlock]; omega))⟩, ⟨ys, hy.kept hgr (.inr (by simp [Value.ownBlock]; omega))⟩, h.hc.st.row.kept hgr ?_, hC⟩, h.hc.box.kept hgr (.inr (by simp [Value.ownBlock]; omega)), h.hc.ne⟩, ?_, h.nk⟩
  · exact (own_kindsX h.hc.st.row h.kx (by decide)).imp id (fun x y => x (by rw [y]; rfl))
  · have := own_set h.kx j u
    rw [he] at this
    exact this
/-- The changes of the method's box are written. -/
theorem HB.setG {w : World} {C R K G D : Nat} {nm : ByteArray} {n : Int} {v : Value} {ss : List ByteArray} {b s : ByteArray} {lim : Nat} {v' : Value} {ss' : List ByteArray} {W : World} (h : HB w C R K G D nm n v ss b s lim W) (hr : W.ownsRow w.heap.size 9 1 v' ss'.length (ss'.map Value.string)) : HB w C R K G D nm n v' ss' b s lim (W.setCell ⟨G, 2, none⟩ v') := by
  obtain ⟨hne, hR, hK⟩ := h.hc.st.ne
  obtain ⟨hDG, hDR⟩ := h.gd
  have hG := (h.hc.box.lt G rfl).1
  have hC := h.hc.st.hC
  have hgr := gb_set (gb_refl W G) 2 v'
  obtain ⟨xs, hx⟩ := h.hc.st.rm
  obtain ⟨ys, hy⟩ := h.hc.st.rk
  have hnr := h.hc.ne
  have hkg : K ≠ G := by
    intro e; subst e
    rcases own_kindsX h.hc.box hy (by decide) with h1 | h1
    · cases h1
    · exact h1 rfl
  refine ⟨⟨⟨h.hc.st.cur.setC (by omega) 2 v', gb_newC h.hc.st.gb hG 2 v', ⟨xs, hx.kept hgr (.inr (by simp [Value.ownBlock]; omega))⟩, ⟨ys, hy.kept hgr (.inr (by simp [Value.ownBlock]; omega))⟩, hr.kept hgr ?_, hC⟩, ?_, h.hc.ne⟩, h.kx.kept hgr (.inr (by simp [Value.ownBlock]; omega)), h.nk⟩
  · exact (own_kindsX hr h.hc.box (by decide)).imp id (fun x y => x (by rw [y]; rfl))
  · exact own_set h.hc.box 2 v'
theorem HB.all {w : World} {C R K G D : Nat} {nm : ByteArray} {n : Int} {v : Value} {ss : List ByteArray} {b s : ByteArray} {lim : Nat} {W : World} (h : HB w C R K G D nm n v ss b s lim W) : HB w C R K G D nm n v ss b s lim W ∧ W.cell? ⟨G, 0, none⟩ = some (.string nm) ∧ W.cell? ⟨G, 1, none⟩ = some (.int .i64 n) ∧ W.cell? ⟨G, 2, none⟩ = some v ∧ W.cell? ⟨D, 0, none⟩ = some (.string b) ∧ W.cell? ⟨D, 1, none⟩ = some (.string s) ∧ W.cell? ⟨R, 0, none⟩ = some (oldC R 0 W) ∧ W.cell? ⟨R, 1, none⟩ = some (oldC R 1 W) ∧ W.cell? ⟨R, 2, none⟩ = some (oldC R 2 W) ∧ W.cell? ⟨K, 0, none⟩ = some (oldC K 0 W) ∧ W.cell? ⟨K, 1, none⟩ = some (oldC K 1 W) ∧ W.frozen? ⟨R, 0, none⟩ = false ∧ W.frozen? ⟨R, 1, none⟩ = false ∧ W.frozen? ⟨R, 2, none⟩ = false ∧ W.frozen? ⟨K, 0, none⟩ = false ∧ W.frozen? ⟨K, 1, none⟩ = false :=
  ⟨h, let ⟨⟨a0, a1, a2⟩, ⟨b0, b1, b2⟩, ⟨c0, c1⟩, ⟨d0, d1, d2⟩, e0, e1⟩ := h.hc.cells; ⟨a0, a1, a2, (h.kx.cellAt 0 (by omega)).trans rfl, (h.kx.cellAt 1 (by omega)).trans rfl, b0, b1, b2, c0, c1, d0, d1, d2, e0, e1⟩⟩
theorem HB.allR {w : World} {C R K G D : Nat} {nm : ByteArray} {n : Int} {v : Value} {ss : List ByteArray} {b s : ByteArray} {lim : Nat} {W : World} {a0 a1 a2 : Value} (h : HB w C R K G D nm n v ss b s lim W ∧ W.cell? ⟨G, 0, none⟩ = some (.string nm) ∧ W.cell? ⟨G, 1, none⟩ = some (.int .i64 n) ∧ W.cell? ⟨G, 2, none⟩ = some v ∧ W.cell? ⟨D, 0, none⟩ = some (.string b) ∧ W.cell? ⟨D, 1, none⟩ = some (.string s) ∧ W.cell? ⟨R, 0, none⟩ = some (oldC R 0 W) ∧ W.cell? ⟨R, 1, none⟩ = some (oldC R 1 W) ∧ W.cell? ⟨R, 2, none⟩ = some (oldC R 2 W) ∧ W.cell? ⟨K, 0, none⟩ = some (oldC K 0 W) ∧ W.cell? ⟨K, 1, none⟩ = some (oldC K 1 W) ∧ W.frozen? ⟨R, 0, none⟩ = false ∧ W.frozen? ⟨R, 1, none⟩ = false ∧ W.frozen? ⟨R, 2, none⟩ = false ∧ W.frozen? ⟨K, 0, none⟩ = false ∧ W.frozen? ⟨K, 1, none⟩ = false) : HB w C R K G D nm n v ss b s lim (((W.setCell ⟨R, 0, none⟩ a0).setCell ⟨R, 1, none⟩ a1).setCell ⟨R, 2, none⟩ a2) ∧ (((W.setCell ⟨R, 0, none⟩ a0).setCell ⟨R, 1, none⟩ a1).setCell ⟨R, 2, none⟩ a2).cell? ⟨G, 0, none⟩ = some (.string nm) ∧ (((W.setCell ⟨R, 0, none⟩ a0).setCell ⟨R, 1, none⟩ a1).setCell ⟨R, 2, none⟩ a2).cell? ⟨G, 1, none⟩ = some (.int .i64 n) ∧ (((W.setCell ⟨R, 0, none⟩ a0).setCell ⟨R, 1, none⟩ a1).setCell ⟨R, 2, none⟩ a2).cell? ⟨G, 2, none⟩ = some v ∧ (((W.setCell ⟨R, 0, none⟩ a0).setCell ⟨R, 1, none⟩ a1).setCell ⟨R, 2, none⟩ a2).cell? ⟨D, 0, none⟩ = some (.string b) ∧ (((W.setCell ⟨R, 0, none⟩ a0).setCell ⟨R, 1, none⟩ a1).setCell ⟨R, 2, none⟩ a2).cell? ⟨D, 1, none⟩ = some (.string s) ∧ (((W.setCell ⟨R, 0, none⟩ a0).setCell ⟨R, 1, none⟩ a1).setCell ⟨R, 2, none⟩ a2).cell? ⟨R, 0, none⟩ = some (oldC R 0 (((W.setCell ⟨R, 0, none⟩ a0).setCell ⟨R, 1, none⟩ a1).setCell ⟨R, 2, none⟩ a2)) ∧ (((W.setCell ⟨R, 0, none⟩ a0).setCell ⟨R, 1, none⟩ a1).setCell ⟨R, 2, none⟩ a2).cell? ⟨R, 1, none⟩ = some (oldC R 1 (((W.setCell ⟨R, 0, none⟩ a0).setCell ⟨R, 1, none⟩ a1).setCell ⟨R, 2, none⟩ a2)) ∧ (((W.setCell ⟨R, 0, none⟩ a0).setCell ⟨R, 1, none⟩ a1).setCell ⟨R, 2, none⟩ a2).cell? ⟨R, 2, none⟩ = some (oldC R 2 (((W.setCell ⟨R, 0, none⟩ a0).setCell ⟨R, 1, none⟩ a1).setCell ⟨R, 2, none⟩ a2)) ∧ (((W.setCell ⟨R, 0, none⟩ a0).setCell ⟨R, 1, none⟩ a1).setCell ⟨R, 2, none⟩ a2).cell? ⟨K, 0, none⟩ = some (oldC K 0 (((W.setCell ⟨R, 0, none⟩ a0).setCell ⟨R, 1, none⟩ a1).setCell ⟨R, 2, none⟩ a2)) ∧ (((W.setCell ⟨R, 0, none⟩ a0).setCell ⟨R, 1, none⟩ a1).setCell ⟨R, 2, none⟩ a2).cell? ⟨K, 1, none⟩ = some (oldC K 1 (((W.setCell ⟨R, 0, none⟩ a0).setCell ⟨R, 1, none⟩ a1).setCell ⟨R, 2, none⟩ a2)) ∧ (((W.setCell ⟨R, 0, none⟩ a0).setCell ⟨R, 1, none⟩ a1).setCell ⟨R, 2, none⟩ a2).frozen? ⟨R, 0, none⟩ = false ∧ (((W.setCell ⟨R, 0, none⟩ a0).setCell ⟨R, 1, none⟩ a1).setCell ⟨R, 2, none⟩ a2).frozen? ⟨R, 1, none⟩ = false ∧ (((W.setCell ⟨R, 0, none⟩ a0).setCell ⟨R, 1, none⟩ a1).setCell ⟨R, 2, none⟩ a2).frozen? ⟨R, 2, none⟩ = false ∧ (((W.setCell ⟨R, 0, none⟩ a0).setCell ⟨R, 1, none⟩ a1).setCell ⟨R, 2, none⟩ a2).frozen? ⟨K, 0, none⟩ = false ∧ (((W.setCell ⟨R, 0, none⟩ a0).setCell ⟨R, 1, none⟩ a1).setCell ⟨R, 2, none⟩ a2).frozen? ⟨K, 1, none⟩ = false := h.1.setR.all
theorem HB.allK {w : World} {C R K G D : Nat} {nm : ByteArray} {n : Int} {v : Value} {ss : List ByteArray} {b s : ByteArray} {lim : Nat} {W : World} {a0 a1 : Value} (h : HB w C R K G D nm n v ss b s lim W ∧ W.cell? ⟨G, 0, none⟩ = some (.string nm) ∧ W.cell? ⟨G, 1, none⟩ = some (.int .i64 n) ∧ W.cell? ⟨G, 2, none⟩ = some v ∧ W.cell? ⟨D, 0, none⟩ = some (.string b) ∧ W.cell? ⟨D, 1, none⟩ = some (.string s) ∧ W.cell? ⟨R, 0, none⟩ = some (oldC R 0 W) ∧ W.cell? ⟨R, 1, none⟩ = some (oldC R 1 W) ∧ W.cell? ⟨R, 2, none⟩ = some (oldC R 2 W) ∧ W.cell? ⟨K, 0, none⟩ = some (oldC K 0 W) ∧ W.cell? ⟨K, 1, none⟩ = some (oldC K 1 W) ∧ W.frozen? ⟨R, 0, none⟩ = false ∧ W.frozen? ⟨R, 1, none⟩ = false ∧ W.frozen? ⟨R, 2, none⟩ = false ∧ W.frozen? ⟨K, 0, none⟩ = false ∧ W.frozen? ⟨K, 1, none⟩ = false) : HB w C R K G D nm n v ss b s lim ((W.setCell ⟨K, 0, none⟩ a0).setCell ⟨K, 1, none⟩ a1) ∧ ((W.setCell ⟨K, 0, none⟩ a0).setCell ⟨K, 1, none⟩ a1).cell? ⟨G, 0, none⟩ = some (.string nm) ∧ ((W.setCell ⟨K, 0, none⟩ a0).setCell ⟨K, 1, none⟩ a1).cell? ⟨G, 1, none⟩ = some (.int .i64 n) ∧ ((W.setCell ⟨K, 0, none⟩ a0).setCell ⟨K, 1, none⟩ a1).cell? ⟨G, 2, none⟩ = some v ∧ ((W.setCell ⟨K, 0, none⟩ a0).setCell ⟨K, 1, none⟩ a1).cell? ⟨D, 0, none⟩ = some (.string b) ∧ ((W.setCell ⟨K, 0, none⟩ a0).setCell ⟨K, 1, none⟩ a1).cell? ⟨D, 1, none⟩ = some (.string s) ∧ ((W.setCell ⟨K, 0, none⟩ a0).setCell ⟨K, 1, none⟩ a1).cell? ⟨R, 0, none⟩ = some (oldC R 0 ((W.setCell ⟨K, 0, none⟩ a0).setCell ⟨K, 1, none⟩ a1)) ∧ ((W.setCell ⟨K, 0, none⟩ a0).setCell ⟨K, 1, none⟩ a1).cell? ⟨R, 1, none⟩ = some (oldC R 1 ((W.setCell ⟨K, 0, none⟩ a0).setCell ⟨K, 1, none⟩ a1)) ∧ ((W.setCell ⟨K, 0, none⟩ a0).setCell ⟨K, 1, none⟩ a1).cell? ⟨R, 2, none⟩ = some (oldC R 2 ((W.setCell ⟨K, 0, none⟩ a0).setCell ⟨K, 1, none⟩ a1)) ∧ ((W.setCell ⟨K, 0, none⟩ a0).setCell ⟨K, 1, none⟩ a1).cell? ⟨K, 0, none⟩ = some (oldC K 0 ((W.setCell ⟨K, 0, none⟩ a0).setCell ⟨K, 1, none⟩ a1)) ∧ ((W.setCell ⟨K, 0, none⟩ a0).setCell ⟨K, 1, none⟩ a1).cell? ⟨K, 1, none⟩ = some (oldC K 1 ((W.setCell ⟨K, 0, none⟩ a0).setCell ⟨K, 1, none⟩ a1)) ∧ ((W.setCell ⟨K, 0, none⟩ a0).setCell ⟨K, 1, none⟩ a1).frozen? ⟨R, 0, none⟩ = false ∧ ((W.setCell ⟨K, 0, none⟩ a0).setCell ⟨K, 1, none⟩ a1).frozen? ⟨R, 1, none⟩ = false ∧ ((W.setCell ⟨K, 0, none⟩ a0).setCell ⟨K, 1, none⟩ a1).frozen? ⟨R, 2, none⟩ = false ∧ ((W.setCell ⟨K, 0, none⟩ a0).setCell ⟨K, 1, none⟩ a1).frozen? ⟨K, 0, none⟩ = false ∧ ((W.setCell ⟨K, 0, none⟩ a0).setCell ⟨K, 1, none⟩ a1).frozen? ⟨K, 1, none⟩ = false := h.1.setK.all
theorem HB.allRd {w : World} {C R K G D : Nat} {nm : ByteArray} {n : Int} {v : Value} {ss : List ByteArray} {b s : ByteArray} {lim : Nat} {W : World} {a0 a1 a2 : Value} (h : HB w C R K G D nm n v ss b s lim W.drew ∧ W.drew.cell? ⟨G, 0, none⟩ = some (.string nm) ∧ W.drew.cell? ⟨G, 1, none⟩ = some (.int .i64 n) ∧ W.drew.cell? ⟨G, 2, none⟩ = some v ∧ W.drew.cell? ⟨D, 0, none⟩ = some (.string b) ∧ W.drew.cell? ⟨D, 1, none⟩ = some (.string s) ∧ W.drew.cell? ⟨R, 0, none⟩ = some (oldC R 0 W.drew) ∧ W.drew.cell? ⟨R, 1, none⟩ = some (oldC R 1 W.drew) ∧ W.drew.cell? ⟨R, 2, none⟩ = some (oldC R 2 W.drew) ∧ W.drew.cell? ⟨K, 0, none⟩ = some (oldC K 0 W.drew) ∧ W.drew.cell? ⟨K, 1, none⟩ = some (oldC K 1 W.drew) ∧ W.drew.frozen? ⟨R, 0, none⟩ = false ∧ W.drew.frozen? ⟨R, 1, none⟩ = false ∧ W.drew.frozen? ⟨R, 2, none⟩ = false ∧ W.drew.frozen? ⟨K, 0, none⟩ = false ∧ W.drew.frozen? ⟨K, 1, none⟩ = false) : HB w C R K G D nm n v ss b s lim (((W.setCell ⟨R, 0, none⟩ a0).setCell ⟨R, 1, none⟩ a1).setCell ⟨R, 2, none⟩ a2).drew ∧ (((W.setCell ⟨R, 0, none⟩ a0).setCell ⟨R, 1, none⟩ a1).setCell ⟨R, 2, none⟩ a2).drew.cell? ⟨G, 0, none⟩ = some (.string nm) ∧ (((W.setCell ⟨R, 0, none⟩ a0).setCell ⟨R, 1, none⟩ a1).setCell ⟨R, 2, none⟩ a2).drew.cell? ⟨G, 1, none⟩ = some (.int .i64 n) ∧ (((W.setCell ⟨R, 0, none⟩ a0).setCell ⟨R, 1, none⟩ a1).setCell ⟨R, 2, none⟩ a2).drew.cell? ⟨G, 2, none⟩ = some v ∧ (((W.setCell ⟨R, 0, none⟩ a0).setCell ⟨R, 1, none⟩ a1).setCell ⟨R, 2, none⟩ a2).drew.cell? ⟨D, 0, none⟩ = some (.string b) ∧ (((W.setCell ⟨R, 0, none⟩ a0).setCell ⟨R, 1, none⟩ a1).setCell ⟨R, 2, none⟩ a2).drew.cell? ⟨D, 1, none⟩ = some (.string s) ∧ (((W.setCell ⟨R, 0, none⟩ a0).setCell ⟨R, 1, none⟩ a1).setCell ⟨R, 2, none⟩ a2).drew.cell? ⟨R, 0, none⟩ = some (oldC R 0 (((W.setCell ⟨R, 0, none⟩ a0).setCell ⟨R, 1, none⟩ a1).setCell ⟨R, 2, none⟩ a2).drew) ∧ (((W.setCell ⟨R, 0, none⟩ a0).setCell ⟨R, 1, none⟩ a1).setCell ⟨R, 2, none⟩ a2).drew.cell? ⟨R, 1, none⟩ = some (oldC R 1 (((W.setCell ⟨R, 0, none⟩ a0).setCell ⟨R, 1, none⟩ a1).setCell ⟨R, 2, none⟩ a2).drew) ∧ (((W.setCell ⟨R, 0, none⟩ a0).setCell ⟨R, 1, none⟩ a1).setCell ⟨R, 2, none⟩ a2).drew.cell? ⟨R, 2, none⟩ = some (oldC R 2 (((W.setCell ⟨R, 0, none⟩ a0).setCell ⟨R, 1, none⟩ a1).setCell ⟨R, 2, none⟩ a2).drew) ∧ (((W.setCell ⟨R, 0, none⟩ a0).setCell ⟨R, 1, none⟩ a1).setCell ⟨R, 2, none⟩ a2).drew.cell? ⟨K, 0, none⟩ = some (oldC K 0 (((W.setCell ⟨R, 0, none⟩ a0).setCell ⟨R, 1, none⟩ a1).setCell ⟨R, 2, none⟩ a2).drew) ∧ (((W.setCell ⟨R, 0, none⟩ a0).setCell ⟨R, 1, none⟩ a1).setCell ⟨R, 2, none⟩ a2).drew.cell? ⟨K, 1, none⟩ = some (oldC K 1 (((W.setCell ⟨R, 0, none⟩ a0).setCell ⟨R, 1, none⟩ a1).setCell ⟨R, 2, none⟩ a2).drew) ∧ (((W.setCell ⟨R, 0, none⟩ a0).setCell ⟨R, 1, none⟩ a1).setCell ⟨R, 2, none⟩ a2).drew.frozen? ⟨R, 0, none⟩ = false ∧ (((W.setCell ⟨R, 0, none⟩ a0).setCell ⟨R, 1, none⟩ a1).setCell ⟨R, 2, none⟩ a2).drew.frozen? ⟨R, 1, none⟩ = false ∧ (((W.setCell ⟨R, 0, none⟩ a0).setCell ⟨R, 1, none⟩ a1).setCell ⟨R, 2, none⟩ a2).drew.frozen? ⟨R, 2, none⟩ = false ∧ (((W.setCell ⟨R, 0, none⟩ a0).setCell ⟨R, 1, none⟩ a1).setCell ⟨R, 2, none⟩ a2).drew.frozen? ⟨K, 0, none⟩ = false ∧ (((W.setCell ⟨R, 0, none⟩ a0).setCell ⟨R, 1, none⟩ a1).setCell ⟨R, 2, none⟩ a2).drew.frozen? ⟨K, 1, none⟩ = false := by
  have h2 : HB w C R K G D nm n v ss b s lim (((W.setCell ⟨R, 0, none⟩ a0).setCell ⟨R, 1, none⟩ a1).setCell ⟨R, 2, none⟩ a2).drew := h.1.setR (a0 := a0) (a1 := a1) (a2 := a2)
  exact h2.all
theorem HB.allKd {w : World} {C R K G D : Nat} {nm : ByteArray} {n : Int} {v : Value} {ss : List ByteArray} {b s : ByteArray} {lim : Nat} {W : World} {a0 a1 : Value} (h : HB w C R K G D nm n v ss b s lim W.drew ∧ W.drew.cell? ⟨G, 0, none⟩ = some (.string nm) ∧ W.drew.cell? ⟨G, 1, none⟩ = some (.int .i64 n) ∧ W.drew.cell? ⟨G, 2, none⟩ = some v ∧ W.drew.cell? ⟨D, 0, none⟩ = some (.string b) ∧ W.drew.cell? ⟨D, 1, none⟩ = some (.string s) ∧ W.drew.cell? ⟨R, 0, none⟩ = some (oldC R 0 W.drew) ∧ W.drew.cell? ⟨R, 1, none⟩ = some (oldC R 1 W.drew) ∧ W.drew.cell? ⟨R, 2, none⟩ = some (oldC R 2 W.drew) ∧ W.drew.cell? ⟨K, 0, none⟩ = some (oldC K 0 W.drew) ∧ W.drew.cell? ⟨K, 1, none⟩ = some (oldC K 1 W.drew) ∧ W.drew.frozen? ⟨R, 0, none⟩ = false ∧ W.drew.frozen? ⟨R, 1, none⟩ = false ∧ W.drew.frozen? ⟨R, 2, none⟩ = false ∧ W.drew.frozen? ⟨K, 0, none⟩ = false ∧ W.drew.frozen? ⟨K, 1, none⟩ = false) : HB w C R K G D nm n v ss b s lim ((W.setCell ⟨K, 0, none⟩ a0).setCell ⟨K, 1, none⟩ a1).drew ∧ ((W.setCell ⟨K, 0, none⟩ a0).setCell ⟨K, 1, none⟩ a1).drew.cell? ⟨G, 0, none⟩ = some (.string nm) ∧ ((W.setCell ⟨K, 0, none⟩ a0).setCell ⟨K, 1, none⟩ a1).drew.cell? ⟨G, 1, none⟩ = some (.int .i64 n) ∧ ((W.setCell ⟨K, 0, none⟩ a0).setCell ⟨K, 1, none⟩ a1).drew.cell? ⟨G, 2, none⟩ = some v ∧ ((W.setCell ⟨K, 0, none⟩ a0).setCell ⟨K, 1, none⟩ a1).drew.cell? ⟨D, 0, none⟩ = some (.string b) ∧ ((W.setCell ⟨K, 0, none⟩ a0).setCell ⟨K, 1, none⟩ a1).drew.cell? ⟨D, 1, none⟩ = some (.string s) ∧ ((W.setCell ⟨K, 0, none⟩ a0).setCell ⟨K, 1, none⟩ a1).drew.cell? ⟨R, 0, none⟩ = some (oldC R 0 ((W.setCell ⟨K, 0, none⟩ a0).setCell ⟨K, 1, none⟩ a1).drew) ∧ ((W.setCell ⟨K, 0, none⟩ a0).setCell ⟨K, 1, none⟩ a1).drew.cell? ⟨R, 1, none⟩ = some (oldC R 1 ((W.setCell ⟨K, 0, none⟩ a0).setCell ⟨K, 1, none⟩ a1).drew) ∧ ((W.setCell ⟨K, 0, none⟩ a0).setCell ⟨K, 1, none⟩ a1).drew.cell? ⟨R, 2, none⟩ = some (oldC R 2 ((W.setCell ⟨K, 0, none⟩ a0).setCell ⟨K, 1, none⟩ a1).drew) ∧ ((W.setCell ⟨K, 0, none⟩ a0).setCell ⟨K, 1, none⟩ a1).drew.cell? ⟨K, 0, none⟩ = some (oldC K 0 ((W.setCell ⟨K, 0, none⟩ a0).setCell ⟨K, 1, none⟩ a1).drew) ∧ ((W.setCell ⟨K, 0, none⟩ a0).setCell ⟨K, 1, none⟩ a1).drew.cell? ⟨K, 1, none⟩ = some (oldC K 1 ((W.setCell ⟨K, 0, none⟩ a0).setCell ⟨K, 1, none⟩ a1).drew) ∧ ((W.setCell ⟨K, 0, none⟩ a0).setCell ⟨K, 1, none⟩ a1).drew.frozen? ⟨R, 0, none⟩ = false ∧ ((W.setCell ⟨K, 0, none⟩ a0).setCell ⟨K, 1, none⟩ a1).drew.frozen? ⟨R, 1, none⟩ = false ∧ ((W.setCell ⟨K, 0, none⟩ a0).setCell ⟨K, 1, none⟩ a1).drew.frozen? ⟨R, 2, none⟩ = false ∧ ((W.setCell ⟨K, 0, none⟩ a0).setCell ⟨K, 1, none⟩ a1).drew.frozen? ⟨K, 0, none⟩ = false ∧ ((W.setCell ⟨K, 0, none⟩ a0).setCell ⟨K, 1, none⟩ a1).drew.frozen? ⟨K, 1, none⟩ = false := by
  have h2 : HB w C R K G D nm n v ss b s lim ((W.setCell ⟨K, 0, none⟩ a0).setCell ⟨K, 1, none⟩ a1).drew := h.1.setK (a0 := a0) (a1 := a1)
  exact h2.all
set_option maxRecDepth 100000 in
set_option maxHeartbeats 8000000 in
theorem hunted_any (w : World) (C lim : Nat) (h : Cur w C lim) (hl : lim ≤ 9000000) : Calls Tryz.prog 102 #[.pointer (some ⟨C, 0, none⟩)] w (DrewMK w C (lim + 220)) := by
  have H := Lib.hid h
  have hCl := h.lt
  clear h
  go_enter Tryz.func102, Tryz.ntmps102
  go_wp2_with fail
  refine box2 (C := fun W => Calls _ _ _ W _) ?_
  intro wb hw k0 k1 hB0
  have hbz : w.heap.size + 1 < wb.heap.size := (Array.getElem?_eq_some_iff.1 k1).1
  refine (one_any wb C lim 4 (H.out.to hw) (by omega) (by omega) (by omega)).mono ?_; rintro e w1 ⟨b1, rfl, hc1, hg1⟩
  have F1 : FK w C w.heap.size (w.heap.size + 1) (.slice none 0 0) [] (lim + 2) w1 :=
    ⟨hc1, gb_tr (gb_to (gb_refl w C) hw) hg1, ⟨_, own_ltC (own_of_heap (base := w.heap.size) (n := 1) (size := 3) k0 (Nat.le_refl _) (by unfold maxLen; omega) rfl) hg1 hCl⟩,
      ⟨_, own_ltC (own_of_heap (base := w.heap.size) (n := 1) (size := 2) k1 (Nat.le_succ _) (by unfold maxLen; omega) rfl) hg1 hCl⟩, World.ownsRow_nil _ _ _ _, hCl⟩
  have H1 := Lib.hid F1
  have hz1 : w.heap.size + 1 < w1.heap.size := Nat.lt_of_lt_of_le hbz hg1.size
  clear hc1 hg1 F1 k0 k1 hw hB0
  obtain ⟨R, hR⟩ : ∃ R, R = w.heap.size := ⟨_, rfl⟩
  obtain ⟨K, hK⟩ : ∃ K, K = w.heap.size + 1 := ⟨_, rfl⟩
  have hRz : R < w1.heap.size := by omega
  have hKz : K < w1.heap.size := by omega
  rw [← hK, ← hR] at H1
  rw [← hK, ← hR]
  have HR := Lib.hid hR
  have HK := Lib.hid hK
  clear hR hK
  cases b1
  · go_wp2_with fail
    refine (among_at w1 C _ 4 _ [4, 5, 5, 6] (by simp) H1.out.cur (by omega) rfl (by omega) (by omega)).mono ?_; rintro e w2 ⟨z, rfl, hz, hc2, hg2⟩
    have H2 := Lib.hid (H1.out.draw hc2 hg2)
    obtain rfl | rfl | rfl : z = 4 ∨ z = 5 ∨ z = 6 := by simp at hz; omega
    · have hz2 : w1.heap.size ≤ w2.heap.size := hg2.size
      clear hz hc2 hg2 H1
      go_wp2_with fail
      refine (l4Hunting_any 4 ⟨#[49, 50]⟩ w2 (by omega) (by omega) (by decide)).mono ?_; rintro e w3 ⟨A1, q1, X, rfl, hoX, hX20, hX2, hXs, hb3⟩
      have HXs := Lib.hid hXs
      have hz3 : w2.heap.size ≤ w3.heap.size := hb3.size
      have H3 := Lib.hid ({ (H2.out.to hb3) with row := own_base (base' := w.heap.size) hoX (by omega) } : FK w C R K (Value.slice A1 X.length q1) X _ w3)
      have HXl : Hid (X.length ≤ 60) := Lib.hid (by omega)
      clear hoX hXs hb3 H2
      go_upto_region 6 with fail
      refine box2 (C := fun W => Code.wp _ _ _ _ W) ?_
      intro w4 hw4 k3 k4 hB04
      have T4 : HB w C R K w3.heap.size (w3.heap.size + 1) ⟨#[112, 108, 97, 105, 110]⟩ 4 (Value.slice A1 X.length q1) X ⟨#[49, 52]⟩ ⟨#[49, 50, 51, 52]⟩ (lim + 4) w4 :=
        ⟨⟨H3.out.to hw4, own_of_heap (n := 1) (size := 3) k3 (by omega) (by unfold maxLen; omega) rfl, by omega⟩, own_of_heap (n := 1) (size := 2) k4 (by omega) (by unfold maxLen; omega) rfl, by omega⟩
      have H4 := Lib.hid T4
      obtain ⟨G, hG⟩ : ∃ G, G = w3.heap.size := ⟨_, rfl⟩
      obtain ⟨D, hD⟩ : ∃ D, D = w3.heap.size + 1 := ⟨_, rfl⟩
      have hz4 : w3.heap.size ≤ w4.heap.size := hw4.size
      rw [← hD, ← hG] at H4
      rw [← hD, ← hG]
      clear T4 hw4 k3 k4 hB04 H3 hG hD
      obtain ⟨c, fD0, fD1⟩ : True ∧ w4.frozen? ⟨D, 0, none⟩ = false ∧ w4.frozen? ⟨D, 1, none⟩ = false := ⟨trivial, H4.out.kx.frozenAt 0, H4.out.kx.frozenAt 1⟩
      have cD0 : w4.cell? ⟨D, 0, none⟩ = some (.string ⟨#[49, 52]⟩) := H4.out.all.2.2.2.2.1
      have cD1 : w4.cell? ⟨D, 1, none⟩ = some (.string ⟨#[49, 50, 51, 52]⟩) := H4.out.all.2.2.2.2.2.1
      have H5 := Lib.hid (H4.out.setD (b' := ⟨#[49, 52]⟩) (s' := ⟨#[49, 50]⟩) 1 (.string ⟨#[49, 50]⟩) rfl)
      go_upto_region 13 with fail
      obtain ⟨w5, hw5⟩ : ∃ W, W = w4.setCell ⟨D, 1, none⟩ (.string ⟨#[49, 50]⟩) := ⟨_, rfl⟩
      rw [← hw5] at H5 ⊢
      clear hw5 H4 cD0 cD1 fD0 fD1
      obtain ⟨_, _, _, _, _, _, r0, r1, r2, p0, p1, f0, f1, f2, g0, g1⟩ := H5.out.all
      have hRK : R ≠ K := H5.out.hc.st.ne.1
      have hKR : K ≠ R := fun e => hRK e.symm
      have x9 : HB w C R K G D ⟨#[112, 108, 97, 105, 110]⟩ 4 (Value.slice A1 X.length q1) X ⟨#[49, 52]⟩ ⟨#[49, 50]⟩ (lim + 4) _ := H5.out.drew
      go_region_held3 (fun W => HB w C R K G D ⟨#[112, 108, 97, 105, 110]⟩ 4 (Value.slice A1 X.length q1) X ⟨#[49, 52]⟩ ⟨#[49, 50]⟩ (lim + 4) W ∧ W.cell? ⟨G, 0, none⟩ = some (.string ⟨#[112, 108, 97, 105, 110]⟩) ∧ W.cell? ⟨G, 1, none⟩ = some (.int .i64 4) ∧ W.cell? ⟨G, 2, none⟩ = some (Value.slice A1 X.length q1) ∧ W.cell? ⟨D, 0, none⟩ = some (.string ⟨#[49, 52]⟩) ∧ W.cell? ⟨D, 1, none⟩ = some (.string ⟨#[49, 50]⟩) ∧ W.cell? ⟨R, 0, none⟩ = some (oldC R 0 W) ∧ W.cell? ⟨R, 1, none⟩ = some (oldC R 1 W) ∧ W.cell? ⟨R, 2, none⟩ = some (oldC R 2 W) ∧ W.cell? ⟨K, 0, none⟩ = some (oldC K 0 W) ∧ W.cell? ⟨K, 1, none⟩ = some (oldC K 1 W) ∧ W.frozen? ⟨R, 0, none⟩ = false ∧ W.frozen? ⟨R, 1, none⟩ = false ∧ W.frozen? ⟨R, 2, none⟩ = false ∧ W.frozen? ⟨K, 0, none⟩ = false ∧ W.frozen? ⟨K, 1, none⟩ = false) (first | with_reducible assumption | with_reducible exact HB.all (by assumption) | with_reducible exact HB.allR (by assumption) | with_reducible exact HB.allK (by assumption) | with_reducible exact HB.allRd (by assumption) | with_reducible exact HB.allKd (by assumption)) (fail)
      go_wp2_with fail
      obtain ⟨W', eW, F', ⟨e0, e1, e2⟩, d0, d1⟩ := H5.out.hc.st.fin (.string ⟨#[112, 108, 97, 105, 110]⟩) (.int .i64 4) (Value.slice A1 X.length q1) (.string ⟨#[49, 52]⟩) (.string ⟨#[49, 50]⟩)
      rw [← eW]
      refine bodyPost_ret (v := .tuple #[.agg #[.string ⟨#[112, 108, 97, 105, 110]⟩, .int .i64 4, Value.slice A1 X.length q1], .agg #[.string ⟨#[49, 52]⟩, .string ⟨#[49, 50]⟩]]) (by simp [results, go_sem, e0, e1, e2, d0, d1]) rfl ?_
      exact ⟨⟨⟨#[112, 108, 97, 105, 110]⟩, 4, X⟩, Value.slice A1 X.length q1, ⟨⟨#[49, 52]⟩, ⟨#[49, 50]⟩⟩, rfl, (show (ByteArray.mk #[112, 108, 97, 105, 110]).size ≤ 20 by decide), HXl.out, HXs.out, ⟨(4 : Int).toNat, by decide, by decide, rfl⟩, ⟨by decide, by decide⟩, (F'.to (Below.drew (Below.refl _ _))).row, (F'.to (Below.drew (Below.refl _ _))).cur.more (by omega), (F'.to (Below.drew (Below.refl _ _))).gb⟩
    · have hz2 : w1.heap.size ≤ w2.heap.size := hg2.size
      clear hz hc2 hg2 H1
      go_wp2_with fail
      refine (l4Hunting_any 5 ⟨#[49, 50]⟩ w2 (by omega) (by omega) (by decide)).mono ?_; rintro e w3 ⟨A1, q1, X, rfl, hoX, hX20, hX2, hXs, hb3⟩
      have HXs := Lib.hid hXs
      have hz3 : w2.heap.size ≤ w3.heap.size := hb3.size
      have H3 := Lib.hid ({ (H2.out.to hb3) with row := own_base (base' := w.heap.size) hoX (by omega) } : FK w C R K (Value.slice A1 X.length q1) X _ w3)
      have HXl : Hid (X.length ≤ 60) := Lib.hid (by omega)
      clear hoX hXs hb3 H2
      go_upto_region 6 with fail
      refine box2 (C := fun W => Code.wp _ _ _ _ W) ?_
      intro w4 hw4 k3 k4 hB04
      have T4 : HB w C R K w3.heap.size (w3.heap.size + 1) ⟨#[112, 108, 97, 105, 110]⟩ 5 (Value.slice A1 X.length q1) X ⟨#[49, 52]⟩ ⟨#[49, 50, 51, 52]⟩ (lim + 4) w4 :=
        ⟨⟨H3.out.to hw4, own_of_heap (n := 1) (size := 3) k3 (by omega) (by unfold maxLen; omega) rfl, by omega⟩, own_of_heap (n := 1) (size := 2) k4 (by omega) (by unfold maxLen; omega) rfl, by omega⟩
      have H4 := Lib.hid T4
      obtain ⟨G, hG⟩ : ∃ G, G = w3.heap.size := ⟨_, rfl⟩
      obtain ⟨D, hD⟩ : ∃ D, D = w3.heap.size + 1 := ⟨_, rfl⟩
      have hz4 : w3.heap.size ≤ w4.heap.size := hw4.size
      rw [← hD, ← hG] at H4
      rw [← hD, ← hG]
      clear T4 hw4 k3 k4 hB04 H3 hG hD
      obtain ⟨c, fD0, fD1⟩ : True ∧ w4.frozen? ⟨D, 0, none⟩ = false ∧ w4.frozen? ⟨D, 1, none⟩ = false := ⟨trivial, H4.out.kx.frozenAt 0, H4.out.kx.frozenAt 1⟩
      have cD0 : w4.cell? ⟨D, 0, none⟩ = some (.string ⟨#[49, 52]⟩) := H4.out.all.2.2.2.2.1
      have cD1 : w4.cell? ⟨D, 1, none⟩ = some (.string ⟨#[49, 50, 51, 52]⟩) := H4.out.all.2.2.2.2.2.1
      obtain ⟨t5, ht5⟩ : ∃ t, t = numT (5 : Int) := ⟨_, rfl⟩
      have hs5 : t5.size = 1 := by rw [ht5]; exact num_one (x := 5) (by omega)
      have Hn5 := Lib.hid (fun W => l1Num_any 5 W (by omega))
      rw [show ((5 : Nat) : Int) = 5 from rfl, ← ht5] at Hn5
      have hb5 : ¬ 9223372036854775807 < (ByteArray.mk #[49, 50]).size + t5.size := by rw [hs5]; decide
      have hl5 : ((⟨#[49, 50]⟩ : ByteArray) ++ t5).size ≤ 10 := by rw [ByteArray.size_append, hs5]; decide
      clear ht5 HXl HXs cD0 cD1 fD0 fD1
      go_wp2_with fail
      refine (Hn5.out _).mono ?_; rintro e w5 ⟨rfl, hb5'⟩
      have hz5 : w4.heap.size ≤ w5.heap.size := hb5'.size
      have H5 := Lib.hid (H4.out.to hb5')
      clear hb5' H4
      go_wp2_with fail
      refine (l4Hunting_any 5 _ w5 (by omega) (by omega) hl5).mono ?_; rintro e w6 ⟨A2, q2, Y, rfl, hoY, hY20, hY2, hYs, hb6⟩
      have HXs := Lib.hid hYs
      have HXl : Hid (Y.length ≤ 60) := Lib.hid (by omega)
      have H6 := Lib.hid (H5.out.to hb6)
      have HY := Lib.hid (own_base (base' := w.heap.size) hoY (by omega))
      have cG2 : w6.cell? ⟨G, 2, none⟩ = some (Value.slice A1 X.length q1) := H6.out.all.2.2.2.1
      have fG2 : w6.frozen? ⟨G, 2, none⟩ = false := H6.out.hc.box.frozenAt 2
      clear hYs hb6 H5 hoY
      go_upto_region 8 with fail
      have H7 := Lib.hid (H6.out.setG HY.out)
      obtain ⟨w7, hw7⟩ : ∃ W, W = w6.setCell ⟨G, 2, none⟩ (Value.slice A2 Y.length q2) := ⟨_, rfl⟩
      rw [← hw7] at H7 ⊢
      have fD0 : w7.frozen? ⟨D, 0, none⟩ = false := H7.out.kx.frozenAt 0
      have fD1 : w7.frozen? ⟨D, 1, none⟩ = false := H7.out.kx.frozenAt 1
      have cD0 : w7.cell? ⟨D, 0, none⟩ = some (.string ⟨#[49, 52]⟩) := H7.out.all.2.2.2.2.1
      have cD1 : w7.cell? ⟨D, 1, none⟩ = some (.string ⟨#[49, 50, 51, 52]⟩) := H7.out.all.2.2.2.2.2.1
      clear hw7 H6 HY cG2 fG2
      go_upto_region 9 with fail
      have H8 := Lib.hid ((H7.out.setD (b' := ⟨#[49, 52, 53]⟩) (s' := ⟨#[49, 50, 51, 52]⟩) 0 (.string ⟨#[49, 52, 53]⟩) rfl).setD (b' := ⟨#[49, 52, 53]⟩) (s' := ⟨#[49, 50, 51]⟩) 1 (.string ⟨#[49, 50, 51]⟩) rfl)
      obtain ⟨w8, hw8⟩ : ∃ W, W = (w7.setCell ⟨D, 0, none⟩ (.string ⟨#[49, 52, 53]⟩)).setCell ⟨D, 1, none⟩ (.string ⟨#[49, 50, 51]⟩) := ⟨_, rfl⟩
      rw [← hw8] at H8 ⊢
      clear hw8 H7 cD0 cD1 fD0 fD1
      go_wp2_with fail
      refine (one_any w8 C _ 2 H8.out.hc.st.cur (by omega) (by omega) (by omega)).mono ?_; rintro e w9 ⟨b2, rfl, hc9, hg9⟩
      have H9 := Lib.hid (H8.out.draw hc9 hg9)
      have fD0 : w9.frozen? ⟨D, 0, none⟩ = false := H9.out.kx.frozenAt 0
      have cD0 : w9.cell? ⟨D, 0, none⟩ = some (.string ⟨#[49, 52, 53]⟩) := H9.out.all.2.2.2.2.1
      clear hc9 hg9 H8
      cases b2
      · go_upto_region 13 with fail
        clear fD0 cD0
        have hRK : R ≠ K := H9.out.hc.st.ne.1
        have hKR : K ≠ R := fun e => hRK e.symm
        obtain ⟨_, _, _, _, _, _, r0, r1, r2, p0, p1, f0, f1, f2, g0, g1⟩ := H9.out.all
        have x9 : HB w C R K G D ⟨#[112, 108, 97, 105, 110]⟩ 5 (Value.slice A2 Y.length q2) Y ⟨#[49, 52, 53]⟩ ⟨#[49, 50, 51]⟩ (lim + 4 + 2) _ := H9.out.drew
        go_region_held3 (fun W => HB w C R K G D ⟨#[112, 108, 97, 105, 110]⟩ 5 (Value.slice A2 Y.length q2) Y ⟨#[49, 52, 53]⟩ ⟨#[49, 50, 51]⟩ (lim + 4 + 2) W ∧ W.cell? ⟨G, 0, none⟩ = some (.string ⟨#[112, 108, 97, 105, 110]⟩) ∧ W.cell? ⟨G, 1, none⟩ = some (.int .i64 5) ∧ W.cell? ⟨G, 2, none⟩ = some (Value.slice A2 Y.length q2) ∧ W.cell? ⟨D, 0, none⟩ = some (.string ⟨#[49, 52, 53]⟩) ∧ W.cell? ⟨D, 1, none⟩ = some (.string ⟨#[49, 50, 51]⟩) ∧ W.cell? ⟨R, 0, none⟩ = some (oldC R 0 W) ∧ W.cell? ⟨R, 1, none⟩ = some (oldC R 1 W) ∧ W.cell? ⟨R, 2, none⟩ = some (oldC R 2 W) ∧ W.cell? ⟨K, 0, none⟩ = some (oldC K 0 W) ∧ W.cell? ⟨K, 1, none⟩ = some (oldC K 1 W) ∧ W.frozen? ⟨R, 0, none⟩ = false ∧ W.frozen? ⟨R, 1, none⟩ = false ∧ W.frozen? ⟨R, 2, none⟩ = false ∧ W.frozen? ⟨K, 0, none⟩ = false ∧ W.frozen? ⟨K, 1, none⟩ = false) (first | with_reducible assumption | with_reducible exact HB.all (by assumption) | with_reducible exact HB.allR (by assumption) | with_reducible exact HB.allK (by assumption) | with_reducible exact HB.allRd (by assumption) | with_reducible exact HB.allKd (by assumption)) (fail)
        go_wp2_with fail
        obtain ⟨W', eW, F', ⟨e0, e1, e2⟩, d0, d1⟩ := H9.out.hc.st.fin (.string ⟨#[112, 108, 97, 105, 110]⟩) (.int .i64 5) (Value.slice A2 Y.length q2) (.string ⟨#[49, 52, 53]⟩) (.string ⟨#[49, 50, 51]⟩)
        rw [← eW]
        refine bodyPost_ret (v := .tuple #[.agg #[.string ⟨#[112, 108, 97, 105, 110]⟩, .int .i64 5, Value.slice A2 Y.length q2], .agg #[.string ⟨#[49, 52, 53]⟩, .string ⟨#[49, 50, 51]⟩]]) (by simp [results, go_sem, e0, e1, e2, d0, d1]) rfl ?_
        exact ⟨⟨⟨#[112, 108, 97, 105, 110]⟩, 5, Y⟩, Value.slice A2 Y.length q2, ⟨⟨#[49, 52, 53]⟩, ⟨#[49, 50, 51]⟩⟩, rfl, (show (ByteArray.mk #[112, 108, 97, 105, 110]).size ≤ 20 by decide), HXl.out, HXs.out, ⟨(5 : Int).toNat, by decide, by decide, rfl⟩, ⟨by decide, by decide⟩, (F'.to (Below.drew (Below.refl _ _))).row, (F'.to (Below.drew (Below.refl _ _))).cur.more (by omega), (F'.to (Below.drew (Below.refl _ _))).gb⟩
      · go_upto_region 13 with fail
        have H10 := Lib.hid (H9.out.setD (b' := ⟨#[49]⟩) (s' := ⟨#[49, 50, 51]⟩) 0 (.string ⟨#[49]⟩) rfl)
        obtain ⟨w10, hw10⟩ : ∃ W, W = w9.setCell ⟨D, 0, none⟩ (.string ⟨#[49]⟩) := ⟨_, rfl⟩
        rw [← hw10] at H10 ⊢
        clear hw10 H9 fD0 cD0
        have hRK : R ≠ K := H10.out.hc.st.ne.1
        have hKR : K ≠ R := fun e => hRK e.symm
        obtain ⟨_, _, _, _, _, _, r0, r1, r2, p0, p1, f0, f1, f2, g0, g1⟩ := H10.out.all
        have x9 : HB w C R K G D ⟨#[112, 108, 97, 105, 110]⟩ 5 (Value.slice A2 Y.length q2) Y ⟨#[49]⟩ ⟨#[49, 50, 51]⟩ (lim + 4 + 2) _ := H10.out.drew
        go_region_held3 (fun W => HB w C R K G D ⟨#[112, 108, 97, 105, 110]⟩ 5 (Value.slice A2 Y.length q2) Y ⟨#[49]⟩ ⟨#[49, 50, 51]⟩ (lim + 4 + 2) W ∧ W.cell? ⟨G, 0, none⟩ = some (.string ⟨#[112, 108, 97, 105, 110]⟩) ∧ W.cell? ⟨G, 1, none⟩ = some (.int .i64 5) ∧ W.cell? ⟨G, 2, none⟩ = some (Value.slice A2 Y.length q2) ∧ W.cell? ⟨D, 0, none⟩ = some (.string ⟨#[49]⟩) ∧ W.cell? ⟨D, 1, none⟩ = some (.string ⟨#[49, 50, 51]⟩) ∧ W.cell? ⟨R, 0, none⟩ = some (oldC R 0 W) ∧ W.cell? ⟨R, 1, none⟩ = some (oldC R 1 W) ∧ W.cell? ⟨R, 2, none⟩ = some (oldC R 2 W) ∧ W.cell? ⟨K, 0, none⟩ = some (oldC K 0 W) ∧ W.cell? ⟨K, 1, none⟩ = some (oldC K 1 W) ∧ W.frozen? ⟨R, 0, none⟩ = false ∧ W.frozen? ⟨R, 1, none⟩ = false ∧ W.frozen? ⟨R, 2, none⟩ = false ∧ W.frozen? ⟨K, 0, none⟩ = false ∧ W.frozen? ⟨K, 1, none⟩ = false) (first | with_reducible assumption | with_reducible exact HB.all (by assumption) | with_reducible exact HB.allR (by assumption) | with_reducible exact HB.allK (by assumption) | with_reducible exact HB.allRd (by assumption) | with_reducible exact HB.allKd (by assumption)) (fail)
        go_wp2_with fail
        obtain ⟨W', eW, F', ⟨e0, e1, e2⟩, d0, d1⟩ := H10.out.hc.st.fin (.string ⟨#[112, 108, 97, 105, 110]⟩) (.int .i64 5) (Value.slice A2 Y.length q2) (.string ⟨#[49]⟩) (.string ⟨#[49, 50, 51]⟩)
        rw [← eW]
        refine bodyPost_ret (v := .tuple #[.agg #[.string ⟨#[112, 108, 97, 105, 110]⟩, .int .i64 5, Value.slice A2 Y.length q2], .agg #[.string ⟨#[49]⟩, .string ⟨#[49, 50, 51]⟩]]) (by simp [results, go_sem, e0, e1, e2, d0, d1]) rfl ?_
        exact ⟨⟨⟨#[112, 108, 97, 105, 110]⟩, 5, Y⟩, Value.slice A2 Y.length q2, ⟨⟨#[49]⟩, ⟨#[49, 50, 51]⟩⟩, rfl, (show (ByteArray.mk #[112, 108, 97, 105, 110]).size ≤ 20 by decide), HXl.out, HXs.out, ⟨(5 : Int).toNat, by decide, by decide, rfl⟩, ⟨by decide, by decide⟩, (F'.to (Below.drew (Below.refl _ _))).row, (F'.to (Below.drew (Below.refl _ _))).cur.more (by omega), (F'.to (Below.drew (Below.refl _ _))).gb⟩
    · have hz2 : w1.heap.size ≤ w2.heap.size := hg2.size
      clear hz hc2 hg2 H1
      go_wp2_with fail
      refine (l4Hunting_any 6 ⟨#[49, 50]⟩ w2 (by omega) (by omega) (by decide)).mono ?_; rintro e w3 ⟨A1, q1, X, rfl, hoX, hX20, hX2, hXs, hb3⟩
      have HXs := Lib.hid hXs
      have hz3 : w2.heap.size ≤ w3.heap.size := hb3.size
      have H3 := Lib.hid ({ (H2.out.to hb3) with row := own_base (base' := w.heap.size) hoX (by omega) } : FK w C R K (Value.slice A1 X.length q1) X _ w3)
      have HXl : Hid (X.length ≤ 60) := Lib.hid (by omega)
      clear hoX hXs hb3 H2
      go_upto_region 6 with fail
      refine box2 (C := fun W => Code.wp _ _ _ _ W) ?_
      intro w4 hw4 k3 k4 hB04
      have T4 : HB w C R K w3.heap.size (w3.heap.size + 1) ⟨#[112, 108, 97, 105, 110]⟩ 6 (Value.slice A1 X.length q1) X ⟨#[49, 52]⟩ ⟨#[49, 50, 51, 52]⟩ (lim + 4) w4 :=
        ⟨⟨H3.out.to hw4, own_of_heap (n := 1) (size := 3) k3 (by omega) (by unfold maxLen; omega) rfl, by omega⟩, own_of_heap (n := 1) (size := 2) k4 (by omega) (by unfold maxLen; omega) rfl, by omega⟩
      have H4 := Lib.hid T4
      obtain ⟨G, hG⟩ : ∃ G, G = w3.heap.size := ⟨_, rfl⟩
      obtain ⟨D, hD⟩ : ∃ D, D = w3.heap.size + 1 := ⟨_, rfl⟩
      have hz4 : w3.heap.size ≤ w4.heap.size := hw4.size
      rw [← hD, ← hG] at H4
      rw [← hD, ← hG]
      clear T4 hw4 k3 k4 hB04 H3 hG hD
      obtain ⟨c, fD0, fD1⟩ : True ∧ w4.frozen? ⟨D, 0, none⟩ = false ∧ w4.frozen? ⟨D, 1, none⟩ = false := ⟨trivial, H4.out.kx.frozenAt 0, H4.out.kx.frozenAt 1⟩
      have cD0 : w4.cell? ⟨D, 0, none⟩ = some (.string ⟨#[49, 52]⟩) := H4.out.all.2.2.2.2.1
      have cD1 : w4.cell? ⟨D, 1, none⟩ = some (.string ⟨#[49, 50, 51, 52]⟩) := H4.out.all.2.2.2.2.2.1
      go_upto_region 13 with fail
      obtain ⟨_, _, _, _, _, _, r0, r1, r2, p0, p1, f0, f1, f2, g0, g1⟩ := H4.out.all
      have hRK : R ≠ K := H4.out.hc.st.ne.1
      have hKR : K ≠ R := fun e => hRK e.symm
      have x9 : HB w C R K G D ⟨#[112, 108, 97, 105, 110]⟩ 6 (Value.slice A1 X.length q1) X ⟨#[49, 52]⟩ ⟨#[49, 50, 51, 52]⟩ (lim + 4) _ := H4.out.drew
      go_region_held3 (fun W => HB w C R K G D ⟨#[112, 108, 97, 105, 110]⟩ 6 (Value.slice A1 X.length q1) X ⟨#[49, 52]⟩ ⟨#[49, 50, 51, 52]⟩ (lim + 4) W ∧ W.cell? ⟨G, 0, none⟩ = some (.string ⟨#[112, 108, 97, 105, 110]⟩) ∧ W.cell? ⟨G, 1, none⟩ = some (.int .i64 6) ∧ W.cell? ⟨G, 2, none⟩ = some (Value.slice A1 X.length q1) ∧ W.cell? ⟨D, 0, none⟩ = some (.string ⟨#[49, 52]⟩) ∧ W.cell? ⟨D, 1, none⟩ = some (.string ⟨#[49, 50, 51, 52]⟩) ∧ W.cell? ⟨R, 0, none⟩ = some (oldC R 0 W) ∧ W.cell? ⟨R, 1, none⟩ = some (oldC R 1 W) ∧ W.cell? ⟨R, 2, none⟩ = some (oldC R 2 W) ∧ W.cell? ⟨K, 0, none⟩ = some (oldC K 0 W) ∧ W.cell? ⟨K, 1, none⟩ = some (oldC K 1 W) ∧ W.frozen? ⟨R, 0, none⟩ = false ∧ W.frozen? ⟨R, 1, none⟩ = false ∧ W.frozen? ⟨R, 2, none⟩ = false ∧ W.frozen? ⟨K, 0, none⟩ = false ∧ W.frozen? ⟨K, 1, none⟩ = false) (first | with_reducible assumption | with_reducible exact HB.all (by assumption) | with_reducible exact HB.allR (by assumption) | with_reducible exact HB.allK (by assumption) | with_reducible exact HB.allRd (by assumption) | with_reducible exact HB.allKd (by assumption)) (fail)
      go_wp2_with fail
      obtain ⟨W', eW, F', ⟨e0, e1, e2⟩, d0, d1⟩ := H4.out.hc.st.fin (.string ⟨#[112, 108, 97, 105, 110]⟩) (.int .i64 6) (Value.slice A1 X.length q1) (.string ⟨#[49, 52]⟩) (.string ⟨#[49, 50, 51, 52]⟩)
      rw [← eW]
      refine bodyPost_ret (v := .tuple #[.agg #[.string ⟨#[112, 108, 97, 105, 110]⟩, .int .i64 6, Value.slice A1 X.length q1], .agg #[.string ⟨#[49, 52]⟩, .string ⟨#[49, 50, 51, 52]⟩]]) (by simp [results, go_sem, e0, e1, e2, d0, d1]) rfl ?_
      exact ⟨⟨⟨#[112, 108, 97, 105, 110]⟩, 6, X⟩, Value.slice A1 X.length q1, ⟨⟨#[49, 52]⟩, ⟨#[49, 50, 51, 52]⟩⟩, rfl, (show (ByteArray.mk #[112, 108, 97, 105, 110]).size ≤ 20 by decide), HXl.out, HXs.out, ⟨(6 : Int).toNat, by decide, by decide, rfl⟩, ⟨by decide, by decide⟩, (F'.to (Below.drew (Below.refl _ _))).row, (F'.to (Below.drew (Below.refl _ _))).cur.more (by omega), (F'.to (Below.drew (Below.refl _ _))).gb⟩
  · go_wp2_with fail
    refine (called_any w1 C _ H1.out.cur (by omega)).mono ?_; rintro e w2 ⟨m, v, k, rfl, hz, hl60, hsm, hst, hk, ho, hc2, hg2⟩
    have F2 : FK w C R K v m.l (lim + 220) w2 := { (H1.out.draw hc2 hg2) with row := own_base (base' := w.heap.size) ho (by omega), cur := hc2.more (by omega) }
    have H2 := Lib.hid F2
    have Hsm := Lib.hid hsm
    have Hst := Lib.hid hst
    obtain ⟨⟨r0, r1, r2⟩, ⟨p0, p1⟩, ⟨f0, f1, f2⟩, g0, g1⟩ : (w2.cell? ⟨R, 0, none⟩ = some (oldC R 0 w2) ∧ w2.cell? ⟨R, 1, none⟩ = some (oldC R 1 w2) ∧ w2.cell? ⟨R, 2, none⟩ = some (oldC R 2 w2)) ∧ (w2.cell? ⟨K, 0, none⟩ = some (oldC K 0 w2) ∧ w2.cell? ⟨K, 1, none⟩ = some (oldC K 1 w2)) ∧
        (w2.frozen? ⟨R, 0, none⟩ = false ∧ w2.frozen? ⟨R, 1, none⟩ = false ∧ w2.frozen? ⟨R, 2, none⟩ = false) ∧ (w2.frozen? ⟨K, 0, none⟩ = false ∧ w2.frozen? ⟨K, 1, none⟩ = false) := by
      obtain ⟨⟨x0, x1, x2, a0, a1, a2⟩, ⟨y0, y1, b0, b1⟩, f, g⟩ := F2.facts
      exact ⟨⟨oldC_of a0, oldC_of a1, oldC_of a2⟩, ⟨oldC_of b0, oldC_of b1⟩, f, g⟩
    have hRK : R ≠ K := F2.ne.1
    have hKR : K ≠ R := fun e => hRK e.symm
    obtain ⟨nm, n, ss⟩ := m
    obtain ⟨kb, ks⟩ := k
    obtain ⟨A0, q0, ev, _⟩ := sl_of_own F2.row
    simp only at ev
    subst ev
    clear F2 hsm ho hc2 hg2 H1 hst
    unfold Mt.v Cl.v
    go_wp2_with fail
    obtain ⟨W', eW, F', ⟨e0, e1, e2⟩, d0, d1⟩ := H2.out.fin (.string nm) (.int .i64 n) (.slice A0 ss.length q0) (.string kb) (.string ks)
    rw [← eW]
    refine bodyPost_ret (v := .tuple #[.agg #[.string nm, .int .i64 n, .slice A0 ss.length q0], .agg #[.string kb, .string ks]]) (by simp [results, go_sem, e0, e1, e2, d0, d1]) rfl ?_
    exact ⟨⟨nm, n, ss⟩, .slice A0 ss.length q0, ⟨kb, ks⟩, rfl, hz, hl60, Hsm.out, Hst.out, hk, F'.row, F'.cur, F'.gb⟩
end Go.Proofs.YtofpjbdelmmclaaGreatDoor
