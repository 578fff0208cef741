/- Drawn methods. -/
import Derived.Test.YtofpjbdelmmclaaGreatDoorPk30
import Derived.Test.YtofpjbdelmmclaaGreatDoorPk6
import Derived.Test.YtofpjbdelmmclaaGreatDoorPk9
import Derived.Deep.CutBlock
namespace Go.Proofs.YtofpjbdelmmclaaGreatDoor
open Go Go.RowKit
set_option linter.unusedVariables false
set_option linter.unusedSimpArgs false

/-- A call of a Go function at a step of a region that draws its order. -/
theorem step_callX {P : Program} {w : World} {ops : Array Oper} {o : Oper} {a : Act} {K : Act → World → Prop} {Q : Exit → Act → World → Prop} {E : Prop} {f : FuncId} {args : Array Value} (hgd : o.guard = none) (h : Calls P f args w fun e w' => ∃ v, e = .returned v ∧ K (a.put o.dst v) w')
    (hx : (execOp a.eval o).run P w = .ok (.enter f args) w) : if Region.wanted o (yielded ops a.tmps) = true then Oper.wp P o a w K Q else E := by
  rw [if_pos (by simp [Region.wanted, hgd])]
  unfold Oper.wp
  rw [hx]
  exact h.mono (by rintro e w' ⟨v, rfl, hk⟩; exact hk)
theorem gb_newC {a w : World} {C g : Nat} (h : a.grownBy w (some C)) (hg : a.heap.size ≤ g) (j : Nat) (u : Value) : a.grownBy (w.setCell ⟨g, j, none⟩ u) (some C) :=
  ⟨h.os, h.tape, h.output, by simpa [World.setCell] using h.size, fun i hi hne => (Below.heap_setCell w ⟨g, j, none⟩ u i (by show i ≠ g; omega)).trans (h.block i hi hne)⟩
theorem gb_row {a w w' : World} {C : Nat} {base : Nat} {e : TypeId} {s n : Nat} {v : Value} {xs : List Value} (h : a.grownBy w (some C)) (ho : w.ownsRow base e s v n xs) (hb : a.heap.size ≤ base) (hg : w.grownBy w' v.ownBlock) : a.grownBy w' (some C) :=
  ⟨hg.os.trans h.os, hg.tape.trans h.tape, hg.output.trans h.output, Nat.le_trans h.size hg.size, fun k hk hn => (hg.block k (Nat.lt_of_lt_of_le hk h.size) (fun x => by have := (ho.lt k x.symm).1; omega)).trans (h.block k hk hn)⟩
theorem Cur.setC {w : World} {C lim g : Nat} (h : Cur w C lim) (hg : C < g) (j : Nat) (u : Value) : Cur (w.setCell ⟨g, j, none⟩ u) C lim := by
  have hC := h.lt
  have hgr : w.grownBy (w.setCell ⟨g, j, none⟩ u) (some g) := gb_set (gb_refl w g) j u
  obtain ⟨v, a, s, h1, h2, h3, h4, h5, ho⟩ := h
  exact ⟨v, a, s, h1.keep (fun p hp => gb_cell hgr (by omega) (by omega)), h2, h3, h4, h5, ho.kept hgr (.inr (by simp [Value.ownBlock]; omega))⟩
theorem Cur.row {w w' : World} {C lim base : Nat} {e : TypeId} {s n : Nat} {v : Value} {xs : List Value} (h : Cur w C lim) (ho : w.ownsRow base e s v n xs) (hb : C < base) (hg : w.grownBy w' v.ownBlock) : Cur w' C lim := by
  have hC := h.lt
  have hne : ∀ k, k ≤ C → some k ≠ v.ownBlock := fun k hk x => by have := (ho.lt k x.symm).1; omega
  have hcell : ∀ p : Addr, p.block < C → w'.cell? p = w.cell? p := fun p hp => by
    have e := hg.block p.block (by omega) (hne p.block (by omega))
    unfold World.cell?
    rw [e]
  obtain ⟨v', a, s', h1, h2, h3, h4, h5, ho'⟩ := h
  refine ⟨v', a, s', h1.keep hcell, h2, h3, h4, h5, ho'.kept hg (.inr (hne C (Nat.le_refl _)))⟩
/-- The state of a method that is drawn: the cursor in C, the result's block R, the method's box G, its changes v. -/
structure SD (w : World) (C R G : Nat) (nm : ByteArray) (n : Int) (v : Value) (ss : List ByteArray) (lim : Nat) (W : World) : Prop where
  cur : Cur W C lim
  gb : w.grownBy W (some C)
  box : W.ownsRow w.heap.size 49 3 (.slice (some ⟨G, 0, none⟩) 1 1) 1 [.string nm, .int .i64 n, v]
  res : ∃ xs, W.ownsRow w.heap.size 49 3 (.slice (some ⟨R, 0, none⟩) 1 1) 1 xs
  row : W.ownsRow w.heap.size 9 1 v ss.length (ss.map Value.string)
  sm : ∀ s ∈ ss, s.size ≤ 20
  hC : C < w.heap.size
  hRG : R < G
theorem SD.hR {w : World} {C R G : Nat} {nm : ByteArray} {n : Int} {v : Value} {ss : List ByteArray} {lim : Nat} {W : World} (h : SD w C R G nm n v ss lim W) : w.heap.size ≤ R := let ⟨_, hx⟩ := h.res; (hx.lt R rfl).1
theorem SD.to {w : World} {C R G : Nat} {nm : ByteArray} {n : Int} {v : Value} {ss : List ByteArray} {lim : Nat} {W W' : World} (h : SD w C R G nm n v ss lim W) (hb : Below W.heap.size W W') : SD w C R G nm n v ss lim W' :=
  ⟨h.cur.to hb, gb_to h.gb hb, own_to h.box hb, let ⟨xs, hx⟩ := h.res; ⟨xs, own_to hx hb⟩, own_to h.row hb, h.sm, h.hC, h.hRG⟩
theorem SD.more {w : World} {C R G : Nat} {nm : ByteArray} {n : Int} {v : Value} {ss : List ByteArray} {lim lim' : Nat} {W : World} (h : SD w C R G nm n v ss lim W) (hl : lim ≤ lim') : SD w C R G nm n v ss lim' W := { h with cur := h.cur.more hl }
theorem own_ltC {w w' : World} {base C : Nat} {e : TypeId} {size n : Nat} {v : Value} {xs : List Value} (h : w.ownsRow base e size v n xs) (hg : w.grownBy w' (some C)) (hC : C < base) : w'.ownsRow base e size v n xs := by
  refine h.kept hg ?_
  cases hv : v.ownBlock with
  | none => exact .inl rfl
  | some k => exact .inr (fun x => by injection x with x; have := (h.lt k hv).1; omega)
theorem SD.draw {w : World} {C R G : Nat} {nm : ByteArray} {n : Int} {v : Value} {ss : List ByteArray} {lim lim' : Nat} {W W' : World} (h : SD w C R G nm n v ss lim W) (hc : Cur W' C lim') (hg : W.grownBy W' (some C)) : SD w C R G nm n v ss lim' W' :=
  ⟨hc, gb_tr h.gb hg, own_ltC h.box hg h.hC, let ⟨xs, hx⟩ := h.res; ⟨xs, own_ltC hx hg h.hC⟩, own_ltC h.row hg h.hC, h.sm, h.hC, h.hRG⟩
theorem SD.facts {w : World} {C R G : Nat} {nm : ByteArray} {n : Int} {v : Value} {ss : List ByteArray} {lim : Nat} {W : World} (h : SD w C R G nm n v ss lim W) :
    (W.cell? ⟨G, 0, none⟩ = some (.string nm) ∧ W.cell? ⟨G, 1, none⟩ = some (.int .i64 n) ∧ W.cell? ⟨G, 2, none⟩ = some v) ∧ (W.frozen? ⟨G, 0, none⟩ = false ∧ W.frozen? ⟨G, 1, none⟩ = false ∧ W.frozen? ⟨G, 2, none⟩ = false) ∧
    (∃ x0 x1 x2, W.cell? ⟨R, 0, none⟩ = some x0 ∧ W.cell? ⟨R, 1, none⟩ = some x1 ∧ W.cell? ⟨R, 2, none⟩ = some x2) ∧ (W.frozen? ⟨R, 0, none⟩ = false ∧ W.frozen? ⟨R, 1, none⟩ = false ∧ W.frozen? ⟨R, 2, none⟩ = false) := by
  obtain ⟨xs, hx⟩ := h.res
  have hl : xs.length = 3 := hx.1
  refine ⟨⟨(h.box.cellAt 0 (by omega)).trans rfl, (h.box.cellAt 1 (by omega)).trans rfl, (h.box.cellAt 2 (by omega)).trans rfl⟩, ⟨h.box.frozenAt _, h.box.frozenAt _, h.box.frozenAt _⟩, ⟨xs[0], xs[1], xs[2], ?_, ?_, ?_⟩, ⟨hx.frozenAt _, hx.frozenAt _, hx.frozenAt _⟩⟩
  · rw [hx.cellAt 0 (by omega)]; simp [hl]
  · rw [hx.cellAt 1 (by omega)]; simp [hl]
  · rw [hx.cellAt 2 (by omega)]; simp [hl]
theorem SD.keptBox {w : World} {C R G : Nat} {nm : ByteArray} {n : Int} {v : Value} {ss : List ByteArray} {lim : Nat} {W W' : World} (h : SD w C R G nm n v ss lim W) (hg : W.grownBy W' v.ownBlock) : W'.cell? ⟨G, 2, none⟩ = some v ∧ W'.frozen? ⟨G, 2, none⟩ = false := by
  have hb := h.box.kept hg (own_kindsX h.box h.row (by decide))
  exact ⟨(hb.cellAt 2 (by omega)).trans rfl, hb.frozenAt 2⟩
theorem SD.keptBox2 {w : World} {C R G : Nat} {nm : ByteArray} {n : Int} {v : Value} {ss : List ByteArray} {lim : Nat} {W W' : World} (h : SD w C R G nm n v ss lim W) {base m : Nat} {hv : Value} {xs : List Value} (ho : W.ownsRow base 9 1 hv m xs) (hg : W.grownBy W' hv.ownBlock) : W'.cell? ⟨G, 2, none⟩ = some v ∧ W'.frozen? ⟨G, 2, none⟩ = false := by
  have hb := h.box.kept hg (own_kindsX h.box ho (by decide))
  exact ⟨(hb.cellAt 2 (by omega)).trans rfl, hb.frozenAt 2⟩
/-- Another row grows. -/
theorem SD.other {w : World} {C R G : Nat} {nm : ByteArray} {n : Int} {ss : List ByteArray} {v : Value} {lim : Nat} {W W' : World} (h : SD w C R G nm n v ss lim W) {base m : Nat} {hv : Value} {xs : List Value} (ho : W.ownsRow base 9 1 hv m xs) (hb : w.heap.size ≤ base) (hg : W.grownBy W' hv.ownBlock) (hne : v.ownBlock = none ∨ v.ownBlock ≠ hv.ownBlock) : SD w C R G nm n v ss lim W' :=
  ⟨h.cur.row ho (by have := h.hC; omega) hg, gb_row h.gb ho hb hg, h.box.kept hg (own_kindsX h.box ho (by decide)), let ⟨xs, hx⟩ := h.res; ⟨xs, hx.kept hg (own_kindsX hx ho (by decide))⟩, h.row.kept hg hne, h.sm, h.hC, h.hRG⟩
theorem own_lowX {w w' : World} {base B n : Nat} {e : TypeId} {size : Nat} {v : Value} {xs : List Value} (h : w.ownsRow base e size v n xs) (hb : Below B w w') (hn : ∀ k, v.ownBlock = some k → k < B) : w'.ownsRow base e size v n xs := by
  obtain ⟨h1, h2⟩ := h
  refine ⟨h1, ?_⟩
  rcases h2 with h2 | ⟨g, cap, cur, rfl, hbase, hg, r⟩
  · exact .inl h2
  · exact .inr ⟨g, cap, cur, rfl, hbase, (hb.block g (hn g rfl)).trans hg, r⟩
/-- An append to the changes, and its store. -/
theorem SD.app {w : World} {C R G : Nat} {nm : ByteArray} {n : Int} {v v' : Value} {ss ss' : List ByteArray} {lim : Nat} {W W' : World} (h : SD w C R G nm n v ss lim W) (hr : W'.ownsRow w.heap.size 9 1 v' ss'.length (ss'.map Value.string)) (hg : W.grownBy W' v.ownBlock) (hs : ∀ s ∈ ss', s.size ≤ 20) :
    SD w C R G nm n v' ss' lim (W'.setCell ⟨G, 2, none⟩ v') := by
  have hC := h.hC
  have hbox := h.box.kept hg (own_kindsX h.box h.row (by decide))
  have hG := (h.box.lt G rfl).1
  refine ⟨(h.cur.row h.row hC hg).setC (by omega) 2 v', gb_newC (gb_row h.gb h.row (Nat.le_refl _) hg) hG 2 v', own_set hbox 2 v', ?_, ?_, hs, h.hC, h.hRG⟩
  · obtain ⟨xs, hx⟩ := h.res
    have hx' := hx.kept hg (own_kindsX hx h.row (by decide))
    exact ⟨xs, hx'.kept (gb_set (gb_refl W' G) 2 v') (.inr (by have := h.hRG; simp [Value.ownBlock]; omega))⟩
  · exact hr.kept (gb_set (gb_refl W' G) 2 v') ((own_kindsX hr hbox (by decide)).imp id (fun x y => x (by rw [y]; rfl)))
/-- A field of the box written. -/
theorem SD.setv {w : World} {C R G : Nat} {nm : ByteArray} {n : Int} {v v' : Value} {ss ss' : List ByteArray} {lim : Nat} {W : World} (h : SD w C R G nm n v ss lim W) (hr : W.ownsRow w.heap.size 9 1 v' ss'.length (ss'.map Value.string)) (hs : ∀ s ∈ ss', s.size ≤ 20) :
    SD w C R G nm n v' ss' lim (W.setCell ⟨G, 2, none⟩ v') := by
  have hC := h.hC
  have hG := (h.box.lt G rfl).1
  refine ⟨h.cur.setC (by omega) 2 v', gb_newC h.gb hG 2 v', own_set h.box 2 v', ?_, ?_, hs, h.hC, h.hRG⟩
  · obtain ⟨xs, hx⟩ := h.res
    exact ⟨xs, hx.kept (gb_set (gb_refl W G) 2 v') (.inr (by have := h.hRG; simp [Value.ownBlock]; omega))⟩
  · exact hr.kept (gb_set (gb_refl W G) 2 v') ((own_kindsX hr h.box (by decide)).imp id (fun x y => x (by rw [y]; rfl)))
/-- The state of the second loop: the changes lie above B, the half below it. -/
structure SH2 (w : World) (C R G B : Nat) (nm : ByteArray) (n : Int) (v : Value) (ss : List ByteArray) (hv : Value) (hh : List ByteArray) (lim : Nat) (W : World) : Prop where
  sd : SD w C R G nm n v ss lim W
  rw_ : W.ownsRow B 9 1 v ss.length (ss.map Value.string)
  hf : W.ownsRow w.heap.size 9 1 hv hh.length (hh.map Value.string)
  hl : ∀ k, hv.ownBlock = some k → k < B
  hs : ∀ s ∈ hh, s.size ≤ 20
  hGB : G < B
  hwB : w.heap.size ≤ B
  bz : B ≤ W.heap.size
theorem SH2.to {w : World} {C R G B : Nat} {nm : ByteArray} {n : Int} {v : Value} {ss : List ByteArray} {hv : Value} {hh : List ByteArray} {lim : Nat} {W W' : World} (h : SH2 w C R G B nm n v ss hv hh lim W) (hb : Below W.heap.size W W') : SH2 w C R G B nm n v ss hv hh lim W' :=
  ⟨h.sd.to hb, own_to h.rw_ hb, own_to h.hf hb, h.hl, h.hs, h.hGB, h.hwB, Nat.le_trans h.bz hb.size⟩
/-- SH2.bz stands in the structure. -/
theorem SH2.app {w : World} {C R G B : Nat} {nm : ByteArray} {n : Int} {v v' : Value} {ss ss' : List ByteArray} {hv : Value} {hh : List ByteArray} {lim : Nat} {W W' : World} (h : SH2 w C R G B nm n v ss hv hh lim W) (hr : W'.ownsRow B 9 1 v' ss'.length (ss'.map Value.string)) (hb : Below B W W') (hg : W.grownBy W' v.ownBlock) (hs : ∀ s ∈ ss', s.size ≤ 20) :
    SH2 w C R G B nm n v' ss' hv hh lim (W'.setCell ⟨G, 2, none⟩ v') := by
  have hG := h.hGB
  refine ⟨h.sd.app (own_base hr h.hwB) hg hs, hr.kept (gb_set (gb_refl W' G) 2 v') (by
    cases hv : v'.ownBlock with
    | none => exact .inl rfl
    | some k => exact .inr (fun x => by injection x with x; have := (hr.lt k hv).1; omega)), ?_, h.hl, h.hs, h.hGB, h.hwB, by simpa [World.setCell] using Nat.le_trans h.bz hg.size⟩
  have h1 := own_lowX h.hf hb h.hl
  have hbox := (h.sd.box.kept hg (own_kindsX h.sd.box h.sd.row (by decide)))
  exact h1.kept (gb_set (gb_refl W' G) 2 v') ((own_kindsX h1 hbox (by decide)).imp id (fun x y => x (by rw [y]; rfl)))
/-- The row of the changes behind the last stores of the result. -/
theorem own_set3 {w : World} {C G : Nat} {nm : ByteArray} {n : Int} {v : Value} {ss : List ByteArray} {lim : Nat} {W : World} (h : SD w C w.heap.size G nm n v ss lim W) (u0 : ByteArray) (u1 : Int) :
    (((W.setCell ⟨w.heap.size, 0, none⟩ (.string u0)).setCell ⟨w.heap.size, 1, none⟩ (.int .i64 u1)).setCell ⟨w.heap.size, 2, none⟩ v).ownsRow w.heap.size 9 1 v ss.length (ss.map Value.string) := by
  obtain ⟨xs, hx⟩ := h.res
  have hk := own_kindsX h.row hx (by decide)
  have st : ∀ (W' : World) (j : Nat) (u : Value), W'.ownsRow w.heap.size 9 1 v ss.length (ss.map Value.string) → (W'.setCell ⟨w.heap.size, j, none⟩ u).ownsRow w.heap.size 9 1 v ss.length (ss.map Value.string) := fun W' j u h' =>
    h'.kept (gb_set (gb_refl W' w.heap.size) j u) (hk.imp id (fun x y => x (by rw [y]; rfl)))
  exact st _ 2 _ (st _ 1 _ (st _ 0 _ h.row))
/-- Three fields set, and read again. -/
theorem set3_cells (W : World) (R : Nat) (v0 v1 v2 x0 x1 x2 : Value) (h0 : W.cell? ⟨R, 0, none⟩ = some x0) (h1 : W.cell? ⟨R, 1, none⟩ = some x1) (h2 : W.cell? ⟨R, 2, none⟩ = some x2) :
    (((W.setCell ⟨R, 0, none⟩ v0).setCell ⟨R, 1, none⟩ v1).setCell ⟨R, 2, none⟩ v2).cell? ⟨R, 0, none⟩ = some v0 ∧
    (((W.setCell ⟨R, 0, none⟩ v0).setCell ⟨R, 1, none⟩ v1).setCell ⟨R, 2, none⟩ v2).cell? ⟨R, 1, none⟩ = some v1 ∧
    (((W.setCell ⟨R, 0, none⟩ v0).setCell ⟨R, 1, none⟩ v1).setCell ⟨R, 2, none⟩ v2).cell? ⟨R, 2, none⟩ = some v2 := by
  have o : ∀ (W : World) (i j : Nat) (v : Value), i ≠ j → (W.setCell ⟨R, i, none⟩ v).cell? ⟨R, j, none⟩ = W.cell? ⟨R, j, none⟩ := fun W i j v h => Go.World.cell?_setCell_other W _ _ v (fun e => h (by injection e))
  have same : ∀ (W : World) (j : Nat) (v x : Value), W.cell? ⟨R, j, none⟩ = some x → (W.setCell ⟨R, j, none⟩ v).cell? ⟨R, j, none⟩ = some v := fun W j v x h => World.cell?_setCell_same' W _ v (by rw [h]; rfl)
  exact ⟨(o _ 2 0 v2 (by decide)).trans ((o _ 1 0 v1 (by decide)).trans (same _ _ _ _ h0)),
    (o _ 2 1 v2 (by decide)).trans (same _ _ _ _ ((o W 0 1 v0 (by decide)).trans h1)),
    same _ _ _ _ ((o _ 1 2 v1 (by decide)).trans ((o W 0 2 v0 (by decide)).trans h2))⟩
/-- What a draw of a method leaves. -/
def DrewM (w : World) (C lim : Nat) (P : Mt → Prop) (e : Ending) (w' : World) : Prop := ∃ (m : Mt) (v : Value), e = .returned (m.v v) ∧ m.name.size ≤ 20 ∧ m.l.length ≤ 60 ∧ (∀ s ∈ m.l, s.size ≤ 20) ∧ P m ∧ w'.ownsRow w.heap.size 9 1 v m.l.length (m.l.map Value.string) ∧ Cur w' C lim ∧ w.grownBy w' (some C)
/-- The changes of a hunting lead. -/
def HuntPost (w : World) (e : Ending) (w' : World) : Prop := ∃ A q, ∃ X : List ByteArray, e = .returned (.slice A X.length q) ∧ w'.ownsRow w.heap.size 9 1 (.slice A X.length q) X.length (X.map Value.string) ∧ X.length ≤ 20 ∧ 2 ≤ X.length ∧ (∀ x ∈ X, x.size ≤ 20) ∧ Below w.heap.size w w'
def HuntRel (w wh : World) (n : Nat) (o i : Value) (wr : World) : Prop := ∃ (k : Nat) (A : Option Addr) (q : Nat) (X : List ByteArray), k ≤ n ∧ i = .int .i64 k ∧ o = .slice A X.length q ∧ X.length = 2 * k ∧ wr.ownsRow wh.heap.size 9 1 (.slice A X.length q) X.length (X.map Value.string) ∧ (∀ x ∈ X, x.size ≤ 20) ∧ Below w.heap.size w wr ∧ wh.heap.size ≤ wr.heap.size
set_option maxRecDepth 100000 in
set_option maxHeartbeats 4000000 in
theorem l4Hunting_any (n : Nat) (last : ByteArray) (w : World) (h3 : 3 ≤ n) (h8 : n ≤ 8) (hl : last.size ≤ 10) : Calls Tryz.prog 137 #[.int .i64 n, .string last] w (HuntPost w) := by
  have hn1 := num_one h8
  obtain ⟨t, ht⟩ : ∃ t, t = numT (n : Int) := ⟨_, rfl⟩
  have Hn := Lib.hid (fun W => l1Num_any n W (by omega))
  rw [← ht] at Hn hn1
  clear ht
  have hz2 : ¬ 9223372036854775807 < (⟨#[49]⟩ : ByteArray).size + t.size := by rw [hn1]; show ¬ _ < 1 + 1; omega
  by_cases hodd : (n : Int) % 2 = 1
  · have hs1 : (t : ByteArray).size ≤ 20 := by omega
    have hs2 : (⟨#[49]⟩ : ByteArray).size ≤ 20 := by show 1 ≤ 20; omega
    obtain ⟨one, hone⟩ : ∃ s : ByteArray, s = t := ⟨_, rfl⟩
    obtain ⟨two, htwo⟩ : ∃ s : ByteArray, s = ⟨#[49]⟩ := ⟨_, rfl⟩
    rw [← hone] at hs1
    rw [← htwo] at hs2
    have Hone := Lib.hid hone
    have Htwo := Lib.hid htwo
    clear hone htwo
    go_enter Tryz.func137, Tryz.ntmps137
    go_wp2_with (go_at_call 63; refine (Hn.out _).mono ?_; rintro e w' ⟨rfl, hb'⟩)
    obtain ⟨wh, hwh⟩ : ∃ wh : World, Below w.heap.size w wh ∧ wh = w' := ⟨w', (by first | exact Below.trans (by assumption) (Below.mono hb' (Below.size (by assumption))) | exact hb'), rfl⟩
    obtain ⟨hbw, rfl⟩ := hwh
    rw [← Hone.out, ← Htwo.out]
    go_loopw [7, 8] (fun o i wr => HuntRel w wh n o i wr) (fun _ i _ => n - (intOf i).toNat)
    case atStart => exact ⟨0, none, 0, [], by omega, rfl, rfl, rfl, World.ownsRow_nil _ _ _ _, by simp, hbw, Nat.le_refl _⟩
    case round =>
      obtain ⟨k, A, q, X, hk, rfl, rfl, hxl, ho, hsz, hB, hz⟩ := hrel
      have HO := Lib.hid ho
      have Hsz := Lib.hid hsz
      have Hxl := Lib.hid hxl
      have hxb : X.length ≤ 16 := by omega
      clear ho hsz hxl
      by_cases hlt : k < n
      · have Hx2 : Hid (∀ x ∈ X ++ [one, two], x.size ≤ 20) := Lib.hid (fun x hx => by
          rcases List.mem_append.1 hx with hx | hx
          · exact Hsz.out x hx
          · simp at hx; rcases hx with rfl | rfl
            · exact hs1
            · exact hs2)
        go_wp2_with (at_builtin; refine wpList_app_sl (wr.alloc (.cells #[.string one, .string two] 9)) rfl _ _ _ rfl wh.heap.size 9 _ 1 16 Tryz.underlying24 info_str rfl (by omega) (own_to HO.out (bw_al (Below.refl _ _) _)) rfl (sl_of_own (own_of_heap (base := 0) (n := 2) (size := 1) (heap_new wr (.cells #[.string one, .string two] 9)) (Nat.zero_le _) (by unfold maxLen; omega) rfl)) (nilok_own (own_of_heap (base := 0) (n := 2) (size := 1) (heap_new wr (.cells #[.string one, .string two] 9)) (Nat.zero_le _) (by unfold maxLen; omega) rfl)) rfl (strs_one [one, two]) (by omega) (by omega) (by simp; omega) ?_; intro v4 w4 ho4 hb4 hg4 _; (obtain ⟨A4, q4, e4, _⟩ := sl_of_own ho4); subst e4; (have HO4 := Lib.hid ho4); (have hz4 : wh.heap.size ≤ w4.heap.size := Nat.le_trans (by simp; omega) hg4.size); (have hB4 : Below w.heap.size w w4 := hB.trans ((((bw_al (Below.refl wr.heap.size wr) (.cells #[.string one, .string two] 9)).mono hz).trans hb4).mono hbw.size)); clear ho4 hb4 hg4)
        refine ⟨⟨k + 1, A4, q4, X ++ [one, two], by omega, by go_num, by simp, by rw [List.length_append, Hxl.out]; simp; omega, ?_, Hx2.out, hB4, hz4⟩, by simp [intOf]; omega⟩
        rw [List.length_append, List.map_append]
        exact HO4.out
      · obtain rfl : k = n := by omega
        obtain ⟨g, rfl, hgb, hgl⟩ := own_addr HO.out (by have := Hxl.out; omega)
        have hj : X.length - 1 < X.length := by have := Hxl.out; omega
        have hci : wr.cell? ⟨g, X.length - 1, none⟩ = some (.string (X[X.length - 1]'hj)) := by rw [HO.out.cellAt (X.length - 1) (by omega)]; simp [hj]
        have hfi := HO.out.frozenAt (X.length - 1)
        have h6 : 6 ≤ X.length := by have := Hxl.out; omega
        have hw2 : IntKind.i64.wrap ((X.length : Int) - 1) = (X.length : Int) - 1 := IntWalk.i64_in _ (by omega)
        have hw3 : 0 ≤ (X.length : Int) - 1 := by omega
        have hw4 : ((X.length : Int) - 1).toNat = X.length - 1 := by omega
        have hw5 : (X.length : Int) - 1 < (X.length : Int) := by omega
        have hw6 : 1 ≤ (X.length : Int) := by omega
        have HE : Hid ((wr.setCell ⟨g, X.length - 1, none⟩ (.string last)).ownsRow wh.heap.size 9 1 (.slice (some ⟨g, 0, none⟩) X.length q) X.length ((X.set (X.length - 1) last).map Value.string)) := Lib.hid (by rw [List.map_set]; exact own_set HO.out _ (.string last))
        have HEs := Lib.hid (size_set (j := X.length - 1) Hsz.out (show last.size ≤ 20 by omega))
        have hwhz : w.heap.size ≤ wh.heap.size := hbw.size
        go_wp2_with fail
        go_ret
        refine ⟨some ⟨g, 0, none⟩, q, X.set (X.length - 1) last, by rw [List.length_set]; rfl, ?_, by rw [List.length_set]; omega, by rw [List.length_set]; omega, HEs.out, grow_setB9 hB (Nat.le_trans hwhz hgb) _⟩
        rw [List.length_set]
        exact own_base HE.out hwhz
  · have hs1 : (⟨#[45]⟩ : ByteArray).size ≤ 20 := by show 1 ≤ 20; omega
    have hs2 : ((⟨#[49]⟩ ++ t) : ByteArray).size ≤ 20 := by rw [ByteArray.size_append, hn1]; show 1 + 1 ≤ 20; omega
    obtain ⟨one, hone⟩ : ∃ s : ByteArray, s = ⟨#[45]⟩ := ⟨_, rfl⟩
    obtain ⟨two, htwo⟩ : ∃ s : ByteArray, s = (⟨#[49]⟩ ++ t) := ⟨_, rfl⟩
    rw [← hone] at hs1
    rw [← htwo] at hs2
    have Hone := Lib.hid hone
    have Htwo := Lib.hid htwo
    clear hone htwo
    go_enter Tryz.func137, Tryz.ntmps137
    go_wp2_with (go_at_call 63; refine (Hn.out _).mono ?_; rintro e w' ⟨rfl, hb'⟩)
    obtain ⟨wh, hwh⟩ : ∃ wh : World, Below w.heap.size w wh ∧ wh = w' := ⟨w', (by first | exact Below.trans (by assumption) (Below.mono hb' (Below.size (by assumption))) | exact hb'), rfl⟩
    obtain ⟨hbw, rfl⟩ := hwh
    rw [← Hone.out, ← Htwo.out]
    go_loopw [7, 8] (fun o i wr => HuntRel w wh n o i wr) (fun _ i _ => n - (intOf i).toNat)
    case atStart => exact ⟨0, none, 0, [], by omega, rfl, rfl, rfl, World.ownsRow_nil _ _ _ _, by simp, hbw, Nat.le_refl _⟩
    case round =>
      obtain ⟨k, A, q, X, hk, rfl, rfl, hxl, ho, hsz, hB, hz⟩ := hrel
      have HO := Lib.hid ho
      have Hsz := Lib.hid hsz
      have Hxl := Lib.hid hxl
      have hxb : X.length ≤ 16 := by omega
      clear ho hsz hxl
      by_cases hlt : k < n
      · have Hx2 : Hid (∀ x ∈ X ++ [one, two], x.size ≤ 20) := Lib.hid (fun x hx => by
          rcases List.mem_append.1 hx with hx | hx
          · exact Hsz.out x hx
          · simp at hx; rcases hx with rfl | rfl
            · exact hs1
            · exact hs2)
        go_wp2_with (at_builtin; refine wpList_app_sl (wr.alloc (.cells #[.string one, .string two] 9)) rfl _ _ _ rfl wh.heap.size 9 _ 1 16 Tryz.underlying24 info_str rfl (by omega) (own_to HO.out (bw_al (Below.refl _ _) _)) rfl (sl_of_own (own_of_heap (base := 0) (n := 2) (size := 1) (heap_new wr (.cells #[.string one, .string two] 9)) (Nat.zero_le _) (by unfold maxLen; omega) rfl)) (nilok_own (own_of_heap (base := 0) (n := 2) (size := 1) (heap_new wr (.cells #[.string one, .string two] 9)) (Nat.zero_le _) (by unfold maxLen; omega) rfl)) rfl (strs_one [one, two]) (by omega) (by omega) (by simp; omega) ?_; intro v4 w4 ho4 hb4 hg4 _; (obtain ⟨A4, q4, e4, _⟩ := sl_of_own ho4); subst e4; (have HO4 := Lib.hid ho4); (have hz4 : wh.heap.size ≤ w4.heap.size := Nat.le_trans (by simp; omega) hg4.size); (have hB4 : Below w.heap.size w w4 := hB.trans ((((bw_al (Below.refl wr.heap.size wr) (.cells #[.string one, .string two] 9)).mono hz).trans hb4).mono hbw.size)); clear ho4 hb4 hg4)
        refine ⟨⟨k + 1, A4, q4, X ++ [one, two], by omega, by go_num, by simp, by rw [List.length_append, Hxl.out]; simp; omega, ?_, Hx2.out, hB4, hz4⟩, by simp [intOf]; omega⟩
        rw [List.length_append, List.map_append]
        exact HO4.out
      · obtain rfl : k = n := by omega
        obtain ⟨g, rfl, hgb, hgl⟩ := own_addr HO.out (by have := Hxl.out; omega)
        have hj : X.length - 1 < X.length := by have := Hxl.out; omega
        have hci : wr.cell? ⟨g, X.length - 1, none⟩ = some (.string (X[X.length - 1]'hj)) := by rw [HO.out.cellAt (X.length - 1) (by omega)]; simp [hj]
        have hfi := HO.out.frozenAt (X.length - 1)
        have h6 : 6 ≤ X.length := by have := Hxl.out; omega
        have hw2 : IntKind.i64.wrap ((X.length : Int) - 1) = (X.length : Int) - 1 := IntWalk.i64_in _ (by omega)
        have hw3 : 0 ≤ (X.length : Int) - 1 := by omega
        have hw4 : ((X.length : Int) - 1).toNat = X.length - 1 := by omega
        have hw5 : (X.length : Int) - 1 < (X.length : Int) := by omega
        have hw6 : 1 ≤ (X.length : Int) := by omega
        have HE : Hid ((wr.setCell ⟨g, X.length - 1, none⟩ (.string last)).ownsRow wh.heap.size 9 1 (.slice (some ⟨g, 0, none⟩) X.length q) X.length ((X.set (X.length - 1) last).map Value.string)) := Lib.hid (by rw [List.map_set]; exact own_set HO.out _ (.string last))
        have HEs := Lib.hid (size_set (j := X.length - 1) Hsz.out (show last.size ≤ 20 by omega))
        have hwhz : w.heap.size ≤ wh.heap.size := hbw.size
        go_wp2_with fail
        go_ret
        refine ⟨some ⟨g, 0, none⟩, q, X.set (X.length - 1) last, by rw [List.length_set]; rfl, ?_, by rw [List.length_set]; omega, by rw [List.length_set]; omega, HEs.out, grow_setB9 hB (Nat.le_trans hwhz hgb) _⟩
        rw [List.length_set]
        exact own_base HE.out hwhz
def StageM (m : Mt) : Prop := ∃ n : Nat, 3 ≤ n ∧ n ≤ 6 ∧ m.stage = (n : Int)
set_option maxRecDepth 100000 in
set_option maxHeartbeats 8000000 in
theorem drawMethod_any (w : World) (C lim : Nat) (h : Cur w C lim) (hl : lim ≤ 100000000) : Calls Tryz.prog 124 #[.pointer (some ⟨C, 0, none⟩)] w (DrewM w C (lim + 200) StageM) := by
  have H := Lib.hid h
  have hCl := h.lt
  clear h
  go_enter Tryz.func124, Tryz.ntmps124
  go_wp2_with fail
  refine (among_at _ C lim 6 _ [4, 4, 5, 6, 6, 3] (by simp) (H.out.al _) (by omega) rfl (by omega) (by omega)).mono ?_; rintro e w1 ⟨z1, rfl, hz1, hc1, hg1⟩
  obtain ⟨n, hn3, hn6, rfl⟩ : ∃ n : Nat, 3 ≤ n ∧ n ≤ 6 ∧ z1 = (n : Int) := by
    simp at hz1
    rcases hz1 with rfl | rfl | rfl | rfl
    · exact ⟨4, by omega, by omega, rfl⟩
    · exact ⟨5, by omega, by omega, rfl⟩
    · exact ⟨6, by omega, by omega, rfl⟩
    · exact ⟨3, by omega, by omega, rfl⟩
  have R1 := Lib.hid (own_ltC (own_of_heap (base := w.heap.size) (n := 1) (size := 3) (heap_new w _) (Nat.le_refl _) (by unfold maxLen; omega) rfl) hg1 hCl)
  have C1 := Lib.hid hc1
  have G1 := Lib.hid (gb_tr (gb_al (gb_refl w C) _) hg1)
  clear hc1 hg1 hz1
  go_wp2_with fail
  refine (of_at w1 C _ 4 _ [⟨#[97]⟩, ⟨#[112, 108, 97, 105, 110]⟩, ⟨#[98, 111, 98]⟩, ⟨#[108, 105, 116, 116, 108, 101]⟩] (by simp) C1.out (by omega) rfl (by omega) (by omega)).mono ?_; rintro e w2 ⟨nm, rfl, hs2, hc2, hg2⟩
  have hz2 : nm.size ≤ 20 := by simp at hs2; rcases hs2 with rfl | rfl | rfl | rfl <;> decide
  have R2 := Lib.hid (own_ltC R1.out hg2 hCl)
  have C2 := Lib.hid hc2
  have G2 := Lib.hid (gb_tr G1.out hg2)
  clear hc2 hg2 hs2 R1 C1 G1
  have hw2 : w.heap.size < w2.heap.size := (R2.out.lt _ rfl).2
  go_upto_block 0 with fail
  refine box1 (C := fun W => Code.wp _ _ _ _ W) ?_
  intro w3 hw3 k3 hB03
  have st0 : SD w C w.heap.size w2.heap.size nm n (.slice none 0 0) [] (lim + 2 + 2) w3 :=
    ⟨C2.out.to hw3, gb_to G2.out hw3, own_of_heap (n := 1) (size := 3) k3 (Nat.le_of_lt hw2) (by unfold maxLen; omega) rfl, ⟨_, own_to R2.out hw3⟩, World.ownsRow_nil _ _ _ _, by simp, hCl, hw2⟩
  have S0 := Lib.hid st0
  have hG0 : w.heap.size ≠ w2.heap.size := by omega
  have hG1 : w2.heap.size ≠ w.heap.size := by omega
  obtain ⟨G, hG⟩ : ∃ G, G = w2.heap.size := ⟨_, rfl⟩
  rw [← hG] at S0 hG0 hG1 ⊢
  clear st0 hw3 k3 hB03 hG R2 C2 G2 hw2
  go_cut [4] (fun s4 wx => ∃ v ss, s4 = .pointer (some ⟨G, 0, none⟩) ∧ ss.length ≤ 60 ∧ SD w C w.heap.size G nm n v ss (lim + 200) wx)
  case first =>
    have st := S0.out
    have hstc := st.cur
    by_cases h4 : 4 ≤ n
    · have h4i : (4 : Int) ≤ n := by omega
      have h4d : decide ((4 : Int) ≤ n) = true := by simp; omega
      clear st hstc
      go_wp2_with fail
      refine (one_any w3 C _ 2 S0.out.cur (by omega) (by omega) (by omega)).mono ?_; rintro e w4 ⟨b1, rfl, hc4, hg4⟩
      have S4 := Lib.hid (S0.out.draw hc4 hg4)
      clear hc4 hg4 h4d
      cases b1
      · go_wp2_with fail
        refine (one_any w4 C _ 2 S4.out.cur (by omega) (by omega) (by omega)).mono ?_; rintro e w5 ⟨b2, rfl, hc5, hg5⟩
        have S5 := Lib.hid ((S4.out.draw hc5 hg5).more (show _ ≤ lim + 10 by omega))
        clear hc5 hg5
        cases b2
        · go_wp2_with fail
          refine (pick_any w5 C _ 8 S5.out.cur (by omega) (by omega) (by omega)).mono ?_; rintro e w6 ⟨b, rfl, hb, hc6, hg6⟩
          obtain ⟨k0, rfl⟩ : ∃ k : Nat, b = k := ⟨b.toNat, by omega⟩
          have hk0 : k0 < 8 := by omega
          have S6 := Lib.hid ((S5.out.draw hc6 hg6).more (show _ ≤ lim + 14 by omega))
          clear hc6 hg6 hb
          go_wp2_with fail
          go_loopw [9] (fun i wr => ∃ (k : Nat) (v : Value) (ss : List ByteArray), k ≤ 8 ∧ i = .int .i64 k ∧ ss.length + k ≤ 8 ∧ SD w C w.heap.size G nm n v ss (lim + 14 + 2 * (8 - k)) wr) (fun i _ => (intOf i).toNat)
          case atStart => exact ⟨k0 + 1, _, _, by omega, by go_num, by simp; omega, S6.out.more (by omega)⟩
          case round =>
            obtain ⟨k, v, ss, hk, rfl, hsl, st⟩ := hrel
            have St := Lib.hid st
            clear st
            by_cases hpos : 0 < k
            · obtain ⟨A0, q0, ev, _⟩ := sl_of_own St.out.row
              subst ev
              obtain ⟨⟨c0, c1, c2⟩, ⟨f0, f1, f2⟩, _, _⟩ := St.out.facts
              have hpi : (0 : Int) < k := by omega
              have Sd := Lib.hid (St.out.to (Below.drew (Below.refl wr.heap.size wr)))
              have hnn := nilok_own St.out.row
              have hl1 : ss.length ≤ 1000 := by omega
              obtain ⟨c0, c1, c2⟩ : (wr.drew).cell? ⟨G, 0, none⟩ = some (.string nm) ∧ (wr.drew).cell? ⟨G, 1, none⟩ = some (.int .i64 (n : Int)) ∧ (wr.drew).cell? ⟨G, 2, none⟩ = some (.slice A0 ss.length q0) := Sd.out.facts.1
              clear hnn
              go_wp2_with fail
              go_region_law ((first | (refine step_callX (by rfl) ((change_any _ C _ n Sd.out.cur (by omega) hn3 hn6).mono ?_) ?_; rotate_left; (· go_simp); rintro e w' ⟨s, rfl, hsz', hc', hg'⟩; refine ⟨_, rfl, ?_⟩; (have S' := Lib.hid (Sd.out.draw hc' hg')); (have c2' : w'.cell? ⟨G, 2, none⟩ = some (.slice A0 ss.length q0) := S'.out.facts.1.2.2); (have c2a : (w'.alloc (.cells #[.string s] 9)).cell? ⟨G, 2, none⟩ = some (.slice A0 ss.length q0) := (S'.out.to (bw_al (Below.refl w'.heap.size w') (.cells #[.string s] 9))).facts.1.2.2)) | (refine step_app_sl _ (by rfl) _ _ _ (by rfl) w.heap.size 9 _ 1 16 Tryz.underlying24 info_str (by rfl) (by omega) (own_to S'.out.row (bw_al (Below.refl _ _) _)) (by rfl) (sl_of_own (own_of_heap (base := 0) (n := 1) (size := 1) (heap_new w' (.cells #[.string s] 9)) (Nat.zero_le _) (by unfold maxLen; omega) rfl)) (nilok_own (own_of_heap (base := 0) (n := 1) (size := 1) (heap_new w' (.cells #[.string s] 9)) (Nat.zero_le _) (by unfold maxLen; omega) rfl)) (by rfl) (strs_one [s]) (by omega) (by omega) (by have := S'.out.gb.size; simp; omega) (ss.length + 1) rfl ?_; intro A2 q2 w2' hown2 hb2 hg2; (have S2 := Lib.hid ((S'.out.to (bw_al (Below.refl w'.heap.size w') (.cells #[.string s] 9))).app (v' := .slice A2 (ss.length + 1) q2) (ss' := ss ++ [s]) (by rw [List.length_append, List.map_append]; exact hown2) hg2 (fun x hx => by rcases List.mem_append.1 hx with hx | hx; exact S'.out.sm x hx; rw [List.mem_singleton.1 hx]; exact hsz'))); (obtain ⟨c9, f9⟩ := (S'.out.to (bw_al (Below.refl w'.heap.size w') (.cells #[.string s] 9))).keptBox hg2))))
              all_goals
                have HS2 := Lib.hid (S2.out.more (show _ ≤ lim + 14 + 2 * (8 - (k - 1)) by omega))
                go_wp2_with fail
                exact ⟨⟨k - 1, _, ss ++ [s], by omega, by rw [show ((k - 1 : Nat) : Int) = (k : Int) - 1 by omega], by rw [List.length_append]; simp; omega, HS2.out⟩, by simp [intOf]; omega⟩
            · obtain rfl : k = 0 := by omega
              have hp0 : ¬ (0 : Int) < 0 := by omega
              go_wp2_with fail
              go_meet
              exact ⟨v, ss, rfl, by omega, St.out.more (by omega)⟩
        · go_wp2_with fail
          refine (pick_any w5 C _ 4 S5.out.cur (by omega) (by omega) (by omega)).mono ?_; rintro e w6 ⟨b, rfl, hb, hc6, hg6⟩
          obtain ⟨k0, rfl⟩ : ∃ k : Nat, b = k := ⟨b.toNat, by omega⟩
          have hk0 : k0 < 4 := by omega
          have S6 := Lib.hid ((S5.out.draw hc6 hg6).more (show _ ≤ lim + 14 by omega))
          clear hc6 hg6 hb
          go_wp2_with fail
          go_loopw [6, 7] (fun o i wr => ∃ (k : Nat) (A : Option Addr) (q : Nat) (hh : List ByteArray), k ≤ 4 ∧ i = .int .i64 k ∧ o = .slice A hh.length q ∧ 1 ≤ hh.length + k ∧ hh.length + k ≤ 4 ∧ wr.ownsRow w.heap.size 9 1 (.slice A hh.length q) hh.length (hh.map Value.string) ∧ (∀ s ∈ hh, s.size ≤ 20) ∧ SD w C w.heap.size G nm n (.slice none 0 0) [] (lim + 14 + 2 * (4 - k)) wr) (fun _ i _ => (intOf i).toNat)
          case atStart => exact ⟨k0 + 1, none, 0, [], by omega, by go_num, rfl, by simp, by simp; omega, World.ownsRow_nil _ _ _ _, by simp, S6.out.more (by omega)⟩
          case round =>
            obtain ⟨k, A, q, hh, hk, rfl, rfl, hsl1, hsl, ho, hhs, st⟩ := hrel
            have St := Lib.hid st
            have Ho := Lib.hid ho
            have Hhs := Lib.hid hhs
            clear st ho hhs
            have hl1 : hh.length ≤ 1000 := by omega
            by_cases hpos : 0 < k
            · have hpi : (0 : Int) < k := by omega
              go_wp2_with (first | (go_at_call 125; refine (change_any _ C _ n St.out.cur (by omega) hn3 hn6).mono ?_; rintro e w' ⟨s, rfl, hsz', hc', hg'⟩; (have S' := Lib.hid (St.out.draw hc' hg')); (have Ho' := Lib.hid (own_ltC Ho.out hg' hCl)); (have hzz : w.heap.size ≤ w'.heap.size := S'.out.gb.size)) | (at_builtin; refine wpList_app _ rfl _ _ _ rfl w.heap.size 9 _ 1 16 Tryz.underlying24 info_str rfl (by omega) Ho'.out [.string s] rfl rfl rfl (one_mem rfl) (by omega) (by omega) hzz ?_; intro v4 w4 ho4 hb4 hg4 _; (obtain ⟨A4, q4, e4, _⟩ := sl_of_own ho4); subst e4; (have HO4 := Lib.hid ho4); (have S4' := Lib.hid (S'.out.other Ho'.out (Nat.le_refl _) hg4 (.inl rfl))); clear ho4 hb4 hg4))
              have HS4 := Lib.hid (S4'.out.more (show _ ≤ lim + 14 + 2 * (4 - (k - 1)) by omega))
              refine ⟨⟨k - 1, A4, q4, hh ++ [s], by omega, by rw [show ((k - 1 : Nat) : Int) = (k : Int) - 1 by omega], by rw [List.length_append]; rfl, by rw [List.length_append]; simp; omega, by rw [List.length_append]; simp; omega, ?_, ?_, HS4.out⟩, by simp [intOf]; omega⟩
              · rw [List.length_append, List.map_append]; exact HO4.out
              · intro x hx
                rcases List.mem_append.1 hx with hx | hx
                · exact Hhs.out x hx
                · rw [List.mem_singleton.1 hx]; exact hsz'
            · obtain rfl : k = 0 := by omega
              have hp0 : ¬ (0 : Int) < 0 := by omega
              have Hcp := Lib.hid (fun W (hv : Strs W (.slice A hh.length q) hh) => l1OwnS_any (.slice A hh.length q) hh W hv (nilok_own Ho.out) (by omega))
              go_wp2_with fail
              refine (Hcp.out _ (strs_of_own Ho.out)).mono ?_; rintro e w7 ⟨ov, rfl, hov, hb7⟩
              have hGl : G < wr.heap.size := (St.out.box.lt G rfl).2
              have hwl : w.heap.size ≤ wr.heap.size := St.out.gb.size
              have Hhl : Hid (∀ k, (Value.slice A hh.length q).ownBlock = some k → k < wr.heap.size) := Lib.hid (fun k hk => (Ho.out.lt k hk).2)
              have S7 := Lib.hid (St.out.to hb7)
              have Hov := Lib.hid hov
              have Hhf := Lib.hid (own_to Ho.out hb7)
              obtain ⟨Bz, hBz⟩ : ∃ B, B = wr.heap.size := ⟨_, rfl⟩
              rw [← hBz] at hGl hwl Hhl Hov
              have hz7 : Bz ≤ w7.heap.size := by rw [hBz]; exact hb7.size
              obtain ⟨Ao, qo, eo, _⟩ := sl_of_own hov
              subst eo
              clear hov hb7 hBz Hcp
              go_wp2_with (first | (go_at_call 125; refine (change_any _ C _ n S7.out.cur (by omega) hn3 hn6).mono ?_; rintro e w' ⟨s, rfl, hsz', hc', hg'⟩; (have S' := Lib.hid (S7.out.draw hc' hg')); (have Ho' := Lib.hid (own_ltC Hov.out hg' (by omega))); (have Hf' := Lib.hid (own_ltC Hhf.out hg' hCl)); (have hzz : Bz ≤ w'.heap.size := Nat.le_trans hz7 hg'.size)) | (at_builtin; refine wpList_app _ rfl _ _ _ rfl Bz 9 _ 1 16 Tryz.underlying24 info_str rfl (by omega) Ho'.out [.string s] rfl rfl rfl (one_mem rfl) (by omega) (by omega) hzz ?_; intro v4 w4 ho4 hb4 hg4 _; (obtain ⟨A4, q4, e4, _⟩ := sl_of_own ho4); subst e4; (have HO4 := Lib.hid ho4); (have S4' := Lib.hid (S'.out.other Ho'.out hwl hg4 (.inl rfl))); (have Hf4 := Lib.hid (own_lowX Hf'.out hb4 Hhl.out)); (obtain ⟨c9, f9⟩ := S'.out.keptBox2 Ho'.out hg4); (have hz4 : Bz ≤ w4.heap.size := Nat.le_trans hzz hg4.size); clear ho4 hb4 hg4))
              have hx4 : Hid (∀ x ∈ hh ++ [s], x.size ≤ 20) := Lib.hid (fun x hx => by
                rcases List.mem_append.1 hx with hx | hx
                · exact Hhs.out x hx
                · rw [List.mem_singleton.1 hx]; exact hsz')
              have hr4 : w4.ownsRow Bz 9 1 (.slice A4 (hh ++ [s]).length q4) (hh ++ [s]).length ((hh ++ [s]).map Value.string) := by rw [List.length_append, List.map_append]; exact HO4.out
              have T0 : SH2 w C w.heap.size G Bz nm n (.slice A4 (hh ++ [s]).length q4) (hh ++ [s]) (.slice A hh.length q) hh (lim + 30) (w4.setCell ⟨G, 2, none⟩ (.slice A4 (hh ++ [s]).length q4)) :=
                ⟨(S4'.out.setv (own_base hr4 hwl) hx4.out).more (by omega), hr4.kept (gb_set (gb_refl w4 G) 2 _) (by
                    cases hv : (Value.slice A4 (hh ++ [s]).length q4).ownBlock with
                    | none => exact .inl rfl
                    | some k => exact .inr (fun x => by injection x with x; have := (hr4.lt k hv).1; omega)),
                  Hf4.out.kept (gb_set (gb_refl w4 G) 2 _) ((own_kindsX Hf4.out S4'.out.box (by decide)).imp id (fun x y => x (by rw [y]; rfl))), Hhl.out, Hhs.out, hGl, hwl, (by simpa [World.setCell] using hz4)⟩
              have HT0 := Lib.hid T0
              have hxl4 : (hh ++ [s]).length = hh.length + 1 := by simp
              rw [hxl4] at HT0
              have hw8 : IntKind.i64.wrap ((hh.length : Int) - 1) = (hh.length : Int) - 1 := IntWalk.i64_in _ (by omega)
              obtain ⟨w8, hw8'⟩ : ∃ W, W = w4.setCell ⟨G, 2, none⟩ (.slice A4 (hh.length + 1) q4) := ⟨_, rfl⟩
              rw [← hw8'] at HT0
              rw [← hw8']
              clear T0 hr4 hxl4 HO4 S4' Hf4 Ho' Hf' S' S7 Hov Hhf c9 f9 hw8'
              have hh1 : 1 ≤ hh.length := by omega
              go_wp2_with fail
              go_loopw [8] (fun i wr => ∃ (j : Nat) (A2 : Option Addr) (q2 : Nat) (ss : List ByteArray), j ≤ hh.length ∧ i = .int .i64 ((j : Int) - 1) ∧ ss.length + j ≤ 20 ∧ SH2 w C w.heap.size G Bz nm n (.slice A2 ss.length q2) ss (.slice A hh.length q) hh (lim + 30) wr) (fun i _ => (intOf i + 1).toNat)
              case atStart => exact ⟨hh.length, A4, q4, hh ++ [s], by omega, rfl, by rw [List.length_append]; simp; omega, by rw [List.length_append]; exact HT0.out⟩
              case round =>
                obtain ⟨j, A0, q0, ss, hj, rfl, hsj, st⟩ := hrel
                have St2 := Lib.hid st
                clear st
                have hl1 : ss.length ≤ 1000 := by omega
                by_cases hjp : 0 < j
                · have hj0 : (0 : Int) ≤ (j : Int) - 1 := by omega
                  have hj1 : 1 ≤ (j : Int) := by omega
                  have hj4 : ((j : Int) - 1).toNat = j - 1 := by omega
                  have hj5 : (j : Int) - 1 < hh.length := by omega
                  have hjk : j - 1 < hh.length := by omega
                  have Sd := Lib.hid (St2.out.to (Below.drew (Below.refl wr.heap.size wr)))
                  obtain ⟨c0, c1, c2⟩ : (wr.drew).cell? ⟨G, 0, none⟩ = some (.string nm) ∧ (wr.drew).cell? ⟨G, 1, none⟩ = some (.int .i64 (n : Int)) ∧ (wr.drew).cell? ⟨G, 2, none⟩ = some (.slice A0 ss.length q0) := Sd.out.sd.facts.1
                  obtain ⟨gh, ehA, _, _⟩ := own_addr Sd.out.hf hh1
                  have hch : wr.drew.cell? ⟨gh, j - 1, none⟩ = some (.string (hh[j - 1]'hjk)) := by
                    have h9 := Sd.out.hf
                    rw [ehA] at h9
                    rw [h9.cellAt (j - 1) (by omega)]; simp [hjk]
                  have hsz' := Hhs.out _ (List.getElem_mem hjk)
                  obtain ⟨s2, hs2⟩ : ∃ x, x = hh[j - 1]'hjk := ⟨_, rfl⟩
                  rw [← hs2] at hch hsz'
                  have hwj : IntKind.i64.wrap ((j : Int) - 1 - 1) = (j : Int) - 1 - 1 := IntWalk.i64_in _ (by omega)
                  have Hbz := Lib.hid St2.out.bz
                  have c2b : (wr.alloc (.cells #[.string s2] 9)).cell? ⟨G, 2, none⟩ = some (.slice A0 ss.length q0) := (St2.out.to (bw_al (Below.refl wr.heap.size wr) (.cells #[.string s2] 9))).sd.facts.1.2.2
                  subst ehA
                  clear hs2
                  go_wp2_with fail
                  go_region_law ((refine step_app_sl _ (by rfl) _ _ _ (by rfl) Bz 9 _ 1 16 Tryz.underlying24 info_str (by rfl) (by omega) (own_to Sd.out.rw_ (bw_al (Below.refl _ _) _)) (by rfl) (sl_of_own (own_of_heap (base := 0) (n := 1) (size := 1) (heap_new wr.drew (.cells #[.string s2] 9)) (Nat.zero_le _) (by unfold maxLen; omega) rfl)) (nilok_own (own_of_heap (base := 0) (n := 1) (size := 1) (heap_new wr.drew (.cells #[.string s2] 9)) (Nat.zero_le _) (by unfold maxLen; omega) rfl)) (by rfl) (strs_one [s2]) (by omega) (by omega) (by have := Hbz.out; simp; omega) (ss.length + 1) rfl ?_; intro A2 q2 w2' hown2 hb2 hg2; (have T2 := Lib.hid ((Sd.out.to (bw_al (Below.refl wr.drew.heap.size wr.drew) (.cells #[.string s2] 9))).app (v' := .slice A2 (ss.length + 1) q2) (ss' := ss ++ [s2]) (by rw [List.length_append, List.map_append]; exact hown2) hb2 hg2 (fun x hx => by rcases List.mem_append.1 hx with hx | hx; exact Sd.out.sd.sm x hx; rw [List.mem_singleton.1 hx]; exact hsz'))); (obtain ⟨c9, f9⟩ := (Sd.out.sd.to (bw_al (Below.refl wr.drew.heap.size wr.drew) (.cells #[.string s2] 9))).keptBox hg2)))
                  all_goals
                    go_wp2_with fail
                    exact ⟨⟨j - 1, A2, q2, ss ++ [s2], by omega, by rw [show ((j - 1 : Nat) : Int) = (j : Int) - 1 by omega], by rw [List.length_append]; simp; omega, by rw [List.length_append]; exact T2.out⟩, by simp [intOf]; omega⟩
                · obtain rfl : j = 0 := by omega
                  have Sd := Lib.hid ((St2.out.sd).to (Below.drew (Below.refl wr.heap.size wr)))
                  obtain ⟨c0, c1, c2⟩ : (wr.drew).cell? ⟨G, 0, none⟩ = some (.string nm) ∧ (wr.drew).cell? ⟨G, 1, none⟩ = some (.int .i64 (n : Int)) ∧ (wr.drew).cell? ⟨G, 2, none⟩ = some (.slice A0 ss.length q0) := Sd.out.facts.1
                  go_wp2_with fail
                  go_region_law ((first | (refine step_callX (by rfl) ((change_any _ C _ n Sd.out.cur (by omega) hn3 hn6).mono ?_) ?_; rotate_left; (· go_simp); rintro e w' ⟨s, rfl, hsz', hc', hg'⟩; refine ⟨_, rfl, ?_⟩; (have S' := Lib.hid (Sd.out.draw hc' hg')); (have c2' : w'.cell? ⟨G, 2, none⟩ = some (.slice A0 ss.length q0) := S'.out.facts.1.2.2); (have c2a : (w'.alloc (.cells #[.string s] 9)).cell? ⟨G, 2, none⟩ = some (.slice A0 ss.length q0) := (S'.out.to (bw_al (Below.refl w'.heap.size w') (.cells #[.string s] 9))).facts.1.2.2)) | (refine step_app_sl _ (by rfl) _ _ _ (by rfl) w.heap.size 9 _ 1 16 Tryz.underlying24 info_str (by rfl) (by omega) (own_to S'.out.row (bw_al (Below.refl _ _) _)) (by rfl) (sl_of_own (own_of_heap (base := 0) (n := 1) (size := 1) (heap_new w' (.cells #[.string s] 9)) (Nat.zero_le _) (by unfold maxLen; omega) rfl)) (nilok_own (own_of_heap (base := 0) (n := 1) (size := 1) (heap_new w' (.cells #[.string s] 9)) (Nat.zero_le _) (by unfold maxLen; omega) rfl)) (by rfl) (strs_one [s]) (by omega) (by omega) (by have := S'.out.gb.size; simp; omega) (ss.length + 1) rfl ?_; intro A2 q2 w2' hown2 hb2 hg2; (have S2 := Lib.hid ((S'.out.to (bw_al (Below.refl w'.heap.size w') (.cells #[.string s] 9))).app (v' := .slice A2 (ss.length + 1) q2) (ss' := ss ++ [s]) (by rw [List.length_append, List.map_append]; exact hown2) hg2 (fun x hx => by rcases List.mem_append.1 hx with hx | hx; exact S'.out.sm x hx; rw [List.mem_singleton.1 hx]; exact hsz'))); (obtain ⟨c9, f9⟩ := (S'.out.to (bw_al (Below.refl w'.heap.size w') (.cells #[.string s] 9))).keptBox hg2))))
                  all_goals
                    have HS2 := Lib.hid (S2.out.more (show _ ≤ lim + 200 by omega))
                    go_wp2_with fail
                    go_meet
                    exact ⟨_, ss ++ [s], rfl, by rw [List.length_append]; simp; omega, HS2.out⟩
      · have hn1 := num_one (show n ≤ 8 by omega)
        have Hnum := Lib.hid (fun W => l1Num_any n W (by omega))
        obtain ⟨t, ht⟩ : ∃ t, t = numT (n : Int) := ⟨_, rfl⟩
        rw [← ht] at Hnum hn1
        clear ht
        have hz9 : ¬ 9223372036854775807 < (⟨#[49, 50]⟩ : ByteArray).size + t.size := by rw [hn1]; show ¬ _ < 2 + 1; omega
        have Hl9 : Hid ((⟨#[49, 50]⟩ ++ t : ByteArray).size ≤ 10) := Lib.hid (by rw [ByteArray.size_append, hn1]; show 2 + 1 ≤ 10; omega)
        have Hl8 : Hid ((⟨#[49, 50]⟩ : ByteArray).size ≤ 10) := Lib.hid (by show 2 ≤ 10; omega)
        by_cases hodd : (n : Int) % 2 = 1
        · go_wp2_with (go_at_call 63; refine (Hnum.out _).mono ?_; rintro e w5 ⟨rfl, hb5⟩)
          refine (l4Hunting_any n _ _ hn3 (by omega) Hl9.out).mono ?_; rintro e w6 ⟨A6, q6, X, rfl, ho6, hx1, hx2, hxs, hb6⟩
          have S6 := Lib.hid ((S4.out.to hb5).to hb6)
          have Ho6 := Lib.hid (own_base ho6 (S4.out.to hb5).gb.size)
          have Hxs := Lib.hid hxs
          have c2 := S6.out.facts.1.2.2
          have f2 := S6.out.facts.2.1.2.2
          have S7 := Lib.hid (S6.out.setv Ho6.out Hxs.out)
          clear ho6 hxs hb6
          go_wp2_with fail
          go_meet
          exact ⟨_, X, rfl, by omega, S7.out.more (by omega)⟩
        · go_wp2_with fail
          refine (l4Hunting_any n _ _ hn3 (by omega) Hl8.out).mono ?_; rintro e w6 ⟨A6, q6, X, rfl, ho6, hx1, hx2, hxs, hb6⟩
          have S6 := Lib.hid (S4.out.to hb6)
          have Ho6 := Lib.hid (own_base ho6 S4.out.gb.size)
          have Hxs := Lib.hid hxs
          have c2 := S6.out.facts.1.2.2
          have f2 := S6.out.facts.2.1.2.2
          have S7 := Lib.hid (S6.out.setv Ho6.out Hxs.out)
          clear ho6 hxs hb6
          go_wp2_with fail
          go_meet
          exact ⟨_, X, rfl, by omega, S7.out.more (by omega)⟩
    · have h4i : ¬ (4 : Int) ≤ n := by omega
      have h4d : decide ((4 : Int) ≤ n) = false := by simp; omega
      clear st hstc
      go_wp2_with fail
      refine (one_any w3 C _ 2 S0.out.cur (by omega) (by omega) (by omega)).mono ?_; rintro e w5 ⟨b2, rfl, hc5, hg5⟩
      have S5 := Lib.hid ((S0.out.draw hc5 hg5).more (show _ ≤ lim + 10 by omega))
      clear hc5 hg5
      cases b2
      · go_wp2_with fail
        refine (pick_any w5 C _ 8 S5.out.cur (by omega) (by omega) (by omega)).mono ?_; rintro e w6 ⟨b, rfl, hb, hc6, hg6⟩
        obtain ⟨k0, rfl⟩ : ∃ k : Nat, b = k := ⟨b.toNat, by omega⟩
        have hk0 : k0 < 8 := by omega
        have S6 := Lib.hid ((S5.out.draw hc6 hg6).more (show _ ≤ lim + 14 by omega))
        clear hc6 hg6 hb
        go_wp2_with fail
        go_loopw [9] (fun i wr => ∃ (k : Nat) (v : Value) (ss : List ByteArray), k ≤ 8 ∧ i = .int .i64 k ∧ ss.length + k ≤ 8 ∧ SD w C w.heap.size G nm n v ss (lim + 14 + 2 * (8 - k)) wr) (fun i _ => (intOf i).toNat)
        case atStart => exact ⟨k0 + 1, _, _, by omega, by go_num, by simp; omega, S6.out.more (by omega)⟩
        case round =>
          obtain ⟨k, v, ss, hk, rfl, hsl, st⟩ := hrel
          have St := Lib.hid st
          clear st
          by_cases hpos : 0 < k
          · obtain ⟨A0, q0, ev, _⟩ := sl_of_own St.out.row
            subst ev
            obtain ⟨⟨c0, c1, c2⟩, ⟨f0, f1, f2⟩, _, _⟩ := St.out.facts
            have hpi : (0 : Int) < k := by omega
            have Sd := Lib.hid (St.out.to (Below.drew (Below.refl wr.heap.size wr)))
            have hnn := nilok_own St.out.row
            have hl1 : ss.length ≤ 1000 := by omega
            obtain ⟨c0, c1, c2⟩ : (wr.drew).cell? ⟨G, 0, none⟩ = some (.string nm) ∧ (wr.drew).cell? ⟨G, 1, none⟩ = some (.int .i64 (n : Int)) ∧ (wr.drew).cell? ⟨G, 2, none⟩ = some (.slice A0 ss.length q0) := Sd.out.facts.1
            clear hnn
            go_wp2_with fail
            go_region_law ((first | (refine step_callX (by rfl) ((change_any _ C _ n Sd.out.cur (by omega) hn3 hn6).mono ?_) ?_; rotate_left; (· go_simp); rintro e w' ⟨s, rfl, hsz', hc', hg'⟩; refine ⟨_, rfl, ?_⟩; (have S' := Lib.hid (Sd.out.draw hc' hg')); (have c2' : w'.cell? ⟨G, 2, none⟩ = some (.slice A0 ss.length q0) := S'.out.facts.1.2.2); (have c2a : (w'.alloc (.cells #[.string s] 9)).cell? ⟨G, 2, none⟩ = some (.slice A0 ss.length q0) := (S'.out.to (bw_al (Below.refl w'.heap.size w') (.cells #[.string s] 9))).facts.1.2.2)) | (refine step_app_sl _ (by rfl) _ _ _ (by rfl) w.heap.size 9 _ 1 16 Tryz.underlying24 info_str (by rfl) (by omega) (own_to S'.out.row (bw_al (Below.refl _ _) _)) (by rfl) (sl_of_own (own_of_heap (base := 0) (n := 1) (size := 1) (heap_new w' (.cells #[.string s] 9)) (Nat.zero_le _) (by unfold maxLen; omega) rfl)) (nilok_own (own_of_heap (base := 0) (n := 1) (size := 1) (heap_new w' (.cells #[.string s] 9)) (Nat.zero_le _) (by unfold maxLen; omega) rfl)) (by rfl) (strs_one [s]) (by omega) (by omega) (by have := S'.out.gb.size; simp; omega) (ss.length + 1) rfl ?_; intro A2 q2 w2' hown2 hb2 hg2; (have S2 := Lib.hid ((S'.out.to (bw_al (Below.refl w'.heap.size w') (.cells #[.string s] 9))).app (v' := .slice A2 (ss.length + 1) q2) (ss' := ss ++ [s]) (by rw [List.length_append, List.map_append]; exact hown2) hg2 (fun x hx => by rcases List.mem_append.1 hx with hx | hx; exact S'.out.sm x hx; rw [List.mem_singleton.1 hx]; exact hsz'))); (obtain ⟨c9, f9⟩ := (S'.out.to (bw_al (Below.refl w'.heap.size w') (.cells #[.string s] 9))).keptBox hg2))))
            all_goals
              have HS2 := Lib.hid (S2.out.more (show _ ≤ lim + 14 + 2 * (8 - (k - 1)) by omega))
              go_wp2_with fail
              exact ⟨⟨k - 1, _, ss ++ [s], by omega, by rw [show ((k - 1 : Nat) : Int) = (k : Int) - 1 by omega], by rw [List.length_append]; simp; omega, HS2.out⟩, by simp [intOf]; omega⟩
          · obtain rfl : k = 0 := by omega
            have hp0 : ¬ (0 : Int) < 0 := by omega
            go_wp2_with fail
            go_meet
            exact ⟨v, ss, rfl, by omega, St.out.more (by omega)⟩
      · go_wp2_with fail
        refine (pick_any w5 C _ 4 S5.out.cur (by omega) (by omega) (by omega)).mono ?_; rintro e w6 ⟨b, rfl, hb, hc6, hg6⟩
        obtain ⟨k0, rfl⟩ : ∃ k : Nat, b = k := ⟨b.toNat, by omega⟩
        have hk0 : k0 < 4 := by omega
        have S6 := Lib.hid ((S5.out.draw hc6 hg6).more (show _ ≤ lim + 14 by omega))
        clear hc6 hg6 hb
        go_wp2_with fail
        go_loopw [6, 7] (fun o i wr => ∃ (k : Nat) (A : Option Addr) (q : Nat) (hh : List ByteArray), k ≤ 4 ∧ i = .int .i64 k ∧ o = .slice A hh.length q ∧ 1 ≤ hh.length + k ∧ hh.length + k ≤ 4 ∧ wr.ownsRow w.heap.size 9 1 (.slice A hh.length q) hh.length (hh.map Value.string) ∧ (∀ s ∈ hh, s.size ≤ 20) ∧ SD w C w.heap.size G nm n (.slice none 0 0) [] (lim + 14 + 2 * (4 - k)) wr) (fun _ i _ => (intOf i).toNat)
        case atStart => exact ⟨k0 + 1, none, 0, [], by omega, by go_num, rfl, by simp, by simp; omega, World.ownsRow_nil _ _ _ _, by simp, S6.out.more (by omega)⟩
        case round =>
          obtain ⟨k, A, q, hh, hk, rfl, rfl, hsl1, hsl, ho, hhs, st⟩ := hrel
          have St := Lib.hid st
          have Ho := Lib.hid ho
          have Hhs := Lib.hid hhs
          clear st ho hhs
          have hl1 : hh.length ≤ 1000 := by omega
          by_cases hpos : 0 < k
          · have hpi : (0 : Int) < k := by omega
            go_wp2_with (first | (go_at_call 125; refine (change_any _ C _ n St.out.cur (by omega) hn3 hn6).mono ?_; rintro e w' ⟨s, rfl, hsz', hc', hg'⟩; (have S' := Lib.hid (St.out.draw hc' hg')); (have Ho' := Lib.hid (own_ltC Ho.out hg' hCl)); (have hzz : w.heap.size ≤ w'.heap.size := S'.out.gb.size)) | (at_builtin; refine wpList_app _ rfl _ _ _ rfl w.heap.size 9 _ 1 16 Tryz.underlying24 info_str rfl (by omega) Ho'.out [.string s] rfl rfl rfl (one_mem rfl) (by omega) (by omega) hzz ?_; intro v4 w4 ho4 hb4 hg4 _; (obtain ⟨A4, q4, e4, _⟩ := sl_of_own ho4); subst e4; (have HO4 := Lib.hid ho4); (have S4' := Lib.hid (S'.out.other Ho'.out (Nat.le_refl _) hg4 (.inl rfl))); clear ho4 hb4 hg4))
            have HS4 := Lib.hid (S4'.out.more (show _ ≤ lim + 14 + 2 * (4 - (k - 1)) by omega))
            refine ⟨⟨k - 1, A4, q4, hh ++ [s], by omega, by rw [show ((k - 1 : Nat) : Int) = (k : Int) - 1 by omega], by rw [List.length_append]; rfl, by rw [List.length_append]; simp; omega, by rw [List.length_append]; simp; omega, ?_, ?_, HS4.out⟩, by simp [intOf]; omega⟩
            · rw [List.length_append, List.map_append]; exact HO4.out
            · intro x hx
              rcases List.mem_append.1 hx with hx | hx
              · exact Hhs.out x hx
              · rw [List.mem_singleton.1 hx]; exact hsz'
          · obtain rfl : k = 0 := by omega
            have hp0 : ¬ (0 : Int) < 0 := by omega
            have Hcp := Lib.hid (fun W (hv : Strs W (.slice A hh.length q) hh) => l1OwnS_any (.slice A hh.length q) hh W hv (nilok_own Ho.out) (by omega))
            go_wp2_with fail
            refine (Hcp.out _ (strs_of_own Ho.out)).mono ?_; rintro e w7 ⟨ov, rfl, hov, hb7⟩
            have hGl : G < wr.heap.size := (St.out.box.lt G rfl).2
            have hwl : w.heap.size ≤ wr.heap.size := St.out.gb.size
            have Hhl : Hid (∀ k, (Value.slice A hh.length q).ownBlock = some k → k < wr.heap.size) := Lib.hid (fun k hk => (Ho.out.lt k hk).2)
            have S7 := Lib.hid (St.out.to hb7)
            have Hov := Lib.hid hov
            have Hhf := Lib.hid (own_to Ho.out hb7)
            obtain ⟨Bz, hBz⟩ : ∃ B, B = wr.heap.size := ⟨_, rfl⟩
            rw [← hBz] at hGl hwl Hhl Hov
            have hz7 : Bz ≤ w7.heap.size := by rw [hBz]; exact hb7.size
            obtain ⟨Ao, qo, eo, _⟩ := sl_of_own hov
            subst eo
            clear hov hb7 hBz Hcp
            go_wp2_with (first | (go_at_call 125; refine (change_any _ C _ n S7.out.cur (by omega) hn3 hn6).mono ?_; rintro e w' ⟨s, rfl, hsz', hc', hg'⟩; (have S' := Lib.hid (S7.out.draw hc' hg')); (have Ho' := Lib.hid (own_ltC Hov.out hg' (by omega))); (have Hf' := Lib.hid (own_ltC Hhf.out hg' hCl)); (have hzz : Bz ≤ w'.heap.size := Nat.le_trans hz7 hg'.size)) | (at_builtin; refine wpList_app _ rfl _ _ _ rfl Bz 9 _ 1 16 Tryz.underlying24 info_str rfl (by omega) Ho'.out [.string s] rfl rfl rfl (one_mem rfl) (by omega) (by omega) hzz ?_; intro v4 w4 ho4 hb4 hg4 _; (obtain ⟨A4, q4, e4, _⟩ := sl_of_own ho4); subst e4; (have HO4 := Lib.hid ho4); (have S4' := Lib.hid (S'.out.other Ho'.out hwl hg4 (.inl rfl))); (have Hf4 := Lib.hid (own_lowX Hf'.out hb4 Hhl.out)); (obtain ⟨c9, f9⟩ := S'.out.keptBox2 Ho'.out hg4); (have hz4 : Bz ≤ w4.heap.size := Nat.le_trans hzz hg4.size); clear ho4 hb4 hg4))
            have hx4 : Hid (∀ x ∈ hh ++ [s], x.size ≤ 20) := Lib.hid (fun x hx => by
              rcases List.mem_append.1 hx with hx | hx
              · exact Hhs.out x hx
              · rw [List.mem_singleton.1 hx]; exact hsz')
            have hr4 : w4.ownsRow Bz 9 1 (.slice A4 (hh ++ [s]).length q4) (hh ++ [s]).length ((hh ++ [s]).map Value.string) := by rw [List.length_append, List.map_append]; exact HO4.out
            have T0 : SH2 w C w.heap.size G Bz nm n (.slice A4 (hh ++ [s]).length q4) (hh ++ [s]) (.slice A hh.length q) hh (lim + 30) (w4.setCell ⟨G, 2, none⟩ (.slice A4 (hh ++ [s]).length q4)) :=
              ⟨(S4'.out.setv (own_base hr4 hwl) hx4.out).more (by omega), hr4.kept (gb_set (gb_refl w4 G) 2 _) (by
                  cases hv : (Value.slice A4 (hh ++ [s]).length q4).ownBlock with
                  | none => exact .inl rfl
                  | some k => exact .inr (fun x => by injection x with x; have := (hr4.lt k hv).1; omega)),
                Hf4.out.kept (gb_set (gb_refl w4 G) 2 _) ((own_kindsX Hf4.out S4'.out.box (by decide)).imp id (fun x y => x (by rw [y]; rfl))), Hhl.out, Hhs.out, hGl, hwl, (by simpa [World.setCell] using hz4)⟩
            have HT0 := Lib.hid T0
            have hxl4 : (hh ++ [s]).length = hh.length + 1 := by simp
            rw [hxl4] at HT0
            have hw8 : IntKind.i64.wrap ((hh.length : Int) - 1) = (hh.length : Int) - 1 := IntWalk.i64_in _ (by omega)
            obtain ⟨w8, hw8'⟩ : ∃ W, W = w4.setCell ⟨G, 2, none⟩ (.slice A4 (hh.length + 1) q4) := ⟨_, rfl⟩
            rw [← hw8'] at HT0
            rw [← hw8']
            clear T0 hr4 hxl4 HO4 S4' Hf4 Ho' Hf' S' S7 Hov Hhf c9 f9 hw8'
            have hh1 : 1 ≤ hh.length := by omega
            go_wp2_with fail
            go_loopw [8] (fun i wr => ∃ (j : Nat) (A2 : Option Addr) (q2 : Nat) (ss : List ByteArray), j ≤ hh.length ∧ i = .int .i64 ((j : Int) - 1) ∧ ss.length + j ≤ 20 ∧ SH2 w C w.heap.size G Bz nm n (.slice A2 ss.length q2) ss (.slice A hh.length q) hh (lim + 30) wr) (fun i _ => (intOf i + 1).toNat)
            case atStart => exact ⟨hh.length, A4, q4, hh ++ [s], by omega, rfl, by rw [List.length_append]; simp; omega, by rw [List.length_append]; exact HT0.out⟩
            case round =>
              obtain ⟨j, A0, q0, ss, hj, rfl, hsj, st⟩ := hrel
              have St2 := Lib.hid st
              clear st
              have hl1 : ss.length ≤ 1000 := by omega
              by_cases hjp : 0 < j
              · have hj0 : (0 : Int) ≤ (j : Int) - 1 := by omega
                have hj1 : 1 ≤ (j : Int) := by omega
                have hj4 : ((j : Int) - 1).toNat = j - 1 := by omega
                have hj5 : (j : Int) - 1 < hh.length := by omega
                have hjk : j - 1 < hh.length := by omega
                have Sd := Lib.hid (St2.out.to (Below.drew (Below.refl wr.heap.size wr)))
                obtain ⟨c0, c1, c2⟩ : (wr.drew).cell? ⟨G, 0, none⟩ = some (.string nm) ∧ (wr.drew).cell? ⟨G, 1, none⟩ = some (.int .i64 (n : Int)) ∧ (wr.drew).cell? ⟨G, 2, none⟩ = some (.slice A0 ss.length q0) := Sd.out.sd.facts.1
                obtain ⟨gh, ehA, _, _⟩ := own_addr Sd.out.hf hh1
                have hch : wr.drew.cell? ⟨gh, j - 1, none⟩ = some (.string (hh[j - 1]'hjk)) := by
                  have h9 := Sd.out.hf
                  rw [ehA] at h9
                  rw [h9.cellAt (j - 1) (by omega)]; simp [hjk]
                have hsz' := Hhs.out _ (List.getElem_mem hjk)
                obtain ⟨s2, hs2⟩ : ∃ x, x = hh[j - 1]'hjk := ⟨_, rfl⟩
                rw [← hs2] at hch hsz'
                have hwj : IntKind.i64.wrap ((j : Int) - 1 - 1) = (j : Int) - 1 - 1 := IntWalk.i64_in _ (by omega)
                have Hbz := Lib.hid St2.out.bz
                have c2b : (wr.alloc (.cells #[.string s2] 9)).cell? ⟨G, 2, none⟩ = some (.slice A0 ss.length q0) := (St2.out.to (bw_al (Below.refl wr.heap.size wr) (.cells #[.string s2] 9))).sd.facts.1.2.2
                subst ehA
                clear hs2
                go_wp2_with fail
                go_region_law ((refine step_app_sl _ (by rfl) _ _ _ (by rfl) Bz 9 _ 1 16 Tryz.underlying24 info_str (by rfl) (by omega) (own_to Sd.out.rw_ (bw_al (Below.refl _ _) _)) (by rfl) (sl_of_own (own_of_heap (base := 0) (n := 1) (size := 1) (heap_new wr.drew (.cells #[.string s2] 9)) (Nat.zero_le _) (by unfold maxLen; omega) rfl)) (nilok_own (own_of_heap (base := 0) (n := 1) (size := 1) (heap_new wr.drew (.cells #[.string s2] 9)) (Nat.zero_le _) (by unfold maxLen; omega) rfl)) (by rfl) (strs_one [s2]) (by omega) (by omega) (by have := Hbz.out; simp; omega) (ss.length + 1) rfl ?_; intro A2 q2 w2' hown2 hb2 hg2; (have T2 := Lib.hid ((Sd.out.to (bw_al (Below.refl wr.drew.heap.size wr.drew) (.cells #[.string s2] 9))).app (v' := .slice A2 (ss.length + 1) q2) (ss' := ss ++ [s2]) (by rw [List.length_append, List.map_append]; exact hown2) hb2 hg2 (fun x hx => by rcases List.mem_append.1 hx with hx | hx; exact Sd.out.sd.sm x hx; rw [List.mem_singleton.1 hx]; exact hsz'))); (obtain ⟨c9, f9⟩ := (Sd.out.sd.to (bw_al (Below.refl wr.drew.heap.size wr.drew) (.cells #[.string s2] 9))).keptBox hg2)))
                all_goals
                  go_wp2_with fail
                  exact ⟨⟨j - 1, A2, q2, ss ++ [s2], by omega, by rw [show ((j - 1 : Nat) : Int) = (j : Int) - 1 by omega], by rw [List.length_append]; simp; omega, by rw [List.length_append]; exact T2.out⟩, by simp [intOf]; omega⟩
              · obtain rfl : j = 0 := by omega
                have Sd := Lib.hid ((St2.out.sd).to (Below.drew (Below.refl wr.heap.size wr)))
                obtain ⟨c0, c1, c2⟩ : (wr.drew).cell? ⟨G, 0, none⟩ = some (.string nm) ∧ (wr.drew).cell? ⟨G, 1, none⟩ = some (.int .i64 (n : Int)) ∧ (wr.drew).cell? ⟨G, 2, none⟩ = some (.slice A0 ss.length q0) := Sd.out.facts.1
                go_wp2_with fail
                go_region_law ((first | (refine step_callX (by rfl) ((change_any _ C _ n Sd.out.cur (by omega) hn3 hn6).mono ?_) ?_; rotate_left; (· go_simp); rintro e w' ⟨s, rfl, hsz', hc', hg'⟩; refine ⟨_, rfl, ?_⟩; (have S' := Lib.hid (Sd.out.draw hc' hg')); (have c2' : w'.cell? ⟨G, 2, none⟩ = some (.slice A0 ss.length q0) := S'.out.facts.1.2.2); (have c2a : (w'.alloc (.cells #[.string s] 9)).cell? ⟨G, 2, none⟩ = some (.slice A0 ss.length q0) := (S'.out.to (bw_al (Below.refl w'.heap.size w') (.cells #[.string s] 9))).facts.1.2.2)) | (refine step_app_sl _ (by rfl) _ _ _ (by rfl) w.heap.size 9 _ 1 16 Tryz.underlying24 info_str (by rfl) (by omega) (own_to S'.out.row (bw_al (Below.refl _ _) _)) (by rfl) (sl_of_own (own_of_heap (base := 0) (n := 1) (size := 1) (heap_new w' (.cells #[.string s] 9)) (Nat.zero_le _) (by unfold maxLen; omega) rfl)) (nilok_own (own_of_heap (base := 0) (n := 1) (size := 1) (heap_new w' (.cells #[.string s] 9)) (Nat.zero_le _) (by unfold maxLen; omega) rfl)) (by rfl) (strs_one [s]) (by omega) (by omega) (by have := S'.out.gb.size; simp; omega) (ss.length + 1) rfl ?_; intro A2 q2 w2' hown2 hb2 hg2; (have S2 := Lib.hid ((S'.out.to (bw_al (Below.refl w'.heap.size w') (.cells #[.string s] 9))).app (v' := .slice A2 (ss.length + 1) q2) (ss' := ss ++ [s]) (by rw [List.length_append, List.map_append]; exact hown2) hg2 (fun x hx => by rcases List.mem_append.1 hx with hx | hx; exact S'.out.sm x hx; rw [List.mem_singleton.1 hx]; exact hsz'))); (obtain ⟨c9, f9⟩ := (S'.out.to (bw_al (Below.refl w'.heap.size w') (.cells #[.string s] 9))).keptBox hg2))))
                all_goals
                  have HS2 := Lib.hid (S2.out.more (show _ ≤ lim + 200 by omega))
                  go_wp2_with fail
                  go_meet
                  exact ⟨_, ss ++ [s], rfl, by rw [List.length_append]; simp; omega, HS2.out⟩
  case rest =>
    obtain ⟨v, ss, rfl, hsl, st⟩ := hcut
    obtain ⟨A0, q0, ev, _⟩ := sl_of_own st.row
    subst ev
    obtain ⟨⟨c0, c1, c2⟩, _, ⟨x0, x1, x2, r0, r1, r2⟩, g0, g1, g2⟩ := st.facts
    have St := Lib.hid st
    have Hsl := Lib.hid hsl
    obtain ⟨w9, hw9⟩ : ∃ W, W = wc := ⟨_, rfl⟩
    clear st hsl
    go_wp2_with fail
    refine bodyPost_ret (v := .agg #[.string nm, .int .i64 (n : Int), .slice A0 ss.length q0]) (by (obtain ⟨e0, e1, e2⟩ := set3_cells wc w.heap.size (.string nm) (.int .i64 (n : Int)) (.slice A0 ss.length q0) x0 x1 x2 r0 r1 r2); simp [results, go_sem, e0, e1, e2]) rfl ?_
    exact ⟨⟨nm, n, ss⟩, .slice A0 ss.length q0, rfl, hz2, Hsl.out, St.out.sm, ⟨n, hn3, hn6, rfl⟩, own_set3 St.out nm n, ((St.out.cur.setC hCl 0 _).setC hCl 1 _).setC hCl 2 _, gb_newC (gb_newC (gb_newC St.out.gb (Nat.le_refl _) 0 _) (Nat.le_refl _) 1 _) (Nat.le_refl _) 2 _⟩
end Go.Proofs.YtofpjbdelmmclaaGreatDoor
