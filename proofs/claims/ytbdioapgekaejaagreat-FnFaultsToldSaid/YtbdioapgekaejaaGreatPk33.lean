/- A method with calls and a touch drawn. (Printed by a program: tools/mkXK.py.) -/
import Derived.Test.YtbdioapgekaejaaGreatPk32
import Derived.Test.YtbdioapgekaejaaGreatPk15
namespace Go.Proofs.YtbdioapgekaejaaGreat
open Go Go.RowKit
set_option linter.unusedVariables false
set_option linter.unusedSimpArgs false

/-- What a draw of a method with its calls and a touch leaves. -/
def DrewT (w : World) (C lim : Nat) (e : Ending) (w' : World) : Prop := ∃ (m : Mt) (v : Value) (k : Cl) (t : ByteArray), e = .returned (.tuple #[m.v v, k.v, .string t]) ∧ m.name.size ≤ 20 ∧ m.l.length ≤ 60 ∧ (∀ s ∈ m.l, s.size ≤ 20) ∧ StageM m ∧ (k.bob.size ≤ 20 ∧ k.single.size ≤ 20) ∧ t.size ≤ 60 ∧ w'.ownsRow w.heap.size 9 1 v m.l.length (m.l.map Value.string) ∧ Cur w' C lim ∧ w.grownBy w' (some C)
theorem HB.more {w : World} {C R K G D : Nat} {nm : ByteArray} {n : Int} {v : Value} {ss : List ByteArray} {b s : ByteArray} {lim lim' : Nat} {W : World} (h : HB w C R K G D nm n v ss b s lim W) (hl : lim ≤ lim') : HB w C R K G D nm n v ss b s lim' W := { h with hc := h.hc.more hl }
set_option maxRecDepth 100000 in
set_option maxHeartbeats 8000000 in
theorem touched_any (w : World) (C lim : Nat) (h : Cur w C lim) (hl : lim ≤ 8000000) : Calls Tryz.prog 29 #[.pointer (some ⟨C, 0, none⟩)] w (DrewT w C (lim + 250)) := by
  have H := Lib.hid h
  have hCl := h.lt
  clear h
  go_enter Tryz.func29, Tryz.ntmps29
  go_wp2_with fail
  refine box2 (C := fun W => Calls _ _ _ W _) ?_
  intro wb hw k0 k1 hB0
  have hbz : w.heap.size + 1 < wb.heap.size := (Array.getElem?_eq_some_iff.1 k1).1
  refine (hunted_any wb C lim (H.out.to hw) (by omega)).mono ?_; rintro e w1 ⟨m, v, k, rfl, hz, hl60, hsm, hst, ⟨hkb, hks⟩, ho, hc1, hg1⟩
  have H1 := Lib.hid (show FK w C w.heap.size (w.heap.size + 1) v m.l (lim + 220) w1 from
    ⟨hc1, gb_tr (gb_to (gb_refl w C) hw) hg1, ⟨_, own_ltC (own_of_heap (base := w.heap.size) (n := 1) (size := 3) k0 (Nat.le_refl _) (by unfold maxLen; omega) rfl) hg1 hCl⟩,
      ⟨_, own_ltC (own_of_heap (base := w.heap.size) (n := 1) (size := 2) k1 (Nat.le_succ _) (by unfold maxLen; omega) rfl) hg1 hCl⟩, own_base (base' := w.heap.size) ho (by omega), hCl⟩)
  have hz1 : w.heap.size + 1 < w1.heap.size := Nat.lt_of_lt_of_le hbz hg1.size
  have Hs := Lib.hid hsm
  have Hst := Lib.hid hst
  clear hc1 hg1 k0 k1 hw hB0 ho hsm hst H
  obtain ⟨nm, n, ss⟩ := m
  obtain ⟨kb, ks⟩ := k
  obtain ⟨A1, q1, ev, _⟩ := sl_of_own H1.out.row
  subst ev
  simp only at hz hl60 hkb hks
  have HP := Lib.hid (show nm.size ≤ 20 ∧ ss.length ≤ 60 ∧ kb.size ≤ 20 ∧ ks.size ≤ 20 from ⟨hz, hl60, hkb, hks⟩)
  unfold Mt.v Cl.v
  simp only
  obtain ⟨R, hR⟩ : ∃ R, R = w.heap.size := ⟨_, rfl⟩
  obtain ⟨K, hK⟩ : ∃ K, K = w.heap.size + 1 := ⟨_, rfl⟩
  have hRz : R < w1.heap.size := by omega
  have hKz : K < w1.heap.size := by omega
  rw [← hK, ← hR] at H1
  rw [← hK, ← hR]
  clear hR hK hz hl60 hkb hks
  go_upto_region 2 with fail
  refine box2 (C := fun W => Code.wp _ _ _ _ W) ?_
  intro w3 hw3 k3 k4 hB3
  have N3 := Lib.hid (show HB w C R K w1.heap.size (w1.heap.size + 1) nm n (.slice A1 ss.length q1) ss kb ks (lim + 220) w3 from ⟨⟨H1.out.to hw3, own_of_heap (n := 1) (size := 3) k3 (by omega) (by unfold maxLen; omega) rfl, by omega⟩, own_of_heap (n := 1) (size := 2) k4 (by omega) (by unfold maxLen; omega) rfl, by omega⟩)
  obtain ⟨G, hG⟩ : ∃ G, G = w1.heap.size := ⟨_, rfl⟩
  obtain ⟨D, hD⟩ : ∃ D, D = w1.heap.size + 1 := ⟨_, rfl⟩
  rw [← hD, ← hG] at N3
  rw [← hD, ← hG]
  clear k3 k4 hw3 hB3 hG hD H1
  have N3d := Lib.hid N3.out.drew
  have y3 : HB w C R K G D nm n (.slice A1 ss.length q1) ss kb ks (lim + 250) w3.drew := N3d.out.more (by omega)
  have hRK : R ≠ K := N3.out.hc.st.ne.1
  have hKR : K ≠ R := fun e => hRK e.symm
  obtain ⟨_, _, _, _, _, _, r0, r1, r2, p0, p1, f0, f1, f2, g0, g1⟩ := N3.out.all
  go_region_held3 (fun W => HB w C R K G D nm n (.slice A1 ss.length q1) ss kb ks (lim + 250) W ∧ W.cell? ⟨G, 0, none⟩ = some (.string nm) ∧ W.cell? ⟨G, 1, none⟩ = some (.int .i64 n) ∧ W.cell? ⟨G, 2, none⟩ = some (.slice A1 ss.length q1) ∧ W.cell? ⟨D, 0, none⟩ = some (.string kb) ∧ W.cell? ⟨D, 1, none⟩ = some (.string ks) ∧ W.cell? ⟨R, 0, none⟩ = some (oldC R 0 W) ∧ W.cell? ⟨R, 1, none⟩ = some (oldC R 1 W) ∧ W.cell? ⟨R, 2, none⟩ = some (oldC R 2 W) ∧ W.cell? ⟨K, 0, none⟩ = some (oldC K 0 W) ∧ W.cell? ⟨K, 1, none⟩ = some (oldC K 1 W) ∧ W.frozen? ⟨R, 0, none⟩ = false ∧ W.frozen? ⟨R, 1, none⟩ = false ∧ W.frozen? ⟨R, 2, none⟩ = false ∧ W.frozen? ⟨K, 0, none⟩ = false ∧ W.frozen? ⟨K, 1, none⟩ = false) (first | with_reducible assumption | with_reducible exact HB.all (by assumption) | with_reducible exact HB.allR (by assumption) | with_reducible exact HB.allK (by assumption) | with_reducible exact HB.allRd (by assumption) | with_reducible exact HB.allKd (by assumption)) (first | (go_at_call 64; refine (touchOf_any nm n ss kb ks (.slice A1 ss.length q1) _ w.heap.size C _ N3d.out.hc.st.cur (by omega) N3d.out.hc.st.row HP.out.1 HP.out.2.1 Hs.out ⟨HP.out.2.2.1, HP.out.2.2.2⟩).mono ?_; rintro e w4 ⟨t, rfl, hts, hc4, hg4⟩; (have N4 := Lib.hid (N3d.out.draw hc4 hg4)); (have y4 : HB w C R K G D nm n (.slice A1 ss.length q1) ss kb ks (lim + 250) w4 := N4.out); clear hc4 hg4))
  go_wp2_with fail
  obtain ⟨W', eW, F', ⟨e0, e1, e2⟩, d0, d1⟩ := N4.out.hc.st.fin (.string nm) (.int .i64 n) (.slice A1 ss.length q1) (.string kb) (.string ks)
  rw [← eW]
  refine bodyPost_ret (v := .tuple #[.agg #[.string nm, .int .i64 n, .slice A1 ss.length q1], .agg #[.string kb, .string ks], .string t]) (by simp [results, go_sem, e0, e1, e2, d0, d1]) rfl ?_
  exact ⟨⟨nm, n, ss⟩, .slice A1 ss.length q1, ⟨kb, ks⟩, t, rfl, HP.out.1, HP.out.2.1, Hs.out, Hst.out, ⟨HP.out.2.2.1, HP.out.2.2.2⟩, hts, F'.row, F'.cur, F'.gb⟩
end Go.Proofs.YtbdioapgekaejaaGreat

/- The drawers of a method with calls and a touch. -/
namespace Go.Proofs.YtbdioapgekaejaaGreat
open Go Go.RowKit
set_option linter.unusedVariables false
set_option linter.unusedSimpArgs false

def PostT (w : World) (e : Ending) (w' : World) : Prop := ∃ m v k t, e = .returned (.tuple #[m.v v, k.v, .string t]) ∧ PMK w w' m v k ∧ t.size ≤ 60
set_option maxRecDepth 100000 in
set_option maxHeartbeats 4000000 in
theorem drawMakeProof_any (V : Value) (w : World) (h : BytesAt w w.heap.size V) : Calls Tryz.prog 7 #[V] w (PostT w) := by
  have H := Lib.hid h
  obtain ⟨A0, n0, c0, zs0, rfl, _⟩ := h
  go_enter Tryz.func7, Tryz.ntmps7
  go_wp2_with fail
  refine box3 (C := fun W => Calls _ _ _ W _) ?_
  intro wb hw k0 k1 k2 hB0
  have C0 := Lib.hid (cur_box H.out hw (by omega) k2)
  have Hw := Lib.hid hw
  have K0 := Lib.hid (own_of_heap (base := w.heap.size) (n := 1) (size := 3) k0 (Nat.le_refl _) (by unfold maxLen; omega) rfl)
  have K1 := Lib.hid (own_of_heap (base := w.heap.size) (n := 1) (size := 2) k1 (by omega) (by unfold maxLen; omega) rfl)
  clear k0 k1 k2 hw
  refine (touched_any wb (w.heap.size + 2) 0 C0.out (by omega)).mono ?_; rintro e w1 ⟨m, v, k, t, rfl, hz, hl, hs, hst, ⟨hkb, hks⟩, ht, ho, hc, hg⟩
  have B1 := Lib.hid (gb_below Hw.out hg (by omega))
  have R0 := Lib.hid (own_noC K0.out C0.out (by decide) hg)
  have R1 := Lib.hid (own_noC K1.out C0.out (by decide) hg)
  have O1 := Lib.hid (own_base (base' := w.heap.size) ho Hw.out.size)
  have HP := Lib.hid (show PMK w w1 m v k from ⟨hz, hl, hs, hst, hkb, hks, O1.out, B1.out⟩)
  obtain ⟨A1, q1, ev, _⟩ := sl_of_own ho
  subst ev
  obtain ⟨nm, n, ss⟩ := m
  obtain ⟨kb, ks⟩ := k
  have r0 := (R0.out.cellAt 0 (by omega)).trans rfl
  have r1 := (R0.out.cellAt 1 (by omega)).trans rfl
  have r2 := (R0.out.cellAt 2 (by omega)).trans rfl
  have p0 := (R1.out.cellAt 0 (by omega)).trans rfl
  have p1 := (R1.out.cellAt 1 (by omega)).trans rfl
  have f0 := R0.out.frozenAt 0
  have f1 := R0.out.frozenAt 1
  have f2 := R0.out.frozenAt 2
  have g0 := R1.out.frozenAt 0
  have g1 := R1.out.frozenAt 1
  clear hz hl hs hst hkb hks ho hc hg K0 K1 C0 hB0
  unfold Mt.v Cl.v
  simp only
  go_wp2_with fail
  obtain ⟨W', eW, hb', ⟨e0, e1, e2⟩, ⟨d0, d1⟩, hro, hbo⟩ := five_fin (Below.refl w.heap.size w) B1.out R0.out R1.out (.string nm) (.int .i64 n) (.slice A1 ss.length q1) (.string kb) (.string ks)
  rw [← eW]
  refine bodyPost_ret (v := .tuple #[.agg #[.string nm, .int .i64 n, .slice A1 ss.length q1], .agg #[.string kb, .string ks], .string t]) (by simp [results, go_sem, e0, e1, e2, d0, d1]) rfl ?_
  exact ⟨⟨nm, n, ss⟩, .slice A1 ss.length q1, ⟨kb, ks⟩, t, rfl, { HP.out with row := hro _ _ _ _ _ _ HP.out.row (by decide) (by decide), bw := hb' }, ht⟩
set_option maxRecDepth 100000 in
set_option maxHeartbeats 4000000 in
theorem drawMakeFault_any (V : Value) (w : World) (h : BytesAt w w.heap.size V) : Calls Tryz.prog 23 #[V] w (PostT w) := by
  have H := Lib.hid h
  obtain ⟨A0, n0, c0, zs0, rfl, _⟩ := h
  go_enter Tryz.func23, Tryz.ntmps23
  go_wp2_with fail
  refine box2 (C := fun W => Calls _ _ _ W _) ?_
  intro wb hw k0 k1 hB0
  have K0 := Lib.hid (own_of_heap (base := w.heap.size) (n := 1) (size := 3) k0 (Nat.le_refl _) (by unfold maxLen; omega) rfl)
  have K1 := Lib.hid (own_of_heap (base := w.heap.size) (n := 1) (size := 2) k1 (by omega) (by unfold maxLen; omega) rfl)
  have Hw := Lib.hid hw
  have HV : BytesAt wb wb.heap.size (.slice A0 n0 c0) := (H.out.keep (fun p hp => hw.cell hp)).more hw.size
  clear hw k0 k1
  refine (drawMakeProof_any _ wb HV).mono ?_; rintro e w1 ⟨m, v, k, t, rfl, hP, ht⟩
  have HP := Lib.hid hP
  have R0 := Lib.hid (own_to K0.out hP.bw)
  have R1 := Lib.hid (own_to K1.out hP.bw)
  obtain ⟨A1, q1, ev, _⟩ := sl_of_own hP.row
  subst ev
  obtain ⟨nm, n, ss⟩ := m
  obtain ⟨kb, ks⟩ := k
  have r0 := (R0.out.cellAt 0 (by omega)).trans rfl
  have r1 := (R0.out.cellAt 1 (by omega)).trans rfl
  have r2 := (R0.out.cellAt 2 (by omega)).trans rfl
  have p0 := (R1.out.cellAt 0 (by omega)).trans rfl
  have p1 := (R1.out.cellAt 1 (by omega)).trans rfl
  have f0 := R0.out.frozenAt 0
  have f1 := R0.out.frozenAt 1
  have f2 := R0.out.frozenAt 2
  have g0 := R1.out.frozenAt 0
  have g1 := R1.out.frozenAt 1
  clear hP HV K0 K1
  unfold Mt.v Cl.v
  simp only
  go_wp2_with fail
  obtain ⟨W', eW, hb', ⟨e0, e1, e2⟩, ⟨d0, d1⟩, hro, hbo⟩ := five_fin Hw.out HP.out.bw R0.out R1.out (.string nm) (.int .i64 n) (.slice A1 ss.length q1) (.string kb) (.string ks)
  rw [← eW]
  refine bodyPost_ret (v := .tuple #[.agg #[.string nm, .int .i64 n, .slice A1 ss.length q1], .agg #[.string kb, .string ks], .string t]) (by simp [results, go_sem, e0, e1, e2, d0, d1]) rfl ?_
  exact ⟨⟨nm, n, ss⟩, .slice A1 ss.length q1, ⟨kb, ks⟩, t, rfl, { (HP.out.from_ Hw.out) with row := hro _ _ _ _ _ _ (HP.out.from_ Hw.out).row (by decide) (by decide), bw := hb' }, ht⟩
end Go.Proofs.YtbdioapgekaejaaGreat

/- Plain facts on the first pair of equal rows. -/
namespace Go.Proofs.YtbdioapgekaejaaGreat
open Go Go.RowKit
set_option linter.unusedVariables false
set_option linter.unusedSimpArgs false

/-- Rows i and k are equal, i ahead of k. -/
def isRep {α : Type} (l : List α) (i k : Nat) : Prop := i < k ∧ k < l.length ∧ l[i]? = l[k]?
/-- The first pair of equal rows. -/
structure FstRep {α : Type} (l : List α) (a b : Nat) : Prop where
  rep : isRep l a b
  near : ∀ k, isRep l a k → b ≤ k
  first : ∀ i k, isRep l i k → a ≤ i
theorem FstRep.uniq {α : Type} {l : List α} {a b c d : Nat} (h : FstRep l a b) (h2 : FstRep l c d) : a = c ∧ b = d := by
  have h1 := h.first _ _ h2.rep
  have h3 := h2.first _ _ h.rep
  obtain rfl : a = c := by omega
  have h4 := h.near _ h2.rep
  have h5 := h2.near _ h.rep
  exact ⟨rfl, by omega⟩
theorem noRep_nodup {α : Type} {l : List α} (h : ∀ i k, ¬ isRep l i k) : l.Nodup := by
  rw [List.Nodup, List.pairwise_iff_getElem]
  intro i j hi hj hij e
  exact h i j ⟨hij, hj, by rw [List.getElem?_eq_getElem hi, List.getElem?_eq_getElem hj, e]⟩
theorem nodup_noRep {α : Type} {l : List α} (h : l.Nodup) (i k : Nat) : ¬ isRep l i k := by
  rintro ⟨hik, hk, e⟩
  rw [List.Nodup, List.pairwise_iff_getElem] at h
  rw [List.getElem?_eq_getElem (by omega : i < l.length), List.getElem?_eq_getElem hk, Option.some.injEq] at e
  exact h i k (by omega) hk hik e
/-- The first pair, where there is one. -/
noncomputable def repO {α : Type} (l : List α) : Option (Nat × Nat) := by
  classical exact if h : ∃ p : Nat × Nat, FstRep l p.1 p.2 then some h.choose else none
theorem repO_some {α : Type} {l : List α} {a b : Nat} (h : FstRep l a b) : repO l = some (a, b) := by
  unfold repO
  have hex : ∃ p : Nat × Nat, FstRep l p.1 p.2 := ⟨(a, b), h⟩
  rw [dif_pos hex]
  obtain ⟨h1, h2⟩ := hex.choose_spec.uniq h
  rw [show hex.choose = (hex.choose.1, hex.choose.2) from rfl, h1, h2]
theorem repO_none {α : Type} {l : List α} (h : ∀ i k, ¬ isRep l i k) : repO l = none := by
  unfold repO
  rw [dif_neg]
  rintro ⟨p, hp⟩
  exact h _ _ hp.rep
theorem least_ex {p : Nat → Prop} (h : ∃ n, p n) : ∃ n, p n ∧ ∀ m, p m → n ≤ m := by
  obtain ⟨n, hn⟩ := h
  induction n using Nat.strongRecOn with
  | _ n ih =>
    by_cases hc : ∃ m, m < n ∧ p m
    · obtain ⟨m, hm, hp⟩ := hc
      exact ih m hm hp
    · exact ⟨n, hn, fun m hm => Nat.le_of_not_lt (fun hlt => hc ⟨m, hlt, hm⟩)⟩
theorem fst_ex {α : Type} {l : List α} (h : ∃ i k, isRep l i k) : ∃ a b, FstRep l a b := by
  obtain ⟨a, ⟨k, hk⟩, ha⟩ := least_ex h
  obtain ⟨b, hb, hl⟩ := least_ex ⟨k, hk⟩
  exact ⟨a, b, hb, hl, fun i k h => ha i ⟨k, h⟩⟩
theorem repO_isSome {α : Type} [DecidableEq α] (l : List α) : (repO l).isSome = !decide l.Nodup := by
  by_cases h : ∃ i k, isRep l i k
  · obtain ⟨a, b, hf⟩ := fst_ex h
    rw [repO_some hf]
    have : ¬ l.Nodup := fun hn => nodup_noRep hn _ _ hf.rep
    simp [this]
  · have h' : ∀ i k, ¬ isRep l i k := fun i k hik => h ⟨i, k, hik⟩
    rw [repO_none h', decide_eq_true (noRep_nodup h')]
    rfl
theorem repO_fst {α : Type} {l : List α} {a b : Nat} (h : repO l = some (a, b)) : FstRep l a b := by
  by_cases hc : ∃ i k, isRep l i k
  · obtain ⟨a', b', hf⟩ := fst_ex hc
    rw [repO_some hf] at h
    injection h with h; injection h with h1 h2
    subst h1; subst h2; exact hf
  · rw [repO_none (fun i k hik => hc ⟨i, k, hik⟩)] at h; cases h
/-- The next equal row behind row i; 0: none. -/
structure NextIs {α : Type} (l : List α) (i k : Nat) : Prop where
  zero : k = 0 → ∀ j, ¬ isRep l i j
  pos : 0 < k → isRep l i k ∧ ∀ j, isRep l i j → k ≤ j
/-- Which row behind i equals x first. -/
structure LaterIs {α : Type} (l : List α) (i : Nat) (f : α → Option Nat) : Prop where
  some' : ∀ x k, f x = some k → i < k ∧ k < l.length ∧ l[k]? = some x ∧ ∀ j, i < j → l[j]? = some x → k ≤ j
  none' : ∀ x, f x = none → ∀ j, i < j → l[j]? ≠ some x
theorem LaterIs.next {α : Type} {l : List α} {i : Nat} {f : α → Option Nat} (h : LaterIs l i f) {x : α} (hx : l[i]? = some x) : NextIs l i ((f x).getD 0) := by
  cases e : f x with
  | none => exact ⟨fun _ j ⟨h1, h2, h3⟩ => h.none' x e j h1 (h3.symm.trans hx), fun h0 => absurd h0 (by simp)⟩
  | some k =>
    obtain ⟨h1, h2, h3, h4⟩ := h.some' x k e
    exact ⟨fun h0 => by simp at h0; omega, fun _ => ⟨⟨h1, h2, hx.trans h3.symm⟩, fun j ⟨g1, g2, g3⟩ => h4 j g1 (g3.symm.trans hx)⟩⟩
theorem LaterIs.down {α : Type} [DecidableEq α] {l : List α} {i : Nat} {f : α → Option Nat} (h : LaterIs l (i + 1) f) {x : α} (hx : l[i + 1]? = some x) : LaterIs l i (fun y => if y = x then some (i + 1) else f y) := by
  have hl : i + 1 < l.length := (List.getElem?_eq_some_iff.1 hx).1
  constructor
  · intro y k e
    by_cases hc : y = x
    · subst hc
      simp at e
      subst e
      exact ⟨by omega, hl, hx, fun j hj _ => hj⟩
    · simp only [hc, if_false] at e
      obtain ⟨h1, h2, h3, h4⟩ := h.some' y k e
      refine ⟨by omega, h2, h3, fun j hj hy => ?_⟩
      by_cases hji : j = i + 1
      · subst hji; rw [hx] at hy; injection hy with hy; exact absurd hy.symm hc
      · exact h4 j (by omega) hy
  · intro y e j hj hy
    by_cases hc : y = x
    · simp [hc] at e
    · simp only [hc, if_false] at e
      by_cases hji : j = i + 1
      · subst hji; rw [hx] at hy; injection hy with hy; exact hc hy.symm
      · exact h.none' y e j (by omega) hy
theorem LaterIs.empty {α : Type} {l : List α} {i : Nat} (hi : l.length ≤ i + 1) : LaterIs l i (fun _ => none) :=
  ⟨fun x k e => (by cases e), fun x _ j hj e => by have := (List.getElem?_eq_some_iff.1 e).1; omega⟩
theorem fst_of_next {α : Type} {l : List α} {i k : Nat} (h : NextIs l i k) (hk : 0 < k) (hi : ∀ i', i' < i → ∀ j, ¬ isRep l i' j) : FstRep l i k :=
  ⟨(h.pos hk).1, (h.pos hk).2, fun i' k' hr => Nat.le_of_not_lt (fun hlt => hi i' hlt k' hr)⟩
end Go.Proofs.YtbdioapgekaejaaGreat
