/- The law on the parity of rings. -/
import Derived.Test.YtheppimoncokcaaGreatPk33
import Derived.Test.YtheppimoncokcaaGreatPk40
namespace Go.Proofs.YtheppimoncokcaaGreat
open Go Go.RowKit
set_option linter.unusedVariables false
set_option linter.unusedSimpArgs false

theorem bigB_any (A B : Option Addr) (n c k d : Nat) (w : World) (hn : n ≤ 9223372036854775807) (hk : k ≤ 9223372036854775807) : Calls Tryz.prog 7 #[.slice A n c, .slice B k d] w fun e w' => ∃ b, e = .returned (.bool b) ∧ w = w' := by
  go_enter Tryz.func7, Tryz.ntmps7
  by_cases h : n ≤ 1048576
  · have h1 : ¬ (1048576 : Int) < n := by omega
    have h2 : IntKind.i64.wrap (1048576 - (n : Int)) = 1048576 - (n : Int) := IntWalk.i64_in _ (by omega)
    by_cases h3 : 1048576 - (n : Int) < k
    · go_wp2_with fail
      go_ret
      simp [h3]
    · go_wp2_with fail
      go_ret
      simp [h3]
  · have h1 : (1048576 : Int) < n := by omega
    go_wp2_with fail
    go_ret
    first | exact ⟨_, rfl, rfl⟩ | exact ⟨_, rfl⟩ | exact rfl

end Go.Proofs.YtheppimoncokcaaGreat

/- More of what the laws on rings draw. (Printed by a program: tools/mkXG.py.) -/
namespace Go.Proofs.YtheppimoncokcaaGreat
open Go Go.RowKit
set_option linter.unusedVariables false
set_option linter.unusedSimpArgs false

def PostNext (w : World) (e : Ending) (w' : World) : Prop := ∃ m v k Vb bobs r, e = .returned (.tuple #[m.v v, k.v, Vb, .string r]) ∧ PMK w w' m v k ∧ BobV w' w.heap.size Vb bobs ∧ bobs.length ≤ 130 ∧ r.size ≤ 20
set_option maxRecDepth 100000 in
set_option maxHeartbeats 8000000 in
theorem drawNextHead_any (V : Value) (w : World) (h : BytesAt w w.heap.size V) : Calls Tryz.prog 8 #[V] w (PostNext w) := by
  have H := Lib.hid h
  obtain ⟨A0, n0, c0, zs0, rfl, _⟩ := h
  go_enter Tryz.func8, Tryz.ntmps8
  go_wp2_with fail
  refine box3 (C := fun W => Calls _ _ _ W _) ?_
  intro wb hw k0 k1 k2 hB0
  have C0 := Lib.hid (cur_box H.out hw (by omega) k2)
  have hCw : w.heap.size + 2 < wb.heap.size := (Array.getElem?_eq_some_iff.1 k2).1
  have Hw := Lib.hid hw
  have K0 := Lib.hid (own_of_heap (base := w.heap.size) (n := 1) (size := 3) k0 (Nat.le_refl _) (by unfold maxLen; omega) rfl)
  have K1 := Lib.hid (own_of_heap (base := w.heap.size) (n := 1) (size := 2) k1 (by omega) (by unfold maxLen; omega) rfl)
  clear k0 k1 k2 hw
  refine (hunted_any wb (w.heap.size + 2) 0 C0.out (by omega)).mono ?_; rintro e w1 ⟨m, v, k, rfl, hz, hl, hs, hst, ⟨hkb, hks⟩, ho, hc, hg⟩
  have C1 := Lib.hid hc
  have B1 := Lib.hid (gb_below Hw.out hg (by omega))
  have O1 := Lib.hid (own_base (base' := w.heap.size) ho (by omega))
  have J0 := Lib.hid (own_noC K0.out C0.out (by decide) hg)
  have J1 := Lib.hid (own_noC K1.out C0.out (by decide) hg)
  have Hs := Lib.hid hs
  have Hst := Lib.hid hst
  have hz1 : w.heap.size + 2 < w1.heap.size := Nat.lt_of_lt_of_le hCw hg.size
  clear ho hg hc hs hst K0 K1 C0 Hw hB0
  obtain ⟨nm, n, ss⟩ := m
  obtain ⟨kb, ks⟩ := k
  obtain ⟨A1, q1, ev, _⟩ := sl_of_own O1.out
  subst ev
  simp only at hz hl hkb hks
  have HP := Lib.hid (show nm.size ≤ 20 ∧ ss.length ≤ 60 ∧ kb.size ≤ 20 ∧ ks.size ≤ 20 from ⟨hz, hl, hkb, hks⟩)
  unfold Mt.v Cl.v
  simp only
  obtain ⟨R, hR⟩ : ∃ R, R = w.heap.size := ⟨_, rfl⟩
  obtain ⟨K, hK⟩ : ∃ K, K = w.heap.size + 1 := ⟨_, rfl⟩
  obtain ⟨C, hC⟩ : ∃ C, C = w.heap.size + 2 := ⟨_, rfl⟩
  rw [← hR] at J0
  rw [← hK] at J1
  rw [← hC] at C1
  rw [← hC, ← hK, ← hR]
  have hRz : R < w1.heap.size := by omega
  have hKz : K < w1.heap.size := by omega
  have hCz : w.heap.size ≤ C := by omega
  have hRC : R ≠ C := by omega
  have hRw : w.heap.size ≤ R := by omega
  clear hR hK hC hz hl hkb hks
  go_upto_region 3 with fail
  refine box2 (C := fun W => Code.wp _ _ _ _ W) ?_
  intro w3 hw3 k3 k4 hB3
  have hz3 : w1.heap.size + 1 < w3.heap.size := (Array.getElem?_eq_some_iff.1 k4).1
  have N3 := Lib.hid (show DN w R K w1.heap.size (w1.heap.size + 1) nm n (.slice A1 ss.length q1) ss kb ks w3 from ⟨bw_to B1.out hw3, ⟨_, own_base (base' := w.heap.size) (own_to J0.out hw3) hRw⟩, ⟨_, own_to J1.out hw3⟩, own_of_heap (n := 1) (size := 3) k3 (by omega) (by unfold maxLen; omega) rfl, own_of_heap (n := 1) (size := 2) k4 (by omega) (by unfold maxLen; omega) rfl, own_to O1.out hw3, by omega, by omega⟩)
  have C3 := Lib.hid (C1.out.to hw3)
  obtain ⟨G, hG⟩ : ∃ G, G = w1.heap.size := ⟨_, rfl⟩
  obtain ⟨D, hD⟩ : ∃ D, D = w1.heap.size + 1 := ⟨_, rfl⟩
  have hR3 : R < w3.heap.size := by omega
  have hK3 : K < w3.heap.size := by omega
  rw [← hD, ← hG] at N3
  rw [← hD, ← hG]
  clear k3 k4 hw3 hB3 hG hD C1 B1 O1 J0 J1
  have N3d := Lib.hid N3.out.drew
  have y3 : DN w R K G D nm n (.slice A1 ss.length q1) ss kb ks w3.drew := N3.out.drew
  have C3d := Lib.hid (C3.out.to (Below.drew (Below.refl w3.heap.size w3)))
  have M3 := Lib.hid (fun W (hN : DN w R K G D nm n (.slice A1 ss.length q1) ss kb ks W) => (show MethAt W ⟨nm, n, ss⟩ (.slice A1 ss.length q1) from ⟨strs_own_v rfl hN.row, by have := HP.out.1; unfold maxLen; show nm.size ≤ _; omega, fun s hs => by have := Hs.out s hs; unfold maxLen; omega⟩))
  have hms : MtSmall ⟨nm, n, ss⟩ := ⟨by have := HP.out.1; show nm.size ≤ _; omega, by have := HP.out.2.1; show ss.length ≤ _; omega, fun s hs => by have := Hs.out s hs; omega⟩
  have hks : ClSmall ⟨kb, ks⟩ := ⟨by have := HP.out.2.2.1; show kb.size ≤ _; omega, by have := HP.out.2.2.2; show ks.size ≤ _; omega⟩
  go_region_held3 (fun W => DN w R K G D nm n (.slice A1 ss.length q1) ss kb ks W ∧ W.cell? ⟨G, 0, none⟩ = some (.string nm) ∧ W.cell? ⟨G, 1, none⟩ = some (.int .i64 n) ∧ W.cell? ⟨G, 2, none⟩ = some (.slice A1 ss.length q1) ∧ W.cell? ⟨D, 0, none⟩ = some (.string kb) ∧ W.cell? ⟨D, 1, none⟩ = some (.string ks) ∧ W.cell? ⟨R, 0, none⟩ = some (oldC R 0 W) ∧ W.cell? ⟨R, 1, none⟩ = some (oldC R 1 W) ∧ W.cell? ⟨R, 2, none⟩ = some (oldC R 2 W) ∧ W.cell? ⟨K, 0, none⟩ = some (oldC K 0 W) ∧ W.cell? ⟨K, 1, none⟩ = some (oldC K 1 W) ∧ W.frozen? ⟨R, 0, none⟩ = false ∧ W.frozen? ⟨R, 1, none⟩ = false ∧ W.frozen? ⟨R, 2, none⟩ = false ∧ W.frozen? ⟨K, 0, none⟩ = false ∧ W.frozen? ⟨K, 1, none⟩ = false) (first | with_reducible assumption | with_reducible exact DN.all (by assumption) | with_reducible exact DN.allR (by assumption) | with_reducible exact DN.allK (by assumption)) (first | (go_at_call 47; refine (bobbed_any ⟨nm, n, ss⟩ (.slice A1 ss.length q1) ⟨kb, ks⟩ _ C _ C3d.out (by omega) (M3.out _ N3d.out) hms hks).mono ?_; rintro e w4 ⟨Vb, bobs, rfl, hB4, hbl4, hc4, hg4⟩; (have N4 := Lib.hid (N3d.out.draw hCz C3d.out hg4)); (have C4 := Lib.hid hc4); (have y4 : DN w R K G D nm n (.slice A1 ss.length q1) ss kb ks w4 := N4.out); (have Bo4 := Lib.hid hB4); (have hz4 : w3.heap.size ≤ w4.heap.size := hg4.size); clear hB4 hc4 hg4) | (go_at_call 48; refine (head_any ⟨nm, n, ss⟩ (.slice A1 ss.length q1) ⟨kb, ks⟩ _ C _ C4.out (by omega) (M3.out _ N4.out) hms hks).mono ?_; rintro e w5 ⟨r, rfl, hr5, hc5, hg5⟩; (have N5 := Lib.hid (N4.out.draw hCz C4.out hg5)); (have y5 : DN w R K G D nm n (.slice A1 ss.length q1) ss kb ks w5 := N5.out); (have Bo5 := Lib.hid (Bo4.out.draw hg5 C3.out.lt)); clear hc5 hg5))
  go_wp2_with fail
  obtain ⟨W', eW, F', ⟨e0, e1, e2⟩, ⟨d0, d1⟩, hbo⟩ := N5.out.fin (.string nm) (.int .i64 n) (.slice A1 ss.length q1) (.string kb) (.string ks)
  rw [← eW]
  refine bodyPost_ret (v := .tuple #[.agg #[.string nm, .int .i64 n, .slice A1 ss.length q1], .agg #[.string kb, .string ks], Vb, .string r]) (by simp [results, go_sem, e0, e1, e2, d0, d1]) rfl ?_
  exact ⟨⟨nm, n, ss⟩, .slice A1 ss.length q1, ⟨kb, ks⟩, Vb, bobs, r, rfl, ⟨HP.out.1, HP.out.2.1, Hs.out, Hst.out, HP.out.2.2.1, HP.out.2.2.2, F'.row, F'.bw⟩, (hbo _ _ _ Bo5.out (by have := N3d.out.bw.size; first | omega | (show R < w3.heap.size; omega)) (by first | omega | (show K < w3.heap.size; omega))).base (by have := N3d.out.bw.size; first | omega | exact this), hbl4, hr5⟩
set_option maxRecDepth 100000 in
set_option maxHeartbeats 4000000 in
theorem drawAddSet_any (V : Value) (w : World) (h : BytesAt w w.heap.size V) : Calls Tryz.prog 39 #[V] w (PostNext w) := by
  have H := Lib.hid h
  obtain ⟨A0, n0, c0, zs0, rfl, _⟩ := h
  go_enter Tryz.func39, Tryz.ntmps39
  go_wp2_with fail
  refine box2 (C := fun W => Calls _ _ _ W _) ?_
  intro wb hw k0 k1 hB0
  have K0 := Lib.hid (own_of_heap (base := w.heap.size) (n := 1) (size := 3) k0 (Nat.le_refl _) (by unfold maxLen; omega) rfl)
  have K1 := Lib.hid (own_of_heap (base := w.heap.size) (n := 1) (size := 2) k1 (by omega) (by unfold maxLen; omega) rfl)
  have hwz : w.heap.size + 1 < wb.heap.size := (Array.getElem?_eq_some_iff.1 k1).1
  have Hw := Lib.hid hw
  have HV : BytesAt wb wb.heap.size (.slice A0 n0 c0) := (H.out.keep (fun p hp => hw.cell hp)).more hw.size
  clear hw k0 k1
  refine (drawNextHead_any _ wb HV).mono ?_; rintro e w1 ⟨m, v, k, Vb, bobs, r, rfl, hP, hB, hbl, hr⟩
  have HP := Lib.hid hP
  have R0 := Lib.hid (own_to K0.out hP.bw)
  have R1 := Lib.hid (own_to K1.out hP.bw)
  obtain ⟨A1, q1, ev, _⟩ := sl_of_own hP.row
  subst ev
  obtain ⟨nm, n, ss⟩ := m
  obtain ⟨kb, ks⟩ := k
  have r0 := (R0.out.cellAt 0 (by omega)).trans rfl
  have r1 := (R0.out.cellAt 1 (by omega)).trans rfl
  have r2 := (R0.out.cellAt 2 (by omega)).trans rfl
  have p0 := (R1.out.cellAt 0 (by omega)).trans rfl
  have p1 := (R1.out.cellAt 1 (by omega)).trans rfl
  have f0 := R0.out.frozenAt 0
  have f1 := R0.out.frozenAt 1
  have f2 := R0.out.frozenAt 2
  have g0 := R1.out.frozenAt 0
  have g1 := R1.out.frozenAt 1
  have Bo := Lib.hid hB
  clear hB
  clear hP HV K0 K1
  unfold Mt.v Cl.v
  simp only
  go_wp2_with fail
  obtain ⟨W', eW, hb', ⟨e0, e1, e2⟩, ⟨d0, d1⟩, hro, hbo⟩ := five_fin Hw.out HP.out.bw R0.out R1.out (.string nm) (.int .i64 n) (.slice A1 ss.length q1) (.string kb) (.string ks)
  rw [← eW]
  refine bodyPost_ret (v := .tuple #[.agg #[.string nm, .int .i64 n, .slice A1 ss.length q1], .agg #[.string kb, .string ks], Vb, .string r]) (by simp [results, go_sem, e0, e1, e2, d0, d1]) rfl ?_
  exact ⟨⟨nm, n, ss⟩, .slice A1 ss.length q1, ⟨kb, ks⟩, Vb, bobs, r, rfl, { (HP.out.from_ Hw.out) with row := hro _ _ _ _ _ _ (HP.out.from_ Hw.out).row (by decide) (by decide), bw := hb' }, (hbo _ _ _ Bo.out).base Hw.out.size, hbl, hr⟩
set_option maxRecDepth 100000 in
set_option maxHeartbeats 4000000 in
theorem drawRingTouchOf_any (V : Value) (w : World) (h : BytesAt w w.heap.size V) : Calls Tryz.prog 31 #[V] w (PostNext w) := by
  have H := Lib.hid h
  obtain ⟨A0, n0, c0, zs0, rfl, _⟩ := h
  go_enter Tryz.func31, Tryz.ntmps31
  go_wp2_with fail
  refine box2 (C := fun W => Calls _ _ _ W _) ?_
  intro wb hw k0 k1 hB0
  have K0 := Lib.hid (own_of_heap (base := w.heap.size) (n := 1) (size := 3) k0 (Nat.le_refl _) (by unfold maxLen; omega) rfl)
  have K1 := Lib.hid (own_of_heap (base := w.heap.size) (n := 1) (size := 2) k1 (by omega) (by unfold maxLen; omega) rfl)
  have hwz : w.heap.size + 1 < wb.heap.size := (Array.getElem?_eq_some_iff.1 k1).1
  have Hw := Lib.hid hw
  have HV : BytesAt wb wb.heap.size (.slice A0 n0 c0) := (H.out.keep (fun p hp => hw.cell hp)).more hw.size
  clear hw k0 k1
  refine (drawNextHead_any _ wb HV).mono ?_; rintro e w1 ⟨m, v, k, Vb, bobs, r, rfl, hP, hB, hbl, hr⟩
  have HP := Lib.hid hP
  have R0 := Lib.hid (own_to K0.out hP.bw)
  have R1 := Lib.hid (own_to K1.out hP.bw)
  obtain ⟨A1, q1, ev, _⟩ := sl_of_own hP.row
  subst ev
  obtain ⟨nm, n, ss⟩ := m
  obtain ⟨kb, ks⟩ := k
  have r0 := (R0.out.cellAt 0 (by omega)).trans rfl
  have r1 := (R0.out.cellAt 1 (by omega)).trans rfl
  have r2 := (R0.out.cellAt 2 (by omega)).trans rfl
  have p0 := (R1.out.cellAt 0 (by omega)).trans rfl
  have p1 := (R1.out.cellAt 1 (by omega)).trans rfl
  have f0 := R0.out.frozenAt 0
  have f1 := R0.out.frozenAt 1
  have f2 := R0.out.frozenAt 2
  have g0 := R1.out.frozenAt 0
  have g1 := R1.out.frozenAt 1
  have Bo := Lib.hid hB
  clear hB
  clear hP HV K0 K1
  unfold Mt.v Cl.v
  simp only
  go_wp2_with fail
  obtain ⟨W', eW, hb', ⟨e0, e1, e2⟩, ⟨d0, d1⟩, hro, hbo⟩ := five_fin Hw.out HP.out.bw R0.out R1.out (.string nm) (.int .i64 n) (.slice A1 ss.length q1) (.string kb) (.string ks)
  rw [← eW]
  refine bodyPost_ret (v := .tuple #[.agg #[.string nm, .int .i64 n, .slice A1 ss.length q1], .agg #[.string kb, .string ks], Vb, .string r]) (by simp [results, go_sem, e0, e1, e2, d0, d1]) rfl ?_
  exact ⟨⟨nm, n, ss⟩, .slice A1 ss.length q1, ⟨kb, ks⟩, Vb, bobs, r, rfl, { (HP.out.from_ Hw.out) with row := hro _ _ _ _ _ _ (HP.out.from_ Hw.out).row (by decide) (by decide), bw := hb' }, (hbo _ _ _ Bo.out).base Hw.out.size, hbl, hr⟩
def PostSet (w : World) (e : Ending) (w' : World) : Prop := ∃ m v k r, e = .returned (.tuple #[m.v v, k.v, .string r]) ∧ PMK w w' m v k ∧ r.size ≤ 20
set_option maxRecDepth 100000 in
set_option maxHeartbeats 8000000 in
theorem drawSetOf_any (V : Value) (w : World) (h : BytesAt w w.heap.size V) : Calls Tryz.prog 22 #[V] w (PostSet w) := by
  have H := Lib.hid h
  obtain ⟨A0, n0, c0, zs0, rfl, _⟩ := h
  go_enter Tryz.func22, Tryz.ntmps22
  go_wp2_with fail
  refine box3 (C := fun W => Calls _ _ _ W _) ?_
  intro wb hw k0 k1 k2 hB0
  have C0 := Lib.hid (cur_box H.out hw (by omega) k2)
  have hCw : w.heap.size + 2 < wb.heap.size := (Array.getElem?_eq_some_iff.1 k2).1
  have Hw := Lib.hid hw
  have K0 := Lib.hid (own_of_heap (base := w.heap.size) (n := 1) (size := 3) k0 (Nat.le_refl _) (by unfold maxLen; omega) rfl)
  have K1 := Lib.hid (own_of_heap (base := w.heap.size) (n := 1) (size := 2) k1 (by omega) (by unfold maxLen; omega) rfl)
  clear k0 k1 k2 hw
  refine (hunted_any wb (w.heap.size + 2) 0 C0.out (by omega)).mono ?_; rintro e w1 ⟨m, v, k, rfl, hz, hl, hs, hst, ⟨hkb, hks⟩, ho, hc, hg⟩
  have C1 := Lib.hid hc
  have B1 := Lib.hid (gb_below Hw.out hg (by omega))
  have O1 := Lib.hid (own_base (base' := w.heap.size) ho (by omega))
  have J0 := Lib.hid (own_noC K0.out C0.out (by decide) hg)
  have J1 := Lib.hid (own_noC K1.out C0.out (by decide) hg)
  have Hs := Lib.hid hs
  have Hst := Lib.hid hst
  have hz1 : w.heap.size + 2 < w1.heap.size := Nat.lt_of_lt_of_le hCw hg.size
  clear ho hg hc hs hst K0 K1 C0 Hw hB0
  obtain ⟨nm, n, ss⟩ := m
  obtain ⟨kb, ks⟩ := k
  obtain ⟨A1, q1, ev, _⟩ := sl_of_own O1.out
  subst ev
  simp only at hz hl hkb hks
  have HP := Lib.hid (show nm.size ≤ 20 ∧ ss.length ≤ 60 ∧ kb.size ≤ 20 ∧ ks.size ≤ 20 from ⟨hz, hl, hkb, hks⟩)
  unfold Mt.v Cl.v
  simp only
  obtain ⟨R, hR⟩ : ∃ R, R = w.heap.size := ⟨_, rfl⟩
  obtain ⟨K, hK⟩ : ∃ K, K = w.heap.size + 1 := ⟨_, rfl⟩
  obtain ⟨C, hC⟩ : ∃ C, C = w.heap.size + 2 := ⟨_, rfl⟩
  rw [← hR] at J0
  rw [← hK] at J1
  rw [← hC] at C1
  rw [← hC, ← hK, ← hR]
  have hRz : R < w1.heap.size := by omega
  have hKz : K < w1.heap.size := by omega
  have hCz : w.heap.size ≤ C := by omega
  have hRC : R ≠ C := by omega
  have hRw : w.heap.size ≤ R := by omega
  clear hR hK hC hz hl hkb hks
  go_upto_region 3 with fail
  refine box2 (C := fun W => Code.wp _ _ _ _ W) ?_
  intro w3 hw3 k3 k4 hB3
  have hz3 : w1.heap.size + 1 < w3.heap.size := (Array.getElem?_eq_some_iff.1 k4).1
  have N3 := Lib.hid (show DN w R K w1.heap.size (w1.heap.size + 1) nm n (.slice A1 ss.length q1) ss kb ks w3 from ⟨bw_to B1.out hw3, ⟨_, own_base (base' := w.heap.size) (own_to J0.out hw3) hRw⟩, ⟨_, own_to J1.out hw3⟩, own_of_heap (n := 1) (size := 3) k3 (by omega) (by unfold maxLen; omega) rfl, own_of_heap (n := 1) (size := 2) k4 (by omega) (by unfold maxLen; omega) rfl, own_to O1.out hw3, by omega, by omega⟩)
  have C3 := Lib.hid (C1.out.to hw3)
  obtain ⟨G, hG⟩ : ∃ G, G = w1.heap.size := ⟨_, rfl⟩
  obtain ⟨D, hD⟩ : ∃ D, D = w1.heap.size + 1 := ⟨_, rfl⟩
  have hR3 : R < w3.heap.size := by omega
  have hK3 : K < w3.heap.size := by omega
  rw [← hD, ← hG] at N3
  rw [← hD, ← hG]
  clear k3 k4 hw3 hB3 hG hD C1 B1 O1 J0 J1
  have N3d := Lib.hid N3.out.drew
  have y3 : DN w R K G D nm n (.slice A1 ss.length q1) ss kb ks w3.drew := N3.out.drew
  have C3d := Lib.hid (C3.out.to (Below.drew (Below.refl w3.heap.size w3)))
  have M3 := Lib.hid (fun W (hN : DN w R K G D nm n (.slice A1 ss.length q1) ss kb ks W) => (show MethAt W ⟨nm, n, ss⟩ (.slice A1 ss.length q1) from ⟨strs_own_v rfl hN.row, by have := HP.out.1; unfold maxLen; show nm.size ≤ _; omega, fun s hs => by have := Hs.out s hs; unfold maxLen; omega⟩))
  have hms : MtSmall ⟨nm, n, ss⟩ := ⟨by have := HP.out.1; show nm.size ≤ _; omega, by have := HP.out.2.1; show ss.length ≤ _; omega, fun s hs => by have := Hs.out s hs; omega⟩
  have hks : ClSmall ⟨kb, ks⟩ := ⟨by have := HP.out.2.2.1; show kb.size ≤ _; omega, by have := HP.out.2.2.2; show ks.size ≤ _; omega⟩
  go_region_held3 (fun W => DN w R K G D nm n (.slice A1 ss.length q1) ss kb ks W ∧ W.cell? ⟨G, 0, none⟩ = some (.string nm) ∧ W.cell? ⟨G, 1, none⟩ = some (.int .i64 n) ∧ W.cell? ⟨G, 2, none⟩ = some (.slice A1 ss.length q1) ∧ W.cell? ⟨D, 0, none⟩ = some (.string kb) ∧ W.cell? ⟨D, 1, none⟩ = some (.string ks) ∧ W.cell? ⟨R, 0, none⟩ = some (oldC R 0 W) ∧ W.cell? ⟨R, 1, none⟩ = some (oldC R 1 W) ∧ W.cell? ⟨R, 2, none⟩ = some (oldC R 2 W) ∧ W.cell? ⟨K, 0, none⟩ = some (oldC K 0 W) ∧ W.cell? ⟨K, 1, none⟩ = some (oldC K 1 W) ∧ W.frozen? ⟨R, 0, none⟩ = false ∧ W.frozen? ⟨R, 1, none⟩ = false ∧ W.frozen? ⟨R, 2, none⟩ = false ∧ W.frozen? ⟨K, 0, none⟩ = false ∧ W.frozen? ⟨K, 1, none⟩ = false) (first | with_reducible assumption | with_reducible exact DN.all (by assumption) | with_reducible exact DN.allR (by assumption) | with_reducible exact DN.allK (by assumption)) (first | (go_at_call 48; refine (head_any ⟨nm, n, ss⟩ (.slice A1 ss.length q1) ⟨kb, ks⟩ _ C _ C3d.out (by omega) (M3.out _ N3d.out) hms hks).mono ?_; rintro e w5 ⟨r, rfl, hr5, hc5, hg5⟩; (have N5 := Lib.hid (N3d.out.draw hCz C3d.out hg5)); (have y5 : DN w R K G D nm n (.slice A1 ss.length q1) ss kb ks w5 := N5.out); clear hc5 hg5))
  go_wp2_with fail
  obtain ⟨W', eW, F', ⟨e0, e1, e2⟩, ⟨d0, d1⟩, hbo⟩ := N5.out.fin (.string nm) (.int .i64 n) (.slice A1 ss.length q1) (.string kb) (.string ks)
  rw [← eW]
  refine bodyPost_ret (v := .tuple #[.agg #[.string nm, .int .i64 n, .slice A1 ss.length q1], .agg #[.string kb, .string ks], .string r]) (by simp [results, go_sem, e0, e1, e2, d0, d1]) rfl ?_
  exact ⟨⟨nm, n, ss⟩, .slice A1 ss.length q1, ⟨kb, ks⟩, r, rfl, ⟨HP.out.1, HP.out.2.1, Hs.out, Hst.out, HP.out.2.2.1, HP.out.2.2.2, F'.row, F'.bw⟩, hr5⟩
end Go.Proofs.YtheppimoncokcaaGreat
