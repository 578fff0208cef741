/- Calls drawn for a method. -/
import Derived.Test.YtofpjbdelmmclaaGreatDoorPk16
import Derived.Test.YtofpjbdelmmclaaGreatDoorPk35
import Derived.Test.YtofpjbdelmmclaaGreatDoorPk28
import Derived.Test.YtofpjbdelmmclaaGreatDoorPk37
import Derived.Test.YtofpjbdelmmclaaGreatDoorPk12
namespace Go.Proofs.YtofpjbdelmmclaaGreatDoor
open Go Go.RowKit
set_option linter.unusedVariables false
set_option linter.unusedSimpArgs false

/-- Drawn calls in their box D, the result's block R. -/
structure CS (w : World) (C R D : Nat) (s1 s2 : ByteArray) (lim : Nat) (W : World) : Prop where
  cur : Cur W C lim
  gb : w.grownBy W (some C)
  rr : ∃ zs, W.ownsRow w.heap.size 51 2 (.slice (some ⟨R, 0, none⟩) 1 1) 1 zs
  dd : W.ownsRow w.heap.size 51 2 (.slice (some ⟨D, 0, none⟩) 1 1) 1 [.string s1, .string s2]
  ne : R ≠ D
  hC : C < w.heap.size
theorem CS.draw {w : World} {C R D : Nat} {s1 s2 : ByteArray} {lim : Nat} {lim' : Nat} {W W' : World} (h : CS w C R D s1 s2 lim W) (hc : Cur W' C lim') (hg : W.grownBy W' (some C)) : CS w C R D s1 s2 lim' W' :=
  ⟨hc, gb_tr h.gb hg, let ⟨zs, hz⟩ := h.rr; ⟨zs, own_ltC hz hg h.hC⟩, own_ltC h.dd hg h.hC, h.ne, h.hC⟩
theorem CS.more {w : World} {C R D : Nat} {s1 s2 : ByteArray} {lim : Nat} {lim' : Nat} {W : World} (h : CS w C R D s1 s2 lim W) (hl : lim ≤ lim') : CS w C R D s1 s2 lim' W := { h with cur := h.cur.more hl }
theorem CS.set {w : World} {C R D : Nat} {s1 s2 : ByteArray} {lim : Nat} {t1 t2 : ByteArray} {W : World} (h : CS w C R D s1 s2 lim W) (j : Nat) (u : Value) (he : [Value.string s1, .string s2].set j u = [.string t1, .string t2]) : CS w C R D t1 t2 lim (W.setCell ⟨D, j, none⟩ u) := by
  obtain ⟨zs, hz⟩ := h.rr
  have hD := (h.dd.lt D rfl).1
  have hC := h.hC
  refine ⟨h.cur.setC (by omega) j u, gb_newC h.gb hD j u, ⟨zs, own_ne1 hz h.ne j u⟩, ?_, h.ne, hC⟩
  have := own_set h.dd j u
  rw [he] at this
  exact this
theorem CS.cells {w : World} {C R D : Nat} {s1 s2 : ByteArray} {lim : Nat} {W : World} (h : CS w C R D s1 s2 lim W) : (W.cell? ⟨D, 0, none⟩ = some (.string s1) ∧ W.cell? ⟨D, 1, none⟩ = some (.string s2)) ∧ (W.cell? ⟨R, 0, none⟩ = some (oldC R 0 W) ∧ W.cell? ⟨R, 1, none⟩ = some (oldC R 1 W)) ∧ (∀ j, W.frozen? ⟨D, j, none⟩ = false) ∧ (∀ j, W.frozen? ⟨R, j, none⟩ = false) := by
  obtain ⟨zs, hz⟩ := h.rr
  have hl : zs.length = 2 := hz.1
  refine ⟨⟨(h.dd.cellAt 0 (by omega)).trans rfl, (h.dd.cellAt 1 (by omega)).trans rfl⟩, ⟨?_, ?_⟩, fun j => h.dd.frozenAt j, fun j => hz.frozenAt j⟩
  · exact oldC_of (x := zs[0]) (by rw [hz.cellAt 0 (by omega)]; simp [hl])
  · exact oldC_of (x := zs[1]) (by rw [hz.cellAt 1 (by omega)]; simp [hl])
theorem CS.fin {w : World} {C R D : Nat} {s1 s2 : ByteArray} {lim : Nat} {W : World} (h : CS w C R D s1 s2 lim W) (a0 a1 : Value) : ∃ W', W' = (W.setCell ⟨R, 0, none⟩ a0).setCell ⟨R, 1, none⟩ a1 ∧ (W'.cell? ⟨R, 0, none⟩ = some a0 ∧ W'.cell? ⟨R, 1, none⟩ = some a1) ∧ Cur W' C lim ∧ w.grownBy W' (some C) := by
  obtain ⟨zs, hz⟩ := h.rr
  have hR := (hz.lt R rfl).1
  have hC := h.hC
  have hl : zs.length = 2 := hz.1
  have z1 := own_set (own_set hz 0 a0) 1 a1
  refine ⟨_, rfl, ⟨?_, ?_⟩, (h.cur.setC (by omega) 0 a0).setC (by omega) 1 a1, gb_newC (gb_newC h.gb hR 0 a0) hR 1 a1⟩
  · rw [z1.cellAt 0 (by omega)]; simp [hl]
  · rw [z1.cellAt 1 (by omega)]; simp [hl]
/-- What a draw of calls leaves. -/
def DrewCl (w : World) (C lim : Nat) (e : Ending) (w' : World) : Prop := ∃ b s : ByteArray, e = .returned (.agg #[.string b, .string s]) ∧ b.size ≤ 20 ∧ s.size ≤ 20 ∧ Cur w' C lim ∧ w.grownBy w' (some C)
set_option maxRecDepth 100000 in
set_option maxHeartbeats 4000000 in
theorem drawCalls_any (nm : ByteArray) (n : Nat) (v : Value) (w : World) (C lim : Nat) (h : Cur w C lim) (hl : lim ≤ 1000000) (h3 : 3 ≤ n) (h6 : n ≤ 6) : Calls Tryz.prog 127 #[.pointer (some ⟨C, 0, none⟩), .agg #[.string nm, .int .i64 (n : Int), v]] w (DrewCl w C (lim + 10)) := by
  have H := Lib.hid h
  have hCl := h.lt
  clear h
  go_enter Tryz.func127, Tryz.ntmps127
  go_wp2_with fail
  refine box2 (C := fun W => Calls _ _ _ W _) ?_
  intro wb hw k0 k1 hB0
  have hbz : w.heap.size + 1 < wb.heap.size := (Array.getElem?_eq_some_iff.1 k1).1
  have K1 := Lib.hid (own_of_heap (base := w.heap.size) (n := 1) (size := 2) k1 (by omega) (by unfold maxLen; omega) rfl)
  have G0 := Lib.hid (gb_to (gb_refl w C) hw)
  clear k0 k1
  refine (change_any wb C lim n (H.out.to hw) (by omega) h3 h6).mono ?_; rintro e w1 ⟨s1, rfl, hs1, hc1, hg1⟩
  have C1 := Lib.hid hc1
  have G1 := Lib.hid (gb_tr G0.out hg1)
  have K1' := Lib.hid (own_ltC K1.out hg1 hCl)
  have hz1 : w.heap.size + 1 < w1.heap.size := Nat.lt_of_lt_of_le hbz hg1.size
  clear hc1 hg1 K1 G0 hw hB0
  go_wp2_with fail
  refine (change_any w1 C _ n C1.out (by omega) h3 h6).mono ?_; rintro e w2 ⟨s2, rfl, hs2, hc2, hg2⟩
  have C2 := Lib.hid hc2
  have G2 := Lib.hid (gb_tr G1.out hg2)
  have K2 := Lib.hid (own_ltC K1'.out hg2 hCl)
  have hz2 : w.heap.size + 1 < w2.heap.size := Nat.lt_of_lt_of_le hz1 hg2.size
  clear hc2 hg2 K1' G1 C1
  go_upto_region 3 with fail
  refine box1 (C := fun W => Code.wp _ _ _ _ W) ?_
  intro w3 hw3 k3 hB3
  have S3 := Lib.hid (show CS w C (w.heap.size + 1) w2.heap.size s1 s2 (lim + 2 + 2) w3 from ⟨C2.out.to hw3, gb_to G2.out hw3, ⟨_, own_to K2.out hw3⟩, own_of_heap (n := 1) (size := 2) k3 (by omega) (by unfold maxLen; omega) rfl, by omega, hCl⟩)
  obtain ⟨D, hD⟩ : ∃ X, X = w2.heap.size := ⟨_, rfl⟩
  obtain ⟨R, hR⟩ : ∃ X, X = w.heap.size + 1 := ⟨_, rfl⟩
  rw [← hD, ← hR] at S3
  rw [← hD, ← hR]
  have nRD : R ≠ D := by omega
  have nDR := nRD.symm
  clear hD hR k3 hw3 hB3 K2 G2 C2 hz1 hz2 hbz
  obtain rfl | rfl | rfl | rfl : n = 3 ∨ n = 4 ∨ n = 5 ∨ n = 6 := by omega
  · obtain ⟨⟨d0, d1⟩, ⟨r0, r1⟩, fd, fr⟩ := S3.out.cells
    go_wp2_with fail
    obtain ⟨W', eW, ⟨e0, e1⟩, hcf, hgf⟩ := S3.out.fin (.string s1) (.string s2)
    rw [← eW]
    refine bodyPost_ret (v := .agg #[.string s1, .string s2]) (by simp [results, go_sem, e0, e1]) rfl ?_
    exact ⟨_, _, rfl, hs1, hs2, hcf.more (by omega), hgf⟩
  · go_wp2_with fail
    refine (one_any w3 C _ 4 S3.out.cur (by omega) (by omega) (by omega)).mono ?_; rintro e w4 ⟨q, rfl, hc4, hg4⟩
    have S4 := Lib.hid (S3.out.draw hc4 hg4)
    clear hc4 hg4 S3
    obtain ⟨⟨d0, d1⟩, ⟨r0, r1⟩, fd, fr⟩ := S4.out.cells
    cases q
    · have S5 := (S4.out.set 0 (.string ⟨#[49, 52]⟩) (t1 := ⟨#[49, 52]⟩) (t2 := s2) rfl).set 1 (.string ⟨#[49, 50, 51, 52]⟩) (t1 := ⟨#[49, 52]⟩) (t2 := ⟨#[49, 50, 51, 52]⟩) rfl
      have S5 := Lib.hid S5
      go_upto_region 6 with fail
      refine abs_world (F := CS w C R D ⟨#[49, 52]⟩ ⟨#[49, 50, 51, 52]⟩ (lim + 2 + 2 + 2)) S5.out ?_
      intro w6 hS6
      have S6 := Lib.hid hS6
      clear hS6 S5 d0 d1 r0 r1 fd fr S4
      obtain ⟨⟨d0, d1⟩, ⟨r0, r1⟩, fd, fr⟩ := S6.out.cells
      have S7 := Lib.hid ((S6.out.set 1 (.string ⟨#[49, 50]⟩) (t1 := ⟨#[49, 52]⟩) (t2 := ⟨#[49, 50]⟩) rfl).set 0 (.string ⟨#[49, 52]⟩) (t1 := ⟨#[49, 52]⟩) (t2 := ⟨#[49, 50]⟩) rfl)
      go_wp2_with fail
      obtain ⟨W', eW, ⟨e0, e1⟩, hcf, hgf⟩ := S7.out.fin (.string ⟨#[49, 52]⟩) (.string ⟨#[49, 50]⟩)
      rw [← eW]
      refine bodyPost_ret (v := .agg #[.string ⟨#[49, 52]⟩, .string ⟨#[49, 50]⟩]) (by simp [results, go_sem, e0, e1]) rfl ?_
      exact ⟨_, _, rfl, by decide, by decide, hcf.more (by omega), hgf⟩
    · go_wp2_with fail
      obtain ⟨W', eW, ⟨e0, e1⟩, hcf, hgf⟩ := S4.out.fin (.string s1) (.string s2)
      rw [← eW]
      refine bodyPost_ret (v := .agg #[.string s1, .string s2]) (by simp [results, go_sem, e0, e1]) rfl ?_
      exact ⟨_, _, rfl, hs1, hs2, hcf.more (by omega), hgf⟩
  · go_wp2_with fail
    refine (one_any w3 C _ 4 S3.out.cur (by omega) (by omega) (by omega)).mono ?_; rintro e w4 ⟨q, rfl, hc4, hg4⟩
    have S4 := Lib.hid (S3.out.draw hc4 hg4)
    clear hc4 hg4 S3
    obtain ⟨⟨d0, d1⟩, ⟨r0, r1⟩, fd, fr⟩ := S4.out.cells
    cases q
    · have S5 := Lib.hid ((S4.out.set 0 (.string ⟨#[49, 52, 53]⟩) (t1 := ⟨#[49, 52, 53]⟩) (t2 := s2) rfl).set 1 (.string ⟨#[49, 50, 51]⟩) (t1 := ⟨#[49, 52, 53]⟩) (t2 := ⟨#[49, 50, 51]⟩) rfl)
      go_wp2_with fail
      obtain ⟨W', eW, ⟨e0, e1⟩, hcf, hgf⟩ := S5.out.fin (.string ⟨#[49, 52, 53]⟩) (.string ⟨#[49, 50, 51]⟩)
      rw [← eW]
      refine bodyPost_ret (v := .agg #[.string ⟨#[49, 52, 53]⟩, .string ⟨#[49, 50, 51]⟩]) (by simp [results, go_sem, e0, e1]) rfl ?_
      exact ⟨_, _, rfl, by decide, by decide, hcf.more (by omega), hgf⟩
    · go_wp2_with fail
      obtain ⟨W', eW, ⟨e0, e1⟩, hcf, hgf⟩ := S4.out.fin (.string s1) (.string s2)
      rw [← eW]
      refine bodyPost_ret (v := .agg #[.string s1, .string s2]) (by simp [results, go_sem, e0, e1]) rfl ?_
      exact ⟨_, _, rfl, hs1, hs2, hcf.more (by omega), hgf⟩
  · go_wp2_with fail
    refine (one_any w3 C _ 4 S3.out.cur (by omega) (by omega) (by omega)).mono ?_; rintro e w4 ⟨q, rfl, hc4, hg4⟩
    have S4 := Lib.hid (S3.out.draw hc4 hg4)
    clear hc4 hg4 S3
    obtain ⟨⟨d0, d1⟩, ⟨r0, r1⟩, fd, fr⟩ := S4.out.cells
    cases q
    · have S5 := Lib.hid ((S4.out.set 0 (.string ⟨#[49, 52]⟩) (t1 := ⟨#[49, 52]⟩) (t2 := s2) rfl).set 1 (.string ⟨#[49, 50, 51, 52]⟩) (t1 := ⟨#[49, 52]⟩) (t2 := ⟨#[49, 50, 51, 52]⟩) rfl)
      go_wp2_with fail
      obtain ⟨W', eW, ⟨e0, e1⟩, hcf, hgf⟩ := S5.out.fin (.string ⟨#[49, 52]⟩) (.string ⟨#[49, 50, 51, 52]⟩)
      rw [← eW]
      refine bodyPost_ret (v := .agg #[.string ⟨#[49, 52]⟩, .string ⟨#[49, 50, 51, 52]⟩]) (by simp [results, go_sem, e0, e1]) rfl ?_
      exact ⟨_, _, rfl, by decide, by decide, hcf.more (by omega), hgf⟩
    · go_wp2_with fail
      obtain ⟨W', eW, ⟨e0, e1⟩, hcf, hgf⟩ := S4.out.fin (.string s1) (.string s2)
      rw [← eW]
      refine bodyPost_ret (v := .agg #[.string s1, .string s2]) (by simp [results, go_sem, e0, e1]) rfl ?_
      exact ⟨_, _, rfl, hs1, hs2, hcf.more (by omega), hgf⟩
set_option maxRecDepth 100000 in
set_option maxHeartbeats 4000000 in
theorem drawAnyCalls_any (nm : ByteArray) (n : Int) (ss : List ByteArray) (v : Value) (w : World) (C lim : Nat) (h : Cur w C lim) (hl : lim ≤ 100000) (hM : MethAt w ⟨nm, n, ss⟩ v) (hms : MtSmall ⟨nm, n, ss⟩) (hn : (3 ≤ n ∧ n ≤ 6) ∨ n = 2 ∨ n = 9) : Calls Tryz.prog 93 #[.pointer (some ⟨C, 0, none⟩), .agg #[.string nm, .int .i64 n, v]] w (DrewCl w C (lim + 20)) := by
  have H := Lib.hid h
  have hCl := h.lt
  have HG := Lib.hid (fun W (hW : Below w.heap.size w W) => l4Good_any ⟨nm, n, ss⟩ v W (hM.to hW) hms)
  have hst : methB ⟨nm, n, ss⟩ = true → 3 ≤ n ∧ n ≤ 6 := fun hb => by
    have hb := hb
    unfold methB at hb
    rw [Bool.and_eq_true, Bool.and_eq_true, decide_eq_true_eq] at hb
    have := hb.2.1
    simp only at this
    omega
  obtain ⟨bm, hbm⟩ : ∃ b, b = methB ⟨nm, n, ss⟩ := ⟨_, rfl⟩
  rw [← hbm] at HG hst
  clear h hM hms hbm hn
  unfold Mt.v at HG
  go_enter Tryz.func93, Tryz.ntmps93
  go_wp2_with fail
  refine box2 (C := fun W => Calls _ _ _ W _) ?_
  intro wb hw k0 k1 hB0
  have hbz : w.heap.size + 1 < wb.heap.size := (Array.getElem?_eq_some_iff.1 k1).1
  have R0 := boxRule k0
  have K1 := Lib.hid (own_of_heap (base := w.heap.size) (n := 1) (size := 2) k1 (by omega) (by unfold maxLen; omega) rfl)
  have G0 := Lib.hid (gb_to (gb_refl w C) hw)
  have C0 := Lib.hid (H.out.to hw)
  clear k0 k1
  refine (HG.out _ hw).mono ?_; rintro e w1 ⟨rfl, hb1⟩
  have K2 := Lib.hid (own_to K1.out hb1)
  have G1 := Lib.hid (gb_to G0.out hb1)
  have C1 := Lib.hid (C0.out.to hb1)
  have a0 := R0 w1 0 hb1
  have a1 := R0 w1 1 hb1
  have a2 := R0 w1 2 hb1
  have hz1 : w.heap.size + 1 < w1.heap.size := Nat.lt_of_lt_of_le hbz hb1.size
  clear R0 K1 G0 C0 hw hb1 hB0 hbz HG
  obtain ⟨R, hR⟩ : ∃ X, X = w.heap.size + 1 := ⟨_, rfl⟩
  rw [← hR] at K2 ⊢
  have hRw : w.heap.size ≤ R := by omega
  cases bm
  · have r0 := (K2.out.cellAt 0 (by omega)).trans rfl
    have r1 := (K2.out.cellAt 1 (by omega)).trans rfl
    have f0 := K2.out.frozenAt 0
    have f1 := K2.out.frozenAt 1
    have z1 := Lib.hid (own_set (own_set K2.out 0 (.string ⟨#[49, 52]⟩)) 1 (.string ⟨#[49, 50, 51, 52]⟩))
    have hCR : C < R := by omega
    clear hR
    go_wp2_with fail
    refine bodyPost_ret (v := .agg #[.string ⟨#[49, 52]⟩, .string ⟨#[49, 50, 51, 52]⟩]) (by (have e0 := (z1.out.cellAt 0 (by omega)).trans rfl); (have e1 := (z1.out.cellAt 1 (by omega)).trans rfl); simp [results, go_sem, r0, r1]) rfl ?_
    exact ⟨_, _, rfl, by decide, by decide, ((C1.out.setC hCR 0 _).setC hCR 1 _).more (by omega), gb_newC (gb_newC G1.out hRw 0 _) hRw 1 _⟩
  · obtain ⟨hn3, hn6⟩ := hst rfl
    obtain ⟨n, rfl⟩ : ∃ k : Nat, n = k := ⟨n.toNat, by omega⟩
    go_wp2_with fail
    refine (drawCalls_any nm n v w1 C lim C1.out (by omega) (by omega) (by omega)).mono ?_; rintro e w2 ⟨s1, s2, rfl, hs1, hs2, hc2, hg2⟩
    have C2 := Lib.hid hc2
    have G2 := Lib.hid (gb_tr G1.out hg2)
    have K3 := Lib.hid (own_ltC K2.out hg2 hCl)
    have hz2 : w.heap.size + 1 < w2.heap.size := Nat.lt_of_lt_of_le hz1 hg2.size
    clear hc2 hg2 K2 G1 C1 a0 a1 a2
    go_upto_region 4 with fail
    refine box1 (C := fun W => Code.wp _ _ _ _ W) ?_
    intro w3 hw3 k3 hB3
    have S3 := Lib.hid (show CS w C R w2.heap.size s1 s2 (lim + 10) w3 from ⟨C2.out.to hw3, gb_to G2.out hw3, ⟨_, own_to K3.out hw3⟩, own_of_heap (n := 1) (size := 2) k3 (by omega) (by unfold maxLen; omega) rfl, by omega, hCl⟩)
    obtain ⟨D, hD⟩ : ∃ X, X = w2.heap.size := ⟨_, rfl⟩
    rw [← hD] at S3 ⊢
    try rw [← hR]
    have nRD : R ≠ D := by omega
    have nDR := nRD.symm
    clear hD hR k3 hw3 hB3 K3 G2 C2 hz1 hz2
    go_wp2_with fail
    refine (one_any w3 C _ 16 S3.out.cur (by omega) (by omega) (by omega)).mono ?_; rintro e w4 ⟨q, rfl, hc4, hg4⟩
    have S4 := Lib.hid (S3.out.draw hc4 hg4)
    clear hc4 hg4 S3
    cases q
    · obtain ⟨⟨d0, d1⟩, ⟨r0, r1⟩, fd, fr⟩ := S4.out.cells
      have f0 := fr 0
      have f1 := fr 1
      clear fd fr
      go_wp2_with fail
      obtain ⟨W', eW, ⟨e0, e1⟩, hcf, hgf⟩ := S4.out.fin (.string s1) (.string s2)
      rw [← eW]
      refine bodyPost_ret (v := .agg #[.string s1, .string s2]) (by simp [results, go_sem, e0, e1]) rfl ?_
      exact ⟨_, _, rfl, hs1, hs2, hcf.more (by omega), hgf⟩
    · go_wp2_with fail
      refine (of_at w4 C _ 5 _ [⟨#[]⟩, ⟨#[120]⟩, ⟨#[49]⟩, ⟨#[49, 51]⟩, ⟨#[57, 57]⟩] (by simp) S4.out.cur (by omega) rfl (by omega) (by omega)).mono ?_; rintro e w5 ⟨x, rfl, hx, hc5, hg5⟩
      have hx2 : x.size ≤ 20 := by simp at hx; rcases hx with rfl | rfl | rfl | rfl | rfl <;> decide
      have S5 := Lib.hid (S4.out.draw hc5 hg5)
      clear hc5 hg5 hx
      obtain ⟨⟨d0, d1⟩, ⟨r0, r1⟩, fd, fr⟩ := S5.out.cells
      have f0 := fr 0
      have f1 := fr 1
      have f2 := fd 0
      clear fd fr
      have S6 := Lib.hid (S5.out.set 0 (.string x) (t1 := x) (t2 := s2) rfl)
      go_wp2_with fail
      obtain ⟨W', eW, ⟨e0, e1⟩, hcf, hgf⟩ := S6.out.fin (.string x) (.string s2)
      rw [← eW]
      refine bodyPost_ret (v := .agg #[.string x, .string s2]) (by simp [results, go_sem, e0, e1]) rfl ?_
      exact ⟨_, _, rfl, hx2, hs2, hcf.more (by omega), hgf⟩
end Go.Proofs.YtofpjbdelmmclaaGreatDoor

/- A method with calls and a touch, drawn; what is asked of an item. -/
namespace Go.Proofs.YtofpjbdelmmclaaGreatDoor
open Go Go.RowKit
set_option linter.unusedVariables false
set_option linter.unusedSimpArgs false

theorem DN.alA2 {w : World} {R K G D : Nat} {nm : ByteArray} {n : Int} {v : Value} {ss : List ByteArray} {b s : ByteArray} {W : World} {o : Obj} (h : DN w R K G D nm n v ss b s W ∧ W.cell? ⟨G, 0, none⟩ = some (.string nm) ∧ W.cell? ⟨G, 1, none⟩ = some (.int .i64 n) ∧ W.cell? ⟨G, 2, none⟩ = some (v) ∧ W.cell? ⟨D, 0, none⟩ = some (.string b) ∧ W.cell? ⟨D, 1, none⟩ = some (.string s) ∧ W.cell? ⟨R, 0, none⟩ = some (oldC R 0 W) ∧ W.cell? ⟨R, 1, none⟩ = some (oldC R 1 W) ∧ W.cell? ⟨R, 2, none⟩ = some (oldC R 2 W) ∧ W.cell? ⟨K, 0, none⟩ = some (oldC K 0 W) ∧ W.cell? ⟨K, 1, none⟩ = some (oldC K 1 W) ∧ W.frozen? ⟨R, 0, none⟩ = false ∧ W.frozen? ⟨R, 1, none⟩ = false ∧ W.frozen? ⟨R, 2, none⟩ = false ∧ W.frozen? ⟨K, 0, none⟩ = false ∧ W.frozen? ⟨K, 1, none⟩ = false) : DN w R K G D nm n v ss b s (W.alloc o) ∧ (W.alloc o).cell? ⟨G, 0, none⟩ = some (.string nm) ∧ (W.alloc o).cell? ⟨G, 1, none⟩ = some (.int .i64 n) ∧ (W.alloc o).cell? ⟨G, 2, none⟩ = some (v) ∧ (W.alloc o).cell? ⟨D, 0, none⟩ = some (.string b) ∧ (W.alloc o).cell? ⟨D, 1, none⟩ = some (.string s) ∧ (W.alloc o).cell? ⟨R, 0, none⟩ = some (oldC R 0 (W.alloc o)) ∧ (W.alloc o).cell? ⟨R, 1, none⟩ = some (oldC R 1 (W.alloc o)) ∧ (W.alloc o).cell? ⟨R, 2, none⟩ = some (oldC R 2 (W.alloc o)) ∧ (W.alloc o).cell? ⟨K, 0, none⟩ = some (oldC K 0 (W.alloc o)) ∧ (W.alloc o).cell? ⟨K, 1, none⟩ = some (oldC K 1 (W.alloc o)) ∧ (W.alloc o).frozen? ⟨R, 0, none⟩ = false ∧ (W.alloc o).frozen? ⟨R, 1, none⟩ = false ∧ (W.alloc o).frozen? ⟨R, 2, none⟩ = false ∧ (W.alloc o).frozen? ⟨K, 0, none⟩ = false ∧ (W.alloc o).frozen? ⟨K, 1, none⟩ = false := (h.1.to (bw_al (Below.refl _ _) o)).all
theorem DN.alAd2 {w : World} {R K G D : Nat} {nm : ByteArray} {n : Int} {v : Value} {ss : List ByteArray} {b s : ByteArray} {W : World} {o : Obj} (h : DN w R K G D nm n v ss b s W.drew ∧ W.drew.cell? ⟨G, 0, none⟩ = some (.string nm) ∧ W.drew.cell? ⟨G, 1, none⟩ = some (.int .i64 n) ∧ W.drew.cell? ⟨G, 2, none⟩ = some (v) ∧ W.drew.cell? ⟨D, 0, none⟩ = some (.string b) ∧ W.drew.cell? ⟨D, 1, none⟩ = some (.string s) ∧ W.drew.cell? ⟨R, 0, none⟩ = some (oldC R 0 W.drew) ∧ W.drew.cell? ⟨R, 1, none⟩ = some (oldC R 1 W.drew) ∧ W.drew.cell? ⟨R, 2, none⟩ = some (oldC R 2 W.drew) ∧ W.drew.cell? ⟨K, 0, none⟩ = some (oldC K 0 W.drew) ∧ W.drew.cell? ⟨K, 1, none⟩ = some (oldC K 1 W.drew) ∧ W.drew.frozen? ⟨R, 0, none⟩ = false ∧ W.drew.frozen? ⟨R, 1, none⟩ = false ∧ W.drew.frozen? ⟨R, 2, none⟩ = false ∧ W.drew.frozen? ⟨K, 0, none⟩ = false ∧ W.drew.frozen? ⟨K, 1, none⟩ = false) : DN w R K G D nm n v ss b s (W.alloc o).drew ∧ (W.alloc o).drew.cell? ⟨G, 0, none⟩ = some (.string nm) ∧ (W.alloc o).drew.cell? ⟨G, 1, none⟩ = some (.int .i64 n) ∧ (W.alloc o).drew.cell? ⟨G, 2, none⟩ = some (v) ∧ (W.alloc o).drew.cell? ⟨D, 0, none⟩ = some (.string b) ∧ (W.alloc o).drew.cell? ⟨D, 1, none⟩ = some (.string s) ∧ (W.alloc o).drew.cell? ⟨R, 0, none⟩ = some (oldC R 0 (W.alloc o).drew) ∧ (W.alloc o).drew.cell? ⟨R, 1, none⟩ = some (oldC R 1 (W.alloc o).drew) ∧ (W.alloc o).drew.cell? ⟨R, 2, none⟩ = some (oldC R 2 (W.alloc o).drew) ∧ (W.alloc o).drew.cell? ⟨K, 0, none⟩ = some (oldC K 0 (W.alloc o).drew) ∧ (W.alloc o).drew.cell? ⟨K, 1, none⟩ = some (oldC K 1 (W.alloc o).drew) ∧ (W.alloc o).drew.frozen? ⟨R, 0, none⟩ = false ∧ (W.alloc o).drew.frozen? ⟨R, 1, none⟩ = false ∧ (W.alloc o).drew.frozen? ⟨R, 2, none⟩ = false ∧ (W.alloc o).drew.frozen? ⟨K, 0, none⟩ = false ∧ (W.alloc o).drew.frozen? ⟨K, 1, none⟩ = false := by
  have h2 : DN w R K G D nm n v ss b s (W.alloc o).drew := h.1.to (bw_al (Below.refl _ _) o)
  exact h2.all
/-- The rear part of some bytes. -/
theorem bytes_from {w : World} {B n c k : Nat} {A : Option Addr} (h : BytesAt w B (.slice A n c)) (hk : k ≤ n) : BytesAt w B (.slice (if c = k then A else Option.map (fun x => x.add k) A) (n - k) (c - k)) := by
  obtain ⟨A', n', c', zs, e, hl, hn, hc, hr, hz⟩ := h
  cases e
  have h2 := hr.cut (k := k) (cap := c) hk hn
  refine ⟨_, n - k, c - k, zs.drop k, rfl, by rw [List.length_drop, hl], by omega, by omega, ?_, fun z hz' => hz z (List.mem_of_mem_drop hz')⟩
  rw [Nat.mul_one] at h2
  rw [List.map_drop]
  exact h2
/-- What a draw of a method with calls and a touch leaves. -/
def PostTH (w : World) (e : Ending) (w' : World) : Prop := ∃ (m : Mt) (v : Value) (k : Cl) (t : ByteArray), e = .returned (.tuple #[m.v v, k.v, .string t]) ∧ m.name.size ≤ 20 ∧ m.l.length ≤ 61 ∧ (∀ s ∈ m.l, s.size ≤ 20) ∧ (k.bob.size ≤ 20 ∧ k.single.size ≤ 20) ∧ t.size ≤ 62 ∧ w'.ownsRow w.heap.size 9 1 v m.l.length (m.l.map Value.string) ∧ Below w.heap.size w w'
set_option maxRecDepth 100000 in
set_option maxHeartbeats 8000000 in
theorem drawTouchHeads_any (V : Value) (w : World) (h : BytesAt w w.heap.size V) : Calls Tryz.prog 64 #[V] w (PostTH w) := by
  have H := Lib.hid h
  obtain ⟨A0, n0, c0, zs0, rfl, _⟩ := h
  go_enter Tryz.func64, Tryz.ntmps64
  go_wp2_with fail
  refine box3 (C := fun W => Calls _ _ _ W _) ?_
  intro wb hw k0 k1 k2 hB0
  have C0 := Lib.hid (cur_box H.out hw (by omega) k2)
  have hCw : w.heap.size + 2 < wb.heap.size := (Array.getElem?_eq_some_iff.1 k2).1
  have Hw := Lib.hid hw
  have K0 := Lib.hid (own_of_heap (base := w.heap.size) (n := 1) (size := 3) k0 (Nat.le_refl _) (by unfold maxLen; omega) rfl)
  have K1 := Lib.hid (own_of_heap (base := w.heap.size) (n := 1) (size := 2) k1 (by omega) (by unfold maxLen; omega) rfl)
  clear k0 k1 k2 hw
  refine (anyMethod_any wb (w.heap.size + 2) 0 C0.out (by omega)).mono ?_; rintro e w1 ⟨m, v, rfl, hz, hl, hs, hst, ho, hc, hg⟩
  have C1 := Lib.hid hc
  have B1 := Lib.hid (gb_below Hw.out hg (by omega))
  have O1 := Lib.hid (own_base (base' := w.heap.size) ho (by omega))
  have J0 := Lib.hid (own_noC K0.out C0.out (by decide) hg)
  have J1 := Lib.hid (own_noC K1.out C0.out (by decide) hg)
  have Hs := Lib.hid hs
  have hz1 : w.heap.size + 2 < w1.heap.size := Nat.lt_of_lt_of_le hCw hg.size
  clear ho hg hc hs K0 K1 C0 Hw hB0
  obtain ⟨nm, n, ss⟩ := m
  obtain ⟨A1, q1, ev, _⟩ := sl_of_own O1.out
  subst ev
  simp only at hz hl hst
  have HM := Lib.hid (fun W (hN : W.ownsRow w.heap.size 9 1 (.slice A1 ss.length q1) ss.length (ss.map Value.string)) => (show MethAt W ⟨nm, n, ss⟩ (.slice A1 ss.length q1) from ⟨strs_own_v rfl hN, by unfold maxLen; show nm.size ≤ _; omega, fun s hs => by have := Hs.out s hs; unfold maxLen; omega⟩))
  have hms : MtSmall ⟨nm, n, ss⟩ := ⟨by show nm.size ≤ _; omega, by show ss.length ≤ _; omega, fun s hs => by have := Hs.out s hs; omega⟩
  unfold Mt.v
  simp only
  go_upto_region 3 with fail
  refine box1 (C := fun W => Code.wp _ _ _ _ W) ?_
  intro w2 hw2 k3 hB2
  have G2 := Lib.hid (own_of_heap (base := w.heap.size) (n := 1) (size := 3) k3 (by omega) (by unfold maxLen; omega) rfl)
  have O2 := Lib.hid (own_to O1.out hw2)
  have J02 := Lib.hid (own_to J0.out hw2)
  have J12 := Lib.hid (own_to J1.out hw2)
  have C2 := Lib.hid (C1.out.to hw2)
  have B2 := Lib.hid (bw_to B1.out hw2)
  have hz2 : w1.heap.size < w2.heap.size := (Array.getElem?_eq_some_iff.1 k3).1
  have a0 := (G2.out.cellAt 0 (by omega)).trans rfl
  have a1 := (G2.out.cellAt 1 (by omega)).trans rfl
  have a2 := (G2.out.cellAt 2 (by omega)).trans rfl
  clear k3 hw2 hB2 O1 J0 J1 C1 B1
  go_wp2_with fail
  refine (drawAnyCalls_any nm n ss (.slice A1 ss.length q1) w2 (w.heap.size + 2) _ C2.out (by omega) (HM.out _ O2.out) hms hst).mono ?_; rintro e w3 ⟨kb, ks, rfl, hkb, hks, hc3, hg3⟩
  have G3 := Lib.hid (own_noC G2.out C2.out (by decide) hg3)
  have O3 := Lib.hid (own_noC O2.out C2.out (by decide) hg3)
  have J03 := Lib.hid (own_noC J02.out C2.out (by decide) hg3)
  have J13 := Lib.hid (own_noC J12.out C2.out (by decide) hg3)
  have B3 := Lib.hid (gb_below B2.out hg3 (by omega))
  have C3 := Lib.hid hc3
  have hz3 : w2.heap.size ≤ w3.heap.size := hg3.size
  clear hc3 hg3 a0 a1 a2 G2 O2 J02 J12 B2 C2
  go_upto_region 4 with fail
  refine box1 (C := fun W => Code.wp _ _ _ _ W) ?_
  intro w4 hw4 k5 hB4
  have N4 := Lib.hid (show DN w w.heap.size (w.heap.size + 1) w1.heap.size w3.heap.size nm n (.slice A1 ss.length q1) ss kb ks w4 from ⟨bw_to B3.out hw4, ⟨_, own_to J03.out hw4⟩, ⟨_, own_to J13.out hw4⟩, own_to G3.out hw4, own_of_heap (n := 1) (size := 2) k5 (by omega) (by unfold maxLen; omega) rfl, own_to O3.out hw4, by omega, by omega⟩)
  have C4 := Lib.hid (C3.out.to hw4)
  have hz4 : w3.heap.size < w4.heap.size := (Array.getElem?_eq_some_iff.1 k5).1
  obtain ⟨R, hR⟩ : ∃ R, R = w.heap.size := ⟨_, rfl⟩
  obtain ⟨K, hK⟩ : ∃ K, K = w.heap.size + 1 := ⟨_, rfl⟩
  obtain ⟨C, hC⟩ : ∃ C, C = w.heap.size + 2 := ⟨_, rfl⟩
  obtain ⟨G, hG⟩ : ∃ G, G = w1.heap.size := ⟨_, rfl⟩
  obtain ⟨D, hD⟩ : ∃ D, D = w3.heap.size := ⟨_, rfl⟩
  rw [← hK, ← hG, ← hD] at N4
  have N4 := Lib.hid (show DN w R K G D nm n (.slice A1 ss.length q1) ss kb ks w4 from by rw [hR]; exact N4.out)
  rw [← hC] at C4
  rw [← hC, ← hK, ← hR, ← hG, ← hD]
  have hCz : w.heap.size ≤ C := by omega
  have nRK : R ≠ K := by omega
  have hRz : R < w4.heap.size := by omega
  have hKz : K < w4.heap.size := by omega
  clear hR hK hC hG hD k5 hw4 hB4 B3 J03 J13 O3 G3 C3 hz1 hz2 hz3 hz4 hCw
  have N4d := Lib.hid N4.out.drew
  have y4 : DN w R K G D nm n (.slice A1 ss.length q1) ss kb ks w4.drew := N4.out.drew
  have y4' : DN w R K G D nm n (.slice A1 ss.length q1) ss kb ks w4 := N4.out
  have C4d := Lib.hid (C4.out.to (Below.drew (Below.refl w4.heap.size w4)))
  go_region_held3 (fun W => DN w R K G D nm n (.slice A1 ss.length q1) ss kb ks W ∧ W.cell? ⟨G, 0, none⟩ = some (.string nm) ∧ W.cell? ⟨G, 1, none⟩ = some (.int .i64 n) ∧ W.cell? ⟨G, 2, none⟩ = some (.slice A1 ss.length q1) ∧ W.cell? ⟨D, 0, none⟩ = some (.string kb) ∧ W.cell? ⟨D, 1, none⟩ = some (.string ks) ∧ W.cell? ⟨R, 0, none⟩ = some (oldC R 0 W) ∧ W.cell? ⟨R, 1, none⟩ = some (oldC R 1 W) ∧ W.cell? ⟨R, 2, none⟩ = some (oldC R 2 W) ∧ W.cell? ⟨K, 0, none⟩ = some (oldC K 0 W) ∧ W.cell? ⟨K, 1, none⟩ = some (oldC K 1 W) ∧ W.frozen? ⟨R, 0, none⟩ = false ∧ W.frozen? ⟨R, 1, none⟩ = false ∧ W.frozen? ⟨R, 2, none⟩ = false ∧ W.frozen? ⟨K, 0, none⟩ = false ∧ W.frozen? ⟨K, 1, none⟩ = false) (first | with_reducible assumption | with_reducible exact DN.all (by assumption) | with_reducible exact DN.allR (by assumption) | with_reducible exact DN.allK (by assumption) | with_reducible exact DN.alA2 (by assumption) | with_reducible exact DN.alAd2 (by assumption)) (first | (go_at_call 94; refine (anyTouch_any w4.drew C _ C4d.out (by omega)).mono ?_; rintro e w5 ⟨t, rfl, htz, hc5, hg5⟩; (have N5 := Lib.hid (N4d.out.draw hCz C4d.out hg5)); (have y5 : DN w R K G D nm n (.slice A1 ss.length q1) ss kb ks w5 := N5.out); clear hc5 hg5))
  go_wp2_with fail
  obtain ⟨W', eW, F', ⟨e0, e1, e2⟩, ⟨d0, d1⟩, _⟩ := N5.out.fin (.string nm) (.int .i64 n) (.slice A1 ss.length q1) (.string kb) (.string ks)
  rw [← eW]
  refine bodyPost_ret (v := .tuple #[.agg #[.string nm, .int .i64 n, .slice A1 ss.length q1], .agg #[.string kb, .string ks], .string t]) (by simp [results, go_sem, e0, e1, e2, d0, d1]) rfl ?_
  exact ⟨⟨nm, n, ss⟩, .slice A1 ss.length q1, ⟨kb, ks⟩, t, rfl, hz, hl, Hs.out, ⟨hkb, hks⟩, htz, F'.row, F'.bw⟩
/-- What a draw of what is asked of an item leaves. -/
def PostIO (w : World) (e : Ending) (w' : World) : Prop := ∃ (m : Mt) (v : Value) (k : Cl) (t : ByteArray) (z : Int), e = .returned (.tuple #[m.v v, k.v, .string t, .int .i64 z]) ∧ m.name.size ≤ 20 ∧ m.l.length ≤ 61 ∧ (∀ s ∈ m.l, s.size ≤ 20) ∧ (k.bob.size ≤ 20 ∧ k.single.size ≤ 20) ∧ t.size ≤ 62 ∧ (-1 ≤ z ∧ z ≤ 101) ∧ w'.ownsRow w.heap.size 9 1 v m.l.length (m.l.map Value.string) ∧ Below w.heap.size w w'
set_option maxRecDepth 100000 in
set_option maxHeartbeats 8000000 in
theorem drawItemOf_any (V : Value) (w : World) (h : BytesAt w w.heap.size V) : Calls Tryz.prog 21 #[V] w (PostIO w) := by
  have H := Lib.hid h
  obtain ⟨A0, n0, c0, zs0, rfl, hzl, hnc, hcm, _⟩ := h
  unfold maxLen at hcm
  go_enter Tryz.func21, Tryz.ntmps21
  go_wp2_with fail
  refine box2 (C := fun W => Calls _ _ _ W _) ?_
  intro wb hw k0 k1 hB0
  have hCw : w.heap.size + 1 < wb.heap.size := (Array.getElem?_eq_some_iff.1 k1).1
  have Hw := Lib.hid hw
  have K0 := Lib.hid (own_of_heap (base := w.heap.size) (n := 1) (size := 3) k0 (Nat.le_refl _) (by unfold maxLen; omega) rfl)
  have K1 := Lib.hid (own_of_heap (base := w.heap.size) (n := 1) (size := 2) k1 (by omega) (by unfold maxLen; omega) rfl)
  have HV : BytesAt wb wb.heap.size (.slice A0 n0 c0) := (H.out.keep (fun p hp => hw.cell hp)).more hw.size
  clear k0 k1 hw
  refine (drawTouchHeads_any _ wb HV).mono ?_; rintro e w1 ⟨m, v, k, t, rfl, hz, hl, hs, ⟨hkb, hks⟩, ht, ho, hb1⟩
  have B1 := Lib.hid (bw_to Hw.out hb1)
  have O1 := Lib.hid (own_base (base' := w.heap.size) ho (by omega))
  have J0 := Lib.hid (own_to K0.out hb1)
  have J1 := Lib.hid (own_to K1.out hb1)
  have Hs := Lib.hid hs
  have hz1 : w.heap.size + 1 < w1.heap.size := Nat.lt_of_lt_of_le hCw hb1.size
  clear ho hs K0 K1 Hw hB0 hb1 HV
  obtain ⟨nm, n, ss⟩ := m
  obtain ⟨kb, ks⟩ := k
  obtain ⟨A1, q1, ev, _⟩ := sl_of_own O1.out
  subst ev
  simp only at hz hl hkb hks
  unfold Mt.v Cl.v
  simp only
  obtain ⟨hf, hhf⟩ : ∃ a : Nat, a = n0 / 2 := ⟨_, rfl⟩
  have hq1 : IntKind.i64.wrap ((n0 : Int) / 2) = (hf : Int) := (IntWalk.i64_in _ (by omega)).trans (by omega)
  have hq6 : (n0 : Int).tdiv 2 = (n0 : Int) / 2 := Int.tdiv_eq_ediv_of_nonneg (by omega)
  have hle : (hf : Int) ≤ (n0 : Int) := by omega
  go_upto_region 3 with fail
  have HB := bytes_from (k := n0 / 2) H.out (by omega)
  generalize (if c0 = n0 / 2 then A0 else Option.map (fun x => x.add (n0 / 2)) A0) = A9 at HB ⊢
  refine box3 (C := fun W => Code.wp _ _ _ _ W) ?_
  intro w4 hw4 k3 k4 k5 hB4
  have hz4 : w1.heap.size + 2 < w4.heap.size := (Array.getElem?_eq_some_iff.1 k5).1
  have hz41 : w1.heap.size + 1 < w4.heap.size := by omega
  have N4 := Lib.hid (show DN w w.heap.size (w.heap.size + 1) w1.heap.size (w1.heap.size + 1) nm n (.slice A1 ss.length q1) ss kb ks w4 from ⟨bw_to B1.out hw4, ⟨_, own_to J0.out hw4⟩, ⟨_, own_to J1.out hw4⟩, own_of_heap (n := 1) (size := 3) k3 (by omega) (by unfold maxLen; omega) rfl, own_of_heap (n := 1) (size := 2) k4 (by omega) (by unfold maxLen; omega) rfl, own_to O1.out hw4, by omega, by omega⟩)
  have C4 := Lib.hid (cur_box (C := w1.heap.size + 2) HB (bw_to B1.out hw4) (by omega) k5)
  obtain ⟨R, hR⟩ : ∃ R, R = w.heap.size := ⟨_, rfl⟩
  obtain ⟨K, hK⟩ : ∃ K, K = w.heap.size + 1 := ⟨_, rfl⟩
  obtain ⟨C, hC⟩ : ∃ C, C = w1.heap.size + 1 + 1 := ⟨_, rfl⟩
  have hC2 : C = w1.heap.size + 2 := hC
  obtain ⟨D, hD⟩ : ∃ D, D = w1.heap.size + 1 := ⟨_, rfl⟩
  obtain ⟨G, hG⟩ : ∃ G, G = w1.heap.size := ⟨_, rfl⟩
  rw [← hK, ← hD, ← hG] at N4
  have N4 := Lib.hid (show DN w R K G D nm n (.slice A1 ss.length q1) ss kb ks w4 from by rw [hR]; exact N4.out)
  rw [← hC2] at C4
  rw [← hC, ← hK, ← hR, ← hD, ← hG]
  have hCz : w.heap.size ≤ C := by omega
  have nRK : R ≠ K := by omega
  have hRz : R < w4.heap.size := by omega
  have hKz : K < w4.heap.size := by omega
  clear hR hK hC hC2 hG hD k3 k4 k5 hw4 hB4 B1 J0 J1 O1 hz1 hz4 hz41 hCw hq1 hq6 hle hhf
  have nKR := nRK.symm
  have N4d := Lib.hid N4.out.drew
  have y4 : DN w R K G D nm n (.slice A1 ss.length q1) ss kb ks w4.drew := N4.out.drew
  have y4' : DN w R K G D nm n (.slice A1 ss.length q1) ss kb ks w4 := N4.out
  have C4d := Lib.hid (C4.out.to (Below.drew (Below.refl w4.heap.size w4)))
  go_region_held3 (fun W => DN w R K G D nm n (.slice A1 ss.length q1) ss kb ks W ∧ W.cell? ⟨G, 0, none⟩ = some (.string nm) ∧ W.cell? ⟨G, 1, none⟩ = some (.int .i64 n) ∧ W.cell? ⟨G, 2, none⟩ = some (.slice A1 ss.length q1) ∧ W.cell? ⟨D, 0, none⟩ = some (.string kb) ∧ W.cell? ⟨D, 1, none⟩ = some (.string ks) ∧ W.cell? ⟨R, 0, none⟩ = some (oldC R 0 W) ∧ W.cell? ⟨R, 1, none⟩ = some (oldC R 1 W) ∧ W.cell? ⟨R, 2, none⟩ = some (oldC R 2 W) ∧ W.cell? ⟨K, 0, none⟩ = some (oldC K 0 W) ∧ W.cell? ⟨K, 1, none⟩ = some (oldC K 1 W) ∧ W.frozen? ⟨R, 0, none⟩ = false ∧ W.frozen? ⟨R, 1, none⟩ = false ∧ W.frozen? ⟨R, 2, none⟩ = false ∧ W.frozen? ⟨K, 0, none⟩ = false ∧ W.frozen? ⟨K, 1, none⟩ = false) (first | with_reducible assumption | with_reducible exact DN.all (by assumption) | with_reducible exact DN.allR (by assumption) | with_reducible exact DN.allK (by assumption) | with_reducible exact DN.alA2 (by assumption) | with_reducible exact DN.alAd2 (by assumption)) (first | (go_at_call 37; refine (among_at w4.drew C _ 5 _ [0, 5, 100, -1, 101] (by simp) C4d.out (by omega) rfl (by omega) (by omega)).mono ?_; rintro e w5 ⟨z, rfl, hzm, hc5, hg5⟩; (have hz9 : -1 ≤ z ∧ z ≤ 101 := (by simp at hzm; omega)); clear hzm; (have N5 := Lib.hid (N4d.out.draw hCz C4d.out hg5)); (have y5 : DN w R K G D nm n (.slice A1 ss.length q1) ss kb ks w5 := N5.out); clear hc5 hg5; (obtain ⟨_, s0, s1, s2, s3, s4, u0, u1, u2, u3, u4, t0, t1, t2, t3, t4⟩ := y5.all)))
  go_wp2_with fail
  obtain ⟨W', eW, F', ⟨e0, e1, e2⟩, ⟨d0, d1⟩, _⟩ := N5.out.fin (.string nm) (.int .i64 n) (.slice A1 ss.length q1) (.string kb) (.string ks)
  rw [← eW]
  refine bodyPost_ret (v := .tuple #[.agg #[.string nm, .int .i64 n, .slice A1 ss.length q1], .agg #[.string kb, .string ks], .string t, .int .i64 z]) (by simp [results, go_sem, e0, e1, e2, d0, d1]) rfl ?_
  exact ⟨⟨nm, n, ss⟩, .slice A1 ss.length q1, ⟨kb, ks⟩, t, z, rfl, hz, hl, Hs.out, ⟨hkb, hks⟩, ht, hz9, F'.row, F'.bw⟩
end Go.Proofs.YtofpjbdelmmclaaGreatDoor
