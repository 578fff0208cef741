/- Drawn items and evenings. (Printed by a program: tools/mkVA.py.) -/
import Derived.Test.YtofpjbdelmmclaaGreatDoorPk12
import Derived.Test.YtofpjbdelmmclaaGreatDoorPk15
import Derived.Test.YtofpjbdelmmclaaGreatDoorPk4
namespace Go.Proofs.YtofpjbdelmmclaaGreatDoor
open Go Go.RowKit
set_option linter.unusedVariables false
set_option linter.unusedSimpArgs false

theorem bx_new (w : World) (e : TypeId) (cs : Array Value) (n : Nat) (h : cs.size = n) : (w.alloc (.cells cs e)).ownsRow w.heap.size e n (.slice (some ⟨w.heap.size, 0, none⟩) 1 1) 1 cs.toList :=
  own_of_heap (heap_new w _) (Nat.le_refl _) (by unfold maxLen; omega) (by omega)
theorem bx_kept {w w' : World} {e : TypeId} {n g b C : Nat} {xs : List Value} (h : w.ownsRow b e n (.slice (some ⟨g, 0, none⟩) 1 1) 1 xs) (hg : w.grownBy w' (some C)) (hn : g ≠ C) : w'.ownsRow b e n (.slice (some ⟨g, 0, none⟩) 1 1) 1 xs :=
  h.kept hg (.inr (by simpa [Value.ownBlock] using hn))
theorem bx_cells {w : World} {e : TypeId} {g b : Nat} {xs : List Value} {x0 x1 x2 x3 : Value} (h : w.ownsRow b e 4 (.slice (some ⟨g, 0, none⟩) 1 1) 1 xs) (hx : xs = [x0, x1, x2, x3]) :
    (w.cell? ⟨g, 0, none⟩ = some x0 ∧ w.cell? ⟨g, 1, none⟩ = some x1 ∧ w.cell? ⟨g, 2, none⟩ = some x2 ∧ w.cell? ⟨g, 3, none⟩ = some x3) ∧ (∀ j, w.frozen? ⟨g, j, none⟩ = false) := by
  subst hx
  exact ⟨⟨(h.cellAt 0 (by omega)).trans rfl, (h.cellAt 1 (by omega)).trans rfl, (h.cellAt 2 (by omega)).trans rfl, (h.cellAt 3 (by omega)).trans rfl⟩, fun j => h.frozenAt j⟩
/-- What a draw of an item leaves. -/
def DrewIt (w : World) (C lim : Nat) (e : Ending) (w' : World) : Prop := ∃ x : It, e = .returned (.agg #[.string x.name, .int .i64 x.stage, .int .i64 x.rows, .int .i64 x.worth]) ∧ x.name.size ≤ 11 ∧ Cur w' C lim ∧ w.grownBy w' (some C)
/-- What a draw of an evening leaves. -/
def DrewEv (w : World) (C lim : Nat) (e : Ending) (w' : World) : Prop := ∃ a b c d : Int, e = .returned (.agg #[.int .i64 a, .int .i64 b, .int .i64 c, .int .i64 d]) ∧ Cur w' C lim ∧ w.grownBy w' (some C)
set_option maxRecDepth 20000 in
set_option maxHeartbeats 4000000 in
theorem drawItem_any (w : World) (C lim : Nat) (h : Cur w C lim) (hl : lim ≤ 10000000) : Calls Tryz.prog 69 #[.pointer (some ⟨C, 0, none⟩)] w (DrewIt w C (lim + 20)) := by
  have H := Lib.hid h
  have hCl := h.lt
  clear h
  go_enter Tryz.func69, Tryz.ntmps69
  go_wp2_with fail
  refine (of_at _ C lim 4 _ [⟨#[112, 108, 97, 105, 110]⟩, ⟨#[98, 111, 98]⟩, ⟨#[97]⟩, ⟨#[122, 122]⟩] (by simp) (H.out.al _) (by omega) rfl (by omega) (by omega)).mono ?_; rintro e w1 ⟨s1, rfl, hv1, hc1, hg1⟩
  have hz1 : s1.size ≤ 11 := by simp at hv1; rcases hv1 with rfl | rfl | rfl | rfl <;> decide
  have R1 := Lib.hid (bx_kept (bx_new w 55 #[.string ⟨#[]⟩, .int .i64 0, .int .i64 0, .int .i64 0] 4 rfl) hg1 (by omega))
  have C1 := Lib.hid hc1
  have G1 := Lib.hid (gb_tr (gb_al (gb_refl w C) _) hg1)
  clear hc1 hg1 hv1
  go_wp2_with fail
  refine (stage_any w1 C _ (C1.out) (by omega)).mono ?_; rintro e w2 ⟨i2, rfl, hv2, hc2, hg2⟩
  have R2 := Lib.hid (bx_kept R1.out hg2 (by omega))
  have C2 := Lib.hid hc2
  have G2 := Lib.hid (gb_tr G1.out hg2)
  clear hc2 hg2 hv2
  go_wp2_with fail
  refine (among_at w2 C _ 7 _ [1, 40, 100, 120, 360, 720, 800] (by simp) (C2.out) (by omega) rfl (by omega) (by omega)).mono ?_; rintro e w3 ⟨i3, rfl, hv3, hc3, hg3⟩
  have R3 := Lib.hid (bx_kept R2.out hg3 (by omega))
  have C3 := Lib.hid hc3
  have G3 := Lib.hid (gb_tr G2.out hg3)
  clear hc3 hg3 hv3
  go_wp2_with fail
  refine (among_at w3 C _ 6 _ [0, 1, 5, 5, 30, 100] (by simp) (C3.out) (by omega) rfl (by omega) (by omega)).mono ?_; rintro e w4 ⟨i4, rfl, hv4, hc4, hg4⟩
  have R4 := Lib.hid (bx_kept R3.out hg4 (by omega))
  have C4 := Lib.hid hc4
  have G4 := Lib.hid (gb_tr G3.out hg4)
  clear hc4 hg4 hv4
  go_wp2_with fail
  have hw5 : w.heap.size < w4.heap.size := by have := (R4.out.lt _ rfl).2; exact this
  have hC5 : C < w4.heap.size := C4.out.lt
  refine (pick_any _ C _ 40 (C4.out.al _) (by omega) (by omega) (by omega)).mono ?_; rintro e w6 ⟨b, rfl, hb, hc6, hg6⟩
  have R6 := Lib.hid (bx_kept (own_to R4.out ((Below.refl _ _).alloc (Nat.le_refl _) _)) hg6 (by omega))
  have B6 := Lib.hid (bx_kept (bx_new w4 55 #[.string s1, .int .i64 i2, .int .i64 i3, .int .i64 i4] 4 rfl) hg6 (by omega))
  have C6 := Lib.hid hc6
  have G6 := Lib.hid (gb_tr (gb_al G4.out _) hg6)
  obtain ⟨b0, b1⟩ := hb
  clear hc6 hg6
  obtain ⟨B, hB⟩ : ∃ B, B = w4.heap.size := ⟨_, rfl⟩
  obtain ⟨R, hR⟩ : ∃ R, R = w.heap.size := ⟨_, rfl⟩
  have hw5' := hw5
  rw [← hB] at hw5'
  rw [← hB, ← hR] at hw5
  rw [← hB] at B6 hC5 ⊢
  rw [← hR] at R6 hCl ⊢
  have HRw : Hid (w.heap.size ≤ R ∧ w.heap.size ≤ B) := Lib.hid (by omega)
  have hne : R ≠ B := by omega
  have hne' : B ≠ R := by omega
  clear hB hR hw5' R4 R3 R2 R1
  by_cases hb0 : b = 0
  · subst hb0
    go_wp2_with fail
    refine (of_at w6 C _ 2 _ [⟨#[]⟩, ⟨#[65]⟩] (by simp) C6.out (by omega) rfl (by omega) (by omega)).mono ?_; rintro e w7 ⟨s7, rfl, hx7, hc7, hg7⟩
    have hz7 : s7.size ≤ 11 := by simp at hx7; rcases hx7 with rfl | rfl <;> decide
    obtain ⟨⟨r0, r1, r2, r3⟩, fr⟩ := bx_cells (bx_kept R6.out hg7 (by omega)) rfl
    obtain ⟨⟨x0, x1, x2, x3⟩, fb⟩ := bx_cells (bx_kept B6.out hg7 (by omega)) rfl
    have C7 := Lib.hid hc7
    have G7 := Lib.hid (gb_tr G6.out hg7)
    clear hc7 hg7 hx7
    go_wp2_with fail
    refine bodyPost_ret (v := .agg #[.string s7, .int .i64 i2, .int .i64 i3, .int .i64 i4]) (by simp [results, go_sem, r0, r1, r2, r3, x0, x1, x2, x3, hne, hne']) rfl ⟨⟨s7, i2, i3, i4⟩, rfl, (by show s7.size ≤ 11; omega), ?_, ?_⟩
    · exact (((((C7.out.setC hC5 _ _).setC hCl _ _).setC hCl _ _).setC hCl _ _).setC hCl _ _).more (by omega)
    · exact (gb_newC (gb_newC (gb_newC (gb_newC (gb_newC G7.out HRw.out.2 _ _) HRw.out.1 _ _) HRw.out.1 _ _) HRw.out.1 _ _) HRw.out.1 _ _)
  by_cases hb1 : b = 1
  · subst hb1
    go_wp2_with fail
    refine (among_at w6 C _ 2 _ [0, 801] (by simp) C6.out (by omega) rfl (by omega) (by omega)).mono ?_; rintro e w7 ⟨i7, rfl, hx7, hc7, hg7⟩
    obtain ⟨⟨r0, r1, r2, r3⟩, fr⟩ := bx_cells (bx_kept R6.out hg7 (by omega)) rfl
    obtain ⟨⟨x0, x1, x2, x3⟩, fb⟩ := bx_cells (bx_kept B6.out hg7 (by omega)) rfl
    have C7 := Lib.hid hc7
    have G7 := Lib.hid (gb_tr G6.out hg7)
    clear hc7 hg7 hx7
    go_wp2_with fail
    refine bodyPost_ret (v := .agg #[.string s1, .int .i64 i2, .int .i64 i7, .int .i64 i4]) (by simp [results, go_sem, r0, r1, r2, r3, x0, x1, x2, x3, hne, hne']) rfl ⟨⟨s1, i2, i7, i4⟩, rfl, (by show s1.size ≤ 11; omega), ?_, ?_⟩
    · exact (((((C7.out.setC hC5 _ _).setC hCl _ _).setC hCl _ _).setC hCl _ _).setC hCl _ _).more (by omega)
    · exact (gb_newC (gb_newC (gb_newC (gb_newC (gb_newC G7.out HRw.out.2 _ _) HRw.out.1 _ _) HRw.out.1 _ _) HRw.out.1 _ _) HRw.out.1 _ _)
  by_cases hb2 : b = 2
  · subst hb2
    go_wp2_with fail
    refine (among_at w6 C _ 2 _ [-1, 101] (by simp) C6.out (by omega) rfl (by omega) (by omega)).mono ?_; rintro e w7 ⟨i7, rfl, hx7, hc7, hg7⟩
    obtain ⟨⟨r0, r1, r2, r3⟩, fr⟩ := bx_cells (bx_kept R6.out hg7 (by omega)) rfl
    obtain ⟨⟨x0, x1, x2, x3⟩, fb⟩ := bx_cells (bx_kept B6.out hg7 (by omega)) rfl
    have C7 := Lib.hid hc7
    have G7 := Lib.hid (gb_tr G6.out hg7)
    clear hc7 hg7 hx7
    go_wp2_with fail
    refine bodyPost_ret (v := .agg #[.string s1, .int .i64 i2, .int .i64 i3, .int .i64 i7]) (by simp [results, go_sem, r0, r1, r2, r3, x0, x1, x2, x3, hne, hne']) rfl ⟨⟨s1, i2, i3, i7⟩, rfl, (by show s1.size ≤ 11; omega), ?_, ?_⟩
    · exact (((((C7.out.setC hC5 _ _).setC hCl _ _).setC hCl _ _).setC hCl _ _).setC hCl _ _).more (by omega)
    · exact (gb_newC (gb_newC (gb_newC (gb_newC (gb_newC G7.out HRw.out.2 _ _) HRw.out.1 _ _) HRw.out.1 _ _) HRw.out.1 _ _) HRw.out.1 _ _)
  by_cases hb3 : b = 3
  · subst hb3
    go_wp2_with fail
    refine (among_at w6 C _ 2 _ [2, 9] (by simp) C6.out (by omega) rfl (by omega) (by omega)).mono ?_; rintro e w7 ⟨i7, rfl, hx7, hc7, hg7⟩
    obtain ⟨⟨r0, r1, r2, r3⟩, fr⟩ := bx_cells (bx_kept R6.out hg7 (by omega)) rfl
    obtain ⟨⟨x0, x1, x2, x3⟩, fb⟩ := bx_cells (bx_kept B6.out hg7 (by omega)) rfl
    have C7 := Lib.hid hc7
    have G7 := Lib.hid (gb_tr G6.out hg7)
    clear hc7 hg7 hx7
    go_wp2_with fail
    refine bodyPost_ret (v := .agg #[.string s1, .int .i64 i7, .int .i64 i3, .int .i64 i4]) (by simp [results, go_sem, r0, r1, r2, r3, x0, x1, x2, x3, hne, hne']) rfl ⟨⟨s1, i7, i3, i4⟩, rfl, (by show s1.size ≤ 11; omega), ?_, ?_⟩
    · exact (((((C7.out.setC hC5 _ _).setC hCl _ _).setC hCl _ _).setC hCl _ _).setC hCl _ _).more (by omega)
    · exact (gb_newC (gb_newC (gb_newC (gb_newC (gb_newC G7.out HRw.out.2 _ _) HRw.out.1 _ _) HRw.out.1 _ _) HRw.out.1 _ _) HRw.out.1 _ _)
  obtain ⟨⟨r0, r1, r2, r3⟩, fr⟩ := bx_cells R6.out rfl
  obtain ⟨⟨x0, x1, x2, x3⟩, fb⟩ := bx_cells B6.out rfl
  have hcc0 : (b == 0) = false := by simpa using hb0
  have hcc1 : (b == 1) = false := by simpa using hb1
  have hcc2 : (b == 2) = false := by simpa using hb2
  have hcc3 : (b == 3) = false := by simpa using hb3
  go_wp2_with fail
  refine bodyPost_ret (v := .agg #[.string s1, .int .i64 i2, .int .i64 i3, .int .i64 i4]) (by simp [results, go_sem, r0, r1, r2, r3, x0, x1, x2, x3, hne, hne']) rfl ⟨⟨s1, i2, i3, i4⟩, rfl, (by show s1.size ≤ 11; omega), ?_, ?_⟩
  · exact ((((C6.out.setC hCl _ _).setC hCl _ _).setC hCl _ _).setC hCl _ _).more (by omega)
  · exact (gb_newC (gb_newC (gb_newC (gb_newC G6.out HRw.out.1 _ _) HRw.out.1 _ _) HRw.out.1 _ _) HRw.out.1 _ _)
set_option maxRecDepth 20000 in
set_option maxHeartbeats 4000000 in
theorem drawEvening_any (w : World) (C lim : Nat) (h : Cur w C lim) (hl : lim ≤ 10000000) : Calls Tryz.prog 49 #[.pointer (some ⟨C, 0, none⟩)] w (DrewEv w C (lim + 20)) := by
  have H := Lib.hid h
  have hCl := h.lt
  clear h
  go_enter Tryz.func49, Tryz.ntmps49
  go_wp2_with fail
  refine (among_at _ C lim 5 _ [3, 5, 6, 8, 8] (by simp) (H.out.al _) (by omega) rfl (by omega) (by omega)).mono ?_; rintro e w1 ⟨i1, rfl, hv1, hc1, hg1⟩
  have R1 := Lib.hid (bx_kept (bx_new w 36 #[.int .i64 0, .int .i64 0, .int .i64 0, .int .i64 0] 4 rfl) hg1 (by omega))
  have C1 := Lib.hid hc1
  have G1 := Lib.hid (gb_tr (gb_al (gb_refl w C) _) hg1)
  clear hc1 hg1 hv1
  go_wp2_with fail
  refine (among_at w1 C _ 3 _ [1, 20, 100] (by simp) (C1.out) (by omega) rfl (by omega) (by omega)).mono ?_; rintro e w2 ⟨i2, rfl, hv2, hc2, hg2⟩
  have R2 := Lib.hid (bx_kept R1.out hg2 (by omega))
  have C2 := Lib.hid hc2
  have G2 := Lib.hid (gb_tr G1.out hg2)
  clear hc2 hg2 hv2
  go_wp2_with fail
  refine (among_at w2 C _ 4 _ [0, 500, 5000, 20000] (by simp) (C2.out) (by omega) rfl (by omega) (by omega)).mono ?_; rintro e w3 ⟨i3, rfl, hv3, hc3, hg3⟩
  have R3 := Lib.hid (bx_kept R2.out hg3 (by omega))
  have C3 := Lib.hid hc3
  have G3 := Lib.hid (gb_tr G2.out hg3)
  clear hc3 hg3 hv3
  go_wp2_with fail
  refine (among_at w3 C _ 3 _ [0, 100, 1000] (by simp) (C3.out) (by omega) rfl (by omega) (by omega)).mono ?_; rintro e w4 ⟨i4, rfl, hv4, hc4, hg4⟩
  have R4 := Lib.hid (bx_kept R3.out hg4 (by omega))
  have C4 := Lib.hid hc4
  have G4 := Lib.hid (gb_tr G3.out hg4)
  clear hc4 hg4 hv4
  go_wp2_with fail
  have hw5 : w.heap.size < w4.heap.size := by have := (R4.out.lt _ rfl).2; exact this
  have hC5 : C < w4.heap.size := C4.out.lt
  refine (pick_any _ C _ 30 (C4.out.al _) (by omega) (by omega) (by omega)).mono ?_; rintro e w6 ⟨b, rfl, hb, hc6, hg6⟩
  have R6 := Lib.hid (bx_kept (own_to R4.out ((Below.refl _ _).alloc (Nat.le_refl _) _)) hg6 (by omega))
  have B6 := Lib.hid (bx_kept (bx_new w4 36 #[.int .i64 i1, .int .i64 i2, .int .i64 i3, .int .i64 i4] 4 rfl) hg6 (by omega))
  have C6 := Lib.hid hc6
  have G6 := Lib.hid (gb_tr (gb_al G4.out _) hg6)
  obtain ⟨b0, b1⟩ := hb
  clear hc6 hg6
  obtain ⟨B, hB⟩ : ∃ B, B = w4.heap.size := ⟨_, rfl⟩
  obtain ⟨R, hR⟩ : ∃ R, R = w.heap.size := ⟨_, rfl⟩
  have hw5' := hw5
  rw [← hB] at hw5'
  rw [← hB, ← hR] at hw5
  rw [← hB] at B6 hC5 ⊢
  rw [← hR] at R6 hCl ⊢
  have HRw : Hid (w.heap.size ≤ R ∧ w.heap.size ≤ B) := Lib.hid (by omega)
  have hne : R ≠ B := by omega
  have hne' : B ≠ R := by omega
  clear hB hR hw5' R4 R3 R2 R1
  by_cases hb0 : b = 0
  · subst hb0
    go_wp2_with fail
    refine (among_at w6 C _ 2 _ [2, 9] (by simp) C6.out (by omega) rfl (by omega) (by omega)).mono ?_; rintro e w7 ⟨i7, rfl, hx7, hc7, hg7⟩
    obtain ⟨⟨r0, r1, r2, r3⟩, fr⟩ := bx_cells (bx_kept R6.out hg7 (by omega)) rfl
    obtain ⟨⟨x0, x1, x2, x3⟩, fb⟩ := bx_cells (bx_kept B6.out hg7 (by omega)) rfl
    have C7 := Lib.hid hc7
    have G7 := Lib.hid (gb_tr G6.out hg7)
    clear hc7 hg7 hx7
    go_wp2_with fail
    refine bodyPost_ret (v := .agg #[.int .i64 i7, .int .i64 i2, .int .i64 i3, .int .i64 i4]) (by simp [results, go_sem, r0, r1, r2, r3, x0, x1, x2, x3, hne, hne']) rfl ⟨i7, i2, i3, i4, rfl, ?_, ?_⟩
    · exact (((((C7.out.setC hC5 _ _).setC hCl _ _).setC hCl _ _).setC hCl _ _).setC hCl _ _).more (by omega)
    · exact (gb_newC (gb_newC (gb_newC (gb_newC (gb_newC G7.out HRw.out.2 _ _) HRw.out.1 _ _) HRw.out.1 _ _) HRw.out.1 _ _) HRw.out.1 _ _)
  by_cases hb1 : b = 1
  · subst hb1
    go_wp2_with fail
    refine (among_at w6 C _ 2 _ [0, 101] (by simp) C6.out (by omega) rfl (by omega) (by omega)).mono ?_; rintro e w7 ⟨i7, rfl, hx7, hc7, hg7⟩
    obtain ⟨⟨r0, r1, r2, r3⟩, fr⟩ := bx_cells (bx_kept R6.out hg7 (by omega)) rfl
    obtain ⟨⟨x0, x1, x2, x3⟩, fb⟩ := bx_cells (bx_kept B6.out hg7 (by omega)) rfl
    have C7 := Lib.hid hc7
    have G7 := Lib.hid (gb_tr G6.out hg7)
    clear hc7 hg7 hx7
    go_wp2_with fail
    refine bodyPost_ret (v := .agg #[.int .i64 i1, .int .i64 i7, .int .i64 i3, .int .i64 i4]) (by simp [results, go_sem, r0, r1, r2, r3, x0, x1, x2, x3, hne, hne']) rfl ⟨i1, i7, i3, i4, rfl, ?_, ?_⟩
    · exact (((((C7.out.setC hC5 _ _).setC hCl _ _).setC hCl _ _).setC hCl _ _).setC hCl _ _).more (by omega)
    · exact (gb_newC (gb_newC (gb_newC (gb_newC (gb_newC G7.out HRw.out.2 _ _) HRw.out.1 _ _) HRw.out.1 _ _) HRw.out.1 _ _) HRw.out.1 _ _)
  by_cases hb2 : b = 2
  · subst hb2
    go_wp2_with fail
    refine (among_at w6 C _ 2 _ [-1, 20001] (by simp) C6.out (by omega) rfl (by omega) (by omega)).mono ?_; rintro e w7 ⟨i7, rfl, hx7, hc7, hg7⟩
    obtain ⟨⟨r0, r1, r2, r3⟩, fr⟩ := bx_cells (bx_kept R6.out hg7 (by omega)) rfl
    obtain ⟨⟨x0, x1, x2, x3⟩, fb⟩ := bx_cells (bx_kept B6.out hg7 (by omega)) rfl
    have C7 := Lib.hid hc7
    have G7 := Lib.hid (gb_tr G6.out hg7)
    clear hc7 hg7 hx7
    go_wp2_with fail
    refine bodyPost_ret (v := .agg #[.int .i64 i1, .int .i64 i2, .int .i64 i7, .int .i64 i4]) (by simp [results, go_sem, r0, r1, r2, r3, x0, x1, x2, x3, hne, hne']) rfl ⟨i1, i2, i7, i4, rfl, ?_, ?_⟩
    · exact (((((C7.out.setC hC5 _ _).setC hCl _ _).setC hCl _ _).setC hCl _ _).setC hCl _ _).more (by omega)
    · exact (gb_newC (gb_newC (gb_newC (gb_newC (gb_newC G7.out HRw.out.2 _ _) HRw.out.1 _ _) HRw.out.1 _ _) HRw.out.1 _ _) HRw.out.1 _ _)
  by_cases hb3 : b = 3
  · subst hb3
    go_wp2_with fail
    refine (among_at w6 C _ 2 _ [-1, 1001] (by simp) C6.out (by omega) rfl (by omega) (by omega)).mono ?_; rintro e w7 ⟨i7, rfl, hx7, hc7, hg7⟩
    obtain ⟨⟨r0, r1, r2, r3⟩, fr⟩ := bx_cells (bx_kept R6.out hg7 (by omega)) rfl
    obtain ⟨⟨x0, x1, x2, x3⟩, fb⟩ := bx_cells (bx_kept B6.out hg7 (by omega)) rfl
    have C7 := Lib.hid hc7
    have G7 := Lib.hid (gb_tr G6.out hg7)
    clear hc7 hg7 hx7
    go_wp2_with fail
    refine bodyPost_ret (v := .agg #[.int .i64 i1, .int .i64 i2, .int .i64 i3, .int .i64 i7]) (by simp [results, go_sem, r0, r1, r2, r3, x0, x1, x2, x3, hne, hne']) rfl ⟨i1, i2, i3, i7, rfl, ?_, ?_⟩
    · exact (((((C7.out.setC hC5 _ _).setC hCl _ _).setC hCl _ _).setC hCl _ _).setC hCl _ _).more (by omega)
    · exact (gb_newC (gb_newC (gb_newC (gb_newC (gb_newC G7.out HRw.out.2 _ _) HRw.out.1 _ _) HRw.out.1 _ _) HRw.out.1 _ _) HRw.out.1 _ _)
  obtain ⟨⟨r0, r1, r2, r3⟩, fr⟩ := bx_cells R6.out rfl
  obtain ⟨⟨x0, x1, x2, x3⟩, fb⟩ := bx_cells B6.out rfl
  have hcc0 : (b == 0) = false := by simpa using hb0
  have hcc1 : (b == 1) = false := by simpa using hb1
  have hcc2 : (b == 2) = false := by simpa using hb2
  have hcc3 : (b == 3) = false := by simpa using hb3
  go_wp2_with fail
  refine bodyPost_ret (v := .agg #[.int .i64 i1, .int .i64 i2, .int .i64 i3, .int .i64 i4]) (by simp [results, go_sem, r0, r1, r2, r3, x0, x1, x2, x3, hne, hne']) rfl ⟨i1, i2, i3, i4, rfl, ?_, ?_⟩
  · exact ((((C6.out.setC hCl _ _).setC hCl _ _).setC hCl _ _).setC hCl _ _).more (by omega)
  · exact (gb_newC (gb_newC (gb_newC (gb_newC G6.out HRw.out.1 _ _) HRw.out.1 _ _) HRw.out.1 _ _) HRw.out.1 _ _)
end Go.Proofs.YtofpjbdelmmclaaGreatDoor
