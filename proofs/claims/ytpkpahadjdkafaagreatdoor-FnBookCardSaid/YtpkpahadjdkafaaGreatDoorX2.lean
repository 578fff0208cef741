/- Contracts: drawn touches and records. -/
import Derived.Test.YtpkpahadjdkafaaGreatDoorX1
import Derived.Test.YtpkpahadjdkafaaGreatDoorU2
import Derived.Test.YtpkpahadjdkafaaGreatDoorV1
namespace Go.Proofs.YtpkpahadjdkafaaGreatDoor
open Go Go.RowKit
set_option linter.unusedVariables false
set_option linter.unusedSimpArgs false

set_option maxRecDepth 10000 in
set_option maxHeartbeats 2000000 in
theorem drawTouch_any (w : World) (C lim m : Nat) (h : Cur w C lim) (hl : lim ≤ 1000000000) (h1 : 1 ≤ m) (h2 : m ≤ 1000) : Calls Tryz.prog 46 #[.pointer (some ⟨C, 0, none⟩), .int .i64 m] w (DrewStr w C (lim + 10 + 2 * m) fun s => s.size ≤ 4 * m + 4) := by
  have H := Lib.hid h
  clear h
  go_enter Tryz.func46, Tryz.ntmps46
  go_wp2_with fail
  refine (pick_any w C lim m H.out (by omega) (by omega) (by omega)).mono ?_; rintro e w1 ⟨b, rfl, hb, hc1, hg1⟩
  obtain ⟨k0, rfl⟩ : ∃ k : Nat, b = k := ⟨b.toNat, by omega⟩
  have hk0 : k0 < m := by omega
  have Hc1 := Lib.hid hc1
  have Hg1 := Lib.hid hg1
  clear hc1 hg1 hb
  go_wp2_with fail
  go_loopw [5, 6] (fun t i wr => ∃ k : Nat, ∃ s : ByteArray, k ≤ k0 + 1 ∧ i = .int .i64 k ∧ t = .string s ∧ s.size + k ≤ k0 + 1 ∧ Hid (Cur wr C (lim + 2 + 2 * (k0 + 1 - k)) ∧ w.grownBy wr (some C))) (fun _ i _ => (intOf i).toNat)
  case atStart => exact ⟨k0 + 1, ⟨#[]⟩, by omega, by go_num, rfl, by show 0 + _ ≤ _; omega, Lib.hid ⟨Hc1.out.more (by omega), Hg1.out⟩⟩
  case round =>
    obtain ⟨k, s, hk, rfl, rfl, hs, Hc⟩ := hrel
    by_cases hpos : 0 < k
    · have Hof := Lib.hid (of_lit wr C _ 5 [⟨#[112]⟩, ⟨#[112]⟩, ⟨#[98]⟩, ⟨#[115]⟩, ⟨#[98]⟩] Hc.out.1 (by omega) rfl (by omega) (by omega))
      go_wp2_with fail
      refine Hof.out.mono ?_; rintro e w2 ⟨x, rfl, hx, hc2, hg2⟩
      have hxs : x.size = 1 := by
        simp at hx
        rcases hx with rfl | rfl | rfl | rfl | rfl <;> rfl
      have Hc2 := Lib.hid hc2
      have Hg2 := Lib.hid (gb_tr Hc.out.2 hg2)
      clear hc2 hg2 hx
      go_wp2_with fail
      obtain ⟨j, rfl⟩ : ∃ j, k = j + 1 := ⟨k - 1, by omega⟩
      refine ⟨⟨j, _, by omega, by go_num, rfl, by rw [ByteArray.size_append, hxs]; omega, Lib.hid ⟨Hc2.out.more (by omega), Hg2.out⟩⟩, by simp [intOf]⟩
    · obtain rfl : k = 0 := by omega
      go_wp2_with fail
      refine (one_any wr C _ 3 Hc.out.1 (by omega) (by omega) (by omega)).mono ?_; rintro e w2 ⟨x, rfl, hc2, hg2⟩
      have Hc2 := Lib.hid hc2
      have Hg2 := Lib.hid (gb_tr Hc.out.2 hg2)
      clear hc2 hg2
      cases x
      · go_wp2_with fail
        go_ret
        exact ⟨_, rfl, by omega, Hc2.out.more (by omega), Hg2.out⟩
      · go_wp2_with fail
        go_ret
        exact ⟨_, rfl, by show (s ++ s).size ≤ _; rw [ByteArray.size_append]; omega, Hc2.out.more (by omega), Hg2.out⟩
/-- What a draw of a record leaves. -/
def DrewRc (w : World) (C lim : Nat) (e : Ending) (w' : World) : Prop := ∃ r : Rc, e = .returned r.v ∧ RcSmall r ∧ Cur w' C lim ∧ w.grownBy w' (some C)
theorem rc_row {w : World} {g : Nat} {x0 x1 x2 x3 x4 : Value} (h : w.heap[g]? = some (.cells #[x0, x1, x2, x3, x4] 39 (0, 0))) : w.ownsRow g 39 5 (.slice (some ⟨g, 0, none⟩) 1 1) 1 [x0, x1, x2, x3, x4] :=
  own_of_heap h (Nat.le_refl _) (by unfold maxLen; omega) rfl
theorem rc_cells {w : World} {g b : Nat} {x0 x1 x2 x3 x4 : Value} (h : w.ownsRow b 39 5 (.slice (some ⟨g, 0, none⟩) 1 1) 1 [x0, x1, x2, x3, x4]) :
    (w.cell? ⟨g, 0, none⟩ = some x0 ∧ w.cell? ⟨g, 1, none⟩ = some x1 ∧ w.cell? ⟨g, 2, none⟩ = some x2 ∧ w.cell? ⟨g, 3, none⟩ = some x3 ∧ w.cell? ⟨g, 4, none⟩ = some x4) ∧ (∀ j, w.frozen? ⟨g, j, none⟩ = false) :=
  ⟨⟨(h.cellAt 0 (by omega)).trans rfl, (h.cellAt 1 (by omega)).trans rfl, (h.cellAt 2 (by omega)).trans rfl, (h.cellAt 3 (by omega)).trans rfl, (h.cellAt 4 (by omega)).trans rfl⟩, fun j => h.frozenAt j⟩
theorem rc_kept {w w' : World} {g b C : Nat} {xs : List Value} (h : w.ownsRow b 39 5 (.slice (some ⟨g, 0, none⟩) 1 1) 1 xs) (hg : w.grownBy w' (some C)) (hn : g ≠ C) : w'.ownsRow b 39 5 (.slice (some ⟨g, 0, none⟩) 1 1) 1 xs :=
  h.kept hg (.inr (by simpa [Value.ownBlock] using hn))
theorem rc_small {a d : Int} {b c e : ByteArray} (h1 : b.size ≤ 1048576) (h2 : c.size ≤ 1048576) (h3 : e.size ≤ 1048576) : RcSmall ⟨a, b, c, d, e⟩ := ⟨h1, h2, h3⟩
theorem Cur.set {w : World} {C lim g : Nat} (h : Cur w C lim) (hg : C < g) (j : Nat) (u : Value) : Cur (w.setCell ⟨g, j, none⟩ u) C lim := by
  have hC := h.lt
  have hgr : w.grownBy (w.setCell ⟨g, j, none⟩ u) (some g) := gb_set (gb_refl w g) j u
  obtain ⟨v, a, s, h1, h2, h3, h4, h5, ho⟩ := h
  exact ⟨v, a, s, h1.keep (fun p hp => gb_cell hgr (by omega) (by omega)), h2, h3, h4, h5, ho.kept hgr (.inr (by simp [Value.ownBlock]; omega))⟩
theorem gb_new {a w : World} {C g : Nat} (h : a.grownBy w (some C)) (hg : a.heap.size ≤ g) (j : Nat) (u : Value) : a.grownBy (w.setCell ⟨g, j, none⟩ u) (some C) :=
  ⟨h.os, h.tape, h.output, by simpa [World.setCell] using h.size, fun i hi hne => (Below.heap_setCell w ⟨g, j, none⟩ u i (by show i ≠ g; omega)).trans (h.block i hi hne)⟩
set_option maxRecDepth 10000 in
set_option maxHeartbeats 4000000 in
theorem drawRecord_any (w : World) (C lim : Nat) (h : Cur w C lim) (hl : lim ≤ 100000000) : Calls Tryz.prog 23 #[.pointer (some ⟨C, 0, none⟩)] w (DrewRc w C (lim + 100)) := by
  have H := Lib.hid h
  have hCl := h.lt
  clear h
  go_enter Tryz.func23, Tryz.ntmps23
  go_wp2_with fail
  refine (among_at _ C lim 5 _ [0, 1, 5, 5, 99999] (by simp) (H.out.al _) (by omega) rfl (by omega) (by omega)).mono ?_; rintro e w1 ⟨z1, rfl, hz1, hc1, hg1⟩
  have R1 := Lib.hid (rc_kept (rc_row (heap_new w _)) hg1 (by omega))
  have C1 := Lib.hid hc1
  have G1 := Lib.hid (gb_tr (gb_al (gb_refl w C) _) hg1)
  clear hc1 hg1 hz1
  go_wp2_with fail
  refine (of_at w1 C _ 2 _ [⟨#[112, 108, 97, 105, 110]⟩, ⟨#[98, 111, 98]⟩] (by simp) C1.out (by omega) rfl (by omega) (by omega)).mono ?_; rintro e w2 ⟨s2, rfl, hs2, hc2, hg2⟩
  have hz2 : s2.size ≤ 5 := by simp at hs2; rcases hs2 with rfl | rfl <;> decide
  have R2 := Lib.hid (rc_kept R1.out hg2 (by omega))
  have C2 := Lib.hid hc2
  have G2 := Lib.hid (gb_tr G1.out hg2)
  clear hc2 hg2 hs2
  go_wp2_with fail
  refine (drawTouch_any w2 C _ 3 C2.out (by omega) (by omega) (by omega)).mono ?_; rintro e w3 ⟨s3, rfl, hs3, hc3, hg3⟩
  have R3 := Lib.hid (rc_kept R2.out hg3 (by omega))
  have C3 := Lib.hid hc3
  have G3 := Lib.hid (gb_tr G2.out hg3)
  clear hc3 hg3
  go_wp2_with fail
  refine (among_at w3 C _ 3 _ [1, 40, 800] (by simp) C3.out (by omega) rfl (by omega) (by omega)).mono ?_; rintro e w4 ⟨z4, rfl, hz4, hc4, hg4⟩
  have R4 := Lib.hid (rc_kept R3.out hg4 (by omega))
  have C4 := Lib.hid hc4
  have G4 := Lib.hid (gb_tr G3.out hg4)
  clear hc4 hg4 hz4
  go_wp2_with fail
  refine (of_at w4 C _ 4 _ [⟨#[]⟩, ⟨#[103, 111, 111, 100]⟩, ⟨#[110, 111, 46, 50]⟩, ⟨#[97, 45, 98]⟩] (by simp) C4.out (by omega) rfl (by omega) (by omega)).mono ?_; rintro e w5 ⟨s5, rfl, hs5, hc5, hg5⟩
  have hz5 : s5.size ≤ 21 := by simp at hs5; rcases hs5 with rfl | rfl | rfl | rfl <;> decide
  have R5 := Lib.hid (rc_kept R4.out hg5 (by omega))
  have C5 := Lib.hid hc5
  have G5 := Lib.hid (gb_tr G4.out hg5)
  clear hc5 hg5 hs5
  go_wp2_with fail
  have hw5 : w.heap.size < w5.heap.size := by have := (R5.out.lt _ rfl).2; exact this
  have hC5 : C < w5.heap.size := C5.out.lt
  refine (pick_any _ C _ 40 (C5.out.al _) (by omega) (by omega) (by omega)).mono ?_; rintro e w6 ⟨b, rfl, hb, hc6, hg6⟩
  have R6 := Lib.hid (rc_kept (own_to R5.out ((Below.refl _ _).alloc (Nat.le_refl _) _)) hg6 (by omega))
  have B6 := Lib.hid (rc_kept (rc_row (heap_new w5 _)) hg6 (by omega))
  have C6 := Lib.hid hc6
  have G6 := Lib.hid (gb_tr (gb_al G5.out _) hg6)
  obtain ⟨b0, b1⟩ := hb
  clear hc6 hg6
  obtain ⟨B, hB⟩ : ∃ B, B = w5.heap.size := ⟨_, rfl⟩
  obtain ⟨R, hR⟩ : ∃ R, R = w.heap.size := ⟨_, rfl⟩
  have hw5' := hw5
  rw [← hB] at hw5'
  rw [← hB, ← hR] at hw5
  rw [← hB] at B6 hC5 ⊢
  rw [← hR] at R6 hCl ⊢
  have HRw : Hid (w.heap.size ≤ R ∧ w.heap.size ≤ B) := Lib.hid (by omega)
  have hne : R ≠ B := by omega
  have hne' : B ≠ R := by omega
  clear hB hR hw5' R5 R4 R3 R2 R1
  by_cases hb0 : b = 0
  · subst hb0
    go_wp2_with fail
    refine (among_at w6 C _ 2 _ [-1, 100000] (by simp) C6.out (by omega) rfl (by omega) (by omega)).mono ?_; rintro e w7 ⟨z7, rfl, hx7, hc7, hg7⟩
    obtain ⟨⟨r0, r1, r2, r3, r4⟩, fr⟩ := rc_cells (rc_kept R6.out hg7 (by omega))
    obtain ⟨⟨x0, x1, x2, x3, x4⟩, fb⟩ := rc_cells (rc_kept B6.out hg7 (by omega))
    have C7 := Lib.hid hc7
    have G7 := Lib.hid (gb_tr G6.out hg7)
    clear hc7 hg7 hx7
    go_wp2_with fail
    refine bodyPost_ret (v := .agg #[.int .i64 z7, .string s2, .string s3, .int .i64 z4, .string s5]) (by simp [results, go_sem, r0, r1, r2, r3, r4, x0, x1, x2, x3, x4, hne, hne']) rfl ⟨⟨z7, s2, s3, z4, s5⟩, rfl, rc_small (by omega) (by omega) (by omega), ?_, ?_⟩
    · exact ((((((C7.out.set hC5 _ _).set hCl _ _).set hCl _ _).set hCl _ _).set hCl _ _).set hCl _ _).more (by omega)
    · exact gb_new (gb_new (gb_new (gb_new (gb_new (gb_new G7.out HRw.out.2 _ _) HRw.out.1 _ _) HRw.out.1 _ _) HRw.out.1 _ _) HRw.out.1 _ _) HRw.out.1 _ _
  by_cases hb1 : b = 1
  · subst hb1
    go_wp2_with fail
    refine (of_at w6 C _ 3 _ [⟨#[65]⟩, ⟨#[97, 32, 98]⟩, ⟨#[49, 50, 51, 52, 53, 54, 55, 56, 57, 48, 49, 50, 51, 52, 53, 54, 55, 56, 57, 48, 49]⟩] (by simp) C6.out (by omega) rfl (by omega) (by omega)).mono ?_; rintro e w7 ⟨s7, rfl, hx7, hc7, hg7⟩
    have hz7 : s7.size ≤ 21 := by simp at hx7; rcases hx7 with rfl | rfl | rfl <;> decide
    obtain ⟨⟨r0, r1, r2, r3, r4⟩, fr⟩ := rc_cells (rc_kept R6.out hg7 (by omega))
    obtain ⟨⟨x0, x1, x2, x3, x4⟩, fb⟩ := rc_cells (rc_kept B6.out hg7 (by omega))
    have C7 := Lib.hid hc7
    have G7 := Lib.hid (gb_tr G6.out hg7)
    clear hc7 hg7 hx7
    go_wp2_with fail
    refine bodyPost_ret (v := .agg #[.int .i64 z1, .string s2, .string s3, .int .i64 z4, .string s7]) (by simp [results, go_sem, r0, r1, r2, r3, r4, x0, x1, x2, x3, x4, hne, hne']) rfl ⟨⟨z1, s2, s3, z4, s7⟩, rfl, rc_small (by omega) (by omega) (by omega), ?_, ?_⟩
    · exact ((((((C7.out.set hC5 _ _).set hCl _ _).set hCl _ _).set hCl _ _).set hCl _ _).set hCl _ _).more (by omega)
    · exact gb_new (gb_new (gb_new (gb_new (gb_new (gb_new G7.out HRw.out.2 _ _) HRw.out.1 _ _) HRw.out.1 _ _) HRw.out.1 _ _) HRw.out.1 _ _) HRw.out.1 _ _
  by_cases hb2 : b = 2
  · subst hb2
    go_wp2_with fail
    refine (among_at w6 C _ 2 _ [0, 801] (by simp) C6.out (by omega) rfl (by omega) (by omega)).mono ?_; rintro e w7 ⟨z7, rfl, hx7, hc7, hg7⟩
    obtain ⟨⟨r0, r1, r2, r3, r4⟩, fr⟩ := rc_cells (rc_kept R6.out hg7 (by omega))
    obtain ⟨⟨x0, x1, x2, x3, x4⟩, fb⟩ := rc_cells (rc_kept B6.out hg7 (by omega))
    have C7 := Lib.hid hc7
    have G7 := Lib.hid (gb_tr G6.out hg7)
    clear hc7 hg7 hx7
    go_wp2_with fail
    refine bodyPost_ret (v := .agg #[.int .i64 z1, .string s2, .string s3, .int .i64 z7, .string s5]) (by simp [results, go_sem, r0, r1, r2, r3, r4, x0, x1, x2, x3, x4, hne, hne']) rfl ⟨⟨z1, s2, s3, z7, s5⟩, rfl, rc_small (by omega) (by omega) (by omega), ?_, ?_⟩
    · exact ((((((C7.out.set hC5 _ _).set hCl _ _).set hCl _ _).set hCl _ _).set hCl _ _).set hCl _ _).more (by omega)
    · exact gb_new (gb_new (gb_new (gb_new (gb_new (gb_new G7.out HRw.out.2 _ _) HRw.out.1 _ _) HRw.out.1 _ _) HRw.out.1 _ _) HRw.out.1 _ _) HRw.out.1 _ _
  by_cases hb3 : b = 3
  · subst hb3
    go_wp2_with fail
    refine (of_at w6 C _ 2 _ [⟨#[]⟩, ⟨#[120]⟩] (by simp) C6.out (by omega) rfl (by omega) (by omega)).mono ?_; rintro e w7 ⟨s7, rfl, hx7, hc7, hg7⟩
    have hz7 : s7.size ≤ 21 := by simp at hx7; rcases hx7 with rfl | rfl <;> decide
    obtain ⟨⟨r0, r1, r2, r3, r4⟩, fr⟩ := rc_cells (rc_kept R6.out hg7 (by omega))
    obtain ⟨⟨x0, x1, x2, x3, x4⟩, fb⟩ := rc_cells (rc_kept B6.out hg7 (by omega))
    have C7 := Lib.hid hc7
    have G7 := Lib.hid (gb_tr G6.out hg7)
    clear hc7 hg7 hx7
    go_wp2_with fail
    refine bodyPost_ret (v := .agg #[.int .i64 z1, .string s2, .string s7, .int .i64 z4, .string s5]) (by simp [results, go_sem, r0, r1, r2, r3, r4, x0, x1, x2, x3, x4, hne, hne']) rfl ⟨⟨z1, s2, s7, z4, s5⟩, rfl, rc_small (by omega) (by omega) (by omega), ?_, ?_⟩
    · exact ((((((C7.out.set hC5 _ _).set hCl _ _).set hCl _ _).set hCl _ _).set hCl _ _).set hCl _ _).more (by omega)
    · exact gb_new (gb_new (gb_new (gb_new (gb_new (gb_new G7.out HRw.out.2 _ _) HRw.out.1 _ _) HRw.out.1 _ _) HRw.out.1 _ _) HRw.out.1 _ _) HRw.out.1 _ _
  obtain ⟨⟨r0, r1, r2, r3, r4⟩, fr⟩ := rc_cells R6.out
  obtain ⟨⟨x0, x1, x2, x3, x4⟩, fb⟩ := rc_cells B6.out
  have hc0 : (b == 0) = false := by simpa using hb0
  have hc1 : (b == 1) = false := by simpa using hb1
  have hc2 : (b == 2) = false := by simpa using hb2
  have hc3 : (b == 3) = false := by simpa using hb3
  go_wp2_with fail
  refine bodyPost_ret (v := .agg #[.int .i64 z1, .string s2, .string s3, .int .i64 z4, .string s5]) (by simp [results, go_sem, r0, r1, r2, r3, r4, x0, x1, x2, x3, x4, hne, hne']) rfl ⟨⟨z1, s2, s3, z4, s5⟩, rfl, rc_small (by omega) (by omega) (by omega), ?_, ?_⟩
  · exact (((((C6.out.set hCl _ _).set hCl _ _).set hCl _ _).set hCl _ _).set hCl _ _).more (by omega)
  · exact gb_new (gb_new (gb_new (gb_new (gb_new G6.out HRw.out.1 _ _) HRw.out.1 _ _) HRw.out.1 _ _) HRw.out.1 _ _) HRw.out.1 _ _
end Go.Proofs.YtpkpahadjdkafaaGreatDoor
