/- ItemOf on both sides, and its law. -/
import Derived.Test.YtofpjbdelmmclaaGreatDoorPk41
import Derived.Test.YtofpjbdelmmclaaGreatDoorPk4
namespace Go.Proofs.YtofpjbdelmmclaaGreatDoor
open Go Go.RowKit
set_option linter.unusedVariables false
set_option linter.unusedSimpArgs false

def okI (m : Mt) (k : Cl) (t : ByteArray) (x : Int) : Bool := okT m k t && decide (0 ≤ x ∧ x ≤ 100)
def itO (m : Mt) (k : Cl) (t : ByteArray) (x : Int) : It := if okI m k t x then ⟨m.name, m.stage, ((rowsO m k t).length : Int), x⟩ else ⟨⟨#[]⟩, 0, 0, 0⟩
theorem okI_no {m : Mt} {k : Cl} {t : ByteArray} (x : Int) (h : okT m k t = false) : okI m k t x = false ∧ itO m k t x = ⟨⟨#[]⟩, 0, 0, 0⟩ := by
  have : okI m k t x = false := by unfold okI; rw [h]; rfl
  exact ⟨this, by unfold itO; rw [this]; rfl⟩
theorem okI_no2 {m : Mt} {k : Cl} {t : ByteArray} {x : Int} (h : decide (0 ≤ x ∧ x ≤ 100) = false) : okI m k t x = false ∧ itO m k t x = ⟨⟨#[]⟩, 0, 0, 0⟩ := by
  have : okI m k t x = false := by unfold okI; rw [h, Bool.and_false]
  exact ⟨this, by unfold itO; rw [this]; rfl⟩
theorem okI_yes {m : Mt} {k : Cl} {t : ByteArray} {x : Int} (h : okT m k t = true) (h2 : decide (0 ≤ x ∧ x ≤ 100) = true) : okI m k t x = true ∧ itO m k t x = ⟨m.name, m.stage, ((rowsO m k t).length : Int), x⟩ := by
  have : okI m k t x = true := by unfold okI; rw [h, h2]; rfl
  exact ⟨this, by unfold itO; rw [if_pos this]⟩
def It.v (x : It) : Value := .agg #[.string x.name, .int .i64 x.stage, .int .i64 x.rows, .int .i64 x.worth]
set_option maxHeartbeats 2000000 in
theorem implItemOf_any (m : Mt) (v : Value) (k : Cl) (t : ByteArray) (x : Int) (w : World) (h : MethAt w m v) (hs : MtSmall m) (hk : ClSmall k) (ht : t.size ≤ 1048576) : Calls Tryz.prog 22 #[m.v v, k.v, .string t, .int .i64 x] w fun e w' =>
    e = .returned (.tuple #[(itO m k t x).v, .bool (okI m k t x)]) ∧ Below w.heap.size w w' := by
  have Hr := Lib.hid (fun W hW => implTouchRows_any m v k t W (h.to hW) hs hk (Nat.le_trans ht (by unfold maxLen; omega)))
  have Hn1 := Lib.hid (fun h => okI_no (m := m) (k := k) (t := t) x h)
  have Hn2 := Lib.hid (fun h => okI_no2 (m := m) (k := k) (t := t) (x := x) h)
  have Hy := Lib.hid (fun h h2 => okI_yes (m := m) (k := k) (t := t) (x := x) h h2)
  obtain ⟨A, c, hv⟩ := h.form
  subst hv
  obtain ⟨b, hb⟩ : ∃ b, b = okT m k t := ⟨_, rfl⟩
  obtain ⟨L, hL⟩ : ∃ L, L = rowsO m k t := ⟨_, rfl⟩
  rw [← hb, ← hL] at Hr
  rw [← hb] at Hn1 Hy
  rw [← hL] at Hy
  unfold Mt.v Cl.v at *
  clear h hb hL
  go_enter Tryz.func22, Tryz.ntmps22
  go_wp2_with fail
  refine box3s (C := fun W => Calls _ _ _ W _) ?_
  intro wb hw hwsz k1 k2 k3 hB0
  have R1 := boxRule k1
  have R2 := boxRule k2
  have R3 := boxRule k3
  have F3 := fun j W hb => frozen_of_heap k3 j (w' := W) hb
  have Hwsz := Lib.hid hwsz
  clear k1 k2 k3 hwsz
  refine (Hr.out _ hw).mono ?_; rintro e w1 ⟨A1, q1, rfl, hown, hb1⟩
  have r0 := R3 w1 0 hb1
  have r1 := R3 w1 1 hb1
  have r2 := R3 w1 2 hb1
  have r3 := R3 w1 3 hb1
  have f0 := F3 0 w1 hb1
  have f1 := F3 1 w1 hb1
  have f2 := F3 2 w1 hb1
  have f3 := F3 3 w1 hb1
  have hB1 := bw_to hw hb1
  have hend : ∀ u0 u1 u2 u3, Below w.heap.size w ((((w1.setCell ⟨w.heap.size + 2, 0, none⟩ u0).setCell ⟨w.heap.size + 2, 1, none⟩ u1).setCell ⟨w.heap.size + 2, 2, none⟩ u2).setCell ⟨w.heap.size + 2, 3, none⟩ u3) := fun _ _ _ _ =>
    grow_set (grow_set (grow_set (grow_set hB1 (Nat.le_add_right _ 2) _) (Nat.le_add_right _ 2) _) (Nat.le_add_right _ 2) _) (Nat.le_add_right _ 2) _
  have Hend := Lib.hid hend
  clear hown hend
  cases b
  · have HE := Lib.hid (Hn1.out rfl)
    go_wp2_with fail
    refine bodyPost_ret (v := .tuple #[.agg #[.string ⟨#[]⟩, .int .i64 0, .int .i64 0, .int .i64 0], .bool false]) (by simp [results, go_sem, r0, r1, r2, r3]) rfl ⟨by rw [HE.out.1, HE.out.2]; rfl, Hend.out _ _ _ _⟩
  · cases hd : decide (0 ≤ x ∧ x ≤ 100)
    · have HE := Lib.hid (Hn2.out hd)
      have Hd := Lib.hid hd
      clear hd
      go_wp2_with (go_at_call 66; refine (within_any _ _ _ _).mono ?_; rintro e w' ⟨rfl, rfl⟩; rw [Hd.out])
      refine bodyPost_ret (v := .tuple #[.agg #[.string ⟨#[]⟩, .int .i64 0, .int .i64 0, .int .i64 0], .bool false]) (by simp [results, go_sem, r0, r1, r2, r3]) rfl ⟨by rw [HE.out.1, HE.out.2]; rfl, Hend.out _ _ _ _⟩
    · have HE := Lib.hid (Hy.out rfl hd)
      have Hd := Lib.hid hd
      clear hd
      go_wp2_with (go_at_call 66; refine (within_any _ _ _ _).mono ?_; rintro e w' ⟨rfl, rfl⟩; rw [Hd.out])
      refine bodyPost_ret (v := .tuple #[.agg #[.string m.name, .int .i64 m.stage, .int .i64 (L.length : Int), .int .i64 x], .bool true]) (by simp [results, go_sem, r0, r1, r2, r3]) rfl ⟨by rw [HE.out.1, HE.out.2]; rfl, Hend.out _ _ _ _⟩
set_option maxHeartbeats 2000000 in
theorem specItemOf_any (m : Mt) (v : Value) (k : Cl) (t : ByteArray) (x : Int) (w : World) (h : MethAt w m v) (hs : MtSmall m) (hk : ClSmall k) (ht : t.size ≤ 1048576) : Calls Tryz.prog 23 #[m.v v, k.v, .string t, .int .i64 x] w fun e w' =>
    e = .returned (.tuple #[(itO m k t x).v, .bool (okI m k t x)]) ∧ Below w.heap.size w w' := by
  have Hr := Lib.hid (fun W hW => specTouchRows_any m v k t W (h.to hW) hs hk ht)
  have Hn1 := Lib.hid (fun h => okI_no (m := m) (k := k) (t := t) x h)
  have Hn2 := Lib.hid (fun h => okI_no2 (m := m) (k := k) (t := t) (x := x) h)
  have Hy := Lib.hid (fun h h2 => okI_yes (m := m) (k := k) (t := t) (x := x) h h2)
  obtain ⟨A, c, hv⟩ := h.form
  subst hv
  obtain ⟨b, hb⟩ : ∃ b, b = okT m k t := ⟨_, rfl⟩
  obtain ⟨L, hL⟩ : ∃ L, L = rowsO m k t := ⟨_, rfl⟩
  rw [← hb, ← hL] at Hr
  rw [← hb] at Hn1 Hy
  rw [← hL] at Hy
  unfold Mt.v Cl.v at *
  clear h hb hL
  go_enter Tryz.func23, Tryz.ntmps23
  go_wp2_with fail
  refine box3s (C := fun W => Calls _ _ _ W _) ?_
  intro wb hw hwsz k1 k2 k3 hB0
  have R1 := boxRule k1
  have R2 := boxRule k2
  have R3 := boxRule k3
  have F3 := fun j W hb => frozen_of_heap k3 j (w' := W) hb
  have Hwsz := Lib.hid hwsz
  clear k1 k2 k3 hwsz
  refine (Hr.out _ hw).mono ?_; rintro e w1 ⟨A1, q1, rfl, hown, hb1⟩
  have r0 := R3 w1 0 hb1
  have r1 := R3 w1 1 hb1
  have r2 := R3 w1 2 hb1
  have r3 := R3 w1 3 hb1
  have f0 := F3 0 w1 hb1
  have f1 := F3 1 w1 hb1
  have f2 := F3 2 w1 hb1
  have f3 := F3 3 w1 hb1
  have hB1 := bw_to hw hb1
  have hend : ∀ u0 u1 u2 u3, Below w.heap.size w ((((w1.setCell ⟨w.heap.size + 2, 0, none⟩ u0).setCell ⟨w.heap.size + 2, 1, none⟩ u1).setCell ⟨w.heap.size + 2, 2, none⟩ u2).setCell ⟨w.heap.size + 2, 3, none⟩ u3) := fun _ _ _ _ =>
    grow_set (grow_set (grow_set (grow_set hB1 (Nat.le_add_right _ 2) _) (Nat.le_add_right _ 2) _) (Nat.le_add_right _ 2) _) (Nat.le_add_right _ 2) _
  have Hend := Lib.hid hend
  clear hown hend
  cases b
  · have HE := Lib.hid (Hn1.out rfl)
    go_wp2_with fail
    refine bodyPost_ret (v := .tuple #[.agg #[.string ⟨#[]⟩, .int .i64 0, .int .i64 0, .int .i64 0], .bool false]) (by simp [results, go_sem, r0, r1, r2, r3]) rfl ⟨by rw [HE.out.1, HE.out.2]; rfl, Hend.out _ _ _ _⟩
  · cases hd : decide (0 ≤ x ∧ x ≤ 100)
    · have HE := Lib.hid (Hn2.out hd)
      have Hd := Lib.hid hd
      clear hd
      go_wp2_with (go_at_call 68; refine (l1In_any _ _ _ _).mono ?_; rintro e w' ⟨rfl, rfl⟩; rw [Hd.out])
      refine bodyPost_ret (v := .tuple #[.agg #[.string ⟨#[]⟩, .int .i64 0, .int .i64 0, .int .i64 0], .bool false]) (by simp [results, go_sem, r0, r1, r2, r3]) rfl ⟨by rw [HE.out.1, HE.out.2]; rfl, Hend.out _ _ _ _⟩
    · have HE := Lib.hid (Hy.out rfl hd)
      have Hd := Lib.hid hd
      clear hd
      go_wp2_with (go_at_call 68; refine (l1In_any _ _ _ _).mono ?_; rintro e w' ⟨rfl, rfl⟩; rw [Hd.out])
      refine bodyPost_ret (v := .tuple #[.agg #[.string m.name, .int .i64 m.stage, .int .i64 (L.length : Int), .int .i64 x], .bool true]) (by simp [results, go_sem, r0, r1, r2, r3]) rfl ⟨by rw [HE.out.1, HE.out.2]; rfl, Hend.out _ _ _ _⟩
end Go.Proofs.YtofpjbdelmmclaaGreatDoor
