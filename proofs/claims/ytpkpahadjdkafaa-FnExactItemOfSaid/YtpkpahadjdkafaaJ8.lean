/- ItemOf on both sides, and its law. -/
import Derived.Test.YtpkpahadjdkafaaJ7
import Derived.Test.YtpkpahadjdkafaaC1
namespace Go.Proofs.Ytpkpahadjdkafaa
open Go Go.RowKit
set_option linter.unusedVariables false
set_option linter.unusedSimpArgs false

def okI (m : Mt) (k : Cl) (t : ByteArray) (x : Int) : Bool := okT m k t && decide (0 ≤ x ∧ x ≤ 100)
def itO (m : Mt) (k : Cl) (t : ByteArray) (x : Int) : It := if okI m k t x then ⟨m.name, m.stage, ((rowsO m k t).length : Int), x⟩ else ⟨⟨#[]⟩, 0, 0, 0⟩
theorem okI_no {m : Mt} {k : Cl} {t : ByteArray} (x : Int) (h : okT m k t = false) : okI m k t x = false ∧ itO m k t x = ⟨⟨#[]⟩, 0, 0, 0⟩ := by
  have : okI m k t x = false := by unfold okI; rw [h]; rfl
  exact ⟨this, by unfold itO; rw [this]; rfl⟩
theorem okI_no2 {m : Mt} {k : Cl} {t : ByteArray} {x : Int} (h : decide (0 ≤ x ∧ x ≤ 100) = false) : okI m k t x = false ∧ itO m k t x = ⟨⟨#[]⟩, 0, 0, 0⟩ := by
  have : okI m k t x = false := by unfold okI; rw [h, Bool.and_false]
  exact ⟨this, by unfold itO; rw [this]; rfl⟩
theorem okI_yes {m : Mt} {k : Cl} {t : ByteArray} {x : Int} (h : okT m k t = true) (h2 : decide (0 ≤ x ∧ x ≤ 100) = true) : okI m k t x = true ∧ itO m k t x = ⟨m.name, m.stage, ((rowsO m k t).length : Int), x⟩ := by
  have : okI m k t x = true := by unfold okI; rw [h, h2]; rfl
  exact ⟨this, by unfold itO; rw [if_pos this]⟩
def It.v (x : It) : Value := .agg #[.string x.name, .int .i64 x.stage, .int .i64 x.rows, .int .i64 x.worth]
set_option maxHeartbeats 2000000 in
theorem implItemOf_any (m : Mt) (v : Value) (k : Cl) (t : ByteArray) (x : Int) (w : World) (h : MethAt w m v) (hs : MtSmall m) (hk : ClSmall k) (ht : t.size ≤ 1048576) : Calls Try.prog 12 #[m.v v, k.v, .string t, .int .i64 x] w fun e w' =>
    e = .returned (.tuple #[(itO m k t x).v, .bool (okI m k t x)]) ∧ Below w.heap.size w w' := by
  have Hr := Lib.hid (fun W hW => implTouchRows_any m v k t W (h.to hW) hs hk (Nat.le_trans ht (by unfold maxLen; omega)))
  have Hn1 := Lib.hid (fun h => okI_no (m := m) (k := k) (t := t) x h)
  have Hn2 := Lib.hid (fun h => okI_no2 (m := m) (k := k) (t := t) (x := x) h)
  have Hy := Lib.hid (fun h h2 => okI_yes (m := m) (k := k) (t := t) (x := x) h h2)
  obtain ⟨A, c, hv⟩ := h.form
  subst hv
  obtain ⟨b, hb⟩ : ∃ b, b = okT m k t := ⟨_, rfl⟩
  obtain ⟨L, hL⟩ : ∃ L, L = rowsO m k t := ⟨_, rfl⟩
  rw [← hb, ← hL] at Hr
  rw [← hb] at Hn1 Hy
  rw [← hL] at Hy
  unfold Mt.v Cl.v at *
  clear h hb hL
  go_enter Try.func12, Try.ntmps12
  go_wp2_with fail
  refine box3s (C := fun W => Calls _ _ _ W _) ?_
  intro wb hw hwsz k1 k2 k3 hB0
  have R1 := boxRule k1
  have R2 := boxRule k2
  have R3 := boxRule k3
  have F3 := fun j W hb => frozen_of_heap k3 j (w' := W) hb
  have Hwsz := Lib.hid hwsz
  clear k1 k2 k3 hwsz
  refine (Hr.out _ hw).mono ?_; rintro e w1 ⟨A1, q1, rfl, hown, hb1⟩
  have r0 := R3 w1 0 hb1
  have r1 := R3 w1 1 hb1
  have r2 := R3 w1 2 hb1
  have r3 := R3 w1 3 hb1
  have f0 := F3 0 w1 hb1
  have f1 := F3 1 w1 hb1
  have f2 := F3 2 w1 hb1
  have f3 := F3 3 w1 hb1
  have hB1 := bw_to hw hb1
  have hend : ∀ u0 u1 u2 u3, Below w.heap.size w ((((w1.setCell ⟨w.heap.size + 2, 0, none⟩ u0).setCell ⟨w.heap.size + 2, 1, none⟩ u1).setCell ⟨w.heap.size + 2, 2, none⟩ u2).setCell ⟨w.heap.size + 2, 3, none⟩ u3) := fun _ _ _ _ =>
    grow_set (grow_set (grow_set (grow_set hB1 (Nat.le_add_right _ 2) _) (Nat.le_add_right _ 2) _) (Nat.le_add_right _ 2) _) (Nat.le_add_right _ 2) _
  have Hend := Lib.hid hend
  clear hown hend
  cases b
  · have HE := Lib.hid (Hn1.out rfl)
    go_wp2_with fail
    refine bodyPost_ret (v := .tuple #[.agg #[.string ⟨#[]⟩, .int .i64 0, .int .i64 0, .int .i64 0], .bool false]) (by simp [results, go_sem, r0, r1, r2, r3]) rfl ⟨by rw [HE.out.1, HE.out.2]; rfl, Hend.out _ _ _ _⟩
  · cases hd : decide (0 ≤ x ∧ x ≤ 100)
    · have HE := Lib.hid (Hn2.out hd)
      have Hd := Lib.hid hd
      clear hd
      go_wp2_with (go_at_call 39; refine (within_any _ _ _ _).mono ?_; rintro e w' ⟨rfl, rfl⟩; rw [Hd.out])
      refine bodyPost_ret (v := .tuple #[.agg #[.string ⟨#[]⟩, .int .i64 0, .int .i64 0, .int .i64 0], .bool false]) (by simp [results, go_sem, r0, r1, r2, r3]) rfl ⟨by rw [HE.out.1, HE.out.2]; rfl, Hend.out _ _ _ _⟩
    · have HE := Lib.hid (Hy.out rfl hd)
      have Hd := Lib.hid hd
      clear hd
      go_wp2_with (go_at_call 39; refine (within_any _ _ _ _).mono ?_; rintro e w' ⟨rfl, rfl⟩; rw [Hd.out])
      refine bodyPost_ret (v := .tuple #[.agg #[.string m.name, .int .i64 m.stage, .int .i64 (L.length : Int), .int .i64 x], .bool true]) (by simp [results, go_sem, r0, r1, r2, r3]) rfl ⟨by rw [HE.out.1, HE.out.2]; rfl, Hend.out _ _ _ _⟩
set_option maxHeartbeats 2000000 in
theorem specItemOf_any (m : Mt) (v : Value) (k : Cl) (t : ByteArray) (x : Int) (w : World) (h : MethAt w m v) (hs : MtSmall m) (hk : ClSmall k) (ht : t.size ≤ 1048576) : Calls Try.prog 9 #[m.v v, k.v, .string t, .int .i64 x] w fun e w' =>
    e = .returned (.tuple #[(itO m k t x).v, .bool (okI m k t x)]) ∧ Below w.heap.size w w' := by
  have Hr := Lib.hid (fun W hW => specTouchRows_any m v k t W (h.to hW) hs hk ht)
  have Hn1 := Lib.hid (fun h => okI_no (m := m) (k := k) (t := t) x h)
  have Hn2 := Lib.hid (fun h => okI_no2 (m := m) (k := k) (t := t) (x := x) h)
  have Hy := Lib.hid (fun h h2 => okI_yes (m := m) (k := k) (t := t) (x := x) h h2)
  obtain ⟨A, c, hv⟩ := h.form
  subst hv
  obtain ⟨b, hb⟩ : ∃ b, b = okT m k t := ⟨_, rfl⟩
  obtain ⟨L, hL⟩ : ∃ L, L = rowsO m k t := ⟨_, rfl⟩
  rw [← hb, ← hL] at Hr
  rw [← hb] at Hn1 Hy
  rw [← hL] at Hy
  unfold Mt.v Cl.v at *
  clear h hb hL
  go_enter Try.func9, Try.ntmps9
  go_wp2_with fail
  refine box3s (C := fun W => Calls _ _ _ W _) ?_
  intro wb hw hwsz k1 k2 k3 hB0
  have R1 := boxRule k1
  have R2 := boxRule k2
  have R3 := boxRule k3
  have F3 := fun j W hb => frozen_of_heap k3 j (w' := W) hb
  have Hwsz := Lib.hid hwsz
  clear k1 k2 k3 hwsz
  refine (Hr.out _ hw).mono ?_; rintro e w1 ⟨A1, q1, rfl, hown, hb1⟩
  have r0 := R3 w1 0 hb1
  have r1 := R3 w1 1 hb1
  have r2 := R3 w1 2 hb1
  have r3 := R3 w1 3 hb1
  have f0 := F3 0 w1 hb1
  have f1 := F3 1 w1 hb1
  have f2 := F3 2 w1 hb1
  have f3 := F3 3 w1 hb1
  have hB1 := bw_to hw hb1
  have hend : ∀ u0 u1 u2 u3, Below w.heap.size w ((((w1.setCell ⟨w.heap.size + 2, 0, none⟩ u0).setCell ⟨w.heap.size + 2, 1, none⟩ u1).setCell ⟨w.heap.size + 2, 2, none⟩ u2).setCell ⟨w.heap.size + 2, 3, none⟩ u3) := fun _ _ _ _ =>
    grow_set (grow_set (grow_set (grow_set hB1 (Nat.le_add_right _ 2) _) (Nat.le_add_right _ 2) _) (Nat.le_add_right _ 2) _) (Nat.le_add_right _ 2) _
  have Hend := Lib.hid hend
  clear hown hend
  cases b
  · have HE := Lib.hid (Hn1.out rfl)
    go_wp2_with fail
    refine bodyPost_ret (v := .tuple #[.agg #[.string ⟨#[]⟩, .int .i64 0, .int .i64 0, .int .i64 0], .bool false]) (by simp [results, go_sem, r0, r1, r2, r3]) rfl ⟨by rw [HE.out.1, HE.out.2]; rfl, Hend.out _ _ _ _⟩
  · cases hd : decide (0 ≤ x ∧ x ≤ 100)
    · have HE := Lib.hid (Hn2.out hd)
      have Hd := Lib.hid hd
      clear hd
      go_wp2_with (go_at_call 37; refine (l1In_any _ _ _ _).mono ?_; rintro e w' ⟨rfl, rfl⟩; rw [Hd.out])
      refine bodyPost_ret (v := .tuple #[.agg #[.string ⟨#[]⟩, .int .i64 0, .int .i64 0, .int .i64 0], .bool false]) (by simp [results, go_sem, r0, r1, r2, r3]) rfl ⟨by rw [HE.out.1, HE.out.2]; rfl, Hend.out _ _ _ _⟩
    · have HE := Lib.hid (Hy.out rfl hd)
      have Hd := Lib.hid hd
      clear hd
      go_wp2_with (go_at_call 37; refine (l1In_any _ _ _ _).mono ?_; rintro e w' ⟨rfl, rfl⟩; rw [Hd.out])
      refine bodyPost_ret (v := .tuple #[.agg #[.string m.name, .int .i64 m.stage, .int .i64 (L.length : Int), .int .i64 x], .bool true]) (by simp [results, go_sem, r0, r1, r2, r3]) rfl ⟨by rw [HE.out.1, HE.out.2]; rfl, Hend.out _ _ _ _⟩
set_option maxHeartbeats 1000000 in
theorem eqItem_v (x : It) (w : World) : Calls Try.prog 13 #[x.v, x.v] w fun e w' => e = .returned (.bool true) ∧ Below w.heap.size w w' := by
  unfold It.v
  go_enter Try.func13, Try.ntmps13
  go_wp2_with fail
  go_ret
  exact ⟨rfl, bw_al (bw_al (Below.refl _ _) _) _⟩
set_option maxHeartbeats 1000000 in
theorem szCalls_any (k : Cl) (k0 : Int) (w : World) (h : ClFit k) (h0 : 0 ≤ k0) (hk0 : k0 ≤ 1048576) : Calls Try.prog 8 #[k.v, .int .i64 k0] w fun e w' =>
    ∃ r : Int, e = .returned (.int .i64 r) ∧ -1 ≤ r ∧ r ≤ 1048576 ∧ (0 ≤ r → ClSmall k) ∧ Below w.heap.size w w' := by
  unfold Cl.v
  have h1 := h.1
  have h2 := h.2
  unfold maxLen at h1 h2
  clear h
  go_enter Try.func8, Try.ntmps8
  go_wp2_with fail
  · go_ret
    exact ⟨_, rfl, by omega, by omega, fun h => absurd h (by omega), bw_al (Below.refl _ _) _⟩
  · go_ret
    exact ⟨_, rfl, by omega, by omega, fun h => absurd h (by omega), bw_al (Below.refl _ _) _⟩
  · go_ret
    exact ⟨_, rfl, by omega, by omega, fun h => ⟨by omega, by omega⟩, bw_al (Below.refl _ _) _⟩
set_option maxHeartbeats 1000000 in
theorem toCalls_any (k : Cl) (w : World) : Calls Try.prog 11 #[k.v] w fun e w' => e = .returned k.v ∧ Below w.heap.size w w' := by
  unfold Cl.v
  go_enter Try.func11, Try.ntmps11
  go_wp2_with fail
  refine bodyPost_ret (v := .agg #[.string k.bob, .string k.single]) (by simp [results, go_sem]) rfl ⟨rfl, ?_⟩
  exact bw_al (bw_al (bw_al (Below.refl _ _) _) _) _
/-- A box of an item of the call's own. -/
def IBox (w : World) (base G : Nat) (y : It) : Prop := w.ownsRow base 30 4 (.slice (some ⟨G, 0, none⟩) 1 1) 1 [.string y.name, .int .i64 y.stage, .int .i64 y.rows, .int .i64 y.worth]
theorem box_inD {X w' : World} {o : Obj} (hb : Below (X.alloc o).drew.heap.size (X.alloc o).drew w') : w'.heap[X.heap.size]? = some o := (hb.block _ (show X.heap.size < (X.alloc o).heap.size by simp)).trans (heap_new X o)
theorem ibox_al {W : World} {base : Nat} {y : It} (hb : base ≤ W.heap.size) : IBox (W.alloc (.cells #[.string y.name, .int .i64 y.stage, .int .i64 y.rows, .int .i64 y.worth] 30)) base W.heap.size y :=
  own_of_heap (heap_new _ _) hb (by unfold maxLen; omega) rfl
theorem ibox_set {W : World} {base G : Nat} {y : It} {x0 x1 x2 x3 : Value} (hk : W.heap[G]? = some (.cells #[x0, x1, x2, x3] 30 (0, 0))) (hG : base ≤ G) :
    IBox ((((W.setCell ⟨G, 0, none⟩ (.string y.name)).setCell ⟨G, 1, none⟩ (.int .i64 y.stage)).setCell ⟨G, 2, none⟩ (.int .i64 y.rows)).setCell ⟨G, 3, none⟩ (.int .i64 y.worth)) base G y := by
  have hbox : W.ownsRow base 30 4 (.slice (some ⟨G, 0, none⟩) 1 1) 1 [x0, x1, x2, x3] := own_of_heap hk hG (by unfold maxLen; omega) rfl
  exact own_set (own_set (own_set (own_set hbox 0 _) 1 _) 2 _) 3 _
theorem ibox_cells {w W : World} {base G : Nat} {y : It} (h : IBox w base G y) (hb : Below w.heap.size w W) :
    W.cell? ⟨G, 0, none⟩ = some (.string y.name) ∧ W.cell? ⟨G, 1, none⟩ = some (.int .i64 y.stage) ∧ W.cell? ⟨G, 2, none⟩ = some (.int .i64 y.rows) ∧ W.cell? ⟨G, 3, none⟩ = some (.int .i64 y.worth) := by
  have h := own_to h hb
  exact ⟨(h.cellAt 0 (by omega)).trans rfl, (h.cellAt 1 (by omega)).trans rfl, (h.cellAt 2 (by omega)).trans rfl, (h.cellAt 3 (by omega)).trans rfl⟩
theorem set4_low {a w : World} {B g : Nat} {x y z u : Value} (h : Below B a w) (hg : B ≤ g) : Below B a ((((w.setCell ⟨g, 0, none⟩ x).setCell ⟨g, 1, none⟩ y).setCell ⟨g, 2, none⟩ z).setCell ⟨g, 3, none⟩ u) :=
  (((h.setCell (p := ⟨g, 0, none⟩) hg x).setCell (p := ⟨g, 1, none⟩) hg y).setCell (p := ⟨g, 2, none⟩) hg z).setCell (p := ⟨g, 3, none⟩) hg u
theorem toMethod_ag (m : Mt) (v : Value) (w : World) (h1 : MethAt w m v) (hs : MtSmall m) : Calls Try.prog 10 #[.agg #[.string m.name, .int .i64 m.stage, v]] w fun e w' => ∃ A c, e = .returned (.agg #[.string m.name, .int .i64 m.stage, .slice A m.l.length c]) ∧ w'.ownsRow w.heap.size 9 1 (.slice A m.l.length c) m.l.length (m.l.map Value.string) ∧ MethAt w' m (.slice A m.l.length c) ∧ Below w.heap.size w w' := by
  refine (toMethod_any m v w h1 hs).mono fun e w' ⟨r, e1, h3, h4⟩ => ?_
  obtain ⟨A, c, hr, _⟩ := sl_of_own h3
  subst hr
  exact ⟨A, c, e1, h3, ⟨strs_of_own h3, h1.2⟩, h4⟩
set_option maxRecDepth 100000 in
set_option maxHeartbeats 4000000 in
theorem lawItemOf_any (m : Mt) (v : Value) (k : Cl) (t : ByteArray) (x : Int) (w : World) (hm : MethAt w m v) (hk : ClFit k) (ht : t.size ≤ maxLen) : Calls Try.prog 3 #[m.v v, k.v, .string t, .int .i64 x] w fun e w' => e = .returned (.bool true) ∧ Below w.heap.size w w' := by
  obtain ⟨b, hb⟩ : ∃ b, b = okI m k t x := ⟨_, rfl⟩
  obtain ⟨y, hy⟩ : ∃ y, y = itO m k t x := ⟨_, rfl⟩
  have Hb := Lib.hid hb
  have Hy := Lib.hid hy
  have Hm := Lib.hid hm
  have hk1 := hk.1
  have hk2 := hk.2
  have Hk := Lib.hid hk
  unfold maxLen at ht hk1 hk2
  obtain ⟨A, c, hv⟩ := hm.form
  subst hv
  clear hb hy hm hk
  unfold Mt.v Cl.v
  by_cases hbig : 1048576 < t.size
  · have hbz : (1048576 : Int) < t.size := by omega
    go_enter Try.func3, Try.ntmps3
    go_wp2_with fail
    go_ret
    exact ⟨rfl, bw_al (bw_al (Below.refl _ _) _) _⟩
  · have ht2 : t.size ≤ 1048576 := by omega
    have hbz : (t.size : Int) ≤ 1048576 := by omega
    go_enter Try.func3, Try.ntmps3
    go_wp2_with fail
    refine box2 (C := fun W => Calls _ _ _ W _) ?_
    intro wb hw k1 k2 hB0
    have R1 := boxRule k1
    have R2 := boxRule k2
    clear k1 k2
    have Hz1 := Lib.hid (fun W hW => szMethod_any m (.slice A m.l.length c) 1048576 W (Hm.out.to (bw_to hw hW)) (by omega) (by omega))
    have Hz2 := Lib.hid (fun k0 W => szCalls_any k k0 W Hk.out)
    unfold Mt.v Cl.v at *
    refine (Hz1.out _ hB0).mono ?_; rintro e w1 ⟨r, rfl, hr0, hr1, hrl, hb1⟩
    have Hrl := Lib.hid hrl
    clear hrl
    by_cases hneg : r < 0
    · go_wp2_with fail
      go_ret
      exact ⟨rfl, bw_to hw hb1⟩
    · have Sm := Lib.hid (Hrl.out (by omega))
      go_wp2_with fail
      refine (Hz2.out r _ (by omega) hr1).mono ?_; rintro e w2 ⟨r2, rfl, hr20, hr21, hrl2, hb2⟩
      have Hrl2 := Lib.hid hrl2
      have hB2 := bw_to hb1 hb2
      clear hrl2 hb1 hb2
      by_cases hneg2 : r2 < 0
      · go_wp2_with fail
        go_ret
        exact ⟨rfl, bw_to hw hB2⟩
      · have Sk := Lib.hid (Hrl2.out (by omega))
        have Hto := Lib.hid (fun W hW => toMethod_ag m (.slice A m.l.length c) W (Hm.out.to (bw_to hw hW)) Sm.out)
        have Htk := Lib.hid (fun W => toCalls_any k W)
        have Hsp := Lib.hid (fun A' c' W h => specItemOf_any m (.slice A' m.l.length c') k t x W h Sm.out Sk.out ht2)
        have Him := Lib.hid (fun A' c' W h => implItemOf_any m (.slice A' m.l.length c') k t x W h Sm.out Sk.out ht2)
        rw [← Hy.out, ← Hb.out] at Hsp Him
        unfold Mt.v Cl.v It.v at *
        have hdr : Below wb.heap.size wb w2.drew := hB2.drew
        go_upto_region 10 with fail
        go_cut [10, 11] (fun s10 s11 wx => ∃ G, s10 = .pointer (some ⟨G, 0, none⟩) ∧ s11 = .bool b ∧ IBox wx wb.heap.size G y ∧ Below wb.heap.size wb wx)
        case first =>
          go_region_held3 (fun W => Below wb.heap.size wb W) (first | with_reducible assumption | exact Below.drew (by assumption) | exact bw_to (by assumption) hb' | exact bw_al (by assumption) _ | exact set4_low (by assumption) (Below.size (by assumption)))
            (first | (go_at_call 9; refine (Hsp.out _ _ _ ?_).mono ?_; (· first | exact tm | exact tm.to (bw_al (Below.refl _ _) _)); rintro e w' ⟨rfl, hb'⟩; (have hBn := bw_to (by assumption : Below wb.heap.size wb _) hb'); (try ((first | have kb := box_in hb' | have kb := box_inD hb' | have kb := (hb'.block _ (blk_lt kb)).trans kb); have c0 := heap_cell kb 0; have c1 := heap_cell kb 1; have c2 := heap_cell kb 2; have c3 := heap_cell kb 3; have f0 := frozen_of_heap kb 0 (Below.refl _ _); have f1 := frozen_of_heap kb 1 (Below.refl _ _); have f2 := frozen_of_heap kb 2 (Below.refl _ _); have f3 := frozen_of_heap kb 3 (Below.refl _ _)))) | (go_at_call 11; refine (Htk.out _).mono ?_; rintro e w' ⟨rfl, hb'⟩; (have hBn := bw_to (by assumption : Below wb.heap.size wb _) hb'); (try (first | have tm := tm.to hb' | have tm := tm.to (bw_to (bw_al (Below.refl _ _) _) hb'))); (try (first | have kb := box_in hb' | have kb := box_inD hb' | have kb := (hb'.block _ (blk_lt kb)).trans kb))) | (go_at_call 10; refine (Hto.out _ (by assumption)).mono ?_; rintro e w' ⟨A1, c1, rfl, om, tm, hb'⟩; (have hBn := bw_to (by assumption : Below wb.heap.size wb _) hb'); (try (first | have kb := box_in hb' | have kb := box_inD hb' | have kb := (hb'.block _ (blk_lt kb)).trans kb))))
          all_goals
            have hBB : Below wb.heap.size wb w' := by assumption
            go_wp2_with fail
            go_meet
            refine ⟨_, rfl, rfl, ?_, ?_⟩
            · first
                | exact ibox_al hBB.size
                | (refine ibox_set kb ?_; refine Below.size (B := wb.heap.size) ?_; assumption)
            · first
                | exact bw_al hBB _
                | (refine set4_low hBB ?_; refine Below.size (B := wb.heap.size) ?_; assumption)
        case rest =>
          obtain ⟨G, rfl, rfl, hI, hB3⟩ := hcut
          clear hB2 hdr
          have HI := Lib.hid hI
          clear hI
          go_wp2_with fail
          refine (Hto.out _ hB3).mono ?_; rintro e w4 ⟨A1, c1, rfl, om, tm, hb4⟩
          go_upto_region 12 with fail
          refine box1 (C := fun W => Code.wp _ _ _ _ W) ?_
          intro w5 hw5 k5 hB05
          have RB := boxRule k5
          have hB5 := bw_to hB3 (bw_to hb4 hw5)
          have I5 := Lib.hid (own_to HI.out (bw_to hb4 hw5))
          have T5 := Lib.hid (tm.to hw5)
          have R15 := fun W i hb => R1 W i (bw_to hB5 hb)
          have R25 := fun W i hb => R2 W i (bw_to hB5 hb)
          have HR1 := Lib.hid R1
          have HR2 := Lib.hid R2
          have HB5 := Lib.hid hB5
          have hdr5 : Below w5.heap.size w5 w5.drew := Below.drew (Below.refl _ _)
          clear om tm hb4 hw5 k5 R1 R2 hB3 HI hB0
          go_cut [13, 14] (fun s13 s14 wx => ∃ G2, s13 = .pointer (some ⟨G2, 0, none⟩) ∧ s14 = .bool b ∧ IBox wx w5.heap.size G2 y ∧ Below w5.heap.size w5 wx)
          case first =>
            go_region_held3 (fun W => Below w5.heap.size w5 W) (first | with_reducible assumption | exact Below.drew (by assumption) | exact bw_to (by assumption) hb' | exact bw_al (by assumption) _ | exact set4_low (by assumption) (Below.size (by assumption)))
              (first | (go_at_call 12; refine (Him.out _ _ _ ?_).mono ?_; (· exact T5.out.to (by assumption)); rintro e w' ⟨rfl, hb'⟩; (have hBn := bw_to (by assumption : Below w5.heap.size w5 _) hb'); (try ((first | have kb := box_in hb' | have kb := box_inD hb' | have kb := (hb'.block _ (blk_lt kb)).trans kb); have c0 := heap_cell kb 0; have c1 := heap_cell kb 1; have c2 := heap_cell kb 2; have c3 := heap_cell kb 3; have f0 := frozen_of_heap kb 0 (Below.refl _ _); have f1 := frozen_of_heap kb 1 (Below.refl _ _); have f2 := frozen_of_heap kb 2 (Below.refl _ _); have f3 := frozen_of_heap kb 3 (Below.refl _ _)))) | (go_at_call 11; refine (Htk.out _).mono ?_; rintro e w' ⟨rfl, hb'⟩; (have hBn := bw_to (by assumption : Below w5.heap.size w5 _) hb'); (try (first | have kb := box_in hb' | have kb := box_inD hb' | have kb := (hb'.block _ (blk_lt kb)).trans kb))))
            all_goals
              have hBB : Below w5.heap.size w5 w' := by assumption
              go_wp2_with fail
              go_meet
              refine ⟨_, rfl, rfl, ?_, ?_⟩
              · first
                  | exact ibox_al hBB.size
                  | (refine ibox_set kb ?_; refine Below.size (B := w5.heap.size) ?_; assumption)
              · first
                  | exact bw_al hBB _
                  | (refine set4_low hBB ?_; refine Below.size (B := w5.heap.size) ?_; assumption)
          case rest =>
            obtain ⟨G2, rfl, rfl, hI2, hB6⟩ := hcut
            obtain ⟨a0, a1, a2, a3⟩ := ibox_cells hI2 (Below.refl _ _)
            obtain ⟨b0, b1, b2, b3⟩ := ibox_cells I5.out hB6
            have hBw6 := bw_to HB5.out hB6
            clear hI2 hdr5
            go_wp2_with (go_at_call 13; refine (eqItem_same y _).mono ?_; rintro e w7 ⟨rfl, hb7⟩)
            have hB7 := bw_to hB6 hb7
            have hBw7 := bw_to HB5.out hB7
            have hst := Below.refl w7.heap.size w7
            have hd7 : Below w7.heap.size w7 w7.drew := Below.drew hst
            have RB7 := fun W i hb => RB W i (bw_to hB7 hb)
            have R17 := fun W i hb => R15 W i (bw_to hB7 hb)
            have R27 := fun W i hb => R25 W i (bw_to hB7 hb)
            clear a0 a1 a2 a3 b0 b1 b2 b3 RB R15 R25 hB6 hBw6
            go_region_held3 (fun W => Below w7.heap.size w7 W) (first | with_reducible assumption | exact Below.drew (by assumption) | exact bw_to (by assumption) hb')
              (first | (go_at_call 14; refine (eqMethod_same m _ _ _ (Strs.to T5.out.1 (bw_to hB7 (by assumption))) tm.1).mono ?_; rintro e w' ⟨rfl, hb'⟩) | (go_at_call 10; refine (Hto.out _ (bw_to hBw7 (by assumption))).mono ?_; rintro e w' ⟨A1, c1, rfl, om, tm, hb'⟩))
            all_goals
              have hBB : Below w7.heap.size w7 w' := by assumption
              go_wp2_with fail
              go_ret
              exact ⟨rfl, bw_to hw (bw_to hBw7 hBB)⟩
end Go.Proofs.Ytpkpahadjdkafaa
