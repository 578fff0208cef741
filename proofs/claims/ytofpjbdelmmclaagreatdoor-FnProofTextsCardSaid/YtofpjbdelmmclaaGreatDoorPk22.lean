/- The lead heads of a method with its calls, and their group, both sides. -/
import Derived.Test.YtofpjbdelmmclaaGreatDoorPk21
import Derived.Test.YtofpjbdelmmclaaGreatDoorPk14
import Derived.Test.YtofpjbdelmmclaaGreatDoorPk15
import Derived.Test.YtofpjbdelmmclaaGreatDoorPk16
import Derived.Test.YtofpjbdelmmclaaGreatDoorPk12
import Derived.Test.YtofpjbdelmmclaaGreatDoorPk10
namespace Go.Proofs.YtofpjbdelmmclaaGreatDoor
open Go Go.RowKit
set_option linter.unusedVariables false
set_option linter.unusedSimpArgs false

theorem box4 {C : World → Prop} {w : World} {o1 o2 o3 o4 : Obj} (h : ∀ wb, Below w.heap.size w wb → wb.heap.size = w.heap.size + 4 → wb.heap[w.heap.size]? = some o1 → wb.heap[w.heap.size + 1]? = some o2 → wb.heap[w.heap.size + 2]? = some o3 → wb.heap[w.heap.size + 3]? = some o4 → Below wb.heap.size wb wb → C wb) : C ((((w.alloc o1).alloc o2).alloc o3).alloc o4) :=
  h _ (bw_al (bw_al (bw_al (bw_al (Below.refl _ _) o1) o2) o3) o4) (by simp) ((Below.heap_alloc _ _ _ (by first | (simp; done) | (simp; omega))).trans ((Below.heap_alloc _ _ _ (by first | (simp; done) | (simp; omega))).trans ((Below.heap_alloc _ _ _ (by simp)).trans (heap_new w o1))))
    ((Below.heap_alloc _ _ _ (by first | (simp; done) | (simp; omega))).trans ((Below.heap_alloc _ _ _ (by simp)).trans (by have := heap_new (w.alloc o1) o2; simpa using this)))
    ((Below.heap_alloc _ _ _ (by simp)).trans (by have := heap_new ((w.alloc o1).alloc o2) o3; simpa using this)) (by have := heap_new (((w.alloc o1).alloc o2).alloc o3) o4; simpa using this) (Below.refl _ _)
/-- What a good method with good calls gives. -/
structure BK (m : Mt) (k : Cl) (n T : Nat) (P B B' Q : ByteArray) : Prop where
  ok : callsB m k = true
  cg : CGood m k n
  hP : P = headB n m.l k.bob k.single 112
  hB : B = headB n m.l k.bob k.single 98
  inv : Inv2 n B B'
  hQ : Q = timesB P B'
  clo : IsClo n [P, B] T
  tb : T ≤ 16777216
theorem head_inv {n : Nat} (hn : n ≤ 8) (l : List ByteArray) (b s : ByteArray) (c : UInt8) : Inv n (headB n l b s c) := run_inv hn _ (Inv.rounds hn)
theorem head_perm {n : Nat} (hn : n ≤ 8) (l : List ByteArray) (b s : ByteArray) (c : UInt8) : PermR n (headB n l b s c) := run_perm hn _ (rounds_in hn) (PermR.rounds hn)
theorem bk_of {m : Mt} {k : Cl} (h : callsB m k = true) : ∃ n T P B B' Q, BK m k n T P B B' Q := by
  obtain ⟨n, hg⟩ := cgood_of h
  obtain ⟨B', hB'⟩ := inv2_of hg.m.hi (head_inv hg.m.hi m.l k.bob k.single 98)
  obtain ⟨T, hT, hc⟩ := clo_ex (n := n) hg.m.hi (gens := [headB n m.l k.bob k.single 112, headB n m.l k.bob k.single 98]) (fun g hg' => by
    rcases List.mem_cons.1 hg' with rfl | hg'
    · exact head_in hg.m.hi _ _ _ _
    · rw [List.mem_singleton.1 hg']; exact head_in hg.m.hi _ _ _ _)
  exact ⟨n, T, _, _, B', _, h, hg, rfl, rfl, hB', rfl, hc, hT⟩
theorem BK.hn {m : Mt} {k : Cl} {n T : Nat} {P B B' Q : ByteArray} (h : BK m k n T P B B' Q) : n ≤ 8 := h.cg.m.hi
theorem BK.invP {m : Mt} {k : Cl} {n T : Nat} {P B B' Q : ByteArray} (h : BK m k n T P B B' Q) : Inv n P := by rw [h.hP]; exact head_inv h.hn _ _ _ _
theorem BK.invB {m : Mt} {k : Cl} {n T : Nat} {P B B' Q : ByteArray} (h : BK m k n T P B B' Q) : Inv n B := by rw [h.hB]; exact head_inv h.hn _ _ _ _
theorem BK.invQ {m : Mt} {k : Cl} {n T : Nat} {P B B' Q : ByteArray} (h : BK m k n T P B B' Q) : Inv n Q := by rw [h.hQ]; exact h.invP.times h.hn ⟨h.inv.hb, B, h.inv.ha, h.inv.ba, h.inv.ab⟩
theorem BK.gin {m : Mt} {k : Cl} {n T : Nat} {P B B' Q : ByteArray} (h : BK m k n T P B B' Q) : ∀ g ∈ [P, B], RowIn n g := fun g hg => by
  rcases List.mem_cons.1 hg with rfl | hg
  · exact h.invP.1
  · rw [List.mem_singleton.1 hg]; exact h.invB.1
theorem BK.gperm {m : Mt} {k : Cl} {n T : Nat} {P B B' Q : ByteArray} (h : BK m k n T P B B' Q) : ∀ g ∈ [P, B], PermR n g := fun g hg => by
  rcases List.mem_cons.1 hg with rfl | hg
  · rw [h.hP]; exact head_perm h.hn _ _ _ _
  · rw [List.mem_singleton.1 hg, h.hB]; exact head_perm h.hn _ _ _ _
theorem grow_setB {a w : World} {B : Nat} (h : Below B a w) {g j : Nat} (hg : B ≤ g) (u : Value) : Below B a (w.setCell ⟨g, j, none⟩ u) := h.setCell (p := ⟨g, j, none⟩) hg u
theorem frz {w w' : World} {g B : Nat} {cs : Array Value} {t : TypeId} (h : w.heap[g]? = some (.cells cs t (0, 0))) (j : Nat) (hg : g < B) (hb : Below B w w') : w'.frozen? ⟨g, j, none⟩ = false := by
  have h2 := (hb.block g hg).trans h
  simp [World.frozen?, h2]
/-- The reference's box of lead heads in block g. -/
def CB (W : World) (g : Nat) (a b c d : Value) : Prop := W.ownsRow g 146 4 (.slice (some ⟨g, 0, none⟩) 1 1) 1 [a, b, c, d]
theorem CB.to {W W' : World} {g : Nat} {a b c d : Value} (h : CB W g a b c d) (hb : Below W.heap.size W W') : CB W' g a b c d := own_to h hb
theorem CB.cells {W : World} {g : Nat} {a b c d : Value} (h : CB W g a b c d) : (W.cell? ⟨g, 0, none⟩ = some a ∧ W.cell? ⟨g, 1, none⟩ = some b ∧ W.cell? ⟨g, 2, none⟩ = some c ∧ W.cell? ⟨g, 3, none⟩ = some d) ∧ (W.frozen? ⟨g, 0, none⟩ = false ∧ W.frozen? ⟨g, 1, none⟩ = false ∧ W.frozen? ⟨g, 2, none⟩ = false ∧ W.frozen? ⟨g, 3, none⟩ = false) :=
  ⟨⟨(h.cellAt 0 (by omega)).trans rfl, (h.cellAt 1 (by omega)).trans rfl, (h.cellAt 2 (by omega)).trans rfl, (h.cellAt 3 (by omega)).trans rfl⟩, h.frozenAt _, h.frozenAt _, h.frozenAt _, h.frozenAt _⟩
set_option maxRecDepth 100000 in
set_option maxHeartbeats 8000000 in
theorem l17Of_yes (m : Mt) (v : Value) (k : Cl) (n T : Nat) (P B B' Q : ByteArray) (w : World) (hK : BK m k n T P B B' Q) (h : MethAt w m v) (hs : MtSmall m) (hk : ClSmall k) : Calls Tryz.prog 138 #[m.v v, k.v] w fun e w' =>
    ∃ A q, e = .returned (.tuple #[.agg #[.string P, .string B, .string Q, .slice A (grp8 (cloB n [P, B] T)).length q], .bool (decide ((cloB n [P, B] T).length ≤ 130))]) ∧ w'.ownsRow w.heap.size 9 1 (.slice A (grp8 (cloB n [P, B] T)).length q) (grp8 (cloB n [P, B] T)).length ((grp8 (cloB n [P, B] T)).map Value.string) ∧ Below w.heap.size w w' := by
  have H112 := Lib.hid (fun W (hW : Below w.heap.size w W) => specCallHead_yes m v k n 112 (.inl rfl) W hK.cg hK.ok (h.to hW) hs hk)
  have H98 := Lib.hid (fun W (hW : Below w.heap.size w W) => specCallHead_yes m v k n 98 (.inr rfl) W hK.cg hK.ok (h.to hW) hs hk)
  rw [← hK.hP] at H112
  rw [← hK.hB] at H98
  have Hge := Lib.hid (fun V W (hV : Strs W V [P, B]) => l6Close_any n T [P, B] V W hK.hn hK.gin hK.gperm hV (by simp) (by simp) hK.clo hK.tb)
  have Htu := Lib.hid (fun W => l1Turn_any n B B' W hK.inv)
  have hPs := hK.invP.1.1
  have Hti := Lib.hid (fun W => l1Times_any P B' W (by rw [hPs]; have := hK.hn; omega) (by rw [hK.inv.hb.1]; have := hK.hn; omega) (row_hin hPs hK.inv.hb))
  rw [← hK.hQ] at Hti
  obtain ⟨F, hF⟩ : ∃ F, F = cloB n [P, B] T := ⟨_, rfl⟩
  obtain ⟨u8, hu8⟩ : ∃ u, u = decide (F.length ≤ 800) := ⟨_, rfl⟩
  obtain ⟨u, hu⟩ : ∃ u, u = decide (F.length ≤ 130) := ⟨_, rfl⟩
  obtain ⟨G, hG⟩ : ∃ G, G = grp8 F := ⟨_, rfl⟩
  have hlen : u8 = true → G.length = F.length := fun e => by rw [hG, grp8_yes (of_decide_eq_true (hu8.symm.trans e)), sortB_len]
  have hu80 : u8 = false → u = false := fun e => by rw [hu]; exact decide_eq_false (fun h => by have := of_decide_eq_false (hu8.symm.trans e); omega)
  have hu81 : u8 = true → u = decide (G.length ≤ 130) := fun e => by rw [hu, hlen e]
  have Hlen := Lib.hid hu80
  have Hlen1 := Lib.hid hu81
  simp only [← hF, ← hu8, ← hu, ← hG] at Hge ⊢
  obtain ⟨A, c, hv⟩ := h.form
  subst hv
  unfold Mt.v Cl.v callT at *
  clear h hK hF hu hu8 hG hPs hlen hu80 hu81
  go_enter Tryz.func138, Tryz.ntmps138
  go_wp2_with fail
  refine box4 (C := fun W => Calls _ _ _ W _) ?_
  intro wb hw hwsz k1 k2 k3 k4 hB0
  have R1 := fun i W (hW : Below (w.heap.size + 3) wb W) => boxRuleB k1 (by omega) W i hW
  have R2 := fun i W (hW : Below (w.heap.size + 3) wb W) => boxRuleB k2 (by omega) W i hW
  have R3 := fun i W (hW : Below (w.heap.size + 3) wb W) => boxRuleB k3 (by omega) W i hW
  have F3 := fun j W (hW : Below (w.heap.size + 3) wb W) => frz k3 j (by omega) hW
  have hcb0 : CB wb (w.heap.size + 3) (.string ⟨#[]⟩) (.string ⟨#[]⟩) (.string ⟨#[]⟩) (.slice none 0 0) := own_of_heap k4 (Nat.le_refl _) (by unfold maxLen; omega) rfl
  have hlow : ∀ W, Below (w.heap.size + 3) wb W → Below w.heap.size w W := fun W hW => hw.trans (hW.mono (by omega))
  have Hlow := Lib.hid hlow
  have Hwsz := Lib.hid hwsz
  clear k1 k2 k3 k4 hlow
  refine (H112.out _ hw).mono ?_; rintro e w1 ⟨rfl, hb1⟩
  have hL1 : Below (w.heap.size + 3) wb w1 := hb1.mono (by omega)
  have hc1 := hcb0.to hb1
  have r1 := fun i => R1 i _ hL1
  have r2 := fun i => R2 i _ hL1
  go_wp2_with fail
  refine (H98.out _ (Hlow.out _ hL1)).mono ?_; rintro e w2 ⟨rfl, hb2⟩
  have hz1 : wb.heap.size ≤ w1.heap.size := hb1.size
  have hL2 : Below (w.heap.size + 3) wb w2 := hL1.trans (hb2.mono (by omega))
  have hz2 : wb.heap.size ≤ w2.heap.size := Nat.le_trans hz1 hb2.size
  have hc2 := hc1.to hb2
  obtain ⟨⟨x0, x1, x2, x3⟩, g0, g1, g2, g3⟩ := hc2.cells
  have hc3 : CB ((w2.setCell ⟨w.heap.size + 3, 0, none⟩ (.string P)).setCell ⟨w.heap.size + 3, 1, none⟩ (.string B)) (w.heap.size + 3) (.string P) (.string B) (.string ⟨#[]⟩) (.slice none 0 0) := own_set (own_set hc2 0 (.string P)) 1 (.string B)
  have hL3 := grow_setB (grow_setB hL2 (Nat.le_refl _) (j := 0) (.string P)) (Nat.le_refl _) (j := 1) (.string B)
  clear r1 r2 hc1 hcb0
  go_wp2_with fail
  refine (Htu.out _).mono ?_; rintro e w4 ⟨rfl, hb4⟩
  have hz4 : wb.heap.size ≤ w4.heap.size := by have h := hb4.size; simp [World.setCell] at h; omega
  have hL4 : Below (w.heap.size + 3) wb w4 := hL3.trans (hb4.mono (by simp [World.setCell]; omega))
  have hc4 := hc3.to hb4
  clear hc3 hc2 x0 x1 x2 x3 g0 g1 g2 g3
  obtain ⟨⟨x0, x1, x2, x3⟩, g0, g1, g2, g3⟩ := hc4.cells
  have hc5 : CB (w4.setCell ⟨w.heap.size + 3, 2, none⟩ (.string Q)) (w.heap.size + 3) (.string P) (.string B) (.string Q) (.slice none 0 0) := own_set hc4 2 (.string Q)
  have hL5 := grow_setB hL4 (Nat.le_refl _) (j := 2) (.string Q)
  go_wp2_with (go_at_call 145; refine (Hti.out _).mono ?_; rintro e w' ⟨rfl, rfl⟩)
  refine box1 (C := fun W => Calls _ _ _ W _) ?_
  intro w6 hw6 k6 hB06
  obtain ⟨g6, hg6⟩ : ∃ g, g = (w4.setCell ⟨w.heap.size + 3, 2, none⟩ (.string Q)).heap.size := ⟨_, rfl⟩
  have hg6' : g6 = w4.heap.size := by rw [hg6]; simp [World.setCell]
  have hown6 : w6.ownsRow g6 9 1 (.slice (some ⟨g6, 0, none⟩) 2 2) 2 ([P, B].map Value.string) := by rw [hg6]; exact own_of_heap k6 (Nat.le_refl _) (by unfold maxLen; omega) rfl
  rw [hg6'] at hown6
  have hS6 : Strs w6 (.slice (some ⟨w4.heap.size, 0, none⟩) 2 2) [P, B] := strs_of_own hown6
  have hc6 := hc5.to hw6
  have hz6 : wb.heap.size ≤ w6.heap.size := by have h := hw6.size; rw [← hg6, hg6'] at h; omega
  have hL6 : Below (w.heap.size + 3) wb w6 := hL5.trans (hw6.mono (by rw [← hg6, hg6']; omega))
  clear k6 hown6 hg6 hg6' hc5 hc4 x0 x1 x2 x3 g0 g1 g2 g3
  refine (Hge.out _ _ hS6).mono ?_; rintro e w7 ⟨A7, q7, rfl, hown7, hb7⟩
  have hL7 : Below (w.heap.size + 3) wb w7 := hL6.trans (hb7.mono (by omega))
  have hc7 := hc6.to hb7
  obtain ⟨⟨x0, x1, x2, x3⟩, g0, g1, g2, g3⟩ := hc7.cells
  have r0 := R3 0 w7 hL7
  have r1 := R3 1 w7 hL7
  have r2 := R3 2 w7 hL7
  have r3 := R3 3 w7 hL7
  have f0 := F3 0 w7 hL7
  have f1 := F3 1 w7 hL7
  have f2 := F3 2 w7 hL7
  have f3 := F3 3 w7 hL7
  have Hown7 := Lib.hid hown7
  have hgl := sl_cap hown7
  have hl3 : w.heap.size + 3 < w6.heap.size := by omega
  have hl2 : w.heap.size + 2 < w6.heap.size := by omega
  have HEnd := Lib.hid (Hlow.out _ hL7)
  have Hn1 : Hid (w.heap.size ≤ w6.heap.size) := Lib.hid (by omega)
  clear hc6 hc7 hown7 hS6
  cases u8
  · have hu0 := Hlen.out rfl
    subst hu0
    go_wp2_with fail
    refine bodyPost_ret (v := .tuple #[.agg #[.string P, .string B, .string Q, .slice A7 G.length q7], .bool false]) (by simp [results, go_sem, r0, r1, r2, r3]) rfl ⟨A7, q7, rfl, ?_, ?_⟩
    · exact own_base (own_past (own_past (own_past (own_past (own_past Hown7.out hl3 _ _) hl2 _ _) hl2 _ _) hl2 _ _) hl2 _ _) Hn1.out
    · exact grow_set (grow_set (grow_set (grow_set (grow_set HEnd.out (Nat.le_add_right _ 3) _) (Nat.le_add_right _ 2) _) (Nat.le_add_right _ 2) _) (Nat.le_add_right _ 2) _) (Nat.le_add_right _ 2) _
  · have hu1 := Hlen1.out rfl
    have hdl : decide ((G.length : Int) ≤ 130) = u := by rw [hu1]; simp only [decide_eq_decide]; omega
    have Hu1 := Lib.hid hu1
    clear hu1
    cases u
    · go_wp2_with fail
      refine bodyPost_ret (v := .tuple #[.agg #[.string P, .string B, .string Q, .slice A7 G.length q7], .bool false]) (by simp [results, go_sem, r0, r1, r2, r3]) rfl ⟨A7, q7, rfl, ?_, ?_⟩
      · exact own_base (own_past (own_past (own_past (own_past (own_past Hown7.out hl3 _ _) hl2 _ _) hl2 _ _) hl2 _ _) hl2 _ _) Hn1.out
      · exact grow_set (grow_set (grow_set (grow_set (grow_set HEnd.out (Nat.le_add_right _ 3) _) (Nat.le_add_right _ 2) _) (Nat.le_add_right _ 2) _) (Nat.le_add_right _ 2) _) (Nat.le_add_right _ 2) _
    · go_wp2_with fail
      refine bodyPost_ret (v := .tuple #[.agg #[.string P, .string B, .string Q, .slice A7 G.length q7], .bool true]) (by simp [results, go_sem, r0, r1, r2, r3]) rfl ⟨A7, q7, rfl, ?_, ?_⟩
      · exact own_base (own_past (own_past (own_past (own_past (own_past Hown7.out hl3 _ _) hl2 _ _) hl2 _ _) hl2 _ _) hl2 _ _) Hn1.out
      · exact grow_set (grow_set (grow_set (grow_set (grow_set HEnd.out (Nat.le_add_right _ 3) _) (Nat.le_add_right _ 2) _) (Nat.le_add_right _ 2) _) (Nat.le_add_right _ 2) _) (Nat.le_add_right _ 2) _
set_option maxHeartbeats 4000000 in
theorem l17Of_no (m : Mt) (v : Value) (k : Cl) (w : World) (hno : callsB m k = false) (h : MethAt w m v) (hs : MtSmall m) (hk : ClSmall k) : Calls Tryz.prog 138 #[m.v v, k.v] w fun e w' =>
    e = .returned (.tuple #[.agg #[.string ⟨#[]⟩, .string ⟨#[]⟩, .string ⟨#[]⟩, .slice none 0 0], .bool false]) ∧ Below w.heap.size w w' := by
  have H112 := Lib.hid (fun W (hW : Below w.heap.size w W) => specCallHead_no m v k 112 (.inl rfl) W hno (h.to hW) hs hk)
  have H98 := Lib.hid (fun W (hW : Below w.heap.size w W) => specCallHead_no m v k 98 (.inr rfl) W hno (h.to hW) hs hk)
  obtain ⟨A, c, hv⟩ := h.form
  subst hv
  unfold Mt.v Cl.v callT at *
  clear h hno
  go_enter Tryz.func138, Tryz.ntmps138
  go_wp2_with fail
  refine box4 (C := fun W => Calls _ _ _ W _) ?_
  intro wb hw hwsz k1 k2 k3 k4 hB0
  have R1 := fun i W (hW : Below wb.heap.size wb W) => boxRule k1 W i hW
  have R2 := fun i W (hW : Below wb.heap.size wb W) => boxRule k2 W i hW
  have R3 := fun i W (hW : Below wb.heap.size wb W) => boxRule k3 W i hW
  have R4 := fun i W (hW : Below wb.heap.size wb W) => boxRule k4 W i hW
  have F3 := fun j W hb => frozen_of_heap k3 j (w' := W) hb
  have hsz2 : w.heap.size + 2 < wb.heap.size := blk_lt k3
  clear k1 k2 k3 k4
  refine (H112.out _ hw).mono ?_; rintro e w1 ⟨rfl, hb1⟩
  have r1 := fun i => R1 i _ hb1
  have r2 := fun i => R2 i _ hb1
  go_wp2_with fail
  refine (H98.out _ (bw_to hw hb1)).mono ?_; rintro e w2 ⟨rfl, hb2⟩
  have hB2 := bw_to hb1 hb2
  have r0 := R3 0 w2 hB2
  have r1' := R3 1 w2 hB2
  have r2' := R3 2 w2 hB2
  have r3 := R3 3 w2 hB2
  have s0 := R4 0 w2 hB2
  have s1 := R4 1 w2 hB2
  have s2 := R4 2 w2 hB2
  have s3 := R4 3 w2 hB2
  have f0 := F3 0 w2 hB2
  have f1 := F3 1 w2 hB2
  have f2 := F3 2 w2 hB2
  have f3 := F3 3 w2 hB2
  have Hend := Lib.hid (bw_to hw hB2)
  clear r1 r2
  go_wp2_with fail
  refine bodyPost_ret (v := .tuple #[.agg #[.string ⟨#[]⟩, .string ⟨#[]⟩, .string ⟨#[]⟩, .slice none 0 0], .bool false]) (by simp [results, go_sem, r0, r1', r2', r3]) rfl ⟨rfl, ?_⟩
  exact grow_set (grow_set (grow_set (grow_set Hend.out (Nat.le_add_right _ 2) _) (Nat.le_add_right _ 2) _) (Nat.le_add_right _ 2) _) (Nat.le_add_right _ 2) _
end Go.Proofs.YtofpjbdelmmclaaGreatDoor

/- Contracts: is a row among rising rows, is it among rows; the next head; the ring of a head. -/
namespace Go.Proofs.YtofpjbdelmmclaaGreatDoor
open Go Go.RowKit
set_option linter.unusedVariables false
set_option linter.unusedSimpArgs false

theorem bs_up {l : List ByteArray} {r : ByteArray} {h : Nat} (hs : SortedS l) (hh : h < l.length) (e : nmLt l[h] r = true) : ∀ k (hk : k < l.length), k < h + 1 → nmLt l[k] r = true := by
  intro k hk hk2
  rcases Nat.lt_or_ge k h with h3 | h3
  · cases hx : nmLt l[k] r
    · have h5 := (List.pairwise_iff_getElem.1 hs) k h hk hh h3
      rw [le_trans' hx h5] at e
      cases e
    · rfl
  · obtain rfl : k = h := by omega
    exact e
theorem bs_dn {l : List ByteArray} {r : ByteArray} {h : Nat} (hs : SortedS l) (hh : h < l.length) (e : nmLt l[h] r = false) : ∀ k (hk : k < l.length), h ≤ k → nmLt l[k] r = false := by
  intro k hk hk2
  rcases Nat.eq_or_lt_of_le hk2 with e2 | h4
  · subst e2; exact e
  · exact le_trans' e ((List.pairwise_iff_getElem.1 hs) h k hh hk h4)
set_option maxHeartbeats 2000000 in
theorem l1HasS_any (V : Value) (l : List ByteArray) (r : ByteArray) (w : World) (hV : Strs w V l) : Calls Tryz.prog 169 #[V, .string r] w fun e w' => e = .returned (.bool (decide (r ∈ l))) ∧ w = w' := by
  obtain ⟨A, c, rfl, h1, h2, hrd⟩ := hV
  unfold maxLen at h2
  go_enter Tryz.func169, Tryz.ntmps169
  go_wp2_with fail
  go_loop [9] (fun i => ∃ k : Nat, k ≤ l.length ∧ i = .int .i64 k ∧ r ∉ l.take k) (fun i => l.length - (intOf i).toNat)
  case atStart => exact ⟨0, by omega, rfl, by simp⟩
  case round =>
    obtain ⟨k, hk, rfl, hn⟩ := hrel
    have Hn := Lib.hid hn
    clear hn
    by_cases hlt : k < l.length
    · obtain ⟨ad, rfl, hC⟩ := strs_el hrd hlt
      have hC0 := hC w (Below.refl _ _)
      have He := Lib.hid (sl_beq l[k] r)
      have Hno : Hid (l[k] ≠ r → r ∉ l.take (k + 1)) := Lib.hid (fun h hm => by
        rw [List.take_succ_eq_append_getElem hlt, List.mem_append, List.mem_singleton] at hm
        rcases hm with hm | hm
        · exact Hn.out hm
        · exact h hm.symm)
      have Hyes : Hid (l[k] = r → r ∈ l) := Lib.hid (fun h => by rw [← h]; exact List.getElem_mem hlt)
      obtain ⟨x, hx⟩ : ∃ x, x = l[k] := ⟨_, rfl⟩
      rw [← hx] at hC0 He Hno Hyes
      clear hC hx
      cases hb : (x.toList == r.toList)
      · have Hne : Hid (x ≠ r) := Lib.hid (fun e => by rw [He.out, decide_eq_true e] at hb; cases hb)
        go_wp2_with fail
        exact ⟨⟨k + 1, by omega, by go_num, Hno.out Hne.out⟩, by simp [intOf]; omega⟩
      · have Hd := Lib.hid (decide_eq_true (Hyes.out (by rw [He.out] at hb; exact of_decide_eq_true hb)))
        go_wp2_with fail
        go_ret
        exact ⟨ret_bool Hd.out.symm, rfl⟩
    · have Hd := Lib.hid (decide_eq_false (fun h : r ∈ l => Hn.out (by rw [List.take_of_length_le (by omega)]; exact h)))
      go_wp2_with fail
      go_ret
      exact ⟨ret_bool Hd.out.symm, rfl⟩
end Go.Proofs.YtofpjbdelmmclaaGreatDoor

/- Contracts: the next head, the ring of a head, both sides. (Printed by a program: mkHH.) -/
namespace Go.Proofs.YtofpjbdelmmclaaGreatDoor
open Go Go.RowKit
set_option linter.unusedVariables false
set_option linter.unusedSimpArgs false

set_option maxHeartbeats 2000000 in
theorem nextS_any (n : Nat) (P B Q h : ByteArray) (gv Vb : Value) (bobs : List ByteArray) (w : World) (hn : n ≤ 8) (hP : RowIn n P) (hB : RowIn n B) (hh : RowIn n h) (hV : Strs w Vb bobs) (hs : SortedS bobs) (hbl : bobs.length ≤ 1000000) :
    Calls Tryz.prog 201 #[.agg #[.string P, .string B, .string Q, gv], Vb, .string h] w fun e w' => e = .returned (.string (nxB bobs P B h)) ∧ Below w.heap.size w w' := by
  have Hb := Lib.hid (fun W (hW : Below w.heap.size w W) => hV.to hW)
  have Hs := Lib.hid hs
  have Htb := Lib.hid (fun W => l1Times_any h B W (by rw [hh.1]; omega) (by rw [hB.1]; omega) (row_hin hh.1 hB))
  have Htp := Lib.hid (fun W => l1Times_any h P W (by rw [hh.1]; omega) (by rw [hP.1]; omega) (row_hin hh.1 hP))
  have Hy : Hid (h ∈ bobs → nxB bobs P B h = timesB h B) := Lib.hid (fun e => by unfold nxB; rw [if_pos e])
  have Hn : Hid (h ∉ bobs → nxB bobs P B h = timesB h P) := Lib.hid (fun e => by unfold nxB; rw [if_neg e])
  clear hV hs hP hB hh
  by_cases hm : h ∈ bobs
  · have Hd := Lib.hid (decide_eq_true hm)
    have HE := Lib.hid (Hy.out hm)
    clear hm
    go_enter Tryz.func201, Tryz.ntmps201
    go_wp2_with fail
    refine box1 (C := fun W => Calls _ _ _ W _) ?_
    intro wb hw k1 hB0
    have R1 := boxRule k1
    clear k1
    (try refine (l1HasS_any Vb bobs h wb (Hb.out wb hw)).mono ?_; rintro e w' ⟨rfl, rfl⟩; rw [Hd.out]; go_wp2_with fail)
    refine (Htb.out _).mono ?_; rintro e w2 ⟨rfl, rfl⟩
    go_wp2_with fail
    go_ret
    exact ⟨ret_str HE.out.symm, hw⟩
  · have Hd := Lib.hid (decide_eq_false hm)
    have HE := Lib.hid (Hn.out hm)
    clear hm
    go_enter Tryz.func201, Tryz.ntmps201
    go_wp2_with fail
    refine box1 (C := fun W => Calls _ _ _ W _) ?_
    intro wb hw k1 hB0
    have R1 := boxRule k1
    clear k1
    (try refine (l1HasS_any Vb bobs h wb (Hb.out wb hw)).mono ?_; rintro e w' ⟨rfl, rfl⟩; rw [Hd.out]; go_wp2_with fail)
    refine (Htp.out _).mono ?_; rintro e w2 ⟨rfl, rfl⟩
    go_wp2_with fail
    go_ret
    exact ⟨ret_str HE.out.symm, hw⟩
set_option maxRecDepth 10000 in
set_option maxHeartbeats 4000000 in
theorem ringS_any (n R : Nat) (P B Q h : ByteArray) (gv Vb : Value) (bobs : List ByteArray) (w : World) (hn : n ≤ 8) (hP : RowIn n P) (hB : RowIn n B) (hit : ∀ j, RowIn n (iterB (nxB bobs P B) h j)) (hV : Strs w Vb bobs) (hs : SortedS bobs) (hbl : bobs.length ≤ 1000000) (hR : IsRing (nxB bobs P B) h R) (hRb : R ≤ 1000000) :
    Calls Tryz.prog 170 #[.agg #[.string P, .string B, .string Q, gv], Vb, .string h] w fun e w' => ∃ A q, e = .returned (.slice A R q) ∧ w'.ownsRow w.heap.size 9 1 (.slice A R q) R ((ringL (nxB bobs P B) h R).map Value.string) ∧ Below w.heap.size w w' := by
  have Hnx := Lib.hid (fun j W (hW : Below w.heap.size w W) => nextS_any n P B Q (iterB (nxB bobs P B) h j) gv Vb bobs W hn hP hB (hit j) (hV.to hW) hs hbl)
  have HR := Lib.hid hR
  have hR1 := hR.1
  obtain ⟨nx, hnx⟩ : ∃ f, f = nxB bobs P B := ⟨_, rfl⟩
  have Hit : Hid (∀ j, nxB bobs P B (iterB nx h j) = iterB nx h (j + 1)) := Lib.hid (fun j => by rw [hnx]; rfl)
  simp only [← hnx] at Hnx HR Hit ⊢
  have H0 : Hid (iterB nx h 0 = h) := Lib.hid rfl
  clear hV hs hP hB hit hR hnx
  go_enter Tryz.func170, Tryz.ntmps170
  go_wp2_with fail
  refine box2 (C := fun W => Calls _ _ _ W _) ?_
  intro wb hw k1 k2 hB0
  have R1 := boxRule k1
  have hown0 : wb.ownsRow (w.heap.size + 1) 9 1 (.slice (some ⟨w.heap.size + 1, 0, none⟩) 1 1) 1 ((ringL nx h 1).map Value.string) := own_of_heap k2 (Nat.le_refl _) (by unfold maxLen; omega) rfl
  have hl2 := blk_lt k2
  have RB := fun i W (hW : Below (w.heap.size + 1) wb W) => boxRuleB k1 (by omega) W i hW
  have hlow : ∀ W, Below (w.heap.size + 1) wb W → Below w.heap.size w W := fun W hW => hw.trans (hW.mono (by omega))
  have Hlow := Lib.hid hlow
  have hn0 := Hnx.out 0 wb hw
  rw [H0.out] at hn0
  have e0 := Hit.out 0
  rw [H0.out] at e0
  rw [e0] at hn0
  have Hn0 := Lib.hid hn0
  clear k1 k2 hlow hn0 e0 H0 R1
  refine Hn0.out.mono ?_; rintro e w1 ⟨rfl, hb1⟩
  have hown1 := own_to hown0 hb1
  have hL1 : Below (w.heap.size + 1) wb w1 := hb1.mono (by omega)
  have hz1 : wb.heap.size ≤ w1.heap.size := hb1.size
  clear hown0 Hn0
  go_wp2_with fail
  go_loopw [7, 8] (fun o r wr => ∃ (j : Nat) (A : Option Addr) (q : Nat), 1 ≤ j ∧ j ≤ R ∧ r = .string (iterB nx h j) ∧ o = .slice A j q ∧ wr.ownsRow (w.heap.size + 1) 9 1 (.slice A j q) j ((ringL nx h j).map Value.string) ∧ Below (w.heap.size + 1) wb wr ∧ wb.heap.size ≤ wr.heap.size) (fun o _ _ => R - lenV o)
  case atStart => exact ⟨1, _, 1, by omega, by omega, rfl, rfl, hown1, hL1, hz1⟩
  case round =>
    obtain ⟨j, A, q, h1j, hj, rfl, rfl, hown, hL, hz⟩ := hrel
    have R2 := fun i => RB i wr hL
    have Hst := Lib.hid (ring_stop HR.out h1j hj)
    have Hgo := Lib.hid (ring_go HR.out hj)
    have Hs : Hid (ringL nx h (j + 1) = ringL nx h j ++ [iterB nx h j]) := Lib.hid (ringL_succ nx h j)
    have Hnj := Lib.hid (fun W hW => Hnx.out j W hW)
    have Hij := Lib.hid (Hit.out j)
    rw [Hij.out] at Hnj
    have Hx1 : Hid (iterB nx h (j + 1) = iterB nx h (j + 1)) := Lib.hid rfl
    obtain ⟨y, hy⟩ : ∃ y, y = iterB nx h (j + 1) := ⟨_, rfl⟩
    have Hy := Lib.hid hy
    rw [← hy] at Hnj
    obtain ⟨x, hx⟩ : ∃ x, x = iterB nx h j := ⟨_, rfl⟩
    rw [← hx] at Hst Hgo Hs Hnj ⊢
    clear hx hy Hij Hx1
    have He := Lib.hid (sl_beq x h)
    cases hb : (x.toList == h.toList)
    · have hlt := Hgo.out (fun e => by rw [He.out, decide_eq_true e] at hb; cases hb)
      go_wp2_with (at_builtin; go_must (refine wpList_app _ rfl _ _ _ rfl (w.heap.size + 1) 9 _ 1 16 Tryz.underlying24 info_str rfl (by omega) hown [.string x] rfl rfl rfl (one_mem rfl) (by omega) (by omega) (by omega) ?_); intro v2 w3 hown3 hb3 hg3 _; (have hL3 := hL.trans hb3); (have R3 := fun i => RB i w3 hL3))
      refine (Hnj.out _ (Hlow.out _ hL3)).mono ?_; rintro e w4 ⟨rfl, hb4⟩
      have hz3 : wb.heap.size ≤ w3.heap.size := by have := hg3.size; omega
      have hown4 := own_to hown3 hb4
      have hL4 : Below (w.heap.size + 1) wb w4 := hL3.trans (hb4.mono (by omega))
      have hz4 : wb.heap.size ≤ w4.heap.size := Nat.le_trans hz3 hb4.size
      obtain ⟨A2, q2, e2, _⟩ := sl_of_own hown4
      subst e2
      rw [str_snoc Hs.out] at hown4
      clear hown hown3 R2 R3
      go_wp2_with fail
      exact ⟨⟨j + 1, A2, q2, by omega, by omega, by rw [Hy.out], rfl, hown4, hL4, hz4⟩, by simp [lenV]; omega⟩
    · obtain rfl := Hst.out (by rw [He.out] at hb; exact of_decide_eq_true hb)
      go_wp2_with fail
      go_ret
      exact ⟨A, q, rfl, own_base hown (by omega), Hlow.out _ hL⟩
end Go.Proofs.YtofpjbdelmmclaaGreatDoor

/- Contracts: how many rings there are, both sides. -/
namespace Go.Proofs.YtofpjbdelmmclaaGreatDoor
open Go Go.RowKit
set_option linter.unusedVariables false
set_option linter.unusedSimpArgs false

theorem info_sl : (Tryz.prog.info? 24).map (fun i => (i.zero, i.size, i.bytes)) = some (some (.slice none 0 0), 1, 24) := by kernel_rfl
theorem mem_updF {seen L : List ByteArray} {f : ByteArray → Bool} {k : Nat} (hk : k < L.length) (h : ∀ s, f s = true ↔ s ∈ seen ++ L.take k) (s : ByteArray) : updF f L[k] s = true ↔ s ∈ seen ++ L.take (k + 1) := by
  have h2 := updF_app h (x := L[k]) s
  rw [h2, List.take_succ_eq_append_getElem hk, List.append_assoc]
theorem mem_SeenOf {n : Nat} {seen L : List ByteArray} {f : Nat → Bool} {k : Nat} (hk : k < L.length) (h : SeenOf n f (seen ++ L.take k)) (hp : PermR n L[k]) : SeenOf n (fun j => if j = placeB L[k] then true else f j) (seen ++ L.take (k + 1)) := by
  have h2 := h.put hp
  rw [List.append_assoc, ← List.take_succ_eq_append_getElem hk] at h2
  exact h2
end Go.Proofs.YtofpjbdelmmclaaGreatDoor

/- Rings of a method with no bobs; obstacles: parts. -/
namespace Go.Proofs.YtofpjbdelmmclaaGreatDoor
open Go Go.RowKit
set_option linter.unusedVariables false
set_option linter.unusedSimpArgs false

/-- All that counting rings asks. -/
structure CX (n : Nat) (P B Q : ByteArray) (bobs G : List ByteArray) (RR : ByteArray → Nat) (K : Nat) : Prop where
  hn : n ≤ 8
  hP : RowIn n P
  hB : RowIn n B
  hQ : RowIn n Q
  hGl : G.length ≤ 130
  hit : ∀ h ∈ G, ∀ j, RowIn n (iterB (nxB bobs P B) h j)
  hpm : ∀ h ∈ G, ∀ j, PermR n (iterB (nxB bobs P B) h j)
  hRR : ∀ h ∈ G, IsRing (nxB bobs P B) h (RR h) ∧ RR h ≤ 200
  ord : IsOrd n Q K
  kb : K ≤ 16777216
theorem bk_all {m : Mt} {k : Cl} {n T : Nat} {P B B' Q : ByteArray} (h : BK m k n T P B B' Q) : (∀ x ∈ cloB n [P, B] T, RowIn n x) ∧ (∀ x ∈ cloB n [P, B] T, PermR n x) ∧ (∀ x ∈ cloB n [P, B] T, Inv n x) := by
  refine ⟨clo_all (rounds_in h.hn) (fun x g hx hg => times_in hx (h.gin g hg)) T, clo_all (PermR.rounds h.hn) (fun x g hx hg => hx.times h.hn (h.gperm g hg)) T, clo_all (Inv.rounds h.hn) (fun x g hx hg => hx.times h.hn ?_) T⟩
  rcases List.mem_cons.1 hg with rfl | hg
  · exact h.invP
  · rw [List.mem_singleton.1 hg]; exact h.invB
theorem cx_of {m : Mt} {k : Cl} {n T : Nat} {P B B' Q : ByteArray} (h : BK m k n T P B B' Q) (hF : (cloB n [P, B] T).length ≤ 130) {bobs : List ByteArray} (hg : goodQ bobs Q) : ∃ RR K, CX n P B Q bobs (sortB (cloB n [P, B] T)) RR K := by
  obtain ⟨a1, a2, a3⟩ := bk_all h
  obtain ⟨K, hKb, hK⟩ := ord_ex h.hn h.invQ
  obtain ⟨F, hFd⟩ : ∃ F, F = cloB n [P, B] T := ⟨_, rfl⟩
  have hclo : ∀ x ∈ F, nxB bobs P B x ∈ F := fun x hx => by
    rw [hFd] at hx ⊢
    unfold nxB
    split
    · exact clo_closed h.clo hx (by simp)
    · exact clo_closed h.clo hx (by simp)
  have hinj : ∀ x ∈ F, ∀ y ∈ F, nxB bobs P B x = nxB bobs P B y → x = y := fun x hx y hy e => by
    rw [hFd] at hx hy
    exact nx_inj h.hn h.invP h.invB h.inv.hb h.inv.ab h.hQ h.invQ hg (a1 x hx) (a1 y hy) e
  have hex : ∀ x, ∃ R, x ∈ F → (R ≤ F.length ∧ IsRing (nxB bobs P B) x R) := fun x => by
    by_cases hx : x ∈ F
    · obtain ⟨R, h1, h2⟩ := ring_ex hclo hinj hx
      exact ⟨R, fun _ => ⟨h1, h2⟩⟩
    · exact ⟨0, fun h => absurd h hx⟩
  obtain ⟨RR, hRR⟩ := Classical.axiomOfChoice hex
  rw [← hFd] at a1 a2 a3 hF ⊢
  refine ⟨RR, K, h.hn, h.invP.1, h.invB.1, h.invQ.1, by rw [sortB_len]; exact hF, fun x hx j => a1 _ (iter_in hclo ((sortB_mem F x).1 hx) j), fun x hx j => a2 _ (iter_in hclo ((sortB_mem F x).1 hx) j), fun x hx => ?_, hK, hKb⟩
  have h2 := hRR x ((sortB_mem F x).1 hx)
  exact ⟨h2.2, by omega⟩
def ringN (P B : ByteArray) (bobs G : List ByteArray) (RR : ByteArray → Nat) : Nat := (rgs (nxB bobs P B) RR G []).length
theorem strs_nil (w : World) : Strs w (.slice none 0 0) [] := ⟨none, 0, rfl, by simp, by unfold maxLen; omega, Reads.none_⟩
theorem gb_set3 (w : World) (g : Nat) (u0 u1 u2 : Value) : w.grownBy (((w.setCell ⟨g, 0, none⟩ u0).setCell ⟨g, 1, none⟩ u1).setCell ⟨g, 2, none⟩ u2) (some g) :=
  gr_set (gr_set (gr_set (gr_refl w (some g)) u0) u1) u2
theorem gb_cellG {w w' : World} {g : Nat} (h : w.grownBy w' (some g)) {p : Addr} (hp : p.block < w.heap.size) (hn : p.block ≠ g) : w'.cell? p = w.cell? p := by
  have e := h.block p.block hp (fun x => hn (by injection x))
  unfold World.cell?
  rw [e]
def provB (N K : Int) : Bool := ((K.tmod 2 == 1) && (N.tmod 2 == 0)) || ((K == 1) && !(N == 1))
/-- A method and calls without a group of at most 130 rows. -/
def BadBlk (m : Mt) (k : Cl) : Prop := callsB m k = false ∨ ∃ n T P B B' Q, BK m k n T P B B' Q ∧ ¬ (cloB n [P, B] T).length ≤ 130
theorem blk_cases (m : Mt) (k : Cl) : BadBlk m k ∨ ∃ n T P B B' Q, BK m k n T P B B' Q ∧ (cloB n [P, B] T).length ≤ 130 := by
  cases h : callsB m k
  · exact .inl (.inl h)
  · obtain ⟨n, T, P, B, B', Q, hK⟩ := bk_of h
    by_cases hF : (cloB n [P, B] T).length ≤ 130
    · exact .inr ⟨n, T, P, B, B', Q, hK, hF⟩
    · exact .inl (.inr ⟨n, T, P, B, B', Q, hK, hF⟩)
theorem l17Of_bad (m : Mt) (v : Value) (k : Cl) (w : World) (hb : BadBlk m k) (h : MethAt w m v) (hs : MtSmall m) (hk : ClSmall k) : Calls Tryz.prog 138 #[m.v v, k.v] w fun e w' =>
    ∃ (a b d : ByteArray) (A : Option Addr) (l q : Nat), e = .returned (.tuple #[.agg #[.string a, .string b, .string d, .slice A l q], .bool false]) ∧ Below w.heap.size w w' := by
  rcases hb with hb | ⟨n, T, P, B, B', Q, hK, hF⟩
  · exact (l17Of_no m v k w hb h hs hk).mono fun e w' ⟨h1, h2⟩ => ⟨_, _, _, _, _, _, h1, h2⟩
  · refine (l17Of_yes m v k n T P B B' Q w hK h hs hk).mono ?_
    rintro e w' ⟨A, q, rfl, _, h2⟩
    exact ⟨_, _, _, _, _, _, by rw [decide_eq_false hF], h2⟩
end Go.Proofs.YtofpjbdelmmclaaGreatDoor

/- impl.leftTimes, impl.sorted, impl.blocks.setOf. -/
namespace Go.Proofs.YtofpjbdelmmclaaGreatDoor
open Go Go.RowKit
set_option linter.unusedVariables false
set_option linter.unusedSimpArgs false

theorem nilOk_own {w : World} {base n c : Nat} {e : TypeId} {A : Option Addr} {xs : List Value} (h : w.ownsRow base e 1 (.slice A n c) n xs) (hn : 1 ≤ n) : NilOk (.slice A n c) := by
  obtain ⟨g, rfl, _⟩ := own_ptr h hn
  intro a b hh
  cases hh
theorem strs_own_n {w : World} {base n q : Nat} {A : Option Addr} {l : List ByteArray} (hl : l.length = n) (h : w.ownsRow base 9 1 (.slice A n q) n (l.map Value.string)) : Strs w (.slice A n q) l := by
  subst hl; exact strs_of_own h
end Go.Proofs.YtofpjbdelmmclaaGreatDoor
