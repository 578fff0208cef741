/- The lead heads of a method with its calls, and their group, both sides. -/
import Derived.Test.YtbdioapgekaejaaGreatPk20
import Derived.Test.YtbdioapgekaejaaGreatPk22
import Derived.Test.YtbdioapgekaejaaGreatPk23
import Derived.Test.YtbdioapgekaejaaGreatPk24
namespace Go.Proofs.YtbdioapgekaejaaGreat
open Go Go.RowKit
set_option linter.unusedVariables false
set_option linter.unusedSimpArgs false

theorem box4 {C : World → Prop} {w : World} {o1 o2 o3 o4 : Obj} (h : ∀ wb, Below w.heap.size w wb → wb.heap.size = w.heap.size + 4 → wb.heap[w.heap.size]? = some o1 → wb.heap[w.heap.size + 1]? = some o2 → wb.heap[w.heap.size + 2]? = some o3 → wb.heap[w.heap.size + 3]? = some o4 → Below wb.heap.size wb wb → C wb) : C ((((w.alloc o1).alloc o2).alloc o3).alloc o4) :=
  h _ (bw_al (bw_al (bw_al (bw_al (Below.refl _ _) o1) o2) o3) o4) (by simp) ((Below.heap_alloc _ _ _ (by first | (simp; done) | (simp; omega))).trans ((Below.heap_alloc _ _ _ (by first | (simp; done) | (simp; omega))).trans ((Below.heap_alloc _ _ _ (by simp)).trans (heap_new w o1))))
    ((Below.heap_alloc _ _ _ (by first | (simp; done) | (simp; omega))).trans ((Below.heap_alloc _ _ _ (by simp)).trans (by have := heap_new (w.alloc o1) o2; simpa using this)))
    ((Below.heap_alloc _ _ _ (by simp)).trans (by have := heap_new ((w.alloc o1).alloc o2) o3; simpa using this)) (by have := heap_new (((w.alloc o1).alloc o2).alloc o3) o4; simpa using this) (Below.refl _ _)
/-- What a good method with good calls gives. -/
structure BK (m : Mt) (k : Cl) (n T : Nat) (P B B' Q : ByteArray) : Prop where
  ok : callsB m k = true
  cg : CGood m k n
  hP : P = headB n m.l k.bob k.single 112
  hB : B = headB n m.l k.bob k.single 98
  inv : Inv2 n B B'
  hQ : Q = timesB P B'
  clo : IsClo n [P, B] T
  tb : T ≤ 16777216
theorem head_inv {n : Nat} (hn : n ≤ 8) (l : List ByteArray) (b s : ByteArray) (c : UInt8) : Inv n (headB n l b s c) := run_inv hn _ (Inv.rounds hn)
theorem head_perm {n : Nat} (hn : n ≤ 8) (l : List ByteArray) (b s : ByteArray) (c : UInt8) : PermR n (headB n l b s c) := run_perm hn _ (rounds_in hn) (PermR.rounds hn)
theorem bk_of {m : Mt} {k : Cl} (h : callsB m k = true) : ∃ n T P B B' Q, BK m k n T P B B' Q := by
  obtain ⟨n, hg⟩ := cgood_of h
  obtain ⟨B', hB'⟩ := inv2_of hg.m.hi (head_inv hg.m.hi m.l k.bob k.single 98)
  obtain ⟨T, hT, hc⟩ := clo_ex (n := n) hg.m.hi (gens := [headB n m.l k.bob k.single 112, headB n m.l k.bob k.single 98]) (fun g hg' => by
    rcases List.mem_cons.1 hg' with rfl | hg'
    · exact head_in hg.m.hi _ _ _ _
    · rw [List.mem_singleton.1 hg']; exact head_in hg.m.hi _ _ _ _)
  exact ⟨n, T, _, _, B', _, h, hg, rfl, rfl, hB', rfl, hc, hT⟩
theorem BK.hn {m : Mt} {k : Cl} {n T : Nat} {P B B' Q : ByteArray} (h : BK m k n T P B B' Q) : n ≤ 8 := h.cg.m.hi
theorem BK.invP {m : Mt} {k : Cl} {n T : Nat} {P B B' Q : ByteArray} (h : BK m k n T P B B' Q) : Inv n P := by rw [h.hP]; exact head_inv h.hn _ _ _ _
theorem BK.invB {m : Mt} {k : Cl} {n T : Nat} {P B B' Q : ByteArray} (h : BK m k n T P B B' Q) : Inv n B := by rw [h.hB]; exact head_inv h.hn _ _ _ _
theorem BK.invQ {m : Mt} {k : Cl} {n T : Nat} {P B B' Q : ByteArray} (h : BK m k n T P B B' Q) : Inv n Q := by rw [h.hQ]; exact h.invP.times h.hn ⟨h.inv.hb, B, h.inv.ha, h.inv.ba, h.inv.ab⟩
theorem BK.gin {m : Mt} {k : Cl} {n T : Nat} {P B B' Q : ByteArray} (h : BK m k n T P B B' Q) : ∀ g ∈ [P, B], RowIn n g := fun g hg => by
  rcases List.mem_cons.1 hg with rfl | hg
  · exact h.invP.1
  · rw [List.mem_singleton.1 hg]; exact h.invB.1
theorem BK.gperm {m : Mt} {k : Cl} {n T : Nat} {P B B' Q : ByteArray} (h : BK m k n T P B B' Q) : ∀ g ∈ [P, B], PermR n g := fun g hg => by
  rcases List.mem_cons.1 hg with rfl | hg
  · rw [h.hP]; exact head_perm h.hn _ _ _ _
  · rw [List.mem_singleton.1 hg, h.hB]; exact head_perm h.hn _ _ _ _
theorem grow_setB {a w : World} {B : Nat} (h : Below B a w) {g j : Nat} (hg : B ≤ g) (u : Value) : Below B a (w.setCell ⟨g, j, none⟩ u) := h.setCell (p := ⟨g, j, none⟩) hg u
theorem frz {w w' : World} {g B : Nat} {cs : Array Value} {t : TypeId} (h : w.heap[g]? = some (.cells cs t (0, 0))) (j : Nat) (hg : g < B) (hb : Below B w w') : w'.frozen? ⟨g, j, none⟩ = false := by
  have h2 := (hb.block g hg).trans h
  simp [World.frozen?, h2]
/-- The reference's box of lead heads in block g. -/
def CB (W : World) (g : Nat) (a b c d : Value) : Prop := W.ownsRow g 117 4 (.slice (some ⟨g, 0, none⟩) 1 1) 1 [a, b, c, d]
theorem CB.to {W W' : World} {g : Nat} {a b c d : Value} (h : CB W g a b c d) (hb : Below W.heap.size W W') : CB W' g a b c d := own_to h hb
theorem CB.cells {W : World} {g : Nat} {a b c d : Value} (h : CB W g a b c d) : (W.cell? ⟨g, 0, none⟩ = some a ∧ W.cell? ⟨g, 1, none⟩ = some b ∧ W.cell? ⟨g, 2, none⟩ = some c ∧ W.cell? ⟨g, 3, none⟩ = some d) ∧ (W.frozen? ⟨g, 0, none⟩ = false ∧ W.frozen? ⟨g, 1, none⟩ = false ∧ W.frozen? ⟨g, 2, none⟩ = false ∧ W.frozen? ⟨g, 3, none⟩ = false) :=
  ⟨⟨(h.cellAt 0 (by omega)).trans rfl, (h.cellAt 1 (by omega)).trans rfl, (h.cellAt 2 (by omega)).trans rfl, (h.cellAt 3 (by omega)).trans rfl⟩, h.frozenAt _, h.frozenAt _, h.frozenAt _, h.frozenAt _⟩
set_option maxRecDepth 100000 in
set_option maxHeartbeats 8000000 in
theorem l17Of_yes (m : Mt) (v : Value) (k : Cl) (n T : Nat) (P B B' Q : ByteArray) (w : World) (hK : BK m k n T P B B' Q) (h : MethAt w m v) (hs : MtSmall m) (hk : ClSmall k) : Calls Tryz.prog 97 #[m.v v, k.v] w fun e w' =>
    ∃ A q, e = .returned (.tuple #[.agg #[.string P, .string B, .string Q, .slice A (grp8 (cloB n [P, B] T)).length q], .bool (decide ((cloB n [P, B] T).length ≤ 130))]) ∧ w'.ownsRow w.heap.size 9 1 (.slice A (grp8 (cloB n [P, B] T)).length q) (grp8 (cloB n [P, B] T)).length ((grp8 (cloB n [P, B] T)).map Value.string) ∧ Below w.heap.size w w' := by
  have H112 := Lib.hid (fun W (hW : Below w.heap.size w W) => specCallHead_yes m v k n 112 (.inl rfl) W hK.cg hK.ok (h.to hW) hs hk)
  have H98 := Lib.hid (fun W (hW : Below w.heap.size w W) => specCallHead_yes m v k n 98 (.inr rfl) W hK.cg hK.ok (h.to hW) hs hk)
  rw [← hK.hP] at H112
  rw [← hK.hB] at H98
  have Hge := Lib.hid (fun V W (hV : Strs W V [P, B]) => l6Close_any n T [P, B] V W hK.hn hK.gin hK.gperm hV (by simp) (by simp) hK.clo hK.tb)
  have Htu := Lib.hid (fun W => l1Turn_any n B B' W hK.inv)
  have hPs := hK.invP.1.1
  have Hti := Lib.hid (fun W => l1Times_any P B' W (by rw [hPs]; have := hK.hn; omega) (by rw [hK.inv.hb.1]; have := hK.hn; omega) (row_hin hPs hK.inv.hb))
  rw [← hK.hQ] at Hti
  obtain ⟨F, hF⟩ : ∃ F, F = cloB n [P, B] T := ⟨_, rfl⟩
  obtain ⟨u8, hu8⟩ : ∃ u, u = decide (F.length ≤ 800) := ⟨_, rfl⟩
  obtain ⟨u, hu⟩ : ∃ u, u = decide (F.length ≤ 130) := ⟨_, rfl⟩
  obtain ⟨G, hG⟩ : ∃ G, G = grp8 F := ⟨_, rfl⟩
  have hlen : u8 = true → G.length = F.length := fun e => by rw [hG, grp8_yes (of_decide_eq_true (hu8.symm.trans e)), sortB_len]
  have hu80 : u8 = false → u = false := fun e => by rw [hu]; exact decide_eq_false (fun h => by have := of_decide_eq_false (hu8.symm.trans e); omega)
  have hu81 : u8 = true → u = decide (G.length ≤ 130) := fun e => by rw [hu, hlen e]
  have Hlen := Lib.hid hu80
  have Hlen1 := Lib.hid hu81
  simp only [← hF, ← hu8, ← hu, ← hG] at Hge ⊢
  obtain ⟨A, c, hv⟩ := h.form
  subst hv
  unfold Mt.v Cl.v callT at *
  clear h hK hF hu hu8 hG hPs hlen hu80 hu81
  go_enter Tryz.func97, Tryz.ntmps97
  go_wp2_with fail
  refine box4 (C := fun W => Calls _ _ _ W _) ?_
  intro wb hw hwsz k1 k2 k3 k4 hB0
  have R1 := fun i W (hW : Below (w.heap.size + 3) wb W) => boxRuleB k1 (by omega) W i hW
  have R2 := fun i W (hW : Below (w.heap.size + 3) wb W) => boxRuleB k2 (by omega) W i hW
  have R3 := fun i W (hW : Below (w.heap.size + 3) wb W) => boxRuleB k3 (by omega) W i hW
  have F3 := fun j W (hW : Below (w.heap.size + 3) wb W) => frz k3 j (by omega) hW
  have hcb0 : CB wb (w.heap.size + 3) (.string ⟨#[]⟩) (.string ⟨#[]⟩) (.string ⟨#[]⟩) (.slice none 0 0) := own_of_heap k4 (Nat.le_refl _) (by unfold maxLen; omega) rfl
  have hlow : ∀ W, Below (w.heap.size + 3) wb W → Below w.heap.size w W := fun W hW => hw.trans (hW.mono (by omega))
  have Hlow := Lib.hid hlow
  have Hwsz := Lib.hid hwsz
  clear k1 k2 k3 k4 hlow
  refine (H112.out _ hw).mono ?_; rintro e w1 ⟨rfl, hb1⟩
  have hL1 : Below (w.heap.size + 3) wb w1 := hb1.mono (by omega)
  have hc1 := hcb0.to hb1
  have r1 := fun i => R1 i _ hL1
  have r2 := fun i => R2 i _ hL1
  go_wp2_with fail
  refine (H98.out _ (Hlow.out _ hL1)).mono ?_; rintro e w2 ⟨rfl, hb2⟩
  have hz1 : wb.heap.size ≤ w1.heap.size := hb1.size
  have hL2 : Below (w.heap.size + 3) wb w2 := hL1.trans (hb2.mono (by omega))
  have hz2 : wb.heap.size ≤ w2.heap.size := Nat.le_trans hz1 hb2.size
  have hc2 := hc1.to hb2
  obtain ⟨⟨x0, x1, x2, x3⟩, g0, g1, g2, g3⟩ := hc2.cells
  have hc3 : CB ((w2.setCell ⟨w.heap.size + 3, 0, none⟩ (.string P)).setCell ⟨w.heap.size + 3, 1, none⟩ (.string B)) (w.heap.size + 3) (.string P) (.string B) (.string ⟨#[]⟩) (.slice none 0 0) := own_set (own_set hc2 0 (.string P)) 1 (.string B)
  have hL3 := grow_setB (grow_setB hL2 (Nat.le_refl _) (j := 0) (.string P)) (Nat.le_refl _) (j := 1) (.string B)
  clear r1 r2 hc1 hcb0
  go_wp2_with fail
  refine (Htu.out _).mono ?_; rintro e w4 ⟨rfl, hb4⟩
  have hz4 : wb.heap.size ≤ w4.heap.size := by have h := hb4.size; simp [World.setCell] at h; omega
  have hL4 : Below (w.heap.size + 3) wb w4 := hL3.trans (hb4.mono (by simp [World.setCell]; omega))
  have hc4 := hc3.to hb4
  clear hc3 hc2 x0 x1 x2 x3 g0 g1 g2 g3
  obtain ⟨⟨x0, x1, x2, x3⟩, g0, g1, g2, g3⟩ := hc4.cells
  have hc5 : CB (w4.setCell ⟨w.heap.size + 3, 2, none⟩ (.string Q)) (w.heap.size + 3) (.string P) (.string B) (.string Q) (.slice none 0 0) := own_set hc4 2 (.string Q)
  have hL5 := grow_setB hL4 (Nat.le_refl _) (j := 2) (.string Q)
  go_wp2_with (go_at_call 76; refine (Hti.out _).mono ?_; rintro e w' ⟨rfl, rfl⟩)
  refine box1 (C := fun W => Calls _ _ _ W _) ?_
  intro w6 hw6 k6 hB06
  obtain ⟨g6, hg6⟩ : ∃ g, g = (w4.setCell ⟨w.heap.size + 3, 2, none⟩ (.string Q)).heap.size := ⟨_, rfl⟩
  have hg6' : g6 = w4.heap.size := by rw [hg6]; simp [World.setCell]
  have hown6 : w6.ownsRow g6 9 1 (.slice (some ⟨g6, 0, none⟩) 2 2) 2 ([P, B].map Value.string) := by rw [hg6]; exact own_of_heap k6 (Nat.le_refl _) (by unfold maxLen; omega) rfl
  rw [hg6'] at hown6
  have hS6 : Strs w6 (.slice (some ⟨w4.heap.size, 0, none⟩) 2 2) [P, B] := strs_of_own hown6
  have hc6 := hc5.to hw6
  have hz6 : wb.heap.size ≤ w6.heap.size := by have h := hw6.size; rw [← hg6, hg6'] at h; omega
  have hL6 : Below (w.heap.size + 3) wb w6 := hL5.trans (hw6.mono (by rw [← hg6, hg6']; omega))
  clear k6 hown6 hg6 hg6' hc5 hc4 x0 x1 x2 x3 g0 g1 g2 g3
  refine (Hge.out _ _ hS6).mono ?_; rintro e w7 ⟨A7, q7, rfl, hown7, hb7⟩
  have hL7 : Below (w.heap.size + 3) wb w7 := hL6.trans (hb7.mono (by omega))
  have hc7 := hc6.to hb7
  obtain ⟨⟨x0, x1, x2, x3⟩, g0, g1, g2, g3⟩ := hc7.cells
  have r0 := R3 0 w7 hL7
  have r1 := R3 1 w7 hL7
  have r2 := R3 2 w7 hL7
  have r3 := R3 3 w7 hL7
  have f0 := F3 0 w7 hL7
  have f1 := F3 1 w7 hL7
  have f2 := F3 2 w7 hL7
  have f3 := F3 3 w7 hL7
  have Hown7 := Lib.hid hown7
  have hgl := sl_cap hown7
  have hl3 : w.heap.size + 3 < w6.heap.size := by omega
  have hl2 : w.heap.size + 2 < w6.heap.size := by omega
  have HEnd := Lib.hid (Hlow.out _ hL7)
  have Hn1 : Hid (w.heap.size ≤ w6.heap.size) := Lib.hid (by omega)
  clear hc6 hc7 hown7 hS6
  cases u8
  · have hu0 := Hlen.out rfl
    subst hu0
    go_wp2_with fail
    refine bodyPost_ret (v := .tuple #[.agg #[.string P, .string B, .string Q, .slice A7 G.length q7], .bool false]) (by simp [results, go_sem, r0, r1, r2, r3]) rfl ⟨A7, q7, rfl, ?_, ?_⟩
    · exact own_base (own_past (own_past (own_past (own_past (own_past Hown7.out hl3 _ _) hl2 _ _) hl2 _ _) hl2 _ _) hl2 _ _) Hn1.out
    · exact grow_set (grow_set (grow_set (grow_set (grow_set HEnd.out (Nat.le_add_right _ 3) _) (Nat.le_add_right _ 2) _) (Nat.le_add_right _ 2) _) (Nat.le_add_right _ 2) _) (Nat.le_add_right _ 2) _
  · have hu1 := Hlen1.out rfl
    have hdl : decide ((G.length : Int) ≤ 130) = u := by rw [hu1]; simp only [decide_eq_decide]; omega
    have Hu1 := Lib.hid hu1
    clear hu1
    cases u
    · go_wp2_with fail
      refine bodyPost_ret (v := .tuple #[.agg #[.string P, .string B, .string Q, .slice A7 G.length q7], .bool false]) (by simp [results, go_sem, r0, r1, r2, r3]) rfl ⟨A7, q7, rfl, ?_, ?_⟩
      · exact own_base (own_past (own_past (own_past (own_past (own_past Hown7.out hl3 _ _) hl2 _ _) hl2 _ _) hl2 _ _) hl2 _ _) Hn1.out
      · exact grow_set (grow_set (grow_set (grow_set (grow_set HEnd.out (Nat.le_add_right _ 3) _) (Nat.le_add_right _ 2) _) (Nat.le_add_right _ 2) _) (Nat.le_add_right _ 2) _) (Nat.le_add_right _ 2) _
    · go_wp2_with fail
      refine bodyPost_ret (v := .tuple #[.agg #[.string P, .string B, .string Q, .slice A7 G.length q7], .bool true]) (by simp [results, go_sem, r0, r1, r2, r3]) rfl ⟨A7, q7, rfl, ?_, ?_⟩
      · exact own_base (own_past (own_past (own_past (own_past (own_past Hown7.out hl3 _ _) hl2 _ _) hl2 _ _) hl2 _ _) hl2 _ _) Hn1.out
      · exact grow_set (grow_set (grow_set (grow_set (grow_set HEnd.out (Nat.le_add_right _ 3) _) (Nat.le_add_right _ 2) _) (Nat.le_add_right _ 2) _) (Nat.le_add_right _ 2) _) (Nat.le_add_right _ 2) _
set_option maxHeartbeats 4000000 in
theorem l17Of_no (m : Mt) (v : Value) (k : Cl) (w : World) (hno : callsB m k = false) (h : MethAt w m v) (hs : MtSmall m) (hk : ClSmall k) : Calls Tryz.prog 97 #[m.v v, k.v] w fun e w' =>
    e = .returned (.tuple #[.agg #[.string ⟨#[]⟩, .string ⟨#[]⟩, .string ⟨#[]⟩, .slice none 0 0], .bool false]) ∧ Below w.heap.size w w' := by
  have H112 := Lib.hid (fun W (hW : Below w.heap.size w W) => specCallHead_no m v k 112 (.inl rfl) W hno (h.to hW) hs hk)
  have H98 := Lib.hid (fun W (hW : Below w.heap.size w W) => specCallHead_no m v k 98 (.inr rfl) W hno (h.to hW) hs hk)
  obtain ⟨A, c, hv⟩ := h.form
  subst hv
  unfold Mt.v Cl.v callT at *
  clear h hno
  go_enter Tryz.func97, Tryz.ntmps97
  go_wp2_with fail
  refine box4 (C := fun W => Calls _ _ _ W _) ?_
  intro wb hw hwsz k1 k2 k3 k4 hB0
  have R1 := fun i W (hW : Below wb.heap.size wb W) => boxRule k1 W i hW
  have R2 := fun i W (hW : Below wb.heap.size wb W) => boxRule k2 W i hW
  have R3 := fun i W (hW : Below wb.heap.size wb W) => boxRule k3 W i hW
  have R4 := fun i W (hW : Below wb.heap.size wb W) => boxRule k4 W i hW
  have F3 := fun j W hb => frozen_of_heap k3 j (w' := W) hb
  have hsz2 : w.heap.size + 2 < wb.heap.size := blk_lt k3
  clear k1 k2 k3 k4
  refine (H112.out _ hw).mono ?_; rintro e w1 ⟨rfl, hb1⟩
  have r1 := fun i => R1 i _ hb1
  have r2 := fun i => R2 i _ hb1
  go_wp2_with fail
  refine (H98.out _ (bw_to hw hb1)).mono ?_; rintro e w2 ⟨rfl, hb2⟩
  have hB2 := bw_to hb1 hb2
  have r0 := R3 0 w2 hB2
  have r1' := R3 1 w2 hB2
  have r2' := R3 2 w2 hB2
  have r3 := R3 3 w2 hB2
  have s0 := R4 0 w2 hB2
  have s1 := R4 1 w2 hB2
  have s2 := R4 2 w2 hB2
  have s3 := R4 3 w2 hB2
  have f0 := F3 0 w2 hB2
  have f1 := F3 1 w2 hB2
  have f2 := F3 2 w2 hB2
  have f3 := F3 3 w2 hB2
  have Hend := Lib.hid (bw_to hw hB2)
  clear r1 r2
  go_wp2_with fail
  refine bodyPost_ret (v := .tuple #[.agg #[.string ⟨#[]⟩, .string ⟨#[]⟩, .string ⟨#[]⟩, .slice none 0 0], .bool false]) (by simp [results, go_sem, r0, r1', r2', r3]) rfl ⟨rfl, ?_⟩
  exact grow_set (grow_set (grow_set (grow_set Hend.out (Nat.le_add_right _ 2) _) (Nat.le_add_right _ 2) _) (Nat.le_add_right _ 2) _) (Nat.le_add_right _ 2) _
end Go.Proofs.YtbdioapgekaejaaGreat
