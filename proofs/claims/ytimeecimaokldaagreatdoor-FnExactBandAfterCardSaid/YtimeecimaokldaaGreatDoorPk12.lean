/- Contracts: a called lead and its head: the program's. -/
import Derived.Test.YtimeecimaokldaaGreatDoorPk11
namespace Go.Proofs.YtimeecimaokldaaGreatDoor
open Go Go.RowKit
set_option linter.unusedVariables false
set_option linter.unusedSimpArgs false

theorem own_set_past' {w : World} {base g : Nat} {e : TypeId} {size n : Nat} {v : Value} {xs : List Value} (h : w.ownsRow base e size v n xs) (hne : v.ownBlock = none ∨ v.ownBlock ≠ some g) (j : Nat) (u : Value) : (w.setCell ⟨g, j, none⟩ u).ownsRow base e size v n xs :=
  h.kept (gr_set (gr_refl w (some g)) u) hne
theorem own_kinds' {w : World} {b1 b2 : Nat} {e1 e2 : TypeId} {s1 s2 n1 n2 : Nat} {v1 v2 : Value} {x1 x2 : List Value} (h1 : w.ownsRow b1 e1 s1 v1 n1 x1) (h2 : w.ownsRow b2 e2 s2 v2 n2 x2) (he : e1 ≠ e2) : v1.ownBlock = none ∨ v1.ownBlock ≠ v2.ownBlock := by
  rcases h1.2 with ⟨rfl, _⟩ | ⟨g, cap, cur, rfl, _, hg, _⟩
  · exact .inl rfl
  · refine .inr fun e => ?_
    rcases h2.2 with ⟨rfl, _⟩ | ⟨g', cap', cur', rfl, _, hg', _⟩
    · cases e
    · have : g = g' := by simpa [Value.ownBlock] using e
      subst this
      rw [hg] at hg'
      injection hg' with h
      injection h with _ h _
      exact he h
/-- A box of a method of the call's own, and its row of changes. -/
structure StM (wb : World) (m : Mt) (A2 : Option Addr) (q2 G : Nat) (l : List ByteArray) (W : World) : Prop where
  hb : Below wb.heap.size wb W
  box : W.ownsRow wb.heap.size 29 3 (.slice (some ⟨G, 0, none⟩) 1 1) 1 [.string m.name, .int .i64 m.stage, .slice A2 m.l.length q2]
  row : W.ownsRow wb.heap.size 9 1 (.slice A2 m.l.length q2) m.l.length (l.map Value.string)
theorem abs_world {P F : World → Prop} {W : World} (h : F W) (k : ∀ W3, F W3 → P W3) : P W := k W h
theorem st_al {wb w' : World} {m : Mt} {A2 : Option Addr} {q2 : Nat} {l : List ByteArray} (hb : Below wb.heap.size wb w') (hr : w'.ownsRow wb.heap.size 9 1 (.slice A2 m.l.length q2) m.l.length (l.map Value.string)) :
    StM wb m A2 q2 w'.heap.size l (w'.alloc (.cells #[.string m.name, .int .i64 m.stage, .slice A2 m.l.length q2] 29)) :=
  ⟨bw_al hb _, own_of_heap (heap_new _ _) hb.size (by unfold maxLen; omega) rfl, own_to hr (bw_al (Below.refl _ _) _)⟩
theorem st_set {wb w' : World} {m : Mt} {A2 : Option Addr} {q2 G : Nat} {l : List ByteArray} {x0 x1 x2 : Value} (hb : Below wb.heap.size wb w') (hr : w'.ownsRow wb.heap.size 9 1 (.slice A2 m.l.length q2) m.l.length (l.map Value.string))
    (hk : w'.heap[G]? = some (.cells #[x0, x1, x2] 29 (0, 0))) (hG : wb.heap.size ≤ G) :
    StM wb m A2 q2 G l (((w'.setCell ⟨G, 0, none⟩ (.string m.name)).setCell ⟨G, 1, none⟩ (.int .i64 m.stage)).setCell ⟨G, 2, none⟩ (.slice A2 m.l.length q2)) := by
  have hbox : w'.ownsRow wb.heap.size 29 3 (.slice (some ⟨G, 0, none⟩) 1 1) 1 [x0, x1, x2] := own_of_heap hk hG (by unfold maxLen; omega) rfl
  have hne := own_kinds' hr hbox (by decide)
  exact ⟨grow_set (grow_set (grow_set hb hG _) hG _) hG _, own_set (own_set (own_set hbox 0 _) 1 _) 2 _, own_set_past' (own_set_past' (own_set_past' hr hne _ _) hne _ _) hne _ _⟩
theorem box_in {X w' : World} {o : Obj} (hb : Below (X.alloc o).heap.size (X.alloc o) w') : w'.heap[X.heap.size]? = some o := (hb.block _ (by simp)).trans (heap_new X o)
theorem box_gr {X w2 : World} {o e : Obj} (hg : ((X.alloc e).alloc o).drew.grownBy w2 (some X.heap.size)) : w2.heap[X.heap.size + 1]? = some o :=
  (hg.block _ (by simp) (by simp)).trans (by have := heap_new (X.alloc e) o; rw [show (X.alloc e).heap.size = X.heap.size + 1 by simp] at this; exact this)
theorem box_gr' {X w2 : World} {o e : Obj} (hg : ((X.alloc o).alloc e).drew.grownBy w2 (some (X.heap.size + 1))) : w2.heap[X.heap.size]? = some o :=
  (hg.block _ (by simp; omega) (by simp)).trans ((Below.heap_alloc _ _ _ (by simp)).trans (heap_new X o))
theorem stm_addr {wb W : World} {m : Mt} {A2 : Option Addr} {q2 G : Nat} {l : List ByteArray} (h : StM wb m A2 q2 G l W) (hl : 1 ≤ m.l.length) (j : Nat) (hj : j < wb.heap.size) : ∃ g2, A2 = some ⟨g2, 0, none⟩ ∧ g2 ≠ G ∧ G ≠ g2 ∧ wb.heap.size ≤ g2 ∧ wb.heap.size ≤ G ∧ j ≠ g2 ∧ j ≠ G ∧ g2 ≠ j ∧ G ≠ j := by
  obtain ⟨g, cap, hv, hb, _⟩ := h.row.form (by omega)
  injection hv with hA _ _
  subst hA
  have hne := own_kinds' h.row h.box (by decide)
  have h2 : g ≠ G := by
    rcases hne with h | h
    · simp [Value.ownBlock] at h
    · intro e; exact h (by rw [e]; rfl)
  have hG := (h.box.lt G rfl).1
  exact ⟨g, rfl, h2, fun e => h2 e.symm, hb, hG, by omega, by omega, by omega, by omega⟩
theorem stm_cells {wb W : World} {m : Mt} {A2 : Option Addr} {q2 G : Nat} {l : List ByteArray} (h : StM wb m A2 q2 G l W) :
    W.cell? ⟨G, 0, none⟩ = some (.string m.name) ∧ W.cell? ⟨G, 1, none⟩ = some (.int .i64 m.stage) ∧ W.cell? ⟨G, 2, none⟩ = some (.slice A2 m.l.length q2) :=
  ⟨(h.box.cellAt 0 (by omega)).trans rfl, (h.box.cellAt 1 (by omega)).trans rfl, (h.box.cellAt 2 (by omega)).trans rfl⟩
/-- The end of the walk: some changes, the result's box written. -/
theorem stm_end {w wb W : World} {m : Mt} {g2 q2 G j : Nat} {l : List ByteArray} (h : StM wb m (some ⟨g2, 0, none⟩) q2 G l W) (hw : Below w.heap.size w wb) (hr : w.heap.size ≤ j) (hj : j < wb.heap.size) (x y z : Value) :
    ((((W.setCell ⟨j, 0, none⟩ x).setCell ⟨j, 1, none⟩ y).setCell ⟨j, 2, none⟩ z)).ownsRow w.heap.size 9 1 (.slice (some ⟨g2, 0, none⟩) m.l.length q2) m.l.length (l.map Value.string) ∧ Below w.heap.size w (((W.setCell ⟨j, 0, none⟩ x).setCell ⟨j, 1, none⟩ y).setCell ⟨j, 2, none⟩ z) :=
  ⟨own_base (own_past (own_past (own_past h.row hj _ _) hj _ _) hj _ _) hw.size, grow_set (grow_set (grow_set (bw_to hw h.hb) hr _) hr _) hr _⟩
theorem stm_put {wb W : World} {m : Mt} {g2 q2 G : Nat} {l : List ByteArray} (h : StM wb m (some ⟨g2, 0, none⟩) q2 G l W) (hne : g2 ≠ G) (hg : wb.heap.size ≤ g2) (j : Nat) (x : ByteArray) : StM wb m (some ⟨g2, 0, none⟩) q2 G (l.set j x) (W.setCell ⟨g2, j, none⟩ (.string x)) :=
  ⟨grow_set h.hb hg _, own_set_past' h.box (.inr (fun e => by simp [Value.ownBlock] at e; exact hne e.symm)) _ _, by rw [List.map_set]; exact own_set h.row j _⟩
set_option maxRecDepth 10000 in
set_option maxHeartbeats 2000000 in
theorem calledLead_any (m : Mt) (v : Value) (k : Cl) (n : Nat) (c : UInt8) (w : World) (hg : CGood m k n) (hv : Strs w v m.l) : Calls Tryz.prog 172 #[m.v v, k.v, .string (callT c)] w fun e w' =>
    ∃ r, e = .returned (m.v r) ∧ w'.ownsRow w.heap.size 9 1 r m.l.length ((calledL m.l k.bob k.single c).map Value.string) ∧ Below w.heap.size w w' := by
  have e1 := callT_is c 98
  have e2 := callT_is c 115
  have hl := hg.m.len
  have Hg := Lib.hid hg
  obtain ⟨ad, q, rfl⟩ := strs_some hv hl.1
  have h1 : m.l.length ≤ q := let ⟨_, _, e, h1, _⟩ := hv; by cases e; exact h1
  have h2 : q ≤ maxLen := let ⟨_, _, e, _, h2, _⟩ := hv; by cases e; exact h2
  unfold maxLen at h2
  have Hv := Lib.hid hv
  unfold Mt.v Cl.v
  clear hv hg
  go_enter Tryz.func172, Tryz.ntmps172
  go_wp2_with fail
  refine box3s (C := fun W => Code.wp _ _ _ _ W) ?_
  intro wb hw hwsz k1 k2 k3 hB0
  have R1 := boxRule k1
  have R2 := boxRule k2
  have R3 := boxRule k3
  have F3 := fun j W hb => frozen_of_heap k3 j (w' := W) hb
  have hdr : Below wb.heap.size wb wb.drew := Below.drew (Below.refl _ _)
  have Hwc := Lib.hid (fun (w : World) A q' => withChanges_any m (.slice (some ad) m.l.length q) A m.l.length q' w)
  unfold Mt.v at Hwc
  have hrow : ∀ (W : World) (g : Nat), g = W.heap.size → (W.alloc (.cells #[] 9)).ownsRow g 9 1 (.slice (some ⟨g, 0, none⟩) 0 0) 0 [] := fun W g hg => own_of_heap (cs := #[]) (by rw [hg]; exact heap_new W _) (Nat.le_refl _) (by unfold maxLen; omega) rfl
  have HrA := Lib.hid (fun W (h : Below (wb.alloc (.cells #[] 9)).heap.size (wb.alloc (.cells #[] 9)) W) => own_to (hrow wb _ rfl) h)
  have HrB := Lib.hid (fun o W (h : Below ((wb.alloc o).alloc (.cells #[] 9)).heap.size ((wb.alloc o).alloc (.cells #[] 9)) W) => own_base (own_to (hrow (wb.alloc o) (wb.heap.size + 1) (by simp)) h) (Nat.le_succ wb.heap.size))
  have Hst := Lib.hid (Hv.out.to hw)
  have Hwsz := Lib.hid hwsz
  have hlt0 : w.heap.size < wb.heap.size := by omega
  clear k1 k2 k3 hrow hwsz
  go_region_held3 (fun W => Below wb.heap.size wb W) (first | exact Below.drew (by assumption) | exact bw_to (by assumption) hb' | exact bw_al (by assumption) _ | exact set3_low (by assumption) (by omega) | exact Below.trans (by assumption) hb2 | exact set3_low (by assumption) (Nat.le_refl _) | exact set3_low (by assumption) (Nat.le_succ _) | exact set3_low (by assumption) (Below.size (by assumption)))
    (first | (go_at_call 102; ((with_reducible refine (Hwc.out _ _ _).mono ?_); rintro e w' ⟨rfl, hb'⟩); (have hBn := bw_to (by assumption : Below wb.heap.size wb _) hb'); (try ((first | have kb := box_in hb' | have kb := (hb'.block _ (blk_lt kb2)).trans kb2); have c0 := heap_cell kb 0; have c1 := heap_cell kb 1; have c2 := heap_cell kb 2; have f0 := frozen_of_heap kb 0 (Below.refl _ _); have f1 := frozen_of_heap kb 1 (Below.refl _ _); have f2 := frozen_of_heap kb 2 (Below.refl _ _)))) | (refine step_app_sl (v := .slice (some ⟨wb.heap.size, 0, none⟩) 0 0) (n := 0) (xs := []) _ (by rfl) _ _ _ (by rfl) wb.heap.size 9 _ 1 16 Tryz.underlying22 info_str (by rfl) (by omega) ?_ ?_ (Hst.out.to (by assumption)) (nilok_some _ _ _) (by rfl) (strs_one _) (by omega) (by simp; omega) (Below.size (by assumption)) m.l.length (by simp) ?_; (· first | exact HrA.out _ (Below.drew (Below.refl _ _)) | exact HrA.out _ (Below.drew (bw_al (Below.refl _ _) _))); (· rfl); intro A2 q2 w2 hown2 hb2 hg2; (have hBw2 : Below wb.heap.size wb w2 := Below.trans (by assumption) hb2); (try (first | have kb2 := box_gr hg2 | have kb2 := box_gr' hg2))) | (refine step_app_sl (v := .slice (some ⟨wb.heap.size + 1, 0, none⟩) 0 0) (n := 0) (xs := []) _ (by rfl) _ _ _ (by rfl) wb.heap.size 9 _ 1 16 Tryz.underlying22 info_str (by rfl) (by omega) ?_ ?_ (Hst.out.to (by assumption)) (nilok_some _ _ _) (by rfl) (strs_one _) (by omega) (by simp; omega) (Below.size (by assumption)) m.l.length (by simp) ?_; (· exact HrB.out _ _ (Below.drew (Below.refl _ _))); (· rfl); intro A2 q2 w2 hown2 hb2 hg2; (have hBw2 : Below wb.heap.size wb w2 := Below.trans (by assumption) hb2); (try (first | have kb2 := box_gr hg2 | have kb2 := box_gr' hg2))))
  all_goals
    have hb3 : Below w2.heap.size w2 w' := by first | exact hb' | exact bw_to (bw_al (Below.refl _ _) _) hb'
    have hown3 := own_to hown2 hb3
    rw [List.nil_append] at hown3
    refine abs_world (F := StM wb m A2 q2 _ m.l) (by first | exact st_al hBn hown3 | exact st_set hBn hown3 kb (by first | exact hBw2.size | exact Nat.le_succ _ | exact Nat.le_refl _)) ?_
    intro W3 hS
    clear hb3 hown3 hown2 hb2 hg2 hBw2 hb' hBn
    have hlt2 : w.heap.size + 2 < wb.heap.size := by have := Hwsz.out; omega
    have hBW := hS.hb
    obtain ⟨g2, hA2, hn1, hn2, hg1, hg2, hn3, hn4, hn5, hn6⟩ := stm_addr hS hl.1 _ hlt2
    subst hA2
    obtain ⟨y0, hy0⟩ := own_some hS.row (j := m.l.length - 1) (by omega)
    have hf0 := hS.row.frozenAt (m.l.length - 1)
    obtain ⟨b0, b1, b2⟩ := stm_cells hS
    have r0 := R3 W3 0 hS.hb
    have r1 := R3 W3 1 hS.hb
    have r2 := R3 W3 2 hS.hb
    have f0 := F3 0 W3 hS.hb
    have f1 := F3 1 W3 hS.hb
    have f2 := F3 2 W3 hS.hb
    have HS := Lib.hid hS
    have hi0 : (0 : Int) ≤ (m.l.length : Int) - 1 := by omega
    have hi1 : ((m.l.length : Int) - 1).toNat = m.l.length - 1 := by omega
    clear hS
    by_cases c1 : c = 98
    · rw [decide_eq_true c1] at e1
      have HE : Hid (calledL m.l k.bob k.single c = m.l.set (m.l.length - 1) k.bob) := Lib.hid (by rw [called_set hl.1]; unfold calledL callCh; rw [if_pos c1])
      clear c1
      go_wp2_with fail
      refine bodyPost_ret (v := .agg #[.string m.name, .int .i64 m.stage, .slice (some ⟨g2, 0, none⟩) m.l.length q2]) (by simp [results, go_sem, r0, r1, r2, hn3, hn5]) rfl ⟨_, rfl, ?_, ?_⟩
      · rw [HE.out]; exact (stm_end (stm_put HS.out hn1 hg1 (m.l.length - 1) k.bob) hw (Nat.le_add_right _ 2) hlt2 _ _ _).1
      · exact (stm_end (stm_put HS.out hn1 hg1 (m.l.length - 1) k.bob) hw (Nat.le_add_right _ 2) hlt2 _ _ _).2
    · rw [decide_eq_false c1] at e1
      by_cases c2 : c = 115
      · rw [decide_eq_true c2] at e2
        have HE : Hid (calledL m.l k.bob k.single c = m.l.set (m.l.length - 1) k.single) := Lib.hid (by rw [called_set hl.1]; unfold calledL callCh; rw [if_neg c1, if_pos c2])
        clear c1 c2
        go_wp2_with fail
        refine bodyPost_ret (v := .agg #[.string m.name, .int .i64 m.stage, .slice (some ⟨g2, 0, none⟩) m.l.length q2]) (by simp [results, go_sem, r0, r1, r2, hn3, hn5]) rfl ⟨_, rfl, ?_, ?_⟩
        · rw [HE.out]; exact (stm_end (stm_put HS.out hn1 hg1 (m.l.length - 1) k.single) hw (Nat.le_add_right _ 2) hlt2 _ _ _).1
        · exact (stm_end (stm_put HS.out hn1 hg1 (m.l.length - 1) k.single) hw (Nat.le_add_right _ 2) hlt2 _ _ _).2
      · rw [decide_eq_false c2] at e2
        have HE : Hid (calledL m.l k.bob k.single c = m.l) := Lib.hid (called_plain hl.1 _ _ c1 c2)
        clear c1 c2
        go_wp2_with fail
        refine bodyPost_ret (v := .agg #[.string m.name, .int .i64 m.stage, .slice (some ⟨g2, 0, none⟩) m.l.length q2]) (by simp [results, go_sem, r0, r1, r2, hn3, hn5]) rfl ⟨_, rfl, ?_, ?_⟩
        · rw [HE.out]; exact (stm_end HS.out hw (Nat.le_add_right _ 2) hlt2 _ _ _).1
        · exact (stm_end HS.out hw (Nat.le_add_right _ 2) hlt2 _ _ _).2
end Go.Proofs.YtimeecimaokldaaGreatDoor
