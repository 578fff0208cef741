/- A method drawn, of any kind; calls drawn for it. -/
import Derived.Test.YtofpjbdelmmclaaGreatDoorPk15
import Derived.Deep.CutBlock
namespace Go.Proofs.YtofpjbdelmmclaaGreatDoor
open Go Go.RowKit
set_option linter.unusedVariables false
set_option linter.unusedSimpArgs false
/-- The name or the stage of the box written. -/
theorem SD.set01Y {w : World} {C R G : Nat} {nm nm' : ByteArray} {n n' : Int} {v : Value} {ss : List ByteArray} {lim : Nat} {W : World} (h : SD w C R G nm n v ss lim W) (j : Nat) (u : Value)
    (he : [Value.string nm, Value.int .i64 n, v].set j u = [Value.string nm', Value.int .i64 n', v]) : SD w C R G nm' n' v ss lim (W.setCell ⟨G, j, none⟩ u) := by
  have hC := h.hC
  have hG := (h.box.lt G rfl).1
  refine ⟨h.cur.setC (by omega) j u, gb_newC h.gb hG j u, ?_, ?_, ?_, h.sm, h.hC, h.hRG⟩
  · have := own_set h.box j u
    rw [he] at this
    exact this
  · obtain ⟨xs, hx⟩ := h.res
    exact ⟨xs, hx.kept (gb_set (gb_refl W G) j u) (.inr (by have := h.hRG; simp [Value.ownBlock]; omega))⟩
  · exact h.row.kept (gb_set (gb_refl W G) j u) ((own_kindsX h.row h.box (by decide)).imp id (fun x y => x (by rw [y]; rfl)))
/-- What a draw of any method leaves. -/
def DrewA (w : World) (C lim : Nat) (e : Ending) (w' : World) : Prop := ∃ (m : Mt) (v : Value), e = .returned (m.v v) ∧ m.name.size ≤ 20 ∧ m.l.length ≤ 61 ∧ (∀ s ∈ m.l, s.size ≤ 20) ∧ ((3 ≤ m.stage ∧ m.stage ≤ 6) ∨ m.stage = 2 ∨ m.stage = 9) ∧ w'.ownsRow w.heap.size 9 1 v m.l.length (m.l.map Value.string) ∧ Cur w' C lim ∧ w.grownBy w' (some C)
/-- The length of the slice in the box's third cell. -/
def lenAt (G : Nat) (W : World) : Nat := match W.cell? ⟨G, 2, none⟩ with | some (.slice _ n _) => n | _ => 0
def AnyCut (w : World) (C G : Nat) (lim : Nat) (s3 : Value) (wx : World) : Prop := ∃ nm n v ss, s3 = .pointer (some ⟨G, 0, none⟩) ∧ nm.size ≤ 20 ∧ ((3 ≤ n ∧ n ≤ 6) ∨ n = 2 ∨ n = 9) ∧ ss.length ≤ 61 ∧ SD w C w.heap.size G nm n v ss lim wx
set_option maxRecDepth 100000 in
set_option maxHeartbeats 8000000 in
theorem anyMethod_any (w : World) (C lim : Nat) (h : Cur w C lim) (hl : lim ≤ 100000000) : Calls Tryz.prog 92 #[.pointer (some ⟨C, 0, none⟩)] w (DrewA w C (lim + 400)) := by
  have H := Lib.hid h
  have hCl := h.lt
  clear h
  go_enter Tryz.func92, Tryz.ntmps92
  go_wp2_with fail
  refine (drawMethod_any _ C lim (H.out.al _) (by omega)).mono ?_; rintro e w1 ⟨⟨nm, n, ss⟩, v, rfl, hz, hl60, hsm, ⟨n, hn3, hn6, rfl⟩, ho, hc1, hg1⟩
  have R1 := Lib.hid (own_ltC (own_of_heap (base := w.heap.size) (n := 1) (size := 3) (heap_new w _) (Nat.le_refl _) (by unfold maxLen; omega) rfl) hg1 hCl)
  have C1 := Lib.hid hc1
  have G1 := Lib.hid (gb_tr (gb_al (gb_refl w C) _) hg1)
  have O1 := Lib.hid (own_base (base' := w.heap.size) ho (by simp))
  have hsm' := Lib.hid hsm
  clear hc1 hg1 ho hsm
  have hw2 : w.heap.size < w1.heap.size := (R1.out.lt _ rfl).2
  obtain ⟨A0, q0, ev, _⟩ := sl_of_own O1.out
  subst ev
  simp only [Mt.v] at *
  go_upto_block 0 with fail
  refine box1 (C := fun W => Calls _ _ _ W _) ?_
  intro w3 hw3 k3 hB03
  have st0 : SD w C w.heap.size w1.heap.size nm n (.slice A0 ss.length q0) ss (lim + 200) w3 :=
    ⟨C1.out.to hw3, gb_to G1.out hw3, own_of_heap (n := 1) (size := 3) k3 (Nat.le_of_lt hw2) (by unfold maxLen; omega) rfl, ⟨_, own_to R1.out hw3⟩, own_to O1.out hw3, hsm'.out, hCl, hw2⟩
  have S0 := Lib.hid st0
  have hG0 : w.heap.size ≠ w1.heap.size := by omega
  have hG1 : w1.heap.size ≠ w.heap.size := by omega
  obtain ⟨G, hG⟩ : ∃ G, G = w1.heap.size := ⟨_, rfl⟩
  rw [← hG] at S0 hG0 hG1 ⊢
  clear st0 hw3 k3 hB03 hG R1 C1 G1 O1 hw2 hsm'
  refine (pick_any w3 C _ 25 S0.out.cur (by omega) (by omega) (by omega)).mono ?_; rintro e w4 ⟨b, rfl, hb, hc4, hg4⟩
  obtain ⟨k, rfl⟩ : ∃ k : Nat, b = k := ⟨b.toNat, by omega⟩
  have hk25 : k < 25 := by omega
  have S4 := Lib.hid ((S0.out.draw hc4 hg4).more (show _ ≤ lim + 210 by omega))
  clear hc4 hg4 hb S0
  go_upto_block 0 with fail
  go_cut [3] (fun s3 wx => AnyCut w C G (lim + 400) s3 wx)
  case first =>
    have st := S4.out
    obtain ⟨⟨c0, c1, c2⟩, ⟨f0, f1, f2⟩, _, _⟩ := st.facts
    rcases Nat.lt_or_ge k 5 with hk5 | hk5
    · obtain rfl | rfl | rfl | rfl | rfl : k = 0 ∨ k = 1 ∨ k = 2 ∨ k = 3 ∨ k = 4 := by omega
      · clear st c0 c1 c2 f0 f1 f2
        go_wp2_with fail
        refine (of_at w4 C _ 3 _ [⟨#[]⟩, ⟨#[65]⟩, ⟨#[101, 108, 101, 118, 101, 110, 108, 101, 116, 114, 115]⟩] (by simp) S4.out.cur (by omega) rfl (by omega) (by omega)).mono ?_; rintro e w5 ⟨s, rfl, hs2, hc5, hg5⟩
        have hz2 : s.size ≤ 20 := by simp at hs2; rcases hs2 with rfl | rfl | rfl <;> decide
        have S5 := Lib.hid (S4.out.draw hc5 hg5)
        clear hc5 hg5 hs2
        obtain ⟨⟨c0, c1, c2⟩, ⟨f0, f1, f2⟩, _, _⟩ := S5.out.facts
        go_wp2_with fail
        go_meet
        exact ⟨s, n, _, ss, rfl, hz2, by omega, by omega, (S5.out.set01Y 0 _ rfl).more (by omega)⟩
      · have hzz : w.heap.size ≤ w4.heap.size := S4.out.gb.size
        clear st
        go_wp2_with (at_builtin; refine wpList_app _ rfl _ _ _ rfl w.heap.size 9 _ 1 16 Tryz.underlying24 info_str rfl (by omega) S4.out.row [.string ⟨#[120]⟩] rfl rfl rfl (one_mem rfl) (by omega) (by omega) hzz ?_; intro v4 w5 ho4 hb4 hg4 _; (obtain ⟨A4, q4, e4, _⟩ := sl_of_own ho4); subst e4; (have S5 := Lib.hid (S4.out.app (v' := .slice A4 (ss.length + 1) q4) (ss' := ss ++ [⟨#[120]⟩]) (by rw [List.length_append, List.map_append]; exact ho4) hg4 (fun x hx => by rcases List.mem_append.1 hx with hx | hx; exact S4.out.sm x hx; rw [List.mem_singleton.1 hx]; decide))); (obtain ⟨c9, f9⟩ := S4.out.keptBox hg4); clear ho4 hb4 hg4)
        go_meet
        exact ⟨nm, n, _, ss ++ [⟨#[120]⟩], rfl, hz, by omega, by simp; omega, S5.out.more (by omega)⟩
      · clear st c0 c1 c2 f0 f1 f2
        go_wp2_with fail
        refine (among_at w4 C _ 3 _ [2, 9, 5] (by simp) S4.out.cur (by omega) rfl (by omega) (by omega)).mono ?_; rintro e w5 ⟨z, rfl, hs2, hc5, hg5⟩
        have hz2 : (3 ≤ z ∧ z ≤ 6) ∨ z = 2 ∨ z = 9 := by simp at hs2; rcases hs2 with rfl | rfl | rfl <;> decide
        have S5 := Lib.hid (S4.out.draw hc5 hg5)
        clear hc5 hg5 hs2
        obtain ⟨⟨c0, c1, c2⟩, ⟨f0, f1, f2⟩, _, _⟩ := S5.out.facts
        go_wp2_with fail
        go_meet
        exact ⟨nm, z, _, ss, rfl, hz, hz2, by omega, (S5.out.set01Y 1 _ rfl).more (by omega)⟩
      · clear st
        go_wp2_with fail
        go_meet
        exact ⟨nm, n, _, [], rfl, hz, by omega, by simp, (S4.out.setv (ss' := []) (World.ownsRow_nil _ _ _ _) (by simp)).more (by omega)⟩
      · clear st c0 c1 c2 f0 f1 f2
        go_wp2_with fail
        refine (pick_any w4 C _ 2 S4.out.cur (by omega) (by omega) (by omega)).mono ?_; rintro e w5 ⟨b, rfl, hb, hc5, hg5⟩
        obtain ⟨k0, rfl⟩ : ∃ k : Nat, b = k := ⟨b.toNat, by omega⟩
        have hk0 : k0 < 2 := by omega
        have S5 := Lib.hid ((S4.out.draw hc5 hg5).more (show _ ≤ lim + 220 by omega))
        clear hc5 hg5 hb
        obtain ⟨B, hB⟩ : ∃ B : Nat, (B : Int) = 40 + (k0 : Int) := ⟨40 + k0, by omega⟩
        have hB1 : B ≤ 41 := by omega
        have hBw : IntKind.i64.wrap (40 + (k0 : Int)) = (B : Int) := (IntWalk.i64_in _ (by omega)).trans hB.symm
        go_wp2_with fail
        go_loopw [] (fun wr => ∃ (v : Value) (ss : List ByteArray), ss.length ≤ 60 ∧ SD w C w.heap.size G nm n v ss (lim + 220 + 2 * ss.length) wr) (fun wr => 61 - lenAt G wr)
        case atStart => exact ⟨_, ss, by omega, S5.out.more (by omega)⟩
        case round =>
          obtain ⟨v, ss, hsl, st⟩ := hrel
          have St := Lib.hid st
          clear st
          obtain ⟨A0, q0, ev, _⟩ := sl_of_own St.out.row
          subst ev
          have hme : lenAt G wr = ss.length := by
            obtain ⟨⟨_, _, c2⟩, _⟩ := St.out.facts
            unfold lenAt; rw [c2]
          by_cases hlt : ss.length < B
          · have hlti : ((ss.length : Nat) : Int) < 40 + (k0 : Int) := by omega
            have Sd := Lib.hid (St.out.to (Below.drew (Below.refl wr.heap.size wr)))
            have hl1 : ss.length ≤ 1000 := by omega
            obtain ⟨⟨b0, b1, b2⟩, ⟨f0, f1, f2⟩, _, _⟩ := St.out.facts
            obtain ⟨c0, c1, c2⟩ : (wr.drew).cell? ⟨G, 0, none⟩ = some (.string nm) ∧ (wr.drew).cell? ⟨G, 1, none⟩ = some (.int .i64 (n : Int)) ∧ (wr.drew).cell? ⟨G, 2, none⟩ = some (.slice A0 ss.length q0) := Sd.out.facts.1
            go_wp2_with fail
            go_region_law ((first | (refine step_callX (by rfl) ((change_any _ C _ n Sd.out.cur (by omega) hn3 hn6).mono ?_) ?_; rotate_left; (· go_simp); rintro e w' ⟨s, rfl, hsz', hc', hg'⟩; refine ⟨_, rfl, ?_⟩; (have S' := Lib.hid (Sd.out.draw hc' hg')); (have c2' : w'.cell? ⟨G, 2, none⟩ = some (.slice A0 ss.length q0) := S'.out.facts.1.2.2); (have c2a : (w'.alloc (.cells #[.string s] 9)).cell? ⟨G, 2, none⟩ = some (.slice A0 ss.length q0) := (S'.out.to (bw_al (Below.refl w'.heap.size w') (.cells #[.string s] 9))).facts.1.2.2)) | (refine step_app_sl _ (by rfl) _ _ _ (by rfl) w.heap.size 9 _ 1 16 Tryz.underlying24 info_str (by rfl) (by omega) (own_to S'.out.row (bw_al (Below.refl _ _) _)) (by rfl) (sl_of_own (own_of_heap (base := 0) (n := 1) (size := 1) (heap_new w' (.cells #[.string s] 9)) (Nat.zero_le _) (by unfold maxLen; omega) rfl)) (nilok_own (own_of_heap (base := 0) (n := 1) (size := 1) (heap_new w' (.cells #[.string s] 9)) (Nat.zero_le _) (by unfold maxLen; omega) rfl)) (by rfl) (strs_one [s]) (by omega) (by omega) (by have := S'.out.gb.size; simp; omega) (ss.length + 1) rfl ?_; intro A2 q2 w2' hown2 hb2 hg2; (have S2 := Lib.hid ((S'.out.to (bw_al (Below.refl w'.heap.size w') (.cells #[.string s] 9))).app (v' := .slice A2 (ss.length + 1) q2) (ss' := ss ++ [s]) (by rw [List.length_append, List.map_append]; exact hown2) hg2 (fun x hx => by rcases List.mem_append.1 hx with hx | hx; exact S'.out.sm x hx; rw [List.mem_singleton.1 hx]; exact hsz'))); (obtain ⟨c9, f9⟩ := (S'.out.to (bw_al (Below.refl w'.heap.size w') (.cells #[.string s] 9))).keptBox hg2))))
            all_goals
              have HS2 := Lib.hid (S2.out.more (show _ ≤ lim + 220 + 2 * (ss.length + 1) by omega))
              go_wp2_with fail
              refine ⟨⟨_, ss ++ [s], by rw [List.length_append]; simp; omega, by rw [show lim + 220 + 2 * (ss ++ [s]).length = lim + 220 + 2 * (ss.length + 1) by simp]; exact HS2.out⟩, ?_⟩
              have hm2 : lenAt G (w2'.setCell ⟨G, 2, none⟩ (.slice A2 (ss.length + 1) q2)) = ss.length + 1 := by
                obtain ⟨⟨_, _, d2⟩, _⟩ := HS2.out.facts
                unfold lenAt; rw [d2]
              omega
          · have hlti : ¬ ((ss.length : Nat) : Int) < 40 + (k0 : Int) := by omega
            obtain ⟨⟨b0, b1, b2⟩, ⟨f0, f1, f2⟩, _, _⟩ := St.out.facts
            go_wp2_with fail
            go_meet
            exact ⟨nm, n, _, ss, rfl, hz, by omega, by omega, St.out.more (by omega)⟩
    · have hk0 : ((k : Int) = 0) = False := by simp; omega
      have hk1 : ((k : Int) = 1) = False := by simp; omega
      have hk2 : ((k : Int) = 2) = False := by simp; omega
      have hk3 : ((k : Int) = 3) = False := by simp; omega
      have hk4 : ((k : Int) = 4) = False := by simp; omega
      clear st c0 c1 c2 f0 f1 f2
      go_wp2_with fail
      go_meet
      exact ⟨nm, n, _, ss, rfl, hz, by omega, by omega, S4.out.more (by omega)⟩
  case rest =>
    obtain ⟨nm, n, v, ss, rfl, hz, hn, hsl, st⟩ := hcut
    obtain ⟨A0, q0, ev, _⟩ := sl_of_own st.row
    subst ev
    obtain ⟨⟨c0, c1, c2⟩, _, ⟨x0, x1, x2, r0, r1, r2⟩, g0, g1, g2⟩ := st.facts
    have St := Lib.hid st
    have Hsl := Lib.hid hsl
    obtain ⟨w9, hw9⟩ : ∃ W, W = wc := ⟨_, rfl⟩
    clear st hsl
    go_wp2_with fail
    refine bodyPost_ret (v := .agg #[.string nm, .int .i64 (n : Int), .slice A0 ss.length q0]) (by (obtain ⟨e0, e1, e2⟩ := set3_cells wc w.heap.size (.string nm) (.int .i64 (n : Int)) (.slice A0 ss.length q0) x0 x1 x2 r0 r1 r2); simp [results, go_sem, e0, e1, e2]) rfl ?_
    exact ⟨⟨nm, n, ss⟩, .slice A0 ss.length q0, rfl, hz, Hsl.out, St.out.sm, hn, own_set3 St.out nm n, ((St.out.cur.setC hCl 0 _).setC hCl 1 _).setC hCl 2 _, gb_newC (gb_newC (gb_newC St.out.gb (Nat.le_refl _) 0 _) (Nat.le_refl _) 1 _) (Nat.le_refl _) 2 _⟩
end Go.Proofs.YtofpjbdelmmclaaGreatDoor
