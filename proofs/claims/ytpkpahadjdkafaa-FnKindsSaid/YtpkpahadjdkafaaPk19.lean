/- Contracts: the reference's course; the number of leads, both sides. -/
import Derived.Test.YtpkpahadjdkafaaPk18
namespace Go.Proofs.Ytpkpahadjdkafaa
open Go Go.RowKit
set_option linter.unusedVariables false
set_option linter.unusedSimpArgs false

theorem rows_pow (l : List ByteArray) (n : Nat) (H : ByteArray) (j : Nat) : rowsB l (powL n H (j + 1)) = rowsB l (powL n H j) ++ leadB (powB n H j) l := by
  rw [powL_succ]; unfold rowsB; rw [List.flatMap_append]; simp
set_option maxRecDepth 10000 in
set_option maxHeartbeats 4000000 in
theorem l4Course_any (m : Mt) (v : Value) (n K : Nat) (w : World) (hK : MK m n K) (h : MethAt w m v) (hb : K * m.l.length ≤ 800) : Calls Try.prog 90 #[m.v v] w fun e w' =>
    ∃ A q, e = .returned (.slice A (rowsB m.l (powL n (runB (roundsB n) m.l) K)).length q) ∧ w'.ownsRow w.heap.size 9 1 (.slice A (rowsB m.l (powL n (runB (roundsB n) m.l) K)).length q) (rowsB m.l (powL n (runB (roundsB n) m.l) K)).length ((rowsB m.l (powL n (runB (roundsB n) m.l) K)).map Value.string) ∧ Below w.heap.size w w' := by
  have Hh := Lib.hid (fun W (hW : Below w.heap.size w W) => l4Head_any m v n W hK.g (h.1.to hW))
  have Hlf := Lib.hid (fun W (hW : Below w.heap.size w W) r hr => l4Lead_any r v m.l n W hK.g.hi hr (h.1.to hW) (by have := hK.g.len; omega) hK.g.ok)
  have Ho := Lib.hid (fun W => l1Order_any (runB (roundsB n) m.l) n K W hK.g.hi hK.hin hK.ord hK.kb)
  have hst := hK.g.st
  have hml := hK.g.len
  have hkb := hK.kb
  have hn8 := hK.g.hi
  have Hin := Lib.hid (fun j => pow_in hK.g.hi hK.hin j)
  have Hnx : Hid (∀ j, runB (powB n (runB (roundsB n) m.l) j) m.l = powB n (runB (roundsB n) m.l) (j + 1)) := Lib.hid (fun j => run_from hK.g.hi m.l (pow_in hK.g.hi hK.hin j))
  obtain ⟨A, c, hv⟩ := h.form
  subst hv
  have Hb := Lib.hid hb
  obtain ⟨H, hH⟩ : ∃ H, H = runB (roundsB n) m.l := ⟨_, rfl⟩
  rw [← hH] at Ho Hin Hnx ⊢
  simp only [← hH] at Hh
  unfold Mt.v at *
  rw [hst] at *
  clear h hK hst hH hb
  go_enter Try.func90, Try.ntmps90
  go_wp2_with (go_at_call 69; refine (l1Rounds_any n _ hn8).mono ?_; rintro e w' ⟨rfl, rfl⟩)
  refine box1 (C := fun W => Calls _ _ _ W _) ?_
  intro wb hw k1 hB0
  have R1 := boxRule k1
  clear k1
  refine (Hh.out _ hw).mono ?_; rintro e w1 ⟨rfl, hb1⟩
  have hB1 := bw_to hw hb1
  go_wp2_with (go_at_call 73; refine (Ho.out _).mono ?_; rintro e w' ⟨rfl, rfl⟩)
  go_loopw [3, 4, 5] (fun o p i wr => ∃ (j : Nat) (A' : Option Addr) (q' : Nat), j ≤ K ∧ i = .int .i64 ((K : Int) - j) ∧ p = .string (powB n H j) ∧ o = .slice A' (rowsB m.l (powL n H j)).length q' ∧ wr.ownsRow w1.heap.size 9 1 (.slice A' (rowsB m.l (powL n H j)).length q') (rowsB m.l (powL n H j)).length ((rowsB m.l (powL n H j)).map Value.string) ∧ Below w1.heap.size w1 wr) (fun _ _ i _ => (intOf i).toNat)
  case atStart => exact ⟨0, none, 0, by omega, by simp, rfl, rfl, World.ownsRow_nil _ _ _ _, Below.refl _ _⟩
  case round =>
    obtain ⟨j, A', q', hj, rfl, rfl, rfl, hown, hB⟩ := hrel
    have hBwr := bw_to hb1 hB
    by_cases hlt : j < K
    · have hR0 := fun i => R1 wr i hBwr
      have hlen := rows_len m.l (powL n H j)
      rw [powL_len] at hlen
      have hmul : j * m.l.length ≤ 800 := Nat.le_trans (Nat.mul_le_mul_right _ hj) Hb.out
      have Hs : Hid (rowsB m.l (powL n H (j + 1)) = rowsB m.l (powL n H j) ++ leadB (powB n H j) m.l) := Lib.hid (rows_pow _ _ _ _)
      have Hll := Lib.hid (lead_len (powB n H j) m.l)
      have Hl := Lib.hid (Hlf.out wr (bw_to hw hBwr) (powB n H j) (Hin.out j))
      have Hx := Lib.hid (Hnx.out j)
      obtain ⟨h, hh⟩ : ∃ h, h = powB n H j := ⟨_, rfl⟩
      rw [← hh] at Hs Hl Hll Hx ⊢
      obtain ⟨L, hL⟩ : ∃ L, L = rowsB m.l (powL n H j) := ⟨_, rfl⟩
      rw [← hL] at hlen hown Hs ⊢
      have hLl : L.length ≤ 800 := by omega
      have hd : decide ((0 : Int) < (K : Int) - j) = true := by simp; omega
      clear hh hL hlen hmul
      go_wp2_with fail
      refine Hl.out.mono ?_; rintro e w2 ⟨A1, q1, rfl, hown1, hb2⟩
      have hown2 := own_to hown hb2
      have hB2 := bw_to hB hb2
      have hs1 := sl_of_own hown1
      have hn1 := nilok_own hown1
      go_wp2_with (at_builtin; go_must (refine wpList_app_sl _ rfl _ _ _ rfl w1.heap.size 9 _ 1 16 Try.underlying22 info_str rfl (by omega) hown2 rfl hs1 hn1 rfl (strs_one _) (by omega) (by omega) hB2.size ?_); intro v2 w3' hown3 hb3 hg3 _)
      have e3 : (L ++ leadB h m.l).length = L.length + m.l.length := by rw [List.length_append, Hll.out]
      obtain ⟨A2, q2, e2, _⟩ := sl_of_own hown3
      subst e2
      rw [← List.map_append, ← e3, ← Hs.out] at hown3
      refine ⟨⟨j + 1, A2, q2, by omega, by go_num, by rw [Hx.out], by rw [Hs.out, e3], hown3, hB2.trans hb3⟩, by simp [intOf]; omega⟩
    · obtain rfl : j = K := by omega
      have Hown := Lib.hid hown
      clear hown
      have hd : decide ((0 : Int) < (j : Int) - j) = false := by simp
      go_wp2_with fail
      go_ret
      exact ⟨A', q', rfl, own_base Hown.out hB1.size, bw_to hB1 hB⟩
set_option maxRecDepth 10000 in
set_option maxHeartbeats 4000000 in
theorem specCourseRows_any (m : Mt) (v : Value) (n K : Nat) (w : World) (hK : MK m n K) (h : MethAt w m v) (hs : MtSmall m) : Calls Try.prog 54 #[m.v v] w fun e w' =>
    ∃ A q, e = .returned (.tuple #[.slice A (crsL m n K).length q, .bool (decide (K * m.l.length ≤ 800))]) ∧ w'.ownsRow w.heap.size 9 1 (.slice A (crsL m n K).length q) (crsL m n K).length ((crsL m n K).map Value.string) ∧ Below w.heap.size w w' := by
  have Hg := Lib.hid (fun W (hW : Below w.heap.size w W) => l4Good_any m v W (h.to hW) hs)
  have Hh := Lib.hid (fun W (hW : Below w.heap.size w W) => l4Head_any m v n W hK.g (h.1.to hW))
  have Ho := Lib.hid (fun W => l1Order_any (runB (roundsB n) m.l) n K W hK.g.hi hK.hin hK.ord hK.kb)
  have Hc := Lib.hid (fun W (hW : Below w.heap.size w W) hb => l4Course_any m v n K W hK (h.to hW) hb)
  rw [hK.ok] at Hg
  have hml := hK.g.len
  have hkb := hK.kb
  obtain ⟨A, c, hv⟩ := h.form
  subst hv
  have hmul : K * m.l.length ≤ 16777216 * 40 := Nat.mul_le_mul hkb hml.2
  obtain ⟨N, hN⟩ : ∃ N, N = K * m.l.length := ⟨_, rfl⟩
  have hN2 : (m.l.length : Int) * (K : Int) = (N : Int) := by rw [hN, Int.mul_comm]; simp
  have hNN : IntKind.i64.wrap ((m.l.length : Int) * (K : Int)) = (N : Int) := by rw [hN2]; exact IntWalk.i64_in _ ⟨by omega, by omega⟩
  have hNb : N ≤ 16777216 * 40 := by omega
  have Hdef : Hid (crsL m n K = if N ≤ 800 then rowsB m.l (powL n (runB (roundsB n) m.l) K) else []) := Lib.hid (by rw [hN]; rfl)
  rw [← hN] at Hc
  obtain ⟨H, hH⟩ : ∃ H, H = runB (roundsB n) m.l := ⟨_, rfl⟩
  obtain ⟨C, hC⟩ : ∃ C, C = crsL m n K := ⟨_, rfl⟩
  simp only [← hH] at Hh Ho Hdef Hc
  rw [← hC] at Hdef ⊢
  unfold Mt.v at *
  rw [← hN]
  clear h hN hmul hK hH hC hN2
  go_enter Try.func54, Try.ntmps54
  go_wp2_with fail
  refine box1 (C := fun W => Code.wp _ _ _ _ W) ?_
  intro wb hw k1 hB0
  have R1 := boxRule k1
  have hdr : Below wb.heap.size wb wb.drew := Below.drew (Below.refl _ _)
  clear k1
  by_cases hbig : N ≤ 800
  · rw [if_pos hbig] at Hdef
    have hdd := Lib.hid (decide_eq_true hbig)
    have hd : decide ((800 : Int) < (N : Int)) = false := by simp; omega
    go_region_held3 (fun W => Below wb.heap.size wb W) (first | with_reducible assumption | exact Below.drew (by assumption) | exact bw_to (by assumption) hb')
      (first | (go_at_call 53; refine (Hg.out _ (bw_to hw (by assumption))).mono ?_; rintro e w' ⟨rfl, hb'⟩) | (go_at_call 58; refine (Hh.out _ (bw_to hw (by assumption))).mono ?_; rintro e w' ⟨rfl, hb'⟩) | (go_at_call 73; refine (Ho.out _).mono ?_; rintro e w' ⟨rfl, rfl⟩))
    all_goals
      have hBB : Below wb.heap.size wb w' := by assumption
      have R2 := fun i => R1 w' i hBB
      go_wp2_with fail
      refine (Hc.out _ (bw_to hw hBB) hbig).mono ?_; rintro e w2 ⟨A2, q2, rfl, hown2, hb2⟩
      have Hown := Lib.hid hown2
      clear hown2
      go_wp2_with fail
      go_ret2
      rw [← Hdef.out] at Hown
      refine ⟨A2, q2, by rw [hdd.out, Hdef.out]; rfl, own_base Hown.out (bw_to hw hBB).size, bw_to (bw_to hw hBB) hb2⟩
  · rw [if_neg hbig] at Hdef
    have hdd := Lib.hid (decide_eq_false hbig)
    have hd : decide ((800 : Int) < (N : Int)) = true := by simp; omega
    go_region_held3 (fun W => Below wb.heap.size wb W) (first | with_reducible assumption | exact Below.drew (by assumption) | exact bw_to (by assumption) hb')
      (first | (go_at_call 53; refine (Hg.out _ (bw_to hw (by assumption))).mono ?_; rintro e w' ⟨rfl, hb'⟩) | (go_at_call 58; refine (Hh.out _ (bw_to hw (by assumption))).mono ?_; rintro e w' ⟨rfl, hb'⟩) | (go_at_call 73; refine (Ho.out _).mono ?_; rintro e w' ⟨rfl, rfl⟩))
    all_goals
      have hBB : Below wb.heap.size wb w' := by assumption
      go_wp2_with fail
      go_ret2
      refine ⟨none, 0, by rw [hdd.out, Hdef.out]; rfl, by rw [Hdef.out]; exact World.ownsRow_nil _ _ _ _, bw_to hw hBB⟩
set_option maxHeartbeats 2000000 in
theorem implLeadsIn_yes (m : Mt) (v : Value) (n K : Nat) (w : World) (hK : MK m n K) (h : MethAt w m v) (hs : MtSmall m) : Calls Try.prog 33 #[m.v v] w fun e w' => e = .returned (.tuple #[.int .i64 (K : Int), .bool true]) ∧ Below w.heap.size w w' := by
  have Hg := Lib.hid (fun W (hW : Below w.heap.size w W) => implGoodMethod_any m v W (h.to hW) hs)
  have Hh := Lib.hid (fun W (hW : Below w.heap.size w W) => leadHead_any m v n W hK.g (h.1.to hW))
  have Hp := Lib.hid (fun W => powers_any (runB (roundsB n) m.l) n K W hK.g.hi hK.hin hK.ord hK.kb)
  rw [hK.ok] at Hg
  obtain ⟨A, c, hv⟩ := h.form
  subst hv
  unfold Mt.v at *
  clear h hK
  go_enter Try.func33, Try.ntmps33
  go_wp2_with fail
  refine box1 (C := fun W => Calls _ _ _ W _) ?_
  intro wb hw k1 hB0
  have R1 := boxRule k1
  clear k1
  refine (Hg.out _ hw).mono ?_; rintro e w1 ⟨rfl, hb1⟩
  have hB1 := bw_to hw hb1
  go_wp2_with fail
  refine (Hh.out _ hB1).mono ?_; rintro e w2 ⟨rfl, hb2⟩
  have hB2 := bw_to hB1 hb2
  go_wp2_with fail
  refine (Hp.out _).mono ?_; rintro e w3 ⟨A3, q3, rfl, hown3, hb3⟩
  clear hown3
  go_wp2_with fail
  go_ret2
  exact ⟨rfl, bw_to hB2 hb3⟩
set_option maxHeartbeats 2000000 in
theorem implLeadsIn_no (m : Mt) (v : Value) (w : World) (hn : methB m = false) (h : MethAt w m v) (hs : MtSmall m) : Calls Try.prog 33 #[m.v v] w fun e w' => e = .returned (.tuple #[.int .i64 0, .bool false]) ∧ Below w.heap.size w w' := by
  have Hg := Lib.hid (fun W (hW : Below w.heap.size w W) => implGoodMethod_any m v W (h.to hW) hs)
  rw [hn] at Hg
  obtain ⟨A, c, hv⟩ := h.form
  subst hv
  unfold Mt.v at *
  clear h hn
  go_enter Try.func33, Try.ntmps33
  go_wp2_with fail
  refine box1 (C := fun W => Calls _ _ _ W _) ?_
  intro wb hw k1 hB0
  have R1 := boxRule k1
  clear k1
  refine (Hg.out _ hw).mono ?_; rintro e w1 ⟨rfl, hb1⟩
  go_wp2_with fail
  go_ret2
  exact ⟨rfl, bw_to hw hb1⟩
set_option maxHeartbeats 2000000 in
theorem specLeadsIn_yes (m : Mt) (v : Value) (n K : Nat) (w : World) (hK : MK m n K) (h : MethAt w m v) (hs : MtSmall m) : Calls Try.prog 34 #[m.v v] w fun e w' => e = .returned (.tuple #[.int .i64 (K : Int), .bool true]) ∧ Below w.heap.size w w' := by
  have Hg := Lib.hid (fun W (hW : Below w.heap.size w W) => l4Good_any m v W (h.to hW) hs)
  have Hh := Lib.hid (fun W (hW : Below w.heap.size w W) => l4Head_any m v n W hK.g (h.1.to hW))
  have Hp := Lib.hid (fun W => l1Order_any (runB (roundsB n) m.l) n K W hK.g.hi hK.hin hK.ord hK.kb)
  rw [hK.ok] at Hg
  obtain ⟨A, c, hv⟩ := h.form
  subst hv
  unfold Mt.v at *
  clear h hK
  go_enter Try.func34, Try.ntmps34
  go_wp2_with fail
  refine box1 (C := fun W => Calls _ _ _ W _) ?_
  intro wb hw k1 hB0
  have R1 := boxRule k1
  clear k1
  refine (Hg.out _ hw).mono ?_; rintro e w1 ⟨rfl, hb1⟩
  have hB1 := bw_to hw hb1
  go_wp2_with fail
  refine (Hh.out _ hB1).mono ?_; rintro e w2 ⟨rfl, hb2⟩
  have hB2 := bw_to hB1 hb2
  go_wp2_with fail
  refine (Hp.out _).mono ?_; rintro e w3 ⟨rfl, rfl⟩
  go_wp2_with fail
  go_ret2
  exact ⟨rfl, hB2⟩
set_option maxHeartbeats 2000000 in
theorem specLeadsIn_no (m : Mt) (v : Value) (w : World) (hn : methB m = false) (h : MethAt w m v) (hs : MtSmall m) : Calls Try.prog 34 #[m.v v] w fun e w' => e = .returned (.tuple #[.int .i64 0, .bool false]) ∧ Below w.heap.size w w' := by
  have Hg := Lib.hid (fun W (hW : Below w.heap.size w W) => l4Good_any m v W (h.to hW) hs)
  rw [hn] at Hg
  obtain ⟨A, c, hv⟩ := h.form
  subst hv
  unfold Mt.v at *
  clear h hn
  go_enter Try.func34, Try.ntmps34
  go_wp2_with fail
  refine box1 (C := fun W => Calls _ _ _ W _) ?_
  intro wb hw k1 hB0
  have R1 := boxRule k1
  clear k1
  refine (Hg.out _ hw).mono ?_; rintro e w1 ⟨rfl, hb1⟩
  go_wp2_with fail
  go_ret2
  exact ⟨rfl, bw_to hw hb1⟩
end Go.Proofs.Ytpkpahadjdkafaa
