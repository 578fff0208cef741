/- The walk along a proof's lines, both sides. (Printed by a program: tools/mkLD.py.) -/
import Derived.Test.YtajffjkmmenaoaaGreatPk41
import Derived.Test.YtajffjkmmenaoaaGreatPk6
namespace Go.Proofs.YtajffjkmmenaoaaGreat
open Go Go.RowKit
set_option linter.unusedVariables false
set_option linter.unusedSimpArgs false

theorem strs_up {w : World} {A : Option Addr} {c k n : Nat} {ss : List ByteArray} (h : Strs w (.slice A n c) ss) (hk : k ≤ n) (hn : 1 ≤ n) : ∃ ad, A = some ad ∧ n ≤ c ∧ c ≤ maxLen ∧ Strs w (.slice (some ad) k c) (ss.take k) := by
  have hl := strs_len h
  obtain ⟨A', c', e, h1, h2, hr⟩ := h
  cases e
  obtain ⟨ad, hA, _⟩ := strs_el (k := 0) hr (by omega)
  subst hA
  exact ⟨ad, rfl, by omega, h2, strs_uptoG ⟨_, _, by rw [hl], h1, h2, hr⟩ hk⟩
set_option maxRecDepth 20000 in
set_option maxHeartbeats 1000000 in
theorem rightHeads_any (m : Mt) (v : Value) (k : Cl) (t : ByteArray) (hv : Value) (hs : List ByteArray) (n : Nat) (w : World) (hg : CGood m k n) (ht : touchB t.data.toList = true) (hM : MethAt w m v) (hh : Strs w hv hs) : Calls Tryz.prog 69 #[m.v v, k.v, .string t, hv] w fun e w' => e = .returned (.bool (headsOk m k t hs)) ∧ Below w.heap.size w w' := by
  have Hh := Lib.hid (fun W (hW : Below w.heap.size w W) => heads_any m v k t n W hg (hM.1.to hW) ht)
  rw [← headsT_n hg.m.st] at Hh
  have Hc := Lib.hid (fun W (hW : Below w.heap.size w W) => comesRound_any m v k t n W hg (hM.1.to hW) ht)
  have HS := Lib.hid (fun W (hW : Below w.heap.size w W) => hh.to hW)
  have Hdef : Hid (headsOk m k t hs = (decide (hs = headsT m k t) && decide (endT m k t = roundsB n))) := Lib.hid (by unfold headsOk; rw [hg.m.st]; rfl)
  obtain ⟨A, c, hv'⟩ := hM.form
  subst hv'
  obtain ⟨A1, c1, rfl, _⟩ := hh
  obtain ⟨b1, hb1⟩ : ∃ b, b = decide (hs = headsT m k t) := ⟨_, rfl⟩
  obtain ⟨b2, hb2⟩ : ∃ b, b = decide (endT m k t = roundsB n) := ⟨_, rfl⟩
  rw [← hb1, ← hb2] at Hdef
  rw [← hb2] at Hc
  have Hb1 := Lib.hid hb1
  have Hln := Lib.hid (headsT_len m k t)
  obtain ⟨HT, hHT⟩ : ∃ H, H = headsT m k t := ⟨_, rfl⟩
  rw [← hHT] at Hh Hb1 Hln
  unfold Mt.v Cl.v at *
  clear hg ht hM hb1 hb2 hHT
  go_enter Tryz.func69, Tryz.ntmps69
  go_wp2_with fail
  refine box2 (C := fun W => Calls _ _ _ W _) ?_
  intro wb hw k1 k2 hB0
  have R1 := boxRule k1
  have R2 := boxRule k2
  clear k1 k2
  refine (Hh.out _ hw).mono ?_; rintro e w1 ⟨A2, q2, rfl, ho, hb1⟩
  have hB1 := bw_to hw hb1
  have HQ := Lib.hid (fun W (hW : Below w1.heap.size w1 W) => slicesEqualStr_any _ _ hs HT W (HS.out _ (bw_to hB1 hW)) ((strs_own_v (by rw [Hln.out]) ho).to hW))
  rw [← Hb1.out] at HQ
  clear ho
  cases b1
  · go_wp2_with (go_at_call 45; refine (HQ.out _ (Below.refl _ _)).mono ?_; rintro e w2 ⟨rfl, hb2⟩; (have hB2 := bw_to hB1 hb2))
    go_ret
    exact ⟨by rw [Hdef.out] <;> rfl, hB2⟩
  · go_wp2_with (first | (go_at_call 45; refine (HQ.out _ (Below.refl _ _)).mono ?_; rintro e w2 ⟨rfl, hb2⟩; (have hB2 := bw_to hB1 hb2); (have x0 := R1 w2 0 (bw_to hb1 hb2)); (have x1 := R1 w2 1 (bw_to hb1 hb2)); (have x2 := R1 w2 2 (bw_to hb1 hb2)); (have x3 := R2 w2 0 (bw_to hb1 hb2)); (have x4 := R2 w2 1 (bw_to hb1 hb2))) | (go_at_call 20; refine (Hc.out _ hB2).mono ?_; rintro e w3 ⟨rfl, hb3⟩; (have hB3 := bw_to hB2 hb3)))
    go_ret
    exact ⟨by rw [Hdef.out] <;> rfl, hB3⟩
set_option maxRecDepth 100000 in
set_option maxHeartbeats 16000000 in
theorem firstLie_any (m : Mt) (v : Value) (k : Cl) (t : ByteArray) (hv lv : Value) (hs : List ByteArray) (ls : List Ln) (n : Nat) (w : World) (hg : CGood m k n) (ht : touchB t.data.toList = true) (hM : MethAt w m v) (hh : Strs w hv hs) (hl : Lns w lv ls) (hsh : shapeB hs ls = true) : Calls Tryz.prog 37 #[m.v v, k.v, .string t, .agg #[hv, lv]] w fun e w' => e = .returned (.int .i64 (lieZ m k t hs ls)) ∧ Below w.heap.size w w' := by
  have HR := Lib.hid (fun W (hW : Below w.heap.size w W) => rightHeads_any m v k t hv hs n W hg ht (hM.to hW) (hh.to hW))
  have Z0 := Lib.hid (lieZ_heads (m := m) (k := k) (t := t) (hs := hs) (ls := ls))
  have Z1 := Lib.hid (lieZ_count (m := m) (k := k) (t := t) (hs := hs) (ls := ls))
  have Z2 := Lib.hid (lieZ_lines (m := m) (k := k) (t := t) (hs := hs) (ls := ls))
  have Hho : Hid (headsOk m k t hs = true → hs = headsT m k t) := Lib.hid (fun h => by unfold headsOk at h; rw [Bool.and_eq_true, decide_eq_true_eq] at h; exact h.1)
  have Hrow := Lib.hid (fun x y (hx : x < t.size) (hy : y < m.l.length) h (hh : (headsT m k t)[x]? = some h) => row_at (m := m) (k := k) (t := t) hx hy hh)
  have Hhl := Lib.hid (headsT_len m k t)
  have Hin := Lib.hid (headsT_in (k := k) hg.m t)
  have hn := hg.m.hi
  have hml := hg.m.len
  have hpos := Lib.hid (shape_pos hsh).1
  have hl8 := (shape_pos hsh).2.1
  have hts := touch_size ht
  have Hchs : Hid (∀ y, ChsOk (m.l.take y)) := Lib.hid (fun y s hs => hg.m.ok s (List.mem_of_mem_take hs))
  have Hmv := Lib.hid (fun W (hW : Below w.heap.size w W) => hM.1.to hW)
  obtain ⟨A, c, hv'⟩ := hM.form
  subst hv'
  obtain ⟨Ah, ch, rfl, hch1, hch2, hrh⟩ := hh
  obtain ⟨Al, cl, rfl, hcl1, hcl2, hrl⟩ := hl
  unfold maxLen at hch2 hcl2
  obtain ⟨ho, hho⟩ : ∃ b, b = headsOk m k t hs := ⟨_, rfl⟩
  obtain ⟨Z, hZ⟩ : ∃ Z, Z = lieZ m k t hs ls := ⟨_, rfl⟩
  rw [← hho] at HR Z0 Z1 Z2 Hho
  rw [← hZ] at Z0 Z1 Z2 ⊢
  obtain ⟨rows, hrows⟩ : ∃ r, r = rowsT m k t := ⟨_, rfl⟩
  rw [← hrows] at Z2 Hrow
  obtain ⟨N, hN⟩ : ∃ N, N = m.l.length := ⟨_, rfl⟩
  unfold Mt.v Cl.v at *
  rw [← hN] at Z1 Z2 Hrow hml
  have hmul : t.size * N ≤ 60 * 40 := Nat.mul_le_mul (by omega) (by omega)
  have HN := Lib.hid hN
  clear hg ht hM hsh hho hZ hrows
  go_enter Tryz.func37, Tryz.ntmps37
  go_wp2_with fail
  refine box3 (C := fun W => Calls _ _ _ W _) ?_
  intro wb hw k1 k2 k3 hB0
  have RM := boxRule k1
  have RP := boxRule k3
  clear k1 k2 k3
  refine (HR.out _ hw).mono ?_; rintro e w1 ⟨rfl, hb1⟩
  have hB1 := bw_to hw hb1
  cases ho
  · have hF := Lib.hid (Z0.out rfl)
    clear RM RP Z0 Z1 Z2 Hho
    go_wp2_with fail
    go_ret
    exact ⟨by rw [hF.out] <;> rfl, hB1⟩
  have m2 := RM w1 2 hb1
  have f0 := RP w1 0 hb1
  have f1 := RP w1 1 hb1
  rw [← hN] at RM m2 ⊢
  clear hN
  obtain ⟨M, hMM⟩ : ∃ M, M = t.size * N := ⟨_, rfl⟩
  have hmz : IntKind.i64.wrap ((t.size : Int) * (N : Int)) = (M : Int) := by rw [show ((t.size : Int) * (N : Int)) = (M : Int) by rw [hMM]; simp]; exact IntWalk.i64_in _ (by omega)
  rw [← hMM] at Z1 Z2
  have hM8 : M ≤ 2400 := by omega
  clear hMM hmul
  by_cases hc : ls.length = M
  rotate_left
  · have gc : ((ls.length : Int) != (M : Int)) = true := by rw [bne_iff_ne]; omega
    have hF := Lib.hid (Z1.out rfl hc)
    clear Z0 Z1 Z2 Hho
    go_wp2_with fail
    go_ret
    exact ⟨by rw [hF.out] <;> rfl, hB1⟩
  have gc : ((ls.length : Int) != (M : Int)) = false := by rw [hc]; simp
  have hZ2 := Lib.hid (Z2.out rfl hc)
  have hhs := Hho.out rfl
  rw [← hhs] at Hrow Hhl Hin
  have Hrow2 := Hrow
  clear Z0 Z1 Z2 Hho hc hhs
  go_wp2_with fail
  go_loopw [31] (fun i wr => ∃ j : Nat, j ≤ ls.length ∧ i = .int .i64 j ∧ (∀ i, i < j → okLn nmLt rows N t.size ls i = true) ∧ Below w.heap.size w wr ∧ Below wb.heap.size wb wr) (fun i _ => ls.length - (intOf i).toNat)
  case atStart => exact ⟨0, Nat.zero_le _, rfl, fun i hi => (by omega), hB1, hb1⟩
  case round =>
    obtain ⟨j, hj, rfl, ha, hB, hBb⟩ := hrel
    have Ha := Lib.hid ha
    clear ha
    by_cases hlt : j < ls.length
    · obtain ⟨al, hal, hCl⟩ := lns_el hrl rfl hlt
      subst hal
      have hq := hCl wr hB
      obtain ⟨q0, q1, q2⟩ := hq
      clear hCl
      have Hpos := Lib.hid (hpos.out _ (List.getElem_mem hlt))
      obtain ⟨x, hx⟩ : ∃ x : Nat, ls[j].lead = x := ⟨ls[j].lead.toNat, by have := Hpos.out.1; omega⟩
      obtain ⟨y, hy⟩ : ∃ x : Nat, ls[j].at' = x := ⟨ls[j].at'.toNat, by have := Hpos.out.2; omega⟩
      obtain ⟨r, hr⟩ : ∃ r, r = ls[j].row := ⟨_, rfl⟩
      rw [← hr] at q0
      rw [hx] at q1
      rw [hy] at q2
      have Hlie := Lib.hid (fun (h : okLn nmLt rows N t.size ls j = false) => lieN_at hlt Ha.out h)
      have Hnx := Lib.hid (fun (h : okLn nmLt rows N t.size ls j = true) i (hi : i < j + 1) => (by
        by_cases e : i = j
        · subst e; exact h
        · exact Ha.out i (by omega) : okLn nmLt rows N t.size ls i = true))
      have Klead := Lib.hid (fun (h : ¬ x < t.size) => ok_lead (rows := rows) (N := N) (T' := t.size) hlt (by rw [hx]; exact h))
      have Kplace := Lib.hid (fun (h : ¬ y < N) => ok_place (rows := rows) (N := N) (T' := t.size) hlt (by rw [hy]; exact h))
      have Krow := Lib.hid (fun (h1 : x < t.size) (h2 : y < N) h (hh : hs[x]? = some h) => (by rw [hx, hy]; exact Hrow.out x y h1 h2 h hh : rows[ls[j].lead.toNat * N + ls[j].at'.toNat]? = some (runB h (m.l.take y))))
      have Kno := Lib.hid (fun (h1 : x < t.size) (h2 : y < N) h (hh : hs[x]? = some h) (e : r ≠ runB h (m.l.take y)) => Hlie.out (ok_row hlt (Krow.out h1 h2 h hh) (by rw [← hr]; exact e)))
      have Kall := Lib.hid (fun (h1 : x < t.size) (h2 : y < N) h (hh : hs[x]? = some h) (h0 : 0 < j → nmLt (ls[j - 1]'(by omega)).row r = true) (e : r = runB h (m.l.take y)) => Hnx.out (ok_all (rows := rows) (N := N) (T' := t.size) hlt (by rw [← hr]; exact h0) (by rw [hx]; exact h1) (by rw [hy]; exact h2) (Krow.out h1 h2 h hh) (by rw [← hr]; exact e)))
      have Kord := Lib.hid (fun (h0 : 0 < j) (h : nmLt (ls[j - 1]'(by omega)).row r = false) => Hlie.out (ok_order (rows := rows) (N := N) (T' := t.size) h0 hlt (by rw [← hr]; exact h)))
      clear hx hy hr Hpos
      go_upto_region 8 with fail
      refine box1 (C := fun W => Code.wp _ _ _ _ W) ?_
      intro w2 hw2 k2 hB2'
      have RL := boxRule k2
      have p0 := RL w2 0 (Below.refl _ _)
      have p1 := RL w2 1 (Below.refl _ _)
      have p2 := RL w2 2 (Below.refl _ _)
      have hB2 := bw_to hB hw2
      have hBb2 := bw_to hBb hw2
      have m2 : w2.cell? ⟨w.heap.size, 2, none⟩ = some (.slice A N c) := by first | exact RM w2 2 hBb2 | (rw [HN.out]; exact RM w2 2 hBb2)
      have f0 := RP w2 0 hBb2
      have f1 := RP w2 1 hBb2
      clear q0 q1 q2 k2 hw2 hB hBb hB2'
      have hjz : (j : Int) + 2 < 9223372036854775807 := by omega
      by_cases hxT : x < t.size
      rotate_left
      · -- the lead is too large
        have hF := Lib.hid (Hlie.out (Klead.out hxT))
        have gL : decide ((t.size : Int) ≤ (x : Int)) = true := decide_eq_true (by omega)
        have gL2 : decide (t.size ≤ x) = true := decide_eq_true (by omega)
        by_cases hj0 : 0 < j
        · have hjm : j - 1 < ls.length := by omega
          obtain ⟨al', hal', hCp⟩ := lns_el hrl rfl hjm
          injection hal' with hal'
          subst hal'
          obtain ⟨v0, v1, v2⟩ := hCp w2 hB2
          obtain ⟨y', hy'⟩ : ∃ y', y' = (ls[j - 1]'hjm).row := ⟨_, rfl⟩
          rw [← hy'] at v0
          have g0 : decide ((0 : Int) < (j : Int)) = true := decide_eq_true (by omega)
          have hw3 : (0 : Int) ≤ (j : Int) - 1 := by omega
          have hw4 : ((j : Int) - 1).toNat = j - 1 := by omega
          have hw5 : (j : Int) - 1 < (ls.length : Int) := by omega
          have hw6 : IntKind.i64.wrap ((j : Int) - 1) = (j : Int) - 1 := IntWalk.i64_in _ (by omega)
          clear hCp v1 v2 hy'
          cases s2 : Op.bytesLess r.toList y'.toList <;> cases s3 : (r.toList == y'.toList)
          all_goals
            go_big_quiet (fail)
            go_wp2_with fail
            go_ret
            exact ⟨by rw [hZ2.out, hF.out] <;> (first | rfl | (rw [if_neg (by omega)]; rfl) | (rw [if_neg (by omega)])), bw_dr hB2 _⟩
        · obtain rfl : j = 0 := by omega
          have g0 : decide ((0 : Int) < ((0 : Nat) : Int)) = false := by decide
          have g0' : decide ((0 : Int) < (0 : Int)) = false := by decide
          go_big_quiet (fail)
          go_wp2_with fail
          go_ret
          exact ⟨by rw [hZ2.out, hF.out] <;> (first | rfl | (rw [if_neg (by omega)]; rfl) | (rw [if_neg (by omega)])), bw_dr hB2 _⟩
      have gL : decide ((t.size : Int) ≤ (x : Int)) = false := decide_eq_false (by omega)
      have gL2 : decide (t.size ≤ x) = false := decide_eq_false (by omega)
      by_cases hyN : y < N
      rotate_left
      · have hF := Lib.hid (Hlie.out (Kplace.out hyN))
        have gA : decide ((N : Int) ≤ (y : Int)) = true := decide_eq_true (by omega)
        have gA2 : decide (N ≤ y) = true := decide_eq_true (by omega)
        by_cases hj0 : 0 < j
        · have hjm : j - 1 < ls.length := by omega
          obtain ⟨al', hal', hCp⟩ := lns_el hrl rfl hjm
          injection hal' with hal'
          subst hal'
          obtain ⟨v0, v1, v2⟩ := hCp w2 hB2
          obtain ⟨y', hy'⟩ : ∃ y', y' = (ls[j - 1]'hjm).row := ⟨_, rfl⟩
          rw [← hy'] at v0
          have g0 : decide ((0 : Int) < (j : Int)) = true := decide_eq_true (by omega)
          have hw3 : (0 : Int) ≤ (j : Int) - 1 := by omega
          have hw4 : ((j : Int) - 1).toNat = j - 1 := by omega
          have hw5 : (j : Int) - 1 < (ls.length : Int) := by omega
          have hw6 : IntKind.i64.wrap ((j : Int) - 1) = (j : Int) - 1 := IntWalk.i64_in _ (by omega)
          clear hCp v1 v2 hy'
          cases s2 : Op.bytesLess r.toList y'.toList <;> cases s3 : (r.toList == y'.toList)
          all_goals
            go_big_quiet (fail)
            go_wp2_with fail
            go_ret
            exact ⟨by rw [hZ2.out, hF.out] <;> (first | rfl | (rw [if_neg (by omega)]; rfl) | (rw [if_neg (by omega)])), bw_dr hB2 _⟩
        · obtain rfl : j = 0 := by omega
          have g0 : decide ((0 : Int) < ((0 : Nat) : Int)) = false := by decide
          have g0' : decide ((0 : Int) < (0 : Int)) = false := by decide
          go_big_quiet (fail)
          go_wp2_with fail
          go_ret
          exact ⟨by rw [hZ2.out, hF.out] <;> (first | rfl | (rw [if_neg (by omega)]; rfl) | (rw [if_neg (by omega)])), bw_dr hB2 _⟩
      have gA : decide ((N : Int) ≤ (y : Int)) = false := decide_eq_false (by omega)
      have gA2 : decide (N ≤ y) = false := decide_eq_false (by omega)
      have Hh : Hid (x < hs.length) := Lib.hid (by rw [Hhl.out]; omega)
      obtain ⟨ah, hah, hCh⟩ := strs_el hrh Hh.out
      subst hah
      obtain ⟨am, ham, hNc, hcm, hup⟩ := strs_up (k := y) (Hmv.out _ (Below.refl _ _)) (by rw [← HN.out]; omega) (by rw [← HN.out]; omega)
      subst ham
      have Hru := Lib.hid (fun W (hW : Below w.heap.size w W) => rowsUnder_any (hs[x]'Hh.out) (.slice (some am) y c) (m.l.take y) n W hn (Hin.out _ (List.getElem_mem Hh.out)) (hup.to hW) (by rw [List.length_take]; omega) (Hchs.out y))
      have Hlt : Hid ((m.l.take y).length = y) := Lib.hid (by rw [List.length_take, ← HN.out]; omega)
      rw [Hlt.out] at Hru
      have HC0 := Lib.hid hCh
      obtain ⟨h, hh⟩ : ∃ h, h = hs[x]'Hh.out := ⟨_, rfl⟩
      have hhq : hs[x]? = some h := by rw [hh]; exact List.getElem?_eq_getElem Hh.out
      have Kno2 := Lib.hid (Kno.out hxT hyN h hhq)
      have Kall2 := Lib.hid (Kall.out hxT hyN h hhq)
      rw [← hh] at HC0 Hru
      clear hhq
      have Hsc : Hid ((scanB h (m.l.take y))[y]? = some (runB h (m.l.take y))) := Lib.hid (by
        have e1 := scan_last (m.l.take y) h
        rw [Hlt.out] at e1
        exact e1)
      obtain ⟨z, hz⟩ : ∃ z, z = runB h (m.l.take y) := ⟨_, rfl⟩
      rw [← hz] at Kno2 Kall2 Hsc
      rw [← HN.out] at hNc
      have hyc : (y : Int) ≤ (c : Int) := by omega
      clear hh hz hCh hup Kno Kall Krow Klead Kplace
      by_cases hj0 : 0 < j
      · have hjm : j - 1 < ls.length := by omega
        obtain ⟨al', hal', hCp⟩ := lns_el hrl rfl hjm
        injection hal' with hal'
        subst hal'
        obtain ⟨v0, v1, v2⟩ := hCp w2 hB2
        have Kord2 := Lib.hid (fun h => Kord.out hj0 h)
        have Kall3 := Lib.hid (fun (h : nmLt (ls[j - 1]'hjm).row r = true) e => Kall2.out (fun _ => h) e)
        obtain ⟨y', hy'⟩ : ∃ y', y' = (ls[j - 1]'hjm).row := ⟨_, rfl⟩
        rw [← hy'] at v0 Kord2 Kall3
        have g0 : decide ((0 : Int) < (j : Int)) = true := decide_eq_true (by omega)
        have hw3 : (0 : Int) ≤ (j : Int) - 1 := by omega
        have hw4 : ((j : Int) - 1).toNat = j - 1 := by omega
        have hw5 : (j : Int) - 1 < (ls.length : Int) := by omega
        have hw6 : IntKind.i64.wrap ((j : Int) - 1) = (j : Int) - 1 := IntWalk.i64_in _ (by omega)
        clear hCp v1 v2 hy' Kall2
        cases hlt2 : nmLt y' r
        · have hF := Lib.hid (Kord2.out hlt2)
          have s1 : Op.bytesLess y'.toList r.toList = false := hlt2
          cases s2 : Op.bytesLess r.toList y'.toList
          · have e := sl_tot hlt2 s2
            have s3 : (r.toList == y'.toList) = true := by rw [e]; exact beq_self_eq_true _
            have s4 : (y'.toList == r.toList) = true := by rw [e]; exact beq_self_eq_true _
            clear e
            go_big_quiet (fail)
            go_wp2_with fail
            go_ret
            exact ⟨by rw [hZ2.out, hF.out] <;> (first | rfl | (rw [if_neg (by omega)]; rfl) | (rw [if_neg (by omega)])), bw_dr hB2 _⟩
          · have s3 : (r.toList == y'.toList) = false := by rw [sl_beq]; exact decide_eq_false (fun e => by rw [e] at s2; rw [show Op.bytesLess y'.toList y'.toList = nmLt y' y' from rfl, sl_irr] at s2; cases s2)
            have s4 : (y'.toList == r.toList) = false := by rw [sl_beq]; exact decide_eq_false (fun e => by rw [e] at s2; rw [show Op.bytesLess r.toList r.toList = nmLt r r from rfl, sl_irr] at s2; cases s2)
            go_big_quiet (fail)
            go_wp2_with fail
            go_ret
            exact ⟨by rw [hZ2.out, hF.out] <;> (first | rfl | (rw [if_neg (by omega)]; rfl) | (rw [if_neg (by omega)])), bw_dr hB2 _⟩
        · have s1 : Op.bytesLess y'.toList r.toList = true := hlt2
          have s2 : Op.bytesLess r.toList y'.toList = false := sl_asym hlt2
          have s3 : (r.toList == y'.toList) = false := by rw [sl_beq]; exact decide_eq_false (fun e => by rw [e, sl_irr] at hlt2; cases hlt2)
          have s4 : (y'.toList == r.toList) = false := by rw [sl_beq]; exact decide_eq_false (fun e => by rw [e, sl_irr] at hlt2; cases hlt2)
          have Kall4 := Lib.hid (fun e => Kall3.out hlt2 e)
          clear hlt2 Kall3 Kord2
          go_big_quiet (fail)
          clear s1 s2 s3 s4 hw3 hw4 hw5 hw6 g0 v0 gL gA gL2 gA2 p0 p1 p2 m2 f0 f1
          have hBd := bw_dr hB2 nq
          have hBbd := bw_dr hBb2 nq
          have RLd : ∀ W i, Below (w2.drewN nq).heap.size (w2.drewN nq) W → W.cell? ⟨_, i, none⟩ = _ := fun W i hW => RL W i (bw_to (bw_dr (Below.refl w2.heap.size w2) nq) hW)
          clear RL
          generalize w2.drewN nq = wd at hBd hBbd RLd ⊢
          have F0 : ∀ W, Below wd.heap.size wd W → W.cell? ⟨w.heap.size, 2, none⟩ = some (.slice (some am) N c) := fun W hW => by first | exact RM W 2 (bw_to hBbd hW) | (rw [HN.out]; exact RM W 2 (bw_to hBbd hW))
          have F1 : ∀ W, Below wd.heap.size wd W → W.cell? ⟨w.heap.size + 2, 0, none⟩ = some (.slice (some ah) hs.length ch) := fun W hW => RP W 0 (bw_to hBbd hW)
          have F2 : ∀ W, Below wd.heap.size wd W → W.cell? (ah.add x) = some (.string h) := fun W hW => HC0.out W (bw_to hBd hW)
          have hxz : (x : Int) < (hs.length : Int) := by have := Hh.out; omega
          have hyz : (y : Int) ≤ (N : Int) := by omega
          have hyz1 : (y : Int) < ((y + 1 : Nat) : Int) := by omega
          have hyz2 : (y : Int) < (y : Int) + 1 := by omega
          have hbd0 := Below.drew (Below.refl wd.heap.size wd)
          clear RM RP
          go_upto_region 10 with fail
          refine wp_region_held_drew (S := fun W => Below wd.heap.size wd W) (by kernel_rfl) hbd0 (fun hHeld => ?_)
          refine wpAnyH_take (i := 0) (v := .pointer (some ⟨wr.heap.size, 0, none⟩)) rfl (by kernel_rfl) (by kernel_rfl) (by kernel_rfl) (fun _ _ _ h => h) (Or.inl ⟨by kernel_rfl, ?_⟩) hHeld ?_
          · intro W hS
            go_simp
          try simp only [Act.put, List.setIfInBounds_toArray, List.set_cons_zero, List.set_cons_succ]
          refine wpAnyH_take (i := 1) (v := .string r) rfl (by kernel_rfl) (by kernel_rfl) (by kernel_rfl) (fun _ _ _ h => h) (Or.inl ⟨by kernel_rfl, ?_⟩) hHeld ?_
          · intro W hS
            have z0 := RLd W 0 hS
            clear F0 F1 F2 RLd
            go_simp
          try simp only [Act.put, List.setIfInBounds_toArray, List.set_cons_zero, List.set_cons_succ]
          refine wpAnyH_take (i := 2) (v := .pointer (some ⟨w.heap.size + 1 + 1, 0, none⟩)) rfl (by kernel_rfl) (by kernel_rfl) (by kernel_rfl) (fun _ _ _ h => h) (Or.inl ⟨by kernel_rfl, ?_⟩) hHeld ?_
          · intro W hS
            go_simp
          try simp only [Act.put, List.setIfInBounds_toArray, List.set_cons_zero, List.set_cons_succ]
          refine wpAnyH_take (i := 3) (v := .slice (some ah) hs.length ch) rfl (by kernel_rfl) (by kernel_rfl) (by kernel_rfl) (fun _ _ _ h => h) (Or.inl ⟨by kernel_rfl, ?_⟩) hHeld ?_
          · intro W hS
            have z0 := F1 W hS
            clear F0 F1 F2 RLd
            go_simp
          try simp only [Act.put, List.setIfInBounds_toArray, List.set_cons_zero, List.set_cons_succ]
          refine wpAnyH_take (i := 4) (v := .pointer (some ⟨wr.heap.size, 1, none⟩)) rfl (by kernel_rfl) (by kernel_rfl) (by kernel_rfl) (fun _ _ _ h => h) (Or.inl ⟨by kernel_rfl, ?_⟩) hHeld ?_
          · intro W hS
            go_simp
          try simp only [Act.put, List.setIfInBounds_toArray, List.set_cons_zero, List.set_cons_succ]
          refine wpAnyH_take (i := 5) (v := .int .i64 (x : Int)) rfl (by kernel_rfl) (by kernel_rfl) (by kernel_rfl) (fun _ _ _ h => h) (Or.inl ⟨by kernel_rfl, ?_⟩) hHeld ?_
          · intro W hS
            have z0 := RLd W 1 hS
            clear F0 F1 F2 RLd
            go_simp
          try simp only [Act.put, List.setIfInBounds_toArray, List.set_cons_zero, List.set_cons_succ]
          refine wpAnyH_take (i := 6) (v := .pointer (some (ah.add x))) rfl (by kernel_rfl) (by kernel_rfl) (by kernel_rfl) (fun _ _ _ h => h) (Or.inl ⟨by kernel_rfl, ?_⟩) hHeld ?_
          · intro W hS
            go_simp
          try simp only [Act.put, List.setIfInBounds_toArray, List.set_cons_zero, List.set_cons_succ]
          refine wpAnyH_take (i := 7) (v := .string h) rfl (by kernel_rfl) (by kernel_rfl) (by kernel_rfl) (fun _ _ _ h => h) (Or.inl ⟨by kernel_rfl, ?_⟩) hHeld ?_
          · intro W hS
            have z0 := F2 W hS
            clear F0 F1 F2 RLd
            go_simp
          try simp only [Act.put, List.setIfInBounds_toArray, List.set_cons_zero, List.set_cons_succ]
          refine wpAnyH_take (i := 8) (v := .pointer (some ⟨w.heap.size, 2, none⟩)) rfl (by kernel_rfl) (by kernel_rfl) (by kernel_rfl) (fun _ _ _ h => h) (Or.inl ⟨by kernel_rfl, ?_⟩) hHeld ?_
          · intro W hS
            go_simp
          try simp only [Act.put, List.setIfInBounds_toArray, List.set_cons_zero, List.set_cons_succ]
          refine wpAnyH_take (i := 9) (v := .slice (some am) N c) rfl (by kernel_rfl) (by kernel_rfl) (by kernel_rfl) (fun _ _ _ h => h) (Or.inl ⟨by kernel_rfl, ?_⟩) hHeld ?_
          · intro W hS
            have z0 := F0 W hS
            clear F0 F1 F2 RLd
            go_simp
          try simp only [Act.put, List.setIfInBounds_toArray, List.set_cons_zero, List.set_cons_succ]
          refine wpAnyH_take (i := 10) (v := .pointer (some ⟨wr.heap.size, 2, none⟩)) rfl (by kernel_rfl) (by kernel_rfl) (by kernel_rfl) (fun _ _ _ h => h) (Or.inl ⟨by kernel_rfl, ?_⟩) hHeld ?_
          · intro W hS
            go_simp
          try simp only [Act.put, List.setIfInBounds_toArray, List.set_cons_zero, List.set_cons_succ]
          refine wpAnyH_take (i := 11) (v := .int .i64 (y : Int)) rfl (by kernel_rfl) (by kernel_rfl) (by kernel_rfl) (fun _ _ _ h => h) (Or.inl ⟨by kernel_rfl, ?_⟩) hHeld ?_
          · intro W hS
            have z0 := RLd W 2 hS
            clear F0 F1 F2 RLd
            go_simp
          try simp only [Act.put, List.setIfInBounds_toArray, List.set_cons_zero, List.set_cons_succ]
          refine wpAnyH_take (i := 12) (v := .slice (some am) y c) rfl (by kernel_rfl) (by kernel_rfl) (by kernel_rfl) (fun _ _ _ h => h) (Or.inl ⟨by kernel_rfl, ?_⟩) hHeld ?_
          · intro W hS
            go_simp
          try simp only [Act.put, List.setIfInBounds_toArray, List.set_cons_zero, List.set_cons_succ]
          refine wpAnyH_take (i := 14) (v := .pointer (some ⟨wr.heap.size, 2, none⟩)) rfl (by kernel_rfl) (by kernel_rfl) (by kernel_rfl) (fun _ _ _ h => h) (Or.inl ⟨by kernel_rfl, ?_⟩) hHeld ?_
          · intro W hS
            go_simp
          try simp only [Act.put, List.setIfInBounds_toArray, List.set_cons_zero, List.set_cons_succ]
          refine wpAnyH_take (i := 15) (v := .int .i64 (y : Int)) rfl (by kernel_rfl) (by kernel_rfl) (by kernel_rfl) (fun _ _ _ h => h) (Or.inl ⟨by kernel_rfl, ?_⟩) hHeld ?_
          · intro W hS
            have z0 := RLd W 2 hS
            clear F0 F1 F2 RLd
            go_simp
          try simp only [Act.put, List.setIfInBounds_toArray, List.set_cons_zero, List.set_cons_succ]
          refine wpAnyH_all (rs := [13]) (by kernel_rfl) (by simp) (List.forall_mem_singleton.2 ?_)
          refine wpOp_inQ rfl (by rfl) ?_
          unfold Oper.wp
          go_simp
          go_at_call 70
          refine (Hru.out _ (bw_to hBd hHeld)).mono ?_; rintro e' w3 ⟨A3, q3, rfl, ho3, hb3⟩
          have hB3 := bw_to hHeld hb3
          obtain ⟨g3, hg3, _, _⟩ := own_addr ho3 (by omega)
          subst hg3
          have c3 : w3.cell? ⟨g3, y, none⟩ = some (.string z) := by rw [ho3.cellAt y (by omega), List.getElem?_map, Hsc.out]; rfl
          clear ho3 hb3
          refine ⟨hB3, ?_⟩
          try simp only [Act.put, List.setIfInBounds_toArray, List.set_cons_zero, List.set_cons_succ]
          refine wpAnyH_take (i := 16) (v := .pointer (some ⟨g3, y, none⟩)) rfl (by kernel_rfl) (by kernel_rfl) (by kernel_rfl) (fun _ _ _ h => h) (Or.inl ⟨by kernel_rfl, ?_⟩) hB3 ?_
          · intro W hS
            go_simp
          try simp only [Act.put, List.setIfInBounds_toArray, List.set_cons_zero, List.set_cons_succ]
          refine wpAnyH_all (rs := [17]) (by kernel_rfl) (by simp) (List.forall_mem_singleton.2 ?_)
          refine wpOp_inQ rfl (by rfl) ?_
          unfold Oper.wp
          go_simp
          try simp only [Act.put, List.setIfInBounds_toArray, List.set_cons_zero, List.set_cons_succ]
          obtain ⟨vb, hvb⟩ : ∃ b, b = !(r.toList == z.toList) := ⟨_, rfl⟩
          refine wpAnyH_take (i := 18) (v := .bool vb) rfl (by kernel_rfl) (by kernel_rfl) (by kernel_rfl) (fun _ _ _ h => h) (Or.inl ⟨by kernel_rfl, ?_⟩) hB3 ?_
          · intro W hS
            have z0 := hvb.symm
            clear F0 F1 F2 RLd c3 hvb
            go_simp
          try simp only [Act.put, List.setIfInBounds_toArray, List.set_cons_zero, List.set_cons_succ]
          refine wpAnyH_done (by kernel_rfl) ?_ _
          try simp only [List.getElem_toArray, List.getElem_cons_succ, List.getElem_cons_zero, Act.put, List.setIfInBounds_toArray, List.set_cons_zero, List.set_cons_succ]
          have hBw3 := bw_to hBd hB3
          have hBb3 := bw_to hBbd hB3
          clear F0 F1 F2 RLd c3
          by_cases e : r = z
          · have se : vb = false := by rw [hvb, e]; simp
            have HT := Lib.hid (Kall4.out e)
            subst se
            clear e hvb
            go_wp2_with fail
            exact ⟨⟨j + 1, by omega, by go_num, HT.out, hBw3, hBb3⟩, by simp [intOf] <;> omega⟩
          · have se : vb = true := by rw [hvb, sl_beq, decide_eq_false e]; rfl
            have hF := Lib.hid (Kno2.out e)
            subst se
            clear e hvb
            go_wp2_with fail
            go_ret
            exact ⟨by rw [hZ2.out, hF.out] <;> (first | rfl | (rw [if_neg (by omega)]; rfl) | (rw [if_neg (by omega)])), hBw3⟩
      · obtain rfl : j = 0 := by omega
        have g0 : decide ((0 : Int) < ((0 : Nat) : Int)) = false := by decide
        have g0' : decide ((0 : Int) < (0 : Int)) = false := by decide
        have Kall4 := Lib.hid (fun e => Kall2.out (fun h => (by omega)) e)
        clear Kall2
        go_big_quiet (fail)
        clear g0 g0' gL gA gL2 gA2 p0 p1 p2 m2 f0 f1
        have hBd := bw_dr hB2 nq
        have hBbd := bw_dr hBb2 nq
        have RLd : ∀ W i, Below (w2.drewN nq).heap.size (w2.drewN nq) W → W.cell? ⟨_, i, none⟩ = _ := fun W i hW => RL W i (bw_to (bw_dr (Below.refl w2.heap.size w2) nq) hW)
        clear RL
        generalize w2.drewN nq = wd at hBd hBbd RLd ⊢
        have F0 : ∀ W, Below wd.heap.size wd W → W.cell? ⟨w.heap.size, 2, none⟩ = some (.slice (some am) N c) := fun W hW => by first | exact RM W 2 (bw_to hBbd hW) | (rw [HN.out]; exact RM W 2 (bw_to hBbd hW))
        have F1 : ∀ W, Below wd.heap.size wd W → W.cell? ⟨w.heap.size + 2, 0, none⟩ = some (.slice (some ah) hs.length ch) := fun W hW => RP W 0 (bw_to hBbd hW)
        have F2 : ∀ W, Below wd.heap.size wd W → W.cell? (ah.add x) = some (.string h) := fun W hW => HC0.out W (bw_to hBd hW)
        have hxz : (x : Int) < (hs.length : Int) := by have := Hh.out; omega
        have hyz : (y : Int) ≤ (N : Int) := by omega
        have hyz1 : (y : Int) < ((y + 1 : Nat) : Int) := by omega
        have hyz2 : (y : Int) < (y : Int) + 1 := by omega
        have hbd0 := Below.drew (Below.refl wd.heap.size wd)
        clear RM RP
        go_upto_region 10 with fail
        refine wp_region_held_drew (S := fun W => Below wd.heap.size wd W) (by kernel_rfl) hbd0 (fun hHeld => ?_)
        refine wpAnyH_take (i := 0) (v := .pointer (some ⟨wr.heap.size, 0, none⟩)) rfl (by kernel_rfl) (by kernel_rfl) (by kernel_rfl) (fun _ _ _ h => h) (Or.inl ⟨by kernel_rfl, ?_⟩) hHeld ?_
        · intro W hS
          go_simp
        try simp only [Act.put, List.setIfInBounds_toArray, List.set_cons_zero, List.set_cons_succ]
        refine wpAnyH_take (i := 1) (v := .string r) rfl (by kernel_rfl) (by kernel_rfl) (by kernel_rfl) (fun _ _ _ h => h) (Or.inl ⟨by kernel_rfl, ?_⟩) hHeld ?_
        · intro W hS
          have z0 := RLd W 0 hS
          clear F0 F1 F2 RLd
          go_simp
        try simp only [Act.put, List.setIfInBounds_toArray, List.set_cons_zero, List.set_cons_succ]
        refine wpAnyH_take (i := 2) (v := .pointer (some ⟨w.heap.size + 1 + 1, 0, none⟩)) rfl (by kernel_rfl) (by kernel_rfl) (by kernel_rfl) (fun _ _ _ h => h) (Or.inl ⟨by kernel_rfl, ?_⟩) hHeld ?_
        · intro W hS
          go_simp
        try simp only [Act.put, List.setIfInBounds_toArray, List.set_cons_zero, List.set_cons_succ]
        refine wpAnyH_take (i := 3) (v := .slice (some ah) hs.length ch) rfl (by kernel_rfl) (by kernel_rfl) (by kernel_rfl) (fun _ _ _ h => h) (Or.inl ⟨by kernel_rfl, ?_⟩) hHeld ?_
        · intro W hS
          have z0 := F1 W hS
          clear F0 F1 F2 RLd
          go_simp
        try simp only [Act.put, List.setIfInBounds_toArray, List.set_cons_zero, List.set_cons_succ]
        refine wpAnyH_take (i := 4) (v := .pointer (some ⟨wr.heap.size, 1, none⟩)) rfl (by kernel_rfl) (by kernel_rfl) (by kernel_rfl) (fun _ _ _ h => h) (Or.inl ⟨by kernel_rfl, ?_⟩) hHeld ?_
        · intro W hS
          go_simp
        try simp only [Act.put, List.setIfInBounds_toArray, List.set_cons_zero, List.set_cons_succ]
        refine wpAnyH_take (i := 5) (v := .int .i64 (x : Int)) rfl (by kernel_rfl) (by kernel_rfl) (by kernel_rfl) (fun _ _ _ h => h) (Or.inl ⟨by kernel_rfl, ?_⟩) hHeld ?_
        · intro W hS
          have z0 := RLd W 1 hS
          clear F0 F1 F2 RLd
          go_simp
        try simp only [Act.put, List.setIfInBounds_toArray, List.set_cons_zero, List.set_cons_succ]
        refine wpAnyH_take (i := 6) (v := .pointer (some (ah.add x))) rfl (by kernel_rfl) (by kernel_rfl) (by kernel_rfl) (fun _ _ _ h => h) (Or.inl ⟨by kernel_rfl, ?_⟩) hHeld ?_
        · intro W hS
          go_simp
        try simp only [Act.put, List.setIfInBounds_toArray, List.set_cons_zero, List.set_cons_succ]
        refine wpAnyH_take (i := 7) (v := .string h) rfl (by kernel_rfl) (by kernel_rfl) (by kernel_rfl) (fun _ _ _ h => h) (Or.inl ⟨by kernel_rfl, ?_⟩) hHeld ?_
        · intro W hS
          have z0 := F2 W hS
          clear F0 F1 F2 RLd
          go_simp
        try simp only [Act.put, List.setIfInBounds_toArray, List.set_cons_zero, List.set_cons_succ]
        refine wpAnyH_take (i := 8) (v := .pointer (some ⟨w.heap.size, 2, none⟩)) rfl (by kernel_rfl) (by kernel_rfl) (by kernel_rfl) (fun _ _ _ h => h) (Or.inl ⟨by kernel_rfl, ?_⟩) hHeld ?_
        · intro W hS
          go_simp
        try simp only [Act.put, List.setIfInBounds_toArray, List.set_cons_zero, List.set_cons_succ]
        refine wpAnyH_take (i := 9) (v := .slice (some am) N c) rfl (by kernel_rfl) (by kernel_rfl) (by kernel_rfl) (fun _ _ _ h => h) (Or.inl ⟨by kernel_rfl, ?_⟩) hHeld ?_
        · intro W hS
          have z0 := F0 W hS
          clear F0 F1 F2 RLd
          go_simp
        try simp only [Act.put, List.setIfInBounds_toArray, List.set_cons_zero, List.set_cons_succ]
        refine wpAnyH_take (i := 10) (v := .pointer (some ⟨wr.heap.size, 2, none⟩)) rfl (by kernel_rfl) (by kernel_rfl) (by kernel_rfl) (fun _ _ _ h => h) (Or.inl ⟨by kernel_rfl, ?_⟩) hHeld ?_
        · intro W hS
          go_simp
        try simp only [Act.put, List.setIfInBounds_toArray, List.set_cons_zero, List.set_cons_succ]
        refine wpAnyH_take (i := 11) (v := .int .i64 (y : Int)) rfl (by kernel_rfl) (by kernel_rfl) (by kernel_rfl) (fun _ _ _ h => h) (Or.inl ⟨by kernel_rfl, ?_⟩) hHeld ?_
        · intro W hS
          have z0 := RLd W 2 hS
          clear F0 F1 F2 RLd
          go_simp
        try simp only [Act.put, List.setIfInBounds_toArray, List.set_cons_zero, List.set_cons_succ]
        refine wpAnyH_take (i := 12) (v := .slice (some am) y c) rfl (by kernel_rfl) (by kernel_rfl) (by kernel_rfl) (fun _ _ _ h => h) (Or.inl ⟨by kernel_rfl, ?_⟩) hHeld ?_
        · intro W hS
          go_simp
        try simp only [Act.put, List.setIfInBounds_toArray, List.set_cons_zero, List.set_cons_succ]
        refine wpAnyH_take (i := 14) (v := .pointer (some ⟨wr.heap.size, 2, none⟩)) rfl (by kernel_rfl) (by kernel_rfl) (by kernel_rfl) (fun _ _ _ h => h) (Or.inl ⟨by kernel_rfl, ?_⟩) hHeld ?_
        · intro W hS
          go_simp
        try simp only [Act.put, List.setIfInBounds_toArray, List.set_cons_zero, List.set_cons_succ]
        refine wpAnyH_take (i := 15) (v := .int .i64 (y : Int)) rfl (by kernel_rfl) (by kernel_rfl) (by kernel_rfl) (fun _ _ _ h => h) (Or.inl ⟨by kernel_rfl, ?_⟩) hHeld ?_
        · intro W hS
          have z0 := RLd W 2 hS
          clear F0 F1 F2 RLd
          go_simp
        try simp only [Act.put, List.setIfInBounds_toArray, List.set_cons_zero, List.set_cons_succ]
        refine wpAnyH_all (rs := [13]) (by kernel_rfl) (by simp) (List.forall_mem_singleton.2 ?_)
        refine wpOp_inQ rfl (by rfl) ?_
        unfold Oper.wp
        go_simp
        go_at_call 70
        refine (Hru.out _ (bw_to hBd hHeld)).mono ?_; rintro e' w3 ⟨A3, q3, rfl, ho3, hb3⟩
        have hB3 := bw_to hHeld hb3
        obtain ⟨g3, hg3, _, _⟩ := own_addr ho3 (by omega)
        subst hg3
        have c3 : w3.cell? ⟨g3, y, none⟩ = some (.string z) := by rw [ho3.cellAt y (by omega), List.getElem?_map, Hsc.out]; rfl
        clear ho3 hb3
        refine ⟨hB3, ?_⟩
        try simp only [Act.put, List.setIfInBounds_toArray, List.set_cons_zero, List.set_cons_succ]
        refine wpAnyH_take (i := 16) (v := .pointer (some ⟨g3, y, none⟩)) rfl (by kernel_rfl) (by kernel_rfl) (by kernel_rfl) (fun _ _ _ h => h) (Or.inl ⟨by kernel_rfl, ?_⟩) hB3 ?_
        · intro W hS
          go_simp
        try simp only [Act.put, List.setIfInBounds_toArray, List.set_cons_zero, List.set_cons_succ]
        refine wpAnyH_all (rs := [17]) (by kernel_rfl) (by simp) (List.forall_mem_singleton.2 ?_)
        refine wpOp_inQ rfl (by rfl) ?_
        unfold Oper.wp
        go_simp
        try simp only [Act.put, List.setIfInBounds_toArray, List.set_cons_zero, List.set_cons_succ]
        obtain ⟨vb, hvb⟩ : ∃ b, b = !(r.toList == z.toList) := ⟨_, rfl⟩
        refine wpAnyH_take (i := 18) (v := .bool vb) rfl (by kernel_rfl) (by kernel_rfl) (by kernel_rfl) (fun _ _ _ h => h) (Or.inl ⟨by kernel_rfl, ?_⟩) hB3 ?_
        · intro W hS
          have z0 := hvb.symm
          clear F0 F1 F2 RLd c3 hvb
          go_simp
        try simp only [Act.put, List.setIfInBounds_toArray, List.set_cons_zero, List.set_cons_succ]
        refine wpAnyH_done (by kernel_rfl) ?_ _
        try simp only [List.getElem_toArray, List.getElem_cons_succ, List.getElem_cons_zero, Act.put, List.setIfInBounds_toArray, List.set_cons_zero, List.set_cons_succ]
        have hBw3 := bw_to hBd hB3
        have hBb3 := bw_to hBbd hB3
        clear F0 F1 F2 RLd c3
        by_cases e : r = z
        · have se : vb = false := by rw [hvb, e]; simp
          have HT := Lib.hid (Kall4.out e)
          subst se
          clear e hvb
          go_wp2_with fail
          exact ⟨⟨1, by omega, (by first | rfl | go_num), HT.out, hBw3, hBb3⟩, by simp [intOf] <;> omega⟩
        · have se : vb = true := by rw [hvb, sl_beq, decide_eq_false e]; rfl
          have hF := Lib.hid (Kno2.out e)
          subst se
          clear e hvb
          go_wp2_with fail
          go_ret
          exact ⟨by rw [hZ2.out, hF.out] <;> (first | rfl | (rw [if_neg (by omega)]; rfl) | (rw [if_neg (by omega)])), hBw3⟩
    · obtain rfl : j = ls.length := by omega
      have hF := Lib.hid (lieN_no Ha.out)
      go_wp2_with fail
      go_ret
      exact ⟨by rw [hZ2.out, hF.out] <;> rfl, hB⟩
set_option maxRecDepth 100000 in
set_option maxHeartbeats 16000000 in
theorem l20Lie_any (m : Mt) (v : Value) (k : Cl) (t : ByteArray) (hv lv : Value) (hs : List ByteArray) (ls : List Ln) (n : Nat) (w : World) (hg : CGood m k n) (ht : touchB t.data.toList = true) (hM : MethAt w m v) (hh : Strs w hv hs) (hl : Lns w lv ls) (hsh : shapeB hs ls = true) (hhs : hs = headsT m k t) : Calls Tryz.prog 41 #[m.v v, .string t, .agg #[hv, lv]] w fun e w' => e = .returned (.int .i64 (lieN (rowsT m k t) m.l.length t.size ls)) ∧ Below w.heap.size w w' := by
  have Hrow := Lib.hid (fun x y (hx : x < t.size) (hy : y < m.l.length) h (hh : (headsT m k t)[x]? = some h) => row_at (m := m) (k := k) (t := t) hx hy hh)
  have Hhl := Lib.hid (headsT_len m k t)
  have Hin := Lib.hid (headsT_in (k := k) hg.m t)
  have hn := hg.m.hi
  have hml := hg.m.len
  have hpos := Lib.hid (shape_pos hsh).1
  have hl8 := (shape_pos hsh).2.1
  have hts := touch_size ht
  have Hchs : Hid (∀ y, ChsOk (m.l.take y)) := Lib.hid (fun y s hs => hg.m.ok s (List.mem_of_mem_take hs))
  have Hmv := Lib.hid (fun W (hW : Below w.heap.size w W) => hM.1.to hW)
  rw [← hhs] at Hrow Hhl Hin
  obtain ⟨A, c, hv'⟩ := hM.form
  subst hv'
  obtain ⟨Ah, ch, rfl, hch1, hch2, hrh⟩ := hh
  obtain ⟨Al, cl, rfl, hcl1, hcl2, hrl⟩ := hl
  unfold maxLen at hch2 hcl2
  obtain ⟨rows, hrows⟩ : ∃ r, r = rowsT m k t := ⟨_, rfl⟩
  rw [← hrows] at Hrow ⊢
  obtain ⟨N, hN⟩ : ∃ N, N = m.l.length := ⟨_, rfl⟩
  unfold Mt.v at *
  rw [← hN] at Hrow hml ⊢
  clear hg ht hM hsh hrows hhs
  go_enter Tryz.func41, Tryz.ntmps41
  go_upto_region 1 with fail
  refine box2 (C := fun W => Code.wp _ _ _ _ W) ?_
  intro wb hw k1 k3 hB0
  have RM := boxRule k1
  have RP := boxRule k3
  clear k1 k3
  have f1 := RP wb 1 (Below.refl _ _)
  try rw [← hN] at RM
  try rw [← hN]
  have HN := Lib.hid hN
  clear hN
  go_wp2_with fail
  clear f1
  go_loopw [14] (fun i wr => ∃ j : Nat, j ≤ ls.length ∧ i = .int .i64 j ∧ (∀ i, i < j → okLn nmLt rows N t.size ls i = true) ∧ Below w.heap.size w wr ∧ Below wb.heap.size wb wr) (fun i _ => ls.length - (intOf i).toNat)
  case atStart => exact ⟨0, Nat.zero_le _, rfl, fun i hi => (by omega), hw, Below.refl _ _⟩
  case round =>
    obtain ⟨j, hj, rfl, ha, hB, hBb⟩ := hrel
    have Ha := Lib.hid ha
    clear ha
    by_cases hlt : j < ls.length
    · obtain ⟨al, hal, hCl⟩ := lns_el hrl rfl hlt
      subst hal
      have hq := hCl wr hB
      obtain ⟨q0, q1, q2⟩ := hq
      clear hCl
      have Hpos := Lib.hid (hpos.out _ (List.getElem_mem hlt))
      obtain ⟨x, hx⟩ : ∃ x : Nat, ls[j].lead = x := ⟨ls[j].lead.toNat, by have := Hpos.out.1; omega⟩
      obtain ⟨y, hy⟩ : ∃ x : Nat, ls[j].at' = x := ⟨ls[j].at'.toNat, by have := Hpos.out.2; omega⟩
      obtain ⟨r, hr⟩ : ∃ r, r = ls[j].row := ⟨_, rfl⟩
      rw [← hr] at q0
      rw [hx] at q1
      rw [hy] at q2
      have Hlie := Lib.hid (fun (h : okLn nmLt rows N t.size ls j = false) => lieN_at hlt Ha.out h)
      have Hnx := Lib.hid (fun (h : okLn nmLt rows N t.size ls j = true) i (hi : i < j + 1) => (by
        by_cases e : i = j
        · subst e; exact h
        · exact Ha.out i (by omega) : okLn nmLt rows N t.size ls i = true))
      have Klead := Lib.hid (fun (h : ¬ x < t.size) => ok_lead (rows := rows) (N := N) (T' := t.size) hlt (by rw [hx]; exact h))
      have Kplace := Lib.hid (fun (h : ¬ y < N) => ok_place (rows := rows) (N := N) (T' := t.size) hlt (by rw [hy]; exact h))
      have Krow := Lib.hid (fun (h1 : x < t.size) (h2 : y < N) h (hh : hs[x]? = some h) => (by rw [hx, hy]; exact Hrow.out x y h1 h2 h hh : rows[ls[j].lead.toNat * N + ls[j].at'.toNat]? = some (runB h (m.l.take y))))
      have Kno := Lib.hid (fun (h1 : x < t.size) (h2 : y < N) h (hh : hs[x]? = some h) (e : r ≠ runB h (m.l.take y)) => Hlie.out (ok_row hlt (Krow.out h1 h2 h hh) (by rw [← hr]; exact e)))
      have Kall := Lib.hid (fun (h1 : x < t.size) (h2 : y < N) h (hh : hs[x]? = some h) (h0 : 0 < j → nmLt (ls[j - 1]'(by omega)).row r = true) (e : r = runB h (m.l.take y)) => Hnx.out (ok_all (rows := rows) (N := N) (T' := t.size) hlt (by rw [← hr]; exact h0) (by rw [hx]; exact h1) (by rw [hy]; exact h2) (Krow.out h1 h2 h hh) (by rw [← hr]; exact e)))
      have Kord := Lib.hid (fun (h0 : 0 < j) (h : nmLt (ls[j - 1]'(by omega)).row r = false) => Hlie.out (ok_order (rows := rows) (N := N) (T' := t.size) h0 hlt (by rw [← hr]; exact h)))
      clear hx hy hr Hpos
      go_upto_region 4 with fail
      refine box1 (C := fun W => Code.wp _ _ _ _ W) ?_
      intro w2 hw2 k2 hB2'
      have RL := boxRule k2
      have p0 := RL w2 0 (Below.refl _ _)
      have p1 := RL w2 1 (Below.refl _ _)
      have p2 := RL w2 2 (Below.refl _ _)
      have hB2 := bw_to hB hw2
      have hBb2 := bw_to hBb hw2
      have m2 : w2.cell? ⟨w.heap.size, 2, none⟩ = some (.slice A N c) := by first | exact RM w2 2 hBb2 | (rw [HN.out]; exact RM w2 2 hBb2)
      have f0 := RP w2 0 hBb2
      have f1 := RP w2 1 hBb2
      clear q0 q1 q2 k2 hw2 hB hBb hB2'
      have hjz : (j : Int) + 2 < 9223372036854775807 := by omega
      by_cases hxT : x < t.size
      rotate_left
      · -- the lead is too large
        have hF := Lib.hid (Hlie.out (Klead.out hxT))
        have gL : decide ((t.size : Int) ≤ (x : Int)) = true := decide_eq_true (by omega)
        have gL2 : decide (t.size ≤ x) = true := decide_eq_true (by omega)
        go_big_quiet (fail)
        go_wp2_with fail
        go_ret
        exact ⟨by rw [hF.out] <;> rfl, bw_dr hB2 _⟩
      have gL : decide ((t.size : Int) ≤ (x : Int)) = false := decide_eq_false (by omega)
      have gL2 : decide (t.size ≤ x) = false := decide_eq_false (by omega)
      by_cases hyN : y < N
      rotate_left
      · have hF := Lib.hid (Hlie.out (Kplace.out hyN))
        have gA : decide ((N : Int) ≤ (y : Int)) = true := decide_eq_true (by omega)
        have gA2 : decide (N ≤ y) = true := decide_eq_true (by omega)
        go_big_quiet (fail)
        go_wp2_with fail
        go_ret
        exact ⟨by rw [hF.out] <;> rfl, bw_dr hB2 _⟩
      have gA : decide ((N : Int) ≤ (y : Int)) = false := decide_eq_false (by omega)
      have gA2 : decide (N ≤ y) = false := decide_eq_false (by omega)
      have Hh : Hid (x < hs.length) := Lib.hid (by rw [Hhl.out]; omega)
      obtain ⟨ah, hah, hCh⟩ := strs_el hrh Hh.out
      subst hah
      obtain ⟨am, ham, hNc, hcm, hup⟩ := strs_up (k := y) (Hmv.out _ (Below.refl _ _)) (by rw [← HN.out]; omega) (by rw [← HN.out]; omega)
      subst ham
      have Hru := Lib.hid (fun W (hW : Below w.heap.size w W) => l4Lead_any (hs[x]'Hh.out) (.slice (some am) y c) (m.l.take y) n W hn (Hin.out _ (List.getElem_mem Hh.out)) (hup.to hW) (by rw [List.length_take]; omega) (Hchs.out y))
      have Hlt : Hid ((m.l.take y).length = y) := Lib.hid (by rw [List.length_take, ← HN.out]; omega)
      rw [Hlt.out] at Hru
      have HC0 := Lib.hid hCh
      obtain ⟨h, hh⟩ : ∃ h, h = hs[x]'Hh.out := ⟨_, rfl⟩
      have hhq : hs[x]? = some h := by rw [hh]; exact List.getElem?_eq_getElem Hh.out
      have Kno2 := Lib.hid (Kno.out hxT hyN h hhq)
      have Kall2 := Lib.hid (Kall.out hxT hyN h hhq)
      rw [← hh] at HC0 Hru
      clear hhq
      have Hsc : Hid ((scanB h (m.l.take y))[y]? = some (runB h (m.l.take y))) := Lib.hid (by
        have e1 := scan_last (m.l.take y) h
        rw [Hlt.out] at e1
        exact e1)
      obtain ⟨z, hz⟩ : ∃ z, z = runB h (m.l.take y) := ⟨_, rfl⟩
      rw [← hz] at Kno2 Kall2 Hsc Hru
      rw [← HN.out] at hNc
      have hyc : (y : Int) ≤ (c : Int) := by omega
      clear hh hz hCh hup Kno Kall Krow Klead Kplace
      by_cases hj0 : 0 < j
      · have hjm : j - 1 < ls.length := by omega
        obtain ⟨al', hal', hCp⟩ := lns_el hrl rfl hjm
        injection hal' with hal'
        subst hal'
        obtain ⟨v0, v1, v2⟩ := hCp w2 hB2
        have Kord2 := Lib.hid (fun h => Kord.out hj0 h)
        have Kall3 := Lib.hid (fun (h : nmLt (ls[j - 1]'hjm).row r = true) e => Kall2.out (fun _ => h) e)
        obtain ⟨y', hy'⟩ : ∃ y', y' = (ls[j - 1]'hjm).row := ⟨_, rfl⟩
        rw [← hy'] at v0 Kord2 Kall3
        have g0 : decide ((0 : Int) < (j : Int)) = true := decide_eq_true (by omega)
        have hw3 : (0 : Int) ≤ (j : Int) - 1 := by omega
        have hw4 : ((j : Int) - 1).toNat = j - 1 := by omega
        have hw5 : (j : Int) - 1 < (ls.length : Int) := by omega
        have hw6 : IntKind.i64.wrap ((j : Int) - 1) = (j : Int) - 1 := IntWalk.i64_in _ (by omega)
        clear hCp v1 v2 hy' Kall2
        cases hlt2 : nmLt y' r
        · have hF := Lib.hid (Kord2.out hlt2)
          have s1 : Op.bytesLess y'.toList r.toList = false := hlt2
          cases s2 : Op.bytesLess r.toList y'.toList
          · have e := sl_tot hlt2 s2
            have s3 : (r.toList == y'.toList) = true := by rw [e]; exact beq_self_eq_true _
            have s4 : (y'.toList == r.toList) = true := by rw [e]; exact beq_self_eq_true _
            clear e
            go_big_quiet (fail)
            go_wp2_with fail
            go_ret
            exact ⟨by rw [hF.out] <;> rfl, bw_dr hB2 _⟩
          · have s3 : (r.toList == y'.toList) = false := by rw [sl_beq]; exact decide_eq_false (fun e => by rw [e] at s2; rw [show Op.bytesLess y'.toList y'.toList = nmLt y' y' from rfl, sl_irr] at s2; cases s2)
            have s4 : (y'.toList == r.toList) = false := by rw [sl_beq]; exact decide_eq_false (fun e => by rw [e] at s2; rw [show Op.bytesLess r.toList r.toList = nmLt r r from rfl, sl_irr] at s2; cases s2)
            go_big_quiet (fail)
            go_wp2_with fail
            go_ret
            exact ⟨by rw [hF.out] <;> rfl, bw_dr hB2 _⟩
        · have s1 : Op.bytesLess y'.toList r.toList = true := hlt2
          have s2 : Op.bytesLess r.toList y'.toList = false := sl_asym hlt2
          have s3 : (r.toList == y'.toList) = false := by rw [sl_beq]; exact decide_eq_false (fun e => by rw [e, sl_irr] at hlt2; cases hlt2)
          have s4 : (y'.toList == r.toList) = false := by rw [sl_beq]; exact decide_eq_false (fun e => by rw [e, sl_irr] at hlt2; cases hlt2)
          have Kall4 := Lib.hid (fun e => Kall3.out hlt2 e)
          clear hlt2 Kall3 Kord2
          go_big_quiet (fail)
          clear s1 s2 s3 s4 hw3 hw4 hw5 hw6 g0 v0 gL gA gL2 gA2 p0 p1 p2 m2 f0 f1
          have hBd := bw_dr hB2 nq
          have hBbd := bw_dr hBb2 nq
          have RLd : ∀ W i, Below (w2.drewN nq).heap.size (w2.drewN nq) W → W.cell? ⟨_, i, none⟩ = _ := fun W i hW => RL W i (bw_to (bw_dr (Below.refl w2.heap.size w2) nq) hW)
          clear RL
          generalize w2.drewN nq = wd at hBd hBbd RLd ⊢
          have F0 : ∀ W, Below wd.heap.size wd W → W.cell? ⟨w.heap.size, 2, none⟩ = some (.slice (some am) N c) := fun W hW => by first | exact RM W 2 (bw_to hBbd hW) | (rw [HN.out]; exact RM W 2 (bw_to hBbd hW))
          have F1 : ∀ W, Below wd.heap.size wd W → W.cell? ⟨w.heap.size + 1, 0, none⟩ = some (.slice (some ah) hs.length ch) := fun W hW => RP W 0 (bw_to hBbd hW)
          have F2 : ∀ W, Below wd.heap.size wd W → W.cell? (ah.add x) = some (.string h) := fun W hW => HC0.out W (bw_to hBd hW)
          have hxz : (x : Int) < (hs.length : Int) := by have := Hh.out; omega
          have hyz : (y : Int) ≤ (N : Int) := by omega
          have hyz1 : (y : Int) < ((y + 1 : Nat) : Int) := by omega
          have hyz2 : (y : Int) < (y : Int) + 1 := by omega
          have hbd0 := Below.drew (Below.refl wd.heap.size wd)
          clear RM RP
          go_upto_region 6 with fail
          go_region_held3 (fun W => Below wd.heap.size wd W) (first | with_reducible assumption | with_reducible exact Below.drew (Below.refl _ _)) (first | (go_at_call 28; refine (Hru.out _ (bw_to hBd hbd0)).mono ?_; rintro e w3 ⟨A3, q3, rfl, _, hb3⟩; (have hB3 := bw_to hbd0 hb3); clear hb3))
          have hBw3 := bw_to hBd hB3
          have hBb3 := bw_to hBbd hB3
          have p0 := RLd w3 0 hB3
          clear F0 F1 F2 RLd
          by_cases e : r = z
          · have se : (z.toList == r.toList) = true := by rw [e]; exact beq_self_eq_true _
            have HT := Lib.hid (Kall4.out e)
            clear e
            go_wp2_with fail
            exact ⟨⟨j + 1, by omega, by go_num, HT.out, hBw3, hBb3⟩, by simp [intOf] <;> omega⟩
          · have se : (z.toList == r.toList) = false := by rw [sl_beq]; exact decide_eq_false (fun h => e h.symm)
            have hF := Lib.hid (Kno2.out e)
            clear e
            go_wp2_with fail
            go_ret
            exact ⟨by rw [hF.out] <;> rfl, hBw3⟩
      · obtain rfl : j = 0 := by omega
        have g0 : decide ((0 : Int) < ((0 : Nat) : Int)) = false := by decide
        have g0' : decide ((0 : Int) < (0 : Int)) = false := by decide
        have Kall4 := Lib.hid (fun e => Kall2.out (fun h => (by omega)) e)
        clear Kall2
        go_big_quiet (fail)
        clear g0 g0' gL gA gL2 gA2 p0 p1 p2 m2 f0 f1
        have hBd := bw_dr hB2 nq
        have hBbd := bw_dr hBb2 nq
        have RLd : ∀ W i, Below (w2.drewN nq).heap.size (w2.drewN nq) W → W.cell? ⟨_, i, none⟩ = _ := fun W i hW => RL W i (bw_to (bw_dr (Below.refl w2.heap.size w2) nq) hW)
        clear RL
        generalize w2.drewN nq = wd at hBd hBbd RLd ⊢
        have F0 : ∀ W, Below wd.heap.size wd W → W.cell? ⟨w.heap.size, 2, none⟩ = some (.slice (some am) N c) := fun W hW => by first | exact RM W 2 (bw_to hBbd hW) | (rw [HN.out]; exact RM W 2 (bw_to hBbd hW))
        have F1 : ∀ W, Below wd.heap.size wd W → W.cell? ⟨w.heap.size + 1, 0, none⟩ = some (.slice (some ah) hs.length ch) := fun W hW => RP W 0 (bw_to hBbd hW)
        have F2 : ∀ W, Below wd.heap.size wd W → W.cell? (ah.add x) = some (.string h) := fun W hW => HC0.out W (bw_to hBd hW)
        have hxz : (x : Int) < (hs.length : Int) := by have := Hh.out; omega
        have hyz : (y : Int) ≤ (N : Int) := by omega
        have hyz1 : (y : Int) < ((y + 1 : Nat) : Int) := by omega
        have hyz2 : (y : Int) < (y : Int) + 1 := by omega
        have hbd0 := Below.drew (Below.refl wd.heap.size wd)
        clear RM RP
        go_upto_region 6 with fail
        go_region_held3 (fun W => Below wd.heap.size wd W) (first | with_reducible assumption | with_reducible exact Below.drew (Below.refl _ _)) (first | (go_at_call 28; refine (Hru.out _ (bw_to hBd hbd0)).mono ?_; rintro e w3 ⟨A3, q3, rfl, _, hb3⟩; (have hB3 := bw_to hbd0 hb3); clear hb3))
        have hBw3 := bw_to hBd hB3
        have hBb3 := bw_to hBbd hB3
        have p0 := RLd w3 0 hB3
        clear F0 F1 F2 RLd
        by_cases e : r = z
        · have se : (z.toList == r.toList) = true := by rw [e]; exact beq_self_eq_true _
          have HT := Lib.hid (Kall4.out e)
          clear e
          go_wp2_with fail
          exact ⟨⟨1, by omega, (by first | rfl | go_num), HT.out, hBw3, hBb3⟩, by simp [intOf] <;> omega⟩
        · have se : (z.toList == r.toList) = false := by rw [sl_beq]; exact decide_eq_false (fun h => e h.symm)
          have hF := Lib.hid (Kno2.out e)
          clear e
          go_wp2_with fail
          go_ret
          exact ⟨by rw [hF.out] <;> rfl, hBw3⟩
    · obtain rfl : j = ls.length := by omega
      have hF := Lib.hid (lieN_no Ha.out)
      go_wp2_with fail
      go_ret
      exact ⟨by rw [hF.out] <;> rfl, hB⟩
end Go.Proofs.YtajffjkmmenaoaaGreat
