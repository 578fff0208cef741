/- Truth by lead heads: the reference's. -/
import Derived.Test.YtjiiflpoiaaccaaGreatPk18
import Derived.Test.YtjiiflpoiaaccaaGreatPk22
namespace Go.Proofs.YtjiiflpoiaaccaaGreat
open Go Go.RowKit
set_option linter.unusedVariables false
set_option linter.unusedSimpArgs false

set_option maxRecDepth 10000 in
set_option maxHeartbeats 2000000 in
theorem l11Lead_any (m : Mt) (v : Value) (n : Nat) (w : World) (hg : MGood m n) (hv : Strs w v m.l) : Calls Tryz.prog 270 #[m.v v, .string (roundsB n)] w fun e w' =>
    ∃ A q, e = .returned (.slice A m.l.length q) ∧ w'.ownsRow w.heap.size 9 1 (.slice A m.l.length q) m.l.length ((leadR n m).map Value.string) ∧ Below w.heap.size w w' := by
  have Hl := Lib.hid (fun W hW => l4Lead_any (roundsB n) v m.l n W hg.hi (rounds_in hg.hi) (hv.to hW) (by have := hg.len; omega) hg.ok)
  have HL : Hid (leadB (roundsB n) m.l = leadR n m) := Lib.hid rfl
  rw [HL.out] at Hl
  obtain ⟨A, c, hv', _⟩ := hv
  subst hv'
  unfold Mt.v at *
  clear hg
  go_enter Tryz.func270, Tryz.ntmps270
  go_wp2_with fail
  refine box1 (C := fun W => Calls _ _ _ W _) ?_
  intro wb hw k1 hB0
  have R1 := boxRule k1
  clear k1
  refine (Hl.out _ hw).mono ?_; rintro e w1 ⟨A1, q1, rfl, hown, hb1⟩
  go_wp2_with fail
  go_ret
  exact ⟨A1, q1, rfl, own_base hown hw.size, bw_to hw hb1⟩
set_option maxRecDepth 100000 in
set_option maxHeartbeats 8000000 in
theorem l11Heads_any (m : Mt) (v : Value) (n : Nat) (w : World) (hg : MGood m n) (hv : Strs w v m.l) : Calls Tryz.prog 319 #[m.v v] w fun e w' =>
    ∃ (A : Option Addr) (q : Nat) (S : List ByteArray), e = .returned (.slice A S.length q) ∧ w'.ownsRow w.heap.size 9 1 (.slice A S.length q) S.length (S.map Value.string) ∧ (∀ s, s ∈ S ↔ s ∈ prodL n (leadR n m) (leadR n m)) ∧ Below w.heap.size w w' := by
  have hn := hg.hi
  have hst := hg.st
  have Hl := Lib.hid (fun W hW => l11Lead_any m v n W hg (hv.to hW))
  have Hlen : Hid ((leadR n m).length = m.l.length) := Lib.hid (lead_len _ _)
  have Hin := Lib.hid (lead_inv hn m.l (Inv.rounds hn))
  have hml := hg.len
  obtain ⟨A, c, hv', _⟩ := hv
  subst hv'
  obtain ⟨L, hL⟩ : ∃ L, L = leadR n m := ⟨_, rfl⟩
  have hL2 : leadB (roundsB n) m.l = L := hL.symm
  rw [hL2] at Hin
  simp only [← hL] at Hlen Hl ⊢
  unfold Mt.v at *
  rw [hst] at Hl ⊢
  clear hg hst hL hL2
  have H0 : Hid ([] = prodL n (L.take 0) L) := Lib.hid (by simp [prodL])
  go_enter Tryz.func319, Tryz.ntmps319
  go_wp2_with fail
  refine box1 (C := fun W => Code.wp _ _ _ _ W) ?_
  intro wb hw k1 hB0
  have R1 := boxRule k1
  clear k1
  have hdr : Below wb.heap.size wb wb.drew := Below.drew (Below.refl _ _)
  go_cut [3] (fun s3 wx => ∃ A1 q1, s3 = .slice A1 m.l.length q1 ∧ Strs wx (.slice A1 m.l.length q1) L ∧ Below wb.heap.size wb wx)
  case first =>
    go_region_held3 (fun W => Below wb.heap.size wb W) (first | exact Below.drew (by assumption) | exact bw_to (by assumption) hb')
      (first | (go_at_call 139; refine (l1Rounds_any n _ hn).mono ?_; rintro e w' ⟨rfl, rfl⟩) | (go_at_call 270; refine (Hl.out _ (bw_to hw (by assumption))).mono ?_; rintro e w' ⟨A1, q1, rfl, hown, hb'⟩))
    all_goals
      have hBB : Below wb.heap.size wb w' := by assumption
      have hS := strs_of_own (by rw [Hlen.out]; exact hown)
      go_wp2_with fail
      go_meet
      exact ⟨A1, q1, rfl, hS, hBB⟩
  case rest =>
    obtain ⟨A1, q1, rfl, hS, hB1⟩ := hcut
    obtain ⟨A', c', e', hx1, hx2, hrd⟩ := hS
    injection e' with ea eb ec
    subst ea ec
    clear eb R1 hdr
    unfold maxLen at hx2
    have hw1 := bw_to hw hB1
    go_wp2_with fail
    go_loopw [4, 19] (fun o i wr => ∃ (k N : Nat) (A : Option Addr) (q : Nat) (X : List ByteArray), k ≤ m.l.length ∧ i = .int .i64 k ∧ o = .slice A N q ∧ wr.ownsRow wc.heap.size 9 1 (.slice A N q) N (X.map Value.string) ∧ X = prodL n (L.take k) L ∧ N ≤ k * 40 ∧ Below wc.heap.size wc wr) (fun _ i _ => m.l.length - (intOf i).toNat)
    case atStart => exact ⟨0, 0, none, 0, [], by omega, rfl, rfl, World.ownsRow_nil _ _ _ _, H0.out, by omega, Below.refl _ _⟩
    case round =>
      obtain ⟨k, N, A, q, X, hk, rfl, rfl, hown, hX, hNb, hB⟩ := hrel
      have HX := Lib.hid hX
      have Hown := Lib.hid hown
      clear hX hown
      by_cases hlt : k < m.l.length
      · have hkL : k < L.length := by rw [Hlen.out]; exact hlt
        obtain ⟨ad, rfl, hC⟩ := strs_el hrd hkL
        have hC0 := hC _ hB
        have Hx := Lib.hid (Hin.out _ (List.getElem_mem hkL))
        have Hst := Lib.hid (prod_take (n := n) (ys := L) hkL)
        obtain ⟨x, hx⟩ : ∃ x, x = L[k] := ⟨_, rfl⟩
        rw [← hx] at hC0 Hx Hst
        have H00 : Hid (X = X ++ (L.take 0).map (quoB n x)) := Lib.hid (by simp)
        clear hC hx hkL
        go_wp2_with fail
        obtain ⟨wo, rfl⟩ : ∃ wo : World, wo = wr := ⟨_, rfl⟩
        go_loopw [4, 25] (fun o i wr => ∃ (j N' : Nat) (A : Option Addr) (q : Nat) (Y : List ByteArray), j ≤ m.l.length ∧ i = .int .i64 j ∧ o = .slice A N' q ∧ wr.ownsRow wc.heap.size 9 1 (.slice A N' q) N' (Y.map Value.string) ∧ Y = X ++ (L.take j).map (quoB n x) ∧ N' ≤ k * 40 + j ∧ Below wc.heap.size wc wr) (fun _ i _ => m.l.length - (intOf i).toNat)
        case atStart => exact ⟨0, N, A, q, X, by omega, rfl, rfl, Hown.out, H00.out, by omega, hB⟩
        case round =>
          clear Hown H00 hB hNb
          obtain ⟨j, N', A, q, Y, hj, rfl, rfl, hown, hY, hNb, hB⟩ := hrel
          have HY := Lib.hid hY
          have Hown := Lib.hid hown
          clear hY hown
          by_cases hlt2 : j < m.l.length
          · have hjL : j < L.length := by rw [Hlen.out]; exact hlt2
            obtain ⟨ad2, e2, hC⟩ := strs_el hrd hjL
            injection e2 with e2
            subst e2
            have hC0 := hC _ hB
            have Hy := Lib.hid (Hin.out _ (List.getElem_mem hjL))
            have Hup : Hid (X ++ (L.take (j + 1)).map (quoB n x) = Y ++ [quoB n x L[j]]) := Lib.hid (by rw [map_take_succ hjL, ← List.append_assoc, ← HY.out])
            obtain ⟨y, hy⟩ : ∃ y, y = L[j] := ⟨_, rfl⟩
            rw [← hy] at hC0 Hy Hup
            have Hiv := Lib.hid (trB_ok hn Hy.out)
            have Htu := Lib.hid (fun W => l1Turn_any n y (trB n y) W Hiv.out)
            obtain ⟨z, hz⟩ : ∃ z, z = trB n y := ⟨_, rfl⟩
            have Hq : Hid (quoB n x y = timesB x z) := Lib.hid (by rw [hz]; rfl)
            rw [← hz] at Hiv Htu
            have Htm := Lib.hid (fun W => l1Times_any x z W (by rw [Hx.out.1.1]; omega) (by rw [Hiv.out.hb.1]; omega) (row_hin Hx.out.1.1 Hiv.out.hb))
            rw [Hq.out] at Hup
            clear hC hz hy hjL
            go_wp2_with (go_at_call 250; refine (Htu.out _).mono ?_; rintro e w4 ⟨rfl, hb4⟩)
            refine (Htm.out _).mono ?_; rintro e w5 hw5
            obtain ⟨rfl, hb5⟩ : e = .returned (.string (timesB x z)) ∧ Below w4.heap.size w4 w5 := by
              obtain ⟨h1, h2⟩ := hw5
              exact ⟨h1, by first | exact h2 | (rw [← h2]; exact Below.refl _ _)⟩
            have hown5 := own_to (own_to Hown.out hb4) hb5
            have hB5 := bw_to (bw_to hB hb4) hb5
            obtain ⟨p, hp⟩ : ∃ p, p = timesB x z := ⟨_, rfl⟩
            rw [← hp] at Hup ⊢
            clear hp hw5
            have hz5 := hB5.size
            go_wp2_with (at_builtin; go_must (refine wpList_app _ rfl _ _ _ rfl wc.heap.size 9 _ 1 16 Tryz.underlying22 info_str rfl (by omega) hown5 [.string p] rfl rfl rfl (one_mem rfl) (by omega) (by omega) hz5 ?_); intro v8 w8 hown8 hb8 hg8 _)
            obtain ⟨A8, q8, e8, _⟩ := sl_of_own hown8
            subst e8
            rw [str_snoc Hup.out] at hown8
            exact ⟨⟨j + 1, N' + 1, A8, q8, _, by omega, by go_num, rfl, hown8, rfl, by omega, hB5.trans hb8⟩, by simp [intOf]; omega⟩
          · obtain rfl : j = m.l.length := by omega
            have HY2 : Hid (Y = prodL n (L.take (k + 1)) L) := Lib.hid (by
              have e : L.take m.l.length = L := List.take_of_length_le (by rw [Hlen.out]; exact Nat.le_refl _)
              rw [HY.out, Hst.out, e, HX.out])
            go_wp2_with fail
            exact ⟨⟨k + 1, N', A, q, Y, by omega, by go_num, rfl, Hown.out, HY2.out, by omega, hB⟩, by simp [intOf]; omega⟩
      · obtain rfl : k = m.l.length := by omega
        have HX2 : Hid (X = prodL n L L) := Lib.hid (by
          have e : L.take m.l.length = L := List.take_of_length_le (by rw [Hlen.out]; exact Nat.le_refl _)
          rw [HX.out, e])
        have hlen : X.length = N := by have := Hown.out.1; simpa using this
        have hSX := strs_of_own (by rw [hlen]; exact Hown.out)
        have hnl := nilok_own Hown.out
        have Hso := Lib.hid (fun W hW => l6Sort_any (.slice A N q) X W (by omega) (hSX.to hW) hnl)
        have Hmem : Hid (∀ s, s ∈ sortB X ↔ s ∈ prodL n L L) := Lib.hid (fun s => by rw [(sortB_perm X).mem_iff, HX2.out])
        have Hsl : Hid ((sortB X).length = N) := Lib.hid (by rw [sortB_len, hlen])
        rw [hlen] at Hso
        obtain ⟨Z, hZ⟩ : ∃ Z, Z = sortB X := ⟨_, rfl⟩
        rw [← hZ] at Hso Hmem Hsl
        have hB0' := bw_to hw1 hB
        clear hSX hnl hlen hZ hrd Hown HX HX2
        go_wp2_with fail
        refine (Hso.out _ (Below.refl _ _)).mono ?_; rintro e w6 ⟨A6, q6, rfl, hown6, hb6⟩
        have hS6 := strs_of_own (by rw [Hsl.out]; exact hown6)
        obtain ⟨A', c', e', hx1', hx2', hrd6⟩ := hS6
        injection e' with ea eb ec
        subst ea ec
        clear eb hown6
        unfold maxLen at hx2'
        have hB6 := bw_to hB0' hb6
        have hN6 : N ≤ 1600 := by omega
        go_wp2_with fail
        go_loopw [9, 41] (fun o i wr => ∃ (k N' : Nat) (A : Option Addr) (q : Nat) (Y : List ByteArray), k ≤ N ∧ i = .int .i64 k ∧ o = .slice A N' q ∧ wr.ownsRow w6.heap.size 9 1 (.slice A N' q) N' (Y.map Value.string) ∧ Y.length = N' ∧ (∀ s, s ∈ Y ↔ s ∈ Z.take k) ∧ N' ≤ k ∧ Below w6.heap.size w6 wr) (fun _ i _ => N - (intOf i).toNat)
        case atStart => exact ⟨0, 0, none, 0, [], by omega, rfl, rfl, World.ownsRow_nil _ _ _ _, rfl, by simp, by omega, Below.refl _ _⟩
        case round =>
          obtain ⟨k, N', A', q', Y, hk, rfl, rfl, hown, hYl, hY, hNk, hB7⟩ := hrel
          have HY := Lib.hid hY
          have HYl := Lib.hid hYl
          have Hown := Lib.hid hown
          clear hY hown hYl
          by_cases hlt : k < N
          · have hkZ : k < Z.length := by rw [Hsl.out]; exact hlt
            obtain ⟨ad, rfl, hC⟩ := strs_el hrd6 hkZ
            have hC0 := hC _ hB7
            have Htk : Hid (Z.take (k + 1) = Z.take k ++ [Z[k]]) := Lib.hid (List.take_succ_eq_append_getElem hkZ)
            obtain ⟨x, hx⟩ : ∃ x, x = Z[k] := ⟨_, rfl⟩
            rw [← hx] at hC0 Htk
            clear hC hx hkZ
            have HA : Hid (∀ s, s ∈ Y ++ [x] ↔ s ∈ Z.take (k + 1)) := Lib.hid (fun s => by rw [Htk.out, List.mem_append, List.mem_append, HY.out s])
            have hz7 := hB7.size
            by_cases h0 : N' = 0
            · subst h0
              have hd : decide ((0 : Int) = 0) = true := rfl
              go_wp2_with (at_builtin; go_must (refine wpList_app _ rfl _ _ _ rfl w6.heap.size 9 _ 1 16 Tryz.underlying22 info_str rfl (by omega) Hown.out [.string x] rfl rfl rfl (one_mem rfl) (by omega) (by omega) hz7 ?_); intro v8 w8 hown8 hb8 hg8 _)
              obtain ⟨A8, q8, e8, _⟩ := sl_of_own hown8
              subst e8
              rw [str_snoc rfl] at hown8
              exact ⟨⟨k + 1, 0 + 1, A8, q8, _, by omega, by go_num, rfl, hown8, by simp [HYl.out], HA.out, by omega, hB7.trans hb8⟩, by simp [intOf]; omega⟩
            · have hSY := strs_of_own (by rw [HYl.out]; exact Hown.out)
              obtain ⟨A'', c'', e'', _, _, hrdY⟩ := hSY
              injection e'' with ea eb ec
              subst ea ec
              clear eb
              have hl : N' - 1 < Y.length := by rw [HYl.out]; omega
              obtain ⟨ad9, rfl, hC9⟩ := strs_el hrdY hl
              have hC90 := hC9 _ (Below.refl _ _)
              have Hym : Hid (Y[N' - 1] ∈ Y) := Lib.hid (List.getElem_mem hl)
              obtain ⟨y, hy⟩ : ∃ y, y = Y[N' - 1] := ⟨_, rfl⟩
              rw [← hy] at hC90 Hym
              have hd : ((N' : Int) == 0) = false := by simp; omega
              have hn1 : IntKind.i64.wrap ((N' : Int) - 1) = ((N' - 1 : Nat) : Int) := by rw [show (N' : Int) - 1 = ((N' - 1 : Nat) : Int) by omega]; exact IntWalk.i64_in _ ⟨by omega, by omega⟩
              have hn2 : (0 : Int) ≤ ((N' - 1 : Nat) : Int) := by omega
              have hn3 : ((N' - 1 : Nat) : Int) < (N' : Int) := by omega
              clear hC9 hy hrdY hl
              cases hb : (y.toList == x.toList)
              · go_wp2_with (at_builtin; go_must (refine wpList_app _ rfl _ _ _ rfl w6.heap.size 9 _ 1 16 Tryz.underlying22 info_str rfl (by omega) Hown.out [.string x] rfl rfl rfl (one_mem rfl) (by omega) (by omega) hz7 ?_); intro v8 w8 hown8 hb8 hg8 _)
                obtain ⟨A8, q8, e8, _⟩ := sl_of_own hown8
                subst e8
                rw [str_snoc rfl] at hown8
                exact ⟨⟨k + 1, N' + 1, A8, q8, _, by omega, by go_num, rfl, hown8, by simp [HYl.out], HA.out, by omega, hB7.trans hb8⟩, by simp [intOf]; omega⟩
              · have hyx := Lib.hid (eq_of_bl hb)
                have HB : Hid (∀ s, s ∈ Y ↔ s ∈ Z.take (k + 1)) := Lib.hid (fun s => by
                  rw [Htk.out, List.mem_append, List.mem_singleton, ← HY.out s]
                  constructor
                  · exact Or.inl
                  · rintro (h | h)
                    · exact h
                    · rw [h, ← hyx.out]; exact Hym.out)
                go_wp2_with fail
                exact ⟨⟨k + 1, N', _, q', Y, by omega, by go_num, rfl, Hown.out, HYl.out, HB.out, by omega, hB7⟩, by simp [intOf]; omega⟩
          · obtain rfl : k = N := by omega
            have HY2 : Hid (∀ s, s ∈ Y ↔ s ∈ prodL n L L) := Lib.hid (fun s => by
              have e : Z.take k = Z := List.take_of_length_le (by rw [Hsl.out]; exact Nat.le_refl _)
              rw [HY.out, e, Hmem.out])
            go_wp2_with fail
            go_ret
            refine ⟨A', q', Y, by rw [HYl.out]; rfl, ?_, HY2.out, bw_to hB6 hB7⟩
            rw [HYl.out]
            exact own_base Hown.out hB6.size
set_option maxHeartbeats 2000000 in
theorem l1HasQ_any (V : Value) (l : List ByteArray) (r : ByteArray) (w : World) (hV : Strs w V l) : Calls Tryz.prog 162 #[V, .string r] w fun e w' => e = .returned (.bool (decide (r ∈ l))) ∧ w = w' := by
  obtain ⟨A, c, rfl, h1, h2, hrd⟩ := hV
  unfold maxLen at h2
  go_enter Tryz.func162, Tryz.ntmps162
  go_wp2_with fail
  go_loop [9] (fun i => ∃ k : Nat, k ≤ l.length ∧ i = .int .i64 k ∧ r ∉ l.take k) (fun i => l.length - (intOf i).toNat)
  case atStart => exact ⟨0, by omega, rfl, by simp⟩
  case round =>
    obtain ⟨k, hk, rfl, hn⟩ := hrel
    have Hn := Lib.hid hn
    clear hn
    by_cases hlt : k < l.length
    · obtain ⟨ad, rfl, hC⟩ := strs_el hrd hlt
      have hC0 := hC w (Below.refl _ _)
      have He := Lib.hid (str_beq l[k] r)
      have Hno : Hid (l[k] ≠ r → r ∉ l.take (k + 1)) := Lib.hid (fun h hm => by
        rw [List.take_succ_eq_append_getElem hlt, List.mem_append, List.mem_singleton] at hm
        rcases hm with hm | hm
        · exact Hn.out hm
        · exact h hm.symm)
      have Hyes : Hid (l[k] = r → r ∈ l) := Lib.hid (fun h => by rw [← h]; exact List.getElem_mem hlt)
      obtain ⟨x, hx⟩ : ∃ x, x = l[k] := ⟨_, rfl⟩
      rw [← hx] at hC0 He Hno Hyes
      clear hC hx
      cases hb : (x.toList == r.toList)
      · have Hne : Hid (x ≠ r) := Lib.hid (fun e => by rw [He.out, decide_eq_true e] at hb; cases hb)
        go_wp2_with fail
        exact ⟨⟨k + 1, by omega, by go_num, Hno.out Hne.out⟩, by simp [intOf]; omega⟩
      · have Hd := Lib.hid (decide_eq_true (Hyes.out (by rw [He.out] at hb; exact of_decide_eq_true hb)))
        go_wp2_with fail
        go_ret
        exact ⟨ret_bool Hd.out.symm, rfl⟩
    · have Hd := Lib.hid (decide_eq_false (fun h : r ∈ l => Hn.out (by rw [List.take_of_length_le (by omega)]; exact h)))
      go_wp2_with fail
      go_ret
      exact ⟨ret_bool Hd.out.symm, rfl⟩
theorem info_islS : (Tryz.prog.info? 126).map (fun i => (i.zero, i.size, i.bytes)) = some (some (.slice none 0 0), 1, 24) := by kernel_rfl
set_option maxRecDepth 100000 in
set_option maxHeartbeats 8000000 in
theorem l11Clashes_any (m : Mt) (v V : Value) (hs : List ByteArray) (n : Nat) (w : World) (hg : MGood m n) (hv : Strs w v m.l) (hV : Strs w V hs) (hin : ∀ x ∈ hs, Inv n x) (hl : hs.length ≤ 1000) : Calls Tryz.prog 271 #[m.v v, V] w fun e w' => ∃ (A : Option Addr) (N q : Nat), e = .returned (.slice A N q) ∧ (N = 0 ↔ Clear n (prodL n (leadR n m) (leadR n m)) hs) ∧ Below w.heap.size w w' := by
  have Hf := Lib.hid (fun W (hW : Below w.heap.size w W) => l11Heads_any m v n W hg (hv.to hW))
  have hn := hg.hi
  obtain ⟨A0, q0, hv', _⟩ := hv
  subst hv'
  obtain ⟨Av, cv, rfl, hvc, hvm, hrd⟩ := hV
  unfold maxLen at hvm
  have Hin := Lib.hid hin
  obtain ⟨S, hS⟩ : ∃ S, S = prodL n (leadR n m) (leadR n m) := ⟨_, rfl⟩
  simp only [← hS] at Hf ⊢
  obtain ⟨P, hP⟩ : ∃ P, P = NoClash n S hs := ⟨_, rfl⟩
  have Hend : Hid (PairsOk P hs.length hs.length (hs.length + 1) ↔ Clear n S hs) := Lib.hid (by rw [hP]; exact clear_end)
  have Hst : Hid (PairsOk P hs.length 0 1) := Lib.hid (pairs_start P hs.length)
  have HP : Hid (∀ a b (ha : a < hs.length) (hb : b < hs.length), P a b ↔ timesB (trB n hs[a]) hs[b] ∉ S) := Lib.hid (fun a b ha hb => by
    rw [hP]; unfold NoClash
    rw [List.getD_eq_getElem?_getD, List.getD_eq_getElem?_getD, List.getElem?_eq_getElem ha, List.getElem?_eq_getElem hb]; rfl)
  unfold Mt.v at *
  clear hg hin hS hP
  go_enter Tryz.func271, Tryz.ntmps271
  go_wp2_with fail
  refine box1 (C := fun W => Calls _ _ _ W _) ?_
  intro wb hw k1 hB0
  have R1 := boxRule k1
  clear k1
  refine (Hf.out _ hw).mono ?_; rintro e w1 ⟨A1, q1, T, rfl, hown1, hT, hb1⟩
  have hw1 := bw_to hw hb1
  have HT := Lib.hid hT
  have HS1 := Lib.hid (fun W (hW : Below w1.heap.size w1 W) => (strs_of_own hown1).to hW)
  clear hT hown1 R1
  go_wp2_with fail
  go_loopw [6, 13] (fun o i wr => ∃ (k N : Nat) (A : Option Addr) (q : Nat) (xs : List Value), k ≤ hs.length ∧ i = .int .i64 k ∧ o = .slice A N q ∧ wr.ownsRow w1.heap.size 126 1 (.slice A N q) N xs ∧ (N = 0 ↔ PairsOk P hs.length k (k + 1)) ∧ N ≤ k * 1000 ∧ Below w1.heap.size w1 wr) (fun _ i _ => hs.length - (intOf i).toNat)
  case atStart => exact ⟨0, 0, none, 0, [], by omega, rfl, rfl, World.ownsRow_nil _ _ _ _, ⟨fun _ => Hst.out, fun _ => rfl⟩, by omega, Below.refl _ _⟩
  case round =>
    obtain ⟨k, N, A, q, xs, hk, rfl, rfl, hown, hN, hNb, hB⟩ := hrel
    have HN := Lib.hid hN
    clear hN
    by_cases hlt : k < hs.length
    · obtain ⟨ad, e1, hC⟩ := strs_el hrd hlt
      subst e1
      have HCx : Hid (∀ W, Below w.heap.size w W → W.cell? (ad.add k) = some (.string hs[k])) := Lib.hid (fun W hW => hC W hW)
      have Hg := Lib.hid (trB_ok hn (Hin.out _ (List.getElem_mem hlt)))
      have HPk : Hid (∀ b (hb : b < hs.length), P k b ↔ timesB (trB n hs[k]) hs[b] ∉ S) := Lib.hid (fun b hb => HP.out k b hlt hb)
      obtain ⟨x, hx⟩ : ∃ x, x = hs[k] := ⟨_, rfl⟩
      rw [← hx] at HCx Hg HPk
      have Htu := Lib.hid (fun W => l1Turn_any n x (trB n x) W Hg.out)
      obtain ⟨z, hz⟩ : ∃ z, z = trB n x := ⟨_, rfl⟩
      rw [← hz] at Hg Htu HPk
      have Hnx : Hid (PairsOk P hs.length (k + 1) (k + 1 + 1) ↔ PairsOk P hs.length k hs.length) := Lib.hid (pairs_next hlt)
      clear hC hx hz
      go_wp2_with fail
      obtain ⟨wo, rfl⟩ : ∃ wo : World, wo = wr := ⟨_, rfl⟩
      go_loopw [6, 8] (fun o i wr => ∃ (j N : Nat) (A : Option Addr) (q : Nat) (xs : List Value), k + 1 ≤ j ∧ j ≤ hs.length ∧ i = .int .i64 j ∧ o = .slice A N q ∧ wr.ownsRow w1.heap.size 126 1 (.slice A N q) N xs ∧ (N = 0 ↔ PairsOk P hs.length k j) ∧ N ≤ k * 1000 + j ∧ Below w1.heap.size w1 wr) (fun _ i _ => hs.length - (intOf i).toNat)
      case atStart => exact ⟨k + 1, N, A, q, xs, by omega, by omega, by go_num, rfl, hown, HN.out, by omega, hB⟩
      case round =>
        clear hown HN hNb
        obtain ⟨j, N, A, q, xs, hkj, hj, rfl, rfl, hown, hN, hNb, hB⟩ := hrel
        have HN := Lib.hid hN
        have Hown := Lib.hid hown
        clear hN hown
        by_cases hlt2 : j < hs.length
        · obtain ⟨ad2, e2, hC⟩ := strs_el hrd hlt2
          injection e2 with e2
          subst e2
          have hBw := bw_to hw1 hB
          have hC0 : ∀ u : Aft wr, u.w.cell? (ad.add j) = some (.string hs[j]) := fun u => hC _ (bw_to hBw u.h)
          have hC1 : ∀ u : Aft wr, u.w.cell? (ad.add k) = some (.string x) := fun u => HCx.out _ (bw_to hBw u.h)
          have Hy := Lib.hid (Hin.out _ (List.getElem_mem hlt2))
          have HPj := Lib.hid (HPk.out j hlt2)
          obtain ⟨y, hy⟩ : ∃ y, y = hs[j] := ⟨_, rfl⟩
          simp only [← hy] at hC0 Hy HPj
          have Htm := Lib.hid (fun W => l1Times_any z y W (by rw [Hg.out.hb.1]; omega) (by rw [Hy.out.1.1]; omega) (row_hin Hg.out.hb.1 Hy.out.1))
          obtain ⟨p, hp⟩ : ∃ p, p = timesB z y := ⟨_, rfl⟩
          rw [← hp] at HPj
          simp only [← hp] at Htm
          have Hhs := Lib.hid (fun W (hW : Below wr.heap.size wr W) => l1HasQ_any (.slice A1 T.length q1) T p W (HS1.out W (bw_to hB hW)))
          have hBr := Below.refl wr.heap.size wr
          obtain ⟨bb, hbb⟩ : ∃ b, b = decide (p ∈ T) := ⟨_, rfl⟩
          rw [← hbb] at Hhs
          have Hbb := Lib.hid hbb
          clear hC hy hp hbb
          have hjz : (j : Int) < (hs.length : Int) := by omega
          go_upto_region 9 with fail
          refine wp_region_aft (wb := wr) (by kernel_rfl) (by kernel_rfl) hBr ?_
          repeat (go_big_quiet_step ((first | (go_at_call 250; exact calls_aft fun w hw => Htu.out w) | (go_at_call 229; exact calls_aft_same fun w hw => Htm.out w) | (go_at_call 162; exact calls_aft_same fun w hw => Hhs.out w hw))))
          refine wpQuiet_nil ?_
          rintro _ ⟨u3, rfl⟩
          have hB3 := u3.h
          generalize u3.w = w3 at hB3 ⊢
          have hB4 := bw_to hB hB3
          have hown3 := own_to Hown.out hB3
          clear hC0 hC1
          cases bb
          · have HyP : Hid (P k j) := Lib.hid (HPj.out.2 (fun h => by have h2 := of_decide_eq_false Hbb.out.symm; exact h2 ((HT.out p).2 h)))
            go_wp2_with fail
            exact ⟨⟨j + 1, N, A, q, xs, by omega, by omega, by go_num, rfl, hown3, by rw [pairs_yes HyP.out]; exact HN.out, by omega, hB4⟩, by simp [intOf]; omega⟩
          · have HnP : Hid (¬ P k j) := Lib.hid (fun h => (HPj.out.1 h) ((HT.out p).1 (of_decide_eq_true Hbb.out.symm)))
            have hz4 := hB4.size
            go_wp2_with (at_builtin; go_must (refine wpList_app_at _ rfl _ _ _ rfl w1.heap.size 126 _ 1 24 Tryz.underlying124 info_islS rfl (by omega) (hown3.alloc _) [.slice (some ⟨w3.heap.size, 0, none⟩) 2 2] rfl rfl rfl (by simp) (one_mem rfl) (by omega) (by omega) (by simp; omega) ?_); intro v8 w8 hown8 hb8 hg8 _)
            obtain ⟨A8, q8, e8, _⟩ := sl_of_own hown8
            subst e8
            exact ⟨⟨j + 1, N + 1, A8, q8, _, by omega, by omega, by go_num, rfl, hown8, ⟨fun h => absurd h (by omega), fun h => absurd h (pairs_no (by omega) HnP.out)⟩, by omega, (bw_al hB4 _).trans hb8⟩, by simp [intOf]; omega⟩
        · obtain rfl : j = hs.length := by omega
          go_wp2_with fail
          exact ⟨⟨k + 1, N, A, q, xs, by omega, by go_num, rfl, Hown.out, by rw [Hnx.out]; exact HN.out, by omega, hB⟩, by simp [intOf]; omega⟩
    · obtain rfl : k = hs.length := by omega
      have Hown := Lib.hid hown
      clear hown
      go_wp2_with fail
      go_ret
      exact ⟨A, N, q, rfl, by rw [← Hend.out]; exact HN.out, bw_to hw1 hB⟩
end Go.Proofs.YtjiiflpoiaaccaaGreat
