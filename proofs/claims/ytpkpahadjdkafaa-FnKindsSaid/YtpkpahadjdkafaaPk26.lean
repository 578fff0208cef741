/- An append behind which the old slice is still what it was; the bells that stay at home: the rest. -/
import Derived.Test.YtpkpahadjdkafaaPk25
import Derived.Maps.AppendAt
namespace Go.Proofs.Ytpkpahadjdkafaa
open Go Go.RowKit
set_option linter.unusedVariables false
set_option linter.unusedSimpArgs false

theorem run_append_keep {P : Program} {w : World} (base : Nat) (t ty e : TypeId) (i : TypeInfo) (z : Value) (ht : P.underlying t = some (.slice e)) (hi : P.info? e = some i) (hz : i.zero = some z)
    (hsize : i.size = 1) (hby : i.bytes ≤ 1024) (hzs : z.cells.size = 1)
    (v : Value) (n : Nat) (xs : List Value) (hown : w.ownsRow base e 1 v n xs)
    (a : Addr) (c : Nat) (u : Value) (hnews : w.cell? a = some u) (h1 : u.oneCell' = true)
    (hn : n ≤ 100000000) (hbase : base ≤ w.heap.size) :
    ∃ v' w', (Builtin.append_ #[t, t] ty #[v, .slice (some a) 1 c]).run P w = .ok v' w' ∧ w'.ownsRow base e 1 v' (n + 1) (xs ++ [u]) ∧ w.grownBy w' v.ownBlock ∧ w'.ownsRow base e 1 v n xs := by
  have hnews' : ∀ j u', [u][j]? = some u' → w.cell? (a.add j) = some u' := by
    intro j u' hj
    cases j with
    | zero => rw [add_zero']; simp at hj; rw [← hj]; exact hnews
    | succ j => simp at hj
  have h1' : ∀ u' ∈ [u], u'.oneCell' = true := one_mem h1
  have hl : [u].length = 1 * i.size := by rw [hsize]; rfl
  rcases hown.2 with ⟨rfl, rfl⟩ | ⟨g, cap, cur, rfl, hbg, hg, hnc, hcm, hcs, htake⟩
  · obtain ⟨v', w', h2, h3, h4, _, _⟩ := run_append_own_at (P := P) w base t ty e i z 1 i.bytes ht hi hz hsize rfl hzs (by omega) (.slice none 0 0) 0 xs hown a 1 c [u] rfl hnews' h1' (by unfold maxLen; omega) (by omega) hbase
    have hx : xs = [] := List.eq_nil_of_length_eq_zero (by simpa using hown.1)
    subst hx
    exact ⟨v', w', h2, h3, h4, World.ownsRow_nil _ _ _ _⟩
  · by_cases hroom : n + 1 ≤ cap
    · have hfit : n * i.size + [u].length ≤ cur.size := by rw [hsize, hcs]; simp; omega
      have hr := run_append_room (P := P) w t ty e i ht hi g n cap cur hg a 1 c [u] hl hnews' h1' hroom hfit
      rw [hsize] at hr
      have hlen : xs.length = n := by rw [hown.1]; omega
      have hkey : ∀ (cur' : Array Value), cur'.size = cap * 1 → cur'.toList.take (n * 1) = xs → (w.setRow g cur').ownsRow base e 1 (.slice (some ⟨g, 0, none⟩) n cap) n xs := fun cur' hs' ht' => ⟨by rw [hlen]; omega, .inr ⟨g, cap, cur', rfl, hbg, setRow_heap w g cur _ e _ hg, hnc, hcm, hs', ht'⟩⟩
      refine ⟨_, _, hr, ⟨by simp [hlen], .inr ⟨g, cap, _, rfl, hbg, setRow_heap w g cur _ e _ hg, hroom, hcm, ?_, ?_⟩⟩, ⟨rfl, rfl, rfl, by simp, fun k _ hk => setRow_other w g k _ (fun e => hk (by simp [Value.ownBlock, e]))⟩, hkey _ ?_ ?_⟩
      · simp only [List.size_toArray, List.length_append, List.length_take, List.length_drop, Array.length_toList, List.length_cons, List.length_nil]
        omega
      · rw [htake]
        simp [hlen]
        rw [show xs ++ u :: List.drop (n + 1) cur.toList = (xs ++ [u]) ++ List.drop (n + 1) cur.toList by simp]
        exact List.take_left' (by simp [hlen])
      · simp only [List.size_toArray, List.length_append, List.length_take, List.length_drop, Array.length_toList, List.length_cons, List.length_nil]
        omega
      · rw [htake]
        simp [hlen]
    · obtain ⟨v', w', h2, h3, h4, _, h5⟩ := run_append_own_at (P := P) w base t ty e i z 1 i.bytes ht hi hz hsize rfl hzs (by omega) (.slice (some ⟨g, 0, none⟩) n cap) n xs hown a 1 c [u] rfl hnews' h1' (by unfold maxLen; omega) (by have : (n + 1) * i.bytes ≤ 100000001 * 1024 := Nat.mul_le_mul (by omega) hby; omega) hbase
      have holds : ∀ j u, xs[j]? = some u → w.cell? ((⟨g, 0, none⟩ : Addr).add j) = some u := hown.cells (g := g) rfl
      have hr := run_append_grow (P := P) w t ty e i z ht hi hz ⟨g, 0, none⟩ n cap xs (by rw [hsize]; exact hown.1) holds a 1 c [u] hl hnews' (by omega) (by omega) (growslice_fits (by omega) (by have : (n + 1) * i.bytes ≤ 100000001 * 1024 := Nat.mul_le_mul (by omega) hby; omega))
      rw [h2] at hr
      injection hr with e1 e2
      refine ⟨v', w', h2, h3, h4, ?_⟩
      rw [e2]
      exact own_to hown (bw_al (Below.drew (Below.refl _ _)) _)
theorem wpList_app_keep {P : Program} (w : World) {ops : Array Oper} {rest : List Oper} {o : Oper} {a : Act} {Q : Exit → Act → World → Prop} (hgd : o.guard = none) (s x : Operand) (t : TypeId)
    (ho : o.op = .call { callee := .builtin .append, args := #[s, x], argTypes := #[t, t] })
    (base : Nat) (e : TypeId) (z : Value) (bytes : Nat) (ht : P.underlying t = some (.slice e)) (hinfo : (P.info? e).map (fun i => (i.zero, i.size, i.bytes)) = some (some z, 1, bytes))
    (hzs : z.cells.size = 1) {v : Value} {n : Nat} {xs : List Value} (hown : w.ownsRow base e 1 v n xs) (u : Value) (hs : a.eval s = v)
    (hx : a.eval x = .slice (some ⟨w.heap.size, 0, none⟩) 1 1) (h1 : u.oneCell' = true) (hby : bytes ≤ 1024) (hn : n ≤ 100000000) (hbase : base ≤ w.heap.size)
    (h : ∀ v' w', w'.ownsRow base e 1 v' (n + 1) (xs ++ [u]) → Below base w w' → w'.ownsRow base e 1 v n xs → w.grownBy w' v.ownBlock → wpList P ops Q rest (a.put o.dst v') w') :
    wpList P ops Q (o :: rest) a (w.alloc (.cells #[u] e)) := by
  obtain ⟨i0, hi, hz, hsi, hbi⟩ := info_parts hinfo
  have hcell : (w.alloc (.cells #[u] e)).cell? ⟨w.heap.size, 0, none⟩ = some u := by
    rw [cell_of_row _ w.heap.size 0 #[u] e (0, 0) (heap_new w _)]; rfl
  refine wpList_plain hgd fun K hK => ?_
  obtain ⟨v', w', hrun, h2, h3, h4⟩ := run_append_keep (P := P) (w := w.alloc (.cells #[u] e)) base t o.type e i0 z ht hi hz hsi (by rw [hbi]; exact hby) hzs v n xs (hown.alloc _) ⟨w.heap.size, 0, none⟩ 1 u hcell h1 hn (by simp; omega)
  unfold Oper.wp execOp
  simp only [ho, resolve, invoke, builtin, Sem.run_bind, Sem.run_pure, Result.andThen_ok, List.map_toArray, List.map_cons, List.map_nil, hs, hx, hrun]
  have hg : w.grownBy w' v.ownBlock := ⟨h3.os, h3.tape, h3.output, by have := h3.size; simp at this; omega, fun k hk hne => (h3.block k (by simp; omega) hne).trans (Below.heap_alloc w _ k hk)⟩
  exact hK _ _ (h v' w' h2 ((Below.refl _ _).grown hg hbase (fun k hk => (hown.lt k hk).1)) h4 hg)
theorem home_l1At {n i : Nat} {r : ByteArray} (hr : RowIn n r) (hi : i < r.size) : ((r[i].toNat : Int) - 48 == (i : Int) + 1) = homeB i r := by
  rw [home_at hr hi, Bool.eq_iff_iff]
  simp only [beq_iff_eq, decide_eq_true_eq]
  omega
set_option maxHeartbeats 4000000 in
theorem implStillBells_yes (m : Mt) (v : Value) (n : Nat) (w : World) (hok : methB m = true) (hg : MGood m n) (h : MethAt w m v) (hs : MtSmall m) : Calls Try.prog 31 #[m.v v] w fun e w' =>
    ∃ A q, e = .returned (.tuple #[.slice A (stillL n (scanB (roundsB n) m.l)).length q, .bool true]) ∧ w'.ownsRow w.heap.size 3 1 (.slice A (stillL n (scanB (roundsB n) m.l)).length q) (stillL n (scanB (roundsB n) m.l)).length (bellsV (stillL n (scanB (roundsB n) m.l))) ∧ Below w.heap.size w w' := by
  have Hg := Lib.hid (fun W (hW : Below w.heap.size w W) => implGoodMethod_any m v W (h.to hW) hs)
  rw [hok] at Hg
  have hn := hg.hi
  have hst := hg.st
  have Hru := Lib.hid (fun W hW => rowsUnder_any (roundsB n) v m.l n W hn (rounds_in hn) (h.1.to hW) (by have := hg.len; omega) hg.ok : ∀ W, Below w.heap.size w W → _)
  have Hst := Lib.hid (fun V W hV => still_any n V (scanB (roundsB n) m.l) W hn hV (scanB_in hn m.l (rounds_in hn)))
  have Hsl := Lib.hid (scan_len m.l (roundsB n))
  obtain ⟨A, c, hv⟩ := h.form
  subst hv
  unfold Mt.v
  unfold Mt.v at Hg
  rw [hst] at Hg ⊢
  clear h hg hst
  go_enter Try.func31, Try.ntmps31
  go_wp2_with fail
  refine box1 (C := fun W => Calls _ _ _ W _) ?_
  intro wb hw k1 hB0
  have R1 := boxRule k1
  clear k1
  refine (Hg.out _ hw).mono ?_; rintro e w1 ⟨rfl, hb1⟩
  have hB1 := bw_to hw hb1
  have R2 := fun i W hW => R1 W i (bw_to hb1 hW)
  have hdr : Below w1.heap.size w1 w1.drew := Below.drew (Below.refl _ _)
  have hb0 : Below w1.heap.size w1 w1 := Below.refl _ _
  have R3 := fun i => R1 w1 i hb1
  have hBBw := hB1
  go_wp2_with fail
  go_region_held3 (fun W => Below w1.heap.size w1 W) (first | with_reducible assumption | exact Below.drew (by assumption) | exact bw_to (by assumption) hb')
    (first | (go_at_call 67; refine (rounds_any n _ hn).mono ?_; rintro e w' ⟨rfl, rfl⟩) | (go_at_call 66; refine (Hru.out _ (bw_to hBBw (by assumption))).mono ?_; rintro e w' ⟨A1, q1, rfl, hown, hb'⟩; (have hS := strs_of_own (by rw [Hsl.out]; exact hown)); (have hsz' := Nat.le_trans (Below.size (by assumption : Below w1.heap.size w1 _)) hb'.size)) | (go_at_call 65; refine (Hst.out _ _ hS).mono ?_; rintro e w' ⟨A2, q2, rfl, hown2, hb'⟩))
  all_goals
    have hBB : Below w1.heap.size w1 w' := by assumption
    have Hown2 := Lib.hid hown2
    clear hown2 hown hS
    go_wp2_with fail
    go_ret2
    exact ⟨A2, q2, rfl, own_base (own_to Hown2.out (by first | exact Below.refl _ _ | exact Below.drew (Below.refl _ _))) (Nat.le_trans hB1.size hsz'), bw_to hB1 hBB⟩
set_option maxHeartbeats 2000000 in
theorem implStillBells_no (m : Mt) (v : Value) (w : World) (hn : methB m = false) (h : MethAt w m v) (hs : MtSmall m) : Calls Try.prog 31 #[m.v v] w fun e w' => e = .returned (.tuple #[.slice none 0 0, .bool false]) ∧ Below w.heap.size w w' := by
  have Hg := Lib.hid (fun W (hW : Below w.heap.size w W) => implGoodMethod_any m v W (h.to hW) hs)
  rw [hn] at Hg
  obtain ⟨A, c, hv⟩ := h.form
  subst hv
  unfold Mt.v at *
  clear h hn
  go_enter Try.func31, Try.ntmps31
  go_wp2_with fail
  refine box1 (C := fun W => Calls _ _ _ W _) ?_
  intro wb hw k1 hB0
  have R1 := boxRule k1
  clear k1
  refine (Hg.out _ hw).mono ?_; rintro e w1 ⟨rfl, hb1⟩
  go_wp2_with fail
  go_ret2
  exact ⟨rfl, bw_to hw hb1⟩
theorem all_take {α : Type} {p : α → Bool} {l : List α} {k : Nat} (hk : k < l.length) : (l.take (k + 1)).all p = ((l.take k).all p && p l[k]) := by
  rw [List.take_succ_eq_append_getElem hk, List.all_append]; simp
set_option maxRecDepth 100000 in
set_option maxHeartbeats 8000000 in
theorem specStillBells_yes (m : Mt) (v : Value) (n : Nat) (w : World) (hok : methB m = true) (hg : MGood m n) (h : MethAt w m v) (hs : MtSmall m) : Calls Try.prog 32 #[m.v v] w fun e w' =>
    ∃ A q, e = .returned (.tuple #[.slice A (stillL n (scanB (roundsB n) m.l)).length q, .bool true]) ∧ w'.ownsRow w.heap.size 3 1 (.slice A (stillL n (scanB (roundsB n) m.l)).length q) (stillL n (scanB (roundsB n) m.l)).length (bellsV (stillL n (scanB (roundsB n) m.l))) ∧ Below w.heap.size w w' := by
  have Hg := Lib.hid (fun W (hW : Below w.heap.size w W) => l4Good_any m v W (h.to hW) hs)
  rw [hok] at Hg
  have hn := hg.hi
  have hst := hg.st
  have hml := hg.len
  have Hlf := Lib.hid (fun W (hW : Below w.heap.size w W) => l4Lead_any (roundsB n) v m.l n W hn (rounds_in hn) (h.1.to hW) (by have := hg.len; omega) hg.ok)
  have Hsc := Lib.hid (scan_lead (roundsB n) m.l)
  have Hsl := Lib.hid (scan_len m.l (roundsB n))
  have Hll := Lib.hid (lead_len (roundsB n) m.l)
  have Hin := Lib.hid (scanB_in hn m.l (rounds_in hn))
  obtain ⟨R, hR⟩ : ∃ R, R = scanB (roundsB n) m.l := ⟨_, rfl⟩
  obtain ⟨H, hH⟩ : ∃ H, H = runB (roundsB n) m.l := ⟨_, rfl⟩
  obtain ⟨L, hL⟩ : ∃ L, L = leadB (roundsB n) m.l := ⟨_, rfl⟩
  obtain ⟨N, hN⟩ : ∃ N, N = m.l.length := ⟨_, rfl⟩
  obtain ⟨A, c, hv⟩ := h.form
  subst hv
  simp only [← hR, ← hH, ← hL, ← hN] at Hlf Hsc Hsl Hll Hin hml ⊢
  unfold Mt.v
  unfold Mt.v at Hg
  rw [hst] at Hg ⊢
  rw [← hN] at Hg
  clear h hg hst hR hH hL hN
  go_enter Try.func32, Try.ntmps32
  go_wp2_with fail
  refine box1 (C := fun W => Calls _ _ _ W _) ?_
  intro wb hw k1 hB0
  have R1 := boxRule k1
  clear k1
  refine (Hg.out _ hw).mono ?_; rintro e w1 ⟨rfl, hb1⟩
  have hB1 := bw_to hw hb1
  have hdr : Below w1.heap.size w1 w1.drew := Below.drew (Below.refl _ _)
  have hb0 : Below w1.heap.size w1 w1 := Below.refl _ _
  have R2 := fun i W hW => R1 W i (bw_to hb1 hW)
  have R3 := fun i => R1 w1 i hb1
  have hBBw := hB1
  go_wp2_with fail
  go_cut [5, 6] (fun s5 s6 wx => ∃ g q, s6 = .string H ∧ s5 = .slice (some ⟨g, 0, none⟩) N q ∧ g < wx.heap.size ∧ wx.ownsRow w1.heap.size 9 1 (.slice (some ⟨g, 0, none⟩) N q) N (L.map Value.string) ∧ Below w1.heap.size w1 wx)
  case first =>
    go_region_held3 (fun W => Below w1.heap.size w1 W) (first | with_reducible assumption | exact Below.drew (by assumption) | exact bw_to (by assumption) hb')
      (first | (go_at_call 69; refine (l1Rounds_any n _ hn).mono ?_; rintro e w' ⟨rfl, rfl⟩) | (go_at_call 68; (have hsz' := (Below.size (by assumption : Below w1.heap.size w1 _))); refine (Hlf.out _ (bw_to hBBw (by assumption))).mono ?_; rintro e w' ⟨A1, q1, rfl, hown, hb'⟩))
    all_goals
      have hBB : Below w1.heap.size w1 w' := by assumption
      have hown' := own_base hown hsz'
      obtain ⟨g, hA, hgl⟩ := own_ptr hown' (by omega)
      subst hA
      clear hown
      go_wp2_with fail
      go_meet
      exact ⟨g, q1, rfl, rfl, hgl, hown', hBB⟩
  case rest =>
    obtain ⟨g, q, rfl, rfl, hgl, hownL, hBc⟩ := hcut
    go_wp2_with fail
    go_loopw [4, 7] (fun o i wr => ∃ (k : Nat) (A : Option Addr) (qo : Nat), k ≤ n ∧ i = .int .i64 ((k : Int) + 1) ∧ o = .slice A (stillL k R).length qo ∧ wr.ownsRow wc.heap.size 3 1 (.slice A (stillL k R).length qo) (stillL k R).length (bellsV (stillL k R)) ∧ wr.ownsRow w1.heap.size 9 1 (.slice (some ⟨g, 0, none⟩) N q) N (L.map Value.string) ∧ Below w1.heap.size w1 wr ∧ wc.heap.size ≤ wr.heap.size) (fun _ i _ => n + 1 - (intOf i).toNat)
    case atStart => exact ⟨0, none, 0, by omega, rfl, rfl, World.ownsRow_nil _ _ _ _, hownL, hBc, Nat.le_refl _⟩
    case round =>
      obtain ⟨k, A, qo, hk, rfl, rfl, hown, hownl, hB, hsz⟩ := hrel
      have R4 := fun i => R1 wr i (bw_to hb1 hB)
      by_cases hlt : k < n
      · have hll := still_len k R
        have Hs := Lib.hid (still_succ k R)
        obtain ⟨P, hP⟩ : ∃ P, P = stillL k R := ⟨_, rfl⟩
        rw [← hP] at hown Hs hll ⊢
        clear hP
        have hdk : decide ((k : Int) + 1 ≤ (n : Int)) = true := decide_eq_true (by omega)
        go_wp2_with (at_builtin; go_must (refine wpList_app_keep _ rfl _ _ _ rfl w1.heap.size 9 _ 16 Try.underlying22 info_str rfl hownl (.string H) rfl rfl rfl (by omega) (by omega) hB.size ?_); intro v2 w3 hown3 hb3 hownl3 hg3; (obtain ⟨A2, q2, e2, hq1, hq2, _⟩ := sl_of_own hown3); subst e2)
        have hownP := hown.kept hg3 (own_neG (G := g) hown (.inl hgl))
        have hB3 := hB.trans hb3
        have hsz3 : wc.heap.size ≤ w3.heap.size := by have := hg3.size; omega
        have e3 : L.map Value.string ++ [.string H] = R.map Value.string := by rw [Hsc.out]; simp
        rw [e3] at hown3
        have hS3 : Strs w3 (.slice A2 (N + 1) q2) R := strs_of_own (by rw [Hsl.out]; exact hown3)
        obtain ⟨A2', q2', e2, _, _, hrd⟩ := hS3
        injection e2 with ea eb ec
        subst ea ec
        rw [Hsl.out] at hrd
        unfold maxLen at hq2
        have R5 := fun i => R1 w3 i (bw_to hb1 hB3)
        clear hown hownl hown3 e3 R4 eb
        obtain ⟨wo, rfl⟩ : ∃ wo : World, wo = w3 := ⟨_, rfl⟩
        go_loopw [8, 34] (fun o i wr => ∃ j : Nat, j ≤ N + 1 ∧ i = .int .i64 j ∧ o = .bool ((R.take j).all (homeB k)) ∧ wr = wo) (fun _ i _ => N + 1 - (intOf i).toNat)
        case atStart => exact ⟨0, by omega, rfl, rfl, rfl⟩
        case round =>
          obtain ⟨j, hj, rfl, rfl, rfl⟩ := hrel
          by_cases hlt2 : j < N + 1
          · have hjR : j < R.length := by rw [Hsl.out]; exact hlt2
            obtain ⟨ad, rfl, hC⟩ := strs_el hrd hjR
            have hC0 := hC _ (Below.refl _ _)
            have Hat := Lib.hid (all_take (p := homeB k) hjR)
            have hri := Hin.out _ (List.getElem_mem hjR)
            obtain ⟨r, hr⟩ : ∃ r, r = R[j] := ⟨_, rfl⟩
            rw [← hr] at hC0 Hat hri
            obtain ⟨b, hb⟩ : ∃ b, b = (R.take j).all (homeB k) := ⟨_, rfl⟩
            rw [← hb] at Hat ⊢
            have hkr : k < r.size := by rw [hri.1]; exact hlt
            have hat := hri.at_ hkr
            have hl1 := Lib.hid (l1At_any r k wr (by rw [hri.1]; unfold maxLen; omega) hkr (by omega))
            have hhm := home_l1At hri hkr
            obtain ⟨z, hz⟩ : ∃ z, z = (r[k].toNat : Int) - 48 := ⟨_, rfl⟩
            rw [← hz] at hl1 hhm
            obtain ⟨hb2, hh⟩ : ∃ x, x = homeB k r := ⟨_, rfl⟩
            rw [← hh] at hhm Hat
            clear hC hb hr hz hh hri hat hkr
            cases b
            · go_wp2_with fail
              exact ⟨⟨j + 1, by omega, by go_num, by rw [Hat.out]; rfl, trivial⟩, by simp [intOf]; omega⟩
            · go_wp2_with (go_at_call 70; refine (hl1.out).mono ?_; rintro e w' ⟨rfl, rfl⟩)
              exact ⟨⟨j + 1, by omega, by go_num, by rw [Hat.out]; simp, trivial⟩, by simp [intOf]; omega⟩
          · obtain rfl : j = N + 1 := by omega
            rw [show R.take (N + 1) = R from by rw [← Hsl.out, List.take_length]]
            obtain ⟨b, hb⟩ : ∃ b, b = R.all (homeB k) := ⟨_, rfl⟩
            rw [← hb] at Hs ⊢
            clear hb
            cases b
            · rw [if_neg (by decide), List.append_nil] at Hs
              go_wp2_with fail
              exact ⟨⟨k + 1, A, qo, by omega, by go_num, by rw [Hs.out], by rw [Hs.out]; exact hownP, hownl3, hB3, hsz3⟩, by simp [intOf]; omega⟩
            · rw [if_pos rfl] at Hs
              go_wp2_with (at_builtin; go_must (refine wpList_app _ rfl _ _ _ rfl wc.heap.size 3 _ 1 8 Try.underlying66 info_i64 rfl (by omega) hownP [.int .i64 ((k : Int) + 1)] rfl rfl rfl (one_mem rfl) (by omega) (by omega) hsz3 ?_); intro v4 w4 hown4 hb4 hg4 _)
              obtain ⟨A4, q4, e4, _⟩ := sl_of_own hown4
              subst e4
              have e5 : (stillL (k + 1) R).length = P.length + 1 := by rw [Hs.out]; simp
              rw [← bellsV_snoc, ← Hs.out, ← e5] at hown4
              have hl4 := hownl3.kept hg4 (.inr (fun e => by have := (hownP.lt g e.symm).1; omega))
              exact ⟨⟨k + 1, A4, q4, by omega, by go_num, by rw [e5], hown4, hl4, hB3.trans (hb4.mono (by have := hBc.size; omega)), by have := hg4.size; omega⟩, by simp [intOf]; omega⟩
      · obtain rfl : k = n := by omega
        have hdk : decide ((k : Int) + 1 ≤ (k : Int)) = false := decide_eq_false (by omega)
        have Hown := Lib.hid hown
        clear hown hownl hownL
        go_wp2_with fail
        go_ret2
        exact ⟨A, qo, rfl, own_base Hown.out (by have := hBc.size; have := hB1.size; omega), bw_to hB1 hB⟩
set_option maxHeartbeats 2000000 in
theorem specStillBells_no (m : Mt) (v : Value) (w : World) (hn : methB m = false) (h : MethAt w m v) (hs : MtSmall m) : Calls Try.prog 32 #[m.v v] w fun e w' => e = .returned (.tuple #[.slice none 0 0, .bool false]) ∧ Below w.heap.size w w' := by
  have Hg := Lib.hid (fun W (hW : Below w.heap.size w W) => l4Good_any m v W (h.to hW) hs)
  rw [hn] at Hg
  obtain ⟨A, c, hv⟩ := h.form
  subst hv
  unfold Mt.v at *
  clear h hn
  go_enter Try.func32, Try.ntmps32
  go_wp2_with fail
  refine box1 (C := fun W => Calls _ _ _ W _) ?_
  intro wb hw k1 hB0
  have R1 := boxRule k1
  clear k1
  refine (Hg.out _ hw).mono ?_; rintro e w1 ⟨rfl, hb1⟩
  go_wp2_with fail
  go_ret2
  exact ⟨rfl, bw_to hw hb1⟩
set_option maxRecDepth 100000 in
set_option maxHeartbeats 4000000 in
theorem l4Hunt_any (m : Mt) (v : Value) (n : Nat) (w : World) (hg : MGood m n) (h : MethAt w m v) : Calls Try.prog 56 #[m.v v] w fun e w' =>
    ∃ A q, e = .returned (.slice A (stillL n [runB (roundsB n) m.l]).length q) ∧ Below w.heap.size w w' := by
  have hn := hg.hi
  have hst := hg.st
  have Hh := Lib.hid (fun W (hW : Below w.heap.size w W) => l4Head_any m v n W hg (h.1.to hW))
  have hri := runB_in hn m.l (rounds_in hn)
  obtain ⟨H, hH⟩ : ∃ H, H = runB (roundsB n) m.l := ⟨_, rfl⟩
  simp only [← hH] at Hh hri ⊢
  obtain ⟨A, c, hv⟩ := h.form
  subst hv
  unfold Mt.v
  unfold Mt.v at Hh
  rw [hst] at Hh ⊢
  have Hri := Lib.hid hri
  clear h hg hst hH hri
  go_enter Try.func56, Try.ntmps56
  go_wp2_with fail
  refine box1 (C := fun W => Calls _ _ _ W _) ?_
  intro wb hw k1 hB0
  have R1 := boxRule k1
  clear k1
  refine (Hh.out _ hw).mono ?_; rintro e w1 ⟨rfl, hb1⟩
  have hB1 := bw_to hw hb1
  go_wp2_with fail
  go_loopw [3, 5] (fun o i wr => ∃ (k : Nat) (A : Option Addr) (qo : Nat), k ≤ n ∧ i = .int .i64 ((k : Int) + 1) ∧ o = .slice A (stillL k [H]).length qo ∧ wr.ownsRow w1.heap.size 3 1 (.slice A (stillL k [H]).length qo) (stillL k [H]).length (bellsV (stillL k [H])) ∧ Below w1.heap.size w1 wr) (fun _ i _ => n + 1 - (intOf i).toNat)
  case atStart => exact ⟨0, none, 0, by omega, rfl, rfl, World.ownsRow_nil _ _ _ _, Below.refl _ _⟩
  case round =>
    obtain ⟨k, A, qo, hk, rfl, rfl, hown, hB⟩ := hrel
    have R4 := fun i => R1 wr i (bw_to hb1 hB)
    by_cases hlt : k < n
    · have hll := still_len k [H]
      have Hs := Lib.hid (still_succ k [H])
      obtain ⟨P, hP⟩ : ∃ P, P = stillL k [H] := ⟨_, rfl⟩
      rw [← hP] at hown Hs hll ⊢
      have hdk : decide ((k : Int) + 1 ≤ (n : Int)) = true := decide_eq_true (by omega)
      have hkr : k < H.size := by rw [Hri.out.1]; exact hlt
      have hat := Hri.out.at_ hkr
      have hl1 := Lib.hid (l1At_any H k wr (by rw [Hri.out.1]; unfold maxLen; omega) hkr (by omega))
      have hhm := home_l1At Hri.out hkr
      obtain ⟨z, hz⟩ : ∃ z, z = (H[k].toNat : Int) - 48 := ⟨_, rfl⟩
      rw [← hz] at hl1 hhm
      rw [show [H].all (homeB k) = homeB k H by simp] at Hs
      obtain ⟨b, hb⟩ : ∃ x, x = homeB k H := ⟨_, rfl⟩
      rw [← hb] at hhm Hs
      clear hP hz hb hat hkr
      cases b
      · rw [if_neg (by decide), List.append_nil] at Hs
        go_wp2_with (go_at_call 70; refine (hl1.out).mono ?_; rintro e w' ⟨rfl, rfl⟩)
        exact ⟨⟨k + 1, A, qo, by omega, by go_num, by rw [Hs.out], by rw [Hs.out]; exact hown, hB⟩, by simp [intOf]; omega⟩
      · rw [if_pos rfl] at Hs
        go_wp2_with (first | (go_at_call 70; refine (hl1.out).mono ?_; rintro e w' ⟨rfl, rfl⟩) | (at_builtin; go_must (refine wpList_app _ rfl _ _ _ rfl w1.heap.size 3 _ 1 8 Try.underlying66 info_i64 rfl (by omega) hown [.int .i64 ((k : Int) + 1)] rfl rfl rfl (one_mem rfl) (by omega) (by omega) hB.size ?_); intro v4 w4 hown4 hb4 hg4 _))
        obtain ⟨A4, q4, e4, _⟩ := sl_of_own hown4
        subst e4
        have e5 : (stillL (k + 1) [H]).length = P.length + 1 := by rw [Hs.out]; simp
        rw [← bellsV_snoc, ← Hs.out, ← e5] at hown4
        exact ⟨⟨k + 1, A4, q4, by omega, by go_num, by rw [e5], hown4, hB.trans hb4⟩, by simp [intOf]; omega⟩
    · obtain rfl : k = n := by omega
      have hdk : decide ((k : Int) + 1 ≤ (k : Int)) = false := decide_eq_false (by omega)
      clear hown
      go_wp2_with fail
      go_ret
      exact ⟨A, qo, rfl, bw_to hB1 hB⟩
end Go.Proofs.Ytpkpahadjdkafaa
