/- Truth by lead heads: the program's, whole. -/
import Derived.Test.YtjiiflpoiaaccaaGreatPk18
namespace Go.Proofs.YtjiiflpoiaaccaaGreat
open Go Go.RowKit
set_option linter.unusedVariables false
set_option linter.unusedSimpArgs false

theorem updF_snoc {L : List ByteArray} {x : ByteArray} {f : ByteArray → Bool} (h : ∀ s, f s = true ↔ s ∈ L) (s : ByteArray) : updF f x s = true ↔ s ∈ L ++ [x] := by
  unfold updF
  rw [List.mem_append, List.mem_singleton, ← h s]
  by_cases e : s = x
  · rw [if_pos e]; simp [e]
  · rw [if_neg e]; simp [e]
set_option maxRecDepth 10000 in
set_option maxHeartbeats 2000000 in
theorem leadTrue_any (m : Mt) (v : Value) (n : Nat) (w : World) (hg : MGood m n) (hv : Strs w v m.l) : Calls Tryz.prog 201 #[m.v v] w fun e w' => e = .returned (.bool (decide (leadR n m).Nodup)) ∧ Below w.heap.size w w' := by
  have hn := hg.hi
  have hst := hg.st
  have Hl := Lib.hid (fun W hW => leadRows_any m v (roundsB n) n W hn (rounds_in hn) (hv.to hW) (by have := hg.len; omega) hg.ok)
  have Hlen : Hid ((leadR n m).length = m.l.length) := Lib.hid (lead_len _ _)
  have Hin := Lib.hid (lead_in hn m.l (rounds_in hn))
  have hml := hg.len
  obtain ⟨A, c, hv', _⟩ := hv
  subst hv'
  obtain ⟨L, hL⟩ : ∃ L, L = leadR n m := ⟨_, rfl⟩
  have hL2 : leadB (roundsB n) m.l = L := hL.symm
  rw [hL2] at Hl Hin
  rw [← hL] at Hlen ⊢
  have Hit := Lib.hid (fun W V (hV : Strs W V L) => isTrue_any V L W hV (by have := Hlen.out; omega) (fun s hs => by rw [(Hin.out s hs).1]; omega))
  unfold Mt.v at *
  rw [hst] at Hl ⊢
  clear hg hst hL hL2
  go_enter Tryz.func201, Tryz.ntmps201
  go_wp2_with fail
  refine box1 (C := fun W => Code.wp _ _ _ _ W) ?_
  intro wb hw k1 hB0
  have R1 := boxRule k1
  have hdr : Below wb.heap.size wb wb.drew := Below.drew (Below.refl _ _)
  clear k1
  go_region_held3 (fun W => Below wb.heap.size wb W) (first | exact Below.drew (by assumption) | exact bw_to (by assumption) hb')
    (first | (go_at_call 195; refine (rounds_any n _ hn).mono ?_; rintro e w' ⟨rfl, rfl⟩) | (go_at_call 268; refine (Hl.out _ (bw_to hw (by assumption))).mono ?_; rintro e w1 ⟨A1, q1, rfl, hown, hb'⟩; (have hS := strs_of_own (by rw [Hlen.out]; exact hown))) | (go_at_call 108; refine (Hit.out _ _ hS).mono ?_; rintro e w' ⟨rfl, hb'⟩))
  all_goals
    have hBB : Below wb.heap.size wb w' := by assumption
    go_wp2_with fail
    go_ret
    exact ⟨rfl, bw_to hw hBB⟩
set_option maxRecDepth 100000 in
set_option maxHeartbeats 8000000 in
theorem falseSet_any (m : Mt) (v : Value) (n : Nat) (w : World) (hg : MGood m n) (hv : Strs w v m.l) : Calls Tryz.prog 318 #[m.v v, m.v v] w fun e w' => ∃ b cnt f, e = .returned (.map (some b)) ∧ w.heap.size ≤ b ∧ SM w' b cnt f ∧ (∀ s, f s = true ↔ s ∈ prodL n (leadR n m) (leadR n m)) ∧ Below w.heap.size w w' := by
  have hn := hg.hi
  have hst := hg.st
  have Hl := Lib.hid (fun W hW => leadRows_any m v (roundsB n) n W hn (rounds_in hn) (hv.to hW) (by have := hg.len; omega) hg.ok)
  have Hlen : Hid ((leadR n m).length = m.l.length) := Lib.hid (lead_len _ _)
  have Hin := Lib.hid (lead_inv hn m.l (Inv.rounds hn))
  have hml := hg.len
  obtain ⟨A, c, hv', _⟩ := hv
  subst hv'
  obtain ⟨L, hL⟩ : ∃ L, L = leadR n m := ⟨_, rfl⟩
  have hL2 : leadB (roundsB n) m.l = L := hL.symm
  rw [hL2] at Hl Hin
  rw [← hL] at Hlen ⊢
  unfold Mt.v at *
  rw [hst] at Hl ⊢
  clear hg hst hL hL2
  have H0 : Hid (∀ s : ByteArray, false = true ↔ s ∈ prodL n (L.take 0) L) := Lib.hid (fun s => by simp [prodL])
  go_enter Tryz.func318, Tryz.ntmps318
  go_wp2_with fail
  refine box2 (C := fun W => Oper.upon _ _ _ _ _ ((Sem.run _ _ W).andThen _)) ?_
  intro wb hw k1 k2 hB0
  have R1 := boxRule k1
  have R2 := boxRule k2
  clear k1 k2
  refine upon_mkS ?_
  intro w1 hm1 hb1
  have hbl1 := hm1.lt
  have hw1 := bw_to hw hb1
  have R1a := fun W i (hW : Below w1.heap.size w1 W) => R1 W i (bw_to hb1 hW)
  have hdr : Below w1.heap.size w1 w1.drew := Below.drew (Below.refl _ _)
  have hdr0 : Below w1.heap.size w1 w1 := Below.refl _ _
  go_upto_region 2 with fail
  go_cut [15, 16, 17] (fun s15 s16 s17 wx => ∃ A1 q1, s15 = .slice A1 m.l.length q1 ∧ s16 = .int .i64 m.l.length ∧ s17 = .int .i64 0 ∧ wx.ownsRow w1.heap.size 9 1 (.slice A1 m.l.length q1) m.l.length (L.map Value.string) ∧ SM wx wb.heap.size 0 (fun _ => false) ∧ Below wb.heap.size wb wx)
  case first =>
    go_region_held3 (fun W => Below w1.heap.size w1 W) (first | exact Below.drew (by assumption) | exact bw_to (by assumption) hb')
      (first | (go_at_call 195; refine (rounds_any n _ hn).mono ?_; rintro e w' ⟨rfl, rfl⟩) | (go_at_call 268; refine (Hl.out _ (bw_to hw1 (by assumption))).mono ?_; rintro e w' ⟨A1, q1, rfl, hown, hb'⟩; (have hz1 := Below.size (by assumption : Below w1.heap.size w1 _))))
    all_goals
      have hBB : Below w1.heap.size w1 w' := by assumption
      go_wp2_with fail
      go_meet
      exact ⟨A1, q1, rfl, rfl, rfl, own_base hown hz1, hm1.to hBB, bw_to hb1 hBB⟩
  case rest =>
    obtain ⟨A1, q1, rfl, rfl, rfl, hown1, hm2, hB2⟩ := hcut
    clear R1a hdr hm1
    have hz1 : wb.heap.size < w1.heap.size := hbl1
    go_wp2_with fail
    go_loopw [17] (fun i wr => ∃ (k cnt : Nat) (f : ByteArray → Bool), k ≤ m.l.length ∧ i = .int .i64 k ∧ wr.ownsRow w1.heap.size 9 1 (.slice A1 m.l.length q1) m.l.length (L.map Value.string) ∧ SM wr wb.heap.size cnt f ∧ (∀ s, f s = true ↔ s ∈ prodL n (L.take k) L) ∧ cnt ≤ k * 40 ∧ Below wb.heap.size wb wr) (fun i _ => m.l.length - (intOf i).toNat)
    case atStart => exact ⟨0, 0, _, by omega, rfl, hown1, hm2, H0.out, by omega, hB2⟩
    case round =>
      clear hown1 hm2 hB2
      obtain ⟨k, cnt, f, hk, rfl, hown, hm, hf, hcnt, hB⟩ := hrel
      have Hf := Lib.hid hf
      have Hm := Lib.hid hm
      clear hm hf
      by_cases hlt : k < m.l.length
      · have hkL : k < L.length := by rw [Hlen.out]; exact hlt
        have hS := strs_of_own (by rw [Hlen.out]; exact hown)
        obtain ⟨A', c', e', hx1, hx2, hrd⟩ := hS
        injection e' with ea eb ec
        subst ea ec
        clear eb
        obtain ⟨ad, rfl, hC⟩ := strs_el hrd hkL
        have hC0 := hC _ (Below.refl _ _)
        have Hx := Lib.hid (Hin.out _ (List.getElem_mem hkL))
        have Hst := Lib.hid (prod_take (n := n) (ys := L) hkL)
        obtain ⟨x, hx⟩ : ∃ x, x = L[k] := ⟨_, rfl⟩
        rw [← hx] at hC0 Hx Hst
        have Hown := Lib.hid hown
        have r2 := fun i => R2 _ i hB
        obtain ⟨wo, rfl⟩ : ∃ wo : World, wo = wr := ⟨_, rfl⟩
        have hdr0 : Below wo.heap.size wo wo := Below.refl _ _
        have hdr : Below wo.heap.size wo wo.drew := Below.drew (Below.refl _ _)
        have r3 := fun W i (hW : Below wo.heap.size wo W) => R2 W i (bw_to hB hW)
        have hBo := bw_to hw hB
        have Hl5 := Lib.hid (fun W (hW : Below wo.heap.size wo W) => Hl.out W (bw_to hBo hW))
        clear hC hx hx2 hrd hown hkL r2
        go_upto_region 5 with fail
        go_cut [25, 26, 27] (fun s15 s16 s17 wx => ∃ A2 q2, s15 = .slice A2 m.l.length q2 ∧ s16 = .int .i64 m.l.length ∧ s17 = .int .i64 0 ∧ wx.ownsRow wo.heap.size 9 1 (.slice A2 m.l.length q2) m.l.length (L.map Value.string) ∧ Below wo.heap.size wo wx)
        case first =>
          go_region_held3 (fun W => Below wo.heap.size wo W) (first | with_reducible assumption | with_reducible exact Below.drew (by with_reducible assumption) | with_reducible exact bw_to (by with_reducible assumption) hb')
            (first | (go_at_call 195; refine (rounds_any n _ hn).mono ?_; rintro e w' ⟨rfl, rfl⟩) | (go_at_call 268; refine (Hl5.out _ (by with_reducible assumption)).mono ?_; rintro e w' ⟨A2, q2, rfl, hown, hb'⟩; (have hz2 := Below.size (by with_reducible assumption : Below wo.heap.size wo _))))
          all_goals
            have hBB : Below wo.heap.size wo w' := by assumption
            go_wp2_with fail
            go_meet
            exact ⟨A2, q2, rfl, rfl, rfl, own_base hown hz2, hBB⟩
        case rest =>
          obtain ⟨A2, q2, rfl, rfl, rfl, hown2, hB3⟩ := hcut
          have hown1 := own_to Hown.out hB3
          have hm3 := Hm.out.to hB3
          have hBc := bw_to hB hB3
          have hz4 : wb.heap.size < wo.heap.size := Hm.out.lt
          have H00 : Hid (∀ s, f s = true ↔ s ∈ prodL n (L.take k) L ++ (L.take 0).map (quoB n x)) := Lib.hid (fun s => by simpa using Hf.out s)
          clear r3 hdr hdr0 hC0
          have hz5 := hz4
          go_wp2_with fail
          go_loopw [27] (fun i wr => ∃ (j cnt' : Nat) (f : ByteArray → Bool), j ≤ m.l.length ∧ i = .int .i64 j ∧ wr.ownsRow w1.heap.size 9 1 (.slice (some ad) m.l.length q1) m.l.length (L.map Value.string) ∧ wr.ownsRow wo.heap.size 9 1 (.slice A2 m.l.length q2) m.l.length (L.map Value.string) ∧ SM wr wb.heap.size cnt' f ∧ (∀ s, f s = true ↔ s ∈ prodL n (L.take k) L ++ (L.take j).map (quoB n x)) ∧ cnt' ≤ cnt + j ∧ Below wb.heap.size wb wr) (fun i _ => m.l.length - (intOf i).toNat)
          case atStart => exact ⟨0, cnt, f, by omega, rfl, hown1, hown2, hm3, H00.out, by omega, hBc⟩
          case round =>
            clear hown1 hown2 hm3 hBc hB3 Hf Hm Hown H00
            obtain ⟨j, cnt', f, hj, rfl, hown1, hown2, hm, hf, hcnt', hB'⟩ := hrel
            have Hf := Lib.hid hf
            have Hm := Lib.hid hm
            have Hown1 := Lib.hid hown1
            clear hm hf hown1
            by_cases hlt2 : j < m.l.length
            · have hjL : j < L.length := by rw [Hlen.out]; exact hlt2
              have hS := strs_of_own (by rw [Hlen.out]; exact hown2)
              obtain ⟨A', c2', e', hx1, hx2, hrd⟩ := hS
              injection e' with ea eb ec
              subst ea ec
              clear eb
              obtain ⟨ad2, rfl, hC⟩ := strs_el hrd hjL
              have hC0 := hC _ (Below.refl _ _)
              have Hy := Lib.hid (Hin.out _ (List.getElem_mem hjL))
              have Hup : Hid (prodL n (L.take k) L ++ (L.take (j + 1)).map (quoB n x) = (prodL n (L.take k) L ++ (L.take j).map (quoB n x)) ++ [quoB n x L[j]]) := Lib.hid (by rw [map_take_succ hjL, List.append_assoc])
              obtain ⟨y, hy⟩ : ∃ y, y = L[j] := ⟨_, rfl⟩
              rw [← hy] at hC0 Hy Hup
              have Hiv := Lib.hid (trB_ok hn Hy.out)
              have Htu := Lib.hid (fun W => turned_any n y (trB n y) W Hiv.out)
              obtain ⟨z, hz⟩ : ∃ z, z = trB n y := ⟨_, rfl⟩
              have Hq : Hid (quoB n x y = timesB x z) := Lib.hid (by rw [hz]; rfl)
              rw [← hz] at Hiv Htu
              have Htm := Lib.hid (fun W => times_any x z W (by rw [Hx.out.1.1]; omega) (by rw [Hiv.out.hb.1]; omega) (row_hin Hx.out.1.1 Hiv.out.hb))
              have Hrow := Lib.hid (times_in Hx.out.1 Hiv.out.hb)
              have Hown2 := Lib.hid hown2
              rw [Hq.out] at Hup
              clear hC hx2 hrd hown2 hz hy hjL
              go_wp2_with (go_at_call 245; refine (Htu.out _).mono ?_; rintro e w4 ⟨rfl, hb4⟩)
              refine (Htm.out _).mono ?_; rintro e w5 ⟨rfl, hb5⟩
              have hm5 := (Hm.out.to hb4).to hb5
              have o1 := own_to (own_to Hown1.out hb4) hb5
              have o2 := own_to (own_to Hown2.out hb4) hb5
              have hB5 := bw_to (bw_to hB' hb4) hb5
              obtain ⟨p, hp⟩ : ∃ p, p = timesB x z := ⟨_, rfl⟩
              rw [← hp] at Hup Hrow ⊢
              clear hp
              go_wp2_with fail
              refine upon_insS Tryz.underlying197 hm5 (by omega) p (by rw [Hrow.out.1]; unfold maxLen; omega) ?_
              intro w6 hm6 hg6
              have o3 := o1.kept hg6 (own_neG o1 (.inl hz1))
              have o4 := o2.kept hg6 (own_neG o2 (.inl hz4))
              have hB6 := gr_lowS hB5 hg6 (Nat.le_refl _)
              have Hnew : Hid (∀ s, updF f p s = true ↔ s ∈ prodL n (L.take k) L ++ (L.take (j + 1)).map (quoB n x)) := Lib.hid (fun s => by rw [Hup.out]; exact updF_snoc Hf.out s)
              clear o1 o2 hm5 hg6
              go_wp2_with fail
              exact ⟨⟨j + 1, _, _, by omega, by go_num, o3, o4, hm6, Hnew.out, by omega, hB6⟩, by simp [intOf]; omega⟩
            · obtain rfl : j = m.l.length := by omega
              have Hd : Hid (∀ s, f s = true ↔ s ∈ prodL n (L.take (k + 1)) L) := Lib.hid (fun s => by
                have e : L.take m.l.length = L := List.take_of_length_le (by rw [Hlen.out]; exact Nat.le_refl _)
                rw [Hst.out, Hf.out s, e])
              clear hown2
              go_wp2_with fail
              exact ⟨⟨k + 1, _, _, by omega, by go_num, Hown1.out, Hm.out, Hd.out, by omega, hB'⟩, by simp [intOf]; omega⟩
      · obtain rfl : k = m.l.length := by omega
        have Hd : Hid (∀ s, f s = true ↔ s ∈ prodL n L L) := Lib.hid (fun s => by rw [Hf.out s, List.take_of_length_le (by rw [Hlen.out]; exact Nat.le_refl _)])
        clear hown
        go_wp2_with fail
        go_ret
        exact ⟨_, _, _, rfl, hw.size, Hm.out, Hd.out, bw_to hw hB⟩
theorem info_isl : (Tryz.prog.info? 126).map (fun i => (i.zero, i.size, i.bytes)) = some (some (.slice none 0 0), 1, 24) := by kernel_rfl
set_option maxRecDepth 100000 in
set_option maxHeartbeats 8000000 in
theorem clashes_any (m : Mt) (v V : Value) (hs : List ByteArray) (n : Nat) (w : World) (hg : MGood m n) (hv : Strs w v m.l) (hV : Strs w V hs) (hin : ∀ x ∈ hs, Inv n x) (hl : hs.length ≤ 1000) : Calls Tryz.prog 269 #[m.v v, V] w fun e w' => ∃ A N q, e = .returned (.slice A N q) ∧ (N = 0 ↔ Clear n (prodL n (leadR n m) (leadR n m)) hs) ∧ Below w.heap.size w w' := by
  have Hf := Lib.hid (fun W (hW : Below w.heap.size w W) => falseSet_any m v n W hg (hv.to hW))
  have hn := hg.hi
  obtain ⟨A0, q0, hv', _⟩ := hv
  subst hv'
  obtain ⟨Av, cv, rfl, hvc, hvm, hrd⟩ := hV
  unfold maxLen at hvm
  have Hin := Lib.hid hin
  obtain ⟨S, hS⟩ : ∃ S, S = prodL n (leadR n m) (leadR n m) := ⟨_, rfl⟩
  simp only [← hS] at Hf ⊢
  obtain ⟨P, hP⟩ : ∃ P, P = NoClash n S hs := ⟨_, rfl⟩
  have Hend : Hid (PairsOk P hs.length hs.length (hs.length + 1) ↔ Clear n S hs) := Lib.hid (by rw [hP]; exact clear_end)
  have Hst : Hid (PairsOk P hs.length 0 1) := Lib.hid (pairs_start P hs.length)
  have HP : Hid (∀ a b (ha : a < hs.length) (hb : b < hs.length), P a b ↔ timesB (trB n hs[a]) hs[b] ∉ S) := Lib.hid (fun a b ha hb => by
    rw [hP]; unfold NoClash
    rw [List.getD_eq_getElem?_getD, List.getD_eq_getElem?_getD, List.getElem?_eq_getElem ha, List.getElem?_eq_getElem hb]; rfl)
  unfold Mt.v at *
  clear hg hin hS hP
  go_enter Tryz.func269, Tryz.ntmps269
  go_wp2_with fail
  refine box1 (C := fun W => Calls _ _ _ W _) ?_
  intro wb hw k1 hB0
  have R1 := boxRule k1
  clear k1
  refine (Hf.out _ hw).mono ?_; rintro e w1 ⟨b, cnt, f, rfl, hbl, hm, hf, hb1⟩
  have hw1 := bw_to hw hb1
  go_wp2_with fail
  refine box1 (C := fun W => Code.wp _ _ _ _ W) ?_
  intro w2 hw2 k2 hB02
  have hown0 : w2.ownsRow w1.heap.size 126 1 (.slice (some ⟨w1.heap.size, 0, none⟩) 0 0) 0 [] := own_of_heap (cs := #[]) k2 (Nat.le_refl _) (by unfold maxLen; omega) rfl
  have Hm := Lib.hid (fun W (hW : Below w1.heap.size w1 W) => hm.to hW)
  have Hf := Lib.hid hf
  clear k2 hm hf R1
  go_loopw [6, 16] (fun o i wr => ∃ (k N : Nat) (A : Option Addr) (q : Nat) (xs : List Value), k ≤ hs.length ∧ i = .int .i64 k ∧ o = .slice A N q ∧ wr.ownsRow w1.heap.size 126 1 (.slice A N q) N xs ∧ (N = 0 ↔ PairsOk P hs.length k (k + 1)) ∧ N ≤ k * 1000 ∧ Below w1.heap.size w1 wr) (fun _ i _ => hs.length - (intOf i).toNat)
  case atStart => exact ⟨0, 0, _, 0, [], by omega, rfl, rfl, hown0, ⟨fun _ => Hst.out, fun _ => rfl⟩, by omega, hw2⟩
  case round =>
    clear hown0
    obtain ⟨k, N, A, q, xs, hk, rfl, rfl, hown, hN, hNb, hB⟩ := hrel
    have HN := Lib.hid hN
    clear hN
    by_cases hlt : k < hs.length
    · obtain ⟨ad, rfl, hC⟩ := strs_el hrd hlt
      have hC0 := hC wr (bw_to hw1 hB)
      have Hg := Lib.hid (trB_ok hn (Hin.out _ (List.getElem_mem hlt)))
      have HPk : Hid (∀ b (hb : b < hs.length), P k b ↔ timesB (trB n hs[k]) hs[b] ∉ S) := Lib.hid (fun b hb => HP.out k b hlt hb)
      obtain ⟨x, hx⟩ : ∃ x, x = hs[k] := ⟨_, rfl⟩
      rw [← hx] at hC0 Hg HPk
      have Htu := Lib.hid (fun W => turned_any n x (trB n x) W Hg.out)
      obtain ⟨z, hz⟩ : ∃ z, z = trB n x := ⟨_, rfl⟩
      rw [← hz] at Hg Htu HPk
      have Hnx : Hid (PairsOk P hs.length (k + 1) (k + 1 + 1) ↔ PairsOk P hs.length k hs.length) := Lib.hid (pairs_next hlt)
      clear hC hx hz
      go_wp2_with fail
      obtain ⟨wo, rfl⟩ : ∃ wo : World, wo = wr := ⟨_, rfl⟩
      go_loopw [6, 9] (fun o i wr => ∃ (j N : Nat) (A : Option Addr) (q : Nat) (xs : List Value), k + 1 ≤ j ∧ j ≤ hs.length ∧ i = .int .i64 j ∧ o = .slice A N q ∧ wr.ownsRow w1.heap.size 126 1 (.slice A N q) N xs ∧ (N = 0 ↔ PairsOk P hs.length k j) ∧ N ≤ k * 1000 + j ∧ Below w1.heap.size w1 wr) (fun _ i _ => hs.length - (intOf i).toNat)
      case atStart => exact ⟨k + 1, N, A, q, xs, by omega, by omega, by go_num, rfl, hown, HN.out, by omega, hB⟩
      case round =>
        clear hown HN hC0 hNb
        obtain ⟨j, N, A, q, xs, hkj, hj, rfl, rfl, hown, hN, hNb, hB⟩ := hrel
        have HN := Lib.hid hN
        have Hown := Lib.hid hown
        clear hN hown
        by_cases hlt2 : j < hs.length
        · obtain ⟨ad2, e2, hC⟩ := strs_el hrd hlt2
          injection e2 with e2
          subst e2
          have hBw := bw_to hw1 hB
          have hC0 : ∀ u : Aft wr, u.w.cell? (ad.add j) = some (.string hs[j]) := fun u => hC _ (bw_to hBw u.h)
          have Hy := Lib.hid (Hin.out _ (List.getElem_mem hlt2))
          have HPj := Lib.hid (HPk.out j hlt2)
          obtain ⟨y, hy⟩ : ∃ y, y = hs[j] := ⟨_, rfl⟩
          simp only [← hy] at hC0 Hy HPj
          have Htm := Lib.hid (fun W => times_any z y W (by rw [Hg.out.hb.1]; omega) (by rw [Hy.out.1.1]; omega) (row_hin Hg.out.hb.1 Hy.out.1))
          have Hrow := Lib.hid (times_in Hg.out.hb Hy.out.1)
          obtain ⟨p, hp⟩ : ∃ p, p = timesB z y := ⟨_, rfl⟩
          rw [← hp] at Hrow HPj
          have hps : p.size ≤ maxLen := by rw [Hrow.out.1]; unfold maxLen; omega
          have hlk : ∀ u : Aft wr, (Instr.lookup 197 (.map (some b)) (.string p) false).run Tryz.prog u.w = .ok (.bool (f p)) u.w := fun u => (Hm.out u.w (bw_to hB u.h)).look 197 Tryz.underlying197 p hps
          simp only [← hp] at Htm
          have hBr := Below.refl wr.heap.size wr
          have Hps := Lib.hid hps
          clear hC hy hp hps
          have hb : f p = true ∨ f p = false := by cases f p <;> simp
          have hjz : (j : Int) < (hs.length : Int) := by omega
          go_upto_region 9 with fail
          refine wp_region_aft (wb := wr) (by kernel_rfl) (by kernel_rfl) hBr ?_
          repeat (go_big_quiet_step ((first | (go_at_call 245; exact calls_aft fun w hw => Htu.out w) | (go_at_call 196; exact calls_aft fun w hw => Htm.out w))))
          refine wpQuiet_nil ?_
          rintro _ ⟨u3, rfl⟩
          have hB3 := u3.h
          generalize u3.w = w3 at hB3 ⊢
          have hB4 := bw_to hB hB3
          have hown3 := own_to Hown.out hB3
          clear hC0 hlk
          rcases hb with hb | hb
          · rw [hb]
            have HnP : Hid (¬ P k j) := Lib.hid (fun h => (HPj.out.1 h) ((Hf.out p).1 hb))
            have hz4 := hB4.size
            clear hb
            go_wp2_with (at_builtin; go_must (refine wpList_app_at _ rfl _ _ _ rfl w1.heap.size 126 _ 1 24 Tryz.underlying124 info_isl rfl (by omega) (hown3.alloc _) [.slice (some ⟨w3.heap.size, 0, none⟩) 2 2] rfl rfl rfl (by simp) (one_mem rfl) (by omega) (by omega) (by simp; omega) ?_); intro v8 w8 hown8 hb8 hg8 _)
            obtain ⟨A8, q8, e8, _⟩ := sl_of_own hown8
            subst e8
            exact ⟨⟨j + 1, N + 1, A8, q8, _, by omega, by omega, by go_num, rfl, hown8, ⟨fun h => absurd h (by omega), fun h => absurd h (pairs_no (by omega) HnP.out)⟩, by omega, (bw_al hB4 _).trans hb8⟩, by simp [intOf]; omega⟩
          · rw [hb]
            have HyP : Hid (P k j) := Lib.hid (HPj.out.2 (fun h => by rw [(Hf.out p).2 h] at hb; cases hb))
            clear hb
            go_wp2_with fail
            exact ⟨⟨j + 1, N, A, q, xs, by omega, by omega, by go_num, rfl, hown3, by rw [pairs_yes HyP.out]; exact HN.out, by omega, hB4⟩, by simp [intOf]; omega⟩
        · obtain rfl : j = hs.length := by omega
          go_wp2_with fail
          exact ⟨⟨k + 1, N, A, q, xs, by omega, by go_num, rfl, Hown.out, by rw [Hnx.out]; exact HN.out, by omega, hB⟩, by simp [intOf]; omega⟩
    · obtain rfl : k = hs.length := by omega
      have Hown := Lib.hid hown
      clear hown
      go_wp2_with fail
      go_ret
      exact ⟨A, N, q, rfl, by rw [← Hend.out]; exact HN.out, bw_to hw1 hB⟩
set_option maxRecDepth 10000 in
set_option maxHeartbeats 2000000 in
theorem headClashes_any (m : Mt) (v : Value) (k : Cl) (t : ByteArray) (n : Nat) (w : World) (hg : CGood m k n) (hv : Strs w v m.l) (ht : touchB t.data.toList = true) : Calls Tryz.prog 202 #[m.v v, k.v, .string t] w fun e w' =>
    ∃ A N q, e = .returned (.slice A N q) ∧ (N = 0 ↔ Clear n (prodL n (leadR n m) (leadR n m)) ((headsT m k t).take t.size)) ∧ Below w.heap.size w w' := by
  have hts := touch_size ht
  have Hh := Lib.hid (fun W hW => heads_any m v k t n W hg (hv.to hW) ht)
  have Hlf := Lib.hid (fun W V (hW : Below w.heap.size w W) (hV : Strs W V ((headsT m k t).take t.size)) => clashes_any m v V ((headsT m k t).take t.size) n W hg.m (hv.to hW) hV (fun x hx => headsT_inv hg.m t x (List.mem_of_mem_take hx)) (by simp; omega))
  rw [← headsT_n hg.m.st] at Hh
  have Hhl := Lib.hid (headsT_len m k t)
  obtain ⟨A, c, hv', _⟩ := hv
  subst hv'
  unfold Mt.v Cl.v at *
  clear hg ht
  go_enter Tryz.func202, Tryz.ntmps202
  go_wp2_with fail
  refine box2 (C := fun W => Code.wp _ _ _ _ W) ?_
  intro wb hw k1 k2 hB0
  have R1 := boxRule k1
  have R2 := boxRule k2
  clear k1 k2
  have hdr : Below wb.heap.size wb wb.drew := Below.drew (Below.refl _ _)
  have Hcut : Hid (∀ W A1 q1, W.ownsRow wb.heap.size 9 1 (.slice A1 (t.size + 1) q1) (t.size + 1) ((headsT m k t).map Value.string) → Strs W (.slice A1 t.size q1) ((headsT m k t).take t.size)) := Lib.hid fun W A1 q1 h => by
    have h2 := own_upto h (Nat.le_succ t.size)
    rw [← List.map_take] at h2
    have hl : ((headsT m k t).take t.size).length = t.size := by rw [List.length_take, Hhl.out]; omega
    have h3 := sl_of_own h2
    unfold Strs
    rw [hl]; exact h3
  go_region_held3 (fun W => Below wb.heap.size wb W) (first | exact Below.drew (by assumption) | exact bw_to (by assumption) hb')
    (first | (go_at_call 104; refine (Hh.out _ (bw_to hw (by assumption))).mono ?_; rintro e w1 ⟨A1, q1, rfl, hown, hb'⟩; (have hz1 : wb.heap.size ≤ w1.heap.size := Nat.le_trans (Below.size (by assumption : Below wb.heap.size wb _)) hb'.size); (have hown := own_base (base' := wb.heap.size) hown (Below.size (by assumption))); (have hq1 : t.size + 1 ≤ q1 := (sl_cap hown)); (have hq2 : (t.size : Int) ≤ (q1 : Int) := by omega); (have hq3 : (0 : Int) ≤ (t.size : Int) := by omega)) | (go_at_call 269; refine (Hlf.out _ _ (bw_to hw (by assumption)) (Hcut.out _ _ _ hown)).mono ?_; rintro e w' ⟨A2, N2, q2, rfl, hN, hb'⟩))
  all_goals
    have hBB : Below wb.heap.size wb w' := by assumption
    have HN := Lib.hid hN
    clear hown hN
    go_wp2_with fail
    go_ret
    exact ⟨A2, N2, q2, rfl, HN.out, bw_to hw hBB⟩
set_option maxRecDepth 10000 in
set_option maxHeartbeats 2000000 in
theorem trueByHeads_any (m : Mt) (v : Value) (k : Cl) (t : ByteArray) (n : Nat) (w : World) (hg : CGood m k n) (hv : Strs w v m.l) (ht : touchB t.data.toList = true) : Calls Tryz.prog 109 #[m.v v, k.v, .string t] w fun e w' => e = .returned (.bool (thB n m k t)) ∧ Below w.heap.size w w' := by
  have Hh := Lib.hid (fun W (hW : Below w.heap.size w W) => headClashes_any m v k t n W hg (hv.to hW) ht)
  have Hl := Lib.hid (fun W (hW : Below w.heap.size w W) => leadTrue_any m v n W hg.m (hv.to hW))
  have Hdef : Hid (thB n m k t = (decide (leadR n m).Nodup && @decide (Clear n (prodL n (leadR n m) (leadR n m)) ((headsT m k t).take t.size)) (Classical.propDecidable _))) := Lib.hid rfl
  obtain ⟨A, c, hv', _⟩ := hv
  subst hv'
  obtain ⟨b, hb⟩ : ∃ b, b = decide (leadR n m).Nodup := ⟨_, rfl⟩
  rw [← hb] at Hl Hdef
  unfold Mt.v Cl.v at *
  clear hg ht hb
  go_enter Tryz.func109, Tryz.ntmps109
  go_wp2_with fail
  refine box2 (C := fun W => Calls _ _ _ W _) ?_
  intro wb hw k1 k2 hB0
  have R1 := boxRule k1
  have R2 := boxRule k2
  clear k1 k2
  refine (Hl.out _ hw).mono ?_; rintro e w1 ⟨rfl, hb1⟩
  have hw1 := bw_to hw hb1
  cases b
  · go_wp2_with fail
    go_ret
    exact ⟨ret_bool (by rw [Hdef.out]; rfl), hw1⟩
  · go_wp2_with fail
    refine (Hh.out _ hw1).mono ?_; rintro e w2 ⟨A2, N2, q2, rfl, hN, hb2⟩
    have HN := Lib.hid hN
    clear hN
    go_wp2_with fail
    go_ret
    refine ⟨ret_bool ?_, bw_to hw1 hb2⟩
    rw [Hdef.out, Bool.true_and]
    have e1 : ((N2 : Int) == 0) = true ↔ N2 = 0 := by simp
    exact Bool.eq_iff_iff.2 (e1.trans (HN.out.trans (@decide_eq_true_iff _ (Classical.propDecidable _)).symm))
end Go.Proofs.YtjiiflpoiaaccaaGreat
