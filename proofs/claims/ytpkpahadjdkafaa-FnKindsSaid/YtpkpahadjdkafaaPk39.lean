/- The law Kinds, walked. -/
import Derived.Test.YtpkpahadjdkafaaPk35
import Derived.Test.YtpkpahadjdkafaaPk38
import Derived.BigQuiet
namespace Go.Proofs.Ytpkpahadjdkafaa
open Go Go.RowKit
set_option linter.unusedVariables false
set_option linter.unusedSimpArgs false
theorem kw3_no (m : Mt) : ∀ x ∈ (kw3 m).data.toList, x ≠ 32 := by
  unfold kw3; split <;> decide
theorem bytesAt_to {w w' : World} {V : Value} (h : BytesAt w w.heap.size V) (hb : Below w.heap.size w w') : BytesAt w' w'.heap.size V := (h.keep (fun p hp => hb.cell hp)).more hb.size
/-- A text with its last space behind P. -/
structure LastSp (P s : ByteArray) : Prop where
  lt : P.size < s.size
  pos : 3 ≤ P.size
  sp : ∀ h : P.size < s.size, s[P.size] = 32
  no : ∀ p (h : p < s.size), P.size < p → s[p] ≠ 32
  pre : s.extract 0 P.size = P
  le : s.size ≤ 100
  ge : 7 ≤ s.size
theorem lastSp_of (P d : ByteArray) (hd : ∀ x ∈ d.data.toList, x ≠ 32) (hp : 3 ≤ P.size) (hP : P.size ≤ 80) (hd1 : 3 ≤ d.size) (hd2 : d.size ≤ 10) : LastSp P (P ++ tSp ++ d) := by
  have hsz : (P ++ tSp ++ d).size = P.size + 1 + d.size := by rw [ByteArray.size_append, ByteArray.size_append]; rfl
  have hl : (P ++ tSp ++ d).data.toList = P.data.toList ++ [32] ++ d.data.toList := by simp [ByteArray.data_append, tSp]
  have hg : ∀ p (h : p < (P ++ tSp ++ d).size), (P ++ tSp ++ d)[p] = (P.data.toList ++ [32] ++ d.data.toList)[p]'(by rw [← hl, bytes_len]; exact h) := fun p h => by
    rw [← bytes_get _ p h]
    simp only [hl]
  refine ⟨by omega, hp, fun h => ?_, fun p h hpp => ?_, ?_, by omega, by omega⟩
  · rw [hg _ h, List.getElem_append_left (by simp [bytes_len]), List.getElem_append_right (by simp [bytes_len])]
    simp [bytes_len]
  · rw [hg _ h, List.getElem_append_right (by simp [bytes_len]; omega)]
    exact hd _ (List.getElem_mem _)
  · apply ByteArray.ext
    apply Array.toList_inj.1
    have e : ((P ++ tSp ++ d).extract 0 P.size).data.toList = (P ++ tSp ++ d).data.toList.take P.size := by simp [ByteArray.data_extract, bytes_len]; try (rw [List.take_of_length_le (by rw [bytes_len]; exact Nat.le_refl _)])
    rw [e, hl, List.append_assoc, List.take_left' (by rw [bytes_len])]
theorem kind_last {m : Mt} {n K : Nat} (m' : Mt) : LastSp (kw0 m n K ++ tSp ++ kw1 m n ++ tSp ++ kw2 m n) (kindT (kw0 m n K) (kw1 m n) (kw2 m n) (kw3 m')) := by
  unfold kindT
  have h0 : 3 ≤ (kw0 m n K).size := by
    unfold kw0; split
    · split <;> decide
    · decide
  have h1 := kw0_size m n K
  have h2 := kw1_size m n
  have h3 : (kw2 m n).size ≤ 9 := by unfold kw2; split <;> decide
  have h4 : (tSp).size = 1 := rfl
  refine lastSp_of _ _ (kw3_no m') ?_ ?_ ?_ ?_
  · simp only [ByteArray.size_append]; omega
  · simp only [ByteArray.size_append]; omega
  · unfold kw3; split <;> decide
  · unfold kw3; split <;> decide
theorem bigK_any (A B : Option Addr) (n c k d : Nat) (w : World) (hn : n ≤ 9223372036854775807) (hk : k ≤ 9223372036854775807) : Calls Try.prog 27 #[.slice A n c, .slice B k d] w fun e w' => ∃ b, e = .returned (.bool b) ∧ w = w' := by
  go_enter Try.func27, Try.ntmps27
  by_cases h : n ≤ 1048576
  · have h1 : ¬ (1048576 : Int) < n := by omega
    have h2 : IntKind.i64.wrap (1048576 - (n : Int)) = 1048576 - (n : Int) := IntWalk.i64_in _ (by omega)
    by_cases h3 : 1048576 - (n : Int) < k
    · go_wp2_with fail
      go_ret
      simp [h3]
    · go_wp2_with fail
      go_ret
      simp [h3]
  · have h1 : (1048576 : Int) < n := by omega
    go_wp2_with fail
    go_ret
    first | exact ⟨_, rfl, rfl⟩ | exact ⟨_, rfl⟩ | exact rfl
theorem small_of {m : Mt} (hz : m.name.size ≤ 20) (hl : m.l.length ≤ 61) (hs : ∀ s ∈ m.l, s.size ≤ 20) : MtSmall m ∧ m.name.size ≤ maxLen ∧ Fits m.l :=
  ⟨⟨by omega, by omega, fun s h => by have := hs s h; omega⟩, by unfold maxLen; omega, fun s h => by have := hs s h; unfold maxLen; omega⟩
theorem ints_bells {w : World} {base n : Nat} {v : Value} {l : List Nat} (h : w.ownsRow base 3 1 v n (bellsV l)) (hn : n = l.length) : Ints w v (l.map fun i : Nat => (i : Int) + 1) := by
  subst hn
  have h1 := sl_of_own h
  unfold Ints
  rw [List.length_map, List.map_map]
  exact h1
theorem still_facts (d : Mt) (vd : Value) (hs : MtSmall d) : ∃ (zs : List Int) (f : Bool) (k : Int),
    (∀ W, MethAt W d vd → Calls Try.prog 31 #[d.v vd] W fun e w' => ∃ A q, e = .returned (.tuple #[.slice A zs.length q, .bool f]) ∧ Ints w' (.slice A zs.length q) zs ∧ Below W.heap.size W w') ∧
    (∀ W, MethAt W d vd → Calls Try.prog 32 #[d.v vd] W fun e w' => ∃ A q, e = .returned (.tuple #[.slice A zs.length q, .bool f]) ∧ Ints w' (.slice A zs.length q) zs ∧ Below W.heap.size W w') ∧
    (∀ W, MethAt W d vd → Calls Try.prog 33 #[d.v vd] W fun e w' => e = .returned (.tuple #[.int .i64 k, .bool f]) ∧ Below W.heap.size W w') ∧
    (∀ W, MethAt W d vd → Calls Try.prog 34 #[d.v vd] W fun e w' => e = .returned (.tuple #[.int .i64 k, .bool f]) ∧ Below W.heap.size W w') := by
  by_cases hd : methB d = true
  · obtain ⟨n, K, hK⟩ := mk_of hd
    refine ⟨(stillL n (scanB (roundsB n) d.l)).map fun i : Nat => (i : Int) + 1, true, K, fun W h => ?_, fun W h => ?_, fun W h => implLeadsIn_yes d vd n K W hK h hs, fun W h => specLeadsIn_yes d vd n K W hK h hs⟩
    · refine (implStillBells_yes d vd n W hd hK.g h hs).mono ?_
      rintro e w' ⟨A, q, rfl, ho, hb⟩
      exact ⟨A, q, by rw [List.length_map], by rw [List.length_map]; exact ints_bells ho rfl, hb⟩
    · refine (specStillBells_yes d vd n W hd hK.g h hs).mono ?_
      rintro e w' ⟨A, q, rfl, ho, hb⟩
      exact ⟨A, q, by rw [List.length_map], by rw [List.length_map]; exact ints_bells ho rfl, hb⟩
  · have hd : methB d = false := by simpa using hd
    have hnil : ∀ W : World, Ints W (.slice none 0 0) [] := fun W => sl_of_own (World.ownsRow_nil W 0 3 1)
    refine ⟨[], false, 0, fun W h => ?_, fun W h => ?_, fun W h => implLeadsIn_no d vd W hd h hs, fun W h => specLeadsIn_no d vd W hd h hs⟩
    · refine (implStillBells_no d vd W hd h hs).mono ?_
      rintro e w' ⟨rfl, hb⟩
      exact ⟨none, 0, rfl, hnil w', hb⟩
    · refine (specStillBells_no d vd W hd h hs).mono ?_
      rintro e w' ⟨rfl, hb⟩
      exact ⟨none, 0, rfl, hnil w', hb⟩
set_option maxRecDepth 100000 in
set_option maxHeartbeats 8000000 in
theorem lawKinds_any (V : Value) (zV : Nat) (U : Value) (zU : Nat) (w : World) (hV : BytesAt w w.heap.size V) (hU : BytesAt w w.heap.size U) : Calls Try.prog 6 #[V, U] w fun e w' => e = .returned (.bool true) ∧ Below w.heap.size w w' := by
  have HV := Lib.hid hV
  have HU := Lib.hid hU
  obtain ⟨A1, n1, c1, zs1, rfl, _, _, hm1, _⟩ := hV
  obtain ⟨A2, n2, c2, zs2, rfl, _, _, hm2, _⟩ := hU
  unfold maxLen at hm1 hm2
  go_enter Try.func6, Try.ntmps6
  go_wp2_with fail
  refine (bigK_any A1 A2 n1 c1 n2 c2 w (by omega) (by omega)).mono ?_; rintro e w0 ⟨bb, rfl, rfl⟩
  cases bb
  rotate_left
  · go_wp2_with fail
    go_ret
    exact ⟨rfl, Below.refl _ _⟩
  go_wp2_with fail
  refine (drawKindOf_any _ w HV.out).mono ?_; rintro e w1 ⟨m, v, rfl, hz, hl, hs, hst, ho, hb1⟩
  obtain ⟨hsm, hz2, hfit⟩ := small_of hz hl hs
  have Hat := Lib.hid (show MethAt w1 m v from ⟨strs_of_own ho, hz2, hfit⟩)
  have Hn := Lib.hid (nilok_own ho)
  have Hs := Lib.hid hsm
  have W1 := Lib.hid hb1
  obtain ⟨A, c, ev, _⟩ := sl_of_own ho
  subst ev
  have hs0 := Lib.hid hs
  clear hs ho hb1 hz2 hfit hsm
  by_cases hg : methB m = true
  · obtain ⟨n, K, hK⟩ := mk_of hg
    obtain ⟨s, hs⟩ : ∃ s, s = kindT (kw0 m n K) (kw1 m n) (kw2 m n) (kw3 m) := ⟨_, rfl⟩
    obtain ⟨s2, hs2⟩ : ∃ s, s = kindT (kw0 m n K) (kw1 m n) (kw2 m n) (kw3 (revM m)) := ⟨_, rfl⟩
    obtain ⟨P, hP⟩ : ∃ P, P = kw0 m n K ++ tSp ++ kw1 m n ++ tSp ++ kw2 m n := ⟨_, rfl⟩
    have L1 : LastSp P s := by rw [hP, hs]; exact kind_last m
    have L2 : LastSp P s2 := by rw [hP, hs2]; exact kind_last (revM m)
    have Him := Lib.hid (fun W (hW : Below w1.heap.size w1 W) => implKindOf_yes m _ n K W hK (Hat.out.to hW) Hs.out)
    have Hsp := Lib.hid (fun W (hW : Below w1.heap.size w1 W) => specKindOf_yes m _ n K W hK (Hat.out.to hW) Hs.out)
    have Htu := Lib.hid (fun W (hW : Below w1.heap.size w1 W) => implTurnMethod_any m _ W (Hat.out.to hW) Hn.out Hs.out)
    have hKr := rev_mk hK
    have Hir := Lib.hid (fun W r (hr : MethAt W (revM m) r) (hsr : MtSmall (revM m)) => implKindOf_yes (revM m) r n K W hKr hr hsr)
    rw [rev_kw0 hK, rev_kw1 hK, rev_kw2 hK, ← hs2] at Hir
    rw [← hs] at Him Hsp
    rw [hg, rvM_yes hg] at Htu
    have Hsr : Hid (MtSmall (revM m) ∧ (revM m).name.size ≤ maxLen ∧ Fits (revM m).l) := Lib.hid (small_of (m := revM m) hz (by show m.l.reverse.length ≤ 61; rw [List.length_reverse]; exact hl) (fun s h => hs0.out s (List.mem_reverse.1 h)))
    clear hs hs2 hP hKr hK
    unfold Mt.v revM at *
    go_wp2_with fail
    refine box1 (C := fun W => Calls _ _ _ W _) ?_
    intro wa hwa k1 hB0
    have RB := Lib.hid (boxRule k1)
    clear k1
    refine (Him.out wa hwa).mono ?_; rintro e w3 ⟨rfl, hB3⟩
    have Wa := Lib.hid (bw_to W1.out hwa)
    have R3 := fun o => RB.out w3 o hB3
    go_wp2_with fail
    refine (Hsp.out w3 (bw_to hwa hB3)).mono ?_; rintro e w4 ⟨rfl, hb4⟩
    have hB4 := bw_to hB3 hb4
    have R4 := fun o => RB.out w4 o hB4
    clear R3
    go_wp2_with fail
    refine (Htu.out w4 (bw_to hwa hB4)).mono ?_; rintro e w5 ⟨r, rfl, ho5, hb5⟩
    have hB5 := bw_to hB4 hb5
    obtain ⟨A5, c5, ev5, _⟩ := sl_of_own ho5
    subst ev5
    have Hat5 := Lib.hid (show MethAt w5 ⟨m.name, m.stage, m.l.reverse⟩ _ from ⟨strs_of_own ho5, Hsr.out.2⟩)
    rw [List.length_reverse] at Hat5
    clear ho5 hb5 R4
    go_wp2_with fail
    refine box1 (C := fun W => Calls _ _ _ W _) ?_
    intro wb hwb k2 hB0'
    have hBb := bw_to hB5 hwb
    clear k2
    refine (Hir.out wb (.slice A5 m.l.length c5) (Hat5.out.to hwb) Hsr.out.1).mono ?_; rintro e w6 ⟨rfl, hb6⟩
    have hB6 := bw_to hBb hb6
    have W6 := Lib.hid (bw_to Wa.out hB6)
    have g1 := L1.ge
    have g2 := L2.ge
    have l1 := L1.le
    have l2 := L2.le
    have n1 : ¬ (s.size : Int) < 7 := by omega
    have n2 : ¬ (s2.size : Int) < 7 := by omega
    have e1 : IntKind.i64.wrap ((s.size : Int) - 1) = ((s.size - 1 : Nat) : Int) := (IntWalk.i64_in _ (by omega)).trans (by omega)
    have e2 : IntKind.i64.wrap ((s2.size : Int) - 1) = ((s2.size - 1 : Nat) : Int) := (IntWalk.i64_in _ (by omega)).trans (by omega)
    clear Him Hsp Htu Hir
    go_wp2_with fail
    obtain ⟨w7, hw7⟩ : ∃ W, W = w6 := ⟨_, rfl⟩
    rw [← hw7] at W6 ⊢
    clear hw7 hb6 hB6 hBb hwb hB5 hB4 hb4 hB3 hwa Hat5 Hat Wa W1 RB Hsr Hs Hn hs0 hB0 hB0'
    have hP3 := L1.pos
    have t1 := L1.lt
    have t2 := L2.lt
    go_loop [14] (fun i => ∃ p : Nat, P.size ≤ p ∧ p < s.size ∧ i = .int .i64 p) (fun i => (intOf i).toNat)
    case atStart => exact ⟨s.size - 1, by omega, by omega, by first | rfl | (congr 1; omega)⟩
    case round =>
      obtain ⟨p, hp1, hp2, rfl⟩ := hrel
      have hp0 : (0 : Int) < p := by omega
      have hp0n : 0 < p := by omega
      have hp4 : (p : Int).toNat = p := by omega
      have hp5 : (p : Int) < s.size := by omega
      by_cases hpe : p = P.size
      · subst hpe
        have hc : s[P.size] = 32 := L1.sp hp2
        have hc2 : ((s[P.size]'hp2).toNat : Int) = 32 := by rw [hc]; rfl
        go_wp2_with fail
        go_loop [15] (fun i => ∃ p : Nat, P.size ≤ p ∧ p < s2.size ∧ i = .int .i64 p) (fun i => (intOf i).toNat)
        case atStart => exact ⟨s2.size - 1, by omega, by omega, by first | rfl | (congr 1; omega)⟩
        case round =>
          obtain ⟨p, hq1, hq2, rfl⟩ := hrel
          have hq0 : (0 : Int) < p := by omega
          have hq0n : 0 < p := by omega
          have hq4 : (p : Int).toNat = p := by omega
          have hq5 : (p : Int) < s2.size := by omega
          by_cases hqe : p = P.size
          · subst hqe
            have hd : s2[P.size] = 32 := L2.sp hq2
            have hd2 : ((s2[P.size]'hq2).toNat : Int) = 32 := by rw [hd]; rfl
            have x1 := L1.pre
            have x2 := L2.pre
            have x3 : s.extract 0 P.size = s2.extract 0 P.size := x1.trans x2.symm
            have x4 : P.size ≤ s.size := by omega
            have x5 : P.size ≤ s2.size := by omega
            go_wp2_with fail
            have hB7 : Below w7.heap.size w7 w7 := Below.refl _ _
            go_region_held3 (fun W => Below w7.heap.size w7 W) (exact Below.drew (by assumption)) (fail)
            go_wp2_with fail
            have W8 := Lib.hid (bw_to W6.out (by assumption : Below w7.heap.size w7 _))
            refine (drawStillBells_any _ _ (bytesAt_to HU.out W8.out)).mono ?_; rintro e wd1 ⟨d, vd, rfl, hdz, hdl, hds, hdt, hdo, hdb⟩
            obtain ⟨dsm, dz2, dfit⟩ := small_of hdz hdl hds
            have Dat := Lib.hid (show MethAt wd1 d vd from ⟨strs_of_own hdo, dz2, dfit⟩)
            obtain ⟨zs, f, kk, Si, Ss, Li, Ls⟩ := still_facts d vd dsm
            have Si := Lib.hid Si
            have Ss := Lib.hid Ss
            have Li := Lib.hid Li
            have Ls := Lib.hid Ls
            have D1 := Lib.hid (bw_to W8.out hdb)
            obtain ⟨Ad, cd, evd, _⟩ := sl_of_own hdo
            subst evd
            clear hds hdo hdb dz2 dfit dsm hdz
            unfold Mt.v at *
            go_wp2_with fail
            refine box1 (C := fun W => Calls _ _ _ W _) ?_
            intro wc hwc kc hBc
            have RC := Lib.hid (boxRule kc)
            clear kc
            refine (Si.out wc (Dat.out.to hwc)).mono ?_; rintro e wd2 ⟨Aa, qa, rfl, hia, hba⟩
            have Hia := Lib.hid hia
            have C2 := fun o => RC.out wd2 o hba
            clear hia
            go_wp2_with fail
            refine (Ss.out wd2 (Dat.out.to (bw_to hwc hba))).mono ?_; rintro e wd3 ⟨Ab, qb, rfl, hib, hbb⟩
            have hB33 := bw_to hba hbb
            have Hia3 := Lib.hid (Hia.out.to hbb)
            have Hib := Lib.hid hib
            have C3 := fun o => RC.out wd3 o hB33
            clear hib C2
            go_wp2_with fail
            refine (Li.out wd3 (Dat.out.to (bw_to hwc hB33))).mono ?_; rintro e wd4 ⟨rfl, hbc⟩
            have hB44 := bw_to hB33 hbc
            have C4 := fun o => RC.out wd4 o hB44
            clear C3
            go_wp2_with fail
            refine (Ls.out wd4 (Dat.out.to (bw_to hwc hB44))).mono ?_; rintro e wd5 ⟨rfl, hbd⟩
            have hB55 := bw_to hB44 hbd
            have Hb5 := Lib.hid (bw_to hbc hbd)
            clear C4 Si Ss Li Ls
            go_wp2_with fail
            refine (sameInts_same _ _ zs _ (Hia3.out.to Hb5.out) (Hib.out.to Hb5.out)).mono ?_; rintro e wd6 ⟨rfl, hbe⟩
            go_wp2_with fail
            go_ret
            exact ⟨rfl, bw_to (bw_to (bw_to D1.out hwc) hB55) hbe⟩
          · have hd : s2[p] ≠ 32 := L2.no p hq2 (by omega)
            have hd2 : ¬ ((s2[p]'hq2).toNat : Int) = 32 := fun h => hd (UInt8.toNat_inj.1 (by show _ = 32; omega))
            have e4 : IntKind.i64.wrap ((p : Int) - 1) = ((p - 1 : Nat) : Int) := (IntWalk.i64_in _ (by omega)).trans (by omega)
            go_wp2_with fail
            exact ⟨⟨p - 1, by omega, by omega, by first | rfl | (congr 1; omega)⟩, by simp [intOf]; omega⟩
      · have hc : s[p] ≠ 32 := L1.no p hp2 (by omega)
        have hc2 : ¬ ((s[p]'hp2).toNat : Int) = 32 := fun h => hc (UInt8.toNat_inj.1 (by show _ = 32; omega))
        have e3 : IntKind.i64.wrap ((p : Int) - 1) = ((p - 1 : Nat) : Int) := (IntWalk.i64_in _ (by omega)).trans (by omega)
        go_wp2_with fail
        exact ⟨⟨p - 1, by omega, by omega, by first | rfl | (congr 1; omega)⟩, by simp [intOf]; omega⟩
  · have hg : methB m = false := by simpa using hg
    have Him := Lib.hid (fun W (hW : Below w1.heap.size w1 W) => implKindOf_no m _ W hg (Hat.out.to hW) Hs.out)
    have Hsp := Lib.hid (fun W (hW : Below w1.heap.size w1 W) => specKindOf_no m _ W hg (Hat.out.to hW) Hs.out)
    unfold Mt.v at *
    clear hg
    go_wp2_with fail
    refine box1 (C := fun W => Calls _ _ _ W _) ?_
    intro wa hwa k1 hB0
    have RB := Lib.hid (boxRule k1)
    clear k1
    refine (Him.out wa hwa).mono ?_; rintro e w3 ⟨rfl, hB3⟩
    have Wa := Lib.hid (bw_to W1.out hwa)
    have R3 := fun o => RB.out w3 o hB3
    go_wp2_with fail
    refine (Hsp.out w3 (bw_to hwa hB3)).mono ?_; rintro e w7 ⟨rfl, hb4⟩
    have hB4 := bw_to hB3 hb4
    have W6 := Lib.hid (bw_to Wa.out hB4)
    clear R3 Him Hsp
    go_wp2_with fail
    refine (drawStillBells_any _ w7 (bytesAt_to HU.out W6.out)).mono ?_; rintro e wd1 ⟨d, vd, rfl, hdz, hdl, hds, hdt, hdo, hdb⟩
    obtain ⟨dsm, dz2, dfit⟩ := small_of hdz hdl hds
    have Dat := Lib.hid (show MethAt wd1 d vd from ⟨strs_of_own hdo, dz2, dfit⟩)
    obtain ⟨zs, f, kk, Si, Ss, Li, Ls⟩ := still_facts d vd dsm
    have Si := Lib.hid Si
    have Ss := Lib.hid Ss
    have Li := Lib.hid Li
    have Ls := Lib.hid Ls
    have D1 := Lib.hid (bw_to W6.out hdb)
    obtain ⟨Ad, cd, evd, _⟩ := sl_of_own hdo
    subst evd
    clear hds hdo hdb dz2 dfit dsm hdz
    unfold Mt.v at *
    go_wp2_with fail
    refine box1 (C := fun W => Calls _ _ _ W _) ?_
    intro wc hwc kc hBc
    have RC := Lib.hid (boxRule kc)
    clear kc
    refine (Si.out wc (Dat.out.to hwc)).mono ?_; rintro e wd2 ⟨Aa, qa, rfl, hia, hba⟩
    have Hia := Lib.hid hia
    have C2 := fun o => RC.out wd2 o hba
    clear hia
    go_wp2_with fail
    refine (Ss.out wd2 (Dat.out.to (bw_to hwc hba))).mono ?_; rintro e wd3 ⟨Ab, qb, rfl, hib, hbb⟩
    have hB33 := bw_to hba hbb
    have Hia3 := Lib.hid (Hia.out.to hbb)
    have Hib := Lib.hid hib
    have C3 := fun o => RC.out wd3 o hB33
    clear hib C2
    go_wp2_with fail
    refine (Li.out wd3 (Dat.out.to (bw_to hwc hB33))).mono ?_; rintro e wd4 ⟨rfl, hbc⟩
    have hB44 := bw_to hB33 hbc
    have C4 := fun o => RC.out wd4 o hB44
    clear C3
    go_wp2_with fail
    refine (Ls.out wd4 (Dat.out.to (bw_to hwc hB44))).mono ?_; rintro e wd5 ⟨rfl, hbd⟩
    have hB55 := bw_to hB44 hbd
    have Hb5 := Lib.hid (bw_to hbc hbd)
    clear C4 Si Ss Li Ls
    go_wp2_with fail
    refine (sameInts_same _ _ zs _ (Hia3.out.to Hb5.out) (Hib.out.to Hb5.out)).mono ?_; rintro e wd6 ⟨rfl, hbe⟩
    go_wp2_with fail
    go_ret
    exact ⟨rfl, bw_to (bw_to (bw_to D1.out hwc) hB55) hbe⟩

end Go.Proofs.Ytpkpahadjdkafaa
