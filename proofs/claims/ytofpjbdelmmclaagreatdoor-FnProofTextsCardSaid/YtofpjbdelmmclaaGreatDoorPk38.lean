/- Contract: the making of a proof, the reference's. -/
import Derived.Test.YtofpjbdelmmclaaGreatDoorPk25
namespace Go.Proofs.YtofpjbdelmmclaaGreatDoor
open Go Go.RowKit
set_option linter.unusedVariables false
set_option linter.unusedSimpArgs false

theorem proofAt_no {W : World} {base : Nat} {m : Mt} {k : Cl} {t : ByteArray} (h : proofB m k t = false) : ProofAt W base m k t (.slice none 0 0) (.slice none 0 0) := by
  unfold ProofAt; rw [h]; exact ⟨rfl, rfl⟩
theorem proofAt_yes {W : World} {base : Nat} {m : Mt} {k : Cl} {t : ByteArray} {hv lv : Value} (h : proofB m k t = true) (h1 : W.ownsRow base 9 1 hv (t.size + 1) ((headsT m k t).map Value.string)) (h2 : W.ownsRow base 76 3 lv (rowsT m k t).length ((sortB (rowsT m k t)).flatMap (encL m.l.length (rowsT m k t)))) : ProofAt W base m k t hv lv := by
  unfold ProofAt; rw [h]; exact ⟨h1, h2⟩
set_option maxRecDepth 100000 in
set_option maxHeartbeats 8000000 in
theorem specMakeProof_any (m : Mt) (v : Value) (k : Cl) (t : ByteArray) (w : World) (h : MethAt w m v) (hs : MtSmall m) (hk : ClSmall k) (ht : t.size ≤ 1048576) : Calls Tryz.prog 76 #[m.v v, k.v, .string t] w fun e w' =>
    ∃ hv lv, e = .returned (.tuple #[.agg #[hv, lv], .bool (proofB m k t)]) ∧ ProofAt w' w.heap.size m k t hv lv ∧ Below w.heap.size w w' := by
  have Hask := Lib.hid (fun W (hW : Below w.heap.size w W) => l20Asked_any m v k t W (h.to hW) hs hk (Nat.le_trans ht (by unfold maxLen; omega)))
  have hsm := hs.2.1
  have Hno := Lib.hid (fun (W : World) (base : Nat) (hp : proofB m k t = false) => proofAt_no (W := W) (base := base) hp)
  have hmul : t.size * m.l.length ≤ 1048576 * 1048576 := Nat.mul_le_mul ht hsm
  obtain ⟨K, hK⟩ : ∃ K, K = t.size * m.l.length := ⟨_, rfl⟩
  have HK := Lib.hid hK
  have hK2 : (t.size : Int) * (m.l.length : Int) = (K : Int) := by rw [hK]; simp
  have hKK : IntKind.i64.wrap ((t.size : Int) * (m.l.length : Int)) = (K : Int) := by rw [hK2]; exact IntWalk.i64_in _ ⟨by omega, by omega⟩
  have hKb : K ≤ 1048576 * 1048576 := by omega
  cases hask : askT m k t
  · have hpb : proofB m k t = false := by unfold proofB okT; rw [hask]; rfl
    have Hpb := Lib.hid hpb
    rw [hask] at Hask
    obtain ⟨A, c, hv⟩ := h.form
    subst hv
    obtain ⟨pb, hp⟩ : ∃ p, p = proofB m k t := ⟨_, rfl⟩
    rw [← hp] at hpb ⊢
    subst hpb
    unfold Mt.v Cl.v at *
    clear h hs hk ht hask hmul hK hp
    go_enter Tryz.func76, Tryz.ntmps76
    go_wp2_with fail
    refine box3 (C := fun W => Calls _ _ _ W _) ?_
    intro wb hw k1 k2 k3 hB0
    have R1 := boxRule k1
    have R2 := boxRule k2
    have R3 := boxRule k3
    have F3 := fun (j : Nat) w' hb => frozen_of_heap k3 j (w' := w') hb
    have hz := blk_lt k3
    clear k1 k2 k3
    refine (Hask.out _ hw).mono ?_; rintro e w1 ⟨rfl, hb1⟩
    have c0 := R3 w1 0 hb1
    have c1 := R3 w1 1 hb1
    have f0 := F3 0 w1 hb1
    have f1 := F3 1 w1 hb1
    clear R3 F3
    go_wp2_with fail
    refine bodyPost_ret (v := .tuple #[.agg #[.slice none 0 0, .slice none 0 0], .bool false]) ?hr rfl ⟨_, _, rfl, Hno.out _ _ Hpb.out, ?hb⟩
    case hb => exact grow_set (grow_set (bw_to hw hb1) (by omega) _) (by omega) _
    case hr => simp [results, go_sem, c0, c1]
  · have hask' := hask
    unfold askT at hask'
    rw [Bool.and_eq_true] at hask'
    obtain ⟨n, hg⟩ := cgood_of hask'.1
    have hts := touch_size hask'.2
    have hml := hg.m.len
    have hst := hg.m.st
    have hn := hg.m.hi
    have Hok : Hid (okT m k t = decide (K ≤ 800)) := Lib.hid (by unfold okT; rw [hask, Bool.true_and, hK])
    by_cases hbig : K ≤ 800
    case neg =>
      have hpb : proofB m k t = false := by unfold proofB; rw [Hok.out, decide_eq_false hbig]; rfl
      have Hpb := Lib.hid hpb
      rw [hask] at Hask
      have hd : decide ((800 : Int) < (K : Int)) = true := by simp; omega
      obtain ⟨A, c, hv⟩ := h.form
      subst hv
      obtain ⟨pb, hp⟩ : ∃ p, p = proofB m k t := ⟨_, rfl⟩
      rw [← hp] at hpb ⊢
      subst hpb
      unfold Mt.v Cl.v at *
      clear h hs hk ht hask hmul hK hp hask' hg hst
      go_enter Tryz.func76, Tryz.ntmps76
      go_wp2_with fail
      refine box3 (C := fun W => Calls _ _ _ W _) ?_
      intro wb hw k1 k2 k3 hB0
      have R1 := boxRule k1
      have R2 := boxRule k2
      have R3 := boxRule k3
      have F3 := fun (j : Nat) w' hb => frozen_of_heap k3 j (w' := w') hb
      have hz := blk_lt k3
      clear k1 k2 k3
      refine (Hask.out _ hw).mono ?_; rintro e w1 ⟨rfl, hb1⟩
      have r1 := fun i => R1 w1 i hb1
      have c0 := R3 w1 0 hb1
      have c1 := R3 w1 1 hb1
      have f0 := F3 0 w1 hb1
      have f1 := F3 1 w1 hb1
      clear R3 F3
      go_wp2_with fail
      refine bodyPost_ret (v := .tuple #[.agg #[.slice none 0 0, .slice none 0 0], .bool false]) ?hr rfl ⟨_, _, rfl, Hno.out _ _ Hpb.out, ?hb⟩
      case hb => exact grow_set (grow_set (bw_to hw hb1) (by omega) _) (by omega) _
      case hr => simp [results, go_sem, c0, c1]
    have hd : decide ((800 : Int) < (K : Int)) = false := by simp; omega
    have hok : okT m k t = true := by rw [Hok.out, decide_eq_true hbig]
    have Hh := Lib.hid (fun W (hW : Below w.heap.size w W) => l20Heads_any m v k t n W hg hask'.1 (h.to hW) hs hk hask'.2)
    rw [← headsT_n hg.m.st] at Hh
    have HhI := Lib.hid (fun x (hx : x ∈ (headsT m k t).take t.size) => headsT_in (k := k) hg.m t x (List.mem_of_mem_take hx))
    have Hlf := Lib.hid (fun W (hW : Below w.heap.size w W) r hr => l4Lead_any r v m.l n W hg.m.hi hr (h.1.to hW) (by have := hg.m.len; omega) hg.m.ok)
    have Hhl := Lib.hid (headsT_len m k t)
    have Hlast := Lib.hid (headsT_last m k t)
    have HRp := Lib.hid (rowsT_perm (k := k) hg.m t)
    have HRl : Hid ((rowsT m k t).length = K) := Lib.hid (by rw [rowsT_len, hK])
    have HRd : Hid (rowsT m k t = rowsB m.l ((headsT m k t).take t.size)) := Lib.hid rfl
    have Hyes := Lib.hid (fun (W : World) (hv lv : Value) (hp : proofB m k t = true) h1 h2 => proofAt_yes (W := W) (base := w.heap.size) (hv := hv) (lv := lv) hp h1 h2)
    have HP : Hid (proofB m k t = (decide (rowsT m k t).Nodup && decide (endT m k t = roundsB n))) := Lib.hid (by unfold proofB; rw [hok, Bool.true_and, hst]; rfl)
    rw [hask] at Hask
    have hs1 := hs
    have hv0 := Lib.hid h.1
    obtain ⟨A, c, hv⟩ := h.form
    subst hv
    obtain ⟨R, hR⟩ : ∃ R, R = rowsT m k t := ⟨_, rfl⟩
    simp only [← hR] at HRp HRl HRd Hyes HP
    obtain ⟨hs', hhs⟩ : ∃ x, x = (headsT m k t).take t.size := ⟨_, rfl⟩
    simp only [← hhs] at HhI HRd
    have Hhs := Lib.hid hhs
    obtain ⟨E, hE⟩ : ∃ x, x = endT m k t := ⟨_, rfl⟩
    simp only [← hE] at Hlast HP
    obtain ⟨pb, hp⟩ : ∃ p, p = proofB m k t := ⟨_, rfl⟩
    simp only [← hp] at HP Hno Hyes ⊢
    unfold Mt.v Cl.v at *
    rw [hst] at Hask Hh ⊢
    clear h hs hk ht hask hmul hK hask' hg hR hhs hok Hok hE hp hs1
    go_enter Tryz.func76, Tryz.ntmps76
    go_wp2_with fail
    refine box3 (C := fun W => Calls _ _ _ W _) ?_
    intro wb hw k1 k2 k3 hB0
    have R1 := boxRule k1
    have R2 := boxRule k2
    have R3 := boxRule k3
    have F3 := fun (j : Nat) w' hb => frozen_of_heap k3 j (w' := w') hb
    have hz := blk_lt k3
    clear k1 k2 k3
    refine (Hask.out _ hw).mono ?_; rintro e w1 ⟨rfl, hb1⟩
    have r1 := fun i => R1 w1 i hb1
    go_wp2_with fail
    refine (Hh.out _ (bw_to hw hb1)).mono ?_; rintro e w2 ⟨A4, q4, rfl, hown4, hb2⟩
    have hB2 := bw_to hb1 hb2
    have hq4 := sl_cap hown4
    have hz2 : w.heap.size + 2 < w1.heap.size := by have := hb1.size; omega
    have r2 := fun W i (hW : Below w2.heap.size w2 W) => R1 W i (bw_to hB2 hW)
    have r2a := r2 _ 1 (bw_al (Below.refl w2.heap.size w2) (.cells #[.slice A4 (t.size + 1) q4, .slice none 0 0] 27))
    have Hown4 := Lib.hid hown4
    clear r1 hown4
    go_wp2_with fail
    refine box1 (C := fun W => Calls _ _ _ W _) ?_
    intro wa hwa kp hBa0
    have Hp0 := Lib.hid (own_of_heap (base := w2.heap.size) (n := 1) (size := 2) kp (Nat.le_refl _) (by unfold maxLen; omega) rfl)
    have hGa : w2.heap.size < wa.heap.size := blk_lt kp
    refine (l6Seen_any n _ hn).mono ?_; rintro e w3 ⟨rfl, hsb, hb3⟩
    obtain ⟨i0, hi0, hz0, hs0, hb0⟩ := info_parts info_int2
    have hfn := fact_le hn
    have hB3 := bw_to hB2 (bw_to hwa hb3)
    have HSB := Lib.hid hsb
    have hSl : wa.heap.size < w3.heap.size := hsb.lt.2
    have hq5 : (t.size : Int) ≤ (q4 : Int) := by omega
    have P0 := Lib.hid (fun W (hW : Below wa.heap.size wa W) => (own_to Hp0.out hW).cellAt 0 (by omega))
    clear r2a kp hsb
    go_wp2_with (at_make; refine wpList_make_full _ rfl _ _ _ rfl w3.heap.size 3 i0 _ 1 Tryz.underlying40 hi0 hz0 hs0 _ _ _ _ (factB n) rfl rfl rfl rfl (by rw [hb0]; omega) (by unfold maxLen; omega) (Nat.le_refl _) ?_; intro w4 hl4 hgr4; (have hB34 := bw_gr (Below.refl w3.heap.size w3) hgr4); (have p0 := P0.out w4 (bw_to hb3 hB34)))
    rw [Nat.mul_one] at hl4
    have hsi : SI w4 w3.heap.size w3.heap.size (factB n) (fun _ => 0) := by unfold SI; rw [← zeros_si]; exact hl4
    have hsb4 := HSB.out.to hB34
    have hBa4 := bw_to hb3 hB34
    have hLl : w3.heap.size < w4.heap.size := (World.ownsRow.lt hsi w3.heap.size rfl).2
    have Hsi := Lib.hid hsi
    have Hsb4 := Lib.hid hsb4
    clear hl4 hsi hsb4 hgr4
    have HmB := Lib.hid (fun W i (hW : Below wa.heap.size wa W) => r2 W i (bw_to hwa hW))
    have HB2a := Lib.hid (bw_to hB2 hwa)
    have HS0 : Hid (SeenOf n (fun _ => false) (R.take 0)) := Lib.hid (SeenOf.none n)
    have hhl : hs'.length = t.size := by rw [Hhs.out, List.length_take, Hhl.out]; omega
    have Hhsl := Lib.hid hhl
    have HSh : Hid (∀ W, Below wa.heap.size wa W → Strs W (.slice A4 t.size q4) hs') := Lib.hid (fun W hW => by
      have h2 := own_upto (own_to (own_to Hown4.out hwa) hW) (Nat.le_succ t.size)
      rw [← List.map_take, ← Hhs.out] at h2
      have h3 := sl_of_own h2
      unfold Strs
      rw [hhl]; exact h3)
    have Hrest : Hid (∀ i (hi : i < hs'.length) j (hj : j < m.l.length), R[i * m.l.length + j]? = (leadB hs'[i] m.l)[j]?) := Lib.hid (fun i hi j hj => by rw [HRd.out]; exact rows_get hs' i j hi hj)
    clear hhl r2 R2 p0
    go_loopw [9, 54] (fun o x wr => ∃ (i q : Nat) (A' : Option Addr) (c' : Nat) (f : Nat → Bool) (gf : Nat → Int), i ≤ t.size ∧ x = .int .i64 i ∧ q = i * m.l.length ∧ o = .slice A' q c' ∧ wr.ownsRow w4.heap.size 9 1 (.slice A' q c') q ((R.take q).map Value.string) ∧ SB wr wa.heap.size wa.heap.size (factB n) f ∧ SI wr w3.heap.size w3.heap.size (factB n) gf ∧ SeenOf n f (R.take q) ∧ LeadOf m.l.length R q gf ∧ (R.take q).Nodup ∧ Below wa.heap.size wa wr ∧ w4.heap.size ≤ wr.heap.size) (fun _ x _ => t.size - (intOf x).toNat)
    case atStart => exact ⟨0, 0, none, 0, _, _, by omega, rfl, by simp, rfl, World.ownsRow_nil _ _ _ _, Hsb4.out, Hsi.out, HS0.out, LeadOf.zero _ _ _, by simp, hBa4, Nat.le_refl _⟩
    case round =>
      obtain ⟨i, q, A', c', f, gf, hi, rfl, hq, rfl, hown, hsb, hsi, hseen, hlead, hnd, hB, hsz⟩ := hrel
      have Hq := Lib.hid hq
      have Hown := Lib.hid hown
      have Hsb := Lib.hid hsb
      have Hsi5 := Lib.hid hsi
      have Hseen := Lib.hid hseen
      have Hlead := Lib.hid hlead
      have Hnd := Lib.hid hnd
      clear hq hown hsb hsi hseen hlead hnd Hsi Hsb4
      by_cases hlt : i < t.size
      · have hiH : i < hs'.length := by rw [Hhsl.out]; exact hlt
        have hSw := HSh.out wr hB
        obtain ⟨A'', c'', e', _, _, hrd⟩ := hSw
        injection e' with ea eb ec
        subst ea ec
        clear eb
        obtain ⟨ad, rfl, hC⟩ := strs_el hrd hiH
        have hC0 := hC _ (Below.refl _ _)
        have hHin := HhI.out _ (List.getElem_mem hiH)
        have Hget : Hid (∀ j (hj : j < m.l.length), R[q + j]? = (leadB hs'[i] m.l)[j]?) := Lib.hid (fun j hj => by rw [Hq.out]; exact Hrest.out i hiH j hj)
        obtain ⟨x, hx⟩ : ∃ x, x = hs'[i] := ⟨_, rfl⟩
        simp only [← hx] at hC0 hHin Hget
        have Hl := Lib.hid (fun W hW => Hlf.out W hW x hHin)
        have hwB := bw_to hw (bw_to HB2a.out hB)
        have m2 := HmB.out wr 2 hB
        have Hll := Lib.hid (lead_len x m.l)
        have hp0 := P0.out wr hB
        clear hC hrd hx hHin
        go_wp2_with fail
        refine (Hl.out _ hwB).mono ?_; rintro e w5 ⟨A5, q5, rfl, hown5, hb5⟩
        have hB5 := bw_to hB hb5
        have HL5 := Lib.hid (fun W (hW : Below w5.heap.size w5 W) => own_to hown5 hW)
        have o5 := own_to Hown.out hb5
        have s5 := Hsb.out.to hb5
        have i5 := Hsi5.out.to hb5
        have hsz5 : w4.heap.size ≤ w5.heap.size := Nat.le_trans hsz hb5.size
        have hwr5 : w4.heap.size ≤ wr.heap.size := hsz
        obtain ⟨g5, hA5, hg5⟩ := own_ptr hown5 hml.1
        subst hA5
        have hg5b : wr.heap.size ≤ g5 := (World.ownsRow.lt hown5 g5 rfl).1
        have hne5 : ∀ g, (Value.slice A' q c').ownBlock = some g → g ≠ g5 := fun g hg => by have := (World.ownsRow.lt Hown.out g hg).2; omega
        have Hown5 := Lib.hid hown5
        have Hne5 := Lib.hid hne5
        clear hown5 m2 HL5 hne5
        go_wp2_with fail
        obtain ⟨wo, hwo⟩ : ∃ wo : World, wo = wr := ⟨_, rfl⟩
        rw [← hwo] at Hown5 hg5b
        have hwo2 : w4.heap.size ≤ wo.heap.size := by rw [hwo]; exact hwr5
        clear hwo hB hwB hC0 hb5 hwr5
        go_loopw [9, 68] (fun o y wr => ∃ (j q' : Nat) (A' : Option Addr) (c' : Nat) (f : Nat → Bool) (gf : Nat → Int), j ≤ m.l.length ∧ y = .int .i64 j ∧ q' = q + j ∧ o = .slice A' q' c' ∧ wr.ownsRow wo.heap.size 9 1 (.slice (some ⟨g5, 0, none⟩) m.l.length q5) m.l.length ((leadB x m.l).map Value.string) ∧ wr.ownsRow w4.heap.size 9 1 (.slice A' q' c') q' ((R.take q').map Value.string) ∧ SB wr wa.heap.size wa.heap.size (factB n) f ∧ SI wr w3.heap.size w3.heap.size (factB n) gf ∧ SeenOf n f (R.take q') ∧ LeadOf m.l.length R q' gf ∧ (R.take q').Nodup ∧ Below wa.heap.size wa wr ∧ w4.heap.size ≤ wr.heap.size ∧ (∀ g, (Value.slice A' q' c').ownBlock = some g → g ≠ g5)) (fun _ y _ => m.l.length - (intOf y).toNat)
        case atStart => exact ⟨0, q, A', c', f, gf, by omega, rfl, by omega, rfl, Hown5.out, o5, s5, i5, Hseen.out, Hlead.out, Hnd.out, hB5, hsz5, Hne5.out⟩
        case round =>
          clear o5 s5 i5 Hseen Hlead Hnd hB5 hsz5 Hown Hsb Hsi5 Hown5 Hne5 hsz
          obtain ⟨j, q', A6, c6, f6, gf6, hj, rfl, hq', rfl, hlead5, hown, hsb, hsi, hseen, hlead, hnd, hB, hsz, hne⟩ := hrel
          have Hown := Lib.hid hown
          have Hsb := Lib.hid hsb
          have Hsi := Lib.hid hsi
          have Hseen := Lib.hid hseen
          have Hlead := Lib.hid hlead
          have Hnd := Lib.hid hnd
          have Hne := Lib.hid hne
          have Hl5 := Lib.hid hlead5
          have Hq' := Lib.hid hq'
          clear hown hsb hsi hseen hlead hnd hne hq'
          by_cases hlt2 : j < m.l.length
          · have hjL : j < (leadB x m.l).length := by rw [Hll.out]; exact hlt2
            have hC0 := hlead5.cellAt j (by omega)
            rw [List.getElem?_map, List.getElem?_eq_getElem hjL, Option.map_some] at hC0
            have hgt := Hget.out j hlt2
            rw [← Hq'.out, List.getElem?_eq_getElem hjL] at hgt
            obtain ⟨hqR, hqe⟩ := List.getElem?_eq_some_iff.1 hgt
            have hmem : (leadB x m.l)[j] ∈ R := by rw [← hqe]; exact List.getElem_mem hqR
            have Hpm := Lib.hid (HRp.out _ hmem)
            have Hqe := Lib.hid hqe
            obtain ⟨r, hr⟩ : ∃ r, r = (leadB x m.l)[j] := ⟨_, rfl⟩
            simp only [← hr] at hC0 Hpm Hqe
            have Hpl := Lib.hid (fun W => l1Place_any n r W hn Hpm.out)
            have hplt := place_lt Hpm.out
            obtain ⟨pl, hpl⟩ : ∃ pl, pl = placeB r := ⟨_, rfl⟩
            simp only [← hpl] at Hpl hplt
            have Hplq := Lib.hid hpl
            have hKR := HRl.out
            have hqK : q' ≤ 800 := by omega
            clear hgt hqe hmem hr hjL hpl hlead5
            go_wp2_with fail
            refine (Hpl.out _).mono ?_; rintro e w6 ⟨rfl, hb6⟩
            have s6 := Hsb.out.to hb6
            have i6 := Hsi.out.to hb6
            have hB6 := bw_to hB hb6
            have sc := s6.cell hplt
            have sf := s6.free pl
            have hplI : (pl : Int) < (factB n : Int) := by omega
            cases hfb : f6 pl
            · rw [hfb] at sc
              have hnin : r ∉ R.take q' := fun h => by
                have := (Hseen.out r Hpm.out).2 h
                rw [← Hplq.out, hfb] at this
                cases this
              have hw1 : IntKind.i64.wrap ((i : Int) * 40) = (i : Int) * 40 := IntWalk.i64_in _ ⟨by omega, by omega⟩
              have hw2 : IntKind.i64.wrap ((i : Int) * 40 + (j : Int)) = (i : Int) * 40 + (j : Int) := IntWalk.i64_in _ ⟨by omega, by omega⟩
              have ic : (w6.setCell ⟨wa.heap.size, pl, none⟩ (.bool true)).cell? ⟨w3.heap.size, pl, none⟩ = some (.int .i64 (gf6 pl)) := (i6.past (by omega) _ _).cell hplt
              have ifz : (w6.setCell ⟨wa.heap.size, pl, none⟩ (.bool true)).frozen? ⟨w3.heap.size, pl, none⟩ = false := (i6.past (by omega) _ _).free pl
              have Hs7 := Lib.hid ((s6.set hplt).past (g' := w3.heap.size) (by omega) pl (.int .i64 ((i : Int) * 40 + (j : Int))))
              have Hi7 := Lib.hid ((i6.past (g' := wa.heap.size) (by omega) pl (.bool true)).set hplt ((i : Int) * 40 + (j : Int)))
              have o7 := own_past (own_past (own_to Hown.out hb6) (by omega : wa.heap.size < w4.heap.size) pl (.bool true)) hLl pl (.int .i64 ((i : Int) * 40 + (j : Int)))
              have l7 := own_past (own_past (own_to Hl5.out hb6) (by omega : wa.heap.size < wo.heap.size) pl (.bool true)) (by omega : w3.heap.size < wo.heap.size) pl (.int .i64 ((i : Int) * 40 + (j : Int)))
              have HB7 := Lib.hid (grow_set (grow_set hB6 (Nat.le_refl _) (.bool true) (j := pl)) (by omega : wa.heap.size ≤ w3.heap.size) (.int .i64 ((i : Int) * 40 + (j : Int))) (j := pl))
              have hz7 : w4.heap.size ≤ ((w6.setCell ⟨wa.heap.size, pl, none⟩ (.bool true)).setCell ⟨w3.heap.size, pl, none⟩ (.int .i64 ((i : Int) * 40 + (j : Int)))).heap.size := by
                have := hb6.size
                have e : ((w6.setCell ⟨wa.heap.size, pl, none⟩ (.bool true)).setCell ⟨w3.heap.size, pl, none⟩ (.int .i64 ((i : Int) * 40 + (j : Int)))).heap.size = w6.heap.size := by simp
                omega
              have Hl7 := Lib.hid l7
              have HS8 : Hid (SeenOf n (fun a => if a = pl then true else f6 a) (R.take (q' + 1))) := Lib.hid (by
                rw [List.take_succ_eq_append_getElem hqR, Hqe.out, Hplq.out]
                exact Hseen.out.put Hpm.out)
              have HL8 : Hid (LeadOf m.l.length R (q' + 1) (fun a => if a = pl then (i : Int) * 40 + (j : Int) else gf6 a)) := Lib.hid (by
                have h1 := LeadOf.put (N := m.l.length) Hlead.out HRp.out hqR (by rw [Hqe.out]; exact hnin)
                have e1 : q' / m.l.length = i := by rw [Hq'.out, Hq.out, Nat.mul_comm, Nat.mul_add_div (by omega), Nat.div_eq_of_lt hlt2]; simp
                have e2 : q' % m.l.length = j := by rw [Hq'.out, Hq.out, Nat.mul_comm, Nat.mul_add_mod, Nat.mod_eq_of_lt hlt2]
                rw [e1, e2, Hqe.out, ← Hplq.out] at h1
                have e3 : ((i * 40 + j : Nat) : Int) = (i : Int) * 40 + (j : Int) := by simp
                rw [e3] at h1
                exact h1)
              have HN8 : Hid ((R.take (q' + 1)).Nodup) := Lib.hid (nd_step hqR Hnd.out (by rw [Hqe.out]; exact hnin))
              have HT8 : Hid (R.take (q' + 1) = R.take q' ++ [r]) := Lib.hid (by rw [List.take_succ_eq_append_getElem hqR, Hqe.out])
              have hg5l : g5 < w6.heap.size := (World.ownsRow.lt (own_to Hl5.out hb6) g5 rfl).2
              clear hnin hfb l7 s6 i6 R3 F3
              go_wp2_with (at_builtin; go_must (refine wpList_app_at _ rfl _ _ _ rfl w4.heap.size 9 _ 1 16 Tryz.underlying24 info_str rfl (by omega) o7 [.string r] rfl rfl rfl (by simp) (one_mem rfl) (by omega) (by omega) hz7 ?_); intro v8 w8 hown8 hb8 hg8 ho8)
              obtain ⟨A8, c8, e8, _⟩ := sl_of_own hown8
              subst e8
              rw [str_snoc HT8.out] at hown8
              have hl8 := Hl7.out.kept hg8 (.inr (fun e => Hne.out g5 e.symm rfl))
              refine ⟨⟨j + 1, q' + 1, A8, c8, _, _, by omega, by go_num, by have := Hq'.out; omega, rfl, hl8, hown8, Hs7.out.low hb8 (by omega), Hi7.out.low hb8 hLl, HS8.out, HL8.out, HN8.out, HB7.out.trans (hb8.mono (by omega)), by have := hb8.size; omega, ?_⟩, by simp [intOf]; omega⟩
              intro g hg
              rcases ho8 with h | h
              · exact Hne.out g (h ▸ hg)
              · have h9 := h g hg
                have e : ((w6.setCell ⟨wa.heap.size, pl, none⟩ (.bool true)).setCell ⟨w3.heap.size, pl, none⟩ (.int .i64 ((i : Int) * 40 + (j : Int)))).heap.size = w6.heap.size := by simp
                omega
            · rw [hfb] at sc
              have hin : r ∈ R.take q' := (Hseen.out r Hpm.out).1 (by rw [← Hplq.out]; exact hfb)
              have HN : Hid (pb = false) := Lib.hid (by
                rw [HP.out, decide_eq_false (nd_no hqR (by rw [Hqe.out]; exact hin)), Bool.false_and])
              have hBx := bw_to HB2a.out hB6
              have c0 := R3 w6 0 hBx
              have c1 := R3 w6 1 hBx
              have f0 := F3 0 w6 hBx
              have f1 := F3 1 w6 hBx
              clear R3 F3
              go_wp2_with fail
              refine bodyPost_ret (v := .tuple #[.agg #[.slice none 0 0, .slice none 0 0], .bool false]) ?hr rfl ⟨_, _, by rw [HN.out], Hno.out _ _ HN.out, ?hb⟩
              case hb => exact grow_set (grow_set (bw_to hw hBx) (by omega) _) (by omega) _
              case hr => simp [results, go_sem, c0, c1]
          · obtain rfl : j = m.l.length := by omega
            have HQ2 : Hid (q' = (i + 1) * m.l.length) := Lib.hid (by rw [Hq'.out, Hq.out, Nat.succ_mul])
            clear hlead5
            go_wp2_with fail
            exact ⟨⟨i + 1, q', A6, c6, f6, gf6, by omega, by go_num, HQ2.out, rfl, Hown.out, Hsb.out, Hsi.out, Hseen.out, Hlead.out, Hnd.out, hB, hsz⟩, by simp [intOf]; omega⟩
      · obtain rfl : i = t.size := by omega
        have hqK : q = K := by rw [Hq.out, HK.out]
        have HKl := Lib.hid HRl.out
        have HRt : Hid (R.take q = R) := Lib.hid (List.take_of_length_le (by rw [HRl.out, hqK]; exact Nat.le_refl _))
        have hnd := Hnd.out
        rw [HRt.out] at hnd
        have HndR := Lib.hid (decide_eq_true hnd)
        have hBx := bw_to HB2a.out hB
        have Hhw := Lib.hid (own_to (own_to Hown4.out hwa) hB)
        have hSw : Strs wr (.slice A4 (t.size + 1) q4) (headsT m k t) := by
          have h3 := sl_of_own Hhw.out
          unfold Strs
          rw [Hhl.out]; exact h3
        obtain ⟨A'', c'', e', _, _, hrd⟩ := hSw
        injection e' with ea eb ec
        subst ea ec
        clear eb
        obtain ⟨ad, rfl, hC⟩ := strs_el (k := t.size) hrd (by rw [Hhl.out]; omega)
        have he : (headsT m k t)[t.size]'(by rw [Hhl.out]; omega) = E := by
          obtain ⟨h1, h2⟩ := List.getElem?_eq_some_iff.1 Hlast.out
          exact h2
        have hC0 : ∀ u : Aft wr, u.w.cell? (ad.add t.size) = some (.string E) := fun u => by rw [← he]; exact hC _ u.h
        have p0 : ∀ u : Aft wr, u.w.cell? ⟨w2.heap.size, 0, none⟩ = some (.slice (some ad) (t.size + 1) q4) := fun u => P0.out _ (bw_to hB u.h)
        have m1 : ∀ u : Aft wr, u.w.cell? ⟨w.heap.size, 1, none⟩ = some (.int .i64 (n : Int)) := fun u => HmB.out _ 1 (bw_to hB u.h)
        have hts1 : (t.size : Int) < (t.size : Int) + 1 := by omega
        have hts0 : (0 : Int) ≤ (t.size : Int) := by omega
        have Heb := Lib.hid (str_beq E (roundsB n))
        have hBr := Below.refl wr.heap.size wr
        have hbb : (E.toList == (roundsB n).toList) = true ∨ (E.toList == (roundsB n).toList) = false := by cases (E.toList == (roundsB n).toList) <;> simp
        have HqK := Lib.hid hqK
        clear hC he hrd hnd hqK
        go_upto_region 22 with fail
        refine wp_region_aft (wb := wr) (by kernel_rfl) (by kernel_rfl) hBr ?_
        repeat (go_big_quiet_step ((first | (go_at_call 109; exact calls_aft_same fun w hw => l1Rounds_any n _ hn))))
        refine wpQuiet_nil ?_
        rintro _ ⟨u3, rfl⟩
        have hB7 := u3.h
        generalize u3.w = w7 at hB7 ⊢
        have hB7a := bw_to hB hB7
        have hBx7 := bw_to HB2a.out hB7a
        clear hC0 p0 m1
        rcases hbb with hb | hb
        case inr =>
          have HN : Hid (pb = false) := Lib.hid (by
            rw [Heb.out] at hb
            rw [HP.out, hb, Bool.and_false])
          have c0 := R3 w7 0 hBx7
          have c1 := R3 w7 1 hBx7
          have f0 := F3 0 w7 hBx7
          have f1 := F3 1 w7 hBx7
          have hb2 : (!(E.toList == (roundsB n).toList)) = true := by rw [hb]; rfl
          rw [hb2]
          clear R3 F3 hb2
          go_wp2_with fail
          refine bodyPost_ret (v := .tuple #[.agg #[.slice none 0 0, .slice none 0 0], .bool false]) ?hr rfl ⟨_, _, by rw [HN.out], Hno.out _ _ HN.out, ?hb⟩
          case hb => exact grow_set (grow_set (bw_to hw hBx7) (by omega) _) (by omega) _
          case hr => simp [results, go_sem, c0, c1]
        case inl =>
          have HY : Hid (pb = true) := Lib.hid (by
            rw [Heb.out] at hb
            rw [HP.out, hb, HndR.out]; rfl)
          have o7 := own_to Hown.out hB7
          rw [HRt.out] at o7
          have hSa : Strs w7 (.slice A' q c') R := strs_of_own (by rw [HRl.out, ← HqK.out]; exact o7)
          have Hso := Lib.hid (l6Sort_any (.slice A' q c') R w7 (by rw [HRl.out]; omega) hSa (nilok_own o7))
          rw [HRl.out, ← HqK.out] at Hso
          have i7 := Lib.hid (Hsi5.out.to hB7)
          have p7 := Lib.hid (own_to Hp0.out hB7a)
          have Hh7 := Lib.hid (own_to Hhw.out hB7)
          have hsz7 : w4.heap.size ≤ w7.heap.size := Nat.le_trans hsz hB7.size
          obtain ⟨Z, hZ⟩ : ∃ Z, Z = sortB R := ⟨_, rfl⟩
          have HZl : Hid (Z.length = q) := Lib.hid (by rw [hZ, sortB_len, HRl.out, HqK.out])
          have HZm : Hid (∀ x ∈ Z, x ∈ R) := Lib.hid (fun x hx => (sortB_perm R).mem_iff.1 (by rw [← hZ]; exact hx))
          simp only [← hZ] at Hso Hyes
          have hq8 : q ≤ 800 := by have := HqK.out; omega
          have hb2 : (!(E.toList == (roundsB n).toList)) = false := by rw [hb]; rfl
          rw [hb2]
          clear o7 hSa hZ Hown Hsb Hseen Hnd hb2
          go_wp2_with fail
          refine Hso.out.mono ?_; rintro e w8 ⟨A8, q8, rfl, hown8, hb8⟩
          have HZ8 := Lib.hid hown8
          have HZw : Hid (w7.heap.size ≤ w8.heap.size) := Lib.hid hb8.size
          have Hi8 := Lib.hid (i7.out.to hb8)
          have Hp8 := Lib.hid (own_to p7.out hb8)
          have hB8 := bw_to hB7a hb8
          obtain ⟨g8, hA8, hg8l⟩ := own_ptr hown8 (by
            have h1 := HqK.out
            have h2 := HK.out
            have h3 : 1 ≤ t.size * m.l.length := Nat.mul_pos hts.1 hml.1
            omega)
          subst hA8
          have hg8b : w7.heap.size ≤ g8 := (World.ownsRow.lt hown8 g8 rfl).1
          have hGw7 : w2.heap.size < w7.heap.size := by omega
          clear hown8
          go_wp2_with fail
          go_loopw [110] (fun x wr => ∃ (k : Nat) (A9 : Option Addr) (c9 : Nat), k ≤ q ∧ x = .int .i64 k ∧ wr.ownsRow w2.heap.size 27 2 (.slice (some ⟨w2.heap.size, 0, none⟩) 1 1) 1 [.slice (some ad) (t.size + 1) q4, .slice A9 k c9] ∧ wr.ownsRow w8.heap.size 76 3 (.slice A9 k c9) k ((Z.take k).flatMap (encL m.l.length R)) ∧ wr.ownsRow w7.heap.size 9 1 (.slice (some ⟨g8, 0, none⟩) q q8) q (Z.map Value.string) ∧ SI wr w3.heap.size w3.heap.size (factB n) gf ∧ Below w2.heap.size w2 wr ∧ w8.heap.size ≤ wr.heap.size) (fun x _ => q - (intOf x).toNat)
          case atStart => exact ⟨0, none, 0, by omega, rfl, Hp8.out, World.ownsRow_nil _ _ _ _, HZ8.out, Hi8.out, bw_to hwa hB8, Nat.le_refl _⟩
          case round =>
            obtain ⟨k, A9, c9, hk, rfl, hp, hl, hz, hi, hB9, hsz9⟩ := hrel
            have Hp := Lib.hid hp
            have Hl := Lib.hid hl
            have Hz := Lib.hid hz
            have Hi := Lib.hid hi
            by_cases hlt9 : k < q
            · have hkZ : k < Z.length := by rw [HZl.out]; exact hlt9
              have hC0 := hz.cellAt k (by omega)
              rw [List.getElem?_map, List.getElem?_eq_getElem hkZ, Option.map_some] at hC0
              have hmR := HZm.out _ (List.getElem_mem hkZ)
              have Hsn : Hid ((Z.take (k + 1)).flatMap (encL m.l.length R) = (Z.take k).flatMap (encL m.l.length R) ++ encL m.l.length R Z[k]) := Lib.hid (flat_take hkZ)
              obtain ⟨r, hr⟩ : ∃ r, r = Z[k] := ⟨_, rfl⟩
              rw [← hr] at hC0 hmR Hsn
              have Hpm := Lib.hid (HRp.out _ hmR)
              have Hpl := Lib.hid (fun W => l1Place_any n r W hn Hpm.out)
              have hplt := place_lt Hpm.out
              obtain ⟨hix, hie⟩ := idxB_mem hmR
              have hixb : idxB r R < 801 := by rw [HRl.out] at hix; omega
              have hgf := Hlead.out _ hix (by rw [HRl.out, ← HqK.out] at hix; exact hix)
              rw [hie] at hgf
              obtain ⟨pl, hpl⟩ : ∃ pl, pl = placeB r := ⟨_, rfl⟩
              simp only [← hpl] at Hpl hplt hgf
              have He : Hid (encL m.l.length R r = [.string r, .int .i64 ((idxB r R / m.l.length : Nat) : Int), .int .i64 ((idxB r R % m.l.length : Nat) : Int)]) := Lib.hid rfl
              have hd2 : idxB r R / m.l.length ≤ 801 := Nat.le_trans (Nat.div_le_self _ _) (by omega)
              have hr2 : idxB r R % m.l.length < 40 := Nat.lt_of_lt_of_le (Nat.mod_lt _ (by omega)) hml.2
              obtain ⟨d, hd⟩ : ∃ d, d = idxB r R / m.l.length := ⟨_, rfl⟩
              obtain ⟨b, hbq⟩ : ∃ b, b = idxB r R % m.l.length := ⟨_, rfl⟩
              simp only [← hd, ← hbq] at He hd2 hr2 hgf
              have hdv : (((d * 40 + b : Nat) : Int)).tdiv 40 = (d : Int) := by rw [Int.tdiv_eq_ediv_of_nonneg (by omega)]; omega
              have hdv2 : ((d * 40 + b : Nat) : Int) / 40 = (d : Int) := by omega
              have hrm : (((d * 40 + b : Nat) : Int)).tmod 40 = (b : Int) := by rw [Int.tmod_eq_emod_of_nonneg (by omega)]; omega
              have hrm2 : ((d * 40 + b : Nat) : Int) % 40 = (b : Int) := by omega
              have hwd : IntKind.i64.wrap (d : Int) = (d : Int) := IntWalk.i64_in _ ⟨by omega, by omega⟩
              have hwb : IntKind.i64.wrap (b : Int) = (b : Int) := IntWalk.i64_in _ ⟨by omega, by omega⟩
              obtain ⟨V, hV⟩ : ∃ V, V = ((d * 40 + b : Nat) : Int) := ⟨_, rfl⟩
              simp only [← hV] at hgf hdv hdv2 hrm hrm2
              have hplI : (pl : Int) < (factB n : Int) := by omega
              clear hkZ hmR hr hix hie hpl hd hbq hV hp hl hz hi hixb
              go_wp2_with fail
              refine (Hpl.out _).mono ?_; rintro e w9 ⟨rfl, hb9⟩
              have ic := (Hi.out.to hb9).cell hplt
              rw [hgf] at ic
              have hp9 := own_to Hp.out hb9
              have pc : w9.cell? ⟨w2.heap.size, 1, none⟩ = some (.slice A9 k c9) := hp9.cellAt 1 (by omega)
              have Hp9 := Lib.hid hp9
              have l9 := own_to Hl.out hb9
              have z9 := Lib.hid (own_to Hz.out hb9)
              have Hi9 := Lib.hid (Hi.out.to hb9)
              have hB10 := hB9.trans (hb9.mono (by have := hB9.size; omega))
              have hz9 : w8.heap.size ≤ w9.heap.size := Nat.le_trans hsz9 hb9.size
              clear hp9 hgf
              go_wp2_with (at_builtin; go_must (refine wpList_app_at _ rfl _ _ _ rfl w8.heap.size 76 _ 3 32 Tryz.underlying25 info_line rfl (by omega) l9 [.string r, .int .i64 (d : Int), .int .i64 (b : Int)] rfl rfl rfl rfl (by rw [← He.out]; exact encL_one _ _ _) (by omega) (by omega) hz9 ?_); intro v10 w10 hown10 hb10 hg10 ho10; (obtain ⟨A10, c10, e10, _⟩ := sl_of_own hown10); subst e10; (have hp10 := own_blk Hp9.out (hb10.block w2.heap.size (by omega))); (have pc2 : w10.cell? ⟨w2.heap.size, 1, none⟩ = some (.slice A9 k c9) := hp10.cellAt 1 (by omega)); (have pf2 := hp10.frozenAt 1))
              have hz10 : w8.heap.size ≤ (w10.setCell ⟨w2.heap.size, 1, none⟩ (.slice A10 (k + 1) c10)).heap.size := by
                have := hb10.size
                have e : (w10.setCell ⟨w2.heap.size, 1, none⟩ (.slice A10 (k + 1) c10)).heap.size = w10.heap.size := by simp
                omega
              refine ⟨⟨k + 1, A10, c10, by omega, by go_num, own_set hp10 1 _, ?_, own_past (own_blk z9.out (hb10.block g8 hg8l)) hGw7 _ _, (Hi9.out.low hb10 (by omega)).past (by omega) _ _, grow_set (hB10.trans (hb10.mono (by omega))) (Nat.le_refl _) _, hz10⟩, by simp [intOf]; omega⟩
              have hq := own_past hown10 (by omega : w2.heap.size < w8.heap.size) 1 (.slice A10 (k + 1) c10)
              rw [Hsn.out, He.out]
              exact hq
            · obtain rfl : k = q := by omega
              have hZt : Hid (Z.take k = Z) := Lib.hid (List.take_of_length_le (by rw [HZl.out]; exact Nat.le_refl _))
              have s0 : wr.cell? ⟨w2.heap.size, 0, none⟩ = some (.slice (some ad) (t.size + 1) q4) := hp.cellAt 0 (by omega)
              have s1 : wr.cell? ⟨w2.heap.size, 1, none⟩ = some (.slice A9 k c9) := hp.cellAt 1 (by omega)
              have hBf := bw_to hB2 hB9
              have c0 := R3 wr 0 hBf
              have c1 := R3 wr 1 hBf
              have f0 := F3 0 wr hBf
              have f1 := F3 1 wr hBf
              have hHf := Lib.hid (own_to Hown4.out hB9)
              clear R3 F3 hp hl hz hi
              go_wp2_with fail
              refine bodyPost_ret (v := .tuple #[.agg #[.slice (some ad) (t.size + 1) q4, .slice A9 k c9], .bool true]) ?hr rfl ⟨_, _, by rw [HY.out], ?ho, ?hb⟩
              case hb => exact grow_set (grow_set (bw_to hw hBf) (by omega) _) (by omega) _
              case hr => simp [results, go_sem, c0, c1]
              case ho =>
                refine Hyes.out _ _ _ HY.out ?_ ?_
                · exact own_base (own_past (own_past hHf.out (by omega) _ _) (by omega) _ _) (by omega)
                · have h5 := Hl.out
                  rw [hZt.out] at h5
                  rw [HRl.out, ← HqK.out]
                  have h6 := hb2.size
                  have h7 := HZw.out
                  exact own_base (own_past (own_past h5 (by omega) _ _) (by omega) _ _) (by omega)
end Go.Proofs.YtofpjbdelmmclaaGreatDoor
