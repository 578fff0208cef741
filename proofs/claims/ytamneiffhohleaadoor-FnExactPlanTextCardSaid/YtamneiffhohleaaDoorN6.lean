/- Contract: the reference's PlanText. -/
import Derived.Test.YtamneiffhohleaaDoorN5
import Derived.Test.YtamneiffhohleaaDoorD1
namespace Go.Proofs.YtamneiffhohleaaDoor
open Go Go.RowKit
set_option linter.unusedVariables false
set_option linter.unusedSimpArgs false

theorem items_ownN {w : World} {base : Nat} {e : TypeId} {v : Value} {xs : List It} (h : w.ownsRow base e 4 v xs.length (xs.flatMap It.cells)) (hg : ∀ x ∈ xs, x.name.size ≤ maxLen) : Items w v xs := ⟨sl_of_own h, hg⟩
theorem l30Choice_is {a b c d : Int} {v u : Value} {xs : List It} {ch : List Int} {w : World} {r : Bool} (hr : choiceOk a b c d xs ch = r) (hv : Items w v xs) (hu : Ints w u ch) :
    Calls Tryd.prog 34 #[.agg #[.int .i64 a, .int .i64 b, .int .i64 c, .int .i64 d], v, u] w fun e w' => e = .returned (.bool r) ∧ Below w.heap.size w w' := by subst hr; exact l30Choice_any _ _ _ _ _ _ _ _ _ hv hu
set_option maxRecDepth 10000 in
set_option maxHeartbeats 2000000 in
theorem specPlanText_any (a b c d : Int) (v u : Value) (xs : List It) (ch : List Int) (w : World) (hv : Items w v xs) (hu : Ints w u ch) :
    Calls Tryd.prog 11 #[.agg #[.int .i64 a, .int .i64 b, .int .i64 c, .int .i64 d], v, u] w fun e w' => e = .returned (.tuple #[.string (planT a b c d xs ch), .bool (planOk a b c d xs ch)]) ∧ Below w.heap.size w w' := by
  have HV := Lib.hid hv
  have HU := Lib.hid hu
  obtain ⟨⟨A, c1, rfl, h1, h2, hr⟩, hg⟩ := hv
  obtain ⟨A', c2, rfl, h1', h2', hr'⟩ := hu
  unfold maxLen at h2 h2'
  obtain ⟨T, hT⟩ : ∃ T, T = planT a b c d xs ch := ⟨_, rfl⟩
  obtain ⟨k0, hk0⟩ : ∃ k, k = planOk a b c d xs ch := ⟨_, rfl⟩
  rw [← hT, ← hk0]
  have HT := Lib.hid hT
  have Hk := Lib.hid hk0
  clear hg hT hk0
  go_enter Tryd.func11, Tryd.ntmps11
  go_wp2_with fail
  refine box1 (C := fun W => Code.wp _ _ _ _ W) ?_
  intro wb hw k1 hB0
  have R1 := boxRule k1
  clear k1
  have R3 : ∀ (x : Aft wb) (i : Nat), x.w.cell? ⟨w.heap.size, i, none⟩ = #[.int .i64 a, .int .i64 b, .int .i64 c, .int .i64 d][i]? := fun x i => R1 x.w i x.h
  have HR1 := Lib.hid R1
  clear R1
  cases hok : choiceOk a b c d xs ch
  case false =>
    have Hno := Lib.hid (planOk_no1 hok)
    have Hok := Lib.hid hok
    clear hok
    refine wp_region_aft (wb := wb) (by kernel_rfl) (by kernel_rfl) hB0 ?_
    repeat (go_big_quiet_step ((first | (go_at_call 34; exact calls_aft fun w' hb' => l30Choice_is Hok.out (HV.out.to (bw_to hw hb')) (HU.out.to (bw_to hw hb'))))))
    refine wpQuiet_nil ?_
    rintro _ ⟨⟨w3, hB3⟩, rfl⟩
    go_wp2_with fail
    go_ret2
    exact ⟨by rw [HT.out, Hk.out, planT_no Hno.out, Hno.out]; rfl, bw_to hw hB3⟩
  case true =>
    obtain ⟨he, hx, hc⟩ := choiceOk_parts hok
    have He := Lib.hid he
    have Hx := Lib.hid hx
    have Hc := Lib.hid hc
    have hlen := choice_len hx hc
    have hbd := evB_bd he
    have htp := time_pos he hx hc
    have htime := fun w' (h : Below wb.heap.size wb w') => l30Time_any a b c d _ _ xs ch w' (HV.out.to (bw_to hw h)) (HU.out.to (bw_to hw h)) he hx hc
    obtain ⟨t, hte⟩ : ∃ t, t = timeS b d xs ch := ⟨_, rfl⟩
    rw [← hte] at htp
    simp only [← hte] at htime
    have Htime := Lib.hid htime
    have Hok := Lib.hid hok
    have Hte := Lib.hid hte
    clear htime hok he hx hc hte
    refine wp_region_aft (wb := wb) (by kernel_rfl) (by kernel_rfl) hB0 ?_
    repeat (go_big_quiet_step ((first | (go_at_call 34; exact calls_aft fun w' hb' => l30Choice_is Hok.out (HV.out.to (bw_to hw hb')) (HU.out.to (bw_to hw hb'))) | (go_at_call 35; exact calls_aft fun w' hb' => Htime.out w' hb'))))
    refine wpQuiet_nil ?_
    rintro _ ⟨⟨w3, hB3⟩, rfl⟩
    have R1 := HR1.out
    clear R3
    by_cases htc : t ≤ c
    case neg =>
      have Hno := Lib.hid (planOk_no2 (a := a) (b := b) (c := c) (d := d) (xs := xs) (ch := ch) (by rw [← Hte.out]; exact htc))
      have htc' : c < t := by omega
      clear htc
      go_wp2_with fail
      go_ret2
      exact ⟨by rw [HT.out, Hk.out, planT_no Hno.out, Hno.out]; rfl, bw_to hw hB3⟩
    case pos =>
      have Hyes := Lib.hid (planOk_yes Hok.out (by rw [← Hte.out]; exact htc))
      have hze : (numT t).size ≤ 14 := numT_size (by omega) (by omega)
      have htc2 : ¬ c < t := by omega
      have Hjs := Lib.hid (jn_size xs ch a Hx.out Hc.out)
      go_wp2_with fail
      go_loopw [8, 27] (fun z i wr => ∃ (k : Nat) (s : ByteArray), k ≤ ch.length ∧ i = .int .i64 k ∧ z = .string s ∧ s = jn (ws xs ch k) ∧ Below wb.heap.size wb wr) (fun _ i _ => ch.length - (intOf i).toNat)
      case atStart => exact ⟨0, _, by omega, rfl, rfl, rfl, hB3⟩
      case round =>
        obtain ⟨k, s, hk, rfl, rfl, hs, hB⟩ := hrel
        have hss := Hjs.out k hk
        rw [← hs] at hss
        have Hs := Lib.hid hs
        have HB := Lib.hid hB
        clear hs
        by_cases hlt : k < ch.length
        · obtain ⟨m, hm, hmx⟩ := choice_in Hc.out hlt
          have Hws := Lib.hid (ws_succ (xs := xs) hlt hm hmx)
          have hsz := wordI_size (items_good Hx.out hmx)
          have hbi := itB_bd (items_good Hx.out hmx)
          obtain ⟨ad', rfl, hC'⟩ := ints_el hr' hlt
          obtain ⟨ad, rfl, hC⟩ := items_el hr hmx
          have hmi : (m : Int) < xs.length := by omega
          have hm0 : (0 : Int) ≤ (m : Int) := by omega
          obtain ⟨x, ex⟩ : ∃ x, x = xs[m] := ⟨_, rfl⟩
          rw [← ex] at hC Hws hsz hbi
          have c0 := hC' wr (bw_to hw hB)
          rw [hm] at c0
          have CB0 := fun (y : Aft wr) => (hC y.w (bw_to hw (bw_to hB y.h))).1
          have CB2 := fun (y : Aft wr) => (hC y.w (bw_to hw (bw_to hB y.h))).2.2.1
          have o1 : ¬ 9223372036854775807 < x.name.size + 1 := by omega
          have o2 : ¬ 9223372036854775807 < x.name.size + 1 + (numT x.rows).size := by omega
          have o3 : ¬ 9223372036854775807 < s.size + (x.name.size + 1 + (numT x.rows).size) := by omega
          have o4 : ¬ 9223372036854775807 < s.size + 2 + (x.name.size + 1 + (numT x.rows).size) := by omega
          have o5 : s.size + 2 ≤ 9223372036854775807 := by omega
          have hst := Below.refl wr.heap.size wr
          have Hbi := Lib.hid hbi
          have hlw := ws_len (xs := xs) hk
          have Hlw := Lib.hid hlw
          clear hm ex hbi R1 hC hC' hlw
          by_cases hk0 : 0 < k
          · have Hsn := Lib.hid (jn_snoc (l := ws xs ch k) (by rw [Hlw.out]; exact hk0) (wordI x))
            have hd : (0 : Int) < (k : Int) := by omega
            go_wp2_with fail
            refine wp_region_aft (wb := wr) (by kernel_rfl) (by kernel_rfl) hst ?_
            repeat (go_big_quiet_step ((first | (go_at_call 29; exact calls_aft fun w' hb' => l1Num_int _ w' (by have := Hbi.out; omega) (by have := Hbi.out; omega)))))
            refine wpQuiet_nil ?_
            rintro _ ⟨⟨w4, hB4⟩, rfl⟩
            go_wp2_with fail
            refine ⟨⟨k + 1, _, by omega, by go_num, rfl, ?_, bw_to HB.out hB4⟩, by simp [intOf]; omega⟩
            rw [Hws.out, Hsn.out, ← Hs.out]; rfl
          · obtain rfl : k = 0 := by omega
            rw [add_zero'] at c0
            have hs0 : s = ⟨#[]⟩ := Hs.out
            have Hs0 := Lib.hid hs0
            clear hs0
            go_wp2_with fail
            refine wp_region_aft (wb := wr) (by kernel_rfl) (by kernel_rfl) hst ?_
            repeat (go_big_quiet_step ((first | (go_at_call 29; exact calls_aft fun w' hb' => l1Num_int _ w' (by have := Hbi.out; omega) (by have := Hbi.out; omega)))))
            refine wpQuiet_nil ?_
            rintro _ ⟨⟨w4, hB4⟩, rfl⟩
            go_wp2_with fail
            refine ⟨⟨1, _, by omega, by go_num, rfl, ?_, bw_to HB.out hB4⟩, by simp [intOf]; omega⟩
            rw [Hws.out, ws_zero, jn_first, Hs0.out, empty_app]; rfl
        · obtain rfl : k = ch.length := by omega
          have o1 : ¬ 9223372036854775807 < s.size + 2 := by omega
          have o2 : ¬ 9223372036854775807 < s.size + 2 + (numT t).size := by omega
          clear hr hr'
          go_wp2_with fail
          refine (Htime.out _ HB.out).mono ?_; rintro e w4 ⟨rfl, hb4⟩
          go_wp2_with fail
          refine (l1Num_int t _ (by omega) (by omega)).mono ?_; rintro e w5 ⟨rfl, hb5⟩
          go_wp2_with fail
          go_ret2
          exact ⟨by rw [HT.out, Hk.out, planT_yes Hyes.out, Hyes.out, ← Hs.out, ← Hte.out]; rfl, bw_to hw (bw_to (bw_to HB.out hb4) hb5)⟩
set_option maxHeartbeats 4000000 in
theorem lawPlanText_any (a b c d : Int) (v : Value) (xs : List It) (u : Value) (ch : List Int) (w : World) (hv : Items w v xs) (hu : Ints w u ch) (ht : Tab10 w) :
    Calls Tryd.prog 4 #[.agg #[.int .i64 a, .int .i64 b, .int .i64 c, .int .i64 d], v, u] w fun e w' => e = .returned (.bool true) ∧ Below w.heap.size w w' := by
  obtain ⟨T, hT⟩ : ∃ T, T = planT a b c d xs ch := ⟨_, rfl⟩
  obtain ⟨k0, hk0⟩ : ∃ k, k = planOk a b c d xs ch := ⟨_, rfl⟩
  have HT := Lib.hid hT
  have Hk := Lib.hid hk0
  have Ht := Lib.hid ht
  clear hT hk0 ht
  have hu0 := hu
  obtain ⟨A', c2, rfl, h1', h2', hr'⟩ := hu
  unfold maxLen at h2'
  by_cases hbig : ch.length ≤ 1048576
  · go_enter Tryd.func4, Tryd.ntmps4
    go_wp2_with fail
    refine box1 (C := fun W => Calls _ _ _ W _) ?_
    intro wb hw k1 hB0
    have R1 := boxRule k1
    clear k1
    refine (szItemS_any _ xs _ (hv.to hw)).mono ?_; rintro e w1 ⟨r, rfl, hrl, hb1⟩
    have hB1 := bw_to hB0 hb1
    have hBw1 := bw_to hw hB1
    by_cases hr0 : r < 0
    · go_wp2_with fail
      go_ret
      exact ⟨rfl, hBw1⟩
    · have hxl := hrl (by omega)
      clear hrl
      go_wp2_with fail
      refine (toEvening_any _ _ _ _ _).mono ?_; rintro e w2 ⟨rfl, hb2⟩
      have hB2 := bw_to hB1 hb2
      go_wp2_with fail
      refine (toItemS_any _ xs _ (hv.to (bw_to hw hB2)) hxl).mono ?_; rintro e w3 ⟨v3, rfl, ho3, hb3⟩
      have hB3 := bw_to hB2 hb3
      have hi3 := items_ownN ho3 hv.2
      go_wp2_with fail
      refine (toIntS_any _ ch _ (hu0.to (bw_to hw hB3)) hbig).mono ?_; rintro e w4 ⟨u4, rfl, ho4, hb4⟩
      have hB4 := bw_to hB3 hb4
      go_wp2_with fail
      have hsp := specPlanText_any a b c d _ _ xs ch _ (hi3.to hb4) (ints_of_own ho4)
      rw [← HT.out, ← Hk.out] at hsp
      have Hsp := Lib.hid hsp
      clear hsp
      refine Hsp.out.mono ?_; rintro e w5 ⟨rfl, hb5⟩
      have hB5 := bw_to hB4 hb5
      clear hi3 ho3 ho4
      go_wp2_with fail
      refine (toItemS_any _ xs _ (hv.to (bw_to hw hB5)) hxl).mono ?_; rintro e w6 ⟨v6, rfl, ho6, hb6⟩
      have hB6 := bw_to hB5 hb6
      have hi6 := items_ownN ho6 hv.2
      go_wp2_with fail
      refine (toIntS_any _ ch _ (hu0.to (bw_to hw hB6)) hbig).mono ?_; rintro e w7 ⟨u7, rfl, ho7, hb7⟩
      have hB7 := bw_to hB6 hb7
      have hu7 := ints_of_own ho7
      have hi7 := hi6.to hb7
      go_wp2_with fail
      refine (toEvening_any _ _ _ _ _).mono ?_; rintro e w8 ⟨rfl, hb8⟩
      have hB8 := bw_to hB7 hb8
      go_wp2_with fail
      have him := implPlanText_any a b c d _ _ xs ch _ (hi7.to hb8) (hu7.to hb8) (Ht.out.to (bw_to hw hB8))
      rw [← HT.out, ← Hk.out] at him
      have Him := Lib.hid him
      clear him
      refine Him.out.mono ?_; rintro e w9 ⟨rfl, hb9⟩
      have hB9 := bw_to hB8 hb9
      have hi9 := (hi7.to hb8).to hb9
      have hu9 := (hu7.to hb8).to hb9
      clear hi6 hi7 ho6 ho7 hu7
      go_wp2_with fail
      refine (toItemS_any _ xs _ (hv.to (bw_to hw hB9)) hxl).mono ?_; rintro e w10 ⟨v10, rfl, ho10, hb10⟩
      have hB10 := bw_to hB9 hb10
      go_wp2_with fail
      refine (eqItemS_same _ _ xs _ (hi9.to hb10) (items_ownN ho10 hv.2)).mono ?_; rintro e w11 ⟨rfl, hb11⟩
      have hB11 := bw_to hB10 hb11
      go_wp2_with fail
      refine (toIntS_any _ ch _ (hu0.to (bw_to hw hB11)) hbig).mono ?_; rintro e w12 ⟨u12, rfl, ho12, hb12⟩
      have hB12 := bw_to hB11 hb12
      go_wp2_with fail
      refine (eqIntS_same _ _ ch _ (((hu9.to hb10).to hb11).to hb12) (ints_of_own ho12)).mono ?_; rintro e w13 ⟨rfl, hb13⟩
      go_wp2_with fail
      go_ret
      exact ⟨rfl, bw_to hw (bw_to hB12 hb13)⟩
  · go_enter Tryd.func4, Tryd.ntmps4
    go_wp2_with fail
    go_ret
    exact ⟨rfl, bw_al (Below.refl _ _) _⟩
end Go.Proofs.YtamneiffhohleaaDoor
