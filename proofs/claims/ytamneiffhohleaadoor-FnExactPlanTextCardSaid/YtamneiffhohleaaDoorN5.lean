/- Contracts: PlanText, both sides. -/
import Derived.Test.YtamneiffhohleaaDoorN4
namespace Go.Proofs.YtamneiffhohleaaDoor
open Go Go.RowKit
set_option linter.unusedVariables false
set_option linter.unusedSimpArgs false

set_option maxRecDepth 10000 in
set_option maxHeartbeats 2000000 in
theorem implPlanText_any (a b c d : Int) (v u : Value) (xs : List It) (ch : List Int) (w : World) (hv : Items w v xs) (hu : Ints w u ch) (ht : Tab10 w) :
    Calls Tryd.prog 15 #[.agg #[.int .i64 a, .int .i64 b, .int .i64 c, .int .i64 d], v, u] w fun e w' => e = .returned (.tuple #[.string (planT a b c d xs ch), .bool (planOk a b c d xs ch)]) ∧ Below w.heap.size w w' := by
  have HV := Lib.hid hv
  have HU := Lib.hid hu
  have Ht := Lib.hid ht
  obtain ⟨⟨A, c1, rfl, h1, h2, hr⟩, hg⟩ := hv
  obtain ⟨A', c2, rfl, h1', h2', hr'⟩ := hu
  unfold maxLen at h2 h2'
  obtain ⟨T, hT⟩ : ∃ T, T = planT a b c d xs ch := ⟨_, rfl⟩
  obtain ⟨k0, hk0⟩ : ∃ k, k = planOk a b c d xs ch := ⟨_, rfl⟩
  rw [← hT, ← hk0]
  have HT := Lib.hid hT
  have Hk := Lib.hid hk0
  clear ht hg hT hk0
  go_enter Tryd.func15, Tryd.ntmps15
  go_wp2_with fail
  refine box1 (C := fun W => Calls _ _ _ W _) ?_
  intro wb hw k1 hB0
  have R1 := boxRule k1
  clear k1
  have htm := implTimeIn_any a b c d _ _ xs ch wb (HV.out.to hw) (HU.out.to hw)
  by_cases hok : choiceOk a b c d xs ch = true
  case neg =>
    have hok' : choiceOk a b c d xs ch = false := by simpa using hok
    have Hno := Lib.hid (planOk_no1 hok')
    rw [timeInN_no hok', hok'] at htm
    have Htm := Lib.hid htm
    clear htm hok hok'
    refine Htm.out.mono ?_; rintro e w1 ⟨rfl, hb1⟩
    go_wp2_with fail
    go_ret2
    exact ⟨by rw [HT.out, Hk.out, planT_no Hno.out, Hno.out]; rfl, bw_to hw hb1⟩
  case pos =>
    rw [timeInN_yes hok, hok] at htm
    obtain ⟨he, hx, hc⟩ := choiceOk_parts hok
    have He := Lib.hid he
    have Hx := Lib.hid hx
    have Hc := Lib.hid hc
    have hlen := choice_len hx hc
    have hbd := evB_bd he
    have htp := time_pos he hx hc
    obtain ⟨t, hte⟩ : ∃ t, t = timeS b d xs ch := ⟨_, rfl⟩
    rw [← hte] at htm htp
    have Htm := Lib.hid htm
    have Hok := Lib.hid hok
    have Hte := Lib.hid hte
    clear htm hok he hx hc hte
    refine Htm.out.mono ?_; rintro e w1 ⟨rfl, hb1⟩
    by_cases htc : t ≤ c
    case neg =>
      have Hno := Lib.hid (planOk_no2 (a := a) (b := b) (c := c) (d := d) (xs := xs) (ch := ch) (by rw [← Hte.out]; exact htc))
      have htc' : c < t := by omega
      clear htc
      go_wp2_with fail
      go_ret2
      exact ⟨by rw [HT.out, Hk.out, planT_no Hno.out, Hno.out]; rfl, bw_to hw hb1⟩
    case pos =>
      have Hyes := Lib.hid (planOk_yes Hok.out (by rw [← Hte.out]; exact htc))
      have hze : (numT t).size ≤ 14 := numT_size (by omega) (by omega)
      have htc2 : ¬ c < t := by omega
      have Hjs := Lib.hid (jn_size xs ch a Hx.out Hc.out)
      go_wp2_with fail
      go_loopw [10, 31] (fun z i wr => ∃ k : Nat, k ≤ ch.length ∧ i = .int .i64 k ∧ Below wb.heap.size wb wr ∧ wr.ownsRow wb.heap.size 9 1 z k ((ws xs ch k).map Value.string)) (fun _ i _ => ch.length - (intOf i).toNat)
      case atStart => exact ⟨0, by omega, rfl, bw_al hb1 _, own_of_heap (cs := #[]) (n := 0) (heap_new w1 _) hb1.size (by unfold maxLen; omega) rfl⟩
      case round =>
        obtain ⟨k, hk, rfl, hB, hown⟩ := hrel
        have Hown := Lib.hid hown
        by_cases hlt : k < ch.length
        · obtain ⟨m, hm, hmx⟩ := choice_in Hc.out hlt
          have Hws := Lib.hid (ws_succ (xs := xs) hlt hm hmx)
          have hsz := wordI_size (items_good Hx.out hmx)
          have hbi := itB_bd (items_good Hx.out hmx)
          obtain ⟨ad', rfl, hC'⟩ := ints_el hr' hlt
          obtain ⟨ad, rfl, hC⟩ := items_el hr hmx
          have hmi : (m : Int) < xs.length := by omega
          have hm0 : (0 : Int) ≤ (m : Int) := by omega
          obtain ⟨x, ex⟩ : ∃ x, x = xs[m] := ⟨_, rfl⟩
          rw [← ex] at hC Hws hsz hbi
          have c0 := hC' wr (bw_to hw hB)
          rw [hm] at c0
          have CB0 := fun w' (hb : Below wb.heap.size wb w') => (hC w' (bw_to hw hb)).1
          have CB2 := fun w' (hb : Below wb.heap.size wb w') => (hC w' (bw_to hw hb)).2.2.1
          have o1 : ¬ 9223372036854775807 < x.name.size + 1 := by omega
          have o2 : ¬ 9223372036854775807 < x.name.size + 1 + (numT x.rows).size := by omega
          have hBd : Below wb.heap.size wb wr.drew := Below.drew hB
          have Hbi := Lib.hid hbi
          clear hm ex hsz hbi hown R1 hC hC'
          go_wp2_with fail
          go_region_held3 (fun w' => Below wb.heap.size wb w') (first | assumption | exact bw_to (by assumption) hb' | exact bw_al (by assumption) _ | exact Below.trans (by assumption) hb2)
            (first | (refine step_app_one _ (by rfl) _ _ _ (by rfl) wb.heap.size 9 _ 16 Tryd.underlying68 info_strN rfl (own_to hown' (bw_al (Below.refl _ _) _)) (by rfl) _ _ (by rfl) (heap_new _ _) rfl (by omega) (by omega) (Nat.le_trans hz' (by simp)) ?_; intro v2 w2 hown2 hb2) | (go_at_call 32; refine (decimal_any x.rows _ (by have := Hbi.out; omega) (by have := Hbi.out; omega) (Ht.out.to (bw_to hw hBd))).mono ?_; rintro e w' ⟨rfl, hb'⟩; (have hown' := own_to (World.ownsRow.drew Hown.out) hb'); (have hz' := (bw_to hBd hb').size)))
          go_wp2_with fail
          refine ⟨⟨k + 1, by omega, by go_num, by assumption, ?_⟩, by simp [intOf]; omega⟩
          rw [Hws.out, List.map_append]
          exact hown2
        · obtain rfl : k = ch.length := by omega
          have hjs := Hjs.out ch.length (Nat.le_refl _)
          obtain ⟨l, hl⟩ : ∃ l, l = ws xs ch ch.length := ⟨_, rfl⟩
          rw [← hl] at hown hjs
          have Hl := Lib.hid hl
          have hjo := joined_any _ _ _ l wr hown (.inr trivial) (by omega) (by omega)
          unfold semi at hjo
          have Hjo := Lib.hid hjo
          have HB := Lib.hid hB
          have o1 : ¬ 9223372036854775807 < (jn l).size + 2 := by omega
          have o2 : ¬ 9223372036854775807 < (jn l).size + 2 + (numT t).size := by omega
          clear hown hjo hl hB hr hr'
          go_wp2_with fail
          refine Hjo.out.mono ?_; rintro e w4 ⟨rfl, hb4⟩
          go_wp2_with fail
          refine (decimal_any t _ (by omega) (by omega) (Ht.out.to (bw_to hw (bw_to HB.out hb4)))).mono ?_; rintro e w5 ⟨rfl, hb5⟩
          go_wp2_with fail
          go_ret2
          exact ⟨by rw [HT.out, Hk.out, planT_yes Hyes.out, Hyes.out, ← Hl.out, ← Hte.out]; rfl, bw_to hw (bw_to (bw_to HB.out hb4) hb5)⟩
end Go.Proofs.YtamneiffhohleaaDoor
