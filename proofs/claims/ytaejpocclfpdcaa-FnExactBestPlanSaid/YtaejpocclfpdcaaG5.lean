/- Contracts: CheckBest and BestPlan, the program's and the reference's; the law of CheckBest. -/
import Derived.Test.YtaejpocclfpdcaaG4
import Derived.Test.YtaejpocclfpdcaaF1
namespace Go.Proofs.Ytaejpocclfpdcaa
open Go Go.RowKit
set_option linter.unusedVariables false
set_option linter.unusedSimpArgs false

def bestS (a b c d : Int) (xs : List It) : List Int := bestTo a b c d xs (2 ^ xs.length)
def checkB (a b c d : Int) (xs : List It) (ch : List Int) : Bool := planB a b c d xs && decide (bestS a b c d xs = ch)
theorem plan_parts {a b c d : Int} {xs : List It} (h : planB a b c d xs = true) : evB a b c d = true ∧ itemsB xs = true := by unfold planB at h; simpa using h
theorem check_spec {a b c d : Int} {xs : List It} {ch : List Int} (h : choiceOk a b c d xs ch = false) : checkB a b c d xs ch = false := by
  unfold checkB
  cases hp : planB a b c d xs
  · rfl
  · rw [Bool.true_and, decide_eq_false_iff_not]
    rintro rfl
    obtain ⟨h1, h2⟩ := plan_parts hp
    unfold choiceOk at h
    rw [h1, h2, show choiceB a xs (bestS a b c d xs) = true from best_ok _ _ _ _ _ _] at h
    cases h

set_option maxHeartbeats 1000000 in
theorem implCheckBest_any (a b c d : Int) (v u : Value) (xs : List It) (ch : List Int) (w : World) (hv : Items w v xs) (hu : Ints w u ch) :
    Calls Try.prog 26 #[.agg #[.int .i64 a, .int .i64 b, .int .i64 c, .int .i64 d], v, u] w fun e w' => e = .returned (.bool (checkB a b c d xs ch)) ∧ Below w.heap.size w w' := by
  go_enter Try.func26, Try.ntmps26
  go_wp2_with fail
  refine box1 (C := fun W => Calls _ _ _ W _) ?_
  intro wb hw k1 hB0
  have R1 := boxRule k1
  clear k1
  refine (goodPlan_any _ _ _ _ _ _ _ (hv.to hw)).mono ?_; rintro e w2 ⟨rfl, hb2⟩
  have hB2 := bw_to hB0 hb2
  have hBw2 := bw_to hw hB2
  by_cases hpl : planB a b c d xs = true
  · have Hpl := Lib.hid hpl
    go_wp2_with fail
    refine (bestPlan_any _ _ _ _ _ _ _ (hv.to hBw2) (plan_parts Hpl.out).1 (plan_parts Hpl.out).2).mono ?_; rintro e w3 ⟨r, rfl, ho3, hb3⟩
    have hB3 := bw_to hB2 hb3
    have hBw3 := bw_to hw hB3
    go_wp2_with fail
    refine (slicesEqualInt_any _ _ _ ch _ (ints_of_own ho3) (hu.to hBw3)).mono ?_; rintro e w4 ⟨rfl, hb4⟩
    go_wp2_with fail
    go_ret
    exact ⟨ret_bool (by unfold checkB; rw [Hpl.out]; rfl), bw_to hBw3 hb4⟩
  · have hpl' : planB a b c d xs = false := by simpa using hpl
    have Hpl := Lib.hid hpl'
    clear hpl
    go_wp2_with fail
    go_ret
    exact ⟨ret_bool (by unfold checkB; rw [Hpl.out]; rfl), hBw2⟩
set_option maxHeartbeats 1000000 in
theorem specCheckBest_any (a b c d : Int) (v u : Value) (xs : List It) (ch : List Int) (w : World) (hv : Items w v xs) (hu : Ints w u ch) :
    Calls Try.prog 25 #[.agg #[.int .i64 a, .int .i64 b, .int .i64 c, .int .i64 d], v, u] w fun e w' => e = .returned (.bool (checkB a b c d xs ch)) ∧ Below w.heap.size w w' := by
  go_enter Try.func25, Try.ntmps25
  go_wp2_with fail
  refine box1 (C := fun W => Calls _ _ _ W _) ?_
  intro wb hw k1 hB0
  have R1 := boxRule k1
  clear k1
  refine (l30Choice_any _ _ _ _ _ _ _ _ _ (hv.to hw) (hu.to hw)).mono ?_; rintro e w2 ⟨rfl, hb2⟩
  have hB2 := bw_to hB0 hb2
  have hBw2 := bw_to hw hB2
  by_cases hok : choiceOk a b c d xs ch = true
  · have Hp := Lib.hid (choiceOk_parts hok)
    have Hpl : Hid (planB a b c d xs = true) := by have := Hp.out; unfold planB; rw [this.1, this.2.1]; rfl
    go_wp2_with fail
    refine (l30Best_any _ _ _ _ _ _ _ (hv.to hBw2) Hp.out.1 Hp.out.2.1).mono ?_; rintro e w3 ⟨r, rfl, ho3, hb3⟩
    have hB3 := bw_to hB2 hb3
    have hBw3 := bw_to hw hB3
    go_wp2_with fail
    refine (l1Same_any _ _ ch _ _ (hu.to hBw3) (ints_of_own ho3)).mono ?_; rintro e w4 ⟨rfl, hb4⟩
    go_wp2_with fail
    go_ret
    exact ⟨ret_bool (by unfold checkB; rw [Hpl.out, Bool.true_and]; exact decide_eq_decide.2 ⟨fun h => h.symm, fun h => h.symm⟩), bw_to hBw3 hb4⟩
  · have hok' : choiceOk a b c d xs ch = false := by simpa using hok
    have Hok := Lib.hid (check_spec hok')
    clear hok
    go_wp2_with fail
    go_ret
    exact ⟨ret_bool Hok.out.symm, hBw2⟩
set_option maxHeartbeats 2000000 in
theorem lawCheckBest_any (a b c d : Int) (v : Value) (xs : List It) (u : Value) (ch : List Int) (w : World) (hv : Items w v xs) (hu : Ints w u ch) :
    Calls Try.prog 7 #[.agg #[.int .i64 a, .int .i64 b, .int .i64 c, .int .i64 d], v, u] w fun e w' => e = .returned (.bool true) ∧ Below w.heap.size w w' := by
  have hu0 := hu
  obtain ⟨A', c2, rfl, h1', h2', hr'⟩ := hu
  unfold maxLen at h2'
  by_cases hbig : ch.length ≤ 1048576
  · go_enter Try.func7, Try.ntmps7
    go_wp2_with fail
    refine box1 (C := fun W => Calls _ _ _ W _) ?_
    intro wb hw k1 hB0
    have R1 := boxRule k1
    clear k1
    refine (szItemS_any _ xs _ (hv.to hw)).mono ?_; rintro e w1 ⟨r, rfl, hrl, hb1⟩
    have hB1 := bw_to hB0 hb1
    have hBw1 := bw_to hw hB1
    by_cases hr0 : r < 0
    · go_wp2_with fail
      go_ret
      exact ⟨rfl, hBw1⟩
    · have hxl := hrl (by omega)
      clear hrl
      go_wp2_with fail
      refine (toEvening_any _ _ _ _ _).mono ?_; rintro e w2 ⟨rfl, hb2⟩
      have hB2 := bw_to hB1 hb2
      go_wp2_with fail
      refine (toItemS_any _ xs _ (hv.to (bw_to hw hB2)) hxl).mono ?_; rintro e w3 ⟨v3, rfl, ho3, hb3⟩
      have hB3 := bw_to hB2 hb3
      have hi3 := items_of_own ho3 hv.2
      go_wp2_with fail
      refine (toIntS_any _ ch _ (hu0.to (bw_to hw hB3)) hbig).mono ?_; rintro e w4 ⟨u4, rfl, ho4, hb4⟩
      have hB4 := bw_to hB3 hb4
      go_wp2_with fail
      refine (specCheckBest_any _ _ _ _ _ _ xs ch _ (hi3.to hb4) (ints_of_own ho4)).mono ?_; rintro e w5 ⟨rfl, hb5⟩
      have hB5 := bw_to hB4 hb5
      clear hi3 ho3 ho4
      go_wp2_with fail
      refine (toItemS_any _ xs _ (hv.to (bw_to hw hB5)) hxl).mono ?_; rintro e w6 ⟨v6, rfl, ho6, hb6⟩
      have hB6 := bw_to hB5 hb6
      have hi6 := items_of_own ho6 hv.2
      go_wp2_with fail
      refine (toIntS_any _ ch _ (hu0.to (bw_to hw hB6)) hbig).mono ?_; rintro e w7 ⟨u7, rfl, ho7, hb7⟩
      have hB7 := bw_to hB6 hb7
      have hu7 := ints_of_own ho7
      have hi7 := hi6.to hb7
      go_wp2_with fail
      refine (toEvening_any _ _ _ _ _).mono ?_; rintro e w8 ⟨rfl, hb8⟩
      have hB8 := bw_to hB7 hb8
      go_wp2_with fail
      refine (implCheckBest_any _ _ _ _ _ _ xs ch _ (hi7.to hb8) (hu7.to hb8)).mono ?_; rintro e w9 ⟨rfl, hb9⟩
      have hB9 := bw_to hB8 hb9
      have hi9 := (hi7.to hb8).to hb9
      have hu9 := (hu7.to hb8).to hb9
      clear hi6 hi7 ho6 ho7 hu7
      go_wp2_with fail
      refine (toItemS_any _ xs _ (hv.to (bw_to hw hB9)) hxl).mono ?_; rintro e w10 ⟨v10, rfl, ho10, hb10⟩
      have hB10 := bw_to hB9 hb10
      go_wp2_with fail
      refine (eqItemS_same _ _ xs _ (hi9.to hb10) (items_of_own ho10 hv.2)).mono ?_; rintro e w11 ⟨rfl, hb11⟩
      have hB11 := bw_to hB10 hb11
      go_wp2_with fail
      refine (toIntS_any _ ch _ (hu0.to (bw_to hw hB11)) hbig).mono ?_; rintro e w12 ⟨u12, rfl, ho12, hb12⟩
      have hB12 := bw_to hB11 hb12
      go_wp2_with fail
      refine (eqIntS_same _ _ ch _ (((hu9.to hb10).to hb11).to hb12) (ints_of_own ho12)).mono ?_; rintro e w13 ⟨rfl, hb13⟩
      go_wp2_with fail
      go_ret
      exact ⟨rfl, bw_to hw (bw_to hB12 hb13)⟩
  · go_enter Try.func7, Try.ntmps7
    go_wp2_with fail
    go_ret
    exact ⟨rfl, bw_al (Below.refl _ _) _⟩
end Go.Proofs.Ytaejpocclfpdcaa
