/- The law StudyText, walked. -/
import Derived.Test.YtamneiffhohleaaDoorN2
namespace Go.Proofs.YtamneiffhohleaaDoor
open Go Go.RowKit
set_option linter.unusedVariables false
set_option linter.unusedSimpArgs false

set_option maxRecDepth 10000 in
set_option maxHeartbeats 2000000 in
theorem toStudy_any (a b : Int) (p q r : Bool) (s : Int) (w : World) : Calls Tryd.prog 8 #[.agg #[.int .i64 a, .int .i64 b, .bool p, .bool q, .bool r, .int .i64 s]] w fun e w' =>
    e = .returned (.agg #[.int .i64 a, .int .i64 b, .bool p, .bool q, .bool r, .int .i64 s]) ∧ Below w.heap.size w w' := by
  go_enter Tryd.func8, Tryd.ntmps8
  go_wp2_with fail
  refine bodyPost_ret (v := .agg #[.int .i64 a, .int .i64 b, .bool p, .bool q, .bool r, .int .i64 s]) (by simp [results, go_sem]) rfl ⟨rfl, ?_⟩
  exact bw_al (bw_al (bw_al (Below.refl _ _) _) _) _
set_option maxRecDepth 10000 in
set_option maxHeartbeats 2000000 in
theorem lawStudyText_any (a b : Int) (p q r : Bool) (s : Int) (w : World) (ht : Tab10 w) : Calls Tryd.prog 3 #[.agg #[.int .i64 a, .int .i64 b, .bool p, .bool q, .bool r, .int .i64 s]] w fun e w' =>
    e = .returned (.bool true) ∧ Below w.heap.size w w' := by
  obtain ⟨T, hT⟩ : ∃ T, T = stT a b p q r s := ⟨_, rfl⟩
  obtain ⟨k, hk⟩ : ∃ k, k = okS a b s := ⟨_, rfl⟩
  have HT := Lib.hid hT
  have Hk := Lib.hid hk
  have Ht := Lib.hid ht
  clear hT hk ht
  go_enter Tryd.func3, Tryd.ntmps3
  go_wp2_with fail
  refine box1 (C := fun W => Calls _ _ _ W _) ?_
  intro wb hw k1 hB0
  have R1 := boxRule k1
  clear k1
  refine (toStudy_any a b p q r s wb).mono ?_; rintro e w1 ⟨rfl, hb1⟩
  go_wp2_with fail
  have hsp := specStudyText_any a b p q r s w1
  rw [← HT.out, ← Hk.out] at hsp
  have Hsp := Lib.hid hsp
  clear hsp
  refine Hsp.out.mono ?_; rintro e w2 ⟨rfl, hb2⟩
  have hB2 := bw_to hb1 hb2
  go_wp2_with fail
  refine (toStudy_any a b p q r s w2).mono ?_; rintro e w3 ⟨rfl, hb3⟩
  have hB3 := bw_to hB2 hb3
  go_wp2_with fail
  have him := implStudyText_any a b p q r s w3 (Ht.out.to (bw_to hw hB3))
  rw [← HT.out, ← Hk.out] at him
  have Him := Lib.hid him
  clear him
  refine Him.out.mono ?_; rintro e w4 ⟨rfl, hb4⟩
  have hB4 := bw_to hB3 hb4
  go_wp2_with fail
  go_ret
  exact ⟨rfl, bw_to hw hB4⟩
end Go.Proofs.YtamneiffhohleaaDoor
