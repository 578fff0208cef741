/- The law GoodLibrary, walked. -/
import Derived.Test.YtnbehldacehiiaaS4
namespace Go.Proofs.Ytnbehldacehiiaa
open Go Go.RowKit
set_option linter.unusedVariables false
set_option linter.unusedSimpArgs false

theorem specGoodLibrary_any (V : Value) (ms : List Mt) (w : World) (h : Meths w V ms) (hs : AllSmall ms) : Calls Try.prog 11 #[V] w fun e w' => e = .returned (.bool (libB ms)) ∧ Below w.heap.size w w' := by
  go_enter Try.func11, Try.ntmps11
  go_wp2_with fail
  refine (l29Good_any _ _ _ h hs).mono ?_; rintro e w1 ⟨rfl, hb1⟩
  go_wp2_with fail
  go_ret
  exact ⟨rfl, hb1⟩
set_option maxHeartbeats 1000000 in
theorem lawGoodLibrary_any (V : Value) (ms : List Mt) (w : World) (h : Meths w V ms) : Calls Try.prog 3 #[V] w fun e w' => e = .returned (.bool true) ∧ Below w.heap.size w w' := by
  go_enter Try.func3, Try.ntmps3
  go_wp2_with fail
  refine (szMethodS_any _ _ _ _ h (by omega) (by omega)).mono ?_; rintro e w1 ⟨r, rfl, hr0, hr1, hsm, hb1⟩
  have Hsm := Lib.hid hsm
  clear hsm
  go_wp2_with fail
  · go_ret
    exact ⟨rfl, hb1⟩
  · rename_i hpos
    have hs := Hsm.out (by omega)
    refine (toMethodS_any _ _ _ (h.to hb1) hs).mono ?_; rintro e w2 ⟨r2, rfl, ho2, hb2⟩
    have hB2 := bw_to hb1 hb2
    go_wp2_with fail
    refine (specGoodLibrary_any _ _ _ (ho2.meths hs) hs).mono ?_; rintro e w3 ⟨rfl, hb3⟩
    have hB3 := bw_to hB2 hb3
    go_wp2_with fail
    refine (toMethodS_any _ _ _ (h.to hB3) hs).mono ?_; rintro e w4 ⟨r4, rfl, ho4, hb4⟩
    have hB4 := bw_to hB3 hb4
    go_wp2_with fail
    refine (implGoodLibrary_any _ _ _ (ho4.meths hs) hs).mono ?_; rintro e w5 ⟨rfl, hb5⟩
    have hB5 := bw_to hB4 hb5
    go_wp2_with fail
    refine (toMethodS_any _ _ _ (h.to hB5) hs).mono ?_; rintro e w6 ⟨r6, rfl, ho6, hb6⟩
    have hB6 := bw_to hB5 hb6
    go_wp2_with fail
    refine (eqMethodS_same _ _ _ _ (((ho4.to hb5).to hb6).meths hs) (ho6.meths hs)).mono ?_; rintro e w7 ⟨rfl, hb7⟩
    go_wp2_with fail
    go_ret
    exact ⟨rfl, bw_to hB6 hb7⟩
end Go.Proofs.Ytnbehldacehiiaa
