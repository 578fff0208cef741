/- The law BookText, walked. -/
import Derived.Test.YtamneiffhohleaaDoorV4
namespace Go.Proofs.YtamneiffhohleaaDoor
open Go Go.RowKit
set_option linter.unusedVariables false
set_option linter.unusedSimpArgs false

theorem RcsSmall.fit {xs : List Rc} (h : RcsSmall xs) : AllFit xs := fun x hx => (h.2 x hx).fit
theorem own_recs {w : World} {base : Nat} {v : Value} {xs : List Rc} (h : w.ownsRow base 83 5 v xs.length (xs.flatMap Rc.cells)) : Recs w v xs := recs_of_own h
set_option maxHeartbeats 1000000 in
theorem lawBookText_any (V : Value) (xs : List Rc) (w : World) (h : Recs w V xs ∧ ∀ x ∈ xs, RcFit x) (ht : Tab10 w) : Calls Tryd.prog 6 #[V] w fun e w' => e = .returned (.bool true) ∧ Below w.heap.size w w' := by
  obtain ⟨h, hf⟩ := h
  obtain ⟨T, hT⟩ : ∃ T, T = bookT xs := ⟨_, rfl⟩
  obtain ⟨b, hb⟩ : ∃ b, b = bookB xs := ⟨_, rfl⟩
  have HT := Lib.hid hT
  have Hb := Lib.hid hb
  have Ht := Lib.hid ht
  clear hT hb ht
  go_enter Tryd.func6, Tryd.ntmps6
  go_wp2_with fail
  refine (szRecordS_any _ _ _ _ h hf (by omega) (by omega)).mono ?_; rintro e w1 ⟨r, rfl, hr0, hr1, hsm, hb1⟩
  have Hsm := Lib.hid hsm
  clear hsm hf
  go_wp2_with fail
  · go_ret
    exact ⟨rfl, hb1⟩
  · rename_i hpos
    have hs := Hsm.out (by omega)
    refine (toRecordS_any _ _ _ (h.to hb1) hs.1).mono ?_; rintro e w2 ⟨r2, rfl, ho2, hb2⟩
    have hB2 := bw_to hb1 hb2
    go_wp2_with fail
    have hsp := specBookText_any _ _ _ (own_recs ho2) hs.fit
    rw [← HT.out, ← Hb.out] at hsp
    have Hsp := Lib.hid hsp
    clear hsp
    refine Hsp.out.mono ?_; rintro e w3 ⟨rfl, hb3⟩
    have hB3 := bw_to hB2 hb3
    go_wp2_with fail
    refine (toRecordS_any _ _ _ (h.to hB3) hs.1).mono ?_; rintro e w4 ⟨r4, rfl, ho4, hb4⟩
    have hB4 := bw_to hB3 hb4
    go_wp2_with fail
    have him := implBookText_any _ _ _ (own_recs ho4) hs.fit (Ht.out.to hB4)
    rw [← HT.out, ← Hb.out] at him
    have Him := Lib.hid him
    clear him
    refine Him.out.mono ?_; rintro e w5 ⟨rfl, hb5⟩
    have hB5 := bw_to hB4 hb5
    go_wp2_with fail
    refine (toRecordS_any _ _ _ (h.to hB5) hs.1).mono ?_; rintro e w6 ⟨r6, rfl, ho6, hb6⟩
    have hB6 := bw_to hB5 hb6
    go_wp2_with fail
    refine (eqRecordS_same _ _ _ _ (((own_recs ho4).to hb5).to hb6) (own_recs ho6)).mono ?_; rintro e w7 ⟨rfl, hb7⟩
    go_wp2_with fail
    go_ret
    exact ⟨rfl, bw_to hB6 hb7⟩
end Go.Proofs.YtamneiffhohleaaDoor
