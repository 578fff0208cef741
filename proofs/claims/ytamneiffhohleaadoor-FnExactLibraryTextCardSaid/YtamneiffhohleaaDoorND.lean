/- The law LibraryText, walked. -/
import Derived.Test.YtamneiffhohleaaDoorNC
namespace Go.Proofs.YtamneiffhohleaaDoor
open Go Go.RowKit
set_option linter.unusedVariables false
set_option linter.unusedSimpArgs false

set_option maxHeartbeats 1000000 in
theorem implLibraryText_any (V : Value) (ms : List Mt) (w : World) (h : Meths w V ms) (hs : AllSmall ms) (ht : Tab10 w) : Calls Tryd.prog 21 #[V] w fun e w' => e = .returned (.tuple #[.string (libT ms), .bool (libB ms)]) ∧ Below w.heap.size w w' := by
  obtain ⟨T, hT⟩ : ∃ T, T = libT ms := ⟨_, rfl⟩
  obtain ⟨b, hb⟩ : ∃ b, b = libB ms := ⟨_, rfl⟩
  rw [← hT, ← hb]
  have HT := Lib.hid hT
  have Hb := Lib.hid hb
  have H := Lib.hid h
  have Hs := Lib.hid hs
  have Ht := Lib.hid ht
  clear ht
  clear hT hb h hs
  have hg := implGoodLibrary_any V ms w H.out Hs.out
  rw [← Hb.out] at hg
  have Hg := Lib.hid hg
  clear hg
  go_enter Tryd.func21, Tryd.ntmps21
  go_wp2_with fail
  refine Hg.out.mono ?_; rintro e w1 ⟨rfl, hb1⟩
  cases b
  · have Hn := Lib.hid (libT_no Hb.out.symm)
    go_wp2_with fail
    go_ret2
    exact ⟨by rw [HT.out, Hn.out]; rfl, hb1⟩
  · have Hn := Lib.hid (libT_yes Hb.out.symm)
    go_wp2_with fail
    refine (libraryText_any V ms w1 (H.out.to hb1) Hs.out Hb.out.symm (Ht.out.to hb1)).mono ?_; rintro e w2 ⟨rfl, hb2⟩
    rw [← Hn.out, ← HT.out]
    go_wp2_with fail
    go_ret2
    exact ⟨rfl, bw_to hb1 hb2⟩
set_option maxHeartbeats 1000000 in
theorem specLibraryText_any (V : Value) (ms : List Mt) (w : World) (h : Meths w V ms) (hs : AllSmall ms) : Calls Tryd.prog 19 #[V] w fun e w' => e = .returned (.tuple #[.string (libT ms), .bool (libB ms)]) ∧ Below w.heap.size w w' := by
  obtain ⟨T, hT⟩ : ∃ T, T = libT ms := ⟨_, rfl⟩
  obtain ⟨b, hb⟩ : ∃ b, b = libB ms := ⟨_, rfl⟩
  rw [← hT, ← hb]
  have HT := Lib.hid hT
  have Hb := Lib.hid hb
  have H := Lib.hid h
  have Hs := Lib.hid hs
  clear hT hb h hs
  have hg := l29Good_any V ms w H.out Hs.out
  rw [← Hb.out] at hg
  have Hg := Lib.hid hg
  clear hg
  go_enter Tryd.func19, Tryd.ntmps19
  go_wp2_with fail
  refine Hg.out.mono ?_; rintro e w1 ⟨rfl, hb1⟩
  cases b
  · have Hn := Lib.hid (libT_no Hb.out.symm)
    go_wp2_with fail
    go_ret2
    exact ⟨by rw [HT.out, Hn.out]; rfl, hb1⟩
  · have Hn := Lib.hid (libT_yes Hb.out.symm)
    go_wp2_with fail
    refine (l29Text_any V ms w1 (H.out.to hb1) Hs.out Hb.out.symm).mono ?_; rintro e w2 ⟨rfl, hb2⟩
    rw [← Hn.out, ← HT.out]
    go_wp2_with fail
    go_ret2
    exact ⟨rfl, bw_to hb1 hb2⟩
set_option maxHeartbeats 1000000 in
theorem lawLibraryText_any (V : Value) (ms : List Mt) (w : World) (h : Meths w V ms) (ht : Tab10 w) : Calls Tryd.prog 5 #[V] w fun e w' => e = .returned (.bool true) ∧ Below w.heap.size w w' := by
  obtain ⟨T, hT⟩ : ∃ T, T = libT ms := ⟨_, rfl⟩
  obtain ⟨b, hb⟩ : ∃ b, b = libB ms := ⟨_, rfl⟩
  have HT := Lib.hid hT
  have Hb := Lib.hid hb
  have Ht := Lib.hid ht
  clear hT hb ht
  go_enter Tryd.func5, Tryd.ntmps5
  go_wp2_with fail
  refine (szMethodS_any _ _ _ _ h (by omega) (by omega)).mono ?_; rintro e w1 ⟨r, rfl, hr0, hr1, hsm, hb1⟩
  have Hsm := Lib.hid hsm
  clear hsm
  go_wp2_with fail
  · go_ret
    exact ⟨rfl, hb1⟩
  · rename_i hpos
    have hs := Hsm.out (by omega)
    refine (toMethodS_any _ _ _ (h.to hb1) hs).mono ?_; rintro e w2 ⟨r2, rfl, ho2, hb2⟩
    have hB2 := bw_to hb1 hb2
    go_wp2_with fail
    have hsp := specLibraryText_any _ _ _ (ho2.meths hs) hs
    rw [← HT.out, ← Hb.out] at hsp
    have Hsp := Lib.hid hsp
    clear hsp
    refine Hsp.out.mono ?_; rintro e w3 ⟨rfl, hb3⟩
    have hB3 := bw_to hB2 hb3
    go_wp2_with fail
    refine (toMethodS_any _ _ _ (h.to hB3) hs).mono ?_; rintro e w4 ⟨r4, rfl, ho4, hb4⟩
    have hB4 := bw_to hB3 hb4
    go_wp2_with fail
    have him := implLibraryText_any _ _ _ (ho4.meths hs) hs (Ht.out.to hB4)
    rw [← HT.out, ← Hb.out] at him
    have Him := Lib.hid him
    clear him
    refine Him.out.mono ?_; rintro e w5 ⟨rfl, hb5⟩
    have hB5 := bw_to hB4 hb5
    go_wp2_with fail
    refine (toMethodS_any _ _ _ (h.to hB5) hs).mono ?_; rintro e w6 ⟨r6, rfl, ho6, hb6⟩
    have hB6 := bw_to hB5 hb6
    go_wp2_with fail
    refine (eqMethodS_same _ _ _ _ (((ho4.to hb5).to hb6).meths hs) (ho6.meths hs)).mono ?_; rintro e w7 ⟨rfl, hb7⟩
    go_wp2_with fail
    go_ret
    exact ⟨rfl, bw_to hB6 hb7⟩
end Go.Proofs.YtamneiffhohleaaDoor
