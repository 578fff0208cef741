/- The law ReadBook, walked. -/
import Derived.Test.YtpkpahadjdkafaaDoorZ2
import Derived.Test.YtpkpahadjdkafaaDoorW4
namespace Go.Proofs.YtpkpahadjdkafaaDoor
open Go Go.RowKit
set_option linter.unusedVariables false
set_option linter.unusedSimpArgs false

theorem below_row {a w w1 : World} {e : TypeId} {size n base : Nat} {v : Value} {xs : List Value} (h : Below a.heap.size a w) (ho : w.ownsRow base e size v n xs) (hb : a.heap.size ≤ base) (hg : w.grownBy w1 v.ownBlock) : Below a.heap.size a w1 :=
  h.grown hg h.size (fun k hk => Nat.le_trans hb (ho.lt k hk).1)
theorem book_len : ∀ (ls : List ByteArray) (acc : List Rc) (a : Nat), acc.length ≤ 20 → (bookOf ls acc a).1.length ≤ 20
  | [], acc, a, h => h
  | l :: ls, acc, a, h => by
    rw [bookOf]
    split
    · split
      · rename_i hb
        exact book_len ls _ _ ((bookB_iff _).1 hb).1
      · exact h
    · exact h
theorem rbL_len (s : ByteArray) : (rbL s).length ≤ 20 := by
  unfold rbL
  split
  · exact book_len _ _ _ (by simp)
  · simp
set_option maxRecDepth 100000 in
set_option maxHeartbeats 4000000 in
theorem lawReadBook_any (s : ByteArray) (w : World) (hs : s.size ≤ maxLen) (ht : Tab10 w) (hm : MaxOk w) : Calls Tryd.prog 5 #[.string s] w fun e w' => e = .returned (.bool true) ∧ Below w.heap.size w w' := by
  unfold maxLen at hs
  by_cases hbig : 1048576 < s.size
  · have hbz : (1048576 : Int) < s.size := by omega
    clear ht hm
    go_enter Tryd.func5, Tryd.ntmps5
    go_wp2_with fail
    go_ret
    exact ⟨rfl, Below.refl _ _⟩
  · have hs2 : s.size ≤ 1048576 := by omega
    have hbz : (s.size : Int) ≤ 1048576 := by omega
    have Hsp := Lib.hid (fun W => specReadBook_any s W hs2)
    have Him := Lib.hid (fun W (hW : Below w.heap.size w W) => implReadBook_any s W hs2 (ht.to hW) (hm.to hW))
    unfold RBPost at Hsp Him
    have hL := rbL_len s
    obtain ⟨L, hLe⟩ : ∃ L, L = rbL s := ⟨_, rfl⟩
    obtain ⟨N, hN⟩ : ∃ N, N = rbN s := ⟨_, rfl⟩
    obtain ⟨b, hb⟩ : ∃ b, b = rbO s := ⟨_, rfl⟩
    rw [← hLe, ← hN, ← hb] at Hsp Him
    rw [← hLe] at hL
    clear ht hm hLe hN hb
    go_enter Tryd.func5, Tryd.ntmps5
    go_wp2_with fail
    refine (Hsp.out w).mono ?_; rintro e w1 ⟨A1, q1, rfl, p1, hb1⟩
    have P1 := Lib.hid p1
    clear p1
    go_wp2_with fail
    refine (Him.out _ hb1).mono ?_; rintro e w2 ⟨A2, q2, rfl, g2, hb2⟩
    have hB2 := bw_to hb1 hb2
    have P2 := Lib.hid (own_to P1.out hb2)
    have G2 := Lib.hid g2
    have Ap := Lib.hid (own_apart P1.out G2.out (Nat.le_refl _))
    have Ap' := Lib.hid (own_apart' P1.out G2.out (Nat.le_refl _))
    clear hb2 g2
    go_wp2_with fail
    refine (eqRecordS_same _ _ L _ (recs_of_own G2.out) (recs_of_own P2.out)).mono ?_; rintro e w3 ⟨rfl, hb3⟩
    have hB3 := bw_to hB2 hb3
    have P3 := Lib.hid (own_to P2.out hb3)
    have G3 := Lib.hid (own_to G2.out hb3)
    clear hb3 hB2
    go_wp2_with fail
    refine (markRecordS_any _ L.length 1 _ _ _ G3.out (by omega) (by omega)).mono ?_; rintro e w4 ⟨rfl, g4, hg4⟩
    have hB4 := below_row hB3 G3.out hb1.size hg4
    have P4 := Lib.hid (P3.out.kept hg4 Ap'.out)
    have g4' : Recs w4 (.slice A2 L.length q2) (marksR 1 L.length) := recs_of_own (by rw [marksR_length]; exact g4)
    have G4 := Lib.hid g4'
    clear g4 g4' hg4 hB3
    go_wp2_with fail
    refine (heldRecordS_any _ L.length 1 _ G4.out (by omega) (by omega)).mono ?_; rintro e w5 ⟨rfl, hb5⟩
    have hB5 := bw_to hB4 hb5
    have P5 := Lib.hid (own_to P4.out hb5)
    have G5 := Lib.hid (G4.out.to hb5)
    clear hb5 hB4
    go_wp2_with fail
    refine (Him.out _ hB5).mono ?_; rintro e w6 ⟨A6, q6, rfl, h6, hb6⟩
    have hB6 := bw_to hB5 hb6
    have H6 := Lib.hid h6
    have P6 := Lib.hid (own_to P5.out hb6)
    have G6 := Lib.hid (G5.out.to hb6)
    clear h6 hb6 hB5
    go_wp2_with fail
    refine (eqRecordS_same _ _ L _ (recs_of_own H6.out) (recs_of_own P6.out)).mono ?_; rintro e w7 ⟨rfl, hb7⟩
    have hB7 := bw_to hB6 hb7
    have G7 := Lib.hid (G6.out.to hb7)
    clear hb7 hB6
    go_wp2_with fail
    refine (heldRecordS_any _ L.length 1 _ G7.out (by omega) (by omega)).mono ?_; rintro e w8 ⟨rfl, hb8⟩
    go_wp2_with fail
    go_ret
    exact ⟨rfl, bw_to hB7 hb8⟩
end Go.Proofs.YtpkpahadjdkafaaDoor
