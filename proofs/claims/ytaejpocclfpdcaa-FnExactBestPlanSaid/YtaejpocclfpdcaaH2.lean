/- The law of BestPlan. -/
import Derived.Test.YtaejpocclfpdcaaG5
import Derived.Test.YtaejpocclfpdcaaH1
namespace Go.Proofs.Ytaejpocclfpdcaa
open Go Go.RowKit
set_option linter.unusedVariables false
set_option linter.unusedSimpArgs false

def planL (a b c d : Int) (xs : List It) : List Int := if planB a b c d xs then bestS a b c d xs else []
theorem planL_yes {a b c d : Int} {xs : List It} (h : planB a b c d xs = true) : planL a b c d xs = bestTo a b c d xs (2 ^ xs.length) := by unfold planL; rw [h]; rfl
theorem planL_no {a b c d : Int} {xs : List It} (h : planB a b c d xs = false) : planL a b c d xs = [] := by unfold planL; rw [h]; rfl
theorem ret_sb {v : Value} {p q : Bool} (k : p = q) : Ending.returned (.tuple #[v, .bool p]) = .returned (.tuple #[v, .bool q]) := by rw [k]
theorem planL_len (a b c d : Int) (xs : List It) : (planL a b c d xs).length ≤ xs.length := by
  unfold planL
  split
  · exact rising_len (choice_rising (best_ok a b c d xs _))
  · simp

set_option maxHeartbeats 1000000 in
theorem implBestPlan_any (a b c d : Int) (v : Value) (xs : List It) (w : World) (hv : Items w v xs) :
    Calls Try.prog 28 #[.agg #[.int .i64 a, .int .i64 b, .int .i64 c, .int .i64 d], v] w fun e w' =>
      ∃ r : Value, e = .returned (.tuple #[r, .bool (planB a b c d xs)]) ∧ w'.ownsRow w.heap.size 3 1 r (planL a b c d xs).length ((planL a b c d xs).map (Value.int .i64)) ∧ Below w.heap.size w w' := by
  go_enter Try.func28, Try.ntmps28
  go_wp2_with fail
  refine box1 (C := fun W => Calls _ _ _ W _) ?_
  intro wb hw k1 hB0
  have R1 := boxRule k1
  clear k1
  refine (goodPlan_any _ _ _ _ _ _ _ (hv.to hw)).mono ?_; rintro e w2 ⟨rfl, hb2⟩
  have hB2 := bw_to hB0 hb2
  have hBw2 := bw_to hw hB2
  by_cases hpl : planB a b c d xs = true
  · have Hpl := Lib.hid hpl
    go_wp2_with fail
    refine (bestPlan_any _ _ _ _ _ _ _ (hv.to hBw2) (plan_parts Hpl.out).1 (plan_parts Hpl.out).2).mono ?_; rintro e w3 ⟨r, rfl, ho3, hb3⟩
    go_wp2_with fail
    go_ret2
    refine ⟨r, ret_sb Hpl.out.symm, ?_, bw_to hBw2 hb3⟩
    rw [planL_yes Hpl.out]
    exact own_base ho3 hBw2.size
  · have hpl' : planB a b c d xs = false := by simpa using hpl
    have Hpl := Lib.hid hpl'
    clear hpl
    go_wp2_with fail
    go_ret2
    refine ⟨_, ret_sb Hpl.out.symm, ?_, hBw2⟩
    rw [planL_no Hpl.out]
    exact World.ownsRow_nil _ _ _ _
set_option maxHeartbeats 1000000 in
theorem specBestPlan_any (a b c d : Int) (v : Value) (xs : List It) (w : World) (hv : Items w v xs) :
    Calls Try.prog 27 #[.agg #[.int .i64 a, .int .i64 b, .int .i64 c, .int .i64 d], v] w fun e w' =>
      ∃ r : Value, e = .returned (.tuple #[r, .bool (planB a b c d xs)]) ∧ w'.ownsRow w.heap.size 3 1 r (planL a b c d xs).length ((planL a b c d xs).map (Value.int .i64)) ∧ Below w.heap.size w w' := by
  go_enter Try.func27, Try.ntmps27
  go_wp2_with fail
  refine box1 (C := fun W => Calls _ _ _ W _) ?_
  intro wb hw k1 hB0
  have R1 := boxRule k1
  clear k1
  refine (l30Evening_any _ _ _ _ _).mono ?_; rintro e w2 ⟨rfl, hb2⟩
  have hB2 := bw_to hB0 hb2
  have hBw2 := bw_to hw hB2
  by_cases he : evB a b c d = true
  · have He := Lib.hid he
    go_wp2_with fail
    refine (l30Items_any _ _ _ (hv.to hBw2)).mono ?_; rintro e w3 ⟨rfl, hb3⟩
    have hB3 := bw_to hB2 hb3
    have hBw3 := bw_to hw hB3
    by_cases hx : itemsB xs = true
    · have Hx := Lib.hid hx
      have Hpl : Hid (planB a b c d xs = true) := by unfold planB; rw [He.out, Hx.out]; rfl
      go_wp2_with fail
      refine (l30Best_any _ _ _ _ _ _ _ (hv.to hBw3) He.out Hx.out).mono ?_; rintro e w4 ⟨r, rfl, ho4, hb4⟩
      go_wp2_with fail
      go_ret2
      refine ⟨r, ret_sb Hpl.out.symm, ?_, bw_to hBw3 hb4⟩
      rw [planL_yes Hpl.out]
      exact own_base ho4 hBw3.size
    · have hx' : itemsB xs = false := by simpa using hx
      have Hpl : Hid (planB a b c d xs = false) := by unfold planB; rw [hx', Bool.and_false]; rfl
      clear hx
      go_wp2_with fail
      go_ret2
      refine ⟨_, ret_sb Hpl.out.symm, ?_, hBw3⟩
      rw [planL_no Hpl.out]
      exact World.ownsRow_nil _ _ _ _
  · have he' : evB a b c d = false := by simpa using he
    have Hpl : Hid (planB a b c d xs = false) := by unfold planB; rw [he', Bool.false_and]; rfl
    clear he
    go_wp2_with fail
    go_ret2
    refine ⟨_, ret_sb Hpl.out.symm, ?_, hBw2⟩
    rw [planL_no Hpl.out]
    exact World.ownsRow_nil _ _ _ _
theorem eqIntS_yes (u v : Value) (xs : List Int) (w : World) (hu : Ints w u xs) (hv : Ints w v xs) : Calls Try.prog 24 #[u, v] w fun e w' => e = .returned (.bool true) ∧ Below w.heap.size w w' := eqIntS_same u v xs w hu hv
set_option maxRecDepth 100000 in
set_option maxHeartbeats 4000000 in
theorem lawBestPlan_any (a b c d : Int) (v : Value) (xs : List It) (w : World) (hv : Items w v xs) :
    Calls Try.prog 8 #[.agg #[.int .i64 a, .int .i64 b, .int .i64 c, .int .i64 d], v] w fun e w' => e = .returned (.bool true) ∧ Below w.heap.size w w' := by
  go_enter Try.func8, Try.ntmps8
  go_wp2_with fail
  refine box1 (C := fun W => Calls _ _ _ W _) ?_
  intro wb hw k1 hB0
  have R1 := boxRule k1
  clear k1
  refine (szItemS_any _ xs _ (hv.to hw)).mono ?_; rintro e w1 ⟨r, rfl, hrl, hb1⟩
  have hB1 := bw_to hB0 hb1
  have hBw1 := bw_to hw hB1
  by_cases hr0 : r < 0
  · go_wp2_with fail
    go_ret
    exact ⟨rfl, hBw1⟩
  · have hxl := hrl (by omega)
    have hpl := planL_len a b c d xs
    clear hrl
    go_wp2_with fail
    refine (toEvening_any _ _ _ _ _).mono ?_; rintro e w2 ⟨rfl, hb2⟩
    have hB2 := bw_to hB1 hb2
    go_wp2_with fail
    refine (toItemS_any _ xs _ (hv.to (bw_to hw hB2)) hxl).mono ?_; rintro e w3 ⟨v3, rfl, ho3, hb3⟩
    have hB3 := bw_to hB2 hb3
    have hi3 := items_of_own ho3 hv.2
    clear ho3
    go_wp2_with fail
    refine (specBestPlan_any _ _ _ _ _ xs _ hi3).mono ?_; rintro e w4 ⟨r0, rfl, p4, hb4⟩
    have hB4 := bw_to hB3 hb4
    clear hi3
    go_wp2_with fail
    refine (toItemS_any _ xs _ (hv.to (bw_to hw hB4)) hxl).mono ?_; rintro e w5 ⟨x1, rfl, q5, hb5⟩
    have hB5 := bw_to hB4 hb5
    have hz5 : wb.heap.size ≤ w4.heap.size := hB4.size
    have p5 := own_to p4 hb5
    have A1 := own_apart p4 q5 (Nat.le_refl _)
    have A1' := own_apart' p4 q5 (Nat.le_refl _)
    go_wp2_with fail
    refine (toEvening_any _ _ _ _ _).mono ?_; rintro e w6 ⟨rfl, hb6⟩
    have hB6 := bw_to hB5 hb6
    have p6 := own_to p5 hb6
    have q6 := own_to q5 hb6
    clear p5
    go_wp2_with fail
    refine (implBestPlan_any _ _ _ _ _ xs _ (items_of_own q6 hv.2)).mono ?_; rintro e w7 ⟨r1, rfl, g7, hb7⟩
    have hB7 := bw_to hB6 hb7
    have p7 := own_to p6 hb7
    have q7 := own_to q6 hb7
    have A2 := own_apart p6 g7 (Nat.le_refl _)
    have A3 := own_apart q6 g7 (Nat.le_refl _)
    have A2' := own_apart' p6 g7 (Nat.le_refl _)
    have hz7 : wb.heap.size ≤ w6.heap.size := hB6.size
    go_wp2_with fail
    refine (eqIntS_yes _ _ _ _ (ints_of_own g7) (ints_of_own p7)).mono ?_; rintro e w8 ⟨rfl, hb8⟩
    have hB8 := bw_to hB7 hb8
    have p8 := own_to p7 hb8
    have q8 := own_to q7 hb8
    have g8 := own_to g7 hb8
    go_wp2_with fail
    refine (toItemS_any _ xs _ (hv.to (bw_to hw hB8)) hxl).mono ?_; rintro e w9 ⟨v9, rfl, o9, hb9⟩
    have hB9 := bw_to hB8 hb9
    have p9 := own_to p8 hb9
    have q9 := own_to q8 hb9
    have g9 := own_to g8 hb9
    go_wp2_with fail
    refine (eqItemS_same _ _ xs _ (items_of_own q9 hv.2) (items_of_own o9 hv.2)).mono ?_; rintro e w10 ⟨rfl, hb10⟩
    have hB10 := bw_to hB9 hb10
    have p10 := own_to p9 hb10
    have q10 := own_to q9 hb10
    have g10 := own_to g9 hb10
    clear p6 q6 p7 q7 p8 q8 g8 p9 q9 g9 o9
    go_wp2_with fail
    refine (markItemS_any _ _ _ _ _ q10 hxl).mono ?_; rintro e w11 ⟨k11, rfl, hk11, hg11⟩
    have hB11 := bw_row hB10 q5 hz5 hg11
    have p11 := p10.kept hg11 A1'
    have g11 := g10.kept hg11 A3
    clear p10 q10 g10
    go_wp2_with fail
    refine (eqIntS_yes _ _ _ _ (ints_of_own g11) (ints_of_own p11)).mono ?_; rintro e w12 ⟨rfl, hb12⟩
    have hB12 := bw_to hB11 hb12
    have p12 := own_to p11 hb12
    have g12 := own_to g11 hb12
    clear p11 g11
    go_wp2_with fail
    refine (markIntS_any _ _ 1 _ _ _ g12 (by omega) (by omega)).mono ?_; rintro e w13 ⟨rfl, g13, hg13⟩
    have hB13 := bw_row hB12 g7 hz7 hg13
    have p13 := p12.kept hg13 A2'
    clear p12 g12
    have i13 : Ints w13 r1 (marksI 1 (planL a b c d xs).length) := ints_of_own (by rw [marksI_length]; exact g13)
    go_wp2_with fail
    refine (heldIntS_any _ _ 1 _ i13 (by omega) (by omega)).mono ?_; rintro e w14 ⟨rfl, rfl⟩
    go_wp2_with fail
    refine (toEvening_any _ _ _ _ _).mono ?_; rintro e w15 ⟨rfl, hb15⟩
    have hB15 := bw_to hB13 hb15
    go_wp2_with fail
    refine (toItemS_any _ xs _ (hv.to (bw_to hw hB15)) hxl).mono ?_; rintro e w16 ⟨v16, rfl, o16, hb16⟩
    have hB16 := bw_to hB15 hb16
    go_wp2_with fail
    refine (implBestPlan_any _ _ _ _ _ xs _ (items_of_own o16 hv.2)).mono ?_; rintro e w17 ⟨r2, rfl, g17, hb17⟩
    have hB17 := bw_to hB16 hb17
    have p17 := own_to (own_to (own_to p13 hb15) hb16) hb17
    have i17 := ((i13.to hb15).to hb16).to hb17
    clear p13 i13 o16
    go_wp2_with fail
    refine (eqIntS_yes _ _ _ _ (ints_of_own g17) (ints_of_own p17)).mono ?_; rintro e w18 ⟨rfl, hb18⟩
    have hB18 := bw_to hB17 hb18
    go_wp2_with fail
    refine (heldIntS_any _ _ 1 _ (i17.to hb18) (by omega) (by omega)).mono ?_; rintro e w19 ⟨rfl, rfl⟩
    go_wp2_with fail
    go_ret
    exact ⟨rfl, bw_to hw hB18⟩
end Go.Proofs.Ytaejpocclfpdcaa
