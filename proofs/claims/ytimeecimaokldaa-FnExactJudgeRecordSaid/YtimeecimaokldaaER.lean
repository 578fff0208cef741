/- The law JudgeRecord, walked. -/
import Derived.Test.YtimeecimaokldaaEQ
namespace Go.Proofs.Ytimeecimaokldaa
open Go Go.RowKit
set_option linter.unusedVariables false
set_option linter.unusedSimpArgs false

theorem toBeat_any (b : Bt) (w : World) : Calls Try.prog 7 #[b.v] w fun e w' => e = .returned b.v ∧ Below w.heap.size w w' := by
  obtain ⟨x, y, z⟩ := b
  unfold Bt.v
  go_enter Try.func7, Try.ntmps7
  go_wp2
  refine bodyPost_ret (v := .agg #[.int .i64 x, .int .i64 y, .int .i64 z]) (by simp [results, go_sem]) rfl ⟨rfl, ?_⟩
  exact bw_al (bw_al (bw_al (Below.refl _ _) _) _) _
theorem eqJudged_same (a b c d : Int) (w : World) : Calls Try.prog 11 #[.agg #[.int .i64 a, .int .i64 b, .int .i64 c, .int .i64 d], .agg #[.int .i64 a, .int .i64 b, .int .i64 c, .int .i64 d]] w fun e w' => e = .returned (.bool true) ∧ Below w.heap.size w w' := by
  go_enter Try.func11, Try.ntmps11
  go_wp2
  go_ret
  exact ⟨rfl, bw_al (bw_al (Below.refl _ _) _) _⟩
/-- Two that are judged alike. -/
theorem jd_alike {w w' w1 w1' : World} {b : Bt} {l : List ByteArray} {st : List (Int × Int)} {s : Int} {e e' : Ending} (h : JdPost w b l st s e w1) (h' : JdPost w' b l st s e' w1') :
    ∃ x y z u k, e = .returned (.tuple #[.agg #[.int .i64 x, .int .i64 y, .int .i64 z, .int .i64 u], .bool k]) ∧ e' = e := by
  obtain ⟨h1, _⟩ := h
  obtain ⟨h2, _⟩ := h'
  rcases h1 with ⟨h1, r, hr, rfl⟩ | ⟨h1, rfl⟩
  · rcases h2 with ⟨h2, r', hr', rfl⟩ | ⟨h2, rfl⟩
    · rw [hr] at hr'
      injection hr' with hr'
      subst hr'
      exact ⟨_, _, _, _, _, rfl, rfl⟩
    · exact absurd h1 h2
  · rcases h2 with ⟨h2, r', hr', rfl⟩ | ⟨h2, rfl⟩
    · exact absurd h2 h1
    · exact ⟨_, _, _, _, _, rfl, rfl⟩
theorem jd_form {w w1 : World} {b : Bt} {l : List ByteArray} {st : List (Int × Int)} {s : Int} {e : Ending} (h : JdPost w b l st s e w1) :
    ∃ x y z u k, e = .returned (.tuple #[.agg #[.int .i64 x, .int .i64 y, .int .i64 z, .int .i64 u], .bool k]) := by
  obtain ⟨x, y, z, u, k, h, _⟩ := jd_alike h h
  exact ⟨x, y, z, u, k, h⟩
set_option maxHeartbeats 4000000 in
theorem lawJudgeRecord_any (b : Bt) (v u : Value) (l : List ByteArray) (st : List (Int × Int)) (s : Int) (w : World) (hv : Strs w v l) (hf : Fits l) (hu : Sks w u st) : Calls Try.prog 3 #[b.v, v, u, .int .i64 s] w fun e w' => e = .returned (.bool true) ∧ Below w.heap.size w w' := by
  have Hto := Lib.hid (fun W => toBeat_any b W)
  have Hsp := Lib.hid (fun V U W h1 h2 => specJudge_any b V U l st s W h1 hf h2)
  have Him := Lib.hid (fun V U W h1 h2 => implJudge_any b V U l st s W h1 hf h2)
  unfold Bt.v at *
  go_enter Try.func3, Try.ntmps3
  go_wp2_with fail
  refine box1 (C := fun W => Calls _ _ _ W _) ?_
  intro wb hwb k1 hB0
  have R1 := boxRule k1
  refine (szStringS_any _ _ _ _ (hv.to hwb) hf (by omega) (by omega)).mono ?_; rintro e w1 ⟨r, rfl, hr0, hr1, hsm, rfl⟩
  have Hsm := Lib.hid hsm
  clear hsm
  go_wp2_with fail
  · go_ret
    exact ⟨rfl, hwb⟩
  rename_i hpos
  have hs1 := Lib.hid (Hsm.out (by omega))
  refine (szStrikeS_any _ _ _ _ (hu.to hwb) (by omega) (by omega)).mono ?_; rintro e w1 ⟨r2, rfl, hsm2, rfl⟩
  have Hsm2 := Lib.hid hsm2
  clear hsm2
  go_wp2_with fail
  · go_ret
    exact ⟨rfl, hwb⟩
  rename_i hpos2
  have hs2 := Lib.hid (Hsm2.out (by omega))
  have a0 := R1 _ 0 hB0
  have a1 := R1 _ 1 hB0
  have a2 := R1 _ 2 hB0
  refine (Hto.out _).mono ?_; rintro e w1 ⟨rfl, hb1⟩
  go_wp2_with fail
  refine (toStringS_any _ _ _ ((hv.to hwb).to hb1) hs1.out.1).mono ?_; rintro e w2 ⟨v2, rfl, ho2, hb2⟩
  have hB2 := bw_to hb1 hb2
  go_wp2_with fail
  refine (toStrikeS_any _ _ _ ((hu.to hwb).to hB2) hs2.out).mono ?_; rintro e w3 ⟨v3, rfl, ho3, hb3⟩
  have hB3 := bw_to hB2 hb3
  go_wp2_with fail
  refine (Hsp.out _ _ _ (strs_of_own (own_to ho2 hb3)) (sks_of_own ho3)).mono ?_; intro e w4 hp4
  have hB4 := bw_to hB3 hp4.2
  obtain ⟨x, y, z, q, k, rfl⟩ := jd_form hp4
  have HP4 := Lib.hid hp4
  clear hp4 a0 a1 a2
  go_upto_region 9 with fail
  refine box1 (C := fun W => Code.wp _ _ _ _ W) ?_
  intro w5 hw5 k5 hB05
  have R5 := boxRule k5
  have hB5 := bw_to hB4 hw5
  clear k5
  go_wp2_with fail
  refine (toStringS_any _ _ _ ((hv.to hwb).to hB5) hs1.out.1).mono ?_; rintro e w6 ⟨v6, rfl, ho6, hb6⟩
  have hB6 := bw_to hB5 hb6
  go_wp2_with fail
  refine (toStrikeS_any _ _ _ ((hu.to hwb).to hB6) hs2.out).mono ?_; rintro e w7 ⟨v7, rfl, ho7, hb7⟩
  have hB7 := bw_to hB6 hb7
  have a0 := R1 w7 0 hB7
  have a1 := R1 w7 1 hB7
  have a2 := R1 w7 2 hB7
  go_wp2_with fail
  refine (Hto.out _).mono ?_; rintro e w8 ⟨rfl, hb8⟩
  have hB8 := bw_to hB7 hb8
  go_wp2_with fail
  refine (Him.out _ _ _ (strs_of_own (own_to (own_to ho6 hb7) hb8)) (sks_of_own (own_to ho7 hb8))).mono ?_; intro e w9 hp9
  have hB9 := bw_to hB8 hp9.2
  obtain ⟨x', y', z', q', k', e1, e2⟩ := jd_alike HP4.out hp9
  have hb9 := hp9.2
  clear hp9
  injection e1 with e1
  injection e1 with e1
  simp only [Array.mk.injEq, List.cons.injEq, Value.agg.injEq, Value.int.injEq, Value.bool.injEq, and_true, true_and] at e1
  obtain ⟨⟨rfl, rfl, rfl, rfl⟩, rfl⟩ := e1
  subst e2
  clear a0 a1 a2
  go_upto_region 12 with fail
  refine box1 (C := fun W => Code.wp _ _ _ _ W) ?_
  intro w10 hw10 k10 hB010
  have R10 := boxRule k10
  have hB10 := bw_to hB9 hw10
  clear k10
  have hb510 : Below w5.heap.size w5 w10 := bw_to (bw_to (bw_to (bw_to hb6 hb7) hb8) hb9) hw10
  have b0 := R5 _ 0 hb510
  have b1 := R5 _ 1 hb510
  have b2 := R5 _ 2 hb510
  have b3 := R5 _ 3 hb510
  have c0 := R10 _ 0 hB010
  have c1 := R10 _ 1 hB010
  have c2 := R10 _ 2 hB010
  have c3 := R10 _ 3 hB010
  go_wp2_with fail
  refine (eqJudged_same _ _ _ _ _).mono ?_; rintro e w11 ⟨rfl, hb11⟩
  have hB11 := bw_to hB10 hb11
  clear b0 b1 b2 b3 c0 c1 c2 c3
  go_wp2_with fail
  refine (toStringS_any _ _ _ ((hv.to hwb).to hB11) hs1.out.1).mono ?_; rintro e w12 ⟨v12, rfl, ho12, hb12⟩
  have hB12 := bw_to hB11 hb12
  have h612 : Below w6.heap.size w6 w12 := bw_to (bw_to (bw_to (bw_to (bw_to (bw_to hb7 hb8) hb9) hw10) hb11) hb12) (Below.refl _ _)
  go_wp2_with fail
  refine (eqStringS_same _ _ _ _ (strs_of_own (own_to ho6 h612)) (strs_of_own ho12)).mono ?_; rintro e w13 ⟨rfl, hb13⟩
  have hB13 := bw_to hB12 hb13
  go_wp2_with fail
  refine (toStrikeS_any _ _ _ ((hu.to hwb).to hB13) hs2.out).mono ?_; rintro e w14 ⟨v14, rfl, ho14, hb14⟩
  have hB14 := bw_to hB13 hb14
  have h714 : Below w7.heap.size w7 w14 := bw_to (bw_to (bw_to (bw_to (bw_to (bw_to hb8 hb9) hw10) hb11) hb12) hb13) hb14
  go_wp2_with fail
  refine (eqStrikeS_same _ _ _ _ (sks_of_own (own_to ho7 h714)) (sks_of_own ho14)).mono ?_; rintro e w15 ⟨rfl, hb15⟩
  go_wp2_with fail
  go_ret
  exact ⟨rfl, bw_to hwb (bw_to hB14 hb15)⟩
theorem lawJudgeRow_any (b : Bt) (v : Value) (l : List ByteArray) (u : Value) (st : List (Int × Int)) (s : Int) (w : World) (hv : Strs w v l ∧ Fits l) (hu : Sks w u st) (_ : -9223372036854775808 ≤ s ∧ s ≤ 9223372036854775807) :
    Calls Try.prog 3 #[b.v, v, u, .int .i64 s] w fun e w' => e = .returned (.bool true) ∧ Below w.heap.size w w' := lawJudgeRecord_any b v u l st s w hv.1 hv.2 hu
end Go.Proofs.Ytimeecimaokldaa
