/- KindOf's law. -/
import Derived.Test.YtpkpahadjdkafaaGJ
namespace Go.Proofs.Ytpkpahadjdkafaa
open Go Go.RowKit
set_option linter.unusedVariables false
set_option linter.unusedSimpArgs false

set_option maxHeartbeats 2000000 in
theorem implKindOf_yes (m : Mt) (v : Value) (n K : Nat) (w : World) (hK : MK m n K) (h : MethAt w m v) (hs : MtSmall m) : Calls Try.prog 26 #[m.v v] w fun e w' => e = .returned (.tuple #[.string (kindT (kw0 m n K) (kw1 m n) (kw2 m n) (kw3 m)), .bool true]) ∧ Below w.heap.size w w' := by
  have Hg := Lib.hid (fun W (hW : Below w.heap.size w W) => implGoodMethod_any m v W (h.to hW) hs)
  have Hk := Lib.hid (fun W (hW : Below w.heap.size w W) => kindOf_any m v n K W hK (h.to hW) hs)
  rw [hK.ok] at Hg
  obtain ⟨s, hs'⟩ : ∃ s, s = kindT (kw0 m n K) (kw1 m n) (kw2 m n) (kw3 m) := ⟨_, rfl⟩
  rw [← hs'] at Hk ⊢
  obtain ⟨A, c, hv⟩ := h.form
  subst hv
  unfold Mt.v at *
  clear h hK hs'
  go_enter Try.func26, Try.ntmps26
  go_wp2_with fail
  refine box1 (C := fun W => Calls _ _ _ W _) ?_
  intro wb hw k1 hB0
  have R1 := boxRule k1
  clear k1
  refine (Hg.out _ hw).mono ?_; rintro e w1 ⟨rfl, hb1⟩
  have hB1 := bw_to hw hb1
  go_wp2_with fail
  refine (Hk.out _ hB1).mono ?_; rintro e w2 ⟨rfl, hb2⟩
  go_wp2_with fail
  go_ret2
  exact ⟨rfl, bw_to hB1 hb2⟩
set_option maxHeartbeats 2000000 in
theorem implKindOf_no (m : Mt) (v : Value) (w : World) (hn : methB m = false) (h : MethAt w m v) (hs : MtSmall m) : Calls Try.prog 26 #[m.v v] w fun e w' => e = .returned (.tuple #[.string ⟨#[]⟩, .bool false]) ∧ Below w.heap.size w w' := by
  have Hg := Lib.hid (fun W (hW : Below w.heap.size w W) => implGoodMethod_any m v W (h.to hW) hs)
  rw [hn] at Hg
  obtain ⟨A, c, hv⟩ := h.form
  subst hv
  unfold Mt.v at *
  clear h hn
  go_enter Try.func26, Try.ntmps26
  go_wp2_with fail
  refine box1 (C := fun W => Calls _ _ _ W _) ?_
  intro wb hw k1 hB0
  have R1 := boxRule k1
  clear k1
  refine (Hg.out _ hw).mono ?_; rintro e w1 ⟨rfl, hb1⟩
  go_wp2_with fail
  go_ret2
  exact ⟨rfl, bw_to hw hb1⟩
set_option maxHeartbeats 2000000 in
theorem specKindOf_no (m : Mt) (v : Value) (w : World) (hn : methB m = false) (h : MethAt w m v) (hs : MtSmall m) : Calls Try.prog 25 #[m.v v] w fun e w' => e = .returned (.tuple #[.string ⟨#[]⟩, .bool false]) ∧ Below w.heap.size w w' := by
  have Hg := Lib.hid (fun W (hW : Below w.heap.size w W) => l4Good_any m v W (h.to hW) hs)
  rw [hn] at Hg
  obtain ⟨A, c, hv⟩ := h.form
  subst hv
  unfold Mt.v at *
  clear h hn
  go_enter Try.func25, Try.ntmps25
  go_wp2_with fail
  refine box1 (C := fun W => Calls _ _ _ W _) ?_
  intro wb hw k1 hB0
  have R1 := boxRule k1
  clear k1
  refine (Hg.out _ hw).mono ?_; rintro e w1 ⟨rfl, hb1⟩
  go_wp2_with fail
  go_ret2
  exact ⟨rfl, bw_to hw hb1⟩
/-- What both sides answer. -/
theorem kind_both (m : Mt) (hs : MtSmall m) : ∃ (s : ByteArray) (b : Bool), (∀ v W, MethAt W m v → Calls Try.prog 26 #[m.v v] W fun e w' => e = .returned (.tuple #[.string s, .bool b]) ∧ Below W.heap.size W w') ∧ (∀ v W, MethAt W m v → Calls Try.prog 25 #[m.v v] W fun e w' => e = .returned (.tuple #[.string s, .bool b]) ∧ Below W.heap.size W w') := by
  cases hm : methB m
  · exact ⟨⟨#[]⟩, false, fun v W h => implKindOf_no m v W hm h hs, fun v W h => specKindOf_no m v W hm h hs⟩
  · obtain ⟨n, K, hK⟩ := mk_of hm
    exact ⟨_, true, fun v W h => implKindOf_yes m v n K W hK h hs, fun v W h => specKindOf_yes m v n K W hK h hs⟩
theorem toMethod_agK (m : Mt) (v : Value) (w : World) (h1 : MethAt w m v) (hs : MtSmall m) : Calls Try.prog 10 #[.agg #[.string m.name, .int .i64 m.stage, v]] w fun e w' => ∃ A c, e = .returned (.agg #[.string m.name, .int .i64 m.stage, .slice A m.l.length c]) ∧ MethAt w' m (.slice A m.l.length c) ∧ Below w.heap.size w w' := by
  refine (toMethod_any m v w h1 hs).mono fun e w' ⟨r, e1, h3, h4⟩ => ?_
  obtain ⟨A, c, hr, _⟩ := sl_of_own h3
  subst hr
  exact ⟨A, c, e1, ⟨strs_of_own h3, h1.2⟩, h4⟩
set_option maxRecDepth 100000 in
set_option maxHeartbeats 4000000 in
theorem lawKindOf_any (m : Mt) (v : Value) (w : World) (hm : MethAt w m v) : Calls Try.prog 5 #[m.v v] w fun e w' => e = .returned (.bool true) ∧ Below w.heap.size w w' := by
  have Hm := Lib.hid hm
  obtain ⟨A, c, hv⟩ := hm.form
  subst hv
  clear hm
  unfold Mt.v
  go_enter Try.func5, Try.ntmps5
  go_wp2_with fail
  refine box1 (C := fun W => Calls _ _ _ W _) ?_
  intro wb hw k1 hB0
  have R1 := boxRule k1
  clear k1
  have Hz1 := Lib.hid (fun W hW => szMethod_any m (.slice A m.l.length c) 1048576 W (Hm.out.to (bw_to hw hW)) (by omega) (by omega))
  unfold Mt.v at *
  refine (Hz1.out _ hB0).mono ?_; rintro e w1 ⟨r, rfl, hr0, hr1, hrl, hb1⟩
  have Hrl := Lib.hid hrl
  clear hrl
  by_cases hneg : r < 0
  · go_wp2_with fail
    go_ret
    exact ⟨rfl, bw_to hw hb1⟩
  · have Sm := Lib.hid (Hrl.out (by omega))
    have Hto := Lib.hid (fun W hW => toMethod_agK m (.slice A m.l.length c) W (Hm.out.to (bw_to hw hW)) Sm.out)
    obtain ⟨s, b, hi, hs⟩ := kind_both m Sm.out
    have Hi := Lib.hid hi
    have Hs := Lib.hid hs
    unfold Mt.v at *
    clear hi hs
    go_wp2_with fail
    refine (Hto.out _ hb1).mono ?_; rintro e w2 ⟨A2, c2, rfl, tm2, hb2⟩
    have hB2 := bw_to hb1 hb2
    go_wp2_with fail
    refine (Hs.out _ _ tm2).mono ?_; rintro e w3 ⟨rfl, hb3⟩
    have hB3 := bw_to hB2 hb3
    clear tm2 hb1 hb2 hb3 hB2
    go_wp2_with fail
    refine (Hto.out _ hB3).mono ?_; rintro e w4 ⟨A4, c4, rfl, tm4, hb4⟩
    have hB4 := bw_to hB3 hb4
    clear hB3 hb4
    go_wp2_with fail
    refine box1 (C := fun W => Calls _ _ _ W _) ?_
    intro w5 hw5 k5 hB5
    have R5 := boxRule k5
    clear k5
    have tm5 := Lib.hid (tm4.to hw5)
    have hB5w := bw_to hB4 hw5
    refine (Hi.out _ _ tm5.out).mono ?_; rintro e w6 ⟨rfl, hb6⟩
    have hB6 := bw_to hB5w hb6
    have R6 := fun i W hW => R5 W i (bw_to hb6 hW)
    have R7 := fun i W hW => R1 W i (bw_to hB6 hW)
    have tm6 := Lib.hid (tm5.out.to hb6)
    have hd6 : Below w6.heap.size w6 w6.drew := Below.drew (Below.refl _ _)
    have hst := Below.refl w6.heap.size w6
    clear hw5 hB4 tm4 R5 hb6
    go_upto_region 10 with fail
    go_region_held3 (fun W => Below w6.heap.size w6 W) (first | with_reducible assumption | exact Below.drew (by assumption) | exact bw_to (by assumption) hb')
      (first | (go_at_call 14; refine (eqMethod_same m _ _ _ (Strs.to tm6.out.1 (by assumption)) tm.1).mono ?_; rintro e w' ⟨rfl, hb'⟩) | (go_at_call 10; refine (Hto.out _ (bw_to hB6 (by assumption))).mono ?_; rintro e w' ⟨A1, c1, rfl, tm, hb'⟩))
    all_goals
      have hBB : Below w6.heap.size w6 w' := by assumption
      go_wp2_with fail
      go_ret
      exact ⟨rfl, bw_to hw (bw_to hB6 hBB)⟩
end Go.Proofs.Ytpkpahadjdkafaa
