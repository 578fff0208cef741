/- FnKinds: the reversed method, sameInts. -/
import Derived.Test.YtpkpahadjdkafaaPk30
import Derived.Test.YtpkpahadjdkafaaPk34
import Derived.Test.YtpkpahadjdkafaaPk16
namespace Go.Proofs.Ytpkpahadjdkafaa
open Go Go.RowKit
set_option linter.unusedVariables false
set_option linter.unusedSimpArgs false
/-- The method reversed. -/
def rvM (m : Mt) : Mt := if methB m = true then ⟨m.name, m.stage, m.l.reverse⟩ else ⟨⟨#[]⟩, 0, []⟩
theorem rvM_yes {m : Mt} (h : methB m = true) : rvM m = ⟨m.name, m.stage, m.l.reverse⟩ := by unfold rvM; rw [if_pos h]
theorem rvM_no {m : Mt} (h : methB m = false) : rvM m = ⟨⟨#[]⟩, 0, []⟩ := by unfold rvM; rw [if_neg (by simp [h])]
theorem methB_lenU {m : Mt} (h : methB m = true) : 1 ≤ m.l.length ∧ m.l.length ≤ 40 := by unfold methB at h; simp at h; omega
theorem withChanges_aggU (m : Mt) (v : Value) (A : Option Addr) (n c : Nat) (w : World) : Calls Try.prog 63 #[.agg #[.string m.name, .int .i64 m.stage, v], .slice A n c] w fun e w' => e = .returned (.agg #[.string m.name, .int .i64 m.stage, .slice A n c]) ∧ Below w.heap.size w w' := withChanges_any m v A n c w
theorem reversed_agg (v : Value) (ss : List ByteArray) (w : World) (h : Strs w v ss) (hn : NilOk v) (hlen : ss.length ≤ 10000000) : Calls Try.prog 64 #[v] w fun e w' =>
    ∃ A c, e = .returned (.slice A ss.length c) ∧ w'.ownsRow w.heap.size 9 1 (.slice A ss.length c) ss.length (ss.reverse.map Value.string) ∧ Below w.heap.size w w' :=
  (reversed_any v ss w h hn hlen).mono fun e w' ⟨r, e1, h2, h3⟩ => by
    obtain ⟨A, c, hr, _⟩ := sl_of_own h2
    subst hr
    exact ⟨A, c, e1, h2, h3⟩
set_option maxRecDepth 100000 in
set_option maxHeartbeats 2000000 in
theorem implTurnMethod_any (m : Mt) (v : Value) (w : World) (h : MethAt w m v) (hn : NilOk v) (hs : MtSmall m) : Calls Try.prog 29 #[m.v v] w fun e w' =>
    ∃ r : Value, e = .returned (.tuple #[(rvM m).v r, .bool (methB m)]) ∧ w'.ownsRow w.heap.size 9 1 r (rvM m).l.length ((rvM m).l.map Value.string) ∧ Below w.heap.size w w' := by
  have Hat := Lib.hid h
  have Hs := Lib.hid hs
  have Hn := Lib.hid hn
  obtain ⟨M, hM⟩ : ∃ M, M = rvM m := ⟨_, rfl⟩
  obtain ⟨b, hb⟩ : ∃ b, b = methB m := ⟨_, rfl⟩
  rw [← hM, ← hb]
  have HM := Lib.hid hM
  have Hb := Lib.hid hb
  clear h hs hn hM hb
  unfold Mt.v
  go_enter Try.func29, Try.ntmps29
  go_wp2_with fail
  refine box2 (C := fun W => Calls _ _ _ W _) ?_
  intro wb hw k1 k2 hB0
  have R1 := boxRule k1
  have R2 := boxRule k2
  have F2 := fun (j : Nat) w' hb => frozen_of_heap k2 j (w' := w') hb
  have hlt2 := blk_lt k2
  have R1' := fun w' i hb => boxRuleB k1 (Nat.lt_succ_self _) w' i hb
  clear k1 k2
  refine (implGoodMethod_any m v wb (Hat.out.to hw) Hs.out).mono ?_; rintro e w1 ⟨rfl, hb1⟩
  rw [← Hb.out]
  cases b
  · have hM := HM.out.trans (rvM_no Hb.out.symm)
    subst hM
    have c0 := R2 w1 0 hb1
    have c1 := R2 w1 1 hb1
    have c2 := R2 w1 2 hb1
    have f0 := F2 0 w1 hb1
    have f1 := F2 1 w1 hb1
    have f2 := F2 2 w1 hb1
    clear R2 F2 R1'
    go_wp2_with fail
    refine bodyPost_ret (v := .tuple #[.agg #[.string ⟨#[]⟩, .int .i64 0, .slice none 0 0], .bool false]) ?hr rfl ⟨_, rfl, World.ownsRow_nil _ _ _ _, ?hb⟩
    case hb => exact grow_set (grow_set (grow_set (bw_to hw hb1) (Nat.le_succ _) _) (Nat.le_succ _) _) (Nat.le_succ _) _
    case hr => simp [results, go_sem, c0, c1, c2]
  · have Hlen := Lib.hid (methB_lenU Hb.out.symm)
    have hM := HM.out.trans (rvM_yes Hb.out.symm)
    subst hM
    have hB1 := bw_to hw hb1
    have Hs1 := Lib.hid (Hat.out.to hB1).1
    have Hl := Lib.hid (Nat.le_of_lt hlt2)
    have hst : Below (w.heap.size + 1) wb w1 := hb1.mono Hl.out
    have hz : wb.heap.size ≤ w1.heap.size := hb1.size
    clear R1
    go_wp2_with fail
    go_region_held3 (fun w' => Below (w.heap.size + 1) wb w') (first | exact Below.drew (by assumption) | exact Below.mono (by assumption : Below wb.heap.size wb _) Hl.out | exact set3_low (by assumption) (Nat.le_refl _))
      (first | ((have hq := hown); go_at_call 63; refine (withChanges_aggU m _ _ _ _ _).mono ?_; rintro e wc ⟨rfl, hbc⟩; (have hBc := bw_to hBa hbc); (have c0 := R2 wc 0 hBc); (have c1 := R2 wc 1 hBc); (have c2 := R2 wc 2 hBc); (have f0 := F2 0 wc hBc); (have f1 := F2 1 wc hBc); (have f2 := F2 2 wc hBc)) | (go_at_call 64; refine (reversed_agg _ m.l _ (Hs1.out.to (Below.drew (Below.refl _ _))) Hn.out (by have := Hlen.out; omega)).mono ?_; rintro e wa ⟨A, c, rfl, hown, hb'⟩; (have hBa : Below wb.heap.size wb wa := bw_to (Below.drew hb1) hb')))
    go_wp2_with fail
    refine bodyPost_ret (v := .tuple #[.agg #[.string m.name, .int .i64 m.stage, .slice A m.l.length c], .bool true]) ?hr rfl ⟨_, rfl, ?ho, ?hb⟩
    case ho =>
      have h4 := own_past (own_past (own_past (own_to hown hbc) (Nat.lt_of_lt_of_le hlt2 hz) 0 (.string m.name)) (Nat.lt_of_lt_of_le hlt2 hz) 1 (.int .i64 m.stage)) (Nat.lt_of_lt_of_le hlt2 hz) 2 (.slice A m.l.length c)
      have h5 := own_base h4 hB1.size
      simpa [List.map_reverse] using h5
    case hb => exact grow_set (grow_set (grow_set (bw_to hw hBc) (Nat.le_succ _) _) (Nat.le_succ _) _) (Nat.le_succ _) _
    case hr => simp [results, go_sem, c0, c1, c2]
theorem sameInts_same (a b : Value) (zs : List Int) (w : World) (ha : Ints w a zs) (hb : Ints w b zs) : Calls Try.prog 35 #[a, b] w fun e w' => e = .returned (.bool true) ∧ Below w.heap.size w w' := by
  obtain ⟨A, c, rfl, h1, h2, hr⟩ := ha
  obtain ⟨A', c', rfl, h1', h2', hr'⟩ := hb
  unfold maxLen at h2 h2'
  go_enter Try.func35, Try.ntmps35
  go_wp2_with fail
  go_loopw [13] (fun i wr => ∃ k : Nat, k ≤ zs.length ∧ i = .int .i64 k ∧ Below w.heap.size w wr) (fun i _ => zs.length - (intOf i).toNat)
  case atStart => exact ⟨0, by omega, rfl, Below.refl _ _⟩
  case round =>
    obtain ⟨k, hk, rfl, hB⟩ := hrel
    by_cases hlt : k < zs.length
    · obtain ⟨ad, rfl, hC⟩ := ints_el hr hlt
      obtain ⟨ad', rfl, hC'⟩ := ints_el hr' hlt
      go_wp2_with fail
      go_region_held3 (fun w' => Below w.heap.size w w') (exact Below.drew (by assumption)) (fail)
      go_wp2_with fail
      exact ⟨⟨k + 1, by omega, by go_num, by assumption⟩, by simp [intOf]; omega⟩
    · go_wp2_with fail
      go_ret
      exact ⟨rfl, hB⟩
end Go.Proofs.Ytpkpahadjdkafaa
