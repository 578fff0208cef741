/- Contracts: methods marked; the canonical form, both sides. -/
import Derived.Test.YtnbehldacehiiaaTA
import Derived.Test.YtnbehldacehiiaaH1
namespace Go.Proofs.Ytnbehldacehiiaa
open Go Go.RowKit
set_option linter.unusedVariables false
set_option linter.unusedSimpArgs false

def marksT (k n : Nat) : List ByteArray := (List.range n).map fun i => mText (k + i)
theorem marksT_length (k n : Nat) : (marksT k n).length = n := by simp [marksT]
theorem marksT_get {k n i : Nat} (h : i < (marksT k n).length) : (marksT k n)[i] = mText (k + i) := by simp [marksT]
theorem marksT_succ (k n : Nat) : marksT k (n + 1) = marksT k n ++ [mText (k + n)] := by simp [marksT, List.range_succ]
set_option maxHeartbeats 1000000 in
theorem markStringS_any (v : Value) (n k0 : Nat) (cs : List Value) (base : Nat) (w : World) (h : w.ownsRow base 9 1 v n cs) (hn : n ≤ 1048576) (hk0 : k0 ≤ 100000000000000) : Calls Try.prog 59 #[v, .int .i64 k0] w fun e w' =>
    e = .returned (.int .i64 ((k0 + n : Nat) : Int)) ∧ w'.ownsRow base 9 1 v n ((marksT k0 n).map Value.string) ∧ w.grownBy w' v.ownBlock := by
  rcases h.2 with ⟨rfl, rfl⟩ | ⟨g, cap, cur, rfl, hbg, hh, hnc, hcm, _⟩
  · go_enter Try.func59, Try.ntmps59
    go_wp2_with fail
    go_loopw [1, 5] (fun q i wr => q = .int .i64 k0 ∧ i = .int .i64 0 ∧ wr = w) (fun _ _ _ => 0)
    case atStart => exact ⟨rfl, rfl, rfl⟩
    case round =>
      obtain ⟨rfl, rfl, rfl⟩ := hrel
      go_wp2_with fail
      go_ret
      exact ⟨rfl, World.ownsRow_nil _ _ _ _, gr_refl _ _⟩
  · unfold maxLen at hcm
    go_enter Try.func59, Try.ntmps59
    go_wp2_with fail
    go_loopw [1, 5] (fun q i wr => ∃ k : Nat, k ≤ n ∧ i = .int .i64 k ∧ q = .int .i64 ((k0 + k : Nat) : Int) ∧ (∃ ds, wr.ownsRow base 9 1 (.slice (some ⟨g, 0, none⟩) n cap) n ds ∧ ds.take k = (marksT k0 k).map Value.string) ∧ w.grownBy wr (some g)) (fun _ i _ => n - (intOf i).toNat)
    case atStart => exact ⟨0, by omega, rfl, rfl, ⟨_, h, rfl⟩, gr_refl _ _⟩
    case round =>
      obtain ⟨k, hk, rfl, rfl, ⟨ds, hown, hds⟩, hgr⟩ := hrel
      have Hds := Lib.hid hds
      clear hds
      by_cases hlt : k < n
      · go_wp2_with fail
        refine (markText_any (k0 + k) _ (by omega)).mono ?_; rintro e w2 ⟨rfl, hb2⟩
        have hown2 := own_to hown hb2
        have hgr2 := gr_below hgr hb2
        obtain ⟨y0, hy⟩ := own_some hown2 (j := k) (by omega)
        have hf := hown2.frozenAt k
        go_wp2_with fail
        refine ⟨⟨k + 1, by omega, by go_num, congrArg (Value.int .i64) (by omega), ⟨_, own_set hown2 _ _, ?_⟩, gr_set hgr2 _⟩, by simp [intOf]; omega⟩
        rw [take_set_last (by have := hown.1; omega), Hds.out, marksT_succ, List.map_append]
        simp
      · obtain rfl : k = n := by omega
        go_wp2_with fail
        go_ret
        refine ⟨rfl, ?_, hgr⟩
        have := Hds.out
        rw [List.take_of_length_le (by rw [hown.1]; omega)] at this
        rw [← this]
        exact hown
set_option maxHeartbeats 1000000 in
theorem heldStringS_any (v : Value) (n k0 : Nat) (w : World) (h : Strs w v (marksT k0 n)) (hn : n ≤ 1048576) (hk0 : k0 ≤ 100000000000000) : Calls Try.prog 60 #[v, .int .i64 k0] w fun e w' =>
    e = .returned (.int .i64 ((k0 + n : Nat) : Int)) ∧ Below w.heap.size w w' := by
  obtain ⟨A, c, hv, h1, h2, hr⟩ := h
  rw [marksT_length] at hv h1 hr
  subst hv
  unfold maxLen at h2
  go_enter Try.func60, Try.ntmps60
  go_wp2_with fail
  go_loopw [1, 5] (fun q i wr => ∃ k : Nat, k ≤ n ∧ i = .int .i64 k ∧ q = .int .i64 ((k0 + k : Nat) : Int) ∧ Below w.heap.size w wr) (fun _ i _ => n - (intOf i).toNat)
  case atStart => exact ⟨0, by omega, rfl, rfl, Below.refl _ _⟩
  case round =>
    obtain ⟨k, hk, rfl, rfl, hB⟩ := hrel
    by_cases hlt : k < n
    · obtain ⟨ad, rfl, hC⟩ := strs_el hr (k := k) (by rw [marksT_length]; exact hlt)
      rw [marksT_get] at hC
      have hq0 : (0 : Int) ≤ (k : Int) := by omega
      have hq1 : (k : Int) < (n : Int) := by omega
      go_wp2_with fail
      go_region_held3 (fun w' => Below w.heap.size w w') (first | exact Below.drew (by assumption) | exact bw_to (by assumption) hb')
        (first | (go_at_call 67; refine (markText_any (k0 + k) _ (by omega)).mono ?_; rintro e w' ⟨rfl, hb'⟩))
      go_wp2_with fail
      exact ⟨⟨k + 1, by omega, by go_num, congrArg (Value.int .i64) (by omega), by assumption⟩, by simp [intOf]; omega⟩
    · obtain rfl : k = n := by omega
      go_wp2_with fail
      go_ret
      exact ⟨rfl, hB⟩
set_option maxHeartbeats 1000000 in
theorem markMethod_any (m : Mt) (v : Value) (n k0 : Nat) (cs : List Value) (base : Nat) (w : World) (h : w.ownsRow base 9 1 v n cs) (hn : n ≤ 1048576) (hk0 : k0 ≤ 100000000000000) : Calls Try.prog 22 #[m.v v, .int .i64 k0] w fun e w' =>
    ∃ r : Int, e = .returned (.int .i64 r) ∧ r = ((k0 + n : Nat) : Int) ∧ w'.ownsRow base 9 1 v n ((marksT k0 n).map Value.string) ∧ w.grownBy w' v.ownBlock := by
  unfold Mt.v
  go_enter Try.func22, Try.ntmps22
  go_wp2_with fail
  refine box1 (C := fun W => Calls _ _ _ W _) ?_
  intro wb hw k1 hB0
  refine (markStringS_any _ _ k0 _ _ _ (own_to h hw) hn hk0).mono ?_; rintro e w1 ⟨rfl, hown, hg⟩
  go_wp2_with fail
  go_ret
  exact ⟨_, rfl, rfl, hown, ⟨hg.os.trans hw.os, hg.tape.trans hw.tape, hg.output.trans hw.output, Nat.le_trans hw.size hg.size, fun k hk hne => (hg.block k (Nat.lt_of_lt_of_le hk hw.size) hne).trans (hw.block k hk)⟩⟩
set_option maxHeartbeats 1000000 in
theorem heldMethod_any (m : Mt) (v : Value) (n k0 : Nat) (w : World) (h : Strs w v (marksT k0 n)) (hn : n ≤ 1048576) (hk0 : k0 ≤ 100000000000000) : Calls Try.prog 23 #[m.v v, .int .i64 k0] w fun e w' =>
    ∃ r : Int, e = .returned (.int .i64 r) ∧ r = ((k0 + n : Nat) : Int) ∧ Below w.heap.size w w' := by
  unfold Mt.v
  go_enter Try.func23, Try.ntmps23
  go_wp2_with fail
  refine box1 (C := fun W => Calls _ _ _ W _) ?_
  intro wb hw k1 hB0
  refine (heldStringS_any _ _ k0 _ (h.to hw) hn hk0).mono ?_; rintro e w1 ⟨rfl, hb1⟩
  go_wp2_with fail
  go_ret
  exact ⟨_, rfl, rfl, bw_to hw hb1⟩
/-- What NormalMethod answers. -/
def nM (m : Mt) : Mt := if methB m then ⟨m.name, m.stage, foldN m.l m.l.length⟩ else ⟨⟨#[]⟩, 0, []⟩
theorem nM_yes {m : Mt} (h : methB m = true) : nM m = ⟨m.name, m.stage, foldN m.l m.l.length⟩ := by unfold nM; rw [if_pos h]
theorem nM_no {m : Mt} (h : methB m = false) : nM m = ⟨⟨#[]⟩, 0, []⟩ := by unfold nM; rw [if_neg (by simp [h])]
theorem methB_len {m : Mt} (h : methB m = true) : 1 ≤ m.l.length ∧ m.l.length ≤ 40 := by unfold methB at h; simp at h; omega
theorem withChanges_agg (m : Mt) (v : Value) (A : Option Addr) (n c : Nat) (w : World) : Calls Try.prog 56 #[.agg #[.string m.name, .int .i64 m.stage, v], .slice A n c] w fun e w' => e = .returned (.agg #[.string m.name, .int .i64 m.stage, .slice A n c]) ∧ Below w.heap.size w w' := withChanges_any m v A n c w
theorem normal_agg (m : Mt) (v : Value) (w : World) (h : Strs w v m.l) (hn : NilOk v) (hlen : 1 ≤ m.l.length ∧ m.l.length ≤ 40) : Calls Try.prog 57 #[.agg #[.string m.name, .int .i64 m.stage, v]] w fun e w' =>
    ∃ A c, e = .returned (.slice A m.l.length c) ∧ w'.ownsRow w.heap.size 9 1 (.slice A m.l.length c) m.l.length ((foldN m.l m.l.length).map Value.string) ∧ Below w.heap.size w w' :=
  (normal_any m v w h hn hlen).mono fun e w' ⟨r, e1, h2, h3⟩ => by
    obtain ⟨A, c, hr, _⟩ := sl_of_own h2
    subst hr
    exact ⟨A, c, e1, h2, h3⟩
set_option maxRecDepth 100000 in
set_option maxHeartbeats 2000000 in
theorem implNormalMethod_any (m : Mt) (v : Value) (w : World) (h : MethAt w m v) (hn : NilOk v) (hs : MtSmall m) : Calls Try.prog 20 #[m.v v] w fun e w' =>
    ∃ r : Value, e = .returned (.tuple #[(nM m).v r, .bool (methB m)]) ∧ w'.ownsRow w.heap.size 9 1 r (nM m).l.length ((nM m).l.map Value.string) ∧ Below w.heap.size w w' := by
  have Hat := Lib.hid h
  have Hs := Lib.hid hs
  have Hn := Lib.hid hn
  obtain ⟨M, hM⟩ : ∃ M, M = nM m := ⟨_, rfl⟩
  obtain ⟨b, hb⟩ : ∃ b, b = methB m := ⟨_, rfl⟩
  rw [← hM, ← hb]
  have HM := Lib.hid hM
  have Hb := Lib.hid hb
  clear h hs hn hM hb
  unfold Mt.v
  go_enter Try.func20, Try.ntmps20
  go_wp2_with fail
  refine box2 (C := fun W => Calls _ _ _ W _) ?_
  intro wb hw k1 k2 hB0
  have R1 := boxRule k1
  have R2 := boxRule k2
  have F2 := fun (j : Nat) w' hb => frozen_of_heap k2 j (w' := w') hb
  have hlt2 := blk_lt k2
  have R1' := fun w' i hb => boxRuleB k1 (Nat.lt_succ_self _) w' i hb
  clear k1 k2
  refine (implGoodMethod_any m v wb (Hat.out.to hw) Hs.out).mono ?_; rintro e w1 ⟨rfl, hb1⟩
  rw [← Hb.out]
  cases b
  · have hM := HM.out.trans (nM_no Hb.out.symm)
    subst hM
    have c0 := R2 w1 0 hb1
    have c1 := R2 w1 1 hb1
    have c2 := R2 w1 2 hb1
    have f0 := F2 0 w1 hb1
    have f1 := F2 1 w1 hb1
    have f2 := F2 2 w1 hb1
    clear R2 F2 R1'
    go_wp2_with fail
    refine bodyPost_ret (v := .tuple #[.agg #[.string ⟨#[]⟩, .int .i64 0, .slice none 0 0], .bool false]) ?hr rfl ⟨_, rfl, World.ownsRow_nil _ _ _ _, ?hb⟩
    case hb => exact grow_set (grow_set (grow_set (bw_to hw hb1) (Nat.le_succ _) _) (Nat.le_succ _) _) (Nat.le_succ _) _
    case hr => simp [results, go_sem, c0, c1, c2]
  · have Hlen := Lib.hid (methB_len Hb.out.symm)
    have hM := HM.out.trans (nM_yes Hb.out.symm)
    subst hM
    have hB1 := bw_to hw hb1
    have Hs1 := Lib.hid (Hat.out.to hB1).1
    have Hl := Lib.hid (Nat.le_of_lt hlt2)
    have hst : Below (w.heap.size + 1) wb w1 := hb1.mono Hl.out
    have hz : wb.heap.size ≤ w1.heap.size := hb1.size
    clear R1
    go_wp2_with fail
    go_region_held3 (fun w' => Below (w.heap.size + 1) wb w') (first | exact Below.drew (by assumption) | exact Below.mono (by assumption : Below wb.heap.size wb _) Hl.out | exact set3_low (by assumption) (Nat.le_refl _))
      (first | ((have hq := hown); go_at_call 56; refine (withChanges_agg m _ _ _ _ _).mono ?_; rintro e wc ⟨rfl, hbc⟩; (have hBc := bw_to hBa hbc); (have c0 := R2 wc 0 hBc); (have c1 := R2 wc 1 hBc); (have c2 := R2 wc 2 hBc); (have f0 := F2 0 wc hBc); (have f1 := F2 1 wc hBc); (have f2 := F2 2 wc hBc)) | (go_at_call 57; refine (normal_agg m _ _ (Hs1.out.to (Below.drew (Below.refl _ _))) Hn.out Hlen.out).mono ?_; rintro e wa ⟨A, c, rfl, hown, hb'⟩; (have hBa : Below wb.heap.size wb wa := bw_to (Below.drew hb1) hb')))
    go_wp2_with fail
    refine bodyPost_ret (v := .tuple #[.agg #[.string m.name, .int .i64 m.stage, .slice A m.l.length c], .bool true]) ?hr rfl ⟨_, rfl, ?ho, ?hb⟩
    case ho =>
      have h4 := own_past (own_past (own_past (own_to hown hbc) (Nat.lt_of_lt_of_le hlt2 hz) 0 (.string m.name)) (Nat.lt_of_lt_of_le hlt2 hz) 1 (.int .i64 m.stage)) (Nat.lt_of_lt_of_le hlt2 hz) 2 (.slice A m.l.length c)
      rw [foldN_len]
      exact own_base h4 hB1.size
    case hb => exact grow_set (grow_set (grow_set (bw_to hw hBc) (Nat.le_succ _) _) (Nat.le_succ _) _) (Nat.le_succ _) _
    case hr => simp [results, go_sem, c0, c1, c2]
set_option maxRecDepth 100000 in
set_option maxHeartbeats 2000000 in
theorem specNormalMethod_any (m : Mt) (v : Value) (w : World) (h : MethAt w m v) (hn : NilOk v) (hs : MtSmall m) : Calls Try.prog 18 #[m.v v] w fun e w' =>
    ∃ r : Value, e = .returned (.tuple #[(nM m).v r, .bool (methB m)]) ∧ w'.ownsRow w.heap.size 9 1 r (nM m).l.length ((nM m).l.map Value.string) ∧ Below w.heap.size w w' := by
  have Hat := Lib.hid h
  have Hs := Lib.hid hs
  have Hn := Lib.hid hn
  obtain ⟨M, hM⟩ : ∃ M, M = nM m := ⟨_, rfl⟩
  obtain ⟨b, hb⟩ : ∃ b, b = methB m := ⟨_, rfl⟩
  rw [← hM, ← hb]
  have HM := Lib.hid hM
  have Hb := Lib.hid hb
  clear h hs hn hM hb
  unfold Mt.v
  go_enter Try.func18, Try.ntmps18
  go_wp2_with fail
  refine box2 (C := fun W => Calls _ _ _ W _) ?_
  intro wb hw k1 k2 hB0
  have R1 := boxRule k1
  have R2 := boxRule k2
  have F2 := fun (j : Nat) w' hb => frozen_of_heap k2 j (w' := w') hb
  have hlt2 := blk_lt k2
  clear k1 k2
  refine (l4Good_any m v wb (Hat.out.to hw) Hs.out).mono ?_; rintro e w1 ⟨rfl, hb1⟩
  rw [← Hb.out]
  cases b
  · have hM := HM.out.trans (nM_no Hb.out.symm)
    subst hM
    have c0 := R2 w1 0 hb1
    have c1 := R2 w1 1 hb1
    have c2 := R2 w1 2 hb1
    have f0 := F2 0 w1 hb1
    have f1 := F2 1 w1 hb1
    have f2 := F2 2 w1 hb1
    clear R2 F2
    go_wp2_with fail
    refine bodyPost_ret (v := .tuple #[.agg #[.string ⟨#[]⟩, .int .i64 0, .slice none 0 0], .bool false]) ?hr rfl ⟨_, rfl, World.ownsRow_nil _ _ _ _, ?hb⟩
    case hb => exact grow_set (grow_set (grow_set (bw_to hw hb1) (Nat.le_succ _) _) (Nat.le_succ _) _) (Nat.le_succ _) _
    case hr => simp [results, go_sem, c0, c1, c2]
  · have hM := HM.out.trans (nM_yes Hb.out.symm)
    subst hM
    have hB1 := bw_to hw hb1
    have hz : wb.heap.size ≤ w1.heap.size := hb1.size
    go_wp2_with fail
    refine (l29Normal_any m v w1 (Hat.out.to hB1) Hn.out Hs.out Hb.out.symm).mono ?_; rintro e wc ⟨r, rfl, hown, hbc⟩
    obtain ⟨A, c, hr, _⟩ := sl_of_own hown
    subst hr
    unfold Mt.v
    have hBc := bw_to hb1 hbc
    have c0 := R2 wc 0 hBc
    have c1 := R2 wc 1 hBc
    have c2 := R2 wc 2 hBc
    have f0 := F2 0 wc hBc
    have f1 := F2 1 wc hBc
    have f2 := F2 2 wc hBc
    clear R1 R2 F2
    go_wp2_with fail
    refine bodyPost_ret (v := .tuple #[.agg #[.string m.name, .int .i64 m.stage, .slice A m.l.length c], .bool true]) ?hr rfl ⟨_, rfl, ?ho, ?hb⟩
    case ho =>
      have h4 := own_past (own_past (own_past hown (Nat.lt_of_lt_of_le hlt2 hz) 0 (.string m.name)) (Nat.lt_of_lt_of_le hlt2 hz) 1 (.int .i64 m.stage)) (Nat.lt_of_lt_of_le hlt2 hz) 2 (.slice A m.l.length c)
      rw [foldN_len]
      exact own_base h4 hB1.size
    case hb => exact grow_set (grow_set (grow_set (bw_to hw hBc) (Nat.le_succ _) _) (Nat.le_succ _) _) (Nat.le_succ _) _
    case hr => simp [results, go_sem, c0, c1, c2]
end Go.Proofs.Ytnbehldacehiiaa
