/- Contracts: the methods of a library that are alike to one. -/
import Derived.Test.YtnbehldacehiiaaTE
namespace Go.Proofs.Ytnbehldacehiiaa
open Go Go.RowKit
set_option linter.unusedVariables false
set_option linter.unusedSimpArgs false

/-- A library read by a call, no slice of changes without an array and with room. -/
def MethsN (w : World) (v : Value) (ms : List Mt) : Prop := ∃ vs : List Value, vs.length = ms.length ∧ Sl w 3 v ms.length ((ms.zip vs).flatMap mcells) ∧ ∀ p ∈ ms.zip vs, MethAt w p.1 p.2 ∧ NilOk p.2
theorem MethsN.meths {w : World} {v : Value} {ms : List Mt} (h : MethsN w v ms) : Meths w v ms :=
  let ⟨vs, h1, h2, h3⟩ := h; ⟨vs, h1, h2, fun p hp => (h3 p hp).1⟩
theorem MethsN.to {w w' : World} {v : Value} {ms : List Mt} (h : MethsN w v ms) (hb : Below w.heap.size w w') : MethsN w' v ms :=
  let ⟨vs, h1, h2, h3⟩ := h; ⟨vs, h1, h2.to hb, fun p hp => ⟨(h3 p hp).1.to hb, (h3 p hp).2⟩⟩
theorem OwnMeths.methsN {w : World} {base : Nat} {v : Value} {ms : List Mt} (h : OwnMeths w base v ms) (hs : AllSmall ms) : MethsN w v ms := by
  obtain ⟨vs, h1, h2, h3⟩ := h
  refine ⟨vs, h1, sl_of_own h2, fun p hp => ⟨⟨strs_of_own (h3 p hp), ?_, ?_⟩, nilok_own (h3 p hp)⟩⟩
  · exact Nat.le_trans (hs.2 p.1 (List.of_mem_zip hp).1).1 (by unfold maxLen; omega)
  · exact (hs.2 p.1 (List.of_mem_zip hp).1).2.fits
theorem lib_all {ms : List Mt} (h : libB ms = true) : ms.length ≤ 30 ∧ ∀ x ∈ ms, methB x = true := by
  unfold libB at h
  rw [Bool.and_eq_true, decide_eq_true_eq, List.all_eq_true] at h
  refine ⟨h.1, fun x hx => ?_⟩
  obtain ⟨k, hk, rfl⟩ := List.getElem_of_mem hx
  have := h.2 k (List.mem_range.2 hk)
  unfold okAt at this
  rw [Bool.and_eq_true, List.getD_eq_getElem?_getD, List.getElem?_eq_getElem hk] at this
  exact this.1
def alAt (ms : List Mt) (m : Mt) (i : Nat) : Bool := match ms[i]? with
  | some x => alikeB x m
  | none => false
def findTo (ms : List Mt) (m : Mt) (k : Nat) : List Int := ((List.range k).filter (alAt ms m)).map fun (i : Nat) => (i : Int)
theorem findTo_yes {ms : List Mt} {m : Mt} {k : Nat} (h : alAt ms m k = true) : findTo ms m (k + 1) = findTo ms m k ++ [(k : Int)] := by
  unfold findTo; rw [List.range_succ, List.filter_append, List.map_append]; simp [h]
theorem findTo_no {ms : List Mt} {m : Mt} {k : Nat} (h : alAt ms m k = false) : findTo ms m (k + 1) = findTo ms m k := by
  unfold findTo; rw [List.range_succ, List.filter_append, List.map_append]; simp [h]
theorem findTo_len (ms : List Mt) (m : Mt) (k : Nat) : (findTo ms m k).length ≤ k := by
  unfold findTo
  rw [List.length_map]
  exact Nat.le_trans (List.length_filter_le _ _) (by simp)
def findL (ms : List Mt) (m : Mt) : List Int := if libB ms && methB m then findTo ms m ms.length else []
theorem findL_yes {ms : List Mt} {m : Mt} (h : libB ms = true) (h' : methB m = true) : findL ms m = findTo ms m ms.length := by unfold findL; rw [h, h']; rfl
theorem findL_no1 {ms : List Mt} {m : Mt} (h : libB ms = false) : findL ms m = [] := by unfold findL; rw [h]; rfl
theorem findL_no2 {ms : List Mt} {m : Mt} (h : methB m = false) : findL ms m = [] := by unfold findL; rw [h, Bool.and_false]; rfl
theorem findL_len (ms : List Mt) (m : Mt) : (findL ms m).length ≤ ms.length := by
  unfold findL
  split
  · exact findTo_len _ _ _
  · simp
set_option maxRecDepth 100000 in
set_option maxHeartbeats 2000000 in
theorem implFindAlike_any (V : Value) (ms : List Mt) (m : Mt) (v : Value) (w : World) (h : MethsN w V ms) (hs : AllSmall ms) (hm : MethAt w m v) (hn : NilOk v) (hsm : MtSmall m) : Calls Try.prog 31 #[V, m.v v] w fun e w' =>
    ∃ r : Value, e = .returned (.tuple #[r, .bool (libB ms && methB m)]) ∧ w'.ownsRow w.heap.size 3 1 r (findL ms m).length ((findL ms m).map (Value.int .i64)) ∧ Below w.heap.size w w' := by
  have h00 := h
  obtain ⟨vs, hvl, ⟨A, c, rfl, h1, h2, hr⟩, hat⟩ := h
  unfold maxLen at h2
  have Hat := Lib.hid hat
  have H0 := Lib.hid h00
  have Hs := Lib.hid hs
  have Hm := Lib.hid hm
  have Hn := Lib.hid hn
  have Hsm := Lib.hid hsm
  obtain ⟨p, hp⟩ : ∃ p, p = libB ms := ⟨_, rfl⟩
  obtain ⟨q, hq⟩ : ∃ q, q = methB m := ⟨_, rfl⟩
  obtain ⟨L, hL⟩ : ∃ L, L = findL ms m := ⟨_, rfl⟩
  rw [← hp, ← hq, ← hL]
  have Hp := Lib.hid hp
  have Hq := Lib.hid hq
  have HL := Lib.hid hL
  clear hat h00 hs hm hn hsm hp hq hL
  unfold Mt.v
  go_enter Try.func31, Try.ntmps31
  go_wp2_with fail
  refine box1 (C := fun W => Calls _ _ _ W _) ?_
  intro wb hw k1 hB0
  have R1 := boxRule k1
  clear k1
  refine (implGoodLibrary_any _ ms wb (H0.out.to hw).meths Hs.out).mono ?_; rintro e w1 ⟨rfl, hb1⟩
  rw [← Hp.out]
  cases p
  · have hl := HL.out.trans (findL_no1 Hp.out.symm)
    subst hl
    go_wp2_with fail
    go_ret2
    exact ⟨_, rfl, World.ownsRow_nil _ _ _ _, bw_to hw hb1⟩
  · go_wp2_with fail
    refine (implGoodMethod_any m v w1 (Hm.out.to (bw_to hw hb1)) Hsm.out).mono ?_; rintro e w2 ⟨rfl, hb2⟩
    have hB2 := bw_to hb1 hb2
    have hw2 := bw_to hw hB2
    clear hb1 hb2
    rw [← Hq.out]
    cases q
    · have hl := HL.out.trans (findL_no2 Hq.out.symm)
      subst hl
      go_wp2_with fail
      go_ret2
      exact ⟨_, rfl, World.ownsRow_nil _ _ _ _, hw2⟩
    · have hlib := lib_all Hp.out.symm
      have hl30 := hlib.1
      have Hall := Lib.hid hlib.2
      clear hlib
      go_wp2_with fail
      go_loopw [6, 20] (fun z i wr => ∃ k : Nat, k ≤ ms.length ∧ i = .int .i64 k ∧ Below wb.heap.size wb wr ∧ wr.ownsRow wb.heap.size 3 1 z (findTo ms m k).length ((findTo ms m k).map (Value.int .i64))) (fun _ i _ => ms.length - (intOf i).toNat)
      case atStart => exact ⟨0, by omega, rfl, bw_al hB2 _, own_of_heap (cs := #[]) (n := 0) (heap_new w2 _) hB2.size (by unfold maxLen; omega) rfl⟩
      case round =>
        obtain ⟨k, hk, rfl, hB, hown⟩ := hrel
        by_cases hlt : k < ms.length
        · obtain ⟨ad, x, rfl, hmem, hC⟩ := meths_el hvl hr rfl hlt
          obtain ⟨c0, c1, c2⟩ := hC wr (bw_to hw hB)
          obtain ⟨y, hy⟩ : ∃ y, y = ms[k] := ⟨_, rfl⟩
          rw [← hy] at hmem c0 c1
          have hxs := (Hat.out _ hmem)
          have Hxn := Lib.hid hxs.2
          have hBw := bw_to hw hB
          have hBA := bw_al (Below.refl _ wr) (.cells #[.string y.name, .int .i64 y.stage, x] 36)
          have Hx1 := Lib.hid (hxs.1.to (bw_to hBw hBA))
          have Hm1 := Lib.hid (Hm.out.to (bw_to hBw hBA))
          have Hyg := Lib.hid (Hall.out y (by rw [hy]; exact List.getElem_mem hlt))
          have Hys := Lib.hid (Hs.out.2 y (by rw [hy]; exact List.getElem_mem hlt))
          have hal : alAt ms m k = alikeB y m := by unfold alAt; rw [List.getElem?_eq_getElem hlt, hy]
          obtain ⟨t, ht⟩ : ∃ t, t = alikeB y m := ⟨_, rfl⟩
          have hfl := findTo_len ms m k
          have hcall := alikeMethods_any y m x v _ Hx1.out.1 Hm1.out.1 Hxn.out Hn.out Hyg.out Hq.out.symm
          rw [← ht] at hcall hal
          have Hal := Lib.hid hal
          have Hcall := Lib.hid hcall
          have Hown := Lib.hid hown
          have R1a := fun i => R1 _ i (bw_to hB hBA)
          have HB := Lib.hid hB
          have HBA := Lib.hid hBA
          have HR1 := Lib.hid R1
          obtain ⟨Ax, nx, cx, hxv⟩ : ∃ A n c, x = .slice A n c := let ⟨A, c, e, _⟩ := hxs.1.1; ⟨A, _, c, e⟩
          clear hmem hxs hC hal hcall hown R1 hB hBA ht hy
          subst hxv
          go_wp2_with fail
          refine Hcall.out.mono ?_; rintro e w4 ⟨rfl, hb4⟩
          have Hb4 := Lib.hid (bw_to HBA.out hb4)
          have hown4 := own_to Hown.out Hb4.out
          have hz4 : wb.heap.size ≤ w4.heap.size := by have := HB.out.size; have := Hb4.out.size; omega
          clear hb4 R1a c0 c1 c2
          cases t
          · go_wp2_with fail
            exact ⟨⟨k + 1, by omega, by go_num, bw_to HB.out Hb4.out, by rw [findTo_no Hal.out]; exact hown4⟩, by simp [intOf]; omega⟩
          · go_wp2_with (at_builtin; go_must (refine wpList_app w4 rfl _ _ _ rfl wb.heap.size 3 _ 1 8 Try.underlying50 info_i64 rfl (by omega) hown4 [.int .i64 k] rfl rfl rfl (one_mem rfl) (by omega) (by omega) hz4 ?_); intro v5 w5 hown5 hb5 _ _)
            refine ⟨⟨k + 1, by omega, by go_num, (bw_to HB.out Hb4.out).trans hb5, ?_⟩, by simp [intOf]; omega⟩
            rw [findTo_yes Hal.out, List.map_append, List.length_append]
            exact hown5
        · obtain rfl : k = ms.length := by omega
          have hl := HL.out.trans (findL_yes Hp.out.symm Hq.out.symm)
          have hown' := hown
          rw [← hl] at hown'
          have Hown := Lib.hid hown'
          clear hown hown' hl
          go_wp2_with fail
          go_ret2
          exact ⟨_, rfl, own_base Hown.out hw.size, bw_to hw hB⟩
set_option maxRecDepth 100000 in
set_option maxHeartbeats 2000000 in
theorem specFindAlike_any (V : Value) (ms : List Mt) (m : Mt) (v : Value) (w : World) (h : MethsN w V ms) (hs : AllSmall ms) (hm : MethAt w m v) (hn : NilOk v) (hsm : MtSmall m) : Calls Try.prog 30 #[V, m.v v] w fun e w' =>
    ∃ r : Value, e = .returned (.tuple #[r, .bool (libB ms && methB m)]) ∧ w'.ownsRow w.heap.size 3 1 r (findL ms m).length ((findL ms m).map (Value.int .i64)) ∧ Below w.heap.size w w' := by
  have h00 := h
  obtain ⟨vs, hvl, ⟨A, c, rfl, h1, h2, hr⟩, hat⟩ := h
  unfold maxLen at h2
  have Hat := Lib.hid hat
  have H0 := Lib.hid h00
  have Hs := Lib.hid hs
  have Hm := Lib.hid hm
  have Hn := Lib.hid hn
  have Hsm := Lib.hid hsm
  obtain ⟨p, hp⟩ : ∃ p, p = libB ms := ⟨_, rfl⟩
  obtain ⟨q, hq⟩ : ∃ q, q = methB m := ⟨_, rfl⟩
  obtain ⟨L, hL⟩ : ∃ L, L = findL ms m := ⟨_, rfl⟩
  rw [← hp, ← hq, ← hL]
  have Hp := Lib.hid hp
  have Hq := Lib.hid hq
  have HL := Lib.hid hL
  clear hat h00 hs hm hn hsm hp hq hL
  unfold Mt.v
  go_enter Try.func30, Try.ntmps30
  go_wp2_with fail
  refine box1 (C := fun W => Calls _ _ _ W _) ?_
  intro wb hw k1 hB0
  have R1 := boxRule k1
  clear k1
  refine (l29Good_any _ ms wb (H0.out.to hw).meths Hs.out).mono ?_; rintro e w1 ⟨rfl, hb1⟩
  rw [← Hp.out]
  cases p
  · have hl := HL.out.trans (findL_no1 Hp.out.symm)
    subst hl
    go_wp2_with fail
    go_ret2
    exact ⟨_, rfl, World.ownsRow_nil _ _ _ _, bw_to hw hb1⟩
  · go_wp2_with fail
    refine (l4Good_any m v w1 (Hm.out.to (bw_to hw hb1)) Hsm.out).mono ?_; rintro e w2 ⟨rfl, hb2⟩
    have hB2 := bw_to hb1 hb2
    have hw2 := bw_to hw hB2
    clear hb1 hb2
    rw [← Hq.out]
    cases q
    · have hl := HL.out.trans (findL_no2 Hq.out.symm)
      subst hl
      go_wp2_with fail
      go_ret2
      exact ⟨_, rfl, World.ownsRow_nil _ _ _ _, hw2⟩
    · have hlib := lib_all Hp.out.symm
      have hl30 := hlib.1
      have Hall := Lib.hid hlib.2
      clear hlib
      go_wp2_with fail
      go_loopw [6, 19] (fun z i wr => ∃ k : Nat, k ≤ ms.length ∧ i = .int .i64 k ∧ Below wb.heap.size wb wr ∧ wr.ownsRow wb.heap.size 3 1 z (findTo ms m k).length ((findTo ms m k).map (Value.int .i64))) (fun _ i _ => ms.length - (intOf i).toNat)
      case atStart => exact ⟨0, by omega, rfl, hB2, World.ownsRow_nil _ _ _ _⟩
      case round =>
        obtain ⟨k, hk, rfl, hB, hown⟩ := hrel
        by_cases hlt : k < ms.length
        · obtain ⟨ad, x, rfl, hmem, hC⟩ := meths_el hvl hr rfl hlt
          obtain ⟨c0, c1, c2⟩ := hC wr (bw_to hw hB)
          obtain ⟨y, hy⟩ : ∃ y, y = ms[k] := ⟨_, rfl⟩
          rw [← hy] at hmem c0 c1
          have hxs := (Hat.out _ hmem)
          have Hxn := Lib.hid hxs.2
          have hBw := bw_to hw hB
          have hBA := bw_al (Below.refl _ wr) (.cells #[.string y.name, .int .i64 y.stage, x] 36)
          have Hx1 := Lib.hid (hxs.1.to (bw_to hBw hBA))
          have Hm1 := Lib.hid (Hm.out.to (bw_to hBw hBA))
          have Hyg := Lib.hid (Hall.out y (by rw [hy]; exact List.getElem_mem hlt))
          have Hys := Lib.hid (Hs.out.2 y (by rw [hy]; exact List.getElem_mem hlt))
          have hal : alAt ms m k = alikeB y m := by unfold alAt; rw [List.getElem?_eq_getElem hlt, hy]
          obtain ⟨t, ht⟩ : ∃ t, t = alikeB y m := ⟨_, rfl⟩
          have hfl := findTo_len ms m k
          have hcall := l29Alike_any y m x v _ Hx1.out Hm1.out Hxn.out Hn.out Hys.out Hsm.out Hyg.out Hq.out.symm
          rw [← ht] at hcall hal
          have Hal := Lib.hid hal
          have Hcall := Lib.hid hcall
          have Hown := Lib.hid hown
          have R1a := fun i => R1 _ i (bw_to hB hBA)
          have HB := Lib.hid hB
          have HBA := Lib.hid hBA
          have HR1 := Lib.hid R1
          obtain ⟨Ax, nx, cx, hxv⟩ : ∃ A n c, x = .slice A n c := let ⟨A, c, e, _⟩ := hxs.1.1; ⟨A, _, c, e⟩
          clear hmem hxs hC hal hcall hown R1 hB hBA ht hy
          subst hxv
          go_wp2_with fail
          refine Hcall.out.mono ?_; rintro e w4 ⟨rfl, hb4⟩
          have Hb4 := Lib.hid (bw_to HBA.out hb4)
          have hown4 := own_to Hown.out Hb4.out
          have hz4 : wb.heap.size ≤ w4.heap.size := by have := HB.out.size; have := Hb4.out.size; omega
          clear hb4 R1a c0 c1 c2
          cases t
          · go_wp2_with fail
            exact ⟨⟨k + 1, by omega, by go_num, bw_to HB.out Hb4.out, by rw [findTo_no Hal.out]; exact hown4⟩, by simp [intOf]; omega⟩
          · go_wp2_with (at_builtin; go_must (refine wpList_app w4 rfl _ _ _ rfl wb.heap.size 3 _ 1 8 Try.underlying50 info_i64 rfl (by omega) hown4 [.int .i64 k] rfl rfl rfl (one_mem rfl) (by omega) (by omega) hz4 ?_); intro v5 w5 hown5 hb5 _ _)
            refine ⟨⟨k + 1, by omega, by go_num, (bw_to HB.out Hb4.out).trans hb5, ?_⟩, by simp [intOf]; omega⟩
            rw [findTo_yes Hal.out, List.map_append, List.length_append]
            exact hown5
        · obtain rfl : k = ms.length := by omega
          have hl := HL.out.trans (findL_yes Hp.out.symm Hq.out.symm)
          have hown' := hown
          rw [← hl] at hown'
          have Hown := Lib.hid hown'
          clear hown hown' hl
          go_wp2_with fail
          go_ret2
          exact ⟨_, rfl, own_base Hown.out hw.size, bw_to hw hB⟩
end Go.Proofs.Ytnbehldacehiiaa
