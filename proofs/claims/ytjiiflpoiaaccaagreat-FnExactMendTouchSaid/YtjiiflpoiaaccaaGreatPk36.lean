/- Contracts: a repair's touch, a touch's lead heads, a touch mended: the specification's. -/
import Derived.Test.YtjiiflpoiaaccaaGreatPk35
namespace Go.Proofs.YtjiiflpoiaaccaaGreat
open Go Go.RowKit
set_option linter.unusedVariables false
set_option linter.unusedSimpArgs false

set_option maxRecDepth 100000 in
set_option maxHeartbeats 4000000 in
theorem specRepairTouch_any (m : Mt) (v : Value) (k : Cl) (n : Nat) (fr tg : ByteArray) (w : World) (hg : CGood m k n) (hc : callsB m k = true) (hf : PermR n fr) (ht : PermR n tg) (h : MethAt w m v) (hs : MtSmall m) (hk : ClSmall k) (a : Option (List UInt8)) (ha : a = if 4 ≤ m.stage then mendQ (headB n m.l k.bob k.single) fr tg else none) : Calls Tryz.prog 98 #[m.v v, k.v, .string fr, .string tg] w fun e w' =>
    e = .returned (.tuple #[.string (ofL (a.getD [])), .bool a.isSome]) ∧ Below w.heap.size w w' := by
  have hn := hg.m.hi
  have HA := Lib.hid (fun W (hW : Below w.heap.size w W) => l15Asked_any m v k n fr tg W hg hc hf ht (h.to hW) hs hk)
  have HL := Lib.hid (fun W (hW : Below w.heap.size w W) => l15Layers_any m v k n fr tg W hg (h.1.to hW) (perm_in hn hf))
  have HLe := Lib.hid (fun W (hW : Below w.heap.size w W) d hd => l15Least_any m v k n tg hg d fr W hd (perm_in hn hf) (h.1.to hW))
  have Ha := Lib.hid ha
  obtain ⟨F, hF⟩ : ∃ F, F = headB n m.l k.bob k.single := ⟨_, rfl⟩
  simp only [← hF] at HL HLe Ha
  obtain ⟨A, c, hv', _⟩ := h.1
  subst hv'
  unfold Mt.v Cl.v at *
  clear hF ha hg hc hf ht h hs hk
  by_cases h4 : 4 ≤ m.stage ∧ fr ≠ tg
  · have hd : (decide (4 ≤ m.stage) && !decide (fr = tg)) = true := by simp [h4.1, h4.2]
    rw [hd] at HA
    have Hq : Hid (a = mendQ F fr tg) := Lib.hid (by rw [Ha.out, if_pos h4.1])
    have Hne : Hid (fr ≠ tg) := Lib.hid h4.2
    clear hd h4 Ha
    go_enter Tryz.func98, Tryz.ntmps98
    go_wp2_with fail
    refine box2 (C := fun W => Calls _ _ _ W _) ?_
    intro wb hw k1 k2 hB0
    have R1 := boxRule k1
    have R2 := boxRule k2
    clear k1 k2
    refine (HA.out _ hw).mono ?_; rintro e w1 ⟨rfl, hb1⟩
    have r1 := fun i => R1 w1 i hb1
    have r2 := fun i => R2 w1 i hb1
    go_wp2_with fail
    refine (HL.out _ (bw_to hw hb1)).mono ?_; rintro e w2 ⟨A2, q2, vs2, rfl, hlay, hb2⟩
    have hB2 := bw_to hb1 hb2
    have r3 := fun i => R1 w2 i hB2
    have r4 := fun i => R2 w2 i hB2
    cases hrep : repB (headsR F) fr tg with
    | none =>
      have Hm : Hid (a = none) := Lib.hid (by rw [Hq.out, mendQ_none hrep])
      clear hrep hlay
      go_wp2_with fail
      go_ret2
      exact ⟨by rw [Hm.out]; rfl, bw_to hw hB2⟩
    | some N =>
      have Hm : Hid (a = leastB F tg N fr) := Lib.hid (by rw [Hq.out, mendQ_some Hne.out hrep])
      simp only [laysB_some hrep, laysU_len]
      have hN8 : N ≤ 8 := by have := (repGo_some 8 0 N hrep).2.1; omega
      have hw1 : IntKind.i64.wrap ((N : Int) + 1 - 1) = (N : Int) := by rw [IntWalk.i64_in _ ⟨by omega, by omega⟩]; omega
      have hw2 : (N : Int) + 1 - 1 = (N : Int) := by omega
      have Hl := Lib.hid (HLe.out w2 (bw_to hw hB2) N hN8)
      rw [← Hm.out] at Hl
      clear hrep hlay
      go_wp2_with fail
      refine (Hl.out).mono ?_; rintro e w3 ⟨rfl, hb3⟩
      go_wp2_with fail
      go_ret2
      exact ⟨rfl, bw_to hw (bw_to hB2 hb3)⟩
  · have hd : (decide (4 ≤ m.stage) && !decide (fr = tg)) = false := by
      by_cases h5 : 4 ≤ m.stage
      · have : fr = tg := Classical.byContradiction fun h => h4 ⟨h5, h⟩
        simp [this]
      · simp [h5]
    rw [hd] at HA
    have Hm : Hid (a = none) := Lib.hid (by
      rw [Ha.out]
      by_cases h5 : 4 ≤ m.stage
      · rw [if_pos h5]
        exact mendQ_same F (Classical.byContradiction fun h => h4 ⟨h5, h⟩)
      · rw [if_neg h5])
    clear hd h4 Ha
    go_enter Tryz.func98, Tryz.ntmps98
    go_wp2_with fail
    refine box2 (C := fun W => Calls _ _ _ W _) ?_
    intro wb hw k1 k2 hB0
    refine (HA.out _ hw).mono ?_; rintro e w1 ⟨rfl, hb1⟩
    go_wp2_with fail
    go_ret2
    exact ⟨by rw [Hm.out]; rfl, bw_to hw hb1⟩
theorem touchHeads_no (m : Mt) (v : Value) (k : Cl) (t : ByteArray) (w : World) (h : MethAt w m v) (hs : MtSmall m) (hk : ClSmall k) (ht : t.size ≤ maxLen) (ha : askT m k t = false) : Calls Tryz.prog 96 #[m.v v, k.v, .string t] w fun e w' => e = .returned (.tuple #[.slice none 0 0, .bool false]) ∧ Below w.heap.size w w' := by
  have HA := Lib.hid (fun W (hW : Below w.heap.size w W) => l9Asked_any m v k t W (h.to hW) hs hk ht)
  unfold askT at ha
  rw [ha] at HA
  obtain ⟨A, c, hv', _⟩ := h.1
  subst hv'
  unfold Mt.v Cl.v at *
  clear h hs hk ht ha
  go_enter Tryz.func96, Tryz.ntmps96
  go_wp2_with fail
  refine box2 (C := fun W => Calls _ _ _ W _) ?_
  intro wb hw k1 k2 hB0
  refine (HA.out _ hw).mono ?_; rintro e w1 ⟨rfl, hb1⟩
  go_wp2_with fail
  go_ret2
  exact ⟨rfl, bw_to hw hb1⟩
theorem touchHeads_yes (m : Mt) (v : Value) (k : Cl) (t : ByteArray) (n : Nat) (w : World) (hg : CGood m k n) (h : MethAt w m v) (hs : MtSmall m) (hk : ClSmall k) (ht : t.size ≤ maxLen) (ha : askT m k t = true) : Calls Tryz.prog 96 #[m.v v, k.v, .string t] w fun e w' =>
    ∃ A q, e = .returned (.tuple #[.slice A (t.size + 1) q, .bool true]) ∧ w'.ownsRow w.heap.size 9 1 (.slice A (t.size + 1) q) (t.size + 1) ((headsT m k t).map Value.string) ∧ Below w.heap.size w w' := by
  have HA := Lib.hid (fun W (hW : Below w.heap.size w W) => l9Asked_any m v k t W (h.to hW) hs hk ht)
  unfold askT at ha
  rw [ha] at HA
  rw [Bool.and_eq_true] at ha
  have HH := Lib.hid (fun W (hW : Below w.heap.size w W) => l9Heads_any m v k t n W hg (h.1.to hW) ha.2)
  rw [← headsT_n hg.m.st] at HH
  obtain ⟨A, c, hv', _⟩ := h.1
  subst hv'
  unfold Mt.v Cl.v at *
  clear h hs hk ht ha hg
  go_enter Tryz.func96, Tryz.ntmps96
  go_wp2_with fail
  refine box2 (C := fun W => Calls _ _ _ W _) ?_
  intro wb hw k1 k2 hB0
  have R1 := boxRule k1
  have R2 := boxRule k2
  refine (HA.out _ hw).mono ?_; rintro e w1 ⟨rfl, hb1⟩
  have r1 := fun i => R1 w1 i hb1
  have r2 := fun i => R2 w1 i hb1
  clear k1 k2
  go_wp2_with fail
  refine (HH.out _ (bw_to hw hb1)).mono ?_; rintro e w2 ⟨A2, q2, rfl, hown, hb2⟩
  have hB2 := bw_to hw (bw_to hb1 hb2)
  have Hown := Lib.hid (own_base hown (bw_to hw hb1).size)
  clear hown
  go_wp2_with fail
  go_ret2
  exact ⟨A2, q2, rfl, Hown.out, hB2⟩
end Go.Proofs.YtjiiflpoiaaccaaGreat

/- Contract: a touch mended, the specification's. -/
namespace Go.Proofs.YtjiiflpoiaaccaaGreat
open Go Go.RowKit
set_option linter.unusedVariables false
set_option linter.unusedSimpArgs false

theorem mendA_swap {m : Mt} {k : Cl} {t : ByteArray} {l' i' j' : Nat} (h1 : askT m k t = true) (h2 : (l' : Int) ≤ (t.size : Int) - 1) (h3 : 1 ≤ (i' : Int) ∧ (i' : Int) ≤ m.stage) (h4 : 1 ≤ (j' : Int) ∧ (j' : Int) ≤ m.stage) (h5 : ¬ (i' : Int) = (j' : Int)) (hlt : l' < (headsT m k t).length) :
    mendA m k t l' i' j' = if 4 ≤ m.stage then mendQ (headB m.stage.toNat m.l k.bob k.single) (swapB i' j' (headsT m k t)[l']) (endT m k t) else none := by
  have e : askM m k t l' i' j' = decide (4 ≤ m.stage) := by
    unfold askM
    rw [h1, decide_eq_true h3, decide_eq_true h4, decide_eq_false h5, decide_eq_true (show (0 : Int) ≤ (l' : Int) ∧ (l' : Int) ≤ (t.size : Int) - 1 from ⟨by omega, h2⟩)]
    simp
  by_cases hs : 4 ≤ m.stage
  · rw [if_pos hs, mendA_yes (by rw [e]; exact decide_eq_true hs) rfl hlt]
    simp
  · rw [if_neg hs]
    exact mendA_no (by rw [e]; exact decide_eq_false hs)
set_option maxRecDepth 100000 in
set_option maxHeartbeats 4000000 in
theorem specMendTouch_any (m : Mt) (v : Value) (k : Cl) (t : ByteArray) (lead i j : Int) (w : World) (h : MethAt w m v) (hs : MtSmall m) (hk : ClSmall k) (ht : t.size ≤ 1048576) : Calls Tryz.prog 16 #[m.v v, k.v, .string t, .int .i64 lead, .int .i64 i, .int .i64 j] w fun e w' =>
    e = .returned (.tuple #[.string (ofL ((mendA m k t lead i j).getD [])), .bool (mendA m k t lead i j).isSome]) ∧ Below w.heap.size w w' := by
  have htm : t.size ≤ maxLen := by unfold maxLen; omega
  have Hask : Hid (askM m k t lead i j = (askT m k t && (decide (4 ≤ m.stage) && (decide (0 ≤ lead ∧ lead ≤ (t.size : Int) - 1) && (decide (1 ≤ i ∧ i ≤ m.stage) && (decide (1 ≤ j ∧ j ≤ m.stage) && !decide (i = j))))))) := Lib.hid rfl
  have Hno := Lib.hid (fun (h : askM m k t lead i j = false) => mendA_no h)
  have Hsw : Hid (∀ (l' i' j' : Nat), lead = (l' : Int) → i = (i' : Int) → j = (j' : Int) → askT m k t = true → (l' : Int) ≤ (t.size : Int) - 1 → (1 ≤ (i' : Int) ∧ (i' : Int) ≤ m.stage) → (1 ≤ (j' : Int) ∧ (j' : Int) ≤ m.stage) → ¬ (i' : Int) = (j' : Int) → ∀ hlt : l' < (headsT m k t).length, mendA m k t lead i j = if 4 ≤ m.stage then mendQ (headB m.stage.toNat m.l k.bob k.single) (swapB i' j' ((headsT m k t)[l'])) (endT m k t) else none) := Lib.hid (by
    intro l' i' j' e1 e2 e3 h1 h2 h3 h4 h5 hlt
    subst e1 e2 e3
    exact mendA_swap h1 h2 h3 h4 h5 hlt)
  have Hh := Lib.hid h
  have Hs := Lib.hid hs
  have Hk := Lib.hid hk
  have Htm := Lib.hid htm
  have HT0 := Lib.hid (fun ha W (hW : Below w.heap.size w W) => touchHeads_no m v k t W (h.to hW) hs hk htm ha)
  have HT1 := Lib.hid (fun ha n hg W (hW : Below w.heap.size w W) => touchHeads_yes m v k t n W hg (h.to hW) hs hk htm ha)
  obtain ⟨A, c, hv', _⟩ := h.1
  subst hv'
  unfold Mt.v Cl.v at *
  obtain ⟨ma, hma⟩ : ∃ x, x = mendA m k t lead i j := ⟨_, rfl⟩
  simp only [← hma] at Hno Hsw
  rw [← hma]
  have hw1 : IntKind.i64.wrap ((t.size : Int) - 1) = (t.size : Int) - 1 := IntWalk.i64_in _ ⟨by omega, by omega⟩
  have HW := Lib.hid (fun W => l1In_any lead 0 ((t.size : Int) - 1) W)
  have HI1 := Lib.hid (fun W => l1In_any i 1 m.stage W)
  have HI2 := Lib.hid (fun W => l1In_any j 1 m.stage W)
  obtain ⟨d1, hd1⟩ : ∃ x, x = decide (0 ≤ lead ∧ lead ≤ (t.size : Int) - 1) := ⟨_, rfl⟩
  obtain ⟨d2, hd2⟩ : ∃ x, x = decide (1 ≤ i ∧ i ≤ m.stage) := ⟨_, rfl⟩
  obtain ⟨d3, hd3⟩ : ∃ x, x = decide (1 ≤ j ∧ j ≤ m.stage) := ⟨_, rfl⟩
  simp only [← hd1] at HW Hask
  simp only [← hd2] at HI1 Hask
  simp only [← hd3] at HI2 Hask
  have Hd1 := Lib.hid hd1
  have Hd2 := Lib.hid hd2
  have Hd3 := Lib.hid hd3
  clear hd1 hd2 hd3 hma h hs hk htm
  cases ha : askT m k t
  · have Hm : Hid (ma = none) := Lib.hid (Hno.out (by rw [Hask.out, ha, Bool.false_and]))
    have HT := Lib.hid (HT0.out ha)
    clear Hask Hno Hsw HT0 HT1 ha
    go_enter Tryz.func16, Tryz.ntmps16
    go_wp2_with fail
    refine box2 (C := fun W => Calls _ _ _ W _) ?_
    intro wb hw k1 k2 hB0
    refine (HT.out _ hw).mono ?_; rintro e w1 ⟨rfl, hb1⟩
    go_wp2_with fail
    go_ret2
    exact ⟨by rw [Hm.out]; rfl, bw_to hw hb1⟩
  have hat := ha
  unfold askT at hat
  rw [Bool.and_eq_true] at hat
  obtain ⟨n, hg⟩ := cgood_of hat.1
  have HT := Lib.hid (HT1.out ha n hg)
  have Hha := Lib.hid ha
  have Hhat := Lib.hid hat
  have Hhg := Lib.hid hg
  obtain ⟨hl, hhl⟩ : ∃ h, h = headsT m k t := ⟨_, rfl⟩
  rw [← hhl] at HT
  have Hhl := Lib.hid hhl
  clear HT0 HT1 ha hat hg hhl
  cases h1 : d1
  · subst h1
    have Hm : Hid (ma = none) := Lib.hid (Hno.out (by rw [Hask.out, Hha.out]; simp))
    clear Hask Hno Hsw Hha
    go_enter Tryz.func16, Tryz.ntmps16
    go_wp2_with fail
    refine box2 (C := fun W => Calls _ _ _ W _) ?_
    intro wb hw k1 k2 hB0
    have R1 := boxRule k1
    have R2 := boxRule k2
    clear k1 k2
    refine (HT.out _ hw).mono ?_; rintro e w1 ⟨A3, q3, rfl, hown3, hb1⟩
    have Hown3 := Lib.hid hown3
    have r1 := fun i => R1 w1 i hb1
    have HB1 := bw_to hw hb1
    clear hown3
    go_wp2_with fail
    refine (HW.out _).mono ?_; rintro e w2 ⟨rfl, rfl⟩
    go_wp2_with fail
    go_ret2
    exact ⟨by rw [Hm.out]; rfl, HB1⟩
  subst h1
  cases h2 : d2
  · subst h2
    have Hm : Hid (ma = none) := Lib.hid (Hno.out (by rw [Hask.out, Hha.out]; simp))
    clear Hask Hno Hsw Hha
    go_enter Tryz.func16, Tryz.ntmps16
    go_wp2_with fail
    refine box2 (C := fun W => Calls _ _ _ W _) ?_
    intro wb hw k1 k2 hB0
    have R1 := boxRule k1
    have R2 := boxRule k2
    clear k1 k2
    refine (HT.out _ hw).mono ?_; rintro e w1 ⟨A3, q3, rfl, hown3, hb1⟩
    have Hown3 := Lib.hid hown3
    have r1 := fun i => R1 w1 i hb1
    have HB1 := bw_to hw hb1
    clear hown3
    go_wp2_with fail
    refine (HW.out _).mono ?_; rintro e w2 ⟨rfl, rfl⟩
    go_wp2_with fail
    refine (HI1.out _).mono ?_; rintro e w2 ⟨rfl, rfl⟩
    go_wp2_with fail
    go_ret2
    exact ⟨by rw [Hm.out]; rfl, HB1⟩
  subst h2
  cases h3 : d3
  · subst h3
    have Hm : Hid (ma = none) := Lib.hid (Hno.out (by rw [Hask.out, Hha.out]; simp))
    clear Hask Hno Hsw Hha
    go_enter Tryz.func16, Tryz.ntmps16
    go_wp2_with fail
    refine box2 (C := fun W => Calls _ _ _ W _) ?_
    intro wb hw k1 k2 hB0
    have R1 := boxRule k1
    have R2 := boxRule k2
    clear k1 k2
    refine (HT.out _ hw).mono ?_; rintro e w1 ⟨A3, q3, rfl, hown3, hb1⟩
    have Hown3 := Lib.hid hown3
    have r1 := fun i => R1 w1 i hb1
    have HB1 := bw_to hw hb1
    clear hown3
    go_wp2_with fail
    refine (HW.out _).mono ?_; rintro e w2 ⟨rfl, rfl⟩
    go_wp2_with fail
    refine (HI1.out _).mono ?_; rintro e w2 ⟨rfl, rfl⟩
    go_wp2_with fail
    refine (HI2.out _).mono ?_; rintro e w2 ⟨rfl, rfl⟩
    go_wp2_with fail
    go_ret2
    exact ⟨by rw [Hm.out]; rfl, HB1⟩
  subst h3
  by_cases h5 : i = j
  · subst h5
    have Hm : Hid (ma = none) := Lib.hid (Hno.out (by rw [Hask.out, Hha.out]; simp))
    clear Hask Hno Hsw Hha
    go_enter Tryz.func16, Tryz.ntmps16
    go_wp2_with fail
    refine box2 (C := fun W => Calls _ _ _ W _) ?_
    intro wb hw k1 k2 hB0
    have R1 := boxRule k1
    have R2 := boxRule k2
    clear k1 k2
    refine (HT.out _ hw).mono ?_; rintro e w1 ⟨A3, q3, rfl, hown3, hb1⟩
    have Hown3 := Lib.hid hown3
    have r1 := fun i => R1 w1 i hb1
    have HB1 := bw_to hw hb1
    clear hown3
    go_wp2_with fail
    refine (HW.out _).mono ?_; rintro e w2 ⟨rfl, rfl⟩
    go_wp2_with fail
    refine (HI1.out _).mono ?_; rintro e w2 ⟨rfl, rfl⟩
    go_wp2_with fail
    refine (HI2.out _).mono ?_; rintro e w2 ⟨rfl, rfl⟩
    go_wp2_with fail
    go_ret2
    exact ⟨by rw [Hm.out]; rfl, HB1⟩
  have hg := Hhg.out
  have hc := Hhat.out.1
  have hst := hg.m.st
  have hn := hg.m.hi
  have hld := of_decide_eq_true Hd1.out.symm
  have hi2 := of_decide_eq_true Hd2.out.symm
  have hj2 := of_decide_eq_true Hd3.out.symm
  obtain ⟨l', hl'⟩ : ∃ l' : Nat, lead = (l' : Int) := ⟨lead.toNat, by omega⟩
  obtain ⟨i', hi'⟩ : ∃ i' : Nat, i = (i' : Int) := ⟨i.toNat, by omega⟩
  obtain ⟨j', hj'⟩ : ∃ j' : Nat, j = (j' : Int) := ⟨j.toNat, by omega⟩
  have hlt : l' < (headsT m k t).length := by rw [headsT_len]; omega
  have Hans := Lib.hid (Hsw.out l' i' j' hl' hi' hj' Hha.out (by omega) (by omega) (by omega) (by omega) hlt)
  have hlast := headsT_last m k t
  have hpm := headsT_perm (k := k) hg.m t
  have hpl := hpm _ (List.getElem_mem hlt)
  have hpe : PermR n (endT m k t) := hpm _ (List.mem_of_getElem? hlast)
  obtain ⟨x, hx⟩ : ∃ x, x = (headsT m k t)[l'] := ⟨_, rfl⟩
  rw [← hx] at hpl Hans
  have Hxl : Hid (hl[l']? = some x) := Lib.hid (by rw [Hhl.out, hx]; exact List.getElem?_eq_getElem hlt)
  have Hlast : Hid (hl[t.size]? = some (endT m k t)) := Lib.hid (by rw [Hhl.out]; exact hlast)
  subst hl' hi' hj'
  have hij : i' ≠ j' := fun e => h5 (by rw [e])
  have HX := Lib.hid (fun W => l31Swap_any n x i' j' W hn hpl (by omega) (by omega) (by omega) (by omega))
  have hps := swap_perm hn hpl (i := i') (j := j') (by omega) (by omega) (by omega) (by omega) hij
  have hstn : (headB m.stage.toNat m.l k.bob k.single) = headB n m.l k.bob k.single := by rw [hst]; rfl
  rw [hstn] at Hans
  have HR := Lib.hid (fun W (hW : Below w.heap.size w W) => specRepairTouch_any m (.slice A m.l.length c) k n (swapB i' j' x) (endT m k t) W hg hc hps hpe (Hh.out.to hW) Hs.out Hk.out ma Hans.out)
  obtain ⟨en, hen⟩ : ∃ e, e = endT m k t := ⟨_, rfl⟩
  rw [← hen] at HR Hlast
  obtain ⟨sx, hsx⟩ : ∃ s, s = swapB i' j' x := ⟨_, rfl⟩
  rw [← hsx] at HR HX
  unfold Mt.v Cl.v at HR
  have hij2 : ¬ (i' : Int) = (j' : Int) := h5
  have htlen : t.size < t.size + 1 := Nat.lt_succ_self _
  have hl0 : (l' : Int) < (t.size : Int) + 1 := by omega
  clear Hask Hno Hsw Hha Hhat Hhg hg hc hst hn hld hi2 hj2 hlt hlast hpm hpl hpe hx hps hstn hen hsx Hans h5 hij
  go_enter Tryz.func16, Tryz.ntmps16
  go_wp2_with fail
  refine box2 (C := fun W => Calls _ _ _ W _) ?_
  intro wb hw k1 k2 hB0
  have R1 := boxRule k1
  have R2 := boxRule k2
  clear k1 k2
  refine (HT.out _ hw).mono ?_; rintro e w1 ⟨A3, q3, rfl, hown3, hb1⟩
  have Hown3 := Lib.hid hown3
  have r1 := fun i => R1 w1 i hb1
  have HB1 := bw_to hw hb1
  clear hown3
  obtain ⟨g3, hg3, _⟩ := own_ptr Hown3.out (by omega)
  subst hg3
  go_wp2_with fail
  refine (HW.out _).mono ?_; rintro e w2 ⟨rfl, rfl⟩
  go_wp2_with fail
  refine (HI1.out _).mono ?_; rintro e w2 ⟨rfl, rfl⟩
  go_wp2_with fail
  refine (HI2.out _).mono ?_; rintro e w2 ⟨rfl, rfl⟩
  have hcl : ∀ u : Aft w1, u.w.cell? ⟨g3, l', none⟩ = some (.string x) := fun u => by
    have h1 := (own_to Hown3.out u.h).cellAt l' (by omega)
    rw [h1, List.getElem?_map, Hxl.out]; rfl
  have hce : ∀ u : Aft w1, u.w.cell? ⟨g3, t.size, none⟩ = some (.string en) := fun u => by
    have h1 := (own_to Hown3.out u.h).cellAt t.size (by omega)
    rw [h1, List.getElem?_map, Hlast.out]; rfl
  have hr1 := fun (u : Aft w1) i => R1 u.w i (bw_to hb1 u.h)
  have hr2 := fun (u : Aft w1) i => R2 u.w i (bw_to hb1 u.h)
  have hBr := Below.refl w1.heap.size w1
  go_upto_region 4 with fail
  refine wp_region_aft (wb := w1) (by kernel_rfl) (by kernel_rfl) hBr ?_
  repeat (go_big_quiet_step ((first | (go_at_call 99; exact calls_aft fun w hw => HX.out w) | (go_at_call 98; exact calls_aft fun w hw => HR.out w (bw_to HB1 hw)))))
  refine wpQuiet_nil ?_
  rintro _ ⟨u3, rfl⟩
  have hB7 := u3.h
  generalize u3.w = w7 at hB7 ⊢
  have hB37 := bw_to HB1 hB7
  clear hcl hce hr1 hr2
  go_wp2_with fail
  go_ret2
  exact ⟨rfl, hB37⟩
end Go.Proofs.YtjiiflpoiaaccaaGreat
