/- The form of a proof: both sides. (Printed by a program: tools/mkLB.py.) -/
import Derived.Test.YtofpjbdelmmclaaGreatDoorPk24
import Derived.Test.YtofpjbdelmmclaaGreatDoorPk25
import Derived.Laws.StructEq
namespace Go.Proofs.YtofpjbdelmmclaaGreatDoor
open Go Go.RowKit
set_option linter.unusedVariables false
set_option linter.unusedSimpArgs false

def digC (c : UInt8) : Bool := decide (48 ≤ c.toNat ∧ c.toNat ≤ 57)
theorem dig_no1 {c : UInt8} (h : (c.toNat : Int) < 48) : digC c = false := by unfold digC; simp; omega
theorem dig_no2 {c : UInt8} (h : 57 < (c.toNat : Int)) : digC c = false := by unfold digC; simp; omega
theorem dig_yes {c : UInt8} (h1 : ¬ (c.toNat : Int) < 48) (h2 : (c.toNat : Int) ≤ 57) : digC c = true := by unfold digC; simp; omega
theorem digB_eq (s : ByteArray) : digB s = (s.data.toList.all digC && decide (1 ≤ s.size ∧ s.size ≤ 8)) := rfl
theorem dig_no {s : ByteArray} {k : Nat} (hk : k < s.data.toList.length) (h : digC s.data.toList[k] = false) : digB s = false := by rw [digB_eq, all_false hk h]; rfl
theorem dig_end {s : ByteArray} {k : Nat} (hk : k ≤ s.size) (hn : ¬ k < s.size) (h : (s.data.toList.take k).all digC = true) : decide (1 ≤ (s.size : Int) ∧ (s.size : Int) ≤ 8) = digB s := by
  rw [digB_eq, all_true (by simp; omega) h]
  simp only [Bool.true_and]
  congr 1
  apply propext
  omega
set_option maxHeartbeats 1000000 in
theorem areDigits_any (s : ByteArray) (w : World) (hs : s.size ≤ maxLen) : Calls Tryz.prog 79 #[.string s] w fun e w' => e = .returned (.bool (digB s)) ∧ w = w' := by
  unfold maxLen at hs
  go_enter Tryz.func79, Tryz.ntmps79
  go_wp2
  go_loop [6] (fun i => ∃ k : Nat, k ≤ s.size ∧ i = .int .i64 k ∧ (s.data.toList.take k).all digC = true) (fun i => s.size - (intOf i).toNat)
  case atStart => exact ⟨0, Nat.zero_le _, rfl, by simp⟩
  case round =>
    obtain ⟨k, hk, rfl, ha⟩ := hrel
    have Ha := Lib.hid ha
    clear ha
    by_cases hlt : k < s.size
    · go_wp2
      · go_ret
        exact ⟨ret_bool (dig_no (by simpa using hlt) (dig_no1 (by assumption))).symm, rfl⟩
      · go_ret
        exact ⟨ret_bool (dig_no (by simpa using hlt) (dig_no2 (by assumption))).symm, rfl⟩
      · exact ⟨⟨k + 1, by omega, by go_num, all_step (by simpa using hlt) Ha.out (dig_yes (by assumption) (by assumption))⟩, by simp [intOf]; omega⟩
    · have hE := Lib.hid (dig_end hk hlt Ha.out)
      go_wp2_with (go_at_call 66; refine (within_any _ _ _ _).mono ?_; rintro e w' ⟨rfl, rfl⟩; rw [hE.out])
      go_ret
      exact ⟨rfl, rfl⟩
set_option maxHeartbeats 1000000 in
theorem l20Digits_any (s : ByteArray) (w : World) (hs : s.size ≤ maxLen) : Calls Tryz.prog 80 #[.string s] w fun e w' => e = .returned (.bool (digB s)) ∧ w = w' := by
  unfold maxLen at hs
  go_enter Tryz.func80, Tryz.ntmps80
  go_wp2
  go_loop [3] (fun i => ∃ k : Nat, k ≤ s.size ∧ i = .int .i64 k ∧ (s.data.toList.take k).all digC = true) (fun i => s.size - (intOf i).toNat)
  case atStart => exact ⟨0, Nat.zero_le _, rfl, by simp⟩
  case round =>
    obtain ⟨k, hk, rfl, ha⟩ := hrel
    have Ha := Lib.hid ha
    clear ha
    by_cases hlt : k < s.size
    · go_wp2
      · go_ret
        exact ⟨ret_bool (dig_no (by simpa using hlt) (dig_no1 (by assumption))).symm, rfl⟩
      · go_ret
        exact ⟨ret_bool (dig_no (by simpa using hlt) (dig_no2 (by assumption))).symm, rfl⟩
      · exact ⟨⟨k + 1, by omega, by go_num, all_step (by simpa using hlt) Ha.out (dig_yes (by assumption) (by assumption))⟩, by simp [intOf]; omega⟩
    · have hE := Lib.hid (dig_end hk hlt Ha.out)
      go_wp2_with (go_at_call 68; refine (l1In_any _ _ _ _).mono ?_; rintro e w' ⟨rfl, rfl⟩; rw [hE.out])
      go_ret
      exact ⟨rfl, rfl⟩
/-- Texts that are not too long. -/
def FitS (hs : List ByteArray) : Prop := ∀ s ∈ hs, s.size ≤ maxLen
def FitL (ls : List Ln) : Prop := ∀ l ∈ ls, l.row.size ≤ maxLen
theorem lnB_row {l : Ln} (h : digB l.row = false) : lnB l = false := by unfold lnB; rw [h]; rfl
theorem lnB_lead {l : Ln} (h : decide ((0 : Int) ≤ l.lead ∧ l.lead ≤ 60) = false) : lnB l = false := by unfold lnB; rw [h, Bool.false_and, Bool.and_false]
theorem lnB_at {l : Ln} (h : decide ((0 : Int) ≤ l.at' ∧ l.at' ≤ 40) = false) : lnB l = false := by unfold lnB; rw [h, Bool.and_false, Bool.and_false]
theorem lnB_yes {l : Ln} (h1 : digB l.row = true) (h2 : decide ((0 : Int) ≤ l.lead ∧ l.lead ≤ 60) = true) (h3 : decide ((0 : Int) ≤ l.at' ∧ l.at' ≤ 40) = true) : lnB l = true := by unfold lnB; rw [h1, h2, h3]; rfl
theorem shape_h {hs : List ByteArray} {ls : List Ln} {k : Nat} (hk : k < hs.length) (h : digB hs[k] = false) : shapeB hs ls = false := by unfold shapeB; rw [all_false hk h, Bool.false_and, Bool.and_false]
theorem shape_l {hs : List ByteArray} {ls : List Ln} {k : Nat} (hk : k < ls.length) (h : lnB ls[k] = false) : shapeB hs ls = false := by unfold shapeB; rw [all_false hk h, Bool.and_false, Bool.and_false]
theorem shape_z1 {hs : List ByteArray} {ls : List Ln} (h : ¬ hs.length ≤ 61) : shapeB hs ls = false := by unfold shapeB; rw [decide_eq_false h]; rfl
theorem shape_z2 {hs : List ByteArray} {ls : List Ln} (h : ¬ ls.length ≤ 800) : shapeB hs ls = false := by unfold shapeB; rw [decide_eq_false h, Bool.and_false]; rfl
theorem shape_yes {hs : List ByteArray} {ls : List Ln} {i j : Nat} (hi : i = hs.length) (hj : j = ls.length) (h1 : hs.length ≤ 61) (h2 : ls.length ≤ 800) (h3 : (hs.take i).all digB = true) (h4 : (ls.take j).all lnB = true) : shapeB hs ls = true := by
  unfold shapeB; rw [decide_eq_true h1, decide_eq_true h2, all_true hi h3, all_true hj h4]; rfl
set_option maxRecDepth 10000 in
set_option maxHeartbeats 4000000 in
theorem goodProof_any (hv lv : Value) (hs : List ByteArray) (ls : List Ln) (w : World) (hh : Strs w hv hs) (hl : Lns w lv ls) (fh : FitS hs) (fl : FitL ls) : Calls Tryz.prog 38 #[.agg #[hv, lv]] w fun e w' => e = .returned (.bool (shapeB hs ls)) ∧ Below w.heap.size w w' := by
  obtain ⟨A1, c1, rfl, hc1, hm1, hr1⟩ := hh
  obtain ⟨A2, c2, rfl, hc2, hm2, hr2⟩ := hl
  unfold maxLen at hm1 hm2
  have Fh := Lib.hid (fun k (hk : k < hs.length) W => areDigits_any hs[k] W (fh _ (List.getElem_mem hk)))
  have Fl := Lib.hid (fun k (hk : k < ls.length) W => areDigits_any ls[k].row W (fl _ (List.getElem_mem hk)))
  clear fh fl
  go_enter Tryz.func38, Tryz.ntmps38
  go_upto_region 1 with fail
  refine box1 (C := fun W => Code.wp _ _ _ _ W) ?_
  intro wb hw k1 hB0
  have R1 := boxRule k1
  have c0 := R1 wb 0 (Below.refl _ _)
  have c1' := R1 wb 1 (Below.refl _ _)
  clear k1
  by_cases z1 : hs.length ≤ 61
  rotate_left
  · have g1 : decide ((61 : Int) < (hs.length : Int)) = true := by simp; omega
    have hF := Lib.hid (shape_z1 (ls := ls) z1)
    go_wp2_with fail
    go_ret
    exact ⟨by rw [hF.out] <;> rfl, hw⟩
  by_cases z2 : ls.length ≤ 800
  rotate_left
  · have g1 : decide ((61 : Int) < (hs.length : Int)) = false := by simp; omega
    have g2 : decide ((800 : Int) < (ls.length : Int)) = true := by simp; omega
    have hF := Lib.hid (shape_z2 (hs := hs) z2)
    go_wp2_with fail
    go_ret
    exact ⟨by rw [hF.out] <;> rfl, hw⟩
  have g1 : decide ((61 : Int) < (hs.length : Int)) = false := by simp; omega
  have g2 : decide ((800 : Int) < (ls.length : Int)) = false := by simp; omega
  go_wp2_with fail
  clear g1 g2 c0 c1'
  go_loopw [20] (fun i wr => ∃ k : Nat, k ≤ hs.length ∧ i = .int .i64 k ∧ (hs.take k).all digB = true ∧ Below w.heap.size w wr ∧ Below wb.heap.size wb wr) (fun i _ => hs.length - (intOf i).toNat)
  case atStart => exact ⟨0, Nat.zero_le _, rfl, by simp, hw, Below.refl _ _⟩
  case round =>
    obtain ⟨k, hk, rfl, ha, hB, hBb⟩ := hrel
    have Ha := Lib.hid ha
    clear ha
    by_cases hlt : k < hs.length
    · obtain ⟨ad, rfl, hC⟩ := strs_el hr1 hlt
      have hC0 := hC wr hB
      have Hd := Lib.hid (fun W => Fh.out k hlt W)
      have Hno := Lib.hid (fun (h : digB hs[k] = false) => shape_h (ls := ls) hlt h)
      have Hys := Lib.hid (fun (h : digB hs[k] = true) => all_step hlt Ha.out h)
      obtain ⟨x, hx⟩ : ∃ x, x = hs[k] := ⟨_, rfl⟩
      rw [← hx] at hC0 Hd Hno Hys
      obtain ⟨bx, hbx⟩ : ∃ b, b = digB x := ⟨_, rfl⟩
      rw [← hbx] at Hd Hno Hys
      clear hC hx hbx
      go_wp2_with fail
      refine (Hd.out _).mono ?_; rintro e w1 ⟨rfl, rfl⟩
      cases bx
      · have hF := Lib.hid (Hno.out rfl)
        go_wp2_with fail
        go_ret
        exact ⟨by rw [hF.out] <;> rfl, hB⟩
      · have hT := Lib.hid (Hys.out rfl)
        go_wp2_with fail
        exact ⟨⟨k + 1, by omega, by go_num, hT.out, hB, hBb⟩, by simp [intOf] <;> omega⟩
    · obtain rfl : k = hs.length := by omega
      have b1 := R1 wr 1 hBb
      go_wp2_with fail
      obtain ⟨wo, rfl⟩ : ∃ wo : World, wo = wr := ⟨_, rfl⟩
      go_loopw [31] (fun i wr => ∃ j : Nat, j ≤ ls.length ∧ i = .int .i64 j ∧ (ls.take j).all lnB = true ∧ Below w.heap.size w wr ∧ Below wb.heap.size wb wr) (fun i _ => ls.length - (intOf i).toNat)
      case atStart => exact ⟨0, Nat.zero_le _, rfl, by simp, hB, hBb⟩
      case round =>
        clear hB hBb b1
        obtain ⟨j, hj, rfl, ha2, hB, hBb⟩ := hrel
        have Ha2 := Lib.hid ha2
        clear ha2
        by_cases hlt2 : j < ls.length
        · obtain ⟨ad, rfl, hC⟩ := lns_el hr2 rfl hlt2
          obtain ⟨q0, q1, q2⟩ := hC wr hB
          have Hd := Lib.hid (fun W => Fl.out j hlt2 W)
          have Hn1 := Lib.hid (fun h => shape_l (hs := hs) hlt2 (lnB_row h))
          have Hn2 := Lib.hid (fun h => shape_l (hs := hs) hlt2 (lnB_lead h))
          have Hn3 := Lib.hid (fun h => shape_l (hs := hs) hlt2 (lnB_at h))
          have Hys := Lib.hid (fun (h1 : digB ls[j].row = true) (h2 : decide ((0 : Int) ≤ ls[j].lead ∧ ls[j].lead ≤ 60) = true) (h3 : decide ((0 : Int) ≤ ls[j].at' ∧ ls[j].at' ≤ 40) = true) => all_step hlt2 Ha2.out (lnB_yes (l := ls[j]) h1 h2 h3))
          obtain ⟨x, hx⟩ : ∃ x, x = ls[j] := ⟨_, rfl⟩
          rw [← hx] at q0 q1 q2 Hd Hn1 Hn2 Hn3 Hys
          obtain ⟨bx, hbx⟩ : ∃ b, b = digB x.row := ⟨_, rfl⟩
          rw [← hbx] at Hd Hn1 Hys
          obtain ⟨by', hby⟩ : ∃ b, b = decide ((0 : Int) ≤ x.lead ∧ x.lead ≤ 60) := ⟨_, rfl⟩
          rw [← hby] at Hn2 Hys
          have Ey := Lib.hid hby
          obtain ⟨bz, hbz⟩ : ∃ b, b = decide ((0 : Int) ≤ x.at' ∧ x.at' ≤ 40) := ⟨_, rfl⟩
          rw [← hbz] at Hn3 Hys
          have Ez := Lib.hid hbz
          clear hC hx hbx hby hbz
          go_wp2_with fail
          refine box1 (C := fun W => Calls _ _ _ W _) ?_
          intro w2 hw2 k2 hB2
          have R2 := boxRule k2
          have p0 := R2 w2 0 (Below.refl _ _)
          have p1 := R2 w2 1 (Below.refl _ _)
          have p2 := R2 w2 2 (Below.refl _ _)
          have hB3 := bw_to hB hw2
          have hBb3 := bw_to hBb hw2
          clear q0 q1 q2 k2 hw2 hB hBb hB2
          refine (Hd.out _).mono ?_; rintro e w3 ⟨rfl, rfl⟩
          cases bx
          · have hF := Lib.hid (Hn1.out rfl)
            go_wp2_with fail
            go_ret
            exact ⟨by rw [hF.out] <;> rfl, hB3⟩
          cases by'
          · have hF := Lib.hid (Hn2.out rfl)
            go_wp2_with (go_at_call 66; refine (within_any _ _ _ _).mono ?_; rintro e w' ⟨rfl, rfl⟩; rw [← Ey.out])
            go_ret
            exact ⟨by rw [hF.out] <;> rfl, hB3⟩
          cases bz
          · have hF := Lib.hid (Hn3.out rfl)
            go_wp2_with (go_at_call 66; refine (within_any _ _ _ _).mono ?_; rintro e w' ⟨rfl, rfl⟩; first | rw [← Ey.out] | rw [← Ez.out])
            go_ret
            exact ⟨by rw [hF.out] <;> rfl, hB3⟩
          · have hT := Lib.hid (Hys.out rfl rfl rfl)
            go_wp2_with (go_at_call 66; refine (within_any _ _ _ _).mono ?_; rintro e w' ⟨rfl, rfl⟩; first | rw [← Ey.out] | rw [← Ez.out])
            exact ⟨⟨j + 1, by omega, by go_num, hT.out, hB3, hBb3⟩, by simp [intOf] <;> omega⟩
        · obtain rfl : j = ls.length := by omega
          have hF := Lib.hid (shape_yes rfl rfl z1 z2 Ha.out Ha2.out)
          clear Ha Ha2
          go_wp2_with fail
          go_ret
          exact ⟨by rw [hF.out] <;> rfl, hB⟩
set_option maxRecDepth 10000 in
set_option maxHeartbeats 4000000 in
theorem l20Shape_any (hv lv : Value) (hs : List ByteArray) (ls : List Ln) (w : World) (hh : Strs w hv hs) (hl : Lns w lv ls) (fh : FitS hs) (fl : FitL ls) : Calls Tryz.prog 40 #[.agg #[hv, lv]] w fun e w' => e = .returned (.bool (shapeB hs ls)) ∧ Below w.heap.size w w' := by
  obtain ⟨A1, c1, rfl, hc1, hm1, hr1⟩ := hh
  obtain ⟨A2, c2, rfl, hc2, hm2, hr2⟩ := hl
  unfold maxLen at hm1 hm2
  have Fh := Lib.hid (fun k (hk : k < hs.length) W => l20Digits_any hs[k] W (fh _ (List.getElem_mem hk)))
  have Fl := Lib.hid (fun k (hk : k < ls.length) W => l20Digits_any ls[k].row W (fl _ (List.getElem_mem hk)))
  clear fh fl
  go_enter Tryz.func40, Tryz.ntmps40
  go_upto_region 1 with fail
  refine box1 (C := fun W => Code.wp _ _ _ _ W) ?_
  intro wb hw k1 hB0
  have R1 := boxRule k1
  have c0 := R1 wb 0 (Below.refl _ _)
  clear k1
  go_wp2_with fail
  clear c0
  go_loopw [10] (fun i wr => ∃ k : Nat, k ≤ hs.length ∧ i = .int .i64 k ∧ (hs.take k).all digB = true ∧ Below w.heap.size w wr ∧ Below wb.heap.size wb wr) (fun i _ => hs.length - (intOf i).toNat)
  case atStart => exact ⟨0, Nat.zero_le _, rfl, by simp, hw, Below.refl _ _⟩
  case round =>
    obtain ⟨k, hk, rfl, ha, hB, hBb⟩ := hrel
    have Ha := Lib.hid ha
    clear ha
    by_cases hlt : k < hs.length
    · obtain ⟨ad, rfl, hC⟩ := strs_el hr1 hlt
      have hC0 := hC wr hB
      have Hd := Lib.hid (fun W => Fh.out k hlt W)
      have Hno := Lib.hid (fun (h : digB hs[k] = false) => shape_h (ls := ls) hlt h)
      have Hys := Lib.hid (fun (h : digB hs[k] = true) => all_step hlt Ha.out h)
      obtain ⟨x, hx⟩ : ∃ x, x = hs[k] := ⟨_, rfl⟩
      rw [← hx] at hC0 Hd Hno Hys
      obtain ⟨bx, hbx⟩ : ∃ b, b = digB x := ⟨_, rfl⟩
      rw [← hbx] at Hd Hno Hys
      clear hC hx hbx
      go_wp2_with fail
      refine (Hd.out _).mono ?_; rintro e w1 ⟨rfl, rfl⟩
      cases bx
      · have hF := Lib.hid (Hno.out rfl)
        go_wp2_with fail
        go_ret
        exact ⟨by rw [hF.out] <;> rfl, hB⟩
      · have hT := Lib.hid (Hys.out rfl)
        go_wp2_with fail
        exact ⟨⟨k + 1, by omega, by go_num, hT.out, hB, hBb⟩, by simp [intOf] <;> omega⟩
    · obtain rfl : k = hs.length := by omega
      have b1 := R1 wr 1 hBb
      go_wp2_with fail
      obtain ⟨wo, rfl⟩ : ∃ wo : World, wo = wr := ⟨_, rfl⟩
      go_loopw [21] (fun i wr => ∃ j : Nat, j ≤ ls.length ∧ i = .int .i64 j ∧ (ls.take j).all lnB = true ∧ Below w.heap.size w wr ∧ Below wb.heap.size wb wr) (fun i _ => ls.length - (intOf i).toNat)
      case atStart => exact ⟨0, Nat.zero_le _, rfl, by simp, hB, hBb⟩
      case round =>
        clear hB hBb b1
        obtain ⟨j, hj, rfl, ha2, hB, hBb⟩ := hrel
        have Ha2 := Lib.hid ha2
        clear ha2
        by_cases hlt2 : j < ls.length
        · obtain ⟨ad, rfl, hC⟩ := lns_el hr2 rfl hlt2
          obtain ⟨q0, q1, q2⟩ := hC wr hB
          have Hd := Lib.hid (fun W => Fl.out j hlt2 W)
          have Hn1 := Lib.hid (fun h => shape_l (hs := hs) hlt2 (lnB_row h))
          have Hn2 := Lib.hid (fun h => shape_l (hs := hs) hlt2 (lnB_lead h))
          have Hn3 := Lib.hid (fun h => shape_l (hs := hs) hlt2 (lnB_at h))
          have Hys := Lib.hid (fun (h1 : digB ls[j].row = true) (h2 : decide ((0 : Int) ≤ ls[j].lead ∧ ls[j].lead ≤ 60) = true) (h3 : decide ((0 : Int) ≤ ls[j].at' ∧ ls[j].at' ≤ 40) = true) => all_step hlt2 Ha2.out (lnB_yes (l := ls[j]) h1 h2 h3))
          obtain ⟨x, hx⟩ : ∃ x, x = ls[j] := ⟨_, rfl⟩
          rw [← hx] at q0 q1 q2 Hd Hn1 Hn2 Hn3 Hys
          obtain ⟨bx, hbx⟩ : ∃ b, b = digB x.row := ⟨_, rfl⟩
          rw [← hbx] at Hd Hn1 Hys
          obtain ⟨by', hby⟩ : ∃ b, b = decide ((0 : Int) ≤ x.lead ∧ x.lead ≤ 60) := ⟨_, rfl⟩
          rw [← hby] at Hn2 Hys
          have Ey := Lib.hid hby
          obtain ⟨bz, hbz⟩ : ∃ b, b = decide ((0 : Int) ≤ x.at' ∧ x.at' ≤ 40) := ⟨_, rfl⟩
          rw [← hbz] at Hn3 Hys
          have Ez := Lib.hid hbz
          clear hC hx hbx hby hbz
          go_wp2_with fail
          refine box1 (C := fun W => Calls _ _ _ W _) ?_
          intro w2 hw2 k2 hB2
          have R2 := boxRule k2
          have p0 := R2 w2 0 (Below.refl _ _)
          have p1 := R2 w2 1 (Below.refl _ _)
          have p2 := R2 w2 2 (Below.refl _ _)
          have hB3 := bw_to hB hw2
          have hBb3 := bw_to hBb hw2
          clear q0 q1 q2 k2 hw2 hB hBb hB2
          refine (Hd.out _).mono ?_; rintro e w3 ⟨rfl, rfl⟩
          cases bx
          · have hF := Lib.hid (Hn1.out rfl)
            go_wp2_with fail
            go_ret
            exact ⟨by rw [hF.out] <;> rfl, hB3⟩
          cases by'
          · have hF := Lib.hid (Hn2.out rfl)
            go_wp2_with (go_at_call 68; refine (l1In_any _ _ _ _).mono ?_; rintro e w' ⟨rfl, rfl⟩; rw [← Ey.out])
            go_ret
            exact ⟨by rw [hF.out] <;> rfl, hB3⟩
          cases bz
          · have hF := Lib.hid (Hn3.out rfl)
            go_wp2_with (go_at_call 68; refine (l1In_any _ _ _ _).mono ?_; rintro e w' ⟨rfl, rfl⟩; first | rw [← Ey.out] | rw [← Ez.out])
            go_ret
            exact ⟨by rw [hF.out] <;> rfl, hB3⟩
          · have hT := Lib.hid (Hys.out rfl rfl rfl)
            go_wp2_with (go_at_call 68; refine (l1In_any _ _ _ _).mono ?_; rintro e w' ⟨rfl, rfl⟩; first | rw [← Ey.out] | rw [← Ez.out])
            exact ⟨⟨j + 1, by omega, by go_num, hT.out, hB3, hBb3⟩, by simp [intOf] <;> omega⟩
        · obtain rfl : j = ls.length := by omega
          have d0 := R1 wr 0 hBb
          have d1 := R1 wr 1 hBb
          by_cases z1 : hs.length ≤ 61
          rotate_left
          · have g1 : decide ((hs.length : Int) ≤ 61) = false := by simp; omega
            have hF := Lib.hid (shape_z1 (ls := ls) z1)
            clear Ha Ha2
            go_wp2_with fail
            go_ret
            exact ⟨by rw [hF.out] <;> rfl, hB⟩
          have g1 : decide ((hs.length : Int) ≤ 61) = true := by simp; omega
          by_cases z2 : ls.length ≤ 800
          · have g2 : decide ((ls.length : Int) ≤ 800) = true := by simp; omega
            have hF := Lib.hid (shape_yes rfl rfl z1 z2 Ha.out Ha2.out)
            clear Ha Ha2
            go_wp2_with fail
            go_ret
            exact ⟨by rw [hF.out] <;> rfl, hB⟩
          · have g2 : decide ((ls.length : Int) ≤ 800) = false := by simp; omega
            have hF := Lib.hid (shape_z2 (hs := hs) z2)
            clear Ha Ha2
            go_wp2_with fail
            go_ret
            exact ⟨by rw [hF.out] <;> rfl, hB⟩
end Go.Proofs.YtofpjbdelmmclaaGreatDoor
