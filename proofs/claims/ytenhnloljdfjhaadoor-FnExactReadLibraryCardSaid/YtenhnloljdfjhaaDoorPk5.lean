/- Contracts: slices of strings (size, copy, sameness), lists of changes. -/
import Derived.Test.YtenhnloljdfjhaaDoorPk4
namespace Go.Proofs.YtenhnloljdfjhaaDoor
open Go Go.RowKit
set_option linter.unusedVariables false
set_option linter.unusedSimpArgs false

/-- No string of the list is too long for a machine. -/
def Fits (ss : List ByteArray) : Prop := ∀ s ∈ ss, s.size ≤ maxLen
/-- What the size's measure gives for a list that fits into it. -/
def Small (ss : List ByteArray) : Prop := ss.length ≤ 1048576 ∧ ∀ s ∈ ss, s.size ≤ 1048576
theorem Small.fits {ss : List ByteArray} (h : Small ss) : Fits ss := fun s hs => Nat.le_trans (h.2 s hs) (by unfold maxLen; omega)
theorem take_all {p : ByteArray → Prop} {ss : List ByteArray} {k : Nat} (hk : k < ss.length) (h : ∀ s ∈ ss.take k, p s) (h1 : p ss[k]) : ∀ s ∈ ss.take (k + 1), p s := by
  intro s hs
  rw [List.take_succ_eq_append_getElem hk] at hs
  rcases List.mem_append.1 hs with hs | hs
  · exact h s hs
  · rw [List.mem_singleton.1 hs]; exact h1
theorem eqStringS_same (a b : Value) (zs : List ByteArray) (w : World) (ha : Strs w a zs) (hb : Strs w b zs) : Calls Tryd.prog 37 #[a, b] w fun e w' => e = .returned (.bool true) ∧ Below w.heap.size w w' := by
  obtain ⟨A, c, rfl, h1, h2, hr⟩ := ha
  obtain ⟨A', c', rfl, h1', h2', hr'⟩ := hb
  unfold maxLen at h2 h2'
  go_enter Tryd.func37, Tryd.ntmps37
  go_wp2_with fail
  go_loopw [5] (fun i wr => ∃ k : Nat, k ≤ zs.length ∧ i = .int .i64 k ∧ Below w.heap.size w wr) (fun i _ => zs.length - (intOf i).toNat)
  case atStart => exact ⟨0, by omega, rfl, Below.refl _ _⟩
  case round =>
    obtain ⟨k, hk, rfl, hB⟩ := hrel
    by_cases hlt : k < zs.length
    · obtain ⟨ad, rfl, hC⟩ := strs_el hr hlt
      obtain ⟨ad', rfl, hC'⟩ := strs_el hr' hlt
      go_wp2_with fail
      go_region_held3 (fun w' => Below w.heap.size w w') (exact Below.drew (by assumption)) (fail)
      go_wp2_with fail
      exact ⟨⟨k + 1, by omega, by go_num, by assumption⟩, by simp [intOf]; omega⟩
    · go_wp2_with fail
      go_ret
      exact ⟨rfl, hB⟩
def chgs (n : Int) (ss : List ByteArray) : Bool := ss.all fun s => changeB n s.data.toList
theorem areChanges_any (n : Int) (v : Value) (ss : List ByteArray) (w : World) (h : Strs w v ss) (hf : Small ss) : Calls Tryd.prog 52 #[.int .i64 n, v] w fun e w' => e = .returned (.bool (decide (1 ≤ ss.length ∧ ss.length ≤ 40) && chgs n ss)) ∧ Below w.heap.size w w' := by
  obtain ⟨A, c, rfl, h1, h2, hr⟩ := h
  unfold maxLen at h2
  have Hf := Lib.hid hf.2
  have hf1 := hf.1
  clear hf
  by_cases hbig : 1 ≤ ss.length ∧ ss.length ≤ 40
  · have e1 := Lib.hid (decide_eq_true hbig)
    go_enter Tryd.func52, Tryd.ntmps52
    go_wp2_with fail
    go_loopw [17] (fun i wr => ∃ k : Nat, k ≤ ss.length ∧ i = .int .i64 k ∧ (ss.take k).all (fun s => changeB n s.data.toList) = true ∧ Below w.heap.size w wr) (fun i _ => ss.length - (intOf i).toNat)
    case atStart => exact ⟨0, by omega, rfl, by simp, Below.refl _ _⟩
    case round =>
      obtain ⟨k, hk, rfl, hs, hB⟩ := hrel
      have Hs := Lib.hid hs
      clear hs
      by_cases hlt : k < ss.length
      · obtain ⟨ad, rfl, hC⟩ := strs_el hr hlt
        have hsz := Hf.out _ (List.getElem_mem hlt)
        have H1 := Lib.hid (all_false (p := fun s => changeB n s.data.toList) hlt)
        have H2 := Lib.hid (all_step (p := fun s => changeB n s.data.toList) hlt Hs.out)
        obtain ⟨b, hb⟩ : ∃ b, b = changeB n ss[k].data.toList := ⟨_, rfl⟩
        rw [← hb] at H1 H2
        cases b
        all_goals
          have Hb := Lib.hid hb
          clear hb
        · go_wp2_with (go_at_call 63; refine (GoodChange_any _ _ _ hsz).mono ?_; rintro e w1 ⟨rfl, hb1⟩; rw [← Hb.out])
          go_ret
          exact ⟨ret_bool (by rw [e1.out]; exact (H1.out (by simp)).symm), bw_to hB hb1⟩
        · go_wp2_with (go_at_call 63; refine (GoodChange_any _ _ _ hsz).mono ?_; rintro e w1 ⟨rfl, hb1⟩; rw [← Hb.out])
          exact ⟨⟨k + 1, by omega, by go_num, H2.out (by simp), bw_to hB hb1⟩, by simp [intOf]; omega⟩
      · go_wp2_with fail
        go_ret
        obtain rfl : k = ss.length := by omega
        exact ⟨ret_bool (by rw [e1.out]; exact (all_true rfl Hs.out).symm), hB⟩
  · have e1 := Lib.hid (decide_eq_false hbig)
    go_enter Tryd.func52, Tryd.ntmps52
    go_wp2_with fail
    all_goals
      go_ret
      exact ⟨ret_bool (by first | rfl | (rw [e1.out]; rfl)), Below.refl _ _⟩
end Go.Proofs.YtenhnloljdfjhaaDoor

/- Contracts: methods, one and slices of them (goodness, size, copy, sameness). -/
namespace Go.Proofs.YtenhnloljdfjhaaDoor
open Go Go.RowKit
set_option linter.unusedVariables false
set_option linter.unusedSimpArgs false

/-- A method, its slice of changes left out of sight. -/
structure Mt where
  name : ByteArray
  stage : Int
  l : List ByteArray
def methB (m : Mt) : Bool := wordB m.name.data.toList && (decide (3 ≤ m.stage ∧ m.stage ≤ 8) && (decide (1 ≤ m.l.length ∧ m.l.length ≤ 40) && chgs m.stage m.l))
/-- In w the value v is the slice of m's changes, and no string is too long. -/
def MethAt (w : World) (m : Mt) (v : Value) : Prop := Strs w v m.l ∧ m.name.size ≤ maxLen ∧ Fits m.l
theorem MethAt.to {w w' : World} {m : Mt} {v : Value} (h : MethAt w m v) (hb : Below w.heap.size w w') : MethAt w' m v := ⟨h.1.to hb, h.2⟩
def MtSmall (m : Mt) : Prop := m.name.size ≤ 1048576 ∧ Small m.l
def Mt.v (m : Mt) (v : Value) : Value := .agg #[.string m.name, .int .i64 m.stage, v]
def mcells (p : Mt × Value) : List Value := [.string p.1.name, .int .i64 p.1.stage, p.2]
def Meths (w : World) (v : Value) (ms : List Mt) : Prop := ∃ vs : List Value, vs.length = ms.length ∧ Sl w 3 v ms.length ((ms.zip vs).flatMap mcells) ∧ ∀ p ∈ ms.zip vs, MethAt w p.1 p.2
theorem Meths.to {w w' : World} {v : Value} {ms : List Mt} (h : Meths w v ms) (hb : Below w.heap.size w w') : Meths w' v ms :=
  let ⟨vs, h1, h2, h3⟩ := h; ⟨vs, h1, h2.to hb, fun p hp => (h3 p hp).to hb⟩
theorem meths_el {w : World} {B : Nat} {A : Option Addr} {ms : List Mt} {vs : List Value} {n : Nat} (hl : vs.length = ms.length) (hr : Reads w B 3 A n ((ms.zip vs).flatMap mcells)) (hn : n = ms.length) {k : Nat} (hk : k < ms.length) :
    ∃ ad v, A = some ad ∧ (ms[k], v) ∈ ms.zip vs ∧ ∀ w', Below B w w' → w'.cell? (ad.add (k * 3)) = some (.string ms[k].name) ∧ w'.cell? ⟨(ad.add (k * 3)).block, (ad.add (k * 3)).off + 1, none⟩ = some (.int .i64 ms[k].stage) ∧
      w'.cell? ⟨(ad.add (k * 3)).block, (ad.add (k * 3)).off + 2, none⟩ = some v := by
  subst hn
  have hz : (ms.zip vs).length = ms.length := by simp [hl]
  have hk' : k < (ms.zip vs).length := by omega
  have hkv : k < vs.length := by omega
  rw [← hz] at hr
  obtain ⟨ad, e, h⟩ := hr.el (fun _ _ => rfl) hk'
  refine ⟨ad, vs[k], e, ?_, fun w' hb => ⟨?_, ?_, ?_⟩⟩
  · have := List.getElem_mem hk'
    rwa [List.getElem_zip] at this
  · have := h w' hb 0 (.string ms[k].name) (by omega) (by rw [List.getElem_zip]; rfl); rwa [add_zero'] at this
  · exact h w' hb 1 (.int .i64 ms[k].stage) (by omega) (by rw [List.getElem_zip]; rfl)
  · exact h w' hb 2 vs[k] (by omega) (by rw [List.getElem_zip]; rfl)
theorem meth_stage (m : Mt) : (decide (1 ≤ m.l.length ∧ m.l.length ≤ 40) && chgs m.stage m.l) = (decide (3 ≤ m.stage ∧ m.stage ≤ 8) && (decide (1 ≤ m.l.length ∧ m.l.length ≤ 40) && chgs m.stage m.l)) := by
  by_cases h : 3 ≤ m.stage ∧ m.stage ≤ 8
  · rw [decide_eq_true h]; rfl
  · rw [decide_eq_false h]
    cases e : m.l with
    | nil => rfl
    | cons s t => simp [chgs, changeB_no1 h]
set_option maxHeartbeats 1000000 in
theorem implGoodMethod_any (m : Mt) (v : Value) (w : World) (h : MethAt w m v) (hs : MtSmall m) : Calls Tryd.prog 34 #[m.v v] w fun e w' => e = .returned (.bool (methB m)) ∧ Below w.heap.size w w' := by
  unfold Mt.v
  have hr := h.1
  have h2 := h.2.1
  have hsm := hs.2
  have Hs := Lib.hid (meth_stage m)
  clear h hs
  go_enter Tryd.func34, Tryd.ntmps34
  go_wp2_with fail
  refine box1 (C := fun W => Calls _ _ _ W _) ?_
  intro wb hw k1 hB0
  have R1 := boxRule k1
  clear k1
  have hr1 := hr.to hw
  refine (isWord_any _ _ h2).mono ?_; rintro e w1 ⟨rfl, rfl⟩
  go_wp2_with (go_at_call 52; refine (areChanges_any _ _ _ _ hr1 hsm).mono ?_; rintro e w1 ⟨rfl, hb1⟩)
  · go_ret
    exact ⟨ret_bool (by unfold methB; rw [← Hs.out]; simp [*]), bw_to hw hb1⟩
  · go_ret
    exact ⟨ret_bool (by unfold methB; simp [*]), hw⟩
set_option maxHeartbeats 1000000 in
theorem l4Good_any (m : Mt) (v : Value) (w : World) (h : MethAt w m v) (hs : MtSmall m) : Calls Tryd.prog 27 #[m.v v] w fun e w' => e = .returned (.bool (methB m)) ∧ Below w.heap.size w w' := by
  unfold Mt.v
  have hr := h.1
  have h2 := h.2.1
  have Hf := Lib.hid hs.2.2
  have hf1 := hs.2.1
  clear h hs
  obtain ⟨A, c, rfl, h1, h3, hr⟩ := hr
  unfold maxLen at h3
  go_enter Tryd.func27, Tryd.ntmps27
  go_wp2_with fail
  refine box1 (C := fun W => Code.wp _ _ _ _ W) ?_
  intro wb hw k1 hB0
  have R1 := boxRule k1
  clear k1
  have hr1 := hr.to hw
  clear hr
  go_loopw [8] (fun i wr => ∃ k : Nat, k ≤ m.l.length ∧ i = .int .i64 k ∧ (m.l.take k).all (fun s => changeB m.stage s.data.toList) = true ∧ Below wb.heap.size wb wr) (fun i _ => m.l.length - (intOf i).toNat)
  case atStart => exact ⟨0, by omega, rfl, by simp, hB0⟩
  case round =>
    obtain ⟨k, hk, rfl, hs, hB⟩ := hrel
    have Hs := Lib.hid hs
    clear hs
    by_cases hlt : k < m.l.length
    · obtain ⟨ad, rfl, hC⟩ := strs_el hr1 hlt
      have hsz : (m.l[k]).size ≤ maxLen := Nat.le_trans (Hf.out _ (List.getElem_mem hlt)) (by unfold maxLen; omega)
      have H1 := Lib.hid (all_false (p := fun s => changeB m.stage s.data.toList) hlt)
      have H2 := Lib.hid (all_step (p := fun s => changeB m.stage s.data.toList) hlt Hs.out)
      obtain ⟨b, hb⟩ : ∃ b, b = changeB m.stage m.l[k].data.toList := ⟨_, rfl⟩
      rw [← hb] at H1 H2
      cases b
      all_goals
        have Hb := Lib.hid hb
        clear hb
      · go_wp2_with (go_at_call 40; refine (l2Change_any _ _ _ hsz).mono ?_; rintro e w1 ⟨rfl, rfl⟩; rw [← Hb.out])
        go_ret
        exact ⟨ret_bool (by have := H1.out (by simp); unfold methB chgs; rw [this]; simp), bw_to hw hB⟩
      · go_wp2_with (go_at_call 40; refine (l2Change_any _ _ _ hsz).mono ?_; rintro e w1 ⟨rfl, rfl⟩; rw [← Hb.out])
        exact ⟨⟨k + 1, by omega, by go_num, H2.out (by simp), hB⟩, by simp [intOf]; omega⟩
    · have Ha : chgs m.stage m.l = true := all_true (by omega) Hs.out
      have HA := Lib.hid Ha
      clear Ha
      go_wp2_with (first | (go_at_call 41; refine (l4Name_any _ _ h2).mono ?_; rintro e w1 ⟨rfl, rfl⟩) | (go_at_call 24; refine (l1In_any _ _ _ _).mono ?_; rintro e w1 ⟨rfl, rfl⟩))
      all_goals
        go_ret
        exact ⟨ret_bool (by unfold methB; rw [HA.out]; rw [Bool.eq_iff_iff]; simp [*]; try omega), bw_to hw hB⟩
end Go.Proofs.YtenhnloljdfjhaaDoor
