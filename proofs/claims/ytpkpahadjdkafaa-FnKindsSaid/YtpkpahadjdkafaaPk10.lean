/- Contracts: methods, one and slices of them (goodness, size, copy, sameness). -/
import Derived.Test.YtpkpahadjdkafaaPk9
namespace Go.Proofs.Ytpkpahadjdkafaa
open Go Go.RowKit
set_option linter.unusedVariables false
set_option linter.unusedSimpArgs false

/-- A method, its slice of changes left out of sight. -/
structure Mt where
  name : ByteArray
  stage : Int
  l : List ByteArray
def methB (m : Mt) : Bool := wordB m.name.data.toList && (decide (3 ≤ m.stage ∧ m.stage ≤ 8) && (decide (1 ≤ m.l.length ∧ m.l.length ≤ 40) && chgs m.stage m.l))
/-- In w the value v is the slice of m's changes, and no string is too long. -/
def MethAt (w : World) (m : Mt) (v : Value) : Prop := Strs w v m.l ∧ m.name.size ≤ maxLen ∧ Fits m.l
theorem MethAt.to {w w' : World} {m : Mt} {v : Value} (h : MethAt w m v) (hb : Below w.heap.size w w') : MethAt w' m v := ⟨h.1.to hb, h.2⟩
def MtSmall (m : Mt) : Prop := m.name.size ≤ 1048576 ∧ Small m.l
def Mt.v (m : Mt) (v : Value) : Value := .agg #[.string m.name, .int .i64 m.stage, v]
def mcells (p : Mt × Value) : List Value := [.string p.1.name, .int .i64 p.1.stage, p.2]
def Meths (w : World) (v : Value) (ms : List Mt) : Prop := ∃ vs : List Value, vs.length = ms.length ∧ Sl w 3 v ms.length ((ms.zip vs).flatMap mcells) ∧ ∀ p ∈ ms.zip vs, MethAt w p.1 p.2
theorem Meths.to {w w' : World} {v : Value} {ms : List Mt} (h : Meths w v ms) (hb : Below w.heap.size w w') : Meths w' v ms :=
  let ⟨vs, h1, h2, h3⟩ := h; ⟨vs, h1, h2.to hb, fun p hp => (h3 p hp).to hb⟩
theorem meths_el {w : World} {B : Nat} {A : Option Addr} {ms : List Mt} {vs : List Value} {n : Nat} (hl : vs.length = ms.length) (hr : Reads w B 3 A n ((ms.zip vs).flatMap mcells)) (hn : n = ms.length) {k : Nat} (hk : k < ms.length) :
    ∃ ad v, A = some ad ∧ (ms[k], v) ∈ ms.zip vs ∧ ∀ w', Below B w w' → w'.cell? (ad.add (k * 3)) = some (.string ms[k].name) ∧ w'.cell? ⟨(ad.add (k * 3)).block, (ad.add (k * 3)).off + 1, none⟩ = some (.int .i64 ms[k].stage) ∧
      w'.cell? ⟨(ad.add (k * 3)).block, (ad.add (k * 3)).off + 2, none⟩ = some v := by
  subst hn
  have hz : (ms.zip vs).length = ms.length := by simp [hl]
  have hk' : k < (ms.zip vs).length := by omega
  have hkv : k < vs.length := by omega
  rw [← hz] at hr
  obtain ⟨ad, e, h⟩ := hr.el (fun _ _ => rfl) hk'
  refine ⟨ad, vs[k], e, ?_, fun w' hb => ⟨?_, ?_, ?_⟩⟩
  · have := List.getElem_mem hk'
    rwa [List.getElem_zip] at this
  · have := h w' hb 0 (.string ms[k].name) (by omega) (by rw [List.getElem_zip]; rfl); rwa [add_zero'] at this
  · exact h w' hb 1 (.int .i64 ms[k].stage) (by omega) (by rw [List.getElem_zip]; rfl)
  · exact h w' hb 2 vs[k] (by omega) (by rw [List.getElem_zip]; rfl)
theorem meth_stage (m : Mt) : (decide (1 ≤ m.l.length ∧ m.l.length ≤ 40) && chgs m.stage m.l) = (decide (3 ≤ m.stage ∧ m.stage ≤ 8) && (decide (1 ≤ m.l.length ∧ m.l.length ≤ 40) && chgs m.stage m.l)) := by
  by_cases h : 3 ≤ m.stage ∧ m.stage ≤ 8
  · rw [decide_eq_true h]; rfl
  · rw [decide_eq_false h]
    cases e : m.l with
    | nil => rfl
    | cons s t => simp [chgs, changeB_no1 h]
set_option maxHeartbeats 1000000 in
theorem implGoodMethod_any (m : Mt) (v : Value) (w : World) (h : MethAt w m v) (hs : MtSmall m) : Calls Try.prog 60 #[m.v v] w fun e w' => e = .returned (.bool (methB m)) ∧ Below w.heap.size w w' := by
  unfold Mt.v
  have hr := h.1
  have h2 := h.2.1
  have hsm := hs.2
  have Hs := Lib.hid (meth_stage m)
  clear h hs
  go_enter Try.func60, Try.ntmps60
  go_wp2_with fail
  refine box1 (C := fun W => Calls _ _ _ W _) ?_
  intro wb hw k1 hB0
  have R1 := boxRule k1
  clear k1
  have hr1 := hr.to hw
  refine (isWord_any _ _ h2).mono ?_; rintro e w1 ⟨rfl, rfl⟩
  go_wp2_with (go_at_call 93; refine (areChanges_any _ _ _ _ hr1 hsm).mono ?_; rintro e w1 ⟨rfl, hb1⟩)
  · go_ret
    exact ⟨ret_bool (by unfold methB; rw [← Hs.out]; simp [*]), bw_to hw hb1⟩
  · go_ret
    exact ⟨ret_bool (by unfold methB; simp [*]), hw⟩
set_option maxHeartbeats 1000000 in
theorem l4Good_any (m : Mt) (v : Value) (w : World) (h : MethAt w m v) (hs : MtSmall m) : Calls Try.prog 53 #[m.v v] w fun e w' => e = .returned (.bool (methB m)) ∧ Below w.heap.size w w' := by
  unfold Mt.v
  have hr := h.1
  have h2 := h.2.1
  have Hf := Lib.hid hs.2.2
  have hf1 := hs.2.1
  clear h hs
  obtain ⟨A, c, rfl, h1, h3, hr⟩ := hr
  unfold maxLen at h3
  go_enter Try.func53, Try.ntmps53
  go_wp2_with fail
  refine box1 (C := fun W => Code.wp _ _ _ _ W) ?_
  intro wb hw k1 hB0
  have R1 := boxRule k1
  clear k1
  have hr1 := hr.to hw
  clear hr
  go_loopw [8] (fun i wr => ∃ k : Nat, k ≤ m.l.length ∧ i = .int .i64 k ∧ (m.l.take k).all (fun s => changeB m.stage s.data.toList) = true ∧ Below wb.heap.size wb wr) (fun i _ => m.l.length - (intOf i).toNat)
  case atStart => exact ⟨0, by omega, rfl, by simp, hB0⟩
  case round =>
    obtain ⟨k, hk, rfl, hs, hB⟩ := hrel
    have Hs := Lib.hid hs
    clear hs
    by_cases hlt : k < m.l.length
    · obtain ⟨ad, rfl, hC⟩ := strs_el hr1 hlt
      have hsz : (m.l[k]).size ≤ maxLen := Nat.le_trans (Hf.out _ (List.getElem_mem hlt)) (by unfold maxLen; omega)
      have H1 := Lib.hid (all_false (p := fun s => changeB m.stage s.data.toList) hlt)
      have H2 := Lib.hid (all_step (p := fun s => changeB m.stage s.data.toList) hlt Hs.out)
      obtain ⟨b, hb⟩ : ∃ b, b = changeB m.stage m.l[k].data.toList := ⟨_, rfl⟩
      rw [← hb] at H1 H2
      cases b
      all_goals
        have Hb := Lib.hid hb
        clear hb
      · go_wp2_with (go_at_call 88; refine (l2Change_any _ _ _ hsz).mono ?_; rintro e w1 ⟨rfl, rfl⟩; rw [← Hb.out])
        go_ret
        exact ⟨ret_bool (by have := H1.out (by simp); unfold methB chgs; rw [this]; simp), bw_to hw hB⟩
      · go_wp2_with (go_at_call 88; refine (l2Change_any _ _ _ hsz).mono ?_; rintro e w1 ⟨rfl, rfl⟩; rw [← Hb.out])
        exact ⟨⟨k + 1, by omega, by go_num, H2.out (by simp), hB⟩, by simp [intOf]; omega⟩
    · have Ha : chgs m.stage m.l = true := all_true (by omega) Hs.out
      have HA := Lib.hid Ha
      clear Ha
      go_wp2_with (first | (go_at_call 89; refine (l4Name_any _ _ h2).mono ?_; rintro e w1 ⟨rfl, rfl⟩) | (go_at_call 37; refine (l1In_any _ _ _ _).mono ?_; rintro e w1 ⟨rfl, rfl⟩))
      all_goals
        go_ret
        exact ⟨ret_bool (by unfold methB; rw [HA.out]; rw [Bool.eq_iff_iff]; simp [*]; try omega), bw_to hw hB⟩
set_option maxHeartbeats 1000000 in
theorem szMethod_any (m : Mt) (v : Value) (k0 : Int) (w : World) (h : MethAt w m v) (h0 : 0 ≤ k0) (hk0 : k0 ≤ 1048576) : Calls Try.prog 7 #[m.v v, .int .i64 k0] w fun e w' =>
    ∃ r : Int, e = .returned (.int .i64 r) ∧ -1 ≤ r ∧ r ≤ 1048576 ∧ (0 ≤ r → MtSmall m) ∧ Below w.heap.size w w' := by
  unfold Mt.v
  have hr := h.1
  have h2 := h.2.1
  have Hf := Lib.hid h.2.2
  unfold maxLen at h2
  clear h
  go_enter Try.func7, Try.ntmps7
  go_wp2_with fail
  · go_ret
    exact ⟨_, rfl, by omega, by omega, fun h => absurd h (by omega), bw_al (Below.refl _ _) _⟩
  · refine box1 (C := fun W => Calls _ _ _ W _) ?_
    intro wb hw k1 hB0
    have R1 := boxRule k1
    clear k1
    refine (szStringS_any _ _ _ _ (hr.to hw) Hf.out (by assumption) (by omega)).mono ?_; rintro e w1 ⟨r, rfl, hr0, hr1, hr2, rfl⟩
    have Hr2 := Lib.hid hr2
    clear hr2
    go_wp2_with fail
    · go_ret
      exact ⟨_, rfl, by omega, by omega, fun h => absurd h (by omega), hw⟩
    · go_ret
      exact ⟨_, rfl, by omega, by omega, fun h => ⟨by omega, Hr2.out (by omega)⟩, hw⟩
end Go.Proofs.Ytpkpahadjdkafaa
