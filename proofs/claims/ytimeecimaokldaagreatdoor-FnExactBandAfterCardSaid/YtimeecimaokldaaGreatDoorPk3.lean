/- Contracts: slices of strings (size, copy, sameness), lists of changes. -/
import Derived.Test.YtimeecimaokldaaGreatDoorPk2
import Derived.Test.YtimeecimaokldaaGreatDoorPk1
import Derived.Laws.IdiomStrings
namespace Go.Proofs.YtimeecimaokldaaGreatDoor
open Go Go.RowKit
set_option linter.unusedVariables false
set_option linter.unusedSimpArgs false

/-- No string of the list is too long for a machine. -/
def Fits (ss : List ByteArray) : Prop := ∀ s ∈ ss, s.size ≤ maxLen
/-- What the size's measure gives for a list that fits into it. -/
def Small (ss : List ByteArray) : Prop := ss.length ≤ 1048576 ∧ ∀ s ∈ ss, s.size ≤ 1048576
theorem Small.fits {ss : List ByteArray} (h : Small ss) : Fits ss := fun s hs => Nat.le_trans (h.2 s hs) (by unfold maxLen; omega)
theorem take_all {p : ByteArray → Prop} {ss : List ByteArray} {k : Nat} (hk : k < ss.length) (h : ∀ s ∈ ss.take k, p s) (h1 : p ss[k]) : ∀ s ∈ ss.take (k + 1), p s := by
  intro s hs
  rw [List.take_succ_eq_append_getElem hk] at hs
  rcases List.mem_append.1 hs with hs | hs
  · exact h s hs
  · rw [List.mem_singleton.1 hs]; exact h1
theorem szStringS_any (v : Value) (ss : List ByteArray) (k0 : Int) (w : World) (h : Strs w v ss) (hf : Fits ss) (h0 : 0 ≤ k0) (hk0 : k0 ≤ 1048576) : Calls Tryz.prog 41 #[v, .int .i64 k0] w fun e w' =>
    ∃ r : Int, e = .returned (.int .i64 r) ∧ -1 ≤ r ∧ r ≤ 1048576 ∧ (0 ≤ r → Small ss) ∧ w = w' := by
  obtain ⟨A, c, rfl, h1, h2, hr⟩ := h
  unfold maxLen at h2
  have hf' : ∀ s ∈ ss, s.size ≤ 2 ^ 63 - 1 := hf
  have Hf := Lib.hid hf'
  clear hf hf'
  by_cases hbig : (ss.length : Int) ≤ k0
  · go_enter Tryz.func41, Tryz.ntmps41
    go_wp2_with fail
    go_loop [1, 5] (fun l i => ∃ k : Nat, ∃ r : Int, k ≤ ss.length ∧ i = .int .i64 k ∧ l = .int .i64 r ∧ 0 ≤ r ∧ r ≤ 1048576 ∧ ∀ s ∈ ss.take k, s.size ≤ 1048576) (fun _ i => ss.length - (intOf i).toNat)
    case atStart => exact ⟨0, k0 - ss.length, by omega, rfl, rfl, by omega, by omega, by simp⟩
    case round =>
      obtain ⟨k, r, hk, rfl, rfl, hr0, hr1, hs⟩ := hrel
      have Hs := Lib.hid hs
      clear hs
      have hBr := Below.refl w.heap.size w
      by_cases hlt : k < ss.length
      · obtain ⟨ad, rfl, hC⟩ := strs_el hr hlt
        have hsz := Hf.out _ (List.getElem_mem hlt)
        go_wp2_with fail
        · go_ret
          exact ⟨_, rfl, by omega, by omega, fun h => absurd h (by omega), rfl⟩
        · refine ⟨⟨k + 1, _, by omega, by go_num, rfl, by assumption, by omega, take_all hlt Hs.out (by omega)⟩, by simp [intOf]; omega⟩
      · go_wp2_with fail
        go_ret
        obtain rfl : k = ss.length := by omega
        refine ⟨_, rfl, by omega, by omega, fun _ => ⟨by omega, ?_⟩, rfl⟩
        have := Hs.out
        rwa [List.take_length] at this
  · go_enter Tryz.func41, Tryz.ntmps41
    go_wp2_with fail
    go_ret
    exact ⟨_, rfl, by omega, by omega, fun h => absurd h (by omega), rfl⟩
theorem toStringS_any (v : Value) (zs : List ByteArray) (w : World) (h : Strs w v zs) (hbig : zs.length ≤ 1048576) : Calls Tryz.prog 47 #[v] w fun e w' =>
    ∃ r : Value, e = .returned r ∧ w'.ownsRow w.heap.size 9 1 r zs.length (zs.map Value.string) ∧ Below w.heap.size w w' := by
  obtain ⟨A, c, rfl, h1, h2, hr⟩ := h
  unfold maxLen at h2
  obtain ⟨i0, hi0, hz0, hs0, hb0⟩ := info_parts info_str
  go_enter Tryz.func47, Tryz.ntmps47
  go_wp2_with (at_make; refine wpList_make_full _ rfl _ _ _ rfl w.heap.size 9 i0 _ 1 Tryz.underlying22 hi0 hz0 hs0 _ _ _ _ zs.length rfl rfl rfl rfl (by rw [hb0]; omega) (by unfold maxLen; omega) (Nat.le_refl _) ?_; intro w1 hown1 hgr1)
  have hB1 := bw_gr (Below.refl _ _) hgr1
  go_loopw [4] (fun i wr => ∃ k : Nat, k ≤ zs.length ∧ i = .int .i64 k ∧ Below w.heap.size w wr ∧ ∃ cs : List Value, wr.ownsRow w.heap.size 9 1 (.slice (some ⟨w.heap.size, 0, none⟩) zs.length zs.length) zs.length cs ∧ cs.take k = (zs.take k).map Value.string)
    (fun i _ => zs.length - (intOf i).toNat)
  case atStart => exact ⟨0, by omega, rfl, hB1, _, hown1, by simp⟩
  case round =>
    obtain ⟨k, hk, rfl, hB, cs, hown, hcs⟩ := hrel
    have Hcs := Lib.hid hcs
    clear hcs
    by_cases hlt : k < zs.length
    · obtain ⟨ad, rfl, hC⟩ := strs_el hr hlt
      obtain ⟨y0, hy⟩ := own_some hown (j := k) (by omega)
      have hf := hown.frozenAt k
      go_wp2_with fail
      refine ⟨⟨k + 1, by omega, by go_num, grow_set hB (Nat.le_refl _) _, _, own_set hown _ _, ?_⟩, by simp [intOf]; omega⟩
      rw [take_set_last (by have := hown.1; omega), Hcs.out, map_take_succ hlt]
    · go_wp2_with fail
      go_ret
      obtain rfl : k = zs.length := by omega
      refine ⟨_, rfl, ?_, hB⟩
      have hcs := Hcs.out
      rw [List.take_of_length_le (by rw [hown.1]; omega), List.take_length] at hcs
      rw [← hcs]
      exact hown
theorem eqStringS_same (a b : Value) (zs : List ByteArray) (w : World) (ha : Strs w a zs) (hb : Strs w b zs) : Calls Tryz.prog 55 #[a, b] w fun e w' => e = .returned (.bool true) ∧ Below w.heap.size w w' := by
  obtain ⟨A, c, rfl, h1, h2, hr⟩ := ha
  obtain ⟨A', c', rfl, h1', h2', hr'⟩ := hb
  unfold maxLen at h2 h2'
  go_enter Tryz.func55, Tryz.ntmps55
  go_wp2_with fail
  go_loopw [5] (fun i wr => ∃ k : Nat, k ≤ zs.length ∧ i = .int .i64 k ∧ Below w.heap.size w wr) (fun i _ => zs.length - (intOf i).toNat)
  case atStart => exact ⟨0, by omega, rfl, Below.refl _ _⟩
  case round =>
    obtain ⟨k, hk, rfl, hB⟩ := hrel
    by_cases hlt : k < zs.length
    · obtain ⟨ad, rfl, hC⟩ := strs_el hr hlt
      obtain ⟨ad', rfl, hC'⟩ := strs_el hr' hlt
      go_wp2_with fail
      go_region_held3 (fun w' => Below w.heap.size w w') (exact Below.drew (by assumption)) (fail)
      go_wp2_with fail
      exact ⟨⟨k + 1, by omega, by go_num, by assumption⟩, by simp [intOf]; omega⟩
    · go_wp2_with fail
      go_ret
      exact ⟨rfl, hB⟩
def chgs (n : Int) (ss : List ByteArray) : Bool := ss.all fun s => changeB n s.data.toList
theorem areChanges_any (n : Int) (v : Value) (ss : List ByteArray) (w : World) (h : Strs w v ss) (hf : Small ss) : Calls Tryz.prog 169 #[.int .i64 n, v] w fun e w' => e = .returned (.bool (decide (1 ≤ ss.length ∧ ss.length ≤ 40) && chgs n ss)) ∧ Below w.heap.size w w' := by
  obtain ⟨A, c, rfl, h1, h2, hr⟩ := h
  unfold maxLen at h2
  have Hf := Lib.hid hf.2
  have hf1 := hf.1
  clear hf
  by_cases hbig : 1 ≤ ss.length ∧ ss.length ≤ 40
  · have e1 := Lib.hid (decide_eq_true hbig)
    go_enter Tryz.func169, Tryz.ntmps169
    go_wp2_with fail
    go_loopw [17] (fun i wr => ∃ k : Nat, k ≤ ss.length ∧ i = .int .i64 k ∧ (ss.take k).all (fun s => changeB n s.data.toList) = true ∧ Below w.heap.size w wr) (fun i _ => ss.length - (intOf i).toNat)
    case atStart => exact ⟨0, by omega, rfl, by simp, Below.refl _ _⟩
    case round =>
      obtain ⟨k, hk, rfl, hs, hB⟩ := hrel
      have Hs := Lib.hid hs
      clear hs
      by_cases hlt : k < ss.length
      · obtain ⟨ad, rfl, hC⟩ := strs_el hr hlt
        have hsz := Hf.out _ (List.getElem_mem hlt)
        have H1 := Lib.hid (all_false (p := fun s => changeB n s.data.toList) hlt)
        have H2 := Lib.hid (all_step (p := fun s => changeB n s.data.toList) hlt Hs.out)
        obtain ⟨b, hb⟩ : ∃ b, b = changeB n ss[k].data.toList := ⟨_, rfl⟩
        rw [← hb] at H1 H2
        cases b
        all_goals
          have Hb := Lib.hid hb
          clear hb
        · go_wp2_with (go_at_call 137; refine (GoodChange_any _ _ _ hsz).mono ?_; rintro e w1 ⟨rfl, hb1⟩; rw [← Hb.out])
          go_ret
          exact ⟨ret_bool (by rw [e1.out]; exact (H1.out (by simp)).symm), bw_to hB hb1⟩
        · go_wp2_with (go_at_call 137; refine (GoodChange_any _ _ _ hsz).mono ?_; rintro e w1 ⟨rfl, hb1⟩; rw [← Hb.out])
          exact ⟨⟨k + 1, by omega, by go_num, H2.out (by simp), bw_to hB hb1⟩, by simp [intOf]; omega⟩
      · go_wp2_with fail
        go_ret
        obtain rfl : k = ss.length := by omega
        exact ⟨ret_bool (by rw [e1.out]; exact (all_true rfl Hs.out).symm), hB⟩
  · have e1 := Lib.hid (decide_eq_false hbig)
    go_enter Tryz.func169, Tryz.ntmps169
    go_wp2_with fail
    all_goals
      go_ret
      exact ⟨ret_bool (by first | rfl | (rw [e1.out]; rfl)), Below.refl _ _⟩
end Go.Proofs.YtimeecimaokldaaGreatDoor

/- Contracts: methods, one and slices of them (goodness, size, copy, sameness). -/
namespace Go.Proofs.YtimeecimaokldaaGreatDoor
open Go Go.RowKit
set_option linter.unusedVariables false
set_option linter.unusedSimpArgs false

/-- A method, its slice of changes left out of sight. -/
structure Mt where
  name : ByteArray
  stage : Int
  l : List ByteArray
def methB (m : Mt) : Bool := wordB m.name.data.toList && (decide (3 ≤ m.stage ∧ m.stage ≤ 8) && (decide (1 ≤ m.l.length ∧ m.l.length ≤ 40) && chgs m.stage m.l))
/-- In w the value v is the slice of m's changes, and no string is too long. -/
def MethAt (w : World) (m : Mt) (v : Value) : Prop := Strs w v m.l ∧ m.name.size ≤ maxLen ∧ Fits m.l
theorem MethAt.to {w w' : World} {m : Mt} {v : Value} (h : MethAt w m v) (hb : Below w.heap.size w w') : MethAt w' m v := ⟨h.1.to hb, h.2⟩
def MtSmall (m : Mt) : Prop := m.name.size ≤ 1048576 ∧ Small m.l
def Mt.v (m : Mt) (v : Value) : Value := .agg #[.string m.name, .int .i64 m.stage, v]
def mcells (p : Mt × Value) : List Value := [.string p.1.name, .int .i64 p.1.stage, p.2]
def Meths (w : World) (v : Value) (ms : List Mt) : Prop := ∃ vs : List Value, vs.length = ms.length ∧ Sl w 3 v ms.length ((ms.zip vs).flatMap mcells) ∧ ∀ p ∈ ms.zip vs, MethAt w p.1 p.2
theorem Meths.to {w w' : World} {v : Value} {ms : List Mt} (h : Meths w v ms) (hb : Below w.heap.size w w') : Meths w' v ms :=
  let ⟨vs, h1, h2, h3⟩ := h; ⟨vs, h1, h2.to hb, fun p hp => (h3 p hp).to hb⟩
theorem meths_el {w : World} {B : Nat} {A : Option Addr} {ms : List Mt} {vs : List Value} {n : Nat} (hl : vs.length = ms.length) (hr : Reads w B 3 A n ((ms.zip vs).flatMap mcells)) (hn : n = ms.length) {k : Nat} (hk : k < ms.length) :
    ∃ ad v, A = some ad ∧ (ms[k], v) ∈ ms.zip vs ∧ ∀ w', Below B w w' → w'.cell? (ad.add (k * 3)) = some (.string ms[k].name) ∧ w'.cell? ⟨(ad.add (k * 3)).block, (ad.add (k * 3)).off + 1, none⟩ = some (.int .i64 ms[k].stage) ∧
      w'.cell? ⟨(ad.add (k * 3)).block, (ad.add (k * 3)).off + 2, none⟩ = some v := by
  subst hn
  have hz : (ms.zip vs).length = ms.length := by simp [hl]
  have hk' : k < (ms.zip vs).length := by omega
  have hkv : k < vs.length := by omega
  rw [← hz] at hr
  obtain ⟨ad, e, h⟩ := hr.el (fun _ _ => rfl) hk'
  refine ⟨ad, vs[k], e, ?_, fun w' hb => ⟨?_, ?_, ?_⟩⟩
  · have := List.getElem_mem hk'
    rwa [List.getElem_zip] at this
  · have := h w' hb 0 (.string ms[k].name) (by omega) (by rw [List.getElem_zip]; rfl); rwa [add_zero'] at this
  · exact h w' hb 1 (.int .i64 ms[k].stage) (by omega) (by rw [List.getElem_zip]; rfl)
  · exact h w' hb 2 vs[k] (by omega) (by rw [List.getElem_zip]; rfl)
theorem meth_stage (m : Mt) : (decide (1 ≤ m.l.length ∧ m.l.length ≤ 40) && chgs m.stage m.l) = (decide (3 ≤ m.stage ∧ m.stage ≤ 8) && (decide (1 ≤ m.l.length ∧ m.l.length ≤ 40) && chgs m.stage m.l)) := by
  by_cases h : 3 ≤ m.stage ∧ m.stage ≤ 8
  · rw [decide_eq_true h]; rfl
  · rw [decide_eq_false h]
    cases e : m.l with
    | nil => rfl
    | cons s t => simp [chgs, changeB_no1 h]
set_option maxHeartbeats 1000000 in
theorem implGoodMethod_any (m : Mt) (v : Value) (w : World) (h : MethAt w m v) (hs : MtSmall m) : Calls Tryz.prog 136 #[m.v v] w fun e w' => e = .returned (.bool (methB m)) ∧ Below w.heap.size w w' := by
  unfold Mt.v
  have hr := h.1
  have h2 := h.2.1
  have hsm := hs.2
  have Hs := Lib.hid (meth_stage m)
  clear h hs
  go_enter Tryz.func136, Tryz.ntmps136
  go_wp2_with fail
  refine box1 (C := fun W => Calls _ _ _ W _) ?_
  intro wb hw k1 hB0
  have R1 := boxRule k1
  clear k1
  have hr1 := hr.to hw
  refine (isWord_any _ _ h2).mono ?_; rintro e w1 ⟨rfl, rfl⟩
  go_wp2_with (go_at_call 169; refine (areChanges_any _ _ _ _ hr1 hsm).mono ?_; rintro e w1 ⟨rfl, hb1⟩)
  · go_ret
    exact ⟨ret_bool (by unfold methB; rw [← Hs.out]; simp [*]), bw_to hw hb1⟩
  · go_ret
    exact ⟨ret_bool (by unfold methB; simp [*]), hw⟩
set_option maxHeartbeats 1000000 in
theorem l4Good_any (m : Mt) (v : Value) (w : World) (h : MethAt w m v) (hs : MtSmall m) : Calls Tryz.prog 89 #[m.v v] w fun e w' => e = .returned (.bool (methB m)) ∧ Below w.heap.size w w' := by
  unfold Mt.v
  have hr := h.1
  have h2 := h.2.1
  have Hf := Lib.hid hs.2.2
  have hf1 := hs.2.1
  clear h hs
  obtain ⟨A, c, rfl, h1, h3, hr⟩ := hr
  unfold maxLen at h3
  go_enter Tryz.func89, Tryz.ntmps89
  go_wp2_with fail
  refine box1 (C := fun W => Code.wp _ _ _ _ W) ?_
  intro wb hw k1 hB0
  have R1 := boxRule k1
  clear k1
  have hr1 := hr.to hw
  clear hr
  go_loopw [8] (fun i wr => ∃ k : Nat, k ≤ m.l.length ∧ i = .int .i64 k ∧ (m.l.take k).all (fun s => changeB m.stage s.data.toList) = true ∧ Below wb.heap.size wb wr) (fun i _ => m.l.length - (intOf i).toNat)
  case atStart => exact ⟨0, by omega, rfl, by simp, hB0⟩
  case round =>
    obtain ⟨k, hk, rfl, hs, hB⟩ := hrel
    have Hs := Lib.hid hs
    clear hs
    by_cases hlt : k < m.l.length
    · obtain ⟨ad, rfl, hC⟩ := strs_el hr1 hlt
      have hsz : (m.l[k]).size ≤ maxLen := Nat.le_trans (Hf.out _ (List.getElem_mem hlt)) (by unfold maxLen; omega)
      have H1 := Lib.hid (all_false (p := fun s => changeB m.stage s.data.toList) hlt)
      have H2 := Lib.hid (all_step (p := fun s => changeB m.stage s.data.toList) hlt Hs.out)
      obtain ⟨b, hb⟩ : ∃ b, b = changeB m.stage m.l[k].data.toList := ⟨_, rfl⟩
      rw [← hb] at H1 H2
      cases b
      all_goals
        have Hb := Lib.hid hb
        clear hb
      · go_wp2_with (go_at_call 129; refine (l2Change_any _ _ _ hsz).mono ?_; rintro e w1 ⟨rfl, rfl⟩; rw [← Hb.out])
        go_ret
        exact ⟨ret_bool (by have := H1.out (by simp); unfold methB chgs; rw [this]; simp), bw_to hw hB⟩
      · go_wp2_with (go_at_call 129; refine (l2Change_any _ _ _ hsz).mono ?_; rintro e w1 ⟨rfl, rfl⟩; rw [← Hb.out])
        exact ⟨⟨k + 1, by omega, by go_num, H2.out (by simp), hB⟩, by simp [intOf]; omega⟩
    · have Ha : chgs m.stage m.l = true := all_true (by omega) Hs.out
      have HA := Lib.hid Ha
      clear Ha
      go_wp2_with (first | (go_at_call 130; refine (l4Name_any _ _ h2).mono ?_; rintro e w1 ⟨rfl, rfl⟩) | (go_at_call 43; refine (l1In_any _ _ _ _).mono ?_; rintro e w1 ⟨rfl, rfl⟩))
      all_goals
        go_ret
        exact ⟨ret_bool (by unfold methB; rw [HA.out]; rw [Bool.eq_iff_iff]; simp [*]; try omega), bw_to hw hB⟩
set_option maxHeartbeats 1000000 in
theorem szMethod_any (m : Mt) (v : Value) (k0 : Int) (w : World) (h : MethAt w m v) (h0 : 0 ≤ k0) (hk0 : k0 ≤ 1048576) : Calls Tryz.prog 7 #[m.v v, .int .i64 k0] w fun e w' =>
    ∃ r : Int, e = .returned (.int .i64 r) ∧ -1 ≤ r ∧ r ≤ 1048576 ∧ (0 ≤ r → MtSmall m) ∧ Below w.heap.size w w' := by
  unfold Mt.v
  have hr := h.1
  have h2 := h.2.1
  have Hf := Lib.hid h.2.2
  unfold maxLen at h2
  clear h
  go_enter Tryz.func7, Tryz.ntmps7
  go_wp2_with fail
  · go_ret
    exact ⟨_, rfl, by omega, by omega, fun h => absurd h (by omega), bw_al (Below.refl _ _) _⟩
  · refine box1 (C := fun W => Calls _ _ _ W _) ?_
    intro wb hw k1 hB0
    have R1 := boxRule k1
    clear k1
    refine (szStringS_any _ _ _ _ (hr.to hw) Hf.out (by assumption) (by omega)).mono ?_; rintro e w1 ⟨r, rfl, hr0, hr1, hr2, rfl⟩
    have Hr2 := Lib.hid hr2
    clear hr2
    go_wp2_with fail
    · go_ret
      exact ⟨_, rfl, by omega, by omega, fun h => absurd h (by omega), hw⟩
    · go_ret
      exact ⟨_, rfl, by omega, by omega, fun h => ⟨by omega, Hr2.out (by omega)⟩, hw⟩
end Go.Proofs.YtimeecimaokldaaGreatDoor

/- Contracts: marks (the text m followed by a number's digits). -/
namespace Go.Proofs.YtimeecimaokldaaGreatDoor
open Go Go.RowKit
set_option linter.unusedVariables false
set_option linter.unusedSimpArgs false

def digit (n : Nat) : ByteArray := ⟨#[UInt8.ofNat (48 + n % 10)]⟩
def mGo : Nat → Nat → ByteArray → ByteArray
  | 0, _, t => t
  | f + 1, n, t => if n = 0 then t else mGo f (n / 10) (digit n ++ t)
/-- The text of mark k. -/
def mText (k : Nat) : ByteArray := (⟨#[109]⟩ : ByteArray) ++ (if k = 0 then (⟨#[48]⟩ : ByteArray) else mGo 20 k ⟨#[]⟩)
theorem mGo_zero (f : Nat) (t : ByteArray) : mGo f 0 t = t := by cases f <;> rfl
theorem mGo_step {f n : Nat} (h : 0 < n) (t : ByteArray) : mGo (f + 1) n t = mGo f (n / 10) (digit n ++ t) := by rw [mGo, if_neg (by omega)]
theorem digit_size (n : Nat) : (digit n).size = 1 := rfl
theorem one_byte {P : Program} {src dst e : TypeId} (hs : P.underlying src = some (.slice e)) (he : P.underlying e = some (.int .u8)) (hd : P.underlying dst = some .string) (W : World) (n : Nat) :
    (convert src dst (.slice (some ⟨W.heap.size, 0, none⟩) 1 1)).run P (W.alloc (.cells #[.int .u8 (48 + (n : Int) % 10)] e)) = .ok (.string (digit n)) (W.alloc (.cells #[.int .u8 (48 + (n : Int) % 10)] e)) := by
  refine run_convert_bytes_back _ src dst e ⟨W.heap.size, 0, none⟩ 1 [UInt8.ofNat (48 + n % 10)] hs he hd (fun j hj => ?_)
  have : j = 0 := by simpa using hj
  subst this
  rw [Addr.add_lit, heap_cell (heap_new W _)]
  simp
  omega

/-- 'only the row g, and what is new, has turned'. -/
theorem gr_refl (w : World) (row : Option Nat) : w.grownBy w row := World.grownBy.refl w row
theorem gr_below {a w w1 : World} {row : Option Nat} (h : a.grownBy w row) (hb : Below w.heap.size w w1) : a.grownBy w1 row :=
  ⟨hb.os.trans h.os, hb.tape.trans h.tape, hb.output.trans h.output, Nat.le_trans h.size hb.size, fun k hk hn => (hb.block k (Nat.lt_of_lt_of_le hk h.size)).trans (h.block k hk hn)⟩
theorem gr_set {a w : World} {g j : Nat} (h : a.grownBy w (some g)) (u : Value) : a.grownBy (w.setCell ⟨g, j, none⟩ u) (some g) :=
  ⟨h.os, h.tape, h.output, by simpa [World.setCell] using h.size, fun i hi hne => (Below.heap_setCell w ⟨g, j, none⟩ u i (by rintro rfl; exact hne rfl)).trans (h.block i hi hne)⟩
set_option maxHeartbeats 1000000 in
theorem markText_any (k : Nat) (w : World) (hk : k ≤ 1000000000000000) : Calls Tryz.prog 106 #[.int .i64 k] w fun e w' => e = .returned (.string (mText k)) ∧ Below w.heap.size w w' := by
  by_cases h0 : k = 0
  · subst h0
    go_enter Tryz.func106, Tryz.ntmps106
    go_wp2_with fail
    go_ret
    exact ⟨rfl, Below.refl _ _⟩
  · have hk1 : ¬ (k : Int) ≤ 0 := by omega
    have H0 := Lib.hid h0
    clear h0
    go_enter Tryz.func106, Tryz.ntmps106
    go_wp2_with fail
    go_loopw [0, 3] (fun q s wr => ∃ f n : Nat, ∃ t : ByteArray, q = .int .i64 n ∧ n ≤ 1000000000000000 ∧ s = .string t ∧ mGo f n t = mGo 20 k ⟨#[]⟩ ∧ n < 10 ^ f ∧ f + t.size = 20 ∧ Below w.heap.size w wr) (fun q _ _ => (intOf q).toNat)
    case atStart => exact ⟨20, k, ⟨#[]⟩, rfl, hk, rfl, rfl, by omega, rfl, Below.refl _ _⟩
    case round =>
      obtain ⟨f, n, t, rfl, hn, rfl, hgo, hf, hsz, hB⟩ := hrel
      have Hgo := Lib.hid hgo
      have Hf := Lib.hid hf
      have Hsz := Lib.hid hsz
      have hts : t.size ≤ 20 := by omega
      clear hgo hf hsz
      by_cases hlt : 0 < n
      · have hcv := one_byte (n := n) Tryz.underlying53 Tryz.underlying5 Tryz.underlying9
        have hds := digit_size n
        go_wp2_with fail
        have hfp : f ≠ 0 := by rintro rfl; have := Hf.out; omega
        obtain ⟨f', rfl⟩ : ∃ f', f = f' + 1 := ⟨f - 1, by omega⟩
        have hf' := Hf.out
        rw [Nat.pow_succ] at hf'
        refine ⟨⟨f', n / 10, digit n ++ t, congrArg (Value.int .i64) (by omega), by omega, rfl, by rw [← mGo_step hlt]; exact Hgo.out, Nat.div_lt_of_lt_mul (by omega), ?_, bw_al hB _⟩, by simp [intOf]; omega⟩
        have := Hsz.out
        rw [ByteArray.size_append, digit_size]
        omega
      · obtain rfl : n = 0 := by omega
        go_wp2_with fail
        go_ret
        refine ⟨congrArg (fun s => Ending.returned (Value.string s)) ?_, hB⟩
        have := Hgo.out
        rw [mGo_zero] at this
        unfold mText
        rw [if_neg H0.out, ← this]
/-- Two rows that the call made one after the other lie apart. -/
theorem own_apart {w1 w2 : World} {b1 b2 : Nat} {e1 e2 : TypeId} {s1 s2 n1 n2 : Nat} {v1 v2 : Value} {x1 x2 : List Value} (h1 : w1.ownsRow b1 e1 s1 v1 n1 x1) (h2 : w2.ownsRow b2 e2 s2 v2 n2 x2) (hb : w1.heap.size ≤ b2) :
    v2.ownBlock = none ∨ v2.ownBlock ≠ v1.ownBlock := by
  cases hv : v2.ownBlock with
  | none => exact .inl rfl
  | some k =>
    refine .inr fun h => ?_
    have := (h2.lt k hv).1
    have := (h1.lt k h.symm).2
    omega
theorem own_apart' {w1 w2 : World} {b1 b2 : Nat} {e1 e2 : TypeId} {s1 s2 n1 n2 : Nat} {v1 v2 : Value} {x1 x2 : List Value} (h1 : w1.ownsRow b1 e1 s1 v1 n1 x1) (h2 : w2.ownsRow b2 e2 s2 v2 n2 x2) (hb : w1.heap.size ≤ b2) :
    v1.ownBlock = none ∨ v1.ownBlock ≠ v2.ownBlock := by
  rcases own_apart h1 h2 hb with h | h
  · cases hv : v1.ownBlock with
    | none => exact .inl rfl
    | some k => rw [h]; exact .inr (by simp)
  · exact .inr fun e => h e.symm
/-- A write into a row of the call's own leaves all that lay below as it was. -/
theorem bw_row {a w w1 : World} {base : Nat} {e : TypeId} {s n : Nat} {v : Value} {x : List Value} (h : Below a.heap.size a w) {w0 : World} (ho : w0.ownsRow base e s v n x) (hb : a.heap.size ≤ base) (hg : w.grownBy w1 v.ownBlock) : Below a.heap.size a w1 :=
  h.grown hg h.size (fun k hk => Nat.le_trans hb (ho.lt k hk).1)
def marksI (k n : Nat) : List Int := (List.range n).map fun i => ((k + i : Nat) : Int)
theorem marksI_length (k n : Nat) : (marksI k n).length = n := by simp [marksI]
theorem marksI_get {k n i : Nat} (h : i < (marksI k n).length) : (marksI k n)[i] = ((k + i : Nat) : Int) := by simp [marksI]
theorem marksI_succ (k n : Nat) : marksI k (n + 1) = marksI k n ++ [((k + n : Nat) : Int)] := by simp [marksI, List.range_succ]
end Go.Proofs.YtimeecimaokldaaGreatDoor
