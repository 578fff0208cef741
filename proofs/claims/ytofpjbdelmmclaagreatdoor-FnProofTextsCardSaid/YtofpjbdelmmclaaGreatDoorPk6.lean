/- Contracts: slices of strings (size, copy, sameness), lists of changes. -/
import Derived.Test.YtofpjbdelmmclaaGreatDoorPk3
import Derived.Test.YtofpjbdelmmclaaGreatDoorPk2
namespace Go.Proofs.YtofpjbdelmmclaaGreatDoor
open Go Go.RowKit
set_option linter.unusedVariables false
set_option linter.unusedSimpArgs false

/-- No string of the list is too long for a machine. -/
def Fits (ss : List ByteArray) : Prop := ∀ s ∈ ss, s.size ≤ maxLen
/-- What the size's measure gives for a list that fits into it. -/
def Small (ss : List ByteArray) : Prop := ss.length ≤ 1048576 ∧ ∀ s ∈ ss, s.size ≤ 1048576
theorem Small.fits {ss : List ByteArray} (h : Small ss) : Fits ss := fun s hs => Nat.le_trans (h.2 s hs) (by unfold maxLen; omega)
theorem take_all {p : ByteArray → Prop} {ss : List ByteArray} {k : Nat} (hk : k < ss.length) (h : ∀ s ∈ ss.take k, p s) (h1 : p ss[k]) : ∀ s ∈ ss.take (k + 1), p s := by
  intro s hs
  rw [List.take_succ_eq_append_getElem hk] at hs
  rcases List.mem_append.1 hs with hs | hs
  · exact h s hs
  · rw [List.mem_singleton.1 hs]; exact h1
def chgs (n : Int) (ss : List ByteArray) : Bool := ss.all fun s => changeB n s.data.toList
theorem areChanges_any (n : Int) (v : Value) (ss : List ByteArray) (w : World) (h : Strs w v ss) (hf : Small ss) : Calls Tryz.prog 191 #[.int .i64 n, v] w fun e w' => e = .returned (.bool (decide (1 ≤ ss.length ∧ ss.length ≤ 40) && chgs n ss)) ∧ Below w.heap.size w w' := by
  obtain ⟨A, c, rfl, h1, h2, hr⟩ := h
  unfold maxLen at h2
  have Hf := Lib.hid hf.2
  have hf1 := hf.1
  clear hf
  by_cases hbig : 1 ≤ ss.length ∧ ss.length ≤ 40
  · have e1 := Lib.hid (decide_eq_true hbig)
    go_enter Tryz.func191, Tryz.ntmps191
    go_wp2_with fail
    go_loopw [17] (fun i wr => ∃ k : Nat, k ≤ ss.length ∧ i = .int .i64 k ∧ (ss.take k).all (fun s => changeB n s.data.toList) = true ∧ Below w.heap.size w wr) (fun i _ => ss.length - (intOf i).toNat)
    case atStart => exact ⟨0, by omega, rfl, by simp, Below.refl _ _⟩
    case round =>
      obtain ⟨k, hk, rfl, hs, hB⟩ := hrel
      have Hs := Lib.hid hs
      clear hs
      by_cases hlt : k < ss.length
      · obtain ⟨ad, rfl, hC⟩ := strs_el hr hlt
        have hsz := Hf.out _ (List.getElem_mem hlt)
        have H1 := Lib.hid (all_false (p := fun s => changeB n s.data.toList) hlt)
        have H2 := Lib.hid (all_step (p := fun s => changeB n s.data.toList) hlt Hs.out)
        obtain ⟨b, hb⟩ : ∃ b, b = changeB n ss[k].data.toList := ⟨_, rfl⟩
        rw [← hb] at H1 H2
        cases b
        all_goals
          have Hb := Lib.hid hb
          clear hb
        · go_wp2_with (go_at_call 158; refine (GoodChange_any _ _ _ hsz).mono ?_; rintro e w1 ⟨rfl, hb1⟩; rw [← Hb.out])
          go_ret
          exact ⟨ret_bool (by rw [e1.out]; exact (H1.out (by simp)).symm), bw_to hB hb1⟩
        · go_wp2_with (go_at_call 158; refine (GoodChange_any _ _ _ hsz).mono ?_; rintro e w1 ⟨rfl, hb1⟩; rw [← Hb.out])
          exact ⟨⟨k + 1, by omega, by go_num, H2.out (by simp), bw_to hB hb1⟩, by simp [intOf]; omega⟩
      · go_wp2_with fail
        go_ret
        obtain rfl : k = ss.length := by omega
        exact ⟨ret_bool (by rw [e1.out]; exact (all_true rfl Hs.out).symm), hB⟩
  · have e1 := Lib.hid (decide_eq_false hbig)
    go_enter Tryz.func191, Tryz.ntmps191
    go_wp2_with fail
    all_goals
      go_ret
      exact ⟨ret_bool (by first | rfl | (rw [e1.out]; rfl)), Below.refl _ _⟩
end Go.Proofs.YtofpjbdelmmclaaGreatDoor

/- Contracts: methods, one and slices of them (goodness, size, copy, sameness). -/
namespace Go.Proofs.YtofpjbdelmmclaaGreatDoor
open Go Go.RowKit
set_option linter.unusedVariables false
set_option linter.unusedSimpArgs false

/-- A method, its slice of changes left out of sight. -/
structure Mt where
  name : ByteArray
  stage : Int
  l : List ByteArray
def methB (m : Mt) : Bool := wordB m.name.data.toList && (decide (3 ≤ m.stage ∧ m.stage ≤ 8) && (decide (1 ≤ m.l.length ∧ m.l.length ≤ 40) && chgs m.stage m.l))
/-- In w the value v is the slice of m's changes, and no string is too long. -/
def MethAt (w : World) (m : Mt) (v : Value) : Prop := Strs w v m.l ∧ m.name.size ≤ maxLen ∧ Fits m.l
theorem MethAt.to {w w' : World} {m : Mt} {v : Value} (h : MethAt w m v) (hb : Below w.heap.size w w') : MethAt w' m v := ⟨h.1.to hb, h.2⟩
def MtSmall (m : Mt) : Prop := m.name.size ≤ 1048576 ∧ Small m.l
def Mt.v (m : Mt) (v : Value) : Value := .agg #[.string m.name, .int .i64 m.stage, v]
def mcells (p : Mt × Value) : List Value := [.string p.1.name, .int .i64 p.1.stage, p.2]
def Meths (w : World) (v : Value) (ms : List Mt) : Prop := ∃ vs : List Value, vs.length = ms.length ∧ Sl w 3 v ms.length ((ms.zip vs).flatMap mcells) ∧ ∀ p ∈ ms.zip vs, MethAt w p.1 p.2
theorem Meths.to {w w' : World} {v : Value} {ms : List Mt} (h : Meths w v ms) (hb : Below w.heap.size w w') : Meths w' v ms :=
  let ⟨vs, h1, h2, h3⟩ := h; ⟨vs, h1, h2.to hb, fun p hp => (h3 p hp).to hb⟩
theorem meths_el {w : World} {B : Nat} {A : Option Addr} {ms : List Mt} {vs : List Value} {n : Nat} (hl : vs.length = ms.length) (hr : Reads w B 3 A n ((ms.zip vs).flatMap mcells)) (hn : n = ms.length) {k : Nat} (hk : k < ms.length) :
    ∃ ad v, A = some ad ∧ (ms[k], v) ∈ ms.zip vs ∧ ∀ w', Below B w w' → w'.cell? (ad.add (k * 3)) = some (.string ms[k].name) ∧ w'.cell? ⟨(ad.add (k * 3)).block, (ad.add (k * 3)).off + 1, none⟩ = some (.int .i64 ms[k].stage) ∧
      w'.cell? ⟨(ad.add (k * 3)).block, (ad.add (k * 3)).off + 2, none⟩ = some v := by
  subst hn
  have hz : (ms.zip vs).length = ms.length := by simp [hl]
  have hk' : k < (ms.zip vs).length := by omega
  have hkv : k < vs.length := by omega
  rw [← hz] at hr
  obtain ⟨ad, e, h⟩ := hr.el (fun _ _ => rfl) hk'
  refine ⟨ad, vs[k], e, ?_, fun w' hb => ⟨?_, ?_, ?_⟩⟩
  · have := List.getElem_mem hk'
    rwa [List.getElem_zip] at this
  · have := h w' hb 0 (.string ms[k].name) (by omega) (by rw [List.getElem_zip]; rfl); rwa [add_zero'] at this
  · exact h w' hb 1 (.int .i64 ms[k].stage) (by omega) (by rw [List.getElem_zip]; rfl)
  · exact h w' hb 2 vs[k] (by omega) (by rw [List.getElem_zip]; rfl)
theorem meth_stage (m : Mt) : (decide (1 ≤ m.l.length ∧ m.l.length ≤ 40) && chgs m.stage m.l) = (decide (3 ≤ m.stage ∧ m.stage ≤ 8) && (decide (1 ≤ m.l.length ∧ m.l.length ≤ 40) && chgs m.stage m.l)) := by
  by_cases h : 3 ≤ m.stage ∧ m.stage ≤ 8
  · rw [decide_eq_true h]; rfl
  · rw [decide_eq_false h]
    cases e : m.l with
    | nil => rfl
    | cons s t => simp [chgs, changeB_no1 h]
set_option maxHeartbeats 1000000 in
theorem implGoodMethod_any (m : Mt) (v : Value) (w : World) (h : MethAt w m v) (hs : MtSmall m) : Calls Tryz.prog 157 #[m.v v] w fun e w' => e = .returned (.bool (methB m)) ∧ Below w.heap.size w w' := by
  unfold Mt.v
  have hr := h.1
  have h2 := h.2.1
  have hsm := hs.2
  have Hs := Lib.hid (meth_stage m)
  clear h hs
  go_enter Tryz.func157, Tryz.ntmps157
  go_wp2_with fail
  refine box1 (C := fun W => Calls _ _ _ W _) ?_
  intro wb hw k1 hB0
  have R1 := boxRule k1
  clear k1
  have hr1 := hr.to hw
  refine (isWord_any _ _ h2).mono ?_; rintro e w1 ⟨rfl, rfl⟩
  go_wp2_with (go_at_call 191; refine (areChanges_any _ _ _ _ hr1 hsm).mono ?_; rintro e w1 ⟨rfl, hb1⟩)
  · go_ret
    exact ⟨ret_bool (by unfold methB; rw [← Hs.out]; simp [*]), bw_to hw hb1⟩
  · go_ret
    exact ⟨ret_bool (by unfold methB; simp [*]), hw⟩
set_option maxHeartbeats 1000000 in
theorem l4Good_any (m : Mt) (v : Value) (w : World) (h : MethAt w m v) (hs : MtSmall m) : Calls Tryz.prog 126 #[m.v v] w fun e w' => e = .returned (.bool (methB m)) ∧ Below w.heap.size w w' := by
  unfold Mt.v
  have hr := h.1
  have h2 := h.2.1
  have Hf := Lib.hid hs.2.2
  have hf1 := hs.2.1
  clear h hs
  obtain ⟨A, c, rfl, h1, h3, hr⟩ := hr
  unfold maxLen at h3
  go_enter Tryz.func126, Tryz.ntmps126
  go_wp2_with fail
  refine box1 (C := fun W => Code.wp _ _ _ _ W) ?_
  intro wb hw k1 hB0
  have R1 := boxRule k1
  clear k1
  have hr1 := hr.to hw
  clear hr
  go_loopw [8] (fun i wr => ∃ k : Nat, k ≤ m.l.length ∧ i = .int .i64 k ∧ (m.l.take k).all (fun s => changeB m.stage s.data.toList) = true ∧ Below wb.heap.size wb wr) (fun i _ => m.l.length - (intOf i).toNat)
  case atStart => exact ⟨0, by omega, rfl, by simp, hB0⟩
  case round =>
    obtain ⟨k, hk, rfl, hs, hB⟩ := hrel
    have Hs := Lib.hid hs
    clear hs
    by_cases hlt : k < m.l.length
    · obtain ⟨ad, rfl, hC⟩ := strs_el hr1 hlt
      have hsz : (m.l[k]).size ≤ maxLen := Nat.le_trans (Hf.out _ (List.getElem_mem hlt)) (by unfold maxLen; omega)
      have H1 := Lib.hid (all_false (p := fun s => changeB m.stage s.data.toList) hlt)
      have H2 := Lib.hid (all_step (p := fun s => changeB m.stage s.data.toList) hlt Hs.out)
      obtain ⟨b, hb⟩ : ∃ b, b = changeB m.stage m.l[k].data.toList := ⟨_, rfl⟩
      rw [← hb] at H1 H2
      cases b
      all_goals
        have Hb := Lib.hid hb
        clear hb
      · go_wp2_with (go_at_call 156; refine (l2Change_any _ _ _ hsz).mono ?_; rintro e w1 ⟨rfl, rfl⟩; rw [← Hb.out])
        go_ret
        exact ⟨ret_bool (by have := H1.out (by simp); unfold methB chgs; rw [this]; simp), bw_to hw hB⟩
      · go_wp2_with (go_at_call 156; refine (l2Change_any _ _ _ hsz).mono ?_; rintro e w1 ⟨rfl, rfl⟩; rw [← Hb.out])
        exact ⟨⟨k + 1, by omega, by go_num, H2.out (by simp), hB⟩, by simp [intOf]; omega⟩
    · have Ha : chgs m.stage m.l = true := all_true (by omega) Hs.out
      have HA := Lib.hid Ha
      clear Ha
      go_wp2_with (first | (go_at_call 101; refine (l4Name_any _ _ h2).mono ?_; rintro e w1 ⟨rfl, rfl⟩) | (go_at_call 68; refine (l1In_any _ _ _ _).mono ?_; rintro e w1 ⟨rfl, rfl⟩))
      all_goals
        go_ret
        exact ⟨ret_bool (by unfold methB; rw [HA.out]; rw [Bool.eq_iff_iff]; simp [*]; try omega), bw_to hw hB⟩
end Go.Proofs.YtofpjbdelmmclaaGreatDoor

/- Contracts: slices of methods (size, copy, sameness). -/
namespace Go.Proofs.YtofpjbdelmmclaaGreatDoor
open Go Go.RowKit
set_option linter.unusedVariables false
set_option linter.unusedSimpArgs false

def AllSmall (ms : List Mt) : Prop := ms.length ≤ 1048576 ∧ ∀ m ∈ ms, MtSmall m
theorem take_allM {p : Mt → Prop} {ss : List Mt} {k : Nat} (hk : k < ss.length) (h : ∀ s ∈ ss.take k, p s) (h1 : p ss[k]) : ∀ s ∈ ss.take (k + 1), p s := by
  intro s hs
  rw [List.take_succ_eq_append_getElem hk] at hs
  rcases List.mem_append.1 hs with hs | hs
  · exact h s hs
  · rw [List.mem_singleton.1 hs]; exact h1
theorem frozen_of_heap {w w' : World} {g : Nat} {cs : Array Value} {t : TypeId} (h : w.heap[g]? = some (.cells cs t (0, 0))) (j : Nat) (hb : Below w.heap.size w w') : w'.frozen? ⟨g, j, none⟩ = false := by
  have hg : g < w.heap.size := by
    rcases Nat.lt_or_ge g w.heap.size with hlt | hge
    · exact hlt
    · rw [Array.getElem?_eq_none hge] at h; cases h
  rw [hb.frozen (p := ⟨g, j, none⟩) hg]
  simp [World.frozen?, h]
/-- A write below a row's base leaves the row. -/
theorem own_past {w : World} {base g : Nat} {e : TypeId} {size n : Nat} {v : Value} {xs : List Value} (h : w.ownsRow base e size v n xs) (hg : g < base) (j : Nat) (u : Value) : (w.setCell ⟨g, j, none⟩ u).ownsRow base e size v n xs :=
  h.kept (row := some g) (gr_set (gr_refl w (some g)) u) (by
    cases hv : v.ownBlock with
    | none => exact .inl rfl
    | some k => exact .inr (fun e => by cases e; have := (h.lt g hv).1; omega))
theorem box3s {C : World → Prop} {w : World} {o1 o2 o3 : Obj} (h : ∀ wb, Below w.heap.size w wb → wb.heap.size = w.heap.size + 3 → wb.heap[w.heap.size]? = some o1 → wb.heap[w.heap.size + 1]? = some o2 → wb.heap[w.heap.size + 2]? = some o3 → Below wb.heap.size wb wb → C wb) : C (((w.alloc o1).alloc o2).alloc o3) :=
  box3 (C := fun W => W.heap.size = w.heap.size + 3 → C W) (fun wb a b c d e f => h wb a f b c d e) (by simp)
theorem own3 {w : World} {base : Nat} {e : TypeId} {n g cap k : Nat} {xs : List Value} (h : w.ownsRow base e 3 (.slice (some ⟨g, 0, none⟩) n cap) n xs) (hk : k < n) :
    (∃ y0 y1 y2, w.cell? ⟨g, k * 3, none⟩ = some y0 ∧ w.cell? ⟨g, k * 3 + 1, none⟩ = some y1 ∧ w.cell? ⟨g, k * 3 + 2, none⟩ = some y2) ∧
    (w.frozen? ⟨g, k * 3, none⟩ = false ∧ w.frozen? ⟨g, k * 3 + 1, none⟩ = false ∧ w.frozen? ⟨g, k * 3 + 2, none⟩ = false) := by
  obtain ⟨y0, e0⟩ := own_some h (j := k * 3) (by omega)
  obtain ⟨y1, e1⟩ := own_some h (j := k * 3 + 1) (by omega)
  obtain ⟨y2, e2⟩ := own_some h (j := k * 3 + 2) (by omega)
  exact ⟨⟨y0, y1, y2, e0, e1, e2⟩, h.frozenAt _, h.frozenAt _, h.frozenAt _⟩
theorem take_set3 {cs ds : List Value} {k n : Nat} {v0 v1 v2 : Value} (hl : cs.length = n * 3) (hk : k < n) (h : cs.take (k * 3) = ds) :
    (((cs.set (k * 3) v0).set (k * 3 + 1) v1).set (k * 3 + 2) v2).take ((k + 1) * 3) = ds ++ [v0, v1, v2] := by
  rw [show (k + 1) * 3 = k * 3 + 2 + 1 from by omega, take_set_last (by simp; omega), take_set_last (by simp; omega), take_set_last (by omega), h]
  simp
theorem zip_snoc {ms : List Mt} {vs : List Value} {k : Nat} (hk : k < ms.length) (hv : vs.length = k) (v : Value) : (ms.take (k + 1)).zip (vs ++ [v]) = (ms.take k).zip vs ++ [(ms[k], v)] := by
  rw [List.take_succ_eq_append_getElem hk, List.zip_append (by simp; omega)]
  rfl
/-- A row of methods of the call's own, each with a slice of its own. -/
def OwnMeths (w : World) (base : Nat) (v : Value) (ms : List Mt) : Prop := ∃ vs : List Value, vs.length = ms.length ∧ w.ownsRow base 49 3 v ms.length ((ms.zip vs).flatMap mcells) ∧ ∀ p ∈ ms.zip vs, w.ownsRow base 9 1 p.2 p.1.l.length (p.1.l.map Value.string)
theorem OwnMeths.meths {w : World} {base : Nat} {v : Value} {ms : List Mt} (h : OwnMeths w base v ms) (hs : AllSmall ms) : Meths w v ms := by
  obtain ⟨vs, h1, h2, h3⟩ := h
  refine ⟨vs, h1, sl_of_own h2, fun p hp => ⟨strs_of_own (h3 p hp), ?_, ?_⟩⟩
  · exact Nat.le_trans (hs.2 p.1 (List.of_mem_zip hp).1).1 (by unfold maxLen; omega)
  · exact (hs.2 p.1 (List.of_mem_zip hp).1).2.fits
theorem OwnMeths.to {w w' : World} {base : Nat} {v : Value} {ms : List Mt} (h : OwnMeths w base v ms) (hb : Below w.heap.size w w') : OwnMeths w' base v ms :=
  let ⟨vs, h1, h2, h3⟩ := h; ⟨vs, h1, own_to h2 hb, fun p hp => own_to (h3 p hp) hb⟩
theorem info_meth : (Tryz.prog.info? 49).map (fun i => (i.zero, i.size, i.bytes)) = some (some (.agg #[.string ⟨#[]⟩, .int .i64 0, .slice none 0 0]), 3, 48) := by kernel_rfl
end Go.Proofs.YtofpjbdelmmclaaGreatDoor
