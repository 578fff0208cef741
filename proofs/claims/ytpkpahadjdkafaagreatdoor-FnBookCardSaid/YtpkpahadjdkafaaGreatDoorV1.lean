/- Contracts: records, one and slices of them (goodness, size, copy, sameness). -/
import Derived.Test.YtpkpahadjdkafaaGreatDoorU3
namespace Go.Proofs.YtpkpahadjdkafaaGreatDoor
open Go Go.RowKit
set_option linter.unusedVariables false
set_option linter.unusedSimpArgs false

structure Rc where
  day : Int
  meth : ByteArray
  touch : ByteArray
  rows : Int
  note : ByteArray
def Rc.cells (x : Rc) : List Value := [.int .i64 x.day, .string x.meth, .string x.touch, .int .i64 x.rows, .string x.note]
def Rc.v (x : Rc) : Value := .agg #[.int .i64 x.day, .string x.meth, .string x.touch, .int .i64 x.rows, .string x.note]
def RcFit (x : Rc) : Prop := x.meth.size ≤ maxLen ∧ x.touch.size ≤ maxLen ∧ x.note.size ≤ maxLen
def RcSmall (x : Rc) : Prop := x.meth.size ≤ 1048576 ∧ x.touch.size ≤ 1048576 ∧ x.note.size ≤ 1048576
theorem RcSmall.fit {x : Rc} (h : RcSmall x) : RcFit x := ⟨Nat.le_trans h.1 (by unfold maxLen; omega), Nat.le_trans h.2.1 (by unfold maxLen; omega), Nat.le_trans h.2.2 (by unfold maxLen; omega)⟩
def Recs (w : World) (v : Value) (xs : List Rc) : Prop := Sl w 5 v xs.length (xs.flatMap Rc.cells)
def RcsSmall (xs : List Rc) : Prop := xs.length ≤ 1048576 ∧ ∀ x ∈ xs, RcSmall x
theorem Recs.to {w w' : World} {v : Value} {xs : List Rc} (h : Recs w v xs) (hb : Below w.heap.size w w') : Recs w' v xs := Sl.to h hb
theorem recs_of_own {w : World} {base : Nat} {e : TypeId} {v : Value} {xs : List Rc} (h : w.ownsRow base e 5 v xs.length (xs.flatMap Rc.cells)) : Recs w v xs := sl_of_own h
theorem recs_el {w : World} {B : Nat} {A : Option Addr} {xs : List Rc} {n : Nat} (hr : Reads w B 5 A n (xs.flatMap Rc.cells)) (hn : n = xs.length) {k : Nat} (hk : k < xs.length) :
    ∃ ad, A = some ad ∧ ∀ w', Below B w w' → w'.cell? (ad.add (k * 5)) = some (.int .i64 xs[k].day) ∧ w'.cell? ⟨(ad.add (k * 5)).block, (ad.add (k * 5)).off + 1, none⟩ = some (.string xs[k].meth) ∧
      w'.cell? ⟨(ad.add (k * 5)).block, (ad.add (k * 5)).off + 2, none⟩ = some (.string xs[k].touch) ∧ w'.cell? ⟨(ad.add (k * 5)).block, (ad.add (k * 5)).off + 3, none⟩ = some (.int .i64 xs[k].rows) ∧
      w'.cell? ⟨(ad.add (k * 5)).block, (ad.add (k * 5)).off + 4, none⟩ = some (.string xs[k].note) := by
  subst hn
  obtain ⟨ad, e, h⟩ := hr.el (fun _ _ => rfl) hk
  refine ⟨ad, e, fun w' hb => ⟨?_, ?_, ?_, ?_, ?_⟩⟩
  · have := h w' hb 0 _ (by omega) rfl; rwa [add_zero'] at this
  · exact h w' hb 1 _ (by omega) rfl
  · exact h w' hb 2 _ (by omega) rfl
  · exact h w' hb 3 _ (by omega) rfl
  · exact h w' hb 4 _ (by omega) rfl
theorem own5 {w : World} {base : Nat} {e : TypeId} {n g cap k : Nat} {xs : List Value} (h : w.ownsRow base e 5 (.slice (some ⟨g, 0, none⟩) n cap) n xs) (hk : k < n) :
    (∃ y0 y1 y2 y3 y4, w.cell? ⟨g, k * 5, none⟩ = some y0 ∧ w.cell? ⟨g, k * 5 + 1, none⟩ = some y1 ∧ w.cell? ⟨g, k * 5 + 2, none⟩ = some y2 ∧ w.cell? ⟨g, k * 5 + 3, none⟩ = some y3 ∧ w.cell? ⟨g, k * 5 + 4, none⟩ = some y4) ∧
    (w.frozen? ⟨g, k * 5, none⟩ = false ∧ w.frozen? ⟨g, k * 5 + 1, none⟩ = false ∧ w.frozen? ⟨g, k * 5 + 2, none⟩ = false ∧ w.frozen? ⟨g, k * 5 + 3, none⟩ = false ∧ w.frozen? ⟨g, k * 5 + 4, none⟩ = false) := by
  obtain ⟨y0, e0⟩ := own_some h (j := k * 5) (by omega)
  obtain ⟨y1, e1⟩ := own_some h (j := k * 5 + 1) (by omega)
  obtain ⟨y2, e2⟩ := own_some h (j := k * 5 + 2) (by omega)
  obtain ⟨y3, e3⟩ := own_some h (j := k * 5 + 3) (by omega)
  obtain ⟨y4, e4⟩ := own_some h (j := k * 5 + 4) (by omega)
  exact ⟨⟨y0, y1, y2, y3, y4, e0, e1, e2, e3, e4⟩, h.frozenAt _, h.frozenAt _, h.frozenAt _, h.frozenAt _, h.frozenAt _⟩
theorem take_set5 {cs ds : List Value} {k n : Nat} {v0 v1 v2 v3 v4 : Value} (hl : cs.length = n * 5) (hk : k < n) (h : cs.take (k * 5) = ds) :
    (((((cs.set (k * 5) v0).set (k * 5 + 1) v1).set (k * 5 + 2) v2).set (k * 5 + 3) v3).set (k * 5 + 4) v4).take ((k + 1) * 5) = ds ++ [v0, v1, v2, v3, v4] := by
  rw [show (k + 1) * 5 = k * 5 + 4 + 1 from by omega, take_set_last (by simp; omega), take_set_last (by simp; omega), take_set_last (by simp; omega), take_set_last (by simp; omega), take_set_last (by omega), h]
  simp
theorem take_allG {α : Type} {p : α → Prop} {ss : List α} {k : Nat} (hk : k < ss.length) (h : ∀ s ∈ ss.take k, p s) (h1 : p ss[k]) : ∀ s ∈ ss.take (k + 1), p s := by
  intro s hs
  rw [List.take_succ_eq_append_getElem hk] at hs
  rcases List.mem_append.1 hs with hs | hs
  · exact h s hs
  · rw [List.mem_singleton.1 hs]; exact h1
def recB (x : Rc) : Bool := decide (0 ≤ x.day ∧ x.day ≤ 99999) && (wordB x.meth.data.toList && (touchB x.touch.data.toList && (decide (1 ≤ x.rows ∧ x.rows ≤ 800) && noteB x.note.data.toList)))
set_option maxHeartbeats 1000000 in
theorem implGoodRecord_any (x : Rc) (w : World) (hs : RcFit x) : Calls Tryz.prog 34 #[x.v] w fun e w' => e = .returned (.bool (recB x)) ∧ Below w.heap.size w w' := by
  unfold Rc.v
  have hW := Lib.hid (fun w => isWord_any x.meth w hs.1)
  have hT := Lib.hid (fun w => GoodTouch_any x.touch w hs.2.1)
  have hN := Lib.hid (fun w => isNote_any x.note w hs.2.2)
  obtain ⟨b0, e0⟩ : ∃ b, b = decide (0 ≤ x.day ∧ x.day ≤ 99999) := ⟨_, rfl⟩
  obtain ⟨b1, e1⟩ : ∃ b, b = wordB x.meth.data.toList := ⟨_, rfl⟩
  obtain ⟨b2, e2⟩ : ∃ b, b = touchB x.touch.data.toList := ⟨_, rfl⟩
  obtain ⟨b3, e3⟩ : ∃ b, b = decide (1 ≤ x.rows ∧ x.rows ≤ 800) := ⟨_, rfl⟩
  obtain ⟨b4, e4⟩ : ∃ b, b = noteB x.note.data.toList := ⟨_, rfl⟩
  have hq : recB x = (b0 && (b1 && (b2 && (b3 && b4)))) := by rw [e0, e1, e2, e3, e4]; rfl
  rw [hq]
  rw [← e1] at hW
  rw [← e2] at hT
  rw [← e4] at hN
  have E0 := Lib.hid e0
  have E3 := Lib.hid e3
  clear hq e0 e1 e2 e3 e4
  go_enter Tryz.func34, Tryz.ntmps34
  cases b0 <;> cases b1 <;> cases b2 <;> cases b3
  all_goals
    go_wp2_with (first
      | (go_at_call 53; refine (hW.out _).mono ?_; rintro e w' ⟨rfl, rfl⟩)
      | (go_at_call 54; refine (hT.out _).mono ?_; rintro e w' ⟨rfl, rfl⟩)
      | (go_at_call 55; refine (hN.out _).mono ?_; rintro e w' ⟨rfl, rfl⟩)
      | (go_at_call 52; refine (within_any _ _ _ _).mono ?_; rintro e w' ⟨rfl, rfl⟩; first | rw [← E0.out] | rw [← E3.out]))
    go_ret
    exact ⟨rfl, bw_al (Below.refl _ _) _⟩
set_option maxHeartbeats 1000000 in
theorem l28Good_any (x : Rc) (w : World) (hs : RcFit x) : Calls Tryz.prog 40 #[x.v] w fun e w' => e = .returned (.bool (recB x)) ∧ Below w.heap.size w w' := by
  unfold Rc.v
  have hW := Lib.hid (fun w => l4Name_any x.meth w hs.1)
  have hT := Lib.hid (fun w => l9Good_any x.touch w hs.2.1)
  have hN := Lib.hid (fun w => l28Note_any x.note w hs.2.2)
  obtain ⟨b0, e0⟩ : ∃ b, b = decide (0 ≤ x.day ∧ x.day ≤ 99999) := ⟨_, rfl⟩
  obtain ⟨b1, e1⟩ : ∃ b, b = wordB x.meth.data.toList := ⟨_, rfl⟩
  obtain ⟨b2, e2⟩ : ∃ b, b = touchB x.touch.data.toList := ⟨_, rfl⟩
  obtain ⟨b3, e3⟩ : ∃ b, b = decide (1 ≤ x.rows ∧ x.rows ≤ 800) := ⟨_, rfl⟩
  obtain ⟨b4, e4⟩ : ∃ b, b = noteB x.note.data.toList := ⟨_, rfl⟩
  have hq : recB x = (b0 && (b1 && (b2 && (b3 && b4)))) := by rw [e0, e1, e2, e3, e4]; rfl
  rw [hq]
  rw [← e1] at hW
  rw [← e2] at hT
  rw [← e4] at hN
  have E0 := Lib.hid e0
  have E3 := Lib.hid e3
  clear hq e0 e1 e2 e3 e4
  go_enter Tryz.func40, Tryz.ntmps40
  cases b0 <;> cases b1 <;> cases b2 <;> cases b3
  all_goals
    go_wp2_with (first
      | (go_at_call 61; refine (hW.out _).mono ?_; rintro e w' ⟨rfl, rfl⟩)
      | (go_at_call 62; refine (hT.out _).mono ?_; rintro e w' ⟨rfl, rfl⟩)
      | (go_at_call 63; refine (hN.out _).mono ?_; rintro e w' ⟨rfl, rfl⟩)
      | (go_at_call 60; refine (l1In_any _ _ _ _).mono ?_; rintro e w' ⟨rfl, rfl⟩; first | rw [← E0.out] | rw [← E3.out]))
    go_ret
    exact ⟨rfl, bw_al (Below.refl _ _) _⟩
end Go.Proofs.YtpkpahadjdkafaaGreatDoor
