/- Contracts: records, one and slices of them (goodness, size, copy, sameness). -/
import Derived.Test.YtamneiffhohleaaU3
namespace Go.Proofs.Ytamneiffhohleaa
open Go Go.RowKit
set_option linter.unusedVariables false
set_option linter.unusedSimpArgs false

structure Rc where
  day : Int
  meth : ByteArray
  touch : ByteArray
  rows : Int
  note : ByteArray
def Rc.cells (x : Rc) : List Value := [.int .i64 x.day, .string x.meth, .string x.touch, .int .i64 x.rows, .string x.note]
def Rc.v (x : Rc) : Value := .agg #[.int .i64 x.day, .string x.meth, .string x.touch, .int .i64 x.rows, .string x.note]
def RcFit (x : Rc) : Prop := x.meth.size ≤ maxLen ∧ x.touch.size ≤ maxLen ∧ x.note.size ≤ maxLen
def RcSmall (x : Rc) : Prop := x.meth.size ≤ 1048576 ∧ x.touch.size ≤ 1048576 ∧ x.note.size ≤ 1048576
theorem RcSmall.fit {x : Rc} (h : RcSmall x) : RcFit x := ⟨Nat.le_trans h.1 (by unfold maxLen; omega), Nat.le_trans h.2.1 (by unfold maxLen; omega), Nat.le_trans h.2.2 (by unfold maxLen; omega)⟩
def Recs (w : World) (v : Value) (xs : List Rc) : Prop := Sl w 5 v xs.length (xs.flatMap Rc.cells)
def RcsSmall (xs : List Rc) : Prop := xs.length ≤ 1048576 ∧ ∀ x ∈ xs, RcSmall x
theorem Recs.to {w w' : World} {v : Value} {xs : List Rc} (h : Recs w v xs) (hb : Below w.heap.size w w') : Recs w' v xs := Sl.to h hb
theorem recs_of_own {w : World} {base : Nat} {e : TypeId} {v : Value} {xs : List Rc} (h : w.ownsRow base e 5 v xs.length (xs.flatMap Rc.cells)) : Recs w v xs := sl_of_own h
theorem recs_el {w : World} {B : Nat} {A : Option Addr} {xs : List Rc} {n : Nat} (hr : Reads w B 5 A n (xs.flatMap Rc.cells)) (hn : n = xs.length) {k : Nat} (hk : k < xs.length) :
    ∃ ad, A = some ad ∧ ∀ w', Below B w w' → w'.cell? (ad.add (k * 5)) = some (.int .i64 xs[k].day) ∧ w'.cell? ⟨(ad.add (k * 5)).block, (ad.add (k * 5)).off + 1, none⟩ = some (.string xs[k].meth) ∧
      w'.cell? ⟨(ad.add (k * 5)).block, (ad.add (k * 5)).off + 2, none⟩ = some (.string xs[k].touch) ∧ w'.cell? ⟨(ad.add (k * 5)).block, (ad.add (k * 5)).off + 3, none⟩ = some (.int .i64 xs[k].rows) ∧
      w'.cell? ⟨(ad.add (k * 5)).block, (ad.add (k * 5)).off + 4, none⟩ = some (.string xs[k].note) := by
  subst hn
  obtain ⟨ad, e, h⟩ := hr.el (fun _ _ => rfl) hk
  refine ⟨ad, e, fun w' hb => ⟨?_, ?_, ?_, ?_, ?_⟩⟩
  · have := h w' hb 0 _ (by omega) rfl; rwa [add_zero'] at this
  · exact h w' hb 1 _ (by omega) rfl
  · exact h w' hb 2 _ (by omega) rfl
  · exact h w' hb 3 _ (by omega) rfl
  · exact h w' hb 4 _ (by omega) rfl
theorem own5 {w : World} {base : Nat} {e : TypeId} {n g cap k : Nat} {xs : List Value} (h : w.ownsRow base e 5 (.slice (some ⟨g, 0, none⟩) n cap) n xs) (hk : k < n) :
    (∃ y0 y1 y2 y3 y4, w.cell? ⟨g, k * 5, none⟩ = some y0 ∧ w.cell? ⟨g, k * 5 + 1, none⟩ = some y1 ∧ w.cell? ⟨g, k * 5 + 2, none⟩ = some y2 ∧ w.cell? ⟨g, k * 5 + 3, none⟩ = some y3 ∧ w.cell? ⟨g, k * 5 + 4, none⟩ = some y4) ∧
    (w.frozen? ⟨g, k * 5, none⟩ = false ∧ w.frozen? ⟨g, k * 5 + 1, none⟩ = false ∧ w.frozen? ⟨g, k * 5 + 2, none⟩ = false ∧ w.frozen? ⟨g, k * 5 + 3, none⟩ = false ∧ w.frozen? ⟨g, k * 5 + 4, none⟩ = false) := by
  obtain ⟨y0, e0⟩ := own_some h (j := k * 5) (by omega)
  obtain ⟨y1, e1⟩ := own_some h (j := k * 5 + 1) (by omega)
  obtain ⟨y2, e2⟩ := own_some h (j := k * 5 + 2) (by omega)
  obtain ⟨y3, e3⟩ := own_some h (j := k * 5 + 3) (by omega)
  obtain ⟨y4, e4⟩ := own_some h (j := k * 5 + 4) (by omega)
  exact ⟨⟨y0, y1, y2, y3, y4, e0, e1, e2, e3, e4⟩, h.frozenAt _, h.frozenAt _, h.frozenAt _, h.frozenAt _, h.frozenAt _⟩
theorem take_set5 {cs ds : List Value} {k n : Nat} {v0 v1 v2 v3 v4 : Value} (hl : cs.length = n * 5) (hk : k < n) (h : cs.take (k * 5) = ds) :
    (((((cs.set (k * 5) v0).set (k * 5 + 1) v1).set (k * 5 + 2) v2).set (k * 5 + 3) v3).set (k * 5 + 4) v4).take ((k + 1) * 5) = ds ++ [v0, v1, v2, v3, v4] := by
  rw [show (k + 1) * 5 = k * 5 + 4 + 1 from by omega, take_set_last (by simp; omega), take_set_last (by simp; omega), take_set_last (by simp; omega), take_set_last (by simp; omega), take_set_last (by omega), h]
  simp
theorem take_allG {α : Type} {p : α → Prop} {ss : List α} {k : Nat} (hk : k < ss.length) (h : ∀ s ∈ ss.take k, p s) (h1 : p ss[k]) : ∀ s ∈ ss.take (k + 1), p s := by
  intro s hs
  rw [List.take_succ_eq_append_getElem hk] at hs
  rcases List.mem_append.1 hs with hs | hs
  · exact h s hs
  · rw [List.mem_singleton.1 hs]; exact h1
def recB (x : Rc) : Bool := decide (0 ≤ x.day ∧ x.day ≤ 99999) && (wordB x.meth.data.toList && (touchB x.touch.data.toList && (decide (1 ≤ x.rows ∧ x.rows ≤ 800) && noteB x.note.data.toList)))
set_option maxHeartbeats 1000000 in
theorem implGoodRecord_any (x : Rc) (w : World) (hs : RcFit x) : Calls Try.prog 32 #[x.v] w fun e w' => e = .returned (.bool (recB x)) ∧ Below w.heap.size w w' := by
  unfold Rc.v
  have hW := Lib.hid (fun w => isWord_any x.meth w hs.1)
  have hT := Lib.hid (fun w => GoodTouch_any x.touch w hs.2.1)
  have hN := Lib.hid (fun w => isNote_any x.note w hs.2.2)
  obtain ⟨b0, e0⟩ : ∃ b, b = decide (0 ≤ x.day ∧ x.day ≤ 99999) := ⟨_, rfl⟩
  obtain ⟨b1, e1⟩ : ∃ b, b = wordB x.meth.data.toList := ⟨_, rfl⟩
  obtain ⟨b2, e2⟩ : ∃ b, b = touchB x.touch.data.toList := ⟨_, rfl⟩
  obtain ⟨b3, e3⟩ : ∃ b, b = decide (1 ≤ x.rows ∧ x.rows ≤ 800) := ⟨_, rfl⟩
  obtain ⟨b4, e4⟩ : ∃ b, b = noteB x.note.data.toList := ⟨_, rfl⟩
  have hq : recB x = (b0 && (b1 && (b2 && (b3 && b4)))) := by rw [e0, e1, e2, e3, e4]; rfl
  rw [hq]
  rw [← e1] at hW
  rw [← e2] at hT
  rw [← e4] at hN
  have E0 := Lib.hid e0
  have E3 := Lib.hid e3
  clear hq e0 e1 e2 e3 e4
  go_enter Try.func32, Try.ntmps32
  cases b0 <;> cases b1 <;> cases b2 <;> cases b3
  all_goals
    go_wp2_with (first
      | (go_at_call 56; refine (hW.out _).mono ?_; rintro e w' ⟨rfl, rfl⟩)
      | (go_at_call 43; refine (hT.out _).mono ?_; rintro e w' ⟨rfl, rfl⟩)
      | (go_at_call 57; refine (hN.out _).mono ?_; rintro e w' ⟨rfl, rfl⟩)
      | (go_at_call 55; refine (within_any _ _ _ _).mono ?_; rintro e w' ⟨rfl, rfl⟩; first | rw [← E0.out] | rw [← E3.out]))
    go_ret
    exact ⟨rfl, bw_al (Below.refl _ _) _⟩
set_option maxHeartbeats 1000000 in
theorem l28Good_any (x : Rc) (w : World) (hs : RcFit x) : Calls Try.prog 28 #[x.v] w fun e w' => e = .returned (.bool (recB x)) ∧ Below w.heap.size w w' := by
  unfold Rc.v
  have hW := Lib.hid (fun w => l4Name_any x.meth w hs.1)
  have hT := Lib.hid (fun w => l9Good_any x.touch w hs.2.1)
  have hN := Lib.hid (fun w => l28Note_any x.note w hs.2.2)
  obtain ⟨b0, e0⟩ : ∃ b, b = decide (0 ≤ x.day ∧ x.day ≤ 99999) := ⟨_, rfl⟩
  obtain ⟨b1, e1⟩ : ∃ b, b = wordB x.meth.data.toList := ⟨_, rfl⟩
  obtain ⟨b2, e2⟩ : ∃ b, b = touchB x.touch.data.toList := ⟨_, rfl⟩
  obtain ⟨b3, e3⟩ : ∃ b, b = decide (1 ≤ x.rows ∧ x.rows ≤ 800) := ⟨_, rfl⟩
  obtain ⟨b4, e4⟩ : ∃ b, b = noteB x.note.data.toList := ⟨_, rfl⟩
  have hq : recB x = (b0 && (b1 && (b2 && (b3 && b4)))) := by rw [e0, e1, e2, e3, e4]; rfl
  rw [hq]
  rw [← e1] at hW
  rw [← e2] at hT
  rw [← e4] at hN
  have E0 := Lib.hid e0
  have E3 := Lib.hid e3
  clear hq e0 e1 e2 e3 e4
  go_enter Try.func28, Try.ntmps28
  cases b0 <;> cases b1 <;> cases b2 <;> cases b3
  all_goals
    go_wp2_with (first
      | (go_at_call 53; refine (hW.out _).mono ?_; rintro e w' ⟨rfl, rfl⟩)
      | (go_at_call 47; refine (hT.out _).mono ?_; rintro e w' ⟨rfl, rfl⟩)
      | (go_at_call 54; refine (hN.out _).mono ?_; rintro e w' ⟨rfl, rfl⟩)
      | (go_at_call 51; refine (l1In_any _ _ _ _).mono ?_; rintro e w' ⟨rfl, rfl⟩; first | rw [← E0.out] | rw [← E3.out]))
    go_ret
    exact ⟨rfl, bw_al (Below.refl _ _) _⟩
theorem szRecord_any (x : Rc) (k : Int) (w : World) (hs : RcFit x) (h0 : 0 ≤ k) (h1 : k ≤ 1048576) : Calls Try.prog 7 #[x.v, .int .i64 k] w fun e w' =>
    ∃ r : Int, e = .returned (.int .i64 r) ∧ -1 ≤ r ∧ r ≤ 1048576 ∧ (0 ≤ r → RcSmall x) ∧ Below w.heap.size w w' := by
  unfold Rc.v
  obtain ⟨z1, z2, z3⟩ := hs
  unfold maxLen at z1 z2 z3
  go_enter Try.func7, Try.ntmps7
  go_wp2
  · go_ret
    exact ⟨_, rfl, by omega, by omega, fun h => absurd h (by omega), bw_al (Below.refl _ _) _⟩
  · go_ret
    exact ⟨_, rfl, by omega, by omega, fun h => absurd h (by omega), bw_al (Below.refl _ _) _⟩
  · go_ret
    exact ⟨_, rfl, by omega, by omega, fun h => absurd h (by omega), bw_al (Below.refl _ _) _⟩
  · go_ret
    exact ⟨_, rfl, by omega, by omega, fun h => ⟨by omega, by omega, by omega⟩, bw_al (Below.refl _ _) _⟩
theorem toRecord_any (x : Rc) (w : World) : Calls Try.prog 10 #[x.v] w fun e w' => e = .returned x.v ∧ Below w.heap.size w w' := by
  unfold Rc.v
  go_enter Try.func10, Try.ntmps10
  go_wp2
  refine bodyPost_ret (v := .agg #[.int .i64 x.day, .string x.meth, .string x.touch, .int .i64 x.rows, .string x.note]) (by simp [results, go_sem]) rfl ⟨rfl, ?_⟩
  exact bw_al (bw_al (bw_al (Below.refl _ _) _) _) _
theorem eqRecord_same (x : Rc) (w : World) : Calls Try.prog 34 #[x.v, x.v] w fun e w' => e = .returned (.bool true) ∧ Below w.heap.size w w' := by
  unfold Rc.v
  go_enter Try.func34, Try.ntmps34
  go_wp2
  go_ret
  exact ⟨rfl, bw_al (bw_al (Below.refl _ _) _) _⟩
theorem szRecordS_any (v : Value) (xs : List Rc) (k0 : Int) (w : World) (h : Recs w v xs) (hf : ∀ x ∈ xs, RcFit x) (h0 : 0 ≤ k0) (hk0 : k0 ≤ 1048576) : Calls Try.prog 6 #[v, .int .i64 k0] w fun e w' =>
    ∃ r : Int, e = .returned (.int .i64 r) ∧ -1 ≤ r ∧ r ≤ 1048576 ∧ (0 ≤ r → RcsSmall xs) ∧ Below w.heap.size w w' := by
  obtain ⟨A, c, rfl, h1, h2, hr⟩ := h
  unfold maxLen at h2
  have Hf := Lib.hid hf
  clear hf
  by_cases hbig : (xs.length : Int) ≤ k0
  · go_enter Try.func6, Try.ntmps6
    go_wp2_with fail
    go_loopw [1, 5] (fun l i wr => ∃ k : Nat, ∃ r : Int, k ≤ xs.length ∧ i = .int .i64 k ∧ l = .int .i64 r ∧ 0 ≤ r ∧ r ≤ 1048576 ∧ (∀ s ∈ xs.take k, RcSmall s) ∧ Below w.heap.size w wr) (fun _ i _ => xs.length - (intOf i).toNat)
    case atStart => exact ⟨0, k0 - xs.length, by omega, rfl, rfl, by omega, by omega, by simp, Below.refl _ _⟩
    case round =>
      obtain ⟨k, r, hk, rfl, rfl, hr0, hr1, hs, hB⟩ := hrel
      have Hs := Lib.hid hs
      clear hs
      by_cases hlt : k < xs.length
      · obtain ⟨ad, rfl, hC⟩ := recs_el hr rfl hlt
        go_wp2_with fail
        refine (szRecord_any xs[k] _ _ (Hf.out _ (List.getElem_mem hlt)) hr0 hr1).mono ?_; rintro e w1 ⟨r', rfl, hr0', hr1', hsm, hb1⟩
        have Hsm := Lib.hid hsm
        clear hsm
        go_wp2_with fail
        · go_ret
          exact ⟨_, rfl, by omega, by omega, fun h => absurd h (by omega), bw_to hB hb1⟩
        · refine ⟨⟨k + 1, _, by omega, by go_num, rfl, by assumption, by omega, take_allG hlt Hs.out (Hsm.out (by omega)), bw_to hB hb1⟩, by simp [intOf]; omega⟩
      · go_wp2_with fail
        go_ret
        obtain rfl : k = xs.length := by omega
        refine ⟨_, rfl, by omega, by omega, fun _ => ⟨by omega, ?_⟩, hB⟩
        have := Hs.out
        rwa [List.take_length] at this
  · go_enter Try.func6, Try.ntmps6
    go_wp2_with fail
    go_ret
    exact ⟨_, rfl, by omega, by omega, fun h => absurd h (by omega), Below.refl _ _⟩
theorem info_implRecord : (Try.prog.info? 31).map (fun i => (i.zero, i.size, i.bytes)) = some (some (.agg #[.int .i64 0, .string ⟨#[]⟩, .string ⟨#[]⟩, .int .i64 0, .string ⟨#[]⟩]), 5, 64) := by kernel_rfl
theorem toRecordS_any (v : Value) (xs : List Rc) (w : World) (h : Recs w v xs) (hbig : xs.length ≤ 1048576) : Calls Try.prog 9 #[v] w fun e w' =>
    ∃ r : Value, e = .returned r ∧ w'.ownsRow w.heap.size 31 5 r xs.length (xs.flatMap Rc.cells) ∧ Below w.heap.size w w' := by
  obtain ⟨A, c, rfl, h1, h2, hr⟩ := h
  unfold maxLen at h2
  obtain ⟨i0, hi0, hz0, hs0, hb0⟩ := info_parts info_implRecord
  go_enter Try.func9, Try.ntmps9
  go_wp2_with (at_make; refine wpList_make_full _ rfl _ _ _ rfl w.heap.size 31 i0 _ 5 Try.underlying27 hi0 hz0 hs0 _ _ _ _ xs.length rfl rfl rfl rfl (by rw [hb0]; omega) (by unfold maxLen; omega) (Nat.le_refl _) ?_; intro w1 hown1 hgr1)
  have hB1 := bw_gr (Below.refl _ _) hgr1
  go_loopw [4] (fun i wr => ∃ k : Nat, k ≤ xs.length ∧ i = .int .i64 k ∧ Below w.heap.size w wr ∧ ∃ cs : List Value, wr.ownsRow w.heap.size 31 5 (.slice (some ⟨w.heap.size, 0, none⟩) xs.length xs.length) xs.length cs ∧ cs.take (k * 5) = (xs.take k).flatMap Rc.cells)
    (fun i _ => xs.length - (intOf i).toNat)
  case atStart => exact ⟨0, by omega, rfl, hB1, _, hown1, by simp⟩
  case round =>
    obtain ⟨k, hk, rfl, hB, cs, hown, hcs⟩ := hrel
    have Hcs := Lib.hid hcs
    clear hcs
    by_cases hlt : k < xs.length
    · obtain ⟨ad, rfl, hC⟩ := recs_el hr rfl hlt
      go_wp2_with fail
      refine (toRecord_any xs[k] _).mono ?_; rintro e w2 ⟨rfl, hb2⟩
      unfold Rc.v
      have hown2 := own_to hown hb2
      obtain ⟨⟨y0, y1, y2, y3, y4, hy⟩, hf⟩ := own5 hown2 hlt
      go_wp2_with fail
      refine ⟨⟨k + 1, by omega, by go_num, ?_, _, own_set (own_set (own_set (own_set (own_set hown2 _ _) _ _) _ _) _ _) _ _, ?_⟩, by simp [intOf]; omega⟩
      · exact grow_set (grow_set (grow_set (grow_set (grow_set (bw_to hB hb2) (Nat.le_refl _) _) (Nat.le_refl _) _) (Nat.le_refl _) _) (Nat.le_refl _) _) (Nat.le_refl _) _
      · rw [take_set5 hown.1 hlt Hcs.out, flat_take hlt]; rfl
    · go_wp2_with fail
      go_ret
      obtain rfl : k = xs.length := by omega
      refine ⟨_, rfl, ?_, hB⟩
      have hcs := Hcs.out
      rw [List.take_of_length_le (by rw [hown.1]; exact Nat.le_refl _), List.take_length] at hcs
      rw [← hcs]
      exact hown
theorem eqRecordS_same (a b : Value) (xs : List Rc) (w : World) (ha : Recs w a xs) (hb : Recs w b xs) : Calls Try.prog 12 #[a, b] w fun e w' => e = .returned (.bool true) ∧ Below w.heap.size w w' := by
  obtain ⟨A, c, rfl, h1, h2, hr⟩ := ha
  obtain ⟨A', c', rfl, h1', h2', hr'⟩ := hb
  unfold maxLen at h2 h2'
  go_enter Try.func12, Try.ntmps12
  go_wp2_with fail
  go_loopw [5] (fun i wr => ∃ k : Nat, k ≤ xs.length ∧ i = .int .i64 k ∧ Below w.heap.size w wr) (fun i _ => xs.length - (intOf i).toNat)
  case atStart => exact ⟨0, by omega, rfl, Below.refl _ _⟩
  case round =>
    obtain ⟨k, hk, rfl, hB⟩ := hrel
    by_cases hlt : k < xs.length
    · obtain ⟨ad, rfl, hC⟩ := recs_el hr rfl hlt
      obtain ⟨ad', rfl, hC'⟩ := recs_el hr' rfl hlt
      have Hx := Lib.hid (fun w => eqRecord_same xs[k] w)
      unfold Rc.v at Hx
      go_wp2_with fail
      go_region_held3 (fun w' => Below w.heap.size w w') (first | exact Below.drew (by assumption) | exact bw_to (by assumption) hb')
        (first | (go_at_call 34; refine (Hx.out _).mono ?_; rintro e w' ⟨rfl, hb'⟩))
      go_wp2_with fail
      exact ⟨⟨k + 1, by omega, by go_num, by assumption⟩, by simp [intOf]; omega⟩
    · go_wp2_with fail
      go_ret
      exact ⟨rfl, hB⟩
end Go.Proofs.Ytamneiffhohleaa
