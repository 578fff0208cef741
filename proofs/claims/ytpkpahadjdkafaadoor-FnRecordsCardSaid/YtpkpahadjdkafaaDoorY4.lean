/- ReadRecord of the reference; the law ReadRecord, walked. -/
import Derived.Test.YtpkpahadjdkafaaDoorY3
namespace Go.Proofs.YtpkpahadjdkafaaDoor
open Go Go.RowKit
set_option linter.unusedVariables false
set_option linter.unusedSimpArgs false

/-- The library's own bound for short texts: some number. -/
def MaxOk (w : World) : Prop := ∀ w', Below w.heap.size w w' → ∃ m, w'.cell? ⟨0, 0, none⟩ = some (.int .i64 m)
theorem MaxOk.to {w w' : World} (h : MaxOk w) (hb : Below w.heap.size w w') : MaxOk w' := fun W hW => h W (bw_to hb hW)
set_option maxRecDepth 10000 in
set_option maxHeartbeats 1000000 in
theorem specReadRecord_any (s : ByteArray) (w : World) (hs : s.size ≤ 1048576) : Calls Tryd.prog 6 #[.string s] w (ReadPost w s) := by
  have Hr := Lib.hid (fun W => l28Read_any s W hs)
  unfold ReadPost
  obtain ⟨o, ho⟩ : ∃ o, o = readO s := ⟨_, rfl⟩
  rw [← ho] at Hr ⊢
  clear ho
  go_enter Tryd.func6, Tryd.ntmps6
  go_wp2_with fail
  refine box1 (C := fun W => Calls _ _ _ W _) ?_
  intro wb hw k1 hB0
  have KR := Lib.hid (rc_rowY k1)
  clear k1
  refine (Hr.out wb).mono ?_; rintro e w1 ⟨r, rfl, hr, hb1⟩
  have Hrr := Lib.hid hr
  unfold Rc.v
  have hwl := KR.out.lt w.heap.size rfl
  have hn1 : w.heap.size ≠ w1.heap.size := by have := hb1.size; omega
  have hn2 : w1.heap.size ≠ w.heap.size := fun e => hn1 e.symm
  obtain ⟨⟨r0, r1, r2, r3, r4⟩, fr⟩ := rc_cellsY (own_to KR.out hb1)
  have hlt1 : w.heap.size < w1.heap.size := by have := hb1.size; omega
  have hend : ∀ o u0 u1 u2 u3 u4, Below w.heap.size w ((((((w1.setCell ⟨w.heap.size, 0, none⟩ u0).setCell ⟨w.heap.size, 1, none⟩ u1).setCell ⟨w.heap.size, 2, none⟩ u2).setCell ⟨w.heap.size, 3, none⟩ u3).setCell ⟨w.heap.size, 4, none⟩ u4).alloc o) := fun o _ _ _ _ _ =>
    bw_al (grow_set (grow_set (grow_set (grow_set (grow_set (bw_to hw hb1) (Nat.le_refl _) _) (Nat.le_refl _) _) (Nat.le_refl _) _) (Nat.le_refl _) _) (Nat.le_refl _) _) o
  have Hend := Lib.hid hend
  clear hend hr
  cases o with
  | none =>
    go_wp2_with fail
    refine bodyPost_ret (v := .tuple #[.agg #[.int .i64 0, .string ⟨#[]⟩, .string ⟨#[]⟩, .int .i64 0, .string ⟨#[]⟩], .bool false]) (by simp [results, go_sem, r0, r1, r2, r3, r4, hlt1]) rfl ⟨?_, ?_⟩
    · rfl
    · exact Hend.out _ _ _ _ _ _
  | some y =>
    obtain rfl := Hrr.out y rfl
    go_wp2_with fail
    refine bodyPost_ret (v := .tuple #[.agg #[.int .i64 r.day, .string r.meth, .string r.touch, .int .i64 r.rows, .string r.note], .bool true]) (by simp [results, go_sem, r0, r1, r2, r3, r4, hlt1]) rfl ⟨?_, ?_⟩
    · rfl
    · exact Hend.out _ _ _ _ _ _
set_option maxRecDepth 10000 in
set_option maxHeartbeats 1000000 in
theorem lawReadRecord_any (s : ByteArray) (w : World) (hs : s.size ≤ maxLen) (ht : Tab10 w) (hm : MaxOk w) : Calls Tryd.prog 3 #[.string s] w fun e w' => e = .returned (.bool true) ∧ Below w.heap.size w w' := by
  unfold maxLen at hs
  by_cases hbig : 1048576 < s.size
  · have hbz : (1048576 : Int) < s.size := by omega
    clear ht hm
    go_enter Tryd.func3, Tryd.ntmps3
    go_wp2_with fail
    go_ret
    exact ⟨rfl, Below.refl _ _⟩
  · have hs2 : s.size ≤ 1048576 := by omega
    have hbz : (s.size : Int) ≤ 1048576 := by omega
    have Hsp := Lib.hid (fun W => specReadRecord_any s W hs2)
    have Him := Lib.hid (fun W (hW : Below w.heap.size w W) => implReadRecord_any s W hs2 (ht.to hW) (hm.to hW))
    unfold ReadPost at Hsp Him
    obtain ⟨y, hy⟩ : ∃ y, y = (readO s).getD rz := ⟨_, rfl⟩
    obtain ⟨b, hb⟩ : ∃ b, b = (readO s).isSome := ⟨_, rfl⟩
    rw [← hy, ← hb] at Hsp Him
    have He := Lib.hid (fun W => eqRecord_same y W)
    unfold Rc.v at *
    clear ht hm hy hb
    go_enter Tryd.func3, Tryd.ntmps3
    go_wp2_with fail
    refine (Hsp.out w).mono ?_; rintro e w1 ⟨rfl, hb1⟩
    have hA1 := bw_al hb1 (.cells #[.int .i64 y.day, .string y.meth, .string y.touch, .int .i64 y.rows, .string y.note] 23)
    have K1 := Lib.hid (rc_rowY (heap_new w1 (.cells #[.int .i64 y.day, .string y.meth, .string y.touch, .int .i64 y.rows, .string y.note] 23)))
    go_wp2_with fail
    refine (Him.out _ hA1).mono ?_; rintro e w2 ⟨rfl, hb2⟩
    have K2 := own_to K1.out hb2
    obtain ⟨⟨r0, r1, r2, r3, r4⟩, fr⟩ := rc_cellsY K2
    have hlt1 : w1.heap.size < w2.heap.size := (K2.lt _ rfl).2
    have hB2 := bw_to hA1 hb2
    clear K2 hA1 hb1 hb2
    go_wp2_with fail
    refine (He.out _).mono ?_; rintro e w3 ⟨rfl, hb3⟩
    go_wp2_with fail
    go_ret
    exact ⟨rfl, bw_to (bw_al hB2 _) hb3⟩
end Go.Proofs.YtpkpahadjdkafaaDoor
