/- Contract: BestMatch, both. -/
import Derived.Test.YtimeecimaokldaaEK
namespace Go.Proofs.Ytimeecimaokldaa
open Go Go.RowKit
set_option linter.unusedVariables false
set_option linter.unusedSimpArgs false

/-- What BestMatch answers. -/
def BMPost (w : World) (a b : List Int) (s : Int) (e : Ending) (w' : World) : Prop :=
  (GoodM a b s ∧ ∃ (A : Option Addr) (c : Nat), e = .returned (.tuple #[.agg #[.slice A a.length c, .int .i64 (prL s a b)], .bool true]) ∧ w'.ownsRow w.heap.size 3 1 (.slice A a.length c) a.length ((matL s a b 0).map (Value.int .i64)) ∧ Below w.heap.size w w') ∨
  (¬ GoodM a b s ∧ e = .returned (.tuple #[.agg #[.slice none 0 0, .int .i64 0], .bool false]) ∧ Below w.heap.size w w')
set_option maxRecDepth 20000 in
set_option maxHeartbeats 2000000 in
theorem BestMatch_any (u v : Value) (a b : List Int) (s : Int) (w : World) (hu : Ints w u a) (hv : Ints w v b) : Calls Try.prog 37 #[u, v, .int .i64 s] w (BMPost w a b s) := by
  have Hg := Lib.hid (fun W (hW : Below w.heap.size w W) => goodMatching_iff u v a b s W (hu.to hW) (hv.to hW))
  have Hb := Lib.hid (fun W (hW : Below w.heap.size w W) (h : GoodM a b s) => bestMatch_any u v a b s W (hu.to hW) (hv.to hW) h)
  obtain ⟨A1, c1, rfl, _⟩ := hu
  obtain ⟨A2, c2, rfl, _⟩ := hv
  go_enter Try.func37, Try.ntmps37
  go_wp2_with fail
  refine box1 (C := fun W => Calls _ _ _ W _) ?_
  intro wb hwb k1 hB0
  obtain ⟨tm, hX⟩ : ∃ t, Bx wb w.heap.size (.slice none 0 0) (.int .i64 0) t := ⟨_, k1⟩
  have hz : w.heap.size < wb.heap.size := blkE k1
  clear k1 hB0
  refine (Hg.out _ hwb).mono ?_; rintro e w1 ⟨b1, rfl, hi1, hb1⟩
  have Hi1 := Lib.hid hi1
  have hX1 := hX.to hb1 hz
  have hb11 := bw_to hwb hb1
  have hz1 := hb1.size
  clear hi1 hX
  cases b1
  · have HN : Hid (¬ GoodM a b s) := Lib.hid (fun h => by have := Hi1.out.2 h; cases this)
    obtain ⟨⟨x0, x1⟩, f0, f1⟩ := hX1.facts
    have e0 := Lib.hid (hX1.set0 (.slice none 0 0)).facts.1.1
    have e1 := Lib.hid ((hX1.set0 (.slice none 0 0)).set1 (.int .i64 0)).facts.1.2
    have HB := Lib.hid hb11
    clear hX1 hb11
    go_wp2_with fail
    refine bodyPost_ret (v := .tuple #[.agg #[.slice none 0 0, .int .i64 0], .bool false]) (by simp [results, go_sem, e0.out, e1.out]) rfl (.inr ⟨HN.out, rfl, grow_set (grow_set HB.out (Nat.le_refl _) _) (Nat.le_refl _) _⟩)
  · have HY : GoodM a b s := Hi1.out.1 (by trivial)
    have Hb' := Lib.hid (Hb.out _ hb11 HY)
    have HG := Lib.hid HY
    clear Hb HY
    go_wp2_with fail
    refine Hb'.out.mono ?_; rintro e w2 ⟨A, c, rfl, hown, hb2⟩
    have hX2 := hX1.to hb2 (by omega)
    obtain ⟨⟨x0, x1⟩, f0, f1⟩ := hX2.facts
    have e0 := Lib.hid (hX2.set0 (.slice A a.length c)).facts.1.1
    have e1 := Lib.hid ((hX2.set0 (.slice A a.length c)).set1 (.int .i64 (prL s a b))).facts.1.2
    have HB := Lib.hid (bw_to hb11 hb2)
    have Hown := Lib.hid hown
    clear hX2 hX1 hb11 hb2 hown
    go_wp2_with fail
    refine bodyPost_ret (v := .tuple #[.agg #[.slice A a.length c, .int .i64 (prL s a b)], .bool true]) (by simp [results, go_sem, e0.out, e1.out]) rfl (.inl ⟨HG.out, A, c, rfl, ?_, grow_set (grow_set HB.out (Nat.le_refl _) _) (Nat.le_refl _) _⟩)
    refine own_base (own_over Hown.out fun g' hg' => ?_) (by omega : w.heap.size ≤ w1.heap.size)
    rw [set_other (by omega), set_other (by omega)]
set_option maxRecDepth 20000 in
set_option maxHeartbeats 2000000 in
theorem specBestMatch_any (u v : Value) (a b : List Int) (s : Int) (w : World) (hu : Ints w u a) (hv : Ints w v b) : Calls Try.prog 30 #[u, v, .int .i64 s] w (BMPost w a b s) := by
  have Hg := Lib.hid (fun W (hW : Below w.heap.size w W) => l22Asked_iff u v a b s W (hu.to hW) (hv.to hW))
  have Hb := Lib.hid (fun W (hW : Below w.heap.size w W) (h : GoodM a b s) => l22Best_any u v a b s W (hu.to hW) (hv.to hW) h)
  obtain ⟨A1, c1, rfl, _⟩ := hu
  obtain ⟨A2, c2, rfl, _⟩ := hv
  go_enter Try.func30, Try.ntmps30
  go_wp2_with fail
  refine box1 (C := fun W => Calls _ _ _ W _) ?_
  intro wb hwb k1 hB0
  obtain ⟨tm, hX⟩ : ∃ t, Bx wb w.heap.size (.slice none 0 0) (.int .i64 0) t := ⟨_, k1⟩
  have hz : w.heap.size < wb.heap.size := blkE k1
  clear k1 hB0
  refine (Hg.out _ hwb).mono ?_; rintro e w1 ⟨b1, rfl, hi1, hb1⟩
  have Hi1 := Lib.hid hi1
  have hX1 := hX.to hb1 hz
  have hb11 := bw_to hwb hb1
  have hz1 := hb1.size
  clear hi1 hX
  cases b1
  · have HN : Hid (¬ GoodM a b s) := Lib.hid (fun h => by have := Hi1.out.2 h; cases this)
    obtain ⟨⟨x0, x1⟩, f0, f1⟩ := hX1.facts
    have e0 := Lib.hid (hX1.set0 (.slice none 0 0)).facts.1.1
    have e1 := Lib.hid ((hX1.set0 (.slice none 0 0)).set1 (.int .i64 0)).facts.1.2
    have HB := Lib.hid hb11
    clear hX1 hb11
    go_wp2_with fail
    refine bodyPost_ret (v := .tuple #[.agg #[.slice none 0 0, .int .i64 0], .bool false]) (by simp [results, go_sem, e0.out, e1.out]) rfl (.inr ⟨HN.out, rfl, grow_set (grow_set HB.out (Nat.le_refl _) _) (Nat.le_refl _) _⟩)
  · have HY : GoodM a b s := Hi1.out.1 (by trivial)
    have Hb' := Lib.hid (Hb.out _ hb11 HY)
    have HG := Lib.hid HY
    clear Hb HY
    go_wp2_with fail
    refine Hb'.out.mono ?_; rintro e w2 ⟨A, c, rfl, hown, hb2⟩
    have hX2 := hX1.to hb2 (by omega)
    obtain ⟨⟨x0, x1⟩, f0, f1⟩ := hX2.facts
    have e0 := Lib.hid (hX2.set0 (.slice A a.length c)).facts.1.1
    have e1 := Lib.hid ((hX2.set0 (.slice A a.length c)).set1 (.int .i64 (prL s a b))).facts.1.2
    have HB := Lib.hid (bw_to hb11 hb2)
    have Hown := Lib.hid hown
    clear hX2 hX1 hb11 hb2 hown
    go_wp2_with fail
    refine bodyPost_ret (v := .tuple #[.agg #[.slice A a.length c, .int .i64 (prL s a b)], .bool true]) (by simp [results, go_sem, e0.out, e1.out]) rfl (.inl ⟨HG.out, A, c, rfl, ?_, grow_set (grow_set HB.out (Nat.le_refl _) _) (Nat.le_refl _) _⟩)
    refine own_base (own_over Hown.out fun g' hg' => ?_) (by omega : w.heap.size ≤ w1.heap.size)
    rw [set_other (by omega), set_other (by omega)]
end Go.Proofs.Ytimeecimaokldaa
