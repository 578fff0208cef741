/- Contracts: a method with other changes; a method's copy of the reference. -/
import Derived.Test.YtnbehldacehiiaaT5
namespace Go.Proofs.Ytnbehldacehiiaa
open Go Go.RowKit
set_option linter.unusedVariables false
set_option linter.unusedSimpArgs false

set_option maxHeartbeats 1000000 in
theorem withChanges_any (m : Mt) (v : Value) (A : Option Addr) (n c : Nat) (w : World) : Calls Try.prog 56 #[m.v v, .slice A n c] w fun e w' => e = .returned (m.v (.slice A n c)) ∧ Below w.heap.size w w' := by
  unfold Mt.v
  go_enter Try.func56, Try.ntmps56
  go_wp2
  refine bodyPost_ret (v := .agg #[.string m.name, .int .i64 m.stage, .slice A n c]) (by simp [results, go_sem]) rfl ⟨rfl, ?_⟩
  exact bw_al (bw_al (Below.refl _ _) _) _
theorem blk_lt {w : World} {g : Nat} {o : Obj} (h : w.heap[g]? = some o) : g < w.heap.size := by
  rcases Nat.lt_or_ge g w.heap.size with hlt | hge
  · exact hlt
  · rw [Array.getElem?_eq_none hge] at h; cases h
theorem boxRuleB {wb : World} {g B : Nat} {cs : Array Value} {t : TypeId} (h : wb.heap[g]? = some (.cells cs t (0, 0))) (hB : g < B) : ∀ (w' : World) (i : Nat), Below B wb w' → w'.cell? ⟨g, i, none⟩ = cs[i]? := by
  intro w' i hb
  exact cell_of_row w' g i cs t (0, 0) ((hb.block g hB).trans h)
theorem set3_low {a w : World} {B g : Nat} {p q r : Nat} {x y z : Value} (h : Below B a w) (hg : B ≤ g) : Below B a (((w.setCell ⟨g, p, none⟩ x).setCell ⟨g, q, none⟩ y).setCell ⟨g, r, none⟩ z) :=
  ((h.setCell (p := ⟨g, p, none⟩) hg x).setCell (p := ⟨g, q, none⟩) hg y).setCell (p := ⟨g, r, none⟩) hg z
set_option maxHeartbeats 1000000 in
theorem l4Own_any (m : Mt) (v : Value) (w : World) (h : Strs w v m.l) (hn : NilOk v) (hlen : m.l.length ≤ 10000000) : Calls Try.prog 64 #[m.v v] w fun e w' =>
    ∃ r : Value, e = .returned (m.v r) ∧ w'.ownsRow w.heap.size 9 1 r m.l.length (m.l.map Value.string) ∧ Below w.heap.size w w' := by
  unfold Mt.v
  go_enter Try.func64, Try.ntmps64
  go_wp2_with fail
  refine box2 (C := fun W => Code.wp _ _ _ _ W) ?_
  intro wb hw k1 k2 hB0
  have R1 := boxRule k1
  have R2 := boxRule k2
  have hds : ∀ w', Below wb.drew.heap.size wb.drew w' → Below wb.heap.size wb w' := fun w' hb => bw_to (Below.drew (Below.refl _ _)) hb
  have F2 := fun (j : Nat) w' hb => frozen_of_heap k2 j (w' := w') hb
  have Hh := Lib.hid h
  have hdr : Below wb.heap.size wb wb.drew := Below.drew (Below.refl _ _)
  have hlt2 : w.heap.size + 1 < wb.heap.size := blk_lt k2
  have R1' := fun w' i hb => boxRuleB k1 (Nat.lt_succ_self _) w' i hb
  have Hs := Lib.hid (Nat.le_of_lt hlt2)
  have hst := Below.refl (w.heap.size + 1) wb
  clear k1 k2 h R1
  go_region_held3 (fun w' => Below (w.heap.size + 1) wb w') (first | exact Below.drew (by assumption) | exact (hds _ hb').mono Hs.out | exact set3_low (by assumption) (Nat.le_refl _))
    (first | (go_at_call 92; refine (l1OwnS_any v m.l _ (Hh.out.to (bw_to hw hdr)) hn hlen).mono ?_; rintro e w' ⟨r, rfl, hown, hb'⟩; (obtain ⟨A, c, hrs, _⟩ := sl_of_own hown); subst hrs; (have hBn := hds _ hb'); (have c0 := R2 w' 0 hBn); (have c1 := R2 w' 1 hBn); (have c2 := R2 w' 2 hBn); (have f0 := F2 0 w' hBn); (have f1 := F2 1 w' hBn); (have f2 := F2 2 w' hBn)))
  go_wp2_with fail
  refine bodyPost_ret (v := .agg #[.string m.name, .int .i64 m.stage, .slice A m.l.length c]) ?hr rfl ⟨_, rfl, ?ho, ?hb⟩
  case ho => exact own_base (own_past (own_past (own_past hown hlt2 _ _) hlt2 _ _) hlt2 _ _) hw.size
  case hb => exact grow_set (grow_set (grow_set (bw_to hw hBn) (Nat.le_succ _) _) (Nat.le_succ _) _) (Nat.le_succ _) _
  case hr => simp [results, go_sem, c0, c1, c2]
end Go.Proofs.Ytnbehldacehiiaa
