/- Contracts: a method with other changes; a method's copy of the reference. -/
import Derived.Test.YtpkpahadjdkafaaT5
namespace Go.Proofs.Ytpkpahadjdkafaa
open Go Go.RowKit
set_option linter.unusedVariables false
set_option linter.unusedSimpArgs false

set_option maxHeartbeats 1000000 in
theorem withChanges_any (m : Mt) (v : Value) (A : Option Addr) (n c : Nat) (w : World) : Calls Try.prog 63 #[m.v v, .slice A n c] w fun e w' => e = .returned (m.v (.slice A n c)) ∧ Below w.heap.size w w' := by
  unfold Mt.v
  go_enter Try.func63, Try.ntmps63
  go_wp2
  refine bodyPost_ret (v := .agg #[.string m.name, .int .i64 m.stage, .slice A n c]) (by simp [results, go_sem]) rfl ⟨rfl, ?_⟩
  exact bw_al (bw_al (Below.refl _ _) _) _
theorem blk_lt {w : World} {g : Nat} {o : Obj} (h : w.heap[g]? = some o) : g < w.heap.size := by
  rcases Nat.lt_or_ge g w.heap.size with hlt | hge
  · exact hlt
  · rw [Array.getElem?_eq_none hge] at h; cases h
theorem boxRuleB {wb : World} {g B : Nat} {cs : Array Value} {t : TypeId} (h : wb.heap[g]? = some (.cells cs t (0, 0))) (hB : g < B) : ∀ (w' : World) (i : Nat), Below B wb w' → w'.cell? ⟨g, i, none⟩ = cs[i]? := by
  intro w' i hb
  exact cell_of_row w' g i cs t (0, 0) ((hb.block g hB).trans h)
theorem set3_low {a w : World} {B g : Nat} {p q r : Nat} {x y z : Value} (h : Below B a w) (hg : B ≤ g) : Below B a (((w.setCell ⟨g, p, none⟩ x).setCell ⟨g, q, none⟩ y).setCell ⟨g, r, none⟩ z) :=
  ((h.setCell (p := ⟨g, p, none⟩) hg x).setCell (p := ⟨g, q, none⟩) hg y).setCell (p := ⟨g, r, none⟩) hg z
end Go.Proofs.Ytpkpahadjdkafaa
