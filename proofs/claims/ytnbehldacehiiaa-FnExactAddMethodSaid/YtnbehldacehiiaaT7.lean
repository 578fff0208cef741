/- Contracts: a method that begins with its change k; a method turned. -/
import Derived.Test.YtnbehldacehiiaaT6
namespace Go.Proofs.Ytnbehldacehiiaa
open Go Go.RowKit
set_option linter.unusedVariables false
set_option linter.unusedSimpArgs false

set_option maxRecDepth 100000 in
set_option maxHeartbeats 2000000 in
theorem l4Start_any (m : Mt) (ad : Addr) (c k : Nat) (w : World) (h : Strs w (.slice (some ad) m.l.length c) m.l) (hk : k < m.l.length) (hmax : m.l.length ≤ 1000000) : Calls Try.prog 70 #[m.v (.slice (some ad) m.l.length c), .int .i64 k] w fun e w' =>
    ∃ r : Value, e = .returned (m.v r) ∧ w'.ownsRow w.heap.size 9 1 r m.l.length ((m.l.drop k ++ m.l.take k).map Value.string) ∧ Below w.heap.size w w' := by
  have hfrom := strs_from h hk
  have hupto := strs_upto h hk
  have hc1 : m.l.length ≤ c := let ⟨_, _, e, h1, _⟩ := h; by cases e; exact h1
  have hc2 : c ≤ maxLen := let ⟨_, _, e, _, h2, _⟩ := h; by cases e; exact h2
  unfold maxLen at hc2
  unfold Mt.v
  have hkc : ¬ c = k := by omega
  have hk0 : (0 : Int) ≤ (k : Int) := by omega
  have hk1 : (k : Int) ≤ (m.l.length : Int) := by omega
  have hk2 : (k : Int) ≤ (c : Int) := by omega
  go_enter Try.func70, Try.ntmps70
  go_wp2_with fail
  refine box2 (C := fun W => Code.wp _ _ _ _ W) ?_
  intro wb hw k1 k2 hB0
  have R2 := boxRule k2
  have hds : ∀ w', Below wb.drew.heap.size wb.drew w' → Below wb.heap.size wb w' := fun w' hb => bw_to (Below.drew (Below.refl _ _)) hb
  have F2 := fun (j : Nat) w' hb => frozen_of_heap k2 j (w' := w') hb
  have hdr : Below wb.heap.size wb wb.drew := Below.drew (Below.refl _ _)
  have Hf := Lib.hid (hfrom.to (bw_to hw hdr))
  have Hu := Lib.hid (hupto.to (bw_to hw hdr))
  have hlt2 : w.heap.size + 1 < wb.heap.size := blk_lt k2
  have R1' := fun w' i hb => boxRuleB k1 (Nat.lt_succ_self _) w' i hb
  have Hs := Lib.hid (Nat.le_of_lt hlt2)
  have hst := Below.refl (w.heap.size + 1) wb
  have Hl : Hid (m.l.length - k ≤ 10000000) := Lib.hid (by omega)
  have Hn : Hid ((m.l.drop k).length + (m.l.take k).length = m.l.length) := Lib.hid (by simp; omega)
  clear k1 k2 h hfrom hupto
  go_region_held3 (fun w' => Below (w.heap.size + 1) wb w') (first | exact Below.drew (by assumption) | exact Below.mono (by assumption : Below wb.heap.size wb _) Hs.out | exact set3_low (by assumption) (Nat.le_refl _))
    (first | (go_at_call 92; refine (l1OwnS_any _ (m.l.drop k) _ (Hf.out) (nilok_some _ _ _) (by simpa using Hl.out)).mono ?_; rintro e w' ⟨r, rfl, hown, hb'⟩; (have hBn := hds _ hb')) | (refine step_app_sl _ (by rfl) _ _ _ (by rfl) wb.drew.heap.size 9 _ 1 16 Try.underlying32 info_str (by rfl) (by omega) hown (by rfl) (Hu.out.to hb') (nilok_some _ _ _) (by rfl) (strs_one _) (by omega) (by simp; omega) hb'.size m.l.length Hn.out ?_; intro A2 q2 w2 hown2 hb2 hg2; (have hBn := bw_tr hBn hb2 (Nat.le_refl _)); (have c0 := R2 w2 0 hBn); (have c1 := R2 w2 1 hBn); (have c2 := R2 w2 2 hBn); (have f0 := F2 0 w2 hBn); (have f1 := F2 1 w2 hBn); (have f2 := F2 2 w2 hBn)))
  go_wp2_with fail
  refine bodyPost_ret (v := .agg #[.string m.name, .int .i64 m.stage, .slice A2 m.l.length q2]) ?hr rfl ⟨_, rfl, ?ho, ?hb⟩
  case ho =>
    rw [List.map_append]
    exact own_base (own_past (own_past (own_past hown2 hlt2 _ _) hlt2 _ _) hlt2 _ _) hw.size
  case hb => exact grow_set (grow_set (grow_set (bw_to hw hBn) (Nat.le_succ _) _) (Nat.le_succ _) _) (Nat.le_succ _) _
  case hr => simp [results, go_sem, c0, c1, c2]
end Go.Proofs.Ytnbehldacehiiaa
