/- Contract: a method turned (the reference's). -/
import Derived.Test.YtnbehldacehiiaaT7
namespace Go.Proofs.Ytnbehldacehiiaa
open Go Go.RowKit
set_option linter.unusedVariables false
set_option linter.unusedSimpArgs false

theorem own_blk {w w' : World} {base : Nat} {e : TypeId} {size n g c : Nat} {xs : List Value} (h : w.ownsRow base e size (.slice (some ⟨g, 0, none⟩) n c) n xs) (hb : w'.heap[g]? = w.heap[g]?) : w'.ownsRow base e size (.slice (some ⟨g, 0, none⟩) n c) n xs := by
  obtain ⟨h1, h2⟩ := h
  refine ⟨h1, ?_⟩
  rcases h2 with ⟨h2, _⟩ | ⟨g', cap, cur, hv, hg, hp, r⟩
  · cases h2
  · cases hv
    exact .inr ⟨g, c, cur, rfl, hg, hb.trans hp, r⟩
theorem sl_new (w : World) (cs : Array Value) (e : TypeId) (n : Nat) (hn : n ≤ maxLen) (hs : cs.size = n) : Sl (w.alloc (.cells cs e)) 1 (.slice (some ⟨w.heap.size, 0, none⟩) n n) n cs.toList :=
  sl_of_own (own_of_heap (base := 0) (heap_new w _) (Nat.zero_le _) hn (by omega))
theorem rev_snoc {xs : List ByteArray} {j p : Nat} (hp : p + j + 1 = xs.length) : (xs.reverse.take (j + 1)).map Value.string = (xs.reverse.take j).map Value.string ++ [.string (xs[p]'(by omega))] := by
  rw [List.take_succ_eq_append_getElem (by simp; omega), List.map_append]
  congr 1
  simp only [List.map_cons, List.map_nil]
  congr 2
  rw [List.getElem_reverse]
  congr 1; omega
set_option maxRecDepth 100000 in
set_option maxHeartbeats 2000000 in
theorem turnMethod_any (m : Mt) (v : Value) (w : World) (h : MethAt w m v) (hs : MtSmall m) (hg : methB m = true) : Calls Try.prog 72 #[m.v v] w fun e w' =>
    ∃ r : Value, e = .returned (.tuple #[m.v r, .bool true]) ∧ w'.ownsRow w.heap.size 9 1 r m.l.length (m.l.reverse.map Value.string) ∧ Below w.heap.size w w' := by
  have hgood := l4Good_any m v
  rw [hg] at hgood
  unfold Mt.v at hgood ⊢
  have Hg := Lib.hid hgood
  have hlen : 1 ≤ m.l.length ∧ m.l.length ≤ 40 := by
    unfold methB at hg; simp at hg; omega
  obtain ⟨A, c, hA, h1, h2, hr⟩ := h.1
  have hat := h
  have Hr := Lib.hid hr
  subst hA
  have Hat := Lib.hid hat
  clear hgood h hr hat hg
  unfold maxLen at h2
  go_enter Try.func72, Try.ntmps72
  go_wp2_with fail
  refine box2 (C := fun W => Calls _ _ _ W _) ?_
  intro wb hw k1 k2 hB0
  have R1 := boxRule k1
  have R2 := boxRule k2
  have F2 := fun (j : Nat) w' hb => frozen_of_heap k2 j (w' := w') hb
  have Hk2 := Lib.hid k2
  clear k1 k2
  refine (Hg.out _ (Hat.out.to hw) hs).mono ?_; rintro e w1 ⟨rfl, hb1⟩
  obtain ⟨G, hG⟩ : ∃ G, G = w1.heap.size := ⟨_, rfl⟩
  have hB1 := bw_al hb1 (.cells #[.string m.name, .int .i64 m.stage, .slice none 0 0] 36)
  have hhG := heap_new w1 (.cells #[.string m.name, .int .i64 m.stage, .slice none 0 0] 36)
  have hout0 := own_of_heap (base := G) (n := 1) (size := 3) hhG (by omega) (by unfold maxLen; omega) rfl
  have hsz0 : G + 1 ≤ (w1.alloc (.cells #[.string m.name, .int .i64 m.stage, .slice none 0 0] 36)).heap.size := by simp [hG]
  have Hhh := Lib.hid hhG
  have Hout0 := Lib.hid hout0
  have HG := Lib.hid hG
  have hwbG : wb.heap.size ≤ G := by have := hb1.size; omega
  clear hhG hout0 hG
  go_wp2_with fail
  go_loopw [5] (fun i wr => ∃ j : Nat, j ≤ m.l.length ∧ i = .int .i64 ((m.l.length : Int) - 1 - j) ∧ Below wb.heap.size wb wr ∧ G + 1 ≤ wr.heap.size ∧ ∃ A' c', wr.ownsRow G 36 3 (.slice (some ⟨G, 0, none⟩) 1 1) 1 [.string m.name, .int .i64 m.stage, .slice A' j c'] ∧
      wr.ownsRow (G + 1) 9 1 (.slice A' j c') j ((m.l.reverse.take j).map Value.string))
    (fun i _ => ((intOf i) + 1).toNat)
  case atStart => exact ⟨0, by omega, by simp, hB1, hsz0, none, 0, by have h := Hout0.out; rw [← HG.out] at h; exact h, World.ownsRow_nil _ _ _ _⟩
  case round =>
    obtain ⟨j, hj, rfl, hB, hsz, A', c', hout, hrow⟩ := hrel
    have Hout := Lib.hid hout
    have Hrow := Lib.hid hrow
    by_cases hlt : j < m.l.length
    · obtain ⟨p, hp⟩ : ∃ p : Nat, p + j + 1 = m.l.length := ⟨m.l.length - 1 - j, by omega⟩
      have hpi : (m.l.length : Int) - 1 - j = (p : Int) := by omega
      rw [hpi]
      have hpl : p < m.l.length := by omega
      have Hsr := Lib.hid (rev_snoc hp)
      obtain ⟨ad, rfl, hC⟩ := strs_el Hr.out hpl
      obtain ⟨x, hx⟩ : ∃ x, x = m.l[p] := ⟨_, rfl⟩
      rw [← hx] at hC
      have Hx := Lib.hid hx
      clear hx
      have hBW : Below wr.heap.size wr (wr.drew.alloc (.cells #[.string x] 9)) := bw_al (Below.drew (Below.refl _ _)) _
      have o2 : wr.cell? ⟨G, 2, none⟩ = some (.slice A' j c') := hout.cellAt 2 (by omega)
      have o2' : (wr.drew.alloc (.cells #[.string x] 9)).cell? ⟨G, 2, none⟩ = some (.slice A' j c') := (own_to hout hBW).cellAt 2 (by omega)
      have hBV : Below wr.heap.size wr (wr.alloc (.cells #[.string x] 9)) := bw_al (Below.refl _ _) _
      have o2'' : (wr.alloc (.cells #[.string x] 9)).cell? ⟨G, 2, none⟩ = some (.slice A' j c') := (own_to hout hBV).cellAt 2 (by omega)
      have m2 := R1 wr 2 hB
      have m2'' := R1 _ 2 (bw_to hB hBV)
      have x2'' := hC _ (bw_to hw (bw_to hB hBV))
      have m2' := R1 _ 2 (bw_to hB hBW)
      have x2 := hC wr (bw_to hw hB)
      have x2' := hC _ (bw_to hw (bw_to hB hBW))
      have HR1 := Lib.hid R1
      have HC := Lib.hid hC
      have Hout' := Lib.hid (own_to hout hBW)
      have Hrow' := Lib.hid (own_to hrow hBW)
      have hbase : G + 1 ≤ (wr.drew.alloc (.cells #[.string x] 9)).heap.size := Nat.le_trans hsz hBW.size
      have hp0 : (0 : Int) ≤ (p : Int) := by omega
      have hp1 : (p : Int) < (m.l.length : Int) := by omega
      have hpw : IntKind.i64.wrap ((p : Int) - 1) = (p : Int) - 1 := IntWalk.i64_in _ (by omega)
      clear R1 hC
      go_wp2_with fail
      simp only [← HG.out]
      go_region_law ((refine step_app_sl _ (by rfl) _ _ _ (by rfl) (G + 1) 9 _ 1 16 Try.underlying32 info_str (by rfl) (by omega) Hrow'.out (by rfl) (sl_new wr.drew #[.string x] 9 1 (by unfold maxLen; omega) rfl) (nilok_some _ _ _) (by rfl) (one_mem rfl) (by omega) (by omega) hbase (j + 1) rfl ?_; intro A2 q2 w2 hown2 hb2 hg2; (have hout2 := own_blk Hout'.out (hb2.block G (Nat.lt_succ_self _))); (have s2 : w2.cell? ⟨G, 2, none⟩ = some (.slice A' j c') := hout2.cellAt 2 (by omega)); (have f2 := hout2.frozenAt 2)))
      all_goals
        go_wp2_with fail
        refine ⟨⟨⟨j + 1, by omega, by omega, grow_set (Below.trans (bw_to hB hBW) (hb2.mono (by omega))) hwbG _, Nat.le_trans hbase hb2.size, A2, q2, own_set hout2 2 _, ?_⟩, HG.out⟩, by simp [intOf]; omega⟩
        have hq := own_past hown2 (Nat.lt_succ_self _) 2 (.slice A2 (j + 1) q2)
        have hr2 := Hsr.out
        rw [← Hx.out] at hr2
        have hr3 : List.take (j + 1) (List.map Value.string m.l).reverse = List.map Value.string (List.take j m.l.reverse) ++ #[Value.string x].toList := by rw [← hr2]; simp
        rw [hr3]
        exact hq
    · obtain rfl : j = m.l.length := by omega
      have hpi : (m.l.length : Int) - 1 - (m.l.length : Nat) = -1 := by omega
      rw [hpi]
      have o0 : wr.cell? ⟨G, 0, none⟩ = some (.string m.name) := hout.cellAt 0 (by omega)
      have o1 : wr.cell? ⟨G, 1, none⟩ = some (.int .i64 m.stage) := hout.cellAt 1 (by omega)
      have o2 : wr.cell? ⟨G, 2, none⟩ = some (.slice A' m.l.length c') := hout.cellAt 2 (by omega)
      have c0 := R2 wr 0 hB
      have c1 := R2 wr 1 hB
      have c2 := R2 wr 2 hB
      have f0 := F2 0 wr hB
      have f1 := F2 1 wr hB
      have f2 := F2 2 wr hB
      have Hrow := Lib.hid hrow
      rw [HG.out] at o0 o1 o2
      clear R1 R2 F2 hout hrow
      go_wp2_with fail
      refine bodyPost_ret (v := .tuple #[.agg #[.string m.name, .int .i64 m.stage, .slice A' m.l.length c'], .bool true]) ?hr rfl ⟨_, rfl, ?ho, ?hb⟩
      case ho =>
        have h4 := Hrow.out
        rw [List.take_of_length_le (by simp)] at h4
        have hlt2 : w.heap.size + 1 < G + 1 := by have := blk_lt Hk2.out; omega
        exact own_base (own_past (own_past (own_past h4 hlt2 _ _) hlt2 _ _) hlt2 _ _) (by have := hw.size; omega)
      case hb => exact grow_set (grow_set (grow_set (bw_to hw hB) (Nat.le_succ _) _) (Nat.le_succ _) _) (Nat.le_succ _) _
      case hr => simp [results, go_sem, c0, c1, c2]
end Go.Proofs.Ytnbehldacehiiaa
