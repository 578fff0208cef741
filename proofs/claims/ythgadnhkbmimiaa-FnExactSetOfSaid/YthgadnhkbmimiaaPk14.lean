/- Contracts: room for a slice of strings; two slices joined. -/
import Derived.Test.YthgadnhkbmimiaaPk13
import Derived.Lib.AppendZeros
namespace Go.Proofs.Ythgadnhkbmimiaa
open Go Go.RowKit
set_option linter.unusedVariables false
set_option linter.unusedSimpArgs false

set_option maxRecDepth 100000 in
set_option maxHeartbeats 1000000 in
theorem growStr_any (n : Nat) (w : World) (h0 : 0 < n) (hn : n ≤ 10000000) : Calls Try.prog 140 #[.slice none 0 0, .int .i64 n] w fun e w' =>
    ∃ r : Value, e = .returned r ∧ w'.ownsRow w.heap.size 9 1 r 0 [] ∧ Below w.heap.size w w' := by
  obtain ⟨i0, hi, hz, hsi, hbi⟩ := info_parts info_str
  have hrun := Lib.run_append_nil_zeros (P := Try.prog) w 22 3 22 9 i0 (.string ⟨#[]⟩) .i64 .i64 Try.underlying22 Try.underlying3 hi hz n h0 (by omega) (by omega) (by rw [hbi]; omega)
  have hge := grownCap_ge w n 0 9
  have hcm := grownCap_le_maxLen w n 0 9 (by unfold maxLen; omega)
  go_enter Try.func140, Try.ntmps140
  go_wp2_with (at_builtin; go_must (refine Lib.wpList_append_run w rfl _ _ _ _ rfl _ _ rfl rfl _ _ hrun ?_))
  go_ret
  refine ⟨_, rfl, ⟨rfl, .inr ⟨w.heap.size, _, _, rfl, Nat.le_refl _, heap_alloc_new w.drew _, by omega, hcm, ?_, by simp⟩⟩, bw_al (Below.drew (Below.refl _ _)) _⟩
  simp only [Array.size_append, size_zeroCells]
  show n * 1 + (grownCap w n 0 9 - n) * 1 = grownCap w n 0 9 * 1
  omega
set_option maxRecDepth 100000 in
set_option maxHeartbeats 2000000 in
theorem concatStr2_any (g : Nat) (u v : Value) (xs ys : List ByteArray) (w : World) (hg : ∀ w', Below w.heap.size w w' → w'.cell? ⟨g, 0, none⟩ = some u) (hg1 : ∀ w', Below w.heap.size w w' → w'.cell? ⟨g, 1, none⟩ = some v)
    (hu : Strs w u xs) (hv : Strs w v ys) (hnu : NilOk u) (hnv : NilOk v) (hlen : 0 < xs.length + ys.length) (hmax : xs.length + ys.length ≤ 1000000) : Calls Try.prog 115 #[.slice (some ⟨g, 0, none⟩) 2 2] w fun e w' =>
    ∃ r : Value, e = .returned r ∧ w'.ownsRow w.heap.size 9 1 r (xs.length + ys.length) ((xs ++ ys).map Value.string) ∧ Below w.heap.size w w' := by
  have hu0 := hu
  have hv0 := hv
  obtain ⟨A, c, hA, h1, h2, hr⟩ := hu
  obtain ⟨A', c', hA', h1', h2', hr'⟩ := hv
  unfold maxLen at h2 h2'
  have hBr := Below.refl w.heap.size w
  go_enter Try.func115, Try.ntmps115
  go_wp2_with fail
  go_loop [3, 11] (fun z i => ∃ k : Nat, k ≤ 2 ∧ i = .int .i64 k ∧ z = .int .i64 (if k = 0 then 0 else if k = 1 then (xs.length : Int) else ((xs.length + ys.length : Nat) : Int))) (fun _ i => 2 - (intOf i).toNat)
  case atStart => exact ⟨0, by omega, rfl, rfl⟩
  case round =>
    obtain ⟨k, hk, rfl, rfl⟩ := hrel
    obtain rfl | rfl | rfl : k = 0 ∨ k = 1 ∨ k = 2 := by omega
    · subst hA
      go_wp2_with fail
      exact ⟨⟨1, by omega, rfl, rfl⟩, by simp [intOf]⟩
    · subst hA'
      go_wp2_with fail
      exact ⟨⟨2, by omega, rfl, by simp⟩, by simp [intOf]⟩
    · go_wp2_with fail
      refine (growStr_any (xs.length + ys.length) w hlen (by omega)).mono ?_; rintro e w1 ⟨r, rfl, hown, hb1⟩
      go_wp2_with fail
      go_loopw [6, 27] (fun z i wr => ∃ k : Nat, k ≤ 2 ∧ i = .int .i64 k ∧ Below w.heap.size w wr ∧ ((k = 0 ∧ wr.ownsRow w.heap.size 9 1 z 0 []) ∨ (k = 1 ∧ wr.ownsRow w.heap.size 9 1 z xs.length (xs.map Value.string)) ∨ (k = 2 ∧ wr.ownsRow w.heap.size 9 1 z (xs.length + ys.length) ((xs ++ ys).map Value.string)))) (fun _ i _ => 2 - (intOf i).toNat)
      case atStart => exact ⟨0, by omega, rfl, hb1, .inl ⟨rfl, hown⟩⟩
      case round =>
        obtain ⟨k, hk, rfl, hB, hk3⟩ := hrel
        rcases hk3 with ⟨rfl, ho⟩ | ⟨rfl, ho⟩ | ⟨rfl, ho⟩
        · go_wp2_with (at_builtin; go_must (refine wpList_app_sl _ rfl _ _ _ rfl w.heap.size 9 _ 1 16 Try.underlying22 info_str rfl (by omega) ho rfl (hu0.to hB) hnu hA.symm (strs_one xs) (by omega) (by omega) hB.size ?_); intro v2 w2 hown2 hb2 _ _)
          exact ⟨⟨1, by omega, rfl, hB.trans hb2, .inr (.inl ⟨rfl, by simpa using hown2⟩)⟩, by simp [intOf]⟩
        · go_wp2_with (at_builtin; go_must (refine wpList_app_sl _ rfl _ _ _ rfl w.heap.size 9 _ 1 16 Try.underlying22 info_str rfl (by omega) ho rfl (hv0.to hB) hnv hA'.symm (strs_one ys) (by omega) (by omega) hB.size ?_); intro v2 w2 hown2 hb2 _ _)
          exact ⟨⟨2, by omega, rfl, hB.trans hb2, .inr (.inr ⟨rfl, by rw [List.map_append]; exact hown2⟩)⟩, by simp [intOf]⟩
        · go_wp2_with fail
          go_ret
          exact ⟨_, rfl, ho, hB⟩
end Go.Proofs.Ythgadnhkbmimiaa

/- Contracts: a list that begins with its element k. -/
namespace Go.Proofs.Ythgadnhkbmimiaa
open Go Go.RowKit
set_option linter.unusedVariables false
set_option linter.unusedSimpArgs false

theorem strs_from {w : World} {ad : Addr} {c k : Nat} {ss : List ByteArray} (h : Strs w (.slice (some ad) ss.length c) ss) (hk : k < ss.length) : Strs w (.slice (some (ad.add k)) (ss.length - k) (c - k)) (ss.drop k) := by
  obtain ⟨A', c', hA, h1, h2, hr⟩ := h
  cases hA
  have hc := hr.cut (k := k) (cap := c) (by omega) h1
  rw [if_neg (by omega)] at hc
  simp only [Option.map_some, Nat.mul_one] at hc
  refine ⟨some (ad.add k), c - k, by rw [List.length_drop], by rw [List.length_drop]; omega, by omega, ?_⟩
  rw [List.length_drop, List.map_drop]
  exact hc
theorem strs_upto {w : World} {ad : Addr} {c k : Nat} {ss : List ByteArray} (h : Strs w (.slice (some ad) ss.length c) ss) (hk : k < ss.length) : Strs w (.slice (some ad) k c) (ss.take k) := by
  obtain ⟨A', c', hA, h1, h2, hr⟩ := h
  cases hA
  have hl : (ss.take k).length = k := by rw [List.length_take]; omega
  refine ⟨some ad, c, by rw [hl], by rw [hl]; omega, h2, ?_⟩
  rw [hl]
  refine ⟨by simp; omega, fun h0 => ?_⟩
  obtain ⟨ad', e, hb, hc⟩ := hr.2 (by omega)
  refine ⟨ad', e, hb, fun j u hu => hc j u ?_⟩
  rw [List.map_take] at hu
  have hj : j < k := by have := (List.getElem?_eq_some_iff.1 hu).1; simp at this; omega
  rwa [List.getElem?_take_of_lt hj] at hu
theorem nilok_some (a : Addr) (n c : Nat) : NilOk (.slice (some a) n c) := by intro n' c' h; cases h
set_option maxRecDepth 100000 in
set_option maxHeartbeats 2000000 in
theorem rotated_any (ad : Addr) (c k : Nat) (ss : List ByteArray) (w : World) (h : Strs w (.slice (some ad) ss.length c) ss) (hk : k < ss.length) (hmax : ss.length ≤ 1000000) : Calls Try.prog 73 #[.slice (some ad) ss.length c, .int .i64 k] w fun e w' =>
    ∃ r : Value, e = .returned r ∧ w'.ownsRow w.heap.size 9 1 r ss.length ((ss.drop k ++ ss.take k).map Value.string) ∧ Below w.heap.size w w' := by
  have hfrom := strs_from h hk
  have hupto := strs_upto h hk
  have hc1 : ss.length ≤ c := let ⟨_, _, e, h1, _⟩ := h; by cases e; exact h1
  have hc2 : c ≤ maxLen := let ⟨_, _, e, _, h2, _⟩ := h; by cases e; exact h2
  unfold maxLen at hc2
  have hB0 : Below w.heap.size w (w.alloc (.cells #[.slice (some (ad.add k)) (ss.length - k) (c - k), .slice (some ad) k c] 22)).drew := Below.drew (bw_al (Below.refl _ _) _)
  have hgg := fun (i : Nat) (w' : World) (hb : Below (w.alloc (.cells #[.slice (some (ad.add k)) (ss.length - k) (c - k), .slice (some ad) k c] 22)).drew.heap.size (w.alloc (.cells #[.slice (some (ad.add k)) (ss.length - k) (c - k), .slice (some ad) k c] 22)).drew w') =>
    boxRule (heap_new w (.cells #[.slice (some (ad.add k)) (ss.length - k) (c - k), .slice (some ad) k c] 22)) w' i (bw_to (Below.drew (Below.refl _ _)) hb)
  have hcat := concatStr2_any w.heap.size _ _ _ _ _ (hgg 0) (hgg 1) (hfrom.to hB0) (hupto.to hB0) (nilok_some _ _ _) (nilok_some _ _ _) (by simp; omega) (by simp; omega)
  have hl : (ss.drop k).length + (ss.take k).length = ss.length := by simp; omega
  rw [hl] at hcat
  have Hcat := Lib.hid hcat
  have HB0 := Lib.hid hB0
  clear hcat hgg hB0 hfrom hupto h
  have hkc : ¬ c = k := by omega
  go_enter Try.func73, Try.ntmps73
  go_wp2_with fail
  go_region_with (go_at_call 115; refine Hcat.out.mono ?_; rintro e w1 ⟨r, rfl, hown, hb1⟩)
  all_goals
    go_wp2_with fail
    go_ret
    exact ⟨_, rfl, own_base hown HB0.out.size, bw_to HB0.out hb1⟩
end Go.Proofs.Ythgadnhkbmimiaa

/- Contracts: a method with other changes; a method's copy of the reference. -/
namespace Go.Proofs.Ythgadnhkbmimiaa
open Go Go.RowKit
set_option linter.unusedVariables false
set_option linter.unusedSimpArgs false

set_option maxHeartbeats 1000000 in
theorem withChanges_any (m : Mt) (v : Value) (A : Option Addr) (n c : Nat) (w : World) : Calls Try.prog 71 #[m.v v, .slice A n c] w fun e w' => e = .returned (m.v (.slice A n c)) ∧ Below w.heap.size w w' := by
  unfold Mt.v
  go_enter Try.func71, Try.ntmps71
  go_wp2
  refine bodyPost_ret (v := .agg #[.string m.name, .int .i64 m.stage, .slice A n c]) (by simp [results, go_sem]) rfl ⟨rfl, ?_⟩
  exact bw_al (bw_al (Below.refl _ _) _) _
theorem blk_lt {w : World} {g : Nat} {o : Obj} (h : w.heap[g]? = some o) : g < w.heap.size := by
  rcases Nat.lt_or_ge g w.heap.size with hlt | hge
  · exact hlt
  · rw [Array.getElem?_eq_none hge] at h; cases h
theorem boxRuleB {wb : World} {g B : Nat} {cs : Array Value} {t : TypeId} (h : wb.heap[g]? = some (.cells cs t (0, 0))) (hB : g < B) : ∀ (w' : World) (i : Nat), Below B wb w' → w'.cell? ⟨g, i, none⟩ = cs[i]? := by
  intro w' i hb
  exact cell_of_row w' g i cs t (0, 0) ((hb.block g hB).trans h)
theorem set3_low {a w : World} {B g : Nat} {p q r : Nat} {x y z : Value} (h : Below B a w) (hg : B ≤ g) : Below B a (((w.setCell ⟨g, p, none⟩ x).setCell ⟨g, q, none⟩ y).setCell ⟨g, r, none⟩ z) :=
  ((h.setCell (p := ⟨g, p, none⟩) hg x).setCell (p := ⟨g, q, none⟩) hg y).setCell (p := ⟨g, r, none⟩) hg z
set_option maxHeartbeats 1000000 in
theorem l4Own_any (m : Mt) (v : Value) (w : World) (h : Strs w v m.l) (hn : NilOk v) (hlen : m.l.length ≤ 10000000) : Calls Try.prog 119 #[m.v v] w fun e w' =>
    ∃ r : Value, e = .returned (m.v r) ∧ w'.ownsRow w.heap.size 9 1 r m.l.length (m.l.map Value.string) ∧ Below w.heap.size w w' := by
  unfold Mt.v
  go_enter Try.func119, Try.ntmps119
  go_wp2_with fail
  refine box2 (C := fun W => Code.wp _ _ _ _ W) ?_
  intro wb hw k1 k2 hB0
  have R1 := boxRule k1
  have R2 := boxRule k2
  have hds : ∀ w', Below wb.drew.heap.size wb.drew w' → Below wb.heap.size wb w' := fun w' hb => bw_to (Below.drew (Below.refl _ _)) hb
  have F2 := fun (j : Nat) w' hb => frozen_of_heap k2 j (w' := w') hb
  have Hh := Lib.hid h
  have hdr : Below wb.heap.size wb wb.drew := Below.drew (Below.refl _ _)
  have hlt2 : w.heap.size + 1 < wb.heap.size := blk_lt k2
  have R1' := fun w' i hb => boxRuleB k1 (Nat.lt_succ_self _) w' i hb
  have Hs := Lib.hid (Nat.le_of_lt hlt2)
  have hst := Below.refl (w.heap.size + 1) wb
  clear k1 k2 h R1
  go_region_held3 (fun w' => Below (w.heap.size + 1) wb w') (first | exact Below.drew (by assumption) | exact (hds _ hb').mono Hs.out | exact set3_low (by assumption) (Nat.le_refl _))
    (first | (go_at_call 106; refine (l1OwnS_any v m.l _ (Hh.out.to (bw_to hw hdr)) hn (by omega)).mono ?_; rintro e w' ⟨r, rfl, hown, hb'⟩; (obtain ⟨A, c, hrs, _⟩ := sl_of_own hown); subst hrs; (have hBn := hds _ hb'); (have c0 := R2 w' 0 hBn); (have c1 := R2 w' 1 hBn); (have c2 := R2 w' 2 hBn); (have f0 := F2 0 w' hBn); (have f1 := F2 1 w' hBn); (have f2 := F2 2 w' hBn)))
  go_wp2_with fail
  refine bodyPost_ret (v := .agg #[.string m.name, .int .i64 m.stage, .slice A m.l.length c]) ?hr rfl ⟨_, rfl, ?ho, ?hb⟩
  case ho => exact own_base (own_past (own_past (own_past hown hlt2 _ _) hlt2 _ _) hlt2 _ _) hw.size
  case hb => exact grow_set (grow_set (grow_set (bw_to hw hBn) (Nat.le_succ _) _) (Nat.le_succ _) _) (Nat.le_succ _) _
  case hr => simp [results, go_sem, c0, c1, c2]
end Go.Proofs.Ythgadnhkbmimiaa

/- Contracts: a method that begins with its change k; a method turned. -/
namespace Go.Proofs.Ythgadnhkbmimiaa
open Go Go.RowKit
set_option linter.unusedVariables false
set_option linter.unusedSimpArgs false

set_option maxRecDepth 100000 in
set_option maxHeartbeats 2000000 in
theorem l4Start_any (m : Mt) (ad : Addr) (c k : Nat) (w : World) (h : Strs w (.slice (some ad) m.l.length c) m.l) (hk : k < m.l.length) (hmax : m.l.length ≤ 1000000) : Calls Try.prog 64 #[m.v (.slice (some ad) m.l.length c), .int .i64 k] w fun e w' =>
    ∃ r : Value, e = .returned (m.v r) ∧ w'.ownsRow w.heap.size 9 1 r m.l.length ((m.l.drop k ++ m.l.take k).map Value.string) ∧ Below w.heap.size w w' := by
  have hfrom := strs_from h hk
  have hupto := strs_upto h hk
  have hc1 : m.l.length ≤ c := let ⟨_, _, e, h1, _⟩ := h; by cases e; exact h1
  have hc2 : c ≤ maxLen := let ⟨_, _, e, _, h2, _⟩ := h; by cases e; exact h2
  unfold maxLen at hc2
  unfold Mt.v
  have hkc : ¬ c = k := by omega
  have hk0 : (0 : Int) ≤ (k : Int) := by omega
  have hk1 : (k : Int) ≤ (m.l.length : Int) := by omega
  have hk2 : (k : Int) ≤ (c : Int) := by omega
  go_enter Try.func64, Try.ntmps64
  go_wp2_with fail
  refine box2 (C := fun W => Code.wp _ _ _ _ W) ?_
  intro wb hw k1 k2 hB0
  have R2 := boxRule k2
  have hds : ∀ w', Below wb.drew.heap.size wb.drew w' → Below wb.heap.size wb w' := fun w' hb => bw_to (Below.drew (Below.refl _ _)) hb
  have F2 := fun (j : Nat) w' hb => frozen_of_heap k2 j (w' := w') hb
  have hdr : Below wb.heap.size wb wb.drew := Below.drew (Below.refl _ _)
  have Hf := Lib.hid (hfrom.to (bw_to hw hdr))
  have Hu := Lib.hid (hupto.to (bw_to hw hdr))
  have hlt2 : w.heap.size + 1 < wb.heap.size := blk_lt k2
  have R1' := fun w' i hb => boxRuleB k1 (Nat.lt_succ_self _) w' i hb
  have Hs := Lib.hid (Nat.le_of_lt hlt2)
  have hst := Below.refl (w.heap.size + 1) wb
  have Hl : Hid (m.l.length - k ≤ 10000000) := Lib.hid (by omega)
  have Hn : Hid ((m.l.drop k).length + (m.l.take k).length = m.l.length) := Lib.hid (by simp; omega)
  clear k1 k2 h hfrom hupto
  go_region_held3 (fun w' => Below (w.heap.size + 1) wb w') (first | exact Below.drew (by assumption) | exact Below.mono (by assumption : Below wb.heap.size wb _) Hs.out | exact set3_low (by assumption) (Nat.le_refl _))
    (first | (go_at_call 106; refine (l1OwnS_any _ (m.l.drop k) _ (Hf.out) (nilok_some _ _ _) (Nat.le_trans (by simpa using Hl.out) (by decide : 10000000 ≤ 20000000))).mono ?_; rintro e w' ⟨r, rfl, hown, hb'⟩; (have hBn := hds _ hb')) | (refine step_app_sl _ (by rfl) _ _ _ (by rfl) wb.drew.heap.size 9 _ 1 16 Try.underlying22 info_str (by rfl) (by omega) hown (by rfl) (Hu.out.to hb') (nilok_some _ _ _) (by rfl) (strs_one _) (by omega) (by simp; omega) hb'.size m.l.length Hn.out ?_; intro A2 q2 w2 hown2 hb2 hg2; (have hBn := bw_tr hBn hb2 (Nat.le_refl _)); (have c0 := R2 w2 0 hBn); (have c1 := R2 w2 1 hBn); (have c2 := R2 w2 2 hBn); (have f0 := F2 0 w2 hBn); (have f1 := F2 1 w2 hBn); (have f2 := F2 2 w2 hBn)))
  go_wp2_with fail
  refine bodyPost_ret (v := .agg #[.string m.name, .int .i64 m.stage, .slice A2 m.l.length q2]) ?hr rfl ⟨_, rfl, ?ho, ?hb⟩
  case ho =>
    rw [List.map_append]
    exact own_base (own_past (own_past (own_past hown2 hlt2 _ _) hlt2 _ _) hlt2 _ _) hw.size
  case hb => exact grow_set (grow_set (grow_set (bw_to hw hBn) (Nat.le_succ _) _) (Nat.le_succ _) _) (Nat.le_succ _) _
  case hr => simp [results, go_sem, c0, c1, c2]
end Go.Proofs.Ythgadnhkbmimiaa
