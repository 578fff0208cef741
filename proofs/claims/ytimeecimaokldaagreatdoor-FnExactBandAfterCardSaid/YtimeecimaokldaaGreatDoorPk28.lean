/- Contracts: the acts of a touch; both sides. -/
import Derived.Test.YtimeecimaokldaaGreatDoorPk27
namespace Go.Proofs.YtimeecimaokldaaGreatDoor
open Go Go.RowKit
set_option linter.unusedVariables false
set_option linter.unusedSimpArgs false

/-- The acts of a touch, some ahead of each call. -/
def actsL (N : Nat) (ah : List Act3) : List UInt8 → List Act3
  | [] => []
  | c :: l => ah ++ (Act3.call c :: List.replicate N .step) ++ actsL N ah l
theorem actsL_take (N : Nat) (ah : List Act3) : ∀ {l : List UInt8} {i : Nat} (h : i < l.length), actsL N ah (l.take (i + 1)) = actsL N ah (l.take i) ++ (ah ++ (Act3.call l[i] :: List.replicate N .step))
  | c :: l, 0, h => by simp [actsL]
  | c :: l, i + 1, h => by
    have ih := actsL_take N ah (l := l) (i := i) (by simpa using h)
    simp only [List.take_succ_cons, actsL, List.getElem_cons_succ, ih, List.append_assoc]
theorem actsL_len (N : Nat) (ah : List Act3) : ∀ (l : List UInt8), (actsL N ah l).length = l.length * (ah.length + 1 + N)
  | [] => by simp [actsL]
  | c :: l => by
    rw [actsL, List.length_append, List.length_append, List.length_cons, List.length_replicate, actsL_len N ah l, List.length_cons, Nat.add_mul]
    omega
theorem act_len (xs : List Act3) : (xs.flatMap Act3.c).length = xs.length * 4 := flat_length (fun x _ => by cases x <;> rfl)
theorem act_one (xs : List Act3) : ∀ u ∈ xs.flatMap Act3.c, u.oneCell' = true := by
  intro u hu
  obtain ⟨x, _, hx⟩ := List.mem_flatMap.1 hu
  cases x
  · simp [Act3.c] at hx; rcases hx with rfl | rfl | rfl <;> rfl
  · simp [Act3.c] at hx; rcases hx with rfl | rfl | rfl <;> rfl
  · simp [Act3.c] at hx; rcases hx with rfl | rfl | rfl | rfl <;> rfl
theorem info_Ac : (Tryz.prog.info? 82).map (fun i => (i.zero, i.size, i.bytes)) = some (some (.agg #[.int .i64 0, .int .i64 0, .int .i64 0, .string ⟨#[]⟩]), 4, 40) := by kernel_rfl
theorem four_mem {u v x y : Value} (h : u.oneCell' = true) (h2 : v.oneCell' = true) (h3 : x.oneCell' = true) (h4 : y.oneCell' = true) : ∀ z ∈ [u, v, x, y], z.oneCell' = true := by
  intro z hz
  simp at hz
  rcases hz with rfl | rfl | rfl | rfl
  · exact h
  · exact h2
  · exact h3
  · exact h4
theorem ext_callT {t : ByteArray} {i : Nat} (h : i < t.size) : t.extract i (i + 1) = callT t[i] := by
  apply bytes_ext
  rw [ext_list, Nat.add_sub_cancel_left, List.drop_eq_getElem_cons (by rw [bytes_len]; exact h), List.take_succ_cons, List.take_zero, bytes_get t i h]
  rfl
theorem actsL_few {N : Nat} {ah : List Act3} {l : List UInt8} (hN : N ≤ 40) (ha : ah.length ≤ 1) (hl : l.length ≤ 60) : (actsL N ah l).length ≤ 2520 := by
  rw [actsL_len]
  exact Nat.mul_le_mul hl (show ah.length + 1 + N ≤ 42 by omega)
theorem rep_snoc (j : Nat) : List.replicate (j + 1) Act3.step = List.replicate j .step ++ [.step] := by
  rw [← List.replicate_append_replicate]; rfl
set_option maxRecDepth 100000 in
set_option maxHeartbeats 8000000 in
theorem actsFor_any (m : Mt) (v va : Value) (t : ByteArray) (ah : List Act3) (w : World) (hv : Strs w v m.l) (hl : m.l.length ≤ 40) (ht : t.size ≤ 60) (ha : Sl w 4 va ah.length (ah.flatMap Act3.c)) (hna : NilOk va) (hal : ah.length ≤ 1) : Calls Tryz.prog 50 #[m.v v, .string t, va] w fun e w' =>
    ∃ A c, e = .returned (.slice A (actsL m.l.length ah t.data.toList).length c) ∧ w'.ownsRow w.heap.size 82 4 (.slice A (actsL m.l.length ah t.data.toList).length c) (actsL m.l.length ah t.data.toList).length ((actsL m.l.length ah t.data.toList).flatMap Act3.c) ∧ Below w.heap.size w w' := by
  obtain ⟨A, q, rfl, _⟩ := hv
  have Ha := Lib.hid ha
  obtain ⟨Aa, qa, rfl, _⟩ := ha
  obtain ⟨L, hL⟩ : ∃ L, L = t.data.toList := ⟨_, rfl⟩
  have hLt : L.length = t.size := by rw [hL, bytes_len]
  have Hg : Hid (∀ i (h : i < t.size) (h2 : i < L.length), L[i] = t[i]) := Lib.hid (fun i h h2 => by subst hL; exact bytes_get t i h)
  have HLt := Lib.hid hLt
  rw [← hL]
  clear hL hLt
  unfold Mt.v
  go_enter Tryz.func50, Tryz.ntmps50
  go_upto_region 1 with fail
  refine box1 (C := fun W => Code.wp _ _ _ _ W) ?_
  intro wb hw k1 hB0
  have hm : Bc wb w.heap.size [.string m.name, .int .i64 m.stage, .slice A m.l.length q] 29 := k1
  have hzm := hm.blk
  have Hw := Lib.hid hw
  have Hm := Lib.hid hm
  clear k1 hw hm
  go_upto_region 2 with fail
  refine box1 (C := fun W => Code.wp _ _ _ _ W) ?_
  intro w1 hw1 k2 hB1
  have HO0 : Hid (w1.ownsRow wb.heap.size 82 4 (.slice (some ⟨wb.heap.size, 0, none⟩) 0 0) 0 []) := Lib.hid (own_of_heap (cs := #[]) (n := 0) k2 (Nat.le_refl _) (by unfold maxLen; omega) rfl)
  have HB1 := Lib.hid hw1
  clear k2 hw1 hB1
  go_wp2_with fail
  go_loopw [7, 12] (fun s i wx => ∃ (p : Nat) (A2 : Option Addr) (c2 : Nat), p ≤ t.size ∧ s = .slice A2 (actsL m.l.length ah (L.take p)).length c2 ∧ i = .int .i64 p ∧ Hid (wx.ownsRow wb.heap.size 82 4 (.slice A2 (actsL m.l.length ah (L.take p)).length c2) (actsL m.l.length ah (L.take p)).length ((actsL m.l.length ah (L.take p)).flatMap Act3.c)) ∧ Hid (Below wb.heap.size wb wx)) (fun _ i _ => t.size - (intOf i).toNat)
  case atStart => exact ⟨0, some ⟨wb.heap.size, 0, none⟩, 0, by omega, rfl, rfl, HO0, HB1⟩
  case round =>
    obtain ⟨p, A2, c2, hp, rfl, rfl, HO, HB⟩ := hrel
    have hzr := HB.out.size
    by_cases hlt : p < t.size
    · have hltL : p < L.length := by rw [HLt.out]; exact hlt
      have Htk := Lib.hid (actsL_take m.l.length ah hltL)
      have hfew := actsL_few (N := m.l.length) (ah := ah) (l := L.take p) hl hal (by rw [List.length_take]; omega)
      have Hgp := Lib.hid (Hg.out p hlt hltL)
      have hex := ext_callT hlt
      rw [← Hgp.out] at hex
      obtain ⟨c, hc⟩ : ∃ c, c = L[p] := ⟨_, rfl⟩
      rw [← hc] at Htk hex
      obtain ⟨X, hX⟩ : ∃ X, X = actsL m.l.length ah (L.take p) := ⟨_, rfl⟩
      rw [← hX] at Htk hfew HO ⊢
      clear hX hc Hgp hltL
      have b1 : (p : Int) ≤ (p : Int) + 1 := by omega
      have b2 : (p : Int) + 1 ≤ (t.size : Int) := by omega
      have wi : IntKind.i64.wrap ((p : Int) + 1) = (p : Int) + 1 := IntWalk.i64_in _ ⟨by omega, by omega⟩
      have tn : ((p : Int) + 1).toNat = p + 1 := by omega
      go_upto_region 6 with (at_builtin; go_must (refine wpList_app_sl wr rfl _ _ _ rfl wb.heap.size 82 _ 4 40 Tryz.underlying79 info_Ac rfl (by omega) HO.out rfl (Ha.out.to (Hw.out.trans (HB.out.mono (Nat.le_of_lt hzm)))) hna rfl (act_one ah) (by omega) (by omega) hzr ?_); intro v3 w3 hown3 hb3 hg3 _; (obtain ⟨A3, q3, rfl⟩ := nb_slE hown3); (have Hown3 := Lib.hid hown3); (have Hb3 := Lib.hid (HB.out.trans hb3)); (have hzx := (HB.out.trans hb3).size); clear hown3 hb3 hg3)
      have hz4 := hzx
      clear hzx
      go_upto_region 7 with (at_builtin; go_must (refine wpList_app _ rfl _ _ _ rfl wb.heap.size 82 _ 4 40 Tryz.underlying79 info_Ac rfl (by omega) Hown3.out [.int .i64 2, .int .i64 0, .int .i64 0, .string _] rfl rfl rfl (four_mem rfl rfl rfl rfl) (by omega) (by omega) hz4 ?_); intro v4 w4 hown4 hb4 hg4 _; (obtain ⟨A4, q4, rfl⟩ := nb_slE hown4); (have Hown4 := Lib.hid hown4); (have Hb4 := Lib.hid hb4); clear hown4 hb4 hg4)
      obtain ⟨Y, hY⟩ : ∃ Y, Y = X ++ (ah ++ [Act3.call c]) := ⟨_, rfl⟩
      have hYl : Y.length = X.length + ah.length + 1 := by rw [hY]; simp; omega
      have HY : Hid (w4.ownsRow wb.heap.size 82 4 (.slice A4 Y.length q4) Y.length (Y.flatMap Act3.c)) := Lib.hid (by
        have h := Hown4.out
        rw [hYl, hY, List.flatMap_append, List.flatMap_append, ← List.append_assoc]
        exact h)
      have Hnext : Hid (∀ j, Y ++ List.replicate j Act3.step = X ++ (ah ++ (Act3.call c :: List.replicate j Act3.step))) := Lib.hid (fun j => by rw [hY]; simp)
      have HYl := Lib.hid hYl
      have hYf : Y.length ≤ 2600 := by omega
      rw [← hYl]
      have HB4 := Lib.hid (Hb3.out.trans Hb4.out)
      clear hY hYl hex
      have y2 := (Hm.out.to HB4.out hzm).at_ 2 rfl
      go_wp2_with fail
      clear y2
      obtain ⟨wo, rfl⟩ : ∃ wo : World, wo = wr := ⟨_, rfl⟩
      go_loopw [7, 30] (fun s i wx => ∃ (j : Nat) (A2 : Option Addr) (c2 : Nat), j ≤ m.l.length ∧ s = .slice A2 (Y ++ List.replicate j Act3.step).length c2 ∧ i = .int .i64 j ∧ Hid (wx.ownsRow wb.heap.size 82 4 (.slice A2 (Y ++ List.replicate j Act3.step).length c2) (Y ++ List.replicate j Act3.step).length ((Y ++ List.replicate j Act3.step).flatMap Act3.c)) ∧ Hid (Below wb.heap.size wb wx)) (fun _ i _ => m.l.length - (intOf i).toNat)
      case atStart => exact ⟨0, A4, q4, by omega, by rw [List.replicate_zero, List.append_nil], rfl, by rw [List.replicate_zero, List.append_nil]; exact HY, HB4⟩
      case round =>
        obtain ⟨j, A5, c5, hj, rfl, rfl, HOj, HBj⟩ := hrel
        have hz6 := HBj.out.size
        by_cases hjl : j < m.l.length
        · have hsn : Y ++ List.replicate (j + 1) Act3.step = (Y ++ List.replicate j Act3.step) ++ [Act3.step] := by rw [rep_snoc, List.append_assoc]
          have hZl : (Y ++ List.replicate j Act3.step).length ≤ 2700 := by rw [List.length_append, List.length_replicate]; omega
          obtain ⟨Z, hZ⟩ : ∃ Z, Z = Y ++ List.replicate j Act3.step := ⟨_, rfl⟩
          rw [← hZ] at hsn hZl HOj ⊢
          have Hsn := Lib.hid hsn
          clear hsn hZ
          go_wp2_with (at_builtin; go_must (refine wpList_app _ rfl _ _ _ rfl wb.heap.size 82 _ 4 40 Tryz.underlying79 info_Ac rfl (by omega) HOj.out [.int .i64 1, .int .i64 0, .int .i64 0, .string ⟨#[]⟩] rfl rfl rfl (four_mem rfl rfl rfl rfl) (by omega) (by omega) hz6 ?_); intro v6 w6 hown6 hb6 hg6 _; (obtain ⟨A6, q6, rfl⟩ := nb_slE hown6); (have Hown6 := Lib.hid hown6); (have Hb6 := Lib.hid hb6); clear hown6 hb6 hg6)
          refine ⟨⟨j + 1, A6, q6, hjl, ?_, by go_num, Lib.hid ?_, Lib.hid (HBj.out.trans Hb6.out)⟩, by simp [intOf]; omega⟩
          · rw [Hsn.out, List.length_append]; rfl
          · rw [Hsn.out, List.length_append, List.flatMap_append]
            exact Hown6.out
        · obtain rfl : j = m.l.length := by omega
          have Hnx := Lib.hid (Hnext.out m.l.length)
          go_wp2_with fail
          refine ⟨⟨p + 1, A5, c5, hlt, ?_, by go_num, ?_, HBj⟩, by simp [intOf]; omega⟩
          · rw [Htk.out, ← Hnx.out]
          · rw [Htk.out, ← Hnx.out]; exact HOj
    · obtain rfl : p = t.size := by omega
      have hle : L.take t.size = L := List.take_of_length_le (by rw [HLt.out]; exact Nat.le_refl _)
      rw [hle] at HO ⊢
      have HB9 := Lib.hid (Hw.out.trans (HB.out.mono (Nat.le_of_lt hzm)))
      clear hle
      go_wp2_with fail
      go_ret
      exact ⟨A2, c2, rfl, own_base HO.out (Nat.le_of_lt hzm), HB9.out⟩
set_option maxRecDepth 100000 in
set_option maxHeartbeats 8000000 in
theorem l24Acts_any (m : Mt) (v : Value) (t : ByteArray) (w : World) (hv : Strs w v m.l) (hl : m.l.length ≤ 40) (ht : t.size ≤ 60) : Calls Tryz.prog 44 #[m.v v, .string t] w fun e w' =>
    ∃ A c, e = .returned (.slice A (actsL m.l.length [] t.data.toList).length c) ∧ w'.ownsRow w.heap.size 82 4 (.slice A (actsL m.l.length [] t.data.toList).length c) (actsL m.l.length [] t.data.toList).length ((actsL m.l.length [] t.data.toList).flatMap Act3.c) ∧ Below w.heap.size w w' := by
  obtain ⟨A, q, rfl, _⟩ := hv
  obtain ⟨L, hL⟩ : ∃ L, L = t.data.toList := ⟨_, rfl⟩
  have hLt : L.length = t.size := by rw [hL, bytes_len]
  have Hg : Hid (∀ i (h : i < t.size) (h2 : i < L.length), L[i] = t[i]) := Lib.hid (fun i h h2 => by subst hL; exact bytes_get t i h)
  have HLt := Lib.hid hLt
  rw [← hL]
  clear hL hLt
  unfold Mt.v
  go_enter Tryz.func44, Tryz.ntmps44
  go_upto_region 1 with fail
  refine box1 (C := fun W => Code.wp _ _ _ _ W) ?_
  intro wb hw k1 hB0
  have hm : Bc wb w.heap.size [.string m.name, .int .i64 m.stage, .slice A m.l.length q] 29 := k1
  have hzm := hm.blk
  have Hw := Lib.hid hw
  have Hm := Lib.hid hm
  clear k1 hw hm
  have HO0 : Hid (wb.ownsRow wb.heap.size 82 4 (.slice none 0 0) 0 []) := Lib.hid ⟨rfl, .inl ⟨rfl, rfl⟩⟩
  have HB1 := Lib.hid hB0
  go_wp2_with fail
  go_loopw [5, 6] (fun s i wx => ∃ (p : Nat) (A2 : Option Addr) (c2 : Nat), p ≤ t.size ∧ s = .slice A2 (actsL m.l.length [] (L.take p)).length c2 ∧ i = .int .i64 p ∧ Hid (wx.ownsRow wb.heap.size 82 4 (.slice A2 (actsL m.l.length [] (L.take p)).length c2) (actsL m.l.length [] (L.take p)).length ((actsL m.l.length [] (L.take p)).flatMap Act3.c)) ∧ Hid (Below wb.heap.size wb wx)) (fun _ i _ => t.size - (intOf i).toNat)
  case atStart => exact ⟨0, none, 0, by omega, rfl, rfl, HO0, HB1⟩
  case round =>
    obtain ⟨p, A2, c2, hp, rfl, rfl, HO, HB⟩ := hrel
    have hzr := HB.out.size
    by_cases hlt : p < t.size
    · have hltL : p < L.length := by rw [HLt.out]; exact hlt
      have Htk := Lib.hid (actsL_take m.l.length ([] : List Act3) hltL)
      have hfew := actsL_few (N := m.l.length) (ah := []) (l := L.take p) hl (by simp) (by rw [List.length_take]; omega)
      have Hgp := Lib.hid (Hg.out p hlt hltL)
      have hex := ext_callT hlt
      rw [← Hgp.out] at hex
      obtain ⟨c, hc⟩ : ∃ c, c = L[p] := ⟨_, rfl⟩
      rw [← hc] at Htk hex
      obtain ⟨X, hX⟩ : ∃ X, X = actsL m.l.length [] (L.take p) := ⟨_, rfl⟩
      rw [← hX] at Htk hfew HO ⊢
      clear hX hc Hgp hltL
      have b1 : (p : Int) ≤ (p : Int) + 1 := by omega
      have b2 : (p : Int) + 1 ≤ (t.size : Int) := by omega
      have wi : IntKind.i64.wrap ((p : Int) + 1) = (p : Int) + 1 := IntWalk.i64_in _ ⟨by omega, by omega⟩
      have tn : ((p : Int) + 1).toNat = p + 1 := by omega
      have hz4 := hzr
      go_upto_region 6 with (at_builtin; go_must (refine wpList_app _ rfl _ _ _ rfl wb.heap.size 82 _ 4 40 Tryz.underlying79 info_Ac rfl (by omega) HO.out [.int .i64 2, .int .i64 0, .int .i64 0, .string _] rfl rfl rfl (four_mem rfl rfl rfl rfl) (by omega) (by omega) hz4 ?_); intro v4 w4 hown4 hb4 hg4 _; (obtain ⟨A4, q4, rfl⟩ := nb_slE hown4); (have Hown4 := Lib.hid hown4); (have Hb4 := Lib.hid hb4); clear hown4 hb4 hg4)
      obtain ⟨Y, hY⟩ : ∃ Y, Y = X ++ [Act3.call c] := ⟨_, rfl⟩
      have hYl : Y.length = X.length + 1 := by rw [hY]; simp
      have HY : Hid (w4.ownsRow wb.heap.size 82 4 (.slice A4 Y.length q4) Y.length (Y.flatMap Act3.c)) := Lib.hid (by
        have h := Hown4.out
        rw [hYl, hY, List.flatMap_append]
        exact h)
      have Hnext : Hid (∀ j, Y ++ List.replicate j Act3.step = X ++ ([] ++ (Act3.call c :: List.replicate j Act3.step))) := Lib.hid (fun j => by rw [hY]; simp)
      have HYl := Lib.hid hYl
      have hYf : Y.length ≤ 2600 := by omega
      rw [← hYl]
      have HB4 := Lib.hid (HB.out.trans Hb4.out)
      clear hY hYl hex
      have y2 := (Hm.out.to HB4.out hzm).at_ 2 rfl
      go_wp2_with fail
      clear y2
      obtain ⟨wo, rfl⟩ : ∃ wo : World, wo = wr := ⟨_, rfl⟩
      go_loopw [5, 25] (fun s i wx => ∃ (j : Nat) (A2 : Option Addr) (c2 : Nat), j ≤ m.l.length ∧ s = .slice A2 (Y ++ List.replicate j Act3.step).length c2 ∧ i = .int .i64 j ∧ Hid (wx.ownsRow wb.heap.size 82 4 (.slice A2 (Y ++ List.replicate j Act3.step).length c2) (Y ++ List.replicate j Act3.step).length ((Y ++ List.replicate j Act3.step).flatMap Act3.c)) ∧ Hid (Below wb.heap.size wb wx)) (fun _ i _ => m.l.length - (intOf i).toNat)
      case atStart => exact ⟨0, A4, q4, by omega, by rw [List.replicate_zero, List.append_nil], rfl, by rw [List.replicate_zero, List.append_nil]; exact HY, HB4⟩
      case round =>
        obtain ⟨j, A5, c5, hj, rfl, rfl, HOj, HBj⟩ := hrel
        have hz6 := HBj.out.size
        by_cases hjl : j < m.l.length
        · have hsn : Y ++ List.replicate (j + 1) Act3.step = (Y ++ List.replicate j Act3.step) ++ [Act3.step] := by rw [rep_snoc, List.append_assoc]
          have hZl : (Y ++ List.replicate j Act3.step).length ≤ 2700 := by rw [List.length_append, List.length_replicate]; omega
          obtain ⟨Z, hZ⟩ : ∃ Z, Z = Y ++ List.replicate j Act3.step := ⟨_, rfl⟩
          rw [← hZ] at hsn hZl HOj ⊢
          have Hsn := Lib.hid hsn
          clear hsn hZ
          go_wp2_with (at_builtin; go_must (refine wpList_app _ rfl _ _ _ rfl wb.heap.size 82 _ 4 40 Tryz.underlying79 info_Ac rfl (by omega) HOj.out [.int .i64 1, .int .i64 0, .int .i64 0, .string ⟨#[]⟩] rfl rfl rfl (four_mem rfl rfl rfl rfl) (by omega) (by omega) hz6 ?_); intro v6 w6 hown6 hb6 hg6 _; (obtain ⟨A6, q6, rfl⟩ := nb_slE hown6); (have Hown6 := Lib.hid hown6); (have Hb6 := Lib.hid hb6); clear hown6 hb6 hg6)
          refine ⟨⟨j + 1, A6, q6, hjl, ?_, by go_num, Lib.hid ?_, Lib.hid (HBj.out.trans Hb6.out)⟩, by simp [intOf]; omega⟩
          · rw [Hsn.out, List.length_append]; rfl
          · rw [Hsn.out, List.length_append, List.flatMap_append]
            exact Hown6.out
        · obtain rfl : j = m.l.length := by omega
          have Hnx := Lib.hid (Hnext.out m.l.length)
          go_wp2_with fail
          refine ⟨⟨p + 1, A5, c5, hlt, ?_, by go_num, ?_, HBj⟩, by simp [intOf]; omega⟩
          · rw [Htk.out, ← Hnx.out]
          · rw [Htk.out, ← Hnx.out]; exact HOj
    · obtain rfl : p = t.size := by omega
      have hle : L.take t.size = L := List.take_of_length_le (by rw [HLt.out]; exact Nat.le_refl _)
      rw [hle] at HO ⊢
      have HB9 := Lib.hid (Hw.out.trans (HB.out.mono (Nat.le_of_lt hzm)))
      clear hle
      go_wp2_with fail
      go_ret
      exact ⟨A2, c2, rfl, own_base HO.out (Nat.le_of_lt hzm), HB9.out⟩
end Go.Proofs.YtimeecimaokldaaGreatDoor
