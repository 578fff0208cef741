/- Contracts: the row of a band's ringers, as a text; both sides. (Printed by a program: tools/mkBX8.py.) -/
import Derived.Test.YtimeecimaokldaaGreatDoorPk25
namespace Go.Proofs.YtimeecimaokldaaGreatDoor
open Go Go.RowKit
set_option linter.unusedVariables false
set_option linter.unusedSimpArgs false

theorem app_nil (a : ByteArray) : a ++ (⟨#[]⟩ : ByteArray) = a := by
  apply ByteArray.ext
  simp
theorem nil_app (a : ByteArray) : (⟨#[]⟩ : ByteArray) ++ a = a := by
  apply ByteArray.ext
  simp
theorem rowP_size : ∀ {p j : Nat} {l : List (Nat × Bool)}, j + l.length ≤ 1000 → (rowP p j l).size ≤ 14 * l.length
  | p, j, [], h => by simp [rowP, ByteArray.size]
  | p, j, x :: l, h => by
    have ih := rowP_size (p := p) (j := j + 1) (l := l) (by simp at h; omega)
    have hs := numT_size (n := (j : Int) + 1) (by omega) (by simp at h; omega)
    rw [rowP, ByteArray.size_append, List.length_cons]
    split
    · omega
    · have : (⟨#[]⟩ : ByteArray).size = 0 := rfl
      omega
theorem rowP_take : ∀ {p j : Nat} {l : List (Nat × Bool)} {i : Nat} (h : i < l.length), rowP p j (l.take (i + 1)) = rowP p j (l.take i) ++ (if (l[i]).1 = p then numT (((j + i : Nat) : Int) + 1) else ⟨#[]⟩)
  | p, j, x :: l, 0, h => by simp [rowP, app_nil, nil_app]
  | p, j, x :: l, i + 1, h => by
    have ih := rowP_take (p := p) (j := j + 1) (l := l) (i := i) (by simpa using h)
    rw [List.take_succ_cons, List.take_succ_cons, rowP, rowP, ih, List.getElem_cons_succ, ByteArray.append_assoc, show j + 1 + i = j + (i + 1) by omega]
theorem rowsPl_size {rs : List (Nat × Bool)} (h : rs.length ≤ 8) : ∀ p, (rowsPl rs p).size ≤ 112 * p
  | 0 => by simp [rowsPl, ByteArray.size]
  | p + 1 => by
    have ih := rowsPl_size h p
    have := rowP_size (p := p + 1) (j := 0) (l := rs) (by omega)
    rw [rowsPl, ByteArray.size_append]
    omega

set_option maxRecDepth 100000 in
set_option maxHeartbeats 4000000 in
theorem rowOfBand_any (m : Mt) (k : Cl) (b : Bd) (v r : Value) (w : World) (hr : Sl w 2 r b.rs.length (b.rs.flatMap rsC)) (h8 : b.rs.length ≤ 8) (ht : Tab10 w) : Calls Tryz.prog 101 #[b.v m k v r] w fun e w' => e = .returned (.string (rowOf b)) ∧ Below w.heap.size w w' := by
  obtain ⟨bst, bca, btr, ro⟩ := b
  dsimp only at hr h8 
  obtain ⟨Ar, qr, rfl, hr1, hr2, hrr⟩ := hr
  unfold maxLen at hr2
  have HR := Lib.hid hrr
  have Hdec := Lib.hid (fun (n : Nat) W (hW : Below w.heap.size w W) (hn : n ≤ 100) => decimal_any (n : Int) W (by omega) (by omega) (ht.to hW))
  have Hlast : Hid (rowsPl ro ro.length = rowOf ⟨bst, bca, btr, ro⟩) := Lib.hid rfl
  have hsz := Lib.hid (rowsPl_size h8)
  have Hrow : Hid (∀ p, rowsPl ro (p + 1) = rowsPl ro p ++ rowP (p + 1) 0 (ro.take ro.length)) := Lib.hid (fun p => by rw [List.take_length]; rfl)
  obtain ⟨R, hR⟩ : ∃ R, R = rowOf ⟨bst, bca, btr, ro⟩ := ⟨_, rfl⟩
  rw [← hR] at Hlast ⊢
  clear hR hrr
  unfold Bd.v
  
  dsimp only
  clear ht
  go_enter Tryz.func101, Tryz.ntmps101
  go_upto_region 1 with fail
  refine box1 (C := fun W => Code.wp _ _ _ _ W) ?_
  intro wb hw k1 hB0
  obtain ⟨mst, hb⟩ : ∃ mst, Bc wb w.heap.size [.string m.name, mst, v, .string k.bob, .string k.single, .int .i64 bst, .string bca, .string btr, .slice Ar ro.length qr] 33 ∧ True := ⟨_, k1, trivial⟩
  obtain ⟨hb, hms⟩ := hb
  clear k1
  have hz1 := hb.blk
  
  go_wp2_with fail
  go_loopw [3, 4] (fun s i wx => ∃ p : Nat, p ≤ ro.length ∧ s = .string (rowsPl ro p) ∧ i = .int .i64 ((p : Int) + 1) ∧ Hid (Below wb.heap.size wb wx)) (fun _ i _ => ro.length + 1 - (intOf i).toNat)
  case atStart => exact ⟨0, by omega, rfl, rfl, Lib.hid hB0⟩
  case round =>
    obtain ⟨p, hp, rfl, rfl, HB⟩ := hrel
    have Q := hb.to HB.out hz1
    have y8 := Q.at_ 8 rfl
    
    have hs1 := hsz.out p
    have wp1 : IntKind.i64.wrap ((p : Int) + 1 + 1) = ((p + 1 : Nat) : Int) + 1 := by rw [IntWalk.i64_in _ ⟨by omega, by omega⟩]; omega
    by_cases hlt : p < ro.length
    · have hli : (p : Int) + 1 ≤ (ro.length : Int) := by omega
      have Hp := Lib.hid (Hrow.out p)
      obtain ⟨S, hS⟩ : ∃ S, S = rowsPl ro p := ⟨_, rfl⟩
      rw [← hS] at Hp hs1 ⊢
      clear hS Q
      go_wp2_with fail
      obtain ⟨wo, rfl⟩ : ∃ wo : World, wo = wr := ⟨_, rfl⟩
      go_loopw [3, 17] (fun s i wx => ∃ t : Nat, t ≤ ro.length ∧ s = .string (S ++ rowP (p + 1) 0 (ro.take t)) ∧ i = .int .i64 t ∧ Hid (Below wb.heap.size wb wx)) (fun _ i _ => ro.length - (intOf i).toNat)
      case atStart => exact ⟨0, by omega, by rw [List.take_zero]; exact (congrArg Value.string (app_nil S).symm), rfl, HB⟩
      case round =>
        obtain ⟨t, ht, rfl, rfl, HBt⟩ := hrel
        by_cases hlt2 : t < ro.length
        · obtain ⟨ad, rfl, hel⟩ := rs_el HR.out hlt2
          obtain ⟨z0, z1⟩ := hel wr (bw_to hw HBt.out)
          have Htk := Lib.hid (rowP_take (p := p + 1) (j := 0) hlt2)
          have hs2 := rowP_size (p := p + 1) (j := 0) (l := ro.take t) (by rw [List.length_take]; omega)
          rw [List.length_take] at hs2
          obtain ⟨⟨pl, d⟩, hpd⟩ : ∃ z, z = ro[t] := ⟨_, rfl⟩
          rw [← hpd, Nat.zero_add] at Htk
          rw [← hpd] at z0 z1
          clear hpd hel
          obtain ⟨T, hT⟩ : ∃ T, T = S ++ rowP (p + 1) 0 (ro.take t) := ⟨_, rfl⟩
          have hTs : T.size ≤ 1200 := by rw [hT, ByteArray.size_append]; omega
          have HT := Lib.hid hT
          rw [← hT]
          clear hT hs2 hs1
          have wi : IntKind.i64.wrap ((t : Int) + 1) = (t : Int) + 1 := IntWalk.i64_in _ ⟨by omega, by omega⟩
          go_upto_region 8 with fail
          refine box1 (C := fun W => Code.wp _ _ _ _ W) ?_
          intro wq hwq kq hBq
          have hBw : Below wb.heap.size wb wq := bw_to HBt.out hwq
          have hq : Bc wq wr.heap.size [.int .i64 pl, .bool d] 104 := kq
          have r0 := hq.at_ 0 rfl
          clear kq z0 z1 hq
          by_cases hpp : pl = p + 1
          · have d1 : ((pl : Int) == (p : Int) + 1) = true := by simp; omega
            rw [if_pos hpp] at Htk
            have Hd := Lib.hid (Hdec.out (t + 1) wq (bw_to hw hBw) (by omega))
            have ec : (((t + 1 : Nat) : Int)) = (t : Int) + 1 := by omega
            rw [ec] at Hd
            have hns := numT_size (n := (t : Int) + 1) (by omega) (by omega)
            obtain ⟨N, hN⟩ : ∃ N, N = numT ((t : Int) + 1) := ⟨_, rfl⟩
            rw [← hN] at Hd hns Htk
            have hov : ¬ 9223372036854775807 < T.size + N.size := by omega
            clear hpp ec hN
            go_wp2_with fail
            refine Hd.out.mono ?_; rintro e w5 ⟨rfl, hb5⟩
            have HB5 := Lib.hid (bw_to hBw hb5)
            clear r0
            go_wp2_with fail
            refine ⟨⟨t + 1, hlt2, ?_, by go_num, HB5⟩, by simp [intOf]; omega⟩
            rw [HT.out, Htk.out, ByteArray.append_assoc]
          · have d1 : ((pl : Int) == (p : Int) + 1) = false := by simp; omega
            rw [if_neg hpp, app_nil] at Htk
            have HBw := Lib.hid hBw
            clear hpp
            go_wp2_with fail
            refine ⟨⟨t + 1, hlt2, ?_, by go_num, HBw⟩, by simp [intOf]; omega⟩
            rw [HT.out, Htk.out]
        · obtain rfl : t = ro.length := by omega
          have He : Hid (rowsPl ro (p + 1) = S ++ rowP (p + 1) 0 (ro.take ro.length)) := Hp
          go_wp2_with fail
          exact ⟨⟨p + 1, by omega, by rw [He.out], by first | rfl | (go_num), HBt⟩, by simp [intOf]; omega⟩
    · obtain rfl : p = ro.length := by omega
      have hli : ¬ (ro.length : Int) + 1 ≤ (ro.length : Int) := by omega
      rw [Hlast.out]
      have HBB := Lib.hid (bw_to hw HB.out)
      clear Q
      go_wp2_with fail
      go_ret
      exact ⟨rfl, HBB.out⟩
set_option maxRecDepth 100000 in
set_option maxHeartbeats 4000000 in
theorem l24Row_any (m : Mt) (k : Cl) (b : Bd) (v r : Value) (w : World) (hr : Sl w 2 r b.rs.length (b.rs.flatMap rsC)) (h8 : b.rs.length ≤ 8) (hsg : m.stage = (b.rs.length : Int)) : Calls Tryz.prog 94 #[b.v m k v r] w fun e w' => e = .returned (.string (rowOf b)) ∧ Below w.heap.size w w' := by
  obtain ⟨bst, bca, btr, ro⟩ := b
  dsimp only at hr h8 hsg
  obtain ⟨Ar, qr, rfl, hr1, hr2, hrr⟩ := hr
  unfold maxLen at hr2
  have HR := Lib.hid hrr
  have Hdec := Lib.hid (fun (n : Nat) W (hW : Below w.heap.size w W) (hn : n ≤ 100) => l1Num_any n W (by omega))
  have Hlast : Hid (rowsPl ro ro.length = rowOf ⟨bst, bca, btr, ro⟩) := Lib.hid rfl
  have hsz := Lib.hid (rowsPl_size h8)
  have Hrow : Hid (∀ p, rowsPl ro (p + 1) = rowsPl ro p ++ rowP (p + 1) 0 (ro.take ro.length)) := Lib.hid (fun p => by rw [List.take_length]; rfl)
  obtain ⟨R, hR⟩ : ∃ R, R = rowOf ⟨bst, bca, btr, ro⟩ := ⟨_, rfl⟩
  rw [← hR] at Hlast ⊢
  clear hR hrr
  unfold Bd.v
  rw [hsg]
  dsimp only
  clear hsg
  go_enter Tryz.func94, Tryz.ntmps94
  go_upto_region 1 with fail
  refine box1 (C := fun W => Code.wp _ _ _ _ W) ?_
  intro wb hw k1 hB0
  obtain ⟨mst, hb⟩ : ∃ mst, Bc wb w.heap.size [.string m.name, mst, v, .string k.bob, .string k.single, .int .i64 bst, .string bca, .string btr, .slice Ar ro.length qr] 33 ∧ mst = .int .i64 ro.length := ⟨_, k1, rfl⟩
  obtain ⟨hb, hms⟩ := hb
  clear k1
  have hz1 := hb.blk
  subst hms
  go_wp2_with fail
  go_loopw [3, 4] (fun s i wx => ∃ p : Nat, p ≤ ro.length ∧ s = .string (rowsPl ro p) ∧ i = .int .i64 ((p : Int) + 1) ∧ Hid (Below wb.heap.size wb wx)) (fun _ i _ => ro.length + 1 - (intOf i).toNat)
  case atStart => exact ⟨0, by omega, rfl, rfl, Lib.hid hB0⟩
  case round =>
    obtain ⟨p, hp, rfl, rfl, HB⟩ := hrel
    have Q := hb.to HB.out hz1
    have y8 := Q.at_ 8 rfl
    have y1 := Q.at_ 1 rfl
    have hs1 := hsz.out p
    have wp1 : IntKind.i64.wrap ((p : Int) + 1 + 1) = ((p + 1 : Nat) : Int) + 1 := by rw [IntWalk.i64_in _ ⟨by omega, by omega⟩]; omega
    by_cases hlt : p < ro.length
    · have hli : (p : Int) + 1 ≤ (ro.length : Int) := by omega
      have Hp := Lib.hid (Hrow.out p)
      obtain ⟨S, hS⟩ : ∃ S, S = rowsPl ro p := ⟨_, rfl⟩
      rw [← hS] at Hp hs1 ⊢
      clear hS Q
      go_wp2_with fail
      obtain ⟨wo, rfl⟩ : ∃ wo : World, wo = wr := ⟨_, rfl⟩
      go_loopw [3, 17] (fun s i wx => ∃ t : Nat, t ≤ ro.length ∧ s = .string (S ++ rowP (p + 1) 0 (ro.take t)) ∧ i = .int .i64 t ∧ Hid (Below wb.heap.size wb wx)) (fun _ i _ => ro.length - (intOf i).toNat)
      case atStart => exact ⟨0, by omega, by rw [List.take_zero]; exact (congrArg Value.string (app_nil S).symm), rfl, HB⟩
      case round =>
        obtain ⟨t, ht, rfl, rfl, HBt⟩ := hrel
        by_cases hlt2 : t < ro.length
        · obtain ⟨ad, rfl, hel⟩ := rs_el HR.out hlt2
          obtain ⟨z0, z1⟩ := hel wr (bw_to hw HBt.out)
          have Htk := Lib.hid (rowP_take (p := p + 1) (j := 0) hlt2)
          have hs2 := rowP_size (p := p + 1) (j := 0) (l := ro.take t) (by rw [List.length_take]; omega)
          rw [List.length_take] at hs2
          obtain ⟨⟨pl, d⟩, hpd⟩ : ∃ z, z = ro[t] := ⟨_, rfl⟩
          rw [← hpd, Nat.zero_add] at Htk
          rw [← hpd] at z0 z1
          clear hpd hel
          obtain ⟨T, hT⟩ : ∃ T, T = S ++ rowP (p + 1) 0 (ro.take t) := ⟨_, rfl⟩
          have hTs : T.size ≤ 1200 := by rw [hT, ByteArray.size_append]; omega
          have HT := Lib.hid hT
          rw [← hT]
          clear hT hs2 hs1
          have wi : IntKind.i64.wrap ((t : Int) + 1) = (t : Int) + 1 := IntWalk.i64_in _ ⟨by omega, by omega⟩
          go_upto_region 8 with fail
          refine box1 (C := fun W => Code.wp _ _ _ _ W) ?_
          intro wq hwq kq hBq
          have hBw : Below wb.heap.size wb wq := bw_to HBt.out hwq
          have hq : Bc wq wr.heap.size [.int .i64 pl, .bool d] 104 := kq
          have r0 := hq.at_ 0 rfl
          clear kq z0 z1 hq
          by_cases hpp : pl = p + 1
          · have d1 : ((pl : Int) == (p : Int) + 1) = true := by simp; omega
            rw [if_pos hpp] at Htk
            have Hd := Lib.hid (Hdec.out (t + 1) wq (bw_to hw hBw) (by omega))
            have ec : (((t + 1 : Nat) : Int)) = (t : Int) + 1 := by omega
            rw [ec] at Hd
            have hns := numT_size (n := (t : Int) + 1) (by omega) (by omega)
            obtain ⟨N, hN⟩ : ∃ N, N = numT ((t : Int) + 1) := ⟨_, rfl⟩
            rw [← hN] at Hd hns Htk
            have hov : ¬ 9223372036854775807 < T.size + N.size := by omega
            clear hpp ec hN
            go_wp2_with fail
            refine Hd.out.mono ?_; rintro e w5 ⟨rfl, hb5⟩
            have HB5 := Lib.hid (bw_to hBw hb5)
            clear r0
            go_wp2_with fail
            refine ⟨⟨t + 1, hlt2, ?_, by go_num, HB5⟩, by simp [intOf]; omega⟩
            rw [HT.out, Htk.out, ByteArray.append_assoc]
          · have d1 : ((pl : Int) == (p : Int) + 1) = false := by simp; omega
            rw [if_neg hpp, app_nil] at Htk
            have HBw := Lib.hid hBw
            clear hpp
            go_wp2_with fail
            refine ⟨⟨t + 1, hlt2, ?_, by go_num, HBw⟩, by simp [intOf]; omega⟩
            rw [HT.out, Htk.out]
        · obtain rfl : t = ro.length := by omega
          have He : Hid (rowsPl ro (p + 1) = S ++ rowP (p + 1) 0 (ro.take ro.length)) := Hp
          go_wp2_with fail
          exact ⟨⟨p + 1, by omega, by rw [He.out], by first | rfl | (go_num), HBt⟩, by simp [intOf]; omega⟩
    · obtain rfl : p = ro.length := by omega
      have hli : ¬ (ro.length : Int) + 1 ≤ (ro.length : Int) := by omega
      rw [Hlast.out]
      have HBB := Lib.hid (bw_to hw HB.out)
      clear Q
      go_wp2_with fail
      go_ret
      exact ⟨rfl, HBB.out⟩
end Go.Proofs.YtimeecimaokldaaGreatDoor
