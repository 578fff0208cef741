/- KindOf: the program's. -/
import Derived.Test.YtpkpahadjdkafaaPk28
namespace Go.Proofs.Ytpkpahadjdkafaa
open Go Go.RowKit
set_option linter.unusedVariables false
set_option linter.unusedSimpArgs false

theorem kindT_join (a b c d : ByteArray) : (⟨(Lib.join ([a, b, c, d].map (·.data.toList)) tSp.data.toList).toArray⟩ : ByteArray) = kindT a b c d := by
  apply bytes_ext
  simp [Lib.join, kindT, tSp, ByteArray.data_append]
theorem joinedK_any (g : Nat) (a b c d : ByteArray) (base : Nat) (w : World) (h : w.ownsRow base 9 1 (.slice (some ⟨g, 0, none⟩) 4 4) 4 ([a, b, c, d].map Value.string)) (hs : a.size + b.size + c.size + d.size ≤ 100) : Calls Try.prog 98 #[.slice (some ⟨g, 0, none⟩) 4 4, .string tSp] w fun e w' => e = .returned (.string (kindT a b c d)) ∧ Below w.heap.size w w' := by
  have hj := kindT_join a b c d
  have hsz : (Lib.join ([a, b, c, d].map (·.data.toList)) tSp.data.toList).length ≤ 140737488355328 := by
    have e : (Lib.join ([a, b, c, d].map (·.data.toList)) tSp.data.toList).length = (kindT a b c d).size := by
      rw [← hj]; show _ = (Lib.join ([a, b, c, d].map (·.data.toList)) tSp.data.toList).toArray.size; simp
    rw [e]
    unfold kindT
    simp only [ByteArray.size_append]
    have : tSp.size = 1 := rfl
    omega
  have hc := Try.strings_Join g 0 4 [a, b, c, d] tSp w (fun j x hx => by
    have hjl := (List.getElem?_eq_some_iff.1 hx).1
    have h2 := h.cellAt j (by simpa using hjl)
    rw [Nat.zero_add]
    rw [h2, List.getElem?_map, hx]; rfl) (h.lt g rfl).2 (by simp) (by simp) hsz
  rw [hj] at hc
  have Hc := Lib.hid hc
  clear hc
  unfold tSp at Hc ⊢
  go_enter Try.func98, Try.ntmps98
  go_wp2_with fail
  refine Hc.out.mono ?_; rintro e w' ⟨rfl, hb'⟩
  go_wp2_with fail
  go_ret
  exact ⟨rfl, hb'⟩
theorem grow_setB {a w : World} {B : Nat} (h : Below B a w) {g j : Nat} (hg : B ≤ g) (u : Value) : Below B a (w.setCell ⟨g, j, none⟩ u) := h.setCell (p := ⟨g, j, none⟩) hg u
/-- The words' row stands; all below it is as it was. -/
structure KS (B : Nat) (wb W : World) (a b c d : ByteArray) : Prop where
  low : Below B wb W
  big : wb.heap.size ≤ W.heap.size
  own : W.ownsRow B 9 1 (.slice (some ⟨B, 0, none⟩) 4 4) 4 ([a, b, c, d].map Value.string)
theorem KS.to {B : Nat} {wb W W' : World} {a b c d : ByteArray} (h : KS B wb W a b c d) (hB : B ≤ W.heap.size) (hb : Below W.heap.size W W') : KS B wb W' a b c d :=
  ⟨h.low.trans (hb.mono hB), Nat.le_trans h.big hb.size, own_to h.own hb⟩
theorem KS.cell {B : Nat} {wb W : World} {a b c d : ByteArray} (h : KS B wb W a b c d) (j : Nat) (hj : j < 4) : ∃ y, W.cell? ⟨B, j, none⟩ = some y := own_some h.own (by omega)
theorem KS.fr {B : Nat} {wb W : World} {a b c d : ByteArray} (h : KS B wb W a b c d) (j : Nat) : W.frozen? ⟨B, j, none⟩ = false := h.own.frozenAt j
theorem KS.set0 {B : Nat} {wb W : World} {a b c d : ByteArray} (h : KS B wb W a b c d) (x : ByteArray) : KS B wb (W.setCell ⟨B, 0, none⟩ (.string x)) x b c d :=
  ⟨grow_setB h.low (Nat.le_refl _) _, by simp [World.setCell]; exact h.big, own_set h.own 0 _⟩
theorem KS.set1 {B : Nat} {wb W : World} {a b c d : ByteArray} (h : KS B wb W a b c d) (x : ByteArray) : KS B wb (W.setCell ⟨B, 1, none⟩ (.string x)) a x c d :=
  ⟨grow_setB h.low (Nat.le_refl _) _, by simp [World.setCell]; exact h.big, own_set h.own 1 _⟩
theorem KS.set2 {B : Nat} {wb W : World} {a b c d : ByteArray} (h : KS B wb W a b c d) (x : ByteArray) : KS B wb (W.setCell ⟨B, 2, none⟩ (.string x)) a b x d :=
  ⟨grow_setB h.low (Nat.le_refl _) _, by simp [World.setCell]; exact h.big, own_set h.own 2 _⟩
theorem KS.set3 {B : Nat} {wb W : World} {a b c d : ByteArray} (h : KS B wb W a b c d) (x : ByteArray) : KS B wb (W.setCell ⟨B, 3, none⟩ (.string x)) a b c x :=
  ⟨grow_setB h.low (Nat.le_refl _) _, by simp [World.setCell]; exact h.big, own_set h.own 3 _⟩
set_option maxRecDepth 100000 in
set_option maxHeartbeats 8000000 in
theorem kindOf_any (m : Mt) (v : Value) (n K : Nat) (w : World) (hK : MK m n K) (h : MethAt w m v) (hs : MtSmall m) : Calls Try.prog 61 #[m.v v] w fun e w' =>
    e = .returned (.string (kindT (kw0 m n K) (kw1 m n) (kw2 m n) (kw3 m))) ∧ Below w.heap.size w w' := by
  have Hcr := Lib.hid (fun W (hW : Below w.heap.size w W) => implCourseRows_any m v n K W hK (h.to hW) hs)
  have Htr : Hid (∀ V W, Strs W V (crsL m n K) → Calls Try.prog 95 #[V] W fun e w' => e = .returned (.bool (decide (crsL m n K).Nodup)) ∧ Below W.heap.size W w') := Lib.hid (fun V W hV => isTrue_any V (crsL m n K) W hV (Nat.le_trans (crs_len hK) (by omega)) (fun s hs => by
    unfold crsL at hs
    split at hs
    · have := (rows_in hK s hs).1; have := hK.g.hi; omega
    · cases hs))
  have hn := hK.g.hi
  have hst := hK.g.st
  have Hru := Lib.hid (fun W (hW : Below w.heap.size w W) => rowsUnder_any (roundsB n) v m.l n W hn (rounds_in hn) (h.1.to hW) (by have := hK.g.len; omega) hK.g.ok)
  have Hst := Lib.hid (fun V W hV => still_any n V (scanB (roundsB n) m.l) W hn hV (scanB_in hn m.l (rounds_in hn)))
  have Hsl := Lib.hid (scan_len m.l (roundsB n))
  have Hst1 := Lib.hid (fun V W hV => still_any n V [runB (roundsB n) m.l] W hn hV (fun r hr => by rw [List.mem_singleton.1 hr]; exact hK.hin))
  have Hhd := Lib.hid (fun W (hW : Below w.heap.size w W) => leadHead_any m v n W hK.g (h.1.to hW))
  have Hev := Lib.hid (fun W => even_any (runB (roundsB n) m.l) W (by rw [hK.hin.1]; omega))
  have Hpa := Lib.hid (fun W (hW : Below w.heap.size w W) => palindrome_any m v n W hK.g (h.to hW))
  have Hd0 : Hid (kw0 m n K = if K * m.l.length ≤ 800 then (if (crsL m n K).Nodup then tTrue else tFalse) else tLong) := Lib.hid rfl
  have Hd1 : Hid (kw1 m n = if 0 < (stillL n (scanB (roundsB n) m.l)).length then tStill else if 0 < (stillL n [runB (roundsB n) m.l]).length then tHunt else tPrin) := Lib.hid rfl
  have Hd2 : Hid (kw2 m n = if evenB (runB (roundsB n) m.l) = true then tEven else tOdd) := Lib.hid rfl
  have Hd3 : Hid (kw3 m = if palM m = true then tMirr else tPlain) := Lib.hid rfl
  have hz0 := kw0_size m n K
  have hz1 := kw1_size m n
  have hz2 := kw2_size m n
  have hz3 := kw3_size m
  obtain ⟨C, hC⟩ : ∃ C, C = crsL m n K := ⟨_, rfl⟩
  obtain ⟨R, hR⟩ : ∃ R, R = scanB (roundsB n) m.l := ⟨_, rfl⟩
  obtain ⟨H, hH⟩ : ∃ H, H = runB (roundsB n) m.l := ⟨_, rfl⟩
  simp only [← hH, ← hR] at Hst1 Hhd Hev Hd1 Hd2 Hst Hsl Hru
  obtain ⟨S, hS⟩ : ∃ S, S = stillL n R := ⟨_, rfl⟩
  obtain ⟨T, hT⟩ : ∃ T, T = stillL n [H] := ⟨_, rfl⟩
  obtain ⟨E, hE⟩ : ∃ E, E = evenB H := ⟨_, rfl⟩
  obtain ⟨P, hP⟩ : ∃ P, P = palM m := ⟨_, rfl⟩
  obtain ⟨u, hu⟩ : ∃ u, u = decide (K * m.l.length ≤ 800) := ⟨_, rfl⟩
  have hu2 : (K * m.l.length ≤ 800) ↔ u = true := by rw [hu, decide_eq_true_eq]
  obtain ⟨a0, ha0⟩ : ∃ a, a = kw0 m n K := ⟨_, rfl⟩
  obtain ⟨a1, ha1⟩ : ∃ a, a = kw1 m n := ⟨_, rfl⟩
  obtain ⟨a2, ha2⟩ : ∃ a, a = kw2 m n := ⟨_, rfl⟩
  obtain ⟨a3, ha3⟩ : ∃ a, a = kw3 m := ⟨_, rfl⟩
  simp only [← hC, ← hS, ← hT, ← hE, ← hP, ← hu, hu2, ← ha0, ← ha1, ← ha2, ← ha3] at Hcr Htr Hst Hst1 Hhd Hev Hpa Hd0 Hd1 Hd2 Hd3 hz0 hz1 hz2 hz3 ⊢
  obtain ⟨A, c, hv⟩ := h.form
  subst hv
  unfold Mt.v at *
  rw [hst] at *
  clear h hK hC hS hT hE hP hH hR hu hu2 ha0 ha1 ha2 ha3 hst
  go_enter Try.func61, Try.ntmps61
  go_wp2_with fail
  refine box2 (C := fun W => Calls _ _ _ W _) ?_
  intro wb hw k1 k2 hB0
  have hlt := blk_lt k2
  have RB := fun i W hW => boxRuleB k1 (Nat.lt_succ_self _) W i hW
  have hks0 : KS (w.heap.size + 1) wb wb tLong tPrin tOdd tPlain := ⟨Below.refl _ _, Nat.le_refl _, own_of_heap k2 (Nat.le_refl _) (by unfold maxLen; omega) rfl⟩
  have hlow : ∀ W, Below (w.heap.size + 1) wb W → Below w.heap.size w W := fun W hW => hw.trans (hW.mono (Nat.le_succ _))
  have Hlow := Lib.hid hlow
  clear k1 k2 hlow
  refine (Hcr.out _ hw).mono ?_; rintro e w2 ⟨A2, q2, rfl, hown2, hb2⟩
  have hks2 := hks0.to (Nat.le_of_lt hlt) hb2
  have hSC3 : Strs (w2.setCell ⟨w.heap.size + 1, 0, none⟩ (.string tFalse)) (.slice A2 C.length q2) C := strs_of_own (own_past hown2 hlt _ _)
  clear hown2 Hcr
  go_upto_if 13 with fail
  go_cut [13] (fun s13 wx => KS (w.heap.size + 1) wb wx a0 tPrin tOdd tPlain)
  case first =>
    obtain ⟨y0, c0⟩ := hks2.cell 0 (by omega)
    have f0 := hks2.fr 0
    cases u
    · rw [if_neg (by decide)] at Hd0
      go_wp2_with fail
      go_meet
      rw [Hd0.out]; exact hks2
    · rw [if_pos rfl] at Hd0
      have hks3 := hks2.set0 tFalse
      have Hx := Lib.hid (Htr.out _ _ hSC3)
      unfold tFalse at Hx hks3
      unfold tTrue tFalse at Hd0
      go_wp2_with fail
      refine Hx.out.mono ?_; rintro e w3 ⟨rfl, hb3⟩
      have hks4 := hks3.to (by have := hks3.big; omega) hb3
      obtain ⟨y1, c1⟩ := hks4.cell 0 (by omega)
      have f1 := hks4.fr 0
      clear c0 f0 hks3
      by_cases hnd : C.Nodup
      · rw [if_pos hnd] at Hd0
        rw [decide_eq_true hnd]
        clear hnd
        have hks5 := hks4.set0 a0
        rw [Hd0.out] at hks5
        go_wp2_with fail
        go_meet
        rw [Hd0.out]; exact hks5
      · rw [if_neg hnd] at Hd0
        rw [decide_eq_false hnd]
        clear hnd
        go_wp2_with fail
        go_meet
        rw [Hd0.out]; exact hks4
  case rest =>
    have hksa := hcut
    have R4 := fun i => RB i _ hksa.low
    clear hks2 hSC3 Htr hks0
    go_wp2_with fail
    refine (Hhd.out _ (Hlow.out _ hksa.low)).mono ?_; rintro e w6 ⟨rfl, hb6⟩
    have hksb := hksa.to (by have := hksa.big; omega) hb6
    have R5 := fun (i : Nat) (W : World) (hW : Below w6.heap.size w6 W) => RB i W (hksb.low.trans (hW.mono (by have := hksb.big; omega)))
    clear R4 hksa
    go_upto_block 0 with fail
    go_cut [22] (fun s22 wx => KS (w.heap.size + 1) wb wx a0 a1 tOdd tPlain)
    case first =>
      go_upto_region 8 with fail
      go_cut [22] (fun s22 wx => s22 = .bool (decide (0 < S.length)) ∧ Below w6.heap.size w6 wx)
      case first =>
        have hb60 : Below w6.heap.size w6 w6 := Below.refl _ _
        have hdr : Below w6.heap.size w6 w6.drew := Below.drew (Below.refl _ _)
        have R6 := fun i => R5 i w6 (Below.refl _ _)
        have hbL : ∀ W, Below w6.heap.size w6 W → Below w.heap.size w W := fun W hW => Hlow.out _ (hksb.low.trans (hW.mono (by have := hksb.big; omega)))
        go_region_held3 (fun W => Below w6.heap.size w6 W) (first | with_reducible assumption | exact Below.drew (by assumption) | exact bw_to (by assumption) hb')
          (first | (go_at_call 67; refine (rounds_any n _ hn).mono ?_; rintro e w' ⟨rfl, rfl⟩) | (go_at_call 66; refine (Hru.out _ (hbL _ (by assumption))).mono ?_; rintro e w' ⟨A7, q7, rfl, hown, hb'⟩; (have hS := strs_of_own (by rw [Hsl.out]; exact hown))) | (go_at_call 65; refine (Hst.out _ _ hS).mono ?_; rintro e w' ⟨A8, q8, rfl, hown8, hb'⟩))
        all_goals
          have hBB : Below w6.heap.size w6 w' := by assumption
          clear hown hown8 hS
          go_wp2_with fail
          go_meet
          exact ⟨by simp, hBB⟩
      case rest =>
        obtain ⟨rfl, hBx⟩ := hcut
        have hksc := hksb.to (by have := hksb.big; omega) hBx
        have R6 := fun i => R5 i _ hBx
        obtain ⟨y0, c0⟩ := hksc.cell 1 (by omega)
        have f0 := hksc.fr 1
        by_cases h1 : 0 < S.length
        · rw [if_pos h1] at Hd1
          rw [decide_eq_true h1]
          unfold tStill at Hd1
          have hks5 := hksc.set1 a1
          rw [Hd1.out] at hks5
          go_wp2_with fail
          go_meet
          rw [Hd1.out]; exact hks5
        · rw [if_neg h1] at Hd1
          rw [decide_eq_false h1]
          clear c0 f0
          go_wp2_with fail
          refine box1 (C := fun W => Calls _ _ _ W _) ?_
          intro wy hwy k5 hBy
          have hown1 : wy.ownsRow wc.heap.size 9 1 (.slice (some ⟨wc.heap.size, 0, none⟩) 1 1) 1 ([H].map Value.string) := own_of_heap k5 (Nat.le_refl _) (by unfold maxLen; omega) rfl
          have hksd := hksc.to (by have := hksc.big; omega) hwy
          have hS1 : Strs wy (.slice (some ⟨wc.heap.size, 0, none⟩) 1 1) [H] := strs_of_own hown1
          clear k5 hown1
          refine (Hst1.out _ _ hS1).mono ?_; rintro e w9 ⟨A9, q9, rfl, hown9, hb9⟩
          have hkse := hksd.to (by have := hksd.big; omega) hb9
          obtain ⟨y0, c0⟩ := hkse.cell 1 (by omega)
          have f0 := hkse.fr 1
          clear hown9 hS1
          by_cases h2 : 0 < T.length
          · rw [if_pos h2] at Hd1
            have hd : decide ((0 : Int) < (T.length : Int)) = true := decide_eq_true (by omega)
            unfold tHunt at Hd1
            have hks5 := hkse.set1 a1
            rw [Hd1.out] at hks5
            go_wp2_with fail
            go_meet
            rw [Hd1.out]; exact hks5
          · rw [if_neg h2] at Hd1
            have hd : decide ((0 : Int) < (T.length : Int)) = false := decide_eq_false (by omega)
            go_wp2_with fail
            go_meet
            rw [Hd1.out]; exact hkse
    case rest =>
      have hksf := hcut
      clear hksb R5
      go_wp2_with fail
      refine (Hev.out _).mono ?_; rintro e w7 ⟨rfl, hb7⟩
      have hksg := hksf.to (by have := hksf.big; omega) hb7
      go_upto_if 47 with fail
      go_cut [47] (fun s47 wx => KS (w.heap.size + 1) wb wx a0 a1 a2 tPlain)
      case first =>
        obtain ⟨y0, c0⟩ := hksg.cell 2 (by omega)
        have f0 := hksg.fr 2
        cases E
        · rw [if_neg (by decide)] at Hd2
          go_wp2_with fail
          go_meet
          rw [Hd2.out]; exact hksg
        · rw [if_pos rfl] at Hd2
          unfold tEven at Hd2
          have hks5 := hksg.set2 a2
          rw [Hd2.out] at hks5
          go_wp2_with fail
          go_meet
          rw [Hd2.out]; exact hks5
      case rest =>
        have hksh := hcut
        have R7 := fun i => RB i _ hksh.low
        clear hksf hksg
        go_wp2_with fail
        refine (Hpa.out _ (Hlow.out _ hksh.low)).mono ?_; rintro e w8 ⟨rfl, hb8⟩
        have hksi := hksh.to (by have := hksh.big; omega) hb8
        clear R7 hksh
        go_upto_if 51 with fail
        go_cut [51] (fun s51 wx => KS (w.heap.size + 1) wb wx a0 a1 a2 a3)
        case first =>
          obtain ⟨y0, c0⟩ := hksi.cell 3 (by omega)
          have f0 := hksi.fr 3
          cases P
          · rw [if_neg (by decide)] at Hd3
            go_wp2_with fail
            go_meet
            rw [Hd3.out]; exact hksi
          · rw [if_pos rfl] at Hd3
            unfold tMirr at Hd3
            have hks5 := hksi.set3 a3
            rw [Hd3.out] at hks5
            go_wp2_with fail
            go_meet
            rw [Hd3.out]; exact hks5
        case rest =>
          have hksj := hcut
          have Hj := Lib.hid (joinedK_any (w.heap.size + 1) a0 a1 a2 a3 _ _ hksj.own (by omega))
          unfold tSp at Hj
          clear hksi
          go_wp2_with fail
          refine Hj.out.mono ?_; rintro e w9 ⟨rfl, hb9⟩
          go_wp2_with fail
          go_ret
          exact ⟨rfl, (Hlow.out _ (hksj.low.trans (hb9.mono (by have := hksj.big; omega))))⟩
end Go.Proofs.Ytpkpahadjdkafaa
