/- Contract: the reference's reader of a place notation: a block. -/
import Derived.Test.YtenhnloljdfjhaaDoorPk35
namespace Go.Proofs.YtenhnloljdfjhaaDoor
open Go Go.RowKit
set_option linter.unusedVariables false
set_option linter.unusedSimpArgs false

/-- How a block stands behind a good word: c was read from i on. -/
def BlkAt (n : Int) (s : ByteArray) (k : Nat) (L : List ByteArray) (j : Nat) : Prop := ∃ i acc c, L = acc ++ [c] ∧ chgO n (txF s i) = some (c, txF s (i + tkn s i)) ∧ 0 < tkn s i ∧ j = i + tkn s i ∧ k ≤ i ∧ acc.length + k ≤ i ∧ j ≤ s.size ∧
  blkW n (txF s k) = (blkW n (txF s i)).map (fun p => (acc ++ p.1, p.2))
theorem blkAt_first {n : Int} {s : ByteArray} {k : Nat} {c : ByteArray} (h : chgO n (txF s k) = some (c, txF s (k + tkn s k))) (h0 : 0 < tkn s k) (h1 : k + tkn s k ≤ s.size) : BlkAt n s k ([] ++ [c]) (k + tkn s k) :=
  ⟨k, [], c, rfl, h, h0, rfl, Nat.le_refl _, by simp, h1, by cases blkW n (txF s k) with | none => rfl | some p => rfl⟩
theorem blkAt_stop {n : Int} {s : ByteArray} {k j : Nat} {L : List ByteArray} (h : BlkAt n s k L j) (he : endY s j = true) : blkW n (txF s k) = some (L, txF s j) ∧ k < j ∧ j ≤ s.size ∧ L.length ≤ s.size + 1 := by
  obtain ⟨i, acc, c, rfl, hc, h0, rfl, hk, hl, hs, hb⟩ := h
  rw [hb, blk_stop hc he]
  exact ⟨rfl, by omega, hs, by simp; omega⟩
theorem blkAt_len {n : Int} {s : ByteArray} {k j : Nat} {L : List ByteArray} (h : BlkAt n s k L j) : L.length + k ≤ j ∧ k < j ∧ j ≤ s.size := by
  obtain ⟨i, acc, c, rfl, hc, h0, rfl, hk, hl, hs, hb⟩ := h
  simp; omega
theorem blkAt_no {n : Int} {s : ByteArray} {k j : Nat} {L : List ByteArray} (h : BlkAt n s k L j) (hj : j < s.size) (h44 : ¬ s[j] = 44) (hno : chgO n (txF s (if s[j] = 46 then j + 1 else j)) = none) : blkW n (txF s k) = none := by
  obtain ⟨i, acc, c, rfl, hc, h0, rfl, hk, hl, hs, hb⟩ := h
  rw [hb, blk_go hc hj h44, blkW_none hno]
  rfl
theorem blkAt_more {n : Int} {s : ByteArray} {k j j' : Nat} {L : List ByteArray} {c : ByteArray} (h : BlkAt n s k L j) (hj : j < s.size) (h44 : ¬ s[j] = 44) (hj' : j' = if s[j] = 46 then j + 1 else j) (hc' : chgO n (txF s j') = some (c, txF s (j' + tkn s j'))) (h0' : 0 < tkn s j') (h1' : j' + tkn s j' ≤ s.size) : BlkAt n s k (L ++ [c]) (j' + tkn s j') := by
  obtain ⟨i, acc, c1, rfl, hc, h0, rfl, hk, hl, hs, hb⟩ := h
  have hjj : i + tkn s i ≤ j' := by rw [hj']; split <;> omega
  refine ⟨j', acc ++ [c1], c, rfl, hc', h0', rfl, by omega, by simp; omega, h1', ?_⟩
  rw [hb, blk_go hc hj h44, ← hj', Option.map_map]
  cases blkW n (txF s j') with
  | none => rfl
  | some p => simp
/-- Behind a word of digits no digit stands. -/
theorem blkAt_next {n : Int} {s : ByteArray} {k j : Nat} {L : List ByteArray} (h : BlkAt n s k L j) (hj : j < s.size) : s[j - 1]'(by omega) = 45 ∨ s[j - 1]'(by omega) = 120 ∨ digY s[j] = false := by
  obtain ⟨i, acc, c1, rfl, hc, h0, rfl, hk, hl, hs, hb⟩ := h
  exact tok_next h0 hj
def badOf (g : Nat) (w : World) (m : Nat) : Nat := match w.cell? ⟨g, 4, none⟩ with
  | some (.int _ z) => if z < 0 then m else 0
  | _ => 0
theorem badOf_is {w : World} {B g : Nat} {n : Int} {s : ByteArray} {k : Nat} {L : List ByteArray} {bad : Int} (h : RBox w B g n s k L bad) (m : Nat) : badOf g w m = if bad < 0 then m else 0 := by
  unfold badOf
  rw [h.cells.2.2.2]
/-- What reading a block leaves. -/
def RBkPost (w : World) (g : Nat) (n : Int) (s : ByteArray) (k : Nat) (e : Ending) (w' : World) : Prop := e = .returned (.tuple #[]) ∧ w.grownBy w' (some g) ∧
  ((blkW n (txF s k) = none ∧ ∃ (at' bad : Nat) (L : List ByteArray), at' ≤ s.size ∧ RBox w' w.heap.size g n s at' L bad) ∨
   ∃ L k', blkW n (txF s k) = some (L, txF s k') ∧ k < k' ∧ k' ≤ s.size ∧ L.length ≤ s.size + 1 ∧ RBox w' w.heap.size g n s k' L (-1))
set_option maxRecDepth 100000 in
set_option maxHeartbeats 8000000 in
theorem rblock_any (w : World) (g : Nat) (n : Int) (s : ByteArray) (k : Nat) (h : RBox w w.heap.size g n s k [] (-1)) (hk : k ≤ s.size) (hs : s.size ≤ 1000000) (hn : 3 ≤ n ∧ n ≤ 8) :
    Calls Tryd.prog 25 #[.pointer (some ⟨g, 0, none⟩)] w (RBkPost w g n s k) := by
  have hg := h.lt
  have Hw := Lib.hid (word_any w w.heap.size g n s k [] h hg (Nat.le_refl _) hk (by simp) hs hn)
  clear h
  go_enter Tryd.func25, Tryd.ntmps25
  go_wp2_with fail
  refine Hw.out.mono ?_
  rintro e w1 ⟨rfl, hO1, hC1⟩
  have hst : (blkW n (txF s k) = none ∧ ∃ (at' bad : Nat), at' ≤ s.size ∧ RBox w1 w.heap.size g n s at' [] bad) ∨ ∃ L j, BlkAt n s k L j ∧ RBox w1 w.heap.size g n s j L (-1) := by
    rcases hC1 with ⟨hc, at', ha, hR⟩ | ⟨c, hc, h0, h1, hR⟩
    · exact .inl ⟨blkW_none hc, at', k, ha, hR⟩
    · exact .inr ⟨[] ++ [c], _, blkAt_first hc h0 h1, hR⟩
  have hst' : (blkW n (txF s k) = none ∧ ∃ (at' bad : Nat) (L : List ByteArray), at' ≤ s.size ∧ RBox w1 w.heap.size g n s at' L bad) ∨ ∃ L j, BlkAt n s k L j ∧ RBox w1 w.heap.size g n s j L (-1) := by
    rcases hst with ⟨h1, a, b, h2, h3⟩ | h
    · exact .inl ⟨h1, a, b, [], h2, h3⟩
    · exact .inr h
  have Hst := Lib.hid hst'
  have HO1 := Lib.hid hO1
  clear hC1 hst hst' hO1 Hw
  go_wp2_with fail
  go_loopw [] (fun wr => Hid ((blkW n (txF s k) = none ∧ ∃ (at' bad : Nat) (L : List ByteArray), at' ≤ s.size ∧ RBox wr w.heap.size g n s at' L bad) ∨ ∃ L j, BlkAt n s k L j ∧ RBox wr w.heap.size g n s j L (-1)) ∧ OutB w wr w.heap.size g) (fun wr => badOf g wr (s.size + 1 - atOf g wr))
  case atStart => exact ⟨Hst, HO1.out⟩
  case round =>
    obtain ⟨Hs, hO⟩ := hrel
    have hz := hO.size
    have HO := Lib.hid hO
    clear hO Hst HO1
    rcases Hs.out with ⟨hno, at', bad, L, ha, hR⟩ | ⟨L, j, hA, hR⟩
    · have g1 : decide ((bad : Int) < 0) = false := decide_eq_false (by omega)
      obtain ⟨c0, c1, c2, c4⟩ := hR.cells
      have HR := Lib.hid hR
      have Hno := Lib.hid hno
      clear hR hno Hs
      go_wp2_with fail
      go_big_quiet (fail)
      go_wp2_with fail
      go_end0
      exact ⟨rfl, (HO.out.tr (OutB.bw (bw_dr (Below.refl _ _) _) hz)).grown (Nat.le_refl _), .inl ⟨Hno.out, at', bad, L, ha, HR.out.to (bw_dr (Below.refl _ _) _)⟩⟩
    · have g1 : decide ((-1 : Int) < 0) = true := rfl
      obtain ⟨c0, c1, c2, c4⟩ := hR.cells
      obtain ⟨hLj, hkj, hj⟩ := blkAt_len hA
      have HR := Lib.hid hR
      have HA := Lib.hid hA
      clear hR hA Hs
      by_cases hlt : j < s.size
      rotate_left
      · have g2 : decide ((j : Int) < s.size) = false := decide_eq_false (by omega)
        have HW := Lib.hid (blkAt_stop HA.out (endY_end (by omega)))
        go_wp2_with fail
        go_big_quiet (fail)
        go_wp2_with fail
        go_end0
        exact ⟨rfl, (HO.out.tr (OutB.bw (bw_dr (Below.refl _ _) _) hz)).grown (Nat.le_refl _), .inr ⟨L, j, HW.out.1, HW.out.2.1, HW.out.2.2.1, HW.out.2.2.2, HR.out.to (bw_dr (Below.refl _ _) _)⟩⟩
      · have g2 : decide ((j : Int) < s.size) = true := decide_eq_true (by omega)
        have e44 := u8_eq s[j] 44 (by omega)
        by_cases h44 : s[j] = 44
        · have HW := Lib.hid (blkAt_stop HA.out (by rw [endY_at hlt, decide_eq_true h44]))
          have e44' : ((s[j].toNat : Int) == 44) = true := e44.trans (decide_eq_true h44)
          clear e44 h44
          go_wp2_with fail
          go_big_quiet (fail)
          go_wp2_with fail
          go_end0
          exact ⟨rfl, (HO.out.tr (OutB.bw (bw_dr (Below.refl _ _) _) hz)).grown (Nat.le_refl _), .inr ⟨L, j, HW.out.1, HW.out.2.1, HW.out.2.2.1, HW.out.2.2.2, HR.out.to (bw_dr (Below.refl _ _) _)⟩⟩
        · have e44' : ((s[j].toNat : Int) == 44) = false := e44.trans (decide_eq_false h44)
          have H44 := Lib.hid h44
          have hwa : IntKind.i64.wrap ((j : Int) - 1) = ((j - 1 : Nat) : Int) := by rw [IntWalk.i64_in _ ⟨by omega, by omega⟩]; omega
          have hja : j - 1 < s.size := by omega
          obtain ⟨j0, hj0, Hnx, hw0⟩ : ∃ (j0 : Nat) (hj0 : j0 < s.size), Hid (s[j0] = 45 ∨ s[j0] = 120 ∨ digY s[j] = false) ∧ IntKind.i64.wrap ((j : Int) - 1) = (j0 : Int) := ⟨j - 1, hja, Lib.hid (blkAt_next HA.out hlt), hwa⟩
          clear e44 h44 hwa hja
          go_wp2_with fail
          go_big_quiet (fail)
          go_wp2_with fail
          go_big_quiet (fail)
          go_wp2_with fail
          go_big_quiet (fail)
          go_upto_block 2 with fail
          go_cut [] (fun wx => ∃ j', j' = (if s[j] = 46 then j + 1 else j) ∧ RBox wx w.heap.size g n s j' L (-1) ∧ OutB w wx w.heap.size g)
          case first =>
            have e46 := u8_eq s[j] 46 (by omega)
            have hd3 : ∀ a, Below wr.heap.size wr (wr.drewN a) := fun a => bw_dr (Below.refl _ _) _
            by_cases h46 : s[j] = 46
            · have Hif : Hid ((if s[j] = 46 then j + 1 else j) = j + 1) := Lib.hid (if_pos h46)
              have e46' : ((s[j].toNat : Int) == 46) = true := e46.trans (decide_eq_true h46)
              have hw1 : IntKind.i64.wrap ((j : Int) + 1) = j + 1 := IntWalk.i64_in _ ⟨by omega, by omega⟩
              obtain ⟨f2, f3, f4⟩ := HR.out.frz
              clear e46 h46
              go_wp2_with fail
              go_meet
              exact ⟨j + 1, Hif.out.symm, (HR.out.to (hd3 _)).at_ hg (j + 1), (HO.out.tr (OutB.bw (hd3 _) hz)).set 2 _⟩
            · have Hif : Hid ((if s[j] = 46 then j + 1 else j) = j) := Lib.hid (if_neg h46)
              have e46' : ((s[j].toNat : Int) == 46) = false := e46.trans (decide_eq_false h46)
              have e1 := u8_eq s[j] 45 (by omega)
              have e2 := u8_eq s[j] 120 (by omega)
              have e3 := u8_eq s[j0] 45 (by omega)
              have e4 := u8_eq s[j0] 120 (by omega)
              obtain ⟨b1, h1⟩ : ∃ b, b = decide (s[j] = 45) := ⟨_, rfl⟩
              obtain ⟨b2, h2⟩ : ∃ b, b = decide (s[j] = 120) := ⟨_, rfl⟩
              obtain ⟨b3, h3⟩ : ∃ b, b = decide (s[j0] = 45) := ⟨_, rfl⟩
              obtain ⟨b4, h4⟩ : ∃ b, b = decide (s[j0] = 120) := ⟨_, rfl⟩
              have d1 : ((s[j].toNat : Int) == 45) = b1 := e1.trans h1.symm
              have d2 : ((s[j].toNat : Int) == 120) = b2 := e2.trans h2.symm
              have d3 : ((s[j0].toNat : Int) == 45) = b3 := e3.trans h3.symm
              have d4 : ((s[j0].toNat : Int) == 120) = b4 := e4.trans h4.symm
              have n1 : ((s[j].toNat : Int) != 45) = !b1 := by rw [bne, d1]
              have n2 : ((s[j].toNat : Int) != 120) = !b2 := by rw [bne, d2]
              have n3 : ((s[j0].toNat : Int) != 45) = !b3 := by rw [bne, d3]
              have n4 : ((s[j0].toNat : Int) != 120) = !b4 := by rw [bne, d4]
              have HN : Hid (b1 = false → b2 = false → b3 = false → b4 = false → blkW n (txF s k) = none) := Lib.hid (by
                intro z1 z2 z3 z4
                rw [h1, decide_eq_false_iff_not] at z1
                rw [h2, decide_eq_false_iff_not] at z2
                rw [h3, decide_eq_false_iff_not] at z3
                rw [h4, decide_eq_false_iff_not] at z4
                refine blkAt_no HA.out hlt H44.out ?_
                rw [Hif.out]
                exact chg_no hlt z1 z2 ((Hnx.out.resolve_left z3).resolve_left z4))
              obtain ⟨f2, f3, f4⟩ := HR.out.frz
              clear e46 e1 e2 e3 e4 h1 h2 h3 h4 h46 d1 d2 d3 d4
              cases b1 <;> cases b2 <;> cases b3 <;> cases b4
              all_goals
                simp only [Bool.not_true, Bool.not_false] at n1 n2 n3 n4
                go_wp2_with fail
                first
                  | (go_meet; exact ⟨j, Hif.out.symm, HR.out.to (hd3 _), HO.out.tr (OutB.bw (hd3 _) hz)⟩)
                  | (refine bodyPost_ret (results_none rfl _ _ _) rfl ?_; exact ⟨rfl, ((HO.out.tr (OutB.bw (hd3 _) hz)).set 4 _).grown (Nat.le_refl _), .inl ⟨HN.out (by trivial) (by trivial) (by trivial) (by trivial), j, j, L, hj, (HR.out.to (hd3 _)).bad_ hg j⟩⟩)
          case rest =>
            obtain ⟨j', hj', hR, hO⟩ := hcut
            have HJ := Lib.hid hj'
            have hjj : j' ≤ s.size ∧ j ≤ j' := by rw [hj']; split <;> omega
            have Hwd := Lib.hid (word_any wc w.heap.size g n s j' L hR hg hO.size hjj.1 (by omega) hs hn)
            have HOc := Lib.hid hO
            clear hj' hR hO c0 c1 c2 c4
            go_wp2_with fail
            refine Hwd.out.mono ?_
            rintro e w5 ⟨rfl, hO5, hC5⟩
            go_wp2_with fail
            have hm1 := badOf_is HR.out (s.size + 1 - atOf g wr)
            rw [HR.out.atOf] at hm1 ⊢
            rw [hm1, if_pos (by omega)]
            rcases hC5 with ⟨hc, at', ha, hR5⟩ | ⟨c, hc, h0, h1, hR5⟩
            · refine ⟨⟨Lib.hid (.inl ⟨blkAt_no HA.out hlt H44.out (by rw [← HJ.out]; exact hc), at', j', L, ha, hR5⟩), HOc.out.tr hO5⟩, ?_⟩
              rw [badOf_is hR5, if_neg (by omega)]
              omega
            · refine ⟨⟨Lib.hid (.inr ⟨L ++ [c], _, blkAt_more HA.out hlt H44.out HJ.out hc h0 h1, hR5⟩), HOc.out.tr hO5⟩, ?_⟩
              rw [badOf_is hR5, if_pos (by omega), hR5.atOf]
              omega
end Go.Proofs.YtenhnloljdfjhaaDoor
