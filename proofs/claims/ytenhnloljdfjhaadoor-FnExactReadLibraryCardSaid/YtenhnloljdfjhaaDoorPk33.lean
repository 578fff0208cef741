/- Contract: the program's reader of a place notation: a block. -/
import Derived.Test.YtenhnloljdfjhaaDoorPk32
import Derived.Test.YtenhnloljdfjhaaDoorPk13
namespace Go.Proofs.YtenhnloljdfjhaaDoor
open Go Go.RowKit
set_option linter.unusedVariables false
set_option linter.unusedSimpArgs false

theorem nb_ne {w : World} {base n G : Nat} {e : TypeId} {size : Nat} {v : Value} {xs : List Value} (h : w.ownsRow base e size v n xs) (hG : G < base ∨ w.heap.size ≤ G) : v.ownBlock = none ∨ v.ownBlock ≠ some G := by
  cases hv : v.ownBlock with
  | none => exact .inl rfl
  | some k =>
    refine .inr (fun e => ?_)
    cases e
    have := h.lt G hv
    omega
theorem nb_base {a w w' : World} {g base : Nat} (h : a.grownBy w (some g)) (hb : Below base w w') (hl : a.heap.size ≤ base) : a.grownBy w' (some g) :=
  ⟨hb.os.trans h.os, hb.tape.trans h.tape, hb.output.trans h.output, Nat.le_trans h.size hb.size, fun k hk hn => (hb.block k (by omega)).trans (h.block k hk hn)⟩
theorem nb_slice {w : World} {base : Nat} {e : TypeId} {size n : Nat} {v : Value} {cs : List Value} (h : w.ownsRow base e size v n cs) : ∃ A c, v = .slice A n c := by
  rcases h.2 with ⟨rfl, rfl⟩ | ⟨g, cap, cur, rfl, _⟩
  · exact ⟨_, _, rfl⟩
  · exact ⟨_, _, rfl⟩
theorem txF_ne {s : ByteArray} {k : Nat} (h : k < s.size) {l : List UInt8} (e : txF s k = l) : l = s[k] :: txF s (k + 1) := by rw [← e, txF_cons h]
/-- A block goes on behind a change. -/
theorem blk_go {n : Int} {s c : ByteArray} {j k' : Nat} (hc : chgO n (txF s j) = some (c, txF s k')) (hk : k' < s.size) (h44 : ¬ s[k'] = 44) : blkW n (txF s j) = (blkW n (txF s (if s[k'] = 46 then k' + 1 else k'))).map (fun p => (c :: p.1, p.2)) := by
  rw [txF_cons hk] at hc
  rw [blkW_more hc h44]
  by_cases h : s[k'] = 46
  · rw [if_pos h, if_pos h]
  · rw [if_neg h, if_neg h, txF_cons hk]
/-- A block ends behind a change. -/
theorem blk_stop {n : Int} {s c : ByteArray} {j k' : Nat} (hc : chgO n (txF s j) = some (c, txF s k')) (he : endY s k' = true) : blkW n (txF s j) = some ([c], txF s k') := by
  by_cases hk : k' < s.size
  · rw [endY_at hk, decide_eq_true_eq] at he
    rw [txF_cons hk, he] at hc ⊢
    exact blkW_comma hc
  · have e := txF_nil (s := s) (k := k') (by omega)
    rw [e] at hc ⊢
    exact blkW_end hc
theorem NtBox.blk {w w' : World} {g : Nat} {n : Int} {s : ByteArray} {k : Nat} {bad : Int} (h : NtBox w g n s k bad) (hb : w'.heap[g]? = w.heap[g]?) : NtBox w' g n s k bad := by
  unfold NtBox at h ⊢
  exact own_blk h hb
/-- What reading a block leaves. -/
def BlkPost (w : World) (g : Nat) (n : Int) (s : ByteArray) (k : Nat) (e : Ending) (w' : World) : Prop := w.grownBy w' (some g) ∧ ∃ (L : List ByteArray) (A : Option Addr) (c : Nat), e = .returned (.slice A L.length c) ∧
  w'.ownsRow w.heap.size 9 1 (.slice A L.length c) L.length (L.map Value.string) ∧ L.length ≤ s.size + 1 ∧
  ((blkW n (txF s k) = none ∧ ∃ (at' bad : Nat), at' ≤ s.size ∧ NtBox w' g n s at' bad) ∨
   ∃ k', blkW n (txF s k) = some (L, txF s k') ∧ k < k' ∧ k' ≤ s.size ∧ NtBox w' g n s k' (-1))
theorem blk_ends {w w3 : World} {g : Nat} {n : Int} {s c : ByteArray} {k : Nat} {acc : List ByteArray} {A : Option Addr} {q : Nat} (hgb : w.grownBy w3 (some g))
    (ho : w3.ownsRow w.heap.size 9 1 (.slice A (acc.length + 1) q) (acc.length + 1) (acc.map Value.string ++ [.string c])) (hl : acc.length ≤ s.size)
    (h : (blkW n (txF s k) = none ∧ ∃ (at' bad : Nat), at' ≤ s.size ∧ NtBox w3 g n s at' bad) ∨ ∃ k', blkW n (txF s k) = some (acc ++ [c], txF s k') ∧ k < k' ∧ k' ≤ s.size ∧ NtBox w3 g n s k' (-1)) :
    BlkPost w g n s k (.returned (.slice A (acc.length + 1) q)) w3 := by
  have e : (acc ++ [c]).length = acc.length + 1 := by simp
  refine ⟨hgb, acc ++ [c], A, q, by rw [e], ?_, by omega, h⟩
  rw [e, List.map_append]
  exact ho
set_option maxRecDepth 100000 in
set_option maxHeartbeats 8000000 in
theorem block_any (w : World) (g : Nat) (n : Int) (s : ByteArray) (k : Nat) (h : NtBox w g n s k (-1)) (hk : k ≤ s.size) (hs : s.size ≤ 1000000) (hn : 3 ≤ n ∧ n ≤ 8) : Calls Tryd.prog 32 #[.pointer (some ⟨g, 0, none⟩)] w (BlkPost w g n s k) := by
  have hg := h.lt
  have H := Lib.hid h
  clear h
  go_enter Tryd.func32, Tryd.ntmps32
  go_wp2_with fail
  refine box1 (C := fun W => Code.wp _ _ _ _ W) ?_
  intro wb hw k1 hB0
  have hown := own_of_heap (base := w.heap.size) (n := 0) (size := 1) k1 (Nat.le_refl _) (by unfold maxLen; omega) rfl
  have Hn := H.out.to hw
  have hgb := nb_to (nb_refl w g) hw
  clear k1 hB0
  have Hwb := Lib.hid hw.size
  clear hw
  go_loopw [3] (fun v wr => ∃ (acc : List ByteArray) (A : Option Addr) (c j : Nat), v = .slice A acc.length c ∧ wr.ownsRow w.heap.size 9 1 (.slice A acc.length c) acc.length (acc.map Value.string) ∧ k ≤ j ∧ j ≤ s.size ∧ Hid (acc.length + k ≤ j) ∧
    Hid (blkW n (txF s k) = (blkW n (txF s j)).map (fun p => (acc ++ p.1, p.2))) ∧ NtBox wr g n s j (-1) ∧ w.grownBy wr (some g)) (fun _ wr => s.size + 1 - atOf g wr)
  case atStart =>
    refine ⟨[], _, _, k, rfl, hown, Nat.le_refl _, hk, Lib.hid (by simp), Lib.hid ?_, Hn, hgb⟩
    cases blkW n (txF s k) with
    | none => rfl
    | some p => rfl
  case round =>
    obtain ⟨acc, A, c, j, rfl, hown, hkj, hj, Hal, Hb, hN, hgb⟩ := hrel
    obtain ⟨c0, c1, c2, c3⟩ := hN.cells
    have Hch := Lib.hid (change_any wr g n s j hN hj hs hn)
    have Hm := Lib.hid (atOf_is hN)
    have Hown := Lib.hid hown
    have Hgb := Lib.hid hgb
    clear hown hN hgb
    go_wp2_with fail
    refine Hch.out.mono ?_
    rintro e w2 ⟨hgc, hC⟩
    have hgb2 := nb_tr Hgb.out hgc
    have hown2 := World.ownsRow.kept Hown.out hgc (nb_ne Hown.out (.inl hg))
    have hz2 := hgb2.size
    have Hgb2 := Lib.hid hgb2
    have halj := Hal.out
    clear c0 c1 c2 c3 hgc hgb2
    rcases hC with ⟨hc, c', at', rfl, hat, hN2⟩ | ⟨c', k', hc, hjk, hk', hcs, rfl, hN2⟩
    · have Hno : Hid (blkW n (txF s k) = none) := Lib.hid (by rw [Hb.out, blkW_none hc]; rfl)
      have HN2 := Lib.hid hN2
      have Hown2 := Lib.hid hown2
      clear hc hN2 hown2 Hb
      go_wp2_with (at_builtin; go_must (refine wpList_app _ rfl _ _ _ rfl w.heap.size 9 _ 1 16 Tryd.underlying28 info_str rfl (by omega) Hown2.out [.string c'] rfl rfl rfl (one_mem rfl) (by omega) (by omega) hz2 ?_); intro v2 w3 hown3 hb3 hg3 _; (obtain ⟨A2, q2, rfl⟩ := nb_slice hown3); (have hN3 := HN2.out.blk (hb3.block g hg)); (obtain ⟨d0, d1, d2, d3⟩ := hN3.cells); (have HN3 := Lib.hid hN3); (have Hown3 := Lib.hid hown3); (have Hb3 := Lib.hid hb3); clear hown3 hb3 hN3 hg3)
      go_ret
      exact blk_ends (nb_base Hgb2.out Hb3.out (Nat.le_refl _)) Hown3.out (by omega) (.inl ⟨Hno.out, at', j, hat, HN3.out⟩)
    · have HN2 := Lib.hid hN2
      have Hown2 := Lib.hid hown2
      have Hc := Lib.hid hc
      clear hc hN2 hown2
      go_wp2_with (at_builtin; go_must (refine wpList_app _ rfl _ _ _ rfl w.heap.size 9 _ 1 16 Tryd.underlying28 info_str rfl (by omega) Hown2.out [.string c'] rfl rfl rfl (one_mem rfl) (by omega) (by omega) hz2 ?_); intro v2 w3 hown3 hb3 hg3 _; (obtain ⟨A2, q2, rfl⟩ := nb_slice hown3); (have hN3 := HN2.out.blk (hb3.block g hg)); (obtain ⟨d0, d1, d2, d3⟩ := hN3.cells); (have HN3 := Lib.hid hN3); (have Hown3 := Lib.hid hown3); (have Hb3 := Lib.hid hb3); clear hown3 hb3 hN3 hg3)
      have Hen := Lib.hid (ends_any w3 g n s k' (-1) HN3.out hk' hs)
      have Hgb3 := Lib.hid (nb_base Hgb2.out Hb3.out (Nat.le_refl _))
      clear d0 d1 d2 d3
      refine Hen.out.mono ?_; rintro e w4 ⟨rfl, hb4⟩
      have hgb4 := nb_to Hgb3.out hb4
      have hN4 := HN3.out.to hb4
      have hown4 := own_to Hown3.out hb4
      cases he : endY s k'
      · have hks : k' < s.size := Classical.byContradiction fun h => by rw [endY_end (by omega)] at he; cases he
        rw [endY_at hks, decide_eq_false_iff_not] at he
        have Hgo := Lib.hid (blk_go Hc.out hks he)
        have e46 := u8_eq s[k'] 46 (by omega)
        obtain ⟨d0, d1, d2, d3⟩ := hN4.cells
        have HN4 := Lib.hid hN4
        have Hown4 := Lib.hid hown4
        have Hgb4 := Lib.hid hgb4
        clear hN4 hown4 hgb4 he
        obtain ⟨f2, f3⟩ := HN4.out.frz
        have hl1 : (acc ++ [c']).length = acc.length + 1 := by simp
        have hO : w4.ownsRow w.heap.size 9 1 (.slice A2 (acc ++ [c']).length q2) (acc ++ [c']).length ((acc ++ [c']).map Value.string) := by
          rw [hl1, List.map_append]; exact Hown4.out
        have HO := Lib.hid hO
        have Hl1 := Lib.hid hl1
        clear hO hl1
        by_cases h46 : s[k'] = 46
        · rw [if_pos h46] at Hgo
          have hw1 : IntKind.i64.wrap ((k' : Int) + 1) = k' + 1 := IntWalk.i64_in _ ⟨by omega, by omega⟩
          have e46' : ((s[k'].toNat : Int) == 46) = true := e46.trans (decide_eq_true h46)
          clear e46 h46
          go_wp2_with fail
          go_big_quiet (fail)
          go_wp2_with fail
          have hd := bw_dr (Below.refl w4.heap.size w4) 0
          refine ⟨⟨acc ++ [c'], A2, q2, k' + 1, by rw [Hl1.out], own_past (own_to HO.out (bw_dr (Below.refl _ _) _)) hg _ _, by omega, by omega, Lib.hid (by rw [Hl1.out]; omega), Lib.hid ?_, (HN4.out.to (bw_dr (Below.refl _ _) _)).at_ (k' + 1), nb_set (nb_to Hgb4.out (bw_dr (Below.refl _ _) _)) 2 _⟩, ?_⟩
          · rw [Hb.out, Hgo.out, Option.map_map]
            cases blkW n (txF s (k' + 1)) with
            | none => rfl
            | some p => simp
          · refine Nat.lt_of_le_of_lt (Nat.le_of_eq (congrArg (s.size + 1 - ·) (atOf_is ((HN4.out.to (bw_dr (Below.refl _ _) _)).at_ (k' + 1))))) ?_
            rw [Hm.out]
            omega
        · rw [if_neg h46] at Hgo
          have e46' : ((s[k'].toNat : Int) == 46) = false := e46.trans (decide_eq_false h46)
          clear e46 h46
          go_wp2_with fail
          go_big_quiet (fail)
          go_wp2_with fail
          refine ⟨⟨acc ++ [c'], A2, q2, k', by rw [Hl1.out], own_to HO.out (bw_dr (Below.refl _ _) _), by omega, by omega, Lib.hid (by rw [Hl1.out]; omega), Lib.hid ?_, HN4.out.to (bw_dr (Below.refl _ _) _), nb_to Hgb4.out (bw_dr (Below.refl _ _) _)⟩, ?_⟩
          · rw [Hb.out, Hgo.out, Option.map_map]
            cases blkW n (txF s k') with
            | none => rfl
            | some p => simp
          · refine Nat.lt_of_le_of_lt (Nat.le_of_eq (congrArg (s.size + 1 - ·) (atOf_is (HN4.out.to (bw_dr (Below.refl _ _) _))))) ?_
            rw [Hm.out]
            omega
      · have HW := Lib.hid (blk_stop Hc.out he)
        go_wp2_with fail
        go_ret
        exact blk_ends hgb4 hown4 (by omega) (.inr ⟨k', by rw [Hb.out, HW.out]; rfl, by omega, hk', hN4⟩)
end Go.Proofs.YtenhnloljdfjhaaDoor
