/- Contract: the reference's canonical form of a method. -/
import Derived.Test.YtnbehldacehiiaaT8
import Derived.Test.YtnbehldacehiiaaP4
namespace Go.Proofs.Ytnbehldacehiiaa
open Go Go.RowKit
set_option linter.unusedVariables false
set_option linter.unusedSimpArgs false

def rot (l : List ByteArray) (k : Nat) : List ByteArray := l.drop k ++ l.take k
theorem rot_len (l : List ByteArray) (k : Nat) : (rot l k).length = l.length := by unfold rot; simp; omega
def foldN (l : List ByteArray) (k : Nat) : List ByteArray := ((List.range k).flatMap (fun i => [rot l i, rot l.reverse i])).foldl minS l
theorem foldN_zero (l : List ByteArray) : foldN l 0 = l := rfl
theorem foldN_succ (l : List ByteArray) (k : Nat) : foldN l (k + 1) = minS (minS (foldN l k) (rot l k)) (rot l.reverse k) := by
  unfold foldN
  rw [List.range_succ, List.flatMap_append, List.foldl_append]
  rfl
theorem minS_of {b c : List ByteArray} (h : lessS c b = true) : minS b c = c := by unfold minS; rw [if_pos h]
theorem minS_not {b c : List ByteArray} (h : lessS c b = false) : minS b c = b := by unfold minS; rw [if_neg (by simp [h])]
theorem foldN_len (l : List ByteArray) : ∀ k, (foldN l k).length = l.length
  | 0 => rfl
  | k + 1 => by
    rw [foldN_succ, min_len, min_len, foldN_len l k]
    · rw [rot_len, foldN_len l k]
    · rw [min_len, rot_len, foldN_len l k, List.length_reverse]
      rw [rot_len, foldN_len l k]
/-- A variable that holds a method. -/
def MBox (w : World) (G : Nat) (m : Mt) (r : Value) : Prop := w.ownsRow G 36 3 (.slice (some ⟨G, 0, none⟩) 1 1) 1 [.string m.name, .int .i64 m.stage, r]
theorem mbox_of {w : World} {G : Nat} {m : Mt} {r : Value} (h : w.heap[G]? = some (.cells #[.string m.name, .int .i64 m.stage, r] 36 (0, 0))) : MBox w G m r :=
  own_of_heap (base := G) (n := 1) (size := 3) h (Nat.le_refl _) (by unfold maxLen; omega) rfl
theorem mbox_c {w : World} {G : Nat} {m : Mt} {r : Value} (h : MBox w G m r) : w.cell? ⟨G, 0, none⟩ = some (.string m.name) ∧ w.cell? ⟨G, 1, none⟩ = some (.int .i64 m.stage) ∧ w.cell? ⟨G, 2, none⟩ = some r := by
  unfold MBox at h
  exact ⟨h.cellAt 0 (by omega), h.cellAt 1 (by omega), h.cellAt 2 (by omega)⟩
theorem mbox_f {w : World} {G : Nat} {m : Mt} {r : Value} (h : MBox w G m r) : w.frozen? ⟨G, 0, none⟩ = false ∧ w.frozen? ⟨G, 1, none⟩ = false ∧ w.frozen? ⟨G, 2, none⟩ = false := by
  unfold MBox at h
  exact ⟨h.frozenAt 0, h.frozenAt 1, h.frozenAt 2⟩
theorem mbox_set {w : World} {G : Nat} {m m' : Mt} {r r' : Value} (h : MBox w G m r) : MBox (((w.setCell ⟨G, 0, none⟩ (.string m'.name)).setCell ⟨G, 1, none⟩ (.int .i64 m'.stage)).setCell ⟨G, 2, none⟩ r') G m' r' := by
  unfold MBox at h ⊢
  exact own_set (own_set (own_set h 0 _) 1 _) 2 _
theorem mbox_to {w w' : World} {G : Nat} {m : Mt} {r : Value} (h : MBox w G m r) (hb : Below w.heap.size w w') : MBox w' G m r := own_to (by unfold MBox at h; exact h) hb
theorem mbox_but {w w' : World} {G H : Nat} {m : Mt} {r : Value} (h : MBox w G m r) (hg : w.grownBy w' (some H)) (hn : G ≠ H) : MBox w' G m r :=
  World.ownsRow.kept (by unfold MBox at h; exact h) hg (.inr (by intro e; exact hn (by injection e)))
theorem but_below {a w w' : World} {G : Nat} (h : a.grownBy w (some G)) (hb : Below w.heap.size w w') : a.grownBy w' (some G) :=
  ⟨hb.os.trans h.os, hb.tape.trans h.tape, hb.output.trans h.output, Nat.le_trans h.size hb.size, fun k hk hne => (hb.block k (Nat.lt_of_lt_of_le hk h.size)).trans (h.block k hk hne)⟩
theorem but_trans {a w w' : World} {G : Nat} (h : a.grownBy w (some G)) (h' : w.grownBy w' (some G)) : a.grownBy w' (some G) :=
  ⟨h'.os.trans h.os, h'.tape.trans h.tape, h'.output.trans h.output, Nat.le_trans h.size h'.size, fun k hk hne => (h'.block k (Nat.lt_of_lt_of_le hk h.size) hne).trans (h.block k hk hne)⟩
theorem but_set {a w : World} {G : Nat} (h : a.grownBy w (some G)) (j : Nat) (u : Value) : a.grownBy (w.setCell ⟨G, j, none⟩ u) (some G) :=
  ⟨h.os, h.tape, h.output, by simpa [World.setCell] using h.size, fun k hk hne => (Below.heap_setCell w ⟨G, j, none⟩ u k (fun e => hne (by rw [e]))).trans (h.block k hk hne)⟩
theorem but_set3 {a w : World} {G : Nat} (h : a.grownBy w (some G)) (x y z : Value) : a.grownBy (((w.setCell ⟨G, 0, none⟩ x).setCell ⟨G, 1, none⟩ y).setCell ⟨G, 2, none⟩ z) (some G) := but_set (but_set (but_set h 0 _) 1 _) 2 _
theorem own_set3 {w : World} {base G n : Nat} {e : TypeId} {size : Nat} {v : Value} {xs : List Value} (h : w.ownsRow base e size v n xs) (hne : v.ownBlock = none ∨ v.ownBlock ≠ some G) (x y z : Value) : (((w.setCell ⟨G, 0, none⟩ x).setCell ⟨G, 1, none⟩ y).setCell ⟨G, 2, none⟩ z).ownsRow base e size v n xs :=
  h.kept (but_set3 (World.grownBy.refl w (some G)) x y z) hne
theorem own_ne {w : World} {base n G : Nat} {e : TypeId} {size : Nat} {v : Value} {xs : List Value} (h : w.ownsRow base e size v n xs) (hG : G < base ∨ w.heap.size ≤ G) : v.ownBlock = none ∨ v.ownBlock ≠ some G := by
  cases hv : v.ownBlock with
  | none => exact .inl rfl
  | some k =>
    refine .inr (fun e => ?_)
    cases e
    have := h.lt G hv
    omega
theorem strs_own' {w : World} {base n : Nat} {e : TypeId} {v : Value} {zs : List ByteArray} (h : w.ownsRow base e 1 v n (zs.map Value.string)) : Strs w v zs := by
  have hl : zs.length = n := by have := h.1; simpa using this
  subst hl
  exact sl_of_own h
/-- The best method so far: in its variable, with a list of its own. -/
def BestAt (w : World) (base G : Nat) (m : Mt) (n : Nat) (b : List ByteArray) : Prop := ∃ A c, MBox w G m (.slice A n c) ∧ w.ownsRow base 9 1 (.slice A n c) n (b.map Value.string) ∧ ((Value.slice A n c).ownBlock = none ∨ (Value.slice A n c).ownBlock ≠ some G)
theorem BestAt.to {w w' : World} {base G n : Nat} {m : Mt} {b : List ByteArray} (h : BestAt w base G m n b) (hb : Below w.heap.size w w') : BestAt w' base G m n b :=
  let ⟨A, c, h1, h2, h3⟩ := h; ⟨A, c, mbox_to h1 hb, own_to h2 hb, h3⟩
theorem l4Start_self (m : Mt) (ad : Addr) (c k : Nat) (w : World) (h : Strs w (.slice (some ad) m.l.length c) m.l) (hk : k < m.l.length) (hmax : m.l.length ≤ 1000000) : Calls Try.prog 70 #[.agg #[.string m.name, .int .i64 m.stage, .slice (some ad) m.l.length c], .int .i64 k] w fun e w' =>
    ∃ A c, e = .returned (.agg #[.string m.name, .int .i64 m.stage, .slice A m.l.length c]) ∧ w'.ownsRow w.heap.size 9 1 (.slice A m.l.length c) m.l.length ((rot m.l k).map Value.string) ∧ Below w.heap.size w w' :=
  (l4Start_any m ad c k w h hk hmax).mono fun e w' ⟨r, e1, h2, h3⟩ => by
    obtain ⟨A, c, hr, _⟩ := sl_of_own h2
    subst hr
    exact ⟨A, c, e1, h2, h3⟩
theorem l4Start_turn (m : Mt) (A : Option Addr) (c k : Nat) (w : World) (h : Strs w (.slice A m.l.length c) m.l.reverse) (hk : k < m.l.length) (hmax : m.l.length ≤ 1000000) : Calls Try.prog 70 #[.agg #[.string m.name, .int .i64 m.stage, .slice A m.l.length c], .int .i64 k] w fun e w' =>
    ∃ A c, e = .returned (.agg #[.string m.name, .int .i64 m.stage, .slice A m.l.length c]) ∧ w'.ownsRow w.heap.size 9 1 (.slice A m.l.length c) m.l.length ((rot m.l.reverse k).map Value.string) ∧ Below w.heap.size w w' := by
  have hl : m.l.reverse.length = m.l.length := List.length_reverse
  obtain ⟨ad, e⟩ : ∃ ad, A = some ad := by
    obtain ⟨A', c', e, _, _, hr⟩ := h
    injection e with e1 e2 e3
    obtain ⟨ad, e, _⟩ := hr.2 (by omega); exact ⟨ad, e1.trans e⟩
  subst e
  have h' := l4Start_self ⟨m.name, m.stage, m.l.reverse⟩ ad c k w (by rw [← hl] at h; exact h) (show k < m.l.reverse.length by omega) (show m.l.reverse.length ≤ 1000000 by omega)
  simp only [hl] at h'
  exact h'
set_option maxRecDepth 100000 in
set_option maxHeartbeats 4000000 in
theorem l29Normal_any (m : Mt) (v : Value) (w : World) (h : MethAt w m v) (hn : NilOk v) (hs : MtSmall m) (hg : methB m = true) : Calls Try.prog 54 #[m.v v] w fun e w' =>
    ∃ r : Value, e = .returned (m.v r) ∧ w'.ownsRow w.heap.size 9 1 r m.l.length ((foldN m.l m.l.length).map Value.string) ∧ Below w.heap.size w w' := by
  have hlen : 1 ≤ m.l.length ∧ m.l.length ≤ 40 := by
    unfold methB at hg; simp at hg; omega
  obtain ⟨A, c, hA, h1, h2, hr⟩ := h.1
  have hat := h
  obtain ⟨ad, hAd⟩ : ∃ ad, A = some ad := by
    obtain ⟨ad, e, _⟩ := hr.2 (by omega); exact ⟨ad, e⟩
  subst hAd
  subst hA
  have Hat := Lib.hid hat
  have Hg := Lib.hid hg
  clear h hr hat hg
  unfold maxLen at h2
  unfold Mt.v
  go_enter Try.func54, Try.ntmps54
  go_wp2_with fail
  refine box2 (C := fun W => Calls _ _ _ W _) ?_
  intro wb hw k1 k2 hB0
  have R1 := boxRule k1
  have R2 := boxRule k2
  have F2 := fun (j : Nat) w' hb => frozen_of_heap k2 j (w' := w') hb
  have Hk2 := Lib.hid (blk_lt k2)
  clear k1 k2
  refine (l4Own_any m _ wb (Hat.out.to hw).1 hn (by omega)).mono ?_; rintro e w1 ⟨r, rfl, hown0, hb1⟩
  obtain ⟨A0, c0, hrs, _⟩ := sl_of_own hown0
  subst hrs
  unfold Mt.v
  have hB1 := bw_al hb1 (.cells #[.string m.name, .int .i64 m.stage, .slice A0 m.l.length c0] 36)
  go_wp2_with fail
  refine (turnMethod_any m _ _ (Hat.out.to (bw_to hw hB1)) hs Hg.out).mono ?_; rintro e w2 ⟨r, rfl, hown1, hb2⟩
  obtain ⟨A1, c1, hrs, _⟩ := sl_of_own hown1
  subst hrs
  unfold Mt.v
  obtain ⟨wo, hwo⟩ : ∃ wo, wo = w2.alloc (.cells #[.string m.name, .int .i64 m.stage, .slice A1 m.l.length c1] 36) := ⟨_, rfl⟩
  have hB2 : Below wb.heap.size wb wo := by rw [hwo]; exact bw_al (bw_to hB1 hb2) _
  have hB2' : Below wb.heap.size wb (w2.alloc (.cells #[.string m.name, .int .i64 m.stage, .slice A1 m.l.length c1] 36)) := bw_al (bw_to hB1 hb2) _
  have Hwo := Lib.hid hwo
  have hb2o : Below w2.heap.size w2 wo := by rw [hwo]; exact bw_al (Below.refl _ _) _
  have hbest0 : MBox wo w1.heap.size m (.slice A0 m.l.length c0) := mbox_to (mbox_to (mbox_of (heap_new w1 _)) hb2) hb2o
  have hturn0 : MBox wo w2.heap.size ⟨m.name, m.stage, m.l.reverse⟩ (.slice A1 m.l.length c1) := by rw [hwo]; exact mbox_of (heap_new w2 _)
  have hne01 : w2.heap.size ≠ w1.heap.size := by have := hb2.size; simp at this; omega
  have hw1o : Below w1.heap.size w1 wo := bw_to (bw_tr (bw_al (Below.refl _ _) _) hb2 (by simp)) hb2o
  have hrow0 : wo.ownsRow wb.heap.size 9 1 (.slice A0 m.l.length c0) m.l.length (m.l.map Value.string) := own_to hown0 hw1o
  have hrow1 := own_to hown1 hb2o
  have hbo : BestAt wo wb.heap.size w1.heap.size m m.l.length (foldN m.l 0) := ⟨A0, c0, hbest0, hrow0, own_ne hown0 (.inr (Nat.le_refl _))⟩
  have hrne : (Value.slice A1 m.l.length c1).ownBlock = none ∨ (Value.slice A1 m.l.length c1).ownBlock ≠ some w1.heap.size := own_ne hown1 (.inl (by simp))
  have hG3 : wb.heap.size ≤ w1.heap.size := hb1.size
  have hG3o : w1.heap.size < wo.heap.size := by have := hb2o.size; have := hb2.size; simp at this; omega
  have hG4o : w2.heap.size < wo.heap.size := by rw [hwo]; simp
  have Hbo := Lib.hid hbo
  have Hturn0 := Lib.hid hturn0
  have Hrow1 := Lib.hid hrow1
  have Hrne := Lib.hid hrne
  clear hwo hbest0 hturn0 hrow0 hrow1 hbo hrne hown0 hown1 hB1 hb1 hb2 hw1o hb2o hn
  go_wp2_with fail
  rw [← Hwo.out]
  clear Hwo hB2'
  go_loopw [19] (fun i wr => ∃ k : Nat, k ≤ m.l.length ∧ i = .int .i64 k ∧ wo.grownBy wr (some w1.heap.size) ∧ BestAt wr wb.heap.size w1.heap.size m m.l.length (foldN m.l k)) (fun i _ => m.l.length - (intOf i).toNat)
  case atStart => exact ⟨0, by omega, rfl, World.grownBy.refl _ _, Hbo.out⟩
  case round =>
    obtain ⟨k, hk, rfl, hgr, hbest⟩ := hrel
    have hB : Below wb.heap.size wb wr := hB2.grown hgr hB2.size (fun k e => by cases e; exact hG3)
    by_cases hlt : k < m.l.length
    · have hT := mbox_but Hturn0.out hgr hne01
      have hrow := Hrow1.out.kept hgr Hrne.out
      have RT := fun w' (hb : Below wr.heap.size wr w') => mbox_c (mbox_to hT hb)
      have R1' := fun w' i (hb : Below wr.heap.size wr w') => R1 w' i (bw_to hB hb)
      have hst := Below.refl wr.heap.size wr
      have Hbest := Lib.hid hbest
      have Hgr := Lib.hid hgr
      have Hm := Lib.hid (Hat.out.to (bw_to hw hB)).1
      have Ht := Lib.hid (strs_of_own (zs := m.l.reverse) (by simpa using hrow))
      clear hbest hgr hT hrow
      go_wp2_with fail
      have hlr : m.l.reverse.length = m.l.length := List.length_reverse
      have Hk := Lib.hid hlr
      clear hlr
      go_region_held3 (fun w' => Below wr.heap.size wr w') (first | exact Below.drew (by assumption) | exact bw_to (by assumption) hb' | exact bw_al (by assumption) _)
        (first | ((have howna' := howna); go_at_call 70; refine (l4Start_turn m _ _ k _ (Ht.out.to (by assumption)) hlt (by omega)).mono ?_; rintro e wc ⟨Ab, cb, rfl, hownb, hb'⟩) | (go_at_call 70; refine (l4Start_self m ad c k _ (Hm.out.to (by assumption)) hlt (by omega)).mono ?_; rintro e wa ⟨Aa, ca, rfl, howna, hb'⟩; (have hba := hb')))
      obtain ⟨wi, hwi⟩ : ∃ wi, wi = wc.alloc (.cells #[.string m.name, .int .i64 m.stage, .slice Aa m.l.length ca, .string m.name, .int .i64 m.stage, .slice Ab m.l.length cb] 36) := ⟨_, rfl⟩
      have hri : Below wr.heap.size wr wi := by rw [hwi]; assumption
      have hci : Below wc.heap.size wc wi := by rw [hwi]; exact bw_al (Below.refl _ _) _
      have hrd : wr.heap.size ≤ wa.heap.size := hba.size
      have haI : wi.ownsRow wr.heap.size 9 1 (.slice Aa m.l.length ca) m.l.length ((rot m.l k).map Value.string) := own_to (own_to howna hb') hci
      have hbI : wi.ownsRow wr.heap.size 9 1 (.slice Ab m.l.length cb) m.l.length ((rot m.l.reverse k).map Value.string) := own_base (own_to hownb hci) hrd
      have hH : wi.heap[wc.heap.size]? = some (.cells #[.string m.name, .int .i64 m.stage, .slice Aa m.l.length ca, .string m.name, .int .i64 m.stage, .slice Ab m.l.length cb] 36 (0, 0)) := by rw [hwi]; exact heap_new wc _
      have hG3r : w1.heap.size < wr.heap.size := Nat.lt_of_lt_of_le hG3o Hgr.out.size
      have hHne : wc.heap.size ≠ w1.heap.size := by have := hb'.size; omega
      have hgi : wo.grownBy wi (some w1.heap.size) := but_below Hgr.out hri
      have hBi : Below wb.heap.size wb wi := bw_to hB hri
      have hbi := Hbest.out.to hri
      have hna := own_ne haI (.inl hG3r)
      have hnb := own_ne hbI (.inl hG3r)
      have hwq : wb.heap.size ≤ wr.heap.size := hB.size
      rw [← hwi]
      have HaI := Lib.hid haI
      have HbI := Lib.hid hbI
      have HH := Lib.hid hH
      have Hgi := Lib.hid hgi
      have Hbi := Lib.hid hbi
      have Hna := Lib.hid hna
      have Hnb := Lib.hid hnb
      clear haI hbI hH hgi hbi hna hnb hwi howna howna' hownb hba hb' hst RT R1' hci
      go_wp2_with fail
      obtain ⟨wq, rfl⟩ : ∃ wq : World, wq = wr := ⟨_, rfl⟩
      go_loopw [30] (fun i wr => ∃ (q : Nat) (b : List ByteArray), q ≤ 2 ∧ i = .int .i64 q ∧ wi.grownBy wr (some w1.heap.size) ∧ BestAt wr wb.heap.size w1.heap.size m m.l.length b ∧ b.length = m.l.length ∧ (q = 0 ∧ b = foldN m.l k ∨ q = 1 ∧ b = minS (foldN m.l k) (rot m.l k) ∨ q = 2 ∧ b = foldN m.l (k + 1))) (fun i _ => 2 - (intOf i).toNat)
      case atStart => exact ⟨0, _, by omega, rfl, World.grownBy.refl _ _, Hbi.out, foldN_len _ _, .inl ⟨rfl, rfl⟩⟩
      case round =>
        obtain ⟨q, b, hq, rfl, hgx, hbx, hbl, hqb⟩ := hrel
        have hHx : wr.heap[wc.heap.size]? = _ := (hgx.block _ (blk_lt HH.out) (by simpa using hHne)).trans HH.out
        have hcell := fun i => cell_of_row wr _ i _ _ _ hHx
        obtain ⟨A, c, hM, hrow, hne⟩ := hbx
        have Hgx := Lib.hid hgx
        rcases hqb with ⟨rfl, hb⟩ | ⟨rfl, hb⟩ | ⟨rfl, hb⟩
        · have hc0 := hcell 0
          have hc1 := hcell 1
          have hc2 := hcell 2
          simp at hc0 hc1 hc2
          have Hb := Lib.hid hb
          have hBW := bw_al (Below.refl _ wr) (.cells #[.string m.name, .int .i64 m.stage, .slice Aa m.l.length ca] 36)
          have hM' := mbox_to hM hBW
          have hX' := mbox_of (m := m) (heap_new wr (.cells #[.string m.name, .int .i64 m.stage, .slice Aa m.l.length ca] 36))
          obtain ⟨d0, d1, d2⟩ := mbox_c hM'
          have hown := HaI.out.kept hgx Hna.out
          have hcall := l29Less_any (.slice Aa m.l.length ca) (.slice A m.l.length c) (rot m.l k) b _ (strs_own' (own_to hown hBW)) (strs_own' (own_to hrow hBW)) (by rw [rot_len, hbl])
          have HX := Lib.hid hX'
          have HM := Lib.hid hM'
          have Hrow := Lib.hid hrow
          have Hown := Lib.hid hown
          have HBW := Lib.hid hBW
          cases hless : lessS (rot m.l k) b
          all_goals
            rw [hless] at hcall
            have Hless := Lib.hid hless
            have Hcall := Lib.hid hcall
            clear hless hcall
          clear hcell hHx hM hM' hX' hb hrow hgx hown hBW
          · go_wp2_with fail
            refine Hcall.out.mono ?_; rintro e w7 ⟨rfl, hb7⟩
            have Hb7 := Lib.hid (bw_to HBW.out hb7)
            have HM7 := Lib.hid (mbox_to HM.out hb7)
            clear hb7 d0 d1 d2 hc0 hc1 hc2
            go_wp2_with fail
            exact ⟨⟨1, b, by omega, by go_num, but_below Hgx.out Hb7.out, ⟨A, c, HM7.out, own_to Hrow.out Hb7.out, hne⟩, hbl, .inr (.inl ⟨rfl, by rw [← Hb.out]; exact (minS_not Hless.out).symm⟩)⟩, by simp [intOf]⟩
          · go_wp2_with fail
            refine Hcall.out.mono ?_; rintro e w7 ⟨rfl, hb7⟩
            obtain ⟨x0, x1, x2⟩ := mbox_c (mbox_to HX.out hb7)
            obtain ⟨y0, y1, y2⟩ := mbox_c (mbox_to HM.out hb7)
            obtain ⟨f0, f1, f2⟩ := mbox_f (mbox_to HM.out hb7)
            have Hb7 := Lib.hid (bw_to HBW.out hb7)
            have HM7 := Lib.hid (mbox_to HM.out hb7)
            clear hb7 d0 d1 d2 hc0 hc1 hc2
            go_wp2_with fail
            refine ⟨⟨1, rot m.l k, by omega, by go_num, but_set3 (but_below Hgx.out Hb7.out) _ _ _, ⟨Aa, ca, mbox_set HM7.out, own_base (own_set3 (own_to Hown.out Hb7.out) Hna.out _ _ _) hwq, Hna.out⟩, by rw [rot_len], .inr (.inl ⟨rfl, by rw [← Hb.out]; exact (minS_of Hless.out).symm⟩)⟩, by simp [intOf]⟩
        · have hc0 := hcell 3
          have hc1 := hcell 4
          have hc2 := hcell 5
          simp at hc0 hc1 hc2
          have Hb := Lib.hid hb
          have hBW := bw_al (Below.refl _ wr) (.cells #[.string m.name, .int .i64 m.stage, .slice Ab m.l.length cb] 36)
          have hM' := mbox_to hM hBW
          have hX' := mbox_of (m := m) (heap_new wr (.cells #[.string m.name, .int .i64 m.stage, .slice Ab m.l.length cb] 36))
          obtain ⟨d0, d1, d2⟩ := mbox_c hM'
          have hown := HbI.out.kept hgx Hnb.out
          have hcall := l29Less_any (.slice Ab m.l.length cb) (.slice A m.l.length c) (rot m.l.reverse k) b _ (strs_own' (own_to hown hBW)) (strs_own' (own_to hrow hBW)) (by rw [rot_len, hbl]; simp)
          have HX := Lib.hid hX'
          have HM := Lib.hid hM'
          have Hrow := Lib.hid hrow
          have Hown := Lib.hid hown
          have HBW := Lib.hid hBW
          cases hless : lessS (rot m.l.reverse k) b
          all_goals
            rw [hless] at hcall
            have Hless := Lib.hid hless
            have Hcall := Lib.hid hcall
            clear hless hcall
          clear hcell hHx hM hM' hX' hb hrow hgx hown hBW
          · go_wp2_with fail
            refine Hcall.out.mono ?_; rintro e w7 ⟨rfl, hb7⟩
            have Hb7 := Lib.hid (bw_to HBW.out hb7)
            have HM7 := Lib.hid (mbox_to HM.out hb7)
            clear hb7 d0 d1 d2 hc0 hc1 hc2
            go_wp2_with fail
            exact ⟨⟨2, b, by omega, by go_num, but_below Hgx.out Hb7.out, ⟨A, c, HM7.out, own_to Hrow.out Hb7.out, hne⟩, hbl, .inr (.inr ⟨rfl, by rw [foldN_succ, ← Hb.out]; exact (minS_not Hless.out).symm⟩)⟩, by simp [intOf]⟩
          · go_wp2_with fail
            refine Hcall.out.mono ?_; rintro e w7 ⟨rfl, hb7⟩
            obtain ⟨x0, x1, x2⟩ := mbox_c (mbox_to HX.out hb7)
            obtain ⟨y0, y1, y2⟩ := mbox_c (mbox_to HM.out hb7)
            obtain ⟨f0, f1, f2⟩ := mbox_f (mbox_to HM.out hb7)
            have Hb7 := Lib.hid (bw_to HBW.out hb7)
            have HM7 := Lib.hid (mbox_to HM.out hb7)
            clear hb7 d0 d1 d2 hc0 hc1 hc2
            go_wp2_with fail
            refine ⟨⟨2, rot m.l.reverse k, by omega, by go_num, but_set3 (but_below Hgx.out Hb7.out) _ _ _, ⟨Ab, cb, mbox_set HM7.out, own_base (own_set3 (own_to Hown.out Hb7.out) Hnb.out _ _ _) hwq, Hnb.out⟩, by rw [rot_len]; simp, .inr (.inr ⟨rfl, by rw [foldN_succ, ← Hb.out]; exact (minS_of Hless.out).symm⟩)⟩, by simp [intOf]⟩
        · subst hb
          have hbx : BestAt wr wb.heap.size w1.heap.size m m.l.length (foldN m.l (k + 1)) := ⟨A, c, hM, hrow, hne⟩
          have Hbx := Lib.hid hbx
          clear hcell hHx hM hrow hbx hgx
          go_wp2_with fail
          exact ⟨⟨k + 1, by omega, by go_num, but_trans Hgi.out Hgx.out, Hbx.out⟩, by simp [intOf]; omega⟩
    · obtain rfl : k = m.l.length := by omega
      obtain ⟨A, c, hM, hrow, hne⟩ := hbest
      obtain ⟨x0, x1, x2⟩ := mbox_c hM
      have e0 := R2 wr 0 hB
      have e1 := R2 wr 1 hB
      have e2 := R2 wr 2 hB
      have f0 := F2 0 wr hB
      have f1 := F2 1 wr hB
      have f2 := F2 2 wr hB
      have Hrow := Lib.hid hrow
      have HB := Lib.hid hB
      clear R1 R2 F2 hM hrow hgr hB
      go_wp2_with fail
      refine bodyPost_ret (v := .agg #[.string m.name, .int .i64 m.stage, .slice A m.l.length c]) ?hr rfl ⟨_, rfl, ?ho, ?hb⟩
      case ho => exact own_base (own_past (own_past (own_past Hrow.out Hk2.out _ _) Hk2.out _ _) Hk2.out _ _) hw.size
      case hb => exact grow_set (grow_set (grow_set (bw_to hw HB.out) (Nat.le_succ _) _) (Nat.le_succ _) _) (Nat.le_succ _) _
      case hr => simp [results, go_sem, e0, e1, e2]
end Go.Proofs.Ytnbehldacehiiaa
