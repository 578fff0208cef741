/- RingTouchOf on both sides. (Printed by a program: tools/mkBR.py.) -/
import Derived.Test.YtbdioapgekaejaaGreatPk33
import Derived.Test.YtbdioapgekaejaaGreatPk20
namespace Go.Proofs.YtbdioapgekaejaaGreat
open Go Go.RowKit
set_option linter.unusedVariables false
set_option linter.unusedSimpArgs false

/-- What RingTouchOf answers. -/
def rtB (G : List ByteArray) (r : ByteArray) (R : Nat) : Bool := decide (r ∈ G) && decide (R ≤ 60)
def rtO (G : List ByteArray) (f : ByteArray → ByteArray) (bobs : List ByteArray) (r : ByteArray) (R : Nat) : ByteArray := if rtB G r R then ⟨(ringT f bobs r R).toArray⟩ else ⟨#[]⟩
def rtA (f : ByteArray → ByteArray) (bobs : List ByteArray) (r : ByteArray) (R j : Nat) : ByteArray := ⟨((ringT f bobs r R).take j).toArray⟩
theorem rtA_zero (f : ByteArray → ByteArray) (bobs : List ByteArray) (r : ByteArray) (R : Nat) : rtA f bobs r R 0 = ⟨#[]⟩ := by unfold rtA; simp
theorem rtA_size (f : ByteArray → ByteArray) (bobs : List ByteArray) (r : ByteArray) (R j : Nat) : (rtA f bobs r R j).size ≤ j := by
  show (((ringT f bobs r R).take j).toArray).size ≤ j
  simp; omega
theorem rtA_succ (f : ByteArray → ByteArray) (bobs : List ByteArray) (r : ByteArray) {R j : Nat} (hj : j < R) : rtA f bobs r R (j + 1) = rtA f bobs r R j ++ (if iterB f r j ∈ bobs then ⟨#[98]⟩ else ⟨#[112]⟩) := by
  have hl : j < (ringT f bobs r R).length := by rw [ringT_len]; exact hj
  unfold rtA
  rw [List.take_succ_eq_append_getElem hl, ringT_get hl]
  apply ByteArray.ext
  rw [ByteArray.data_append]
  split <;> simp
theorem rtA_all (f : ByteArray → ByteArray) (bobs : List ByteArray) (r : ByteArray) (R : Nat) : rtA f bobs r R R = ⟨(ringT f bobs r R).toArray⟩ := by
  unfold rtA
  rw [List.take_of_length_le (by rw [ringT_len]; exact Nat.le_refl _)]
theorem ringL_get {f : ByteArray → ByteArray} {h : ByteArray} {R j : Nat} (hj : j < (ringL f h R).length) : (ringL f h R)[j] = iterB f h j := by
  have h2 : (ringL f h R)[j]? = some (iterB f h j) := by
    have h3 : j < R := by rw [← ringL_len f h R]; exact hj
    unfold ringL
    rw [List.getElem?_map, List.getElem?_range h3]
    rfl
  exact Option.some.inj ((List.getElem?_eq_getElem hj).symm.trans h2)
theorem ring_el {w : World} {B tt : Nat} {A : Option Addr} {f : ByteArray → ByteArray} {h : ByteArray} {R q : Nat} (ho : w.ownsRow B tt 1 (.slice A R q) R ((ringL f h R).map Value.string)) : ∀ j, j < R → ∃ ad, A = some ad ∧ w.cell? (ad.add j) = some (.string (iterB f h j)) := by
  intro j hj
  have hl := ringL_len f h R
  have hS : Strs w (.slice A R q) (ringL f h R) := by
    have h2 := strs_of_own (zs := ringL f h R) (by rw [hl]; exact ho)
    first | exact h2 | (rw [hl] at h2; exact h2)
  obtain ⟨A6, q6, e6, _, _, hrd⟩ := hS
  injection e6 with ea eb ec
  subst ea
  have hj2 : j < (ringL f h R).length := by rw [hl]; exact hj
  obtain ⟨ad, e, hc⟩ := strs_el hrd hj2
  refine ⟨ad, e, ?_⟩
  rw [hc w (Below.refl _ _), ringL_get]
set_option maxHeartbeats 2000000 in
theorem specRingTouchOf_no (m : Mt) (v : Value) (k : Cl) (Vb : Value) (bobs : List ByteArray) (r : ByteArray) (w : World) (hb : BadBob m k bobs) (hm : MethAt w m v) (hs : MtSmall m) (hk : ClSmall k) (hV : Strs w Vb bobs) (hbl : bobs.length ≤ 100000000) : Calls Tryz.prog 98 #[m.v v, k.v, Vb, .string r] w fun e w' => e = .returned (.tuple #[.string ⟨#[]⟩, .bool false]) ∧ Below w.heap.size w w' := by
  have Hnb := Lib.hid (fun W (hW : Below w.heap.size w W) => l17Bobs_bad m v k Vb bobs W hb (hm.to hW) hs hk (hV.to hW) hbl)
  obtain ⟨Ab, cb, rfl⟩ : ∃ A c, Vb = .slice A bobs.length c := by obtain ⟨A, c, e, _⟩ := hV; exact ⟨A, c, e⟩
  obtain ⟨A, q, hv⟩ := hm.form
  subst hv
  unfold Mt.v Cl.v at *
  clear hm hb hV
  go_enter Tryz.func98, Tryz.ntmps98
  go_wp2_with fail
  refine box2 (C := fun W => Calls _ _ _ W _) ?_
  intro wb hw k1 k2 hB0
  clear k1 k2
  refine (Hnb.out _ hw).mono ?_; rintro e w1 ⟨a, b, d, A1, l1, q1, rfl, hb1⟩
  go_wp2_with fail
  go_ret2
  exact ⟨rfl, bw_al (bw_to hw hb1) _⟩
set_option maxRecDepth 100000 in
set_option maxHeartbeats 4000000 in
theorem specRingTouchOf_yes (m : Mt) (v : Value) (k : Cl) (Vb : Value) (n T K : Nat) (P B B' Q r : ByteArray) (RR : ByteArray → Nat) (bobs : List ByteArray) (w : World) (hK : BK m k n T P B B' Q) (hF : (cloB n [P, B] T).length ≤ 130) (hbg : BG (sortB (cloB n [P, B] T)) bobs Q) (hX : CX n P B Q bobs (sortB (cloB n [P, B] T)) RR K) (hm : MethAt w m v) (hs : MtSmall m) (hk : ClSmall k) (hV : Strs w Vb bobs) :
    Calls Tryz.prog 98 #[m.v v, k.v, Vb, .string r] w fun e w' => e = .returned (.tuple #[.string (rtO (sortB (cloB n [P, B] T)) (nxB bobs P B) bobs r (RR r)), .bool (rtB (sortB (cloB n [P, B] T)) r (RR r))]) ∧ Below w.heap.size w w' := by
  have Hnb := Lib.hid (fun W (hW : Below w.heap.size w W) => l17Bobs_yes m v k Vb n T P B B' Q bobs W hK hF hbg (hm.to hW) hs hk (hV.to hW))
  have hso := sortB_sorted (cloB n [P, B] T)
  have hbl := hbg.1.len
  have HS1 := Lib.hid hbg.1.2.sorted
  have HX1 := Lib.hid (fun (hh : r ∈ sortB (cloB n [P, B] T)) => hX.hit r hh)
  have HX2 := Lib.hid (fun (hh : r ∈ sortB (cloB n [P, B] T)) => hX.hRR r hh)
  obtain ⟨G, hG⟩ : ∃ G, G = sortB (cloB n [P, B] T) := ⟨_, rfl⟩
  have hGl : G.length ≤ 130 := by rw [hG, sortB_len]; exact hF
  rw [← hG] at Hnb hso hbl HX1 HX2 ⊢
  have Hn := Lib.hid hK.hn
  have HP := Lib.hid hK.invP.1
  have HB := Lib.hid hK.invB.1
  have HV := Lib.hid hV
  have Hh := Lib.hid (fun V W (hV : Strs W V G) => l1HasS_any V G r W hV)
  have Hhb := Lib.hid (fun V W x (hV : Strs W V bobs) => l1HasS_any V bobs x W hV)
  obtain ⟨O, hO⟩ : ∃ O, O = rtO G (nxB bobs P B) bobs r (RR r) := ⟨_, rfl⟩
  obtain ⟨D, hD⟩ : ∃ D, D = rtB G r (RR r) := ⟨_, rfl⟩
  rw [← hO, ← hD]
  unfold rtO rtB at hO
  unfold rtB at hD
  have HO := Lib.hid hO
  have HD := Lib.hid hD
  obtain ⟨Ab, cb, rfl⟩ : ∃ A c, Vb = .slice A bobs.length c := by obtain ⟨A, c, e, _⟩ := hV; exact ⟨A, c, e⟩
  obtain ⟨A, q, hv⟩ := hm.form
  subst hv
  unfold Mt.v Cl.v at *
  clear hm hK hG hF hso hbg hV hO hD hX
  cases hd : decide (r ∈ G)
  · have Hd := Lib.hid hd
    go_enter Tryz.func98, Tryz.ntmps98
    go_wp2_with fail
    refine box2 (C := fun W => Calls _ _ _ W _) ?_
    intro wb hw k1 k2 hB0
    clear k1 k2
    refine (Hnb.out _ hw).mono ?_; rintro e w1 ⟨A1, q1, rfl, hown1, hb1⟩
    have HS := Lib.hid (strs_of_own hown1)
    have hB1 := bw_to hw hb1
    clear hown1
    go_wp2_with (go_at_call 137; refine (Hh.out _ _ (HS.out.to (bw_al (Below.refl _ _) _))).mono ?_; rintro e w' ⟨rfl, rfl⟩; rw [Hd.out])
    go_ret2
    have e2 : D = false := by rw [HD.out, Hd.out]; rfl
    have e1 : O = ⟨#[]⟩ := by rw [HO.out, Hd.out]; rfl
    subst e1 e2
    exact ⟨rfl, bw_al hB1 _⟩
  · have Hd := Lib.hid hd
    have hi : r ∈ G := of_decide_eq_true hd
    have hRb := (HX2.out hi).2
    go_enter Tryz.func98, Tryz.ntmps98
    go_wp2_with fail
    refine box2 (C := fun W => Calls _ _ _ W _) ?_
    intro wb hw k1 k2 hB0
    clear k1 k2
    refine (Hnb.out _ hw).mono ?_; rintro e w1 ⟨A1, q1, rfl, hown1, hb1⟩
    have HS := Lib.hid (strs_of_own hown1)
    have hB1 := bw_to hw hb1
    have hbc := bw_al hB1 (.cells #[.string P, .string B, .string Q, .slice A1 G.length q1] 117)
    have HRC := Lib.hid (fun W (hW : Below w.heap.size w W) => ringS_any n (RR r) P B Q r (.slice A1 G.length q1) _ bobs W Hn.out HP.out HB.out (HX1.out hi) (HV.out.to hW) HS1.out (by omega) (HX2.out hi).1 (by omega))
    clear hown1
    by_cases hle : RR r ≤ 60
    · have hc60 : decide ((60 : Int) < (RR r : Int)) = false := decide_eq_false (by omega)
      go_upto_region 5 with (first | (go_at_call 137; refine (Hh.out _ _ (HS.out.to (bw_al (Below.refl _ _) _))).mono ?_; rintro e w' ⟨rfl, rfl⟩; rw [Hd.out]) | (go_at_call 138; refine (HRC.out _ hbc).mono ?_; rintro e w2 ⟨A2, q2, rfl, hown2, hb2⟩; (have kx : w2.heap[w1.heap.size]? = some (.cells #[.string P, .string B, .string Q, .slice A1 G.length q1] 117 (0, 0)) := (hb2.block w1.heap.size (by simp)).trans (heap_new w1 _)); (have x0 := heap_cell kx 0); (have x1 := heap_cell kx 1); (have x2 := heap_cell kx 2); (have x3 := heap_cell kx 3)))
      clear hown2
      have hB2 := bw_to hbc hb2
      go_wp2_with fail
      refine (HRC.out _ hB2).mono ?_; rintro e w3 ⟨A3, q3, rfl, hown3, hb3⟩
      have hB3 := bw_to hB2 hb3
      have Hel := Lib.hid (ring_el hown3)
      have HV2 := Lib.hid (HV.out.to hB3)
      have e2 : D = decide (RR r ≤ 60) := by rw [HD.out, Hd.out]; rfl
      have HE2 := Lib.hid e2
      have e1 : O = if decide (RR r ≤ 60) = true then ⟨(ringT (nxB bobs P B) bobs r (RR r)).toArray⟩ else ⟨#[]⟩ := by rw [HO.out, Hd.out]; rfl
      have HE1 := Lib.hid e1
      have Hsu := Lib.hid (fun j (hj : j < RR r) => rtA_succ (nxB bobs P B) bobs r hj)
      have Hsz := Lib.hid (fun j => rtA_size (nxB bobs P B) bobs r (RR r) j)
      have Hz := Lib.hid (rtA_zero (nxB bobs P B) bobs r (RR r))
      have Ha := Lib.hid (rtA_all (nxB bobs P B) bobs r (RR r))
      have hR1 := (HX2.out hi).1.1
      clear e1 e2 HO HD HX1 HX2
      obtain ⟨TT, hTT⟩ : ∃ TT, TT = rtA (nxB bobs P B) bobs r (RR r) := ⟨_, rfl⟩
      obtain ⟨IT, hIT⟩ : ∃ IT, IT = iterB (nxB bobs P B) r := ⟨_, rfl⟩
      rw [← hTT] at Hsu Hsz Hz Ha
      rw [← hIT] at Hsu Hel
      obtain ⟨WT, hWT⟩ : ∃ WT : ByteArray, WT = ⟨(ringT (nxB bobs P B) bobs r (RR r)).toArray⟩ := ⟨_, rfl⟩
      rw [← hWT] at HE1 Ha
      obtain ⟨R, hR⟩ : ∃ R, R = RR r := ⟨_, rfl⟩
      rw [← hR] at hle HE1 HE2 hRb hR1 Hsu Ha Hel ⊢
      clear hTT hIT hWT hR hown3
      go_wp2_with fail
      go_loop [12, 44] (fun t i => ∃ j : Nat, j ≤ R ∧ i = .int .i64 j ∧ t = .string (TT j)) (fun _ i => R - (intOf i).toNat)
      case atStart => exact ⟨0, by omega, rfl, by rw [Hz.out]⟩
      case round =>
        obtain ⟨j, hj, rfl, rfl⟩ := hrel
        by_cases hlt : j < R
        · obtain ⟨ad, rfl, hC0⟩ := Hel.out j hlt
          have Hs := Lib.hid (Hsu.out j hlt)
          have hsz := Hsz.out j
          have Hc := Lib.hid (Hhb.out _ w3 (IT j) HV2.out)
          obtain ⟨y, hy⟩ : ∃ y, y = IT j := ⟨_, rfl⟩
          obtain ⟨t0, ht0⟩ : ∃ t, t = TT j := ⟨_, rfl⟩
          rw [← hy] at hC0 Hs Hc
          rw [← ht0] at Hs hsz ⊢
          have z1 : (⟨#[98]⟩ : ByteArray).size = 1 := rfl
          have z2 : (⟨#[112]⟩ : ByteArray).size = 1 := rfl
          have y1 : ¬ 9223372036854775807 < t0.size + (⟨#[98]⟩ : ByteArray).size := by rw [z1]; omega
          have y2 : ¬ 9223372036854775807 < t0.size + (⟨#[112]⟩ : ByteArray).size := by rw [z2]; omega
          clear hy ht0 z1 z2
          cases hb : decide (y ∈ bobs)
          · rw [hb] at Hc
            rw [if_neg (of_decide_eq_false hb)] at Hs
            go_wp2_with (go_at_call 137; refine Hc.out.mono ?_; rintro e w' ⟨rfl, rfl⟩)
            exact ⟨⟨j + 1, by omega, rfl, by rw [Hs.out]⟩, by simp [intOf]; omega⟩
          · rw [hb] at Hc
            rw [if_pos (of_decide_eq_true hb)] at Hs
            go_wp2_with (go_at_call 137; refine Hc.out.mono ?_; rintro e w' ⟨rfl, rfl⟩)
            exact ⟨⟨j + 1, by omega, rfl, by rw [Hs.out]⟩, by simp [intOf]; omega⟩
        · obtain rfl : j = R := by omega
          go_wp2_with fail
          go_ret2
          refine ⟨?_, hB3⟩
          rw [HE1.out, HE2.out, if_pos (decide_eq_true hle), decide_eq_true hle, ← Ha.out]
          rfl
    · have hc60 : decide ((60 : Int) < (RR r : Int)) = true := decide_eq_true (by omega)
      go_wp2_with (first | (go_at_call 137; refine (Hh.out _ _ (HS.out.to (bw_al (Below.refl _ _) _))).mono ?_; rintro e w' ⟨rfl, rfl⟩; rw [Hd.out]) | (go_at_call 138; refine (HRC.out _ hbc).mono ?_; rintro e w2 ⟨A2, q2, rfl, hown2, hb2⟩; (have hB2 := bw_to hbc hb2)))
      go_ret2
      have e2 : D = false := by rw [HD.out, decide_eq_false hle, Bool.and_false]
      have e1 : O = ⟨#[]⟩ := by rw [HO.out, decide_eq_false hle, Bool.and_false]; rfl
      subst e1 e2
      exact ⟨rfl, hB2⟩
end Go.Proofs.YtbdioapgekaejaaGreat

/- Contracts: the reference's course; the number of leads, both sides. -/
namespace Go.Proofs.YtbdioapgekaejaaGreat
open Go Go.RowKit
set_option linter.unusedVariables false
set_option linter.unusedSimpArgs false

theorem rows_pow (l : List ByteArray) (n : Nat) (H : ByteArray) (j : Nat) : rowsB l (powL n H (j + 1)) = rowsB l (powL n H j) ++ leadB (powB n H j) l := by
  rw [powL_succ]; unfold rowsB; rw [List.flatMap_append]; simp
set_option maxHeartbeats 2000000 in
theorem specLeadsIn_yes (m : Mt) (v : Value) (n K : Nat) (w : World) (hK : MK m n K) (h : MethAt w m v) (hs : MtSmall m) : Calls Tryz.prog 101 #[m.v v] w fun e w' => e = .returned (.tuple #[.int .i64 (K : Int), .bool true]) ∧ Below w.heap.size w w' := by
  have Hg := Lib.hid (fun W (hW : Below w.heap.size w W) => l4Good_any m v W (h.to hW) hs)
  have Hh := Lib.hid (fun W (hW : Below w.heap.size w W) => l4Head_any m v n W hK.g (h.1.to hW))
  have Hp := Lib.hid (fun W => l1Order_any (runB (roundsB n) m.l) n K W hK.g.hi hK.hin hK.ord hK.kb)
  rw [hK.ok] at Hg
  obtain ⟨A, c, hv⟩ := h.form
  subst hv
  unfold Mt.v at *
  clear h hK
  go_enter Tryz.func101, Tryz.ntmps101
  go_wp2_with fail
  refine box1 (C := fun W => Calls _ _ _ W _) ?_
  intro wb hw k1 hB0
  have R1 := boxRule k1
  clear k1
  refine (Hg.out _ hw).mono ?_; rintro e w1 ⟨rfl, hb1⟩
  have hB1 := bw_to hw hb1
  go_wp2_with fail
  refine (Hh.out _ hB1).mono ?_; rintro e w2 ⟨rfl, hb2⟩
  have hB2 := bw_to hB1 hb2
  go_wp2_with fail
  refine (Hp.out _).mono ?_; rintro e w3 ⟨rfl, rfl⟩
  go_wp2_with fail
  go_ret2
  exact ⟨rfl, hB2⟩
set_option maxHeartbeats 2000000 in
theorem specLeadsIn_no (m : Mt) (v : Value) (w : World) (hn : methB m = false) (h : MethAt w m v) (hs : MtSmall m) : Calls Tryz.prog 101 #[m.v v] w fun e w' => e = .returned (.tuple #[.int .i64 0, .bool false]) ∧ Below w.heap.size w w' := by
  have Hg := Lib.hid (fun W (hW : Below w.heap.size w W) => l4Good_any m v W (h.to hW) hs)
  rw [hn] at Hg
  obtain ⟨A, c, hv⟩ := h.form
  subst hv
  unfold Mt.v at *
  clear h hn
  go_enter Tryz.func101, Tryz.ntmps101
  go_wp2_with fail
  refine box1 (C := fun W => Calls _ _ _ W _) ?_
  intro wb hw k1 hB0
  have R1 := boxRule k1
  clear k1
  refine (Hg.out _ hw).mono ?_; rintro e w1 ⟨rfl, hb1⟩
  go_wp2_with fail
  go_ret2
  exact ⟨rfl, bw_to hw hb1⟩
end Go.Proofs.YtbdioapgekaejaaGreat
