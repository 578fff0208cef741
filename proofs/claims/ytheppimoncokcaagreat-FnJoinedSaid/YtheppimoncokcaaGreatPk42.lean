/- Contracts of the laws' helpers: a number of bytes, a text's place in a row, two rows of texts alike, a row of no. -/
import Derived.Test.YtheppimoncokcaaGreatPk2
import Derived.Test.YtheppimoncokcaaGreatPk8
import Derived.Test.YtheppimoncokcaaGreatPk20
import Derived.Test.YtheppimoncokcaaGreatPk23
import Derived.Test.YtheppimoncokcaaGreatPk27
import Derived.Test.YtheppimoncokcaaGreatPk32
namespace Go.Proofs.YtheppimoncokcaaGreat
open Go Go.RowKit
set_option linter.unusedVariables false
set_option linter.unusedSimpArgs false

set_option maxHeartbeats 1000000 in
theorem numberOf_any (V : Value) (w : World) (h : BytesAt w w.heap.size V) : Calls Tryz.prog 17 #[V] w fun e w' => ∃ k : Nat, e = .returned (.int .i64 k) ∧ k ≤ 1000002 ∧ w = w' := by
  obtain ⟨A, n, c, zs, rfl, rfl, hnc, hc, hr, hz⟩ := h
  unfold maxLen at hc
  have Hz := Lib.hid hz
  clear hz
  go_enter Tryz.func17, Tryz.ntmps17
  go_wp2_with fail
  go_loop [3, 8] (fun q i => ∃ k m : Nat, k ≤ zs.length ∧ i = .int .i64 k ∧ q = .int .i64 m ∧ m ≤ 1000002) (fun _ i => zs.length - (intOf i).toNat)
  case atStart => exact ⟨0, 0, by omega, rfl, rfl, by omega⟩
  case round =>
    obtain ⟨k, m, hk, rfl, rfl, hm⟩ := hrel
    by_cases hlt : k < zs.length
    · obtain ⟨ad, u, rfl, hb, hu, hcell⟩ := hr.at_ (k := k) (by omega)
      have hu' : u = .int .u8 zs[k] := by simpa [hlt] using hu.symm
      subst hu'
      have hzk := Hz.out _ (List.getElem_mem hlt)
      obtain ⟨z, ez⟩ : ∃ z, z = zs[k] := ⟨_, rfl⟩
      rw [← ez] at hcell hzk
      obtain ⟨hz0, hz1⟩ := hzk
      clear hu ez
      have hmod0 : 0 ≤ (31 * (m : Int) + z) % 1000003 := Int.emod_nonneg _ (by omega)
      have hmod1 : (31 * (m : Int) + z) % 1000003 < 1000003 := Int.emod_lt_of_pos _ (by omega)
      go_wp2_with fail
      refine ⟨⟨k + 1, ((31 * (m : Int) + z) % 1000003).toNat, by omega, by go_num, congrArg (Value.int .i64) (by omega), by omega⟩, by simp [intOf]; omega⟩
    · go_wp2_with fail
      go_ret
      exact ⟨m, rfl, hm, rfl⟩
/-- Where a text stands in a row first. -/
theorem placeIn_any (V : Value) (l : List ByteArray) (r : ByteArray) (w : World) (hV : Strs w V l) (hd : l.Nodup) : Calls Tryz.prog 13 #[V, .string r] w fun e w' => ((∃ p : Nat, p < l.length ∧ l[p]? = some r ∧ e = .returned (.int .i64 p)) ∨ (r ∉ l ∧ e = .returned (.int .i64 (-1)))) ∧ w = w' := by
  obtain ⟨A, c, rfl, h1, h2, hrd⟩ := hV
  unfold maxLen at h2
  go_enter Tryz.func13, Tryz.ntmps13
  go_wp2_with fail
  go_loop [9] (fun i => ∃ k : Nat, k ≤ l.length ∧ i = .int .i64 k ∧ r ∉ l.take k) (fun i => l.length - (intOf i).toNat)
  case atStart => exact ⟨0, by omega, rfl, by simp⟩
  case round =>
    obtain ⟨k, hk, rfl, hn⟩ := hrel
    have Hn := Lib.hid hn
    clear hn
    by_cases hlt : k < l.length
    · obtain ⟨ad, rfl, hC⟩ := strs_el hrd hlt
      have hC0 := hC w (Below.refl _ _)
      have He := Lib.hid (sl_beq l[k] r)
      have Hno : Hid (l[k] ≠ r → r ∉ l.take (k + 1)) := Lib.hid (fun h hm => by
        rw [List.take_succ_eq_append_getElem hlt, List.mem_append, List.mem_singleton] at hm
        rcases hm with hm | hm
        · exact Hn.out hm
        · exact h hm.symm)
      have Hyes : Hid (l[k] = r → l[k]? = some r) := Lib.hid (fun h => by rw [List.getElem?_eq_getElem hlt, h])
      obtain ⟨x, hx⟩ : ∃ x, x = l[k] := ⟨_, rfl⟩
      rw [← hx] at hC0 He Hno Hyes
      clear hC hx
      cases hb : (x.toList == r.toList)
      · have Hne : Hid (x ≠ r) := Lib.hid (fun e => by rw [He.out, decide_eq_true e] at hb; cases hb)
        go_wp2_with fail
        exact ⟨⟨k + 1, by omega, by go_num, Hno.out Hne.out⟩, by simp [intOf]; omega⟩
      · have Hd := Lib.hid (Hyes.out (by rw [He.out] at hb; exact of_decide_eq_true hb))
        go_wp2_with fail
        go_ret
        exact ⟨.inl ⟨k, hlt, Hd.out, rfl⟩, rfl⟩
    · have Hd := Lib.hid (fun h : r ∈ l => Hn.out (by rw [List.take_of_length_le (by omega)]; exact h))
      go_wp2_with fail
      go_ret
      exact ⟨.inr ⟨Hd.out, rfl⟩, rfl⟩
theorem info_boX : (Tryz.prog.info? 4).map (fun i => (i.zero, i.size, i.bytes)) = some (some (.bool false), 1, 1) := by kernel_rfl
theorem map0_any (n : Nat) (w : World) (hn : n ≤ 1000) : Calls Tryz.prog 12 #[.int .i64 n] w fun e w' => ∃ A q, e = .returned (.slice A n q) ∧ w'.ownsRow w.heap.size 4 1 (.slice A n q) n (List.replicate n (.bool false)) ∧ Below w.heap.size w w' := by
  obtain ⟨i0, hi0, hz0, hs0, hb0⟩ := info_parts info_boX
  go_enter Tryz.func12, Tryz.ntmps12
  go_wp2_with (at_make; refine wpList_make_full _ rfl _ _ _ rfl w.heap.size 4 i0 _ 1 Tryz.underlying35 hi0 hz0 hs0 _ _ _ _ n rfl rfl rfl rfl (by rw [hb0]; omega) (by unfold maxLen; omega) (Nat.le_refl _) ?_; intro w1 hown1 hgr1)
  have hB1 := bw_gr (Below.refl _ _) hgr1
  go_ret
  refine ⟨_, _, rfl, ?_, hB1⟩
  rw [Nat.mul_one] at hown1
  rw [← made_rep]
  exact hown1
set_option maxHeartbeats 1000000 in
theorem sameTexts_any (u v : Value) (xs ys : List ByteArray) (w : World) (hu : Strs w u xs) (hv : Strs w v ys) : Calls Tryz.prog 18 #[u, v] w fun e w' => e = .returned (.bool (decide (xs = ys))) ∧ Below w.heap.size w w' := by
  obtain ⟨A, c, rfl, h1, h2, hr⟩ := hu
  obtain ⟨A', c', rfl, h1', h2', hr'⟩ := hv
  unfold maxLen at h2 h2'
  by_cases hl : xs.length = ys.length
  · have hle : ((xs.length : Int) == ys.length) = true := by rw [hl]; simp
    have hne : ((xs.length : Int) != ys.length) = false := by rw [hl]; simp
    have Hl := Lib.hid hl
    clear hl
    go_enter Tryz.func18, Tryz.ntmps18
    go_wp2_with fail
    go_loopw [13] (fun i wr => ∃ k : Nat, k ≤ xs.length ∧ i = .int .i64 k ∧ Below w.heap.size w wr ∧ xs.take k = ys.take k) (fun i _ => xs.length - (intOf i).toNat)
    case atStart => exact ⟨0, by omega, rfl, Below.refl _ _, by simp⟩
    case round =>
      obtain ⟨k, hk, rfl, hB, ht⟩ := hrel
      have Ht := Lib.hid ht
      clear ht
      by_cases hlt : k < xs.length
      · have hlt' : k < ys.length := by have := Hl.out; omega
        obtain ⟨ad, rfl, hC⟩ := strs_el hr hlt
        obtain ⟨ad', rfl, hC'⟩ := strs_el hr' hlt'
        by_cases he : xs[k] = ys[k]
        · have He := Lib.hid (takes_step Ht.out hlt hlt' he)
          have hb : (xs[k].toList == ys[k].toList) = true := by rw [he]; exact beq_self_eq_true _
          clear he
          go_wp2_with fail
          go_big_quiet (fail)
          go_wp2_with fail
          exact ⟨⟨k + 1, by omega, by go_num, bw_dr hB _, He.out⟩, by simp [intOf]; omega⟩
        · have He := Lib.hid (eq_no_at hlt hlt' he)
          have hb : (xs[k].toList == ys[k].toList) = false := str_ne he
          clear he
          go_wp2_with fail
          go_big_quiet (fail)
          go_wp2_with fail
          go_ret
          exact ⟨ret_bool He.out.symm, bw_dr hB _⟩
      · have He := Lib.hid (eq_yes Ht.out hlt Hl.out)
        go_wp2_with fail
        go_ret
        exact ⟨ret_bool He.out.symm, hB⟩
  · have He := Lib.hid (eq_no_len hl)
    have hle : ((xs.length : Int) == ys.length) = false := by simp; omega
    have hne : ((xs.length : Int) != ys.length) = true := by simp; omega
    clear hl
    go_enter Tryz.func18, Tryz.ntmps18
    go_wp2_with fail
    go_ret
    exact ⟨ret_bool He.out.symm, Below.refl _ _⟩
end Go.Proofs.YtheppimoncokcaaGreat

/- SetOf on both sides. -/
namespace Go.Proofs.YtheppimoncokcaaGreat
open Go Go.RowKit
set_option linter.unusedVariables false
set_option linter.unusedSimpArgs false

/-- What SetOf answers. -/
def setO (n T K : Nat) (P B Q r : ByteArray) : List ByteArray := if r ∈ sortB (cloB n [P, B] T) then sortB (setB n Q r K) else []
set_option maxHeartbeats 2000000 in
theorem implSetOf_no (m : Mt) (v : Value) (k : Cl) (r : ByteArray) (w : World) (hb : BadBlk m k) (hm : MethAt w m v) (hs : MtSmall m) (hk : ClSmall k) : Calls Tryz.prog 14 #[m.v v, k.v, .string r] w fun e w' => ∃ A q, e = .returned (.tuple #[.slice A ([] : List ByteArray).length q, .bool false]) ∧ w'.ownsRow w.heap.size 9 1 (.slice A ([] : List ByteArray).length q) ([] : List ByteArray).length (([] : List ByteArray).map Value.string) ∧ Below w.heap.size w w' := by
  have Hnb := Lib.hid (fun W (hW : Below w.heap.size w W) => newBlocks_bad m v k W hb (hm.to hW) hs hk)
  obtain ⟨A, c, hv⟩ := hm.form
  subst hv
  unfold Mt.v Cl.v at *
  clear hm hb
  go_enter Tryz.func14, Tryz.ntmps14
  go_wp2_with fail
  refine box2 (C := fun W => Calls _ _ _ W _) ?_
  intro wb hw k1 k2 hB0
  clear k1 k2
  refine (Hnb.out _ hw).mono ?_; rintro e w1 ⟨a, b, d, A1, l1, q1, rfl, hb1⟩
  go_wp2_with fail
  go_ret2
  exact ⟨none, 0, rfl, World.ownsRow_nil _ _ _ _, bw_al (bw_to hw hb1) _⟩
set_option maxRecDepth 100000 in
set_option maxHeartbeats 4000000 in
theorem implSetOf_yes (m : Mt) (v : Value) (k : Cl) (n T K : Nat) (P B B' Q r : ByteArray) (w : World) (hK : BK m k n T P B B' Q) (hF : (cloB n [P, B] T).length ≤ 130) (hO : IsOrd n Q K) (hOb : K ≤ 16777216) (hm : MethAt w m v) (hs : MtSmall m) (hk : ClSmall k) :
    Calls Tryz.prog 14 #[m.v v, k.v, .string r] w fun e w' => ∃ A q, e = .returned (.tuple #[.slice A (setO n T K P B Q r).length q, .bool (decide (r ∈ sortB (cloB n [P, B] T)))]) ∧ w'.ownsRow w.heap.size 9 1 (.slice A (setO n T K P B Q r).length q) (setO n T K P B Q r).length ((setO n T K P B Q r).map Value.string) ∧ Below w.heap.size w w' := by
  have Hnb := Lib.hid (fun W (hW : Below w.heap.size w W) => newBlocks_yes m v k n T P B B' Q W hK (hm.to hW) hs hk)
  rw [grpL_yes hF, decide_eq_true hF] at Hnb
  have HI := Lib.hid (fun (hh : r ∈ sortB (cloB n [P, B] T)) => (bk_all hK).2.2 r ((sortB_mem _ _).1 hh))
  have hso := sortB_sorted (cloB n [P, B] T)
  obtain ⟨G, hG⟩ : ∃ G, G = sortB (cloB n [P, B] T) := ⟨_, rfl⟩
  have hGl : G.length ≤ 130 := by rw [hG, sortB_len]; exact hF
  obtain ⟨L, hL⟩ : ∃ L, L = setO n T K P B Q r := ⟨_, rfl⟩
  rw [← hL]
  unfold setO at hL
  rw [← hG] at Hnb hso HI hL ⊢
  have HL := Lib.hid hL
  have HO := Lib.hid hO
  have Hn := Lib.hid hK.hn
  have HQ := Lib.hid hK.invQ
  have Hh := Lib.hid (fun V W (hV : Strs W V G) => has_any V G r W hV hso (by omega))
  obtain ⟨A, q, hv⟩ := hm.form
  subst hv
  unfold Mt.v Cl.v at *
  clear hm hK hG hF hso hO hL
  cases hd : decide (r ∈ G)
  all_goals
    have Hd := Lib.hid hd
    go_enter Tryz.func14, Tryz.ntmps14
    go_wp2_with fail
    refine box2 (C := fun W => Calls _ _ _ W _) ?_
    intro wb hw k1 k2 hB0
    clear k1 k2
    refine (Hnb.out _ hw).mono ?_; rintro e w1 ⟨A1, q1, rfl, hown1, hb1⟩
    have HS := Lib.hid (strs_of_own hown1)
    have hB1 := bw_to hw hb1
    clear hown1
    go_wp2_with (go_at_call 50; refine (Hh.out _ _ (HS.out.to (bw_al (Below.refl _ _) _))).mono ?_; rintro e w' ⟨rfl, rfl⟩; rw [Hd.out])
  · go_ret2
    have e0 : r ∉ G := of_decide_eq_false Hd.out
    have e1 : L = [] := by rw [HL.out, if_neg e0]
    subst e1
    exact ⟨none, 0, rfl, World.ownsRow_nil _ _ _ _, bw_al hB1 _⟩
  · have hi : r ∈ G := of_decide_eq_true Hd.out
    refine (setOfI_any n K P B Q r _ _ Hn.out HQ.out.1 (HI.out hi).1 HO.out hOb ⟨_, _, _, rfl⟩).mono ?_; rintro e w2 ⟨A2, q2, rfl, hown2, hb2⟩
    have Hown := Lib.hid hown2
    have hB2 := bw_to (bw_al hB1 (.cells #[.string P, .string B, .slice A1 G.length q1, .string Q] 72)) hb2
    clear hown2
    have hlow : w.heap.size ≤ (w1.alloc (.cells #[.string P, .string B, .slice A1 G.length q1, .string Q] 72)).heap.size := (bw_al hB1 (.cells #[.string P, .string B, .slice A1 G.length q1, .string Q] 72)).size
    go_wp2_with fail
    go_ret2
    have e1 : L = sortB (setB n Q r K) := by rw [HL.out, if_pos hi]
    have e2 : L.length = K := by rw [e1, sortB_len, setB_len]
    rw [e2, e1]
    exact ⟨A2, q2, rfl, own_base Hown.out hlow, hB2⟩
set_option maxHeartbeats 2000000 in
theorem specSetOf_no (m : Mt) (v : Value) (k : Cl) (r : ByteArray) (w : World) (hb : BadBlk m k) (hm : MethAt w m v) (hs : MtSmall m) (hk : ClSmall k) : Calls Tryz.prog 23 #[m.v v, k.v, .string r] w fun e w' => ∃ A q, e = .returned (.tuple #[.slice A ([] : List ByteArray).length q, .bool false]) ∧ w'.ownsRow w.heap.size 9 1 (.slice A ([] : List ByteArray).length q) ([] : List ByteArray).length (([] : List ByteArray).map Value.string) ∧ Below w.heap.size w w' := by
  have Hnb := Lib.hid (fun W (hW : Below w.heap.size w W) => l17Of_bad m v k W hb (hm.to hW) hs hk)
  obtain ⟨A, c, hv⟩ := hm.form
  subst hv
  unfold Mt.v Cl.v at *
  clear hm hb
  go_enter Tryz.func23, Tryz.ntmps23
  go_wp2_with fail
  refine box2 (C := fun W => Calls _ _ _ W _) ?_
  intro wb hw k1 k2 hB0
  clear k1 k2
  refine (Hnb.out _ hw).mono ?_; rintro e w1 ⟨a, b, d, A1, l1, q1, rfl, hb1⟩
  go_wp2_with fail
  go_ret2
  exact ⟨none, 0, rfl, World.ownsRow_nil _ _ _ _, bw_al (bw_to hw hb1) _⟩
set_option maxRecDepth 100000 in
set_option maxHeartbeats 4000000 in
theorem specSetOf_yes (m : Mt) (v : Value) (k : Cl) (n T K : Nat) (P B B' Q r : ByteArray) (w : World) (hK : BK m k n T P B B' Q) (hF : (cloB n [P, B] T).length ≤ 130) (hO : IsOrd n Q K) (hOb : K ≤ 16777216) (hm : MethAt w m v) (hs : MtSmall m) (hk : ClSmall k) :
    Calls Tryz.prog 23 #[m.v v, k.v, .string r] w fun e w' => ∃ A q, e = .returned (.tuple #[.slice A (setO n T K P B Q r).length q, .bool (decide (r ∈ sortB (cloB n [P, B] T)))]) ∧ w'.ownsRow w.heap.size 9 1 (.slice A (setO n T K P B Q r).length q) (setO n T K P B Q r).length ((setO n T K P B Q r).map Value.string) ∧ Below w.heap.size w w' := by
  have Hnb := Lib.hid (fun W (hW : Below w.heap.size w W) => l17Of_yes m v k n T P B B' Q W hK (hm.to hW) hs hk)
  rw [grp8_yes (Nat.le_trans hF (by omega)), decide_eq_true hF] at Hnb
  have HI := Lib.hid (fun (hh : r ∈ sortB (cloB n [P, B] T)) => (bk_all hK).2.2 r ((sortB_mem _ _).1 hh))
  have hso := sortB_sorted (cloB n [P, B] T)
  obtain ⟨G, hG⟩ : ∃ G, G = sortB (cloB n [P, B] T) := ⟨_, rfl⟩
  have hGl : G.length ≤ 130 := by rw [hG, sortB_len]; exact hF
  obtain ⟨L, hL⟩ : ∃ L, L = setO n T K P B Q r := ⟨_, rfl⟩
  rw [← hL]
  unfold setO at hL
  rw [← hG] at Hnb hso HI hL ⊢
  have HL := Lib.hid hL
  have HO := Lib.hid hO
  have Hn := Lib.hid hK.hn
  have HQ := Lib.hid hK.invQ
  have Hh := Lib.hid (fun V W (hV : Strs W V G) => l1HasS_any V G r W hV)
  obtain ⟨A, q, hv⟩ := hm.form
  subst hv
  unfold Mt.v Cl.v at *
  clear hm hK hG hF hso hO hL
  cases hd : decide (r ∈ G)
  all_goals
    have Hd := Lib.hid hd
    go_enter Tryz.func23, Tryz.ntmps23
    go_wp2_with fail
    refine box2 (C := fun W => Calls _ _ _ W _) ?_
    intro wb hw k1 k2 hB0
    clear k1 k2
    refine (Hnb.out _ hw).mono ?_; rintro e w1 ⟨A1, q1, rfl, hown1, hb1⟩
    have HS := Lib.hid (strs_of_own hown1)
    have hB1 := bw_to hw hb1
    clear hown1
    go_wp2_with (go_at_call 53; refine (Hh.out _ _ (HS.out.to (bw_al (Below.refl _ _) _))).mono ?_; rintro e w' ⟨rfl, rfl⟩; rw [Hd.out])
  · go_ret2
    have e0 : r ∉ G := of_decide_eq_false Hd.out
    have e1 : L = [] := by rw [HL.out, if_neg e0]
    subst e1
    exact ⟨none, 0, rfl, World.ownsRow_nil _ _ _ _, bw_al hB1 _⟩
  · have hi : r ∈ G := of_decide_eq_true Hd.out
    refine (setS_any n K P B Q r _ _ Hn.out HQ.out (HI.out hi) HO.out hOb ⟨_, _, _, rfl⟩).mono ?_; rintro e w2 ⟨A2, q2, rfl, hown2, hb2⟩
    have Hown := Lib.hid hown2
    have hB2 := bw_to (bw_al hB1 (.cells #[.string P, .string B, .string Q, .slice A1 G.length q1] 78)) hb2
    clear hown2
    have hlow : w.heap.size ≤ (w1.alloc (.cells #[.string P, .string B, .string Q, .slice A1 G.length q1] 78)).heap.size := (bw_al hB1 (.cells #[.string P, .string B, .string Q, .slice A1 G.length q1] 78)).size
    go_wp2_with fail
    go_ret2
    have e1 : L = sortB (setB n Q r K) := by rw [HL.out, if_pos hi]
    have e2 : L.length = K := by rw [e1, sortB_len, setB_len]
    rw [e2, e1]
    exact ⟨A2, q2, rfl, own_base Hown.out hlow, hB2⟩
end Go.Proofs.YtheppimoncokcaaGreat

/- The law SetOf. -/
namespace Go.Proofs.YtheppimoncokcaaGreat
open Go Go.RowKit
set_option linter.unusedVariables false
set_option linter.unusedSimpArgs false

theorem set_both (m : Mt) (k : Cl) (r : ByteArray) (hs : MtSmall m) (hk : ClSmall k) : ∃ (L : List ByteArray) (b : Bool), L.length ≤ 16777216 ∧ (∀ v W, MethAt W m v → Calls Tryz.prog 14 #[m.v v, k.v, .string r] W fun e w' => ∃ A q, e = .returned (.tuple #[.slice A L.length q, .bool b]) ∧ w'.ownsRow W.heap.size 9 1 (.slice A L.length q) L.length (L.map Value.string) ∧ Below W.heap.size W w') ∧ (∀ v W, MethAt W m v → Calls Tryz.prog 23 #[m.v v, k.v, .string r] W fun e w' => ∃ A q, e = .returned (.tuple #[.slice A L.length q, .bool b]) ∧ w'.ownsRow W.heap.size 9 1 (.slice A L.length q) L.length (L.map Value.string) ∧ Below W.heap.size W w') := by
  rcases blk_cases m k with hb | ⟨n, T, P, B, B', Q, hK, hF⟩
  · exact ⟨[], false, by simp, fun v W h => implSetOf_no m v k r W hb h hs hk, fun v W h => specSetOf_no m v k r W hb h hs hk⟩
  · obtain ⟨K, hKb, hO⟩ := ord_ex hK.hn hK.invQ
    refine ⟨_, _, ?_, fun v W h => implSetOf_yes m v k n T K P B B' Q r W hK hF hO hKb h hs hk, fun v W h => specSetOf_yes m v k n T K P B B' Q r W hK hF hO hKb h hs hk⟩
    unfold setO
    split
    · rw [sortB_len, setB_len]; exact hKb
    · simp
end Go.Proofs.YtheppimoncokcaaGreat
