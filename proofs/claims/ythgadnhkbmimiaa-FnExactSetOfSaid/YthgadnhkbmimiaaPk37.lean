/- SetOf on both sides. -/
import Derived.Test.YthgadnhkbmimiaaPk36
import Derived.Test.YthgadnhkbmimiaaPk4
import Derived.Test.YthgadnhkbmimiaaPk5
namespace Go.Proofs.Ythgadnhkbmimiaa
open Go Go.RowKit
set_option linter.unusedVariables false
set_option linter.unusedSimpArgs false

/-- What SetOf answers. -/
def setO (n T K : Nat) (P B Q r : ByteArray) : List ByteArray := if r ∈ sortB (cloB n [P, B] T) then sortB (setB n Q r K) else []
set_option maxHeartbeats 2000000 in
theorem implSetOf_no (m : Mt) (v : Value) (k : Cl) (r : ByteArray) (w : World) (hb : BadBlk m k) (hm : MethAt w m v) (hs : MtSmall m) (hk : ClSmall k) : Calls Try.prog 16 #[m.v v, k.v, .string r] w fun e w' => ∃ A q, e = .returned (.tuple #[.slice A ([] : List ByteArray).length q, .bool false]) ∧ w'.ownsRow w.heap.size 9 1 (.slice A ([] : List ByteArray).length q) ([] : List ByteArray).length (([] : List ByteArray).map Value.string) ∧ Below w.heap.size w w' := by
  have Hnb := Lib.hid (fun W (hW : Below w.heap.size w W) => newBlocks_bad m v k W hb (hm.to hW) hs hk)
  obtain ⟨A, c, hv⟩ := hm.form
  subst hv
  unfold Mt.v Cl.v at *
  clear hm hb
  go_enter Try.func16, Try.ntmps16
  go_wp2_with fail
  refine box2 (C := fun W => Calls _ _ _ W _) ?_
  intro wb hw k1 k2 hB0
  clear k1 k2
  refine (Hnb.out _ hw).mono ?_; rintro e w1 ⟨a, b, d, A1, l1, q1, rfl, hb1⟩
  go_wp2_with fail
  go_ret2
  exact ⟨none, 0, rfl, World.ownsRow_nil _ _ _ _, bw_al (bw_to hw hb1) _⟩
set_option maxRecDepth 100000 in
set_option maxHeartbeats 4000000 in
theorem implSetOf_yes (m : Mt) (v : Value) (k : Cl) (n T K : Nat) (P B B' Q r : ByteArray) (w : World) (hK : BK m k n T P B B' Q) (hF : (cloB n [P, B] T).length ≤ 130) (hO : IsOrd n Q K) (hOb : K ≤ 16777216) (hm : MethAt w m v) (hs : MtSmall m) (hk : ClSmall k) :
    Calls Try.prog 16 #[m.v v, k.v, .string r] w fun e w' => ∃ A q, e = .returned (.tuple #[.slice A (setO n T K P B Q r).length q, .bool (decide (r ∈ sortB (cloB n [P, B] T)))]) ∧ w'.ownsRow w.heap.size 9 1 (.slice A (setO n T K P B Q r).length q) (setO n T K P B Q r).length ((setO n T K P B Q r).map Value.string) ∧ Below w.heap.size w w' := by
  have Hnb := Lib.hid (fun W (hW : Below w.heap.size w W) => newBlocks_yes m v k n T P B B' Q W hK (hm.to hW) hs hk)
  rw [grpL_yes hF, decide_eq_true hF] at Hnb
  have HI := Lib.hid (fun (hh : r ∈ sortB (cloB n [P, B] T)) => (bk_all hK).2.2 r ((sortB_mem _ _).1 hh))
  have hso := sortB_sorted (cloB n [P, B] T)
  obtain ⟨G, hG⟩ : ∃ G, G = sortB (cloB n [P, B] T) := ⟨_, rfl⟩
  have hGl : G.length ≤ 130 := by rw [hG, sortB_len]; exact hF
  obtain ⟨L, hL⟩ : ∃ L, L = setO n T K P B Q r := ⟨_, rfl⟩
  rw [← hL]
  unfold setO at hL
  rw [← hG] at Hnb hso HI hL ⊢
  have HL := Lib.hid hL
  have HO := Lib.hid hO
  have Hn := Lib.hid hK.hn
  have HQ := Lib.hid hK.invQ
  have Hh := Lib.hid (fun V W (hV : Strs W V G) => has_any V G r W hV hso (by omega))
  obtain ⟨A, q, hv⟩ := hm.form
  subst hv
  unfold Mt.v Cl.v at *
  clear hm hK hG hF hso hO hL
  cases hd : decide (r ∈ G)
  all_goals
    have Hd := Lib.hid hd
    go_enter Try.func16, Try.ntmps16
    go_wp2_with fail
    refine box2 (C := fun W => Calls _ _ _ W _) ?_
    intro wb hw k1 k2 hB0
    clear k1 k2
    refine (Hnb.out _ hw).mono ?_; rintro e w1 ⟨A1, q1, rfl, hown1, hb1⟩
    have HS := Lib.hid (strs_of_own hown1)
    have hB1 := bw_to hw hb1
    clear hown1
    go_wp2_with (go_at_call 56; refine (Hh.out _ _ (HS.out.to (bw_al (Below.refl _ _) _))).mono ?_; rintro e w' ⟨rfl, rfl⟩; rw [Hd.out])
  · go_ret2
    have e0 : r ∉ G := of_decide_eq_false Hd.out
    have e1 : L = [] := by rw [HL.out, if_neg e0]
    subst e1
    exact ⟨none, 0, rfl, World.ownsRow_nil _ _ _ _, bw_al hB1 _⟩
  · have hi : r ∈ G := of_decide_eq_true Hd.out
    refine (setOfI_any n K P B Q r _ _ Hn.out HQ.out.1 (HI.out hi).1 HO.out hOb ⟨_, _, _, rfl⟩).mono ?_; rintro e w2 ⟨A2, q2, rfl, hown2, hb2⟩
    have Hown := Lib.hid hown2
    have hB2 := bw_to (bw_al hB1 (.cells #[.string P, .string B, .slice A1 G.length q1, .string Q] 82)) hb2
    clear hown2
    have hlow : w.heap.size ≤ (w1.alloc (.cells #[.string P, .string B, .slice A1 G.length q1, .string Q] 82)).heap.size := (bw_al hB1 (.cells #[.string P, .string B, .slice A1 G.length q1, .string Q] 82)).size
    go_wp2_with fail
    go_ret2
    have e1 : L = sortB (setB n Q r K) := by rw [HL.out, if_pos hi]
    have e2 : L.length = K := by rw [e1, sortB_len, setB_len]
    rw [e2, e1]
    exact ⟨A2, q2, rfl, own_base Hown.out hlow, hB2⟩
set_option maxHeartbeats 2000000 in
theorem specSetOf_no (m : Mt) (v : Value) (k : Cl) (r : ByteArray) (w : World) (hb : BadBlk m k) (hm : MethAt w m v) (hs : MtSmall m) (hk : ClSmall k) : Calls Try.prog 15 #[m.v v, k.v, .string r] w fun e w' => ∃ A q, e = .returned (.tuple #[.slice A ([] : List ByteArray).length q, .bool false]) ∧ w'.ownsRow w.heap.size 9 1 (.slice A ([] : List ByteArray).length q) ([] : List ByteArray).length (([] : List ByteArray).map Value.string) ∧ Below w.heap.size w w' := by
  have Hnb := Lib.hid (fun W (hW : Below w.heap.size w W) => l17Of_bad m v k W hb (hm.to hW) hs hk)
  obtain ⟨A, c, hv⟩ := hm.form
  subst hv
  unfold Mt.v Cl.v at *
  clear hm hb
  go_enter Try.func15, Try.ntmps15
  go_wp2_with fail
  refine box2 (C := fun W => Calls _ _ _ W _) ?_
  intro wb hw k1 k2 hB0
  clear k1 k2
  refine (Hnb.out _ hw).mono ?_; rintro e w1 ⟨a, b, d, A1, l1, q1, rfl, hb1⟩
  go_wp2_with fail
  go_ret2
  exact ⟨none, 0, rfl, World.ownsRow_nil _ _ _ _, bw_al (bw_to hw hb1) _⟩
set_option maxRecDepth 100000 in
set_option maxHeartbeats 4000000 in
theorem specSetOf_yes (m : Mt) (v : Value) (k : Cl) (n T K : Nat) (P B B' Q r : ByteArray) (w : World) (hK : BK m k n T P B B' Q) (hF : (cloB n [P, B] T).length ≤ 130) (hO : IsOrd n Q K) (hOb : K ≤ 16777216) (hm : MethAt w m v) (hs : MtSmall m) (hk : ClSmall k) :
    Calls Try.prog 15 #[m.v v, k.v, .string r] w fun e w' => ∃ A q, e = .returned (.tuple #[.slice A (setO n T K P B Q r).length q, .bool (decide (r ∈ sortB (cloB n [P, B] T)))]) ∧ w'.ownsRow w.heap.size 9 1 (.slice A (setO n T K P B Q r).length q) (setO n T K P B Q r).length ((setO n T K P B Q r).map Value.string) ∧ Below w.heap.size w w' := by
  have Hnb := Lib.hid (fun W (hW : Below w.heap.size w W) => l17Of_yes m v k n T P B B' Q W hK (hm.to hW) hs hk)
  rw [grp8_yes (Nat.le_trans hF (by omega)), decide_eq_true hF] at Hnb
  have HI := Lib.hid (fun (hh : r ∈ sortB (cloB n [P, B] T)) => (bk_all hK).2.2 r ((sortB_mem _ _).1 hh))
  have hso := sortB_sorted (cloB n [P, B] T)
  obtain ⟨G, hG⟩ : ∃ G, G = sortB (cloB n [P, B] T) := ⟨_, rfl⟩
  have hGl : G.length ≤ 130 := by rw [hG, sortB_len]; exact hF
  obtain ⟨L, hL⟩ : ∃ L, L = setO n T K P B Q r := ⟨_, rfl⟩
  rw [← hL]
  unfold setO at hL
  rw [← hG] at Hnb hso HI hL ⊢
  have HL := Lib.hid hL
  have HO := Lib.hid hO
  have Hn := Lib.hid hK.hn
  have HQ := Lib.hid hK.invQ
  have Hh := Lib.hid (fun V W (hV : Strs W V G) => l1HasS_any V G r W hV)
  obtain ⟨A, q, hv⟩ := hm.form
  subst hv
  unfold Mt.v Cl.v at *
  clear hm hK hG hF hso hO hL
  cases hd : decide (r ∈ G)
  all_goals
    have Hd := Lib.hid hd
    go_enter Try.func15, Try.ntmps15
    go_wp2_with fail
    refine box2 (C := fun W => Calls _ _ _ W _) ?_
    intro wb hw k1 k2 hB0
    clear k1 k2
    refine (Hnb.out _ hw).mono ?_; rintro e w1 ⟨A1, q1, rfl, hown1, hb1⟩
    have HS := Lib.hid (strs_of_own hown1)
    have hB1 := bw_to hw hb1
    clear hown1
    go_wp2_with (go_at_call 54; refine (Hh.out _ _ (HS.out.to (bw_al (Below.refl _ _) _))).mono ?_; rintro e w' ⟨rfl, rfl⟩; rw [Hd.out])
  · go_ret2
    have e0 : r ∉ G := of_decide_eq_false Hd.out
    have e1 : L = [] := by rw [HL.out, if_neg e0]
    subst e1
    exact ⟨none, 0, rfl, World.ownsRow_nil _ _ _ _, bw_al hB1 _⟩
  · have hi : r ∈ G := of_decide_eq_true Hd.out
    refine (setS_any n K P B Q r _ _ Hn.out HQ.out (HI.out hi) HO.out hOb ⟨_, _, _, rfl⟩).mono ?_; rintro e w2 ⟨A2, q2, rfl, hown2, hb2⟩
    have Hown := Lib.hid hown2
    have hB2 := bw_to (bw_al hB1 (.cells #[.string P, .string B, .string Q, .slice A1 G.length q1] 75)) hb2
    clear hown2
    have hlow : w.heap.size ≤ (w1.alloc (.cells #[.string P, .string B, .string Q, .slice A1 G.length q1] 75)).heap.size := (bw_al hB1 (.cells #[.string P, .string B, .string Q, .slice A1 G.length q1] 75)).size
    go_wp2_with fail
    go_ret2
    have e1 : L = sortB (setB n Q r K) := by rw [HL.out, if_pos hi]
    have e2 : L.length = K := by rw [e1, sortB_len, setB_len]
    rw [e2, e1]
    exact ⟨A2, q2, rfl, own_base Hown.out hlow, hB2⟩
end Go.Proofs.Ythgadnhkbmimiaa

/- Texts and methods marked; a variable that holds a method. -/
namespace Go.Proofs.Ythgadnhkbmimiaa
open Go Go.RowKit
set_option linter.unusedVariables false
set_option linter.unusedSimpArgs false

def marksT (k n : Nat) : List ByteArray := (List.range n).map fun i => mText (k + i)
theorem marksT_length (k n : Nat) : (marksT k n).length = n := by simp [marksT]
theorem marksT_get {k n i : Nat} (h : i < (marksT k n).length) : (marksT k n)[i] = mText (k + i) := by simp [marksT]
theorem marksT_succ (k n : Nat) : marksT k (n + 1) = marksT k n ++ [mText (k + n)] := by simp [marksT, List.range_succ]
set_option maxHeartbeats 1000000 in
theorem markStringS_any (v : Value) (n k0 : Nat) (cs : List Value) (base : Nat) (w : World) (h : w.ownsRow base 9 1 v n cs) (hn : n ≤ 100000000) (hk0 : k0 ≤ 100000000000000) : Calls Try.prog 19 #[v, .int .i64 k0] w fun e w' =>
    e = .returned (.int .i64 ((k0 + n : Nat) : Int)) ∧ w'.ownsRow base 9 1 v n ((marksT k0 n).map Value.string) ∧ w.grownBy w' v.ownBlock := by
  rcases h.2 with ⟨rfl, rfl⟩ | ⟨g, cap, cur, rfl, hbg, hh, hnc, hcm, _⟩
  · go_enter Try.func19, Try.ntmps19
    go_wp2_with fail
    go_loopw [1, 5] (fun q i wr => q = .int .i64 k0 ∧ i = .int .i64 0 ∧ wr = w) (fun _ _ _ => 0)
    case atStart => exact ⟨rfl, rfl, rfl⟩
    case round =>
      obtain ⟨rfl, rfl, rfl⟩ := hrel
      go_wp2_with fail
      go_ret
      exact ⟨rfl, World.ownsRow_nil _ _ _ _, gr_refl _ _⟩
  · unfold maxLen at hcm
    go_enter Try.func19, Try.ntmps19
    go_wp2_with fail
    go_loopw [1, 5] (fun q i wr => ∃ k : Nat, k ≤ n ∧ i = .int .i64 k ∧ q = .int .i64 ((k0 + k : Nat) : Int) ∧ (∃ ds, wr.ownsRow base 9 1 (.slice (some ⟨g, 0, none⟩) n cap) n ds ∧ ds.take k = (marksT k0 k).map Value.string) ∧ w.grownBy wr (some g)) (fun _ i _ => n - (intOf i).toNat)
    case atStart => exact ⟨0, by omega, rfl, rfl, ⟨_, h, rfl⟩, gr_refl _ _⟩
    case round =>
      obtain ⟨k, hk, rfl, rfl, ⟨ds, hown, hds⟩, hgr⟩ := hrel
      have Hds := Lib.hid hds
      clear hds
      by_cases hlt : k < n
      · go_wp2_with fail
        refine (markText_any (k0 + k) _ (by omega)).mono ?_; rintro e w2 ⟨rfl, hb2⟩
        have hown2 := own_to hown hb2
        have hgr2 := gr_below hgr hb2
        obtain ⟨y0, hy⟩ := own_some hown2 (j := k) (by omega)
        have hf := hown2.frozenAt k
        go_wp2_with fail
        refine ⟨⟨k + 1, by omega, by go_num, congrArg (Value.int .i64) (by omega), ⟨_, own_set hown2 _ _, ?_⟩, gr_set hgr2 _⟩, by simp [intOf]; omega⟩
        rw [take_set_last (by have := hown.1; omega), Hds.out, marksT_succ, List.map_append]
        simp
      · obtain rfl : k = n := by omega
        go_wp2_with fail
        go_ret
        refine ⟨rfl, ?_, hgr⟩
        have := Hds.out
        rw [List.take_of_length_le (by rw [hown.1]; omega)] at this
        rw [← this]
        exact hown
set_option maxHeartbeats 1000000 in
theorem heldStringS_any (v : Value) (n k0 : Nat) (w : World) (h : Strs w v (marksT k0 n)) (hn : n ≤ 100000000) (hk0 : k0 ≤ 100000000000000) : Calls Try.prog 20 #[v, .int .i64 k0] w fun e w' =>
    e = .returned (.int .i64 ((k0 + n : Nat) : Int)) ∧ Below w.heap.size w w' := by
  obtain ⟨A, c, hv, h1, h2, hr⟩ := h
  rw [marksT_length] at hv h1 hr
  subst hv
  unfold maxLen at h2
  go_enter Try.func20, Try.ntmps20
  go_wp2_with fail
  go_loopw [1, 5] (fun q i wr => ∃ k : Nat, k ≤ n ∧ i = .int .i64 k ∧ q = .int .i64 ((k0 + k : Nat) : Int) ∧ Below w.heap.size w wr) (fun _ i _ => n - (intOf i).toNat)
  case atStart => exact ⟨0, by omega, rfl, rfl, Below.refl _ _⟩
  case round =>
    obtain ⟨k, hk, rfl, rfl, hB⟩ := hrel
    by_cases hlt : k < n
    · obtain ⟨ad, rfl, hC⟩ := strs_el hr (k := k) (by rw [marksT_length]; exact hlt)
      rw [marksT_get] at hC
      have hq0 : (0 : Int) ≤ (k : Int) := by omega
      have hq1 : (k : Int) < (n : Int) := by omega
      go_wp2_with fail
      go_region_held3 (fun w' => Below w.heap.size w w') (first | exact Below.drew (by assumption) | exact bw_to (by assumption) hb')
        (first | (go_at_call 58; refine (markText_any (k0 + k) _ (by omega)).mono ?_; rintro e w' ⟨rfl, hb'⟩))
      go_wp2_with fail
      exact ⟨⟨k + 1, by omega, by go_num, congrArg (Value.int .i64) (by omega), by assumption⟩, by simp [intOf]; omega⟩
    · obtain rfl : k = n := by omega
      go_wp2_with fail
      go_ret
      exact ⟨rfl, hB⟩
set_option maxHeartbeats 1000000 in
theorem markMethod_any (m : Mt) (v : Value) (n k0 : Nat) (cs : List Value) (base : Nat) (w : World) (h : w.ownsRow base 9 1 v n cs) (hn : n ≤ 100000000) (hk0 : k0 ≤ 100000000000000) : Calls Try.prog 18 #[m.v v, .int .i64 k0] w fun e w' =>
    ∃ r : Int, e = .returned (.int .i64 r) ∧ r = ((k0 + n : Nat) : Int) ∧ w'.ownsRow base 9 1 v n ((marksT k0 n).map Value.string) ∧ w.grownBy w' v.ownBlock := by
  unfold Mt.v
  go_enter Try.func18, Try.ntmps18
  go_wp2_with fail
  refine box1 (C := fun W => Calls _ _ _ W _) ?_
  intro wb hw k1 hB0
  refine (markStringS_any _ _ k0 _ _ _ (own_to h hw) hn hk0).mono ?_; rintro e w1 ⟨rfl, hown, hg⟩
  go_wp2_with fail
  go_ret
  exact ⟨_, rfl, rfl, hown, ⟨hg.os.trans hw.os, hg.tape.trans hw.tape, hg.output.trans hw.output, Nat.le_trans hw.size hg.size, fun k hk hne => (hg.block k (Nat.lt_of_lt_of_le hk hw.size) hne).trans (hw.block k hk)⟩⟩
/-- A variable that holds a method. -/
def XBox (w : World) (G : Nat) (m : Mt) (r : Value) : Prop := w.ownsRow G 31 3 (.slice (some ⟨G, 0, none⟩) 1 1) 1 [.string m.name, .int .i64 m.stage, r]
theorem xbox_of {w : World} {G : Nat} {m : Mt} {r : Value} (h : w.heap[G]? = some (.cells #[.string m.name, .int .i64 m.stage, r] 31 (0, 0))) : XBox w G m r :=
  own_of_heap (base := G) (n := 1) (size := 3) h (Nat.le_refl _) (by unfold maxLen; omega) rfl
theorem xbox_c {w : World} {G : Nat} {m : Mt} {r : Value} (h : XBox w G m r) : w.cell? ⟨G, 0, none⟩ = some (.string m.name) ∧ w.cell? ⟨G, 1, none⟩ = some (.int .i64 m.stage) ∧ w.cell? ⟨G, 2, none⟩ = some r := by
  unfold XBox at h
  exact ⟨h.cellAt 0 (by omega), h.cellAt 1 (by omega), h.cellAt 2 (by omega)⟩
theorem xbox_f {w : World} {G : Nat} {m : Mt} {r : Value} (h : XBox w G m r) : w.frozen? ⟨G, 0, none⟩ = false ∧ w.frozen? ⟨G, 1, none⟩ = false ∧ w.frozen? ⟨G, 2, none⟩ = false := by
  unfold XBox at h
  exact ⟨h.frozenAt 0, h.frozenAt 1, h.frozenAt 2⟩
theorem xbox_to {w w' : World} {G : Nat} {m : Mt} {r : Value} (h : XBox w G m r) (hb : Below w.heap.size w w') : XBox w' G m r := own_to (by unfold XBox at h; exact h) hb
theorem xbox_row {w w' : World} {G : Nat} {m : Mt} {r v : Value} (h : XBox w G m r) (hg : w.grownBy w' v.ownBlock) (hne : v.ownBlock = none ∨ v.ownBlock ≠ some G) : XBox w' G m r := by
  refine World.ownsRow.kept (by unfold XBox at h; exact h) hg (.inr ?_)
  rcases hne with e | e
  · rw [e]; intro e'; cases e'
  · exact fun e' => e e'.symm
theorem strs_ownX {w : World} {base n : Nat} {e : TypeId} {v : Value} {zs : List ByteArray} (h : w.ownsRow base e 1 v n (zs.map Value.string)) : Strs w v zs := by
  have hl : zs.length = n := by have := h.1; simpa using this
  subst hl
  exact sl_of_own h
end Go.Proofs.Ythgadnhkbmimiaa
