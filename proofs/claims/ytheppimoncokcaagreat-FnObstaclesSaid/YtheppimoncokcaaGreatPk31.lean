/- NextHead, LeadGroup, SetRow, GoodBobs on both sides. (Printed by a program: tools/mkBA.py.) -/
import Derived.Test.YtheppimoncokcaaGreatPk29
import Derived.Test.YtheppimoncokcaaGreatPk30
namespace Go.Proofs.YtheppimoncokcaaGreat
open Go Go.RowKit
set_option linter.unusedVariables false
set_option linter.unusedSimpArgs false

/-- What NextHead answers. -/
def nextO (G bobs : List ByteArray) (P B r : ByteArray) : ByteArray := if r ∈ G then nxB bobs P B r else ⟨#[]⟩
set_option maxHeartbeats 2000000 in
theorem implNextHead_no (m : Mt) (v : Value) (k : Cl) (Vb : Value) (bobs : List ByteArray) (r : ByteArray) (w : World) (hb : BadBob m k bobs) (hm : MethAt w m v) (hs : MtSmall m) (hk : ClSmall k) (hV : Strs w Vb bobs) (hbl : bobs.length ≤ 100000000) : Calls Tryz.prog 9 #[m.v v, k.v, Vb, .string r] w fun e w' => e = .returned (.tuple #[.string ⟨#[]⟩, .bool false]) ∧ Below w.heap.size w w' := by
  have Hnb := Lib.hid (fun W (hW : Below w.heap.size w W) => goodBlocks_bad m v k Vb bobs W hb (hm.to hW) hs hk (hV.to hW) hbl)
  obtain ⟨Ab, cb, rfl⟩ : ∃ A c, Vb = .slice A bobs.length c := by obtain ⟨A, c, e, _⟩ := hV; exact ⟨A, c, e⟩
  obtain ⟨A, q, hv⟩ := hm.form
  subst hv
  unfold Mt.v Cl.v at *
  clear hm hb hV
  go_enter Tryz.func9, Tryz.ntmps9
  go_wp2_with fail
  refine box2 (C := fun W => Calls _ _ _ W _) ?_
  intro wb hw k1 k2 hB0
  clear k1 k2
  refine (Hnb.out _ hw).mono ?_; rintro e w1 ⟨a, b, d, A1, l1, q1, rfl, hb1⟩
  go_wp2_with fail
  go_ret2
  exact ⟨rfl, bw_al (bw_to hw hb1) _⟩
set_option maxRecDepth 100000 in
set_option maxHeartbeats 4000000 in
theorem implNextHead_yes (m : Mt) (v : Value) (k : Cl) (Vb : Value) (n T : Nat) (P B B' Q r : ByteArray) (bobs : List ByteArray) (w : World) (hK : BK m k n T P B B' Q) (hF : (cloB n [P, B] T).length ≤ 130) (hbg : BG (sortB (cloB n [P, B] T)) bobs Q) (hm : MethAt w m v) (hs : MtSmall m) (hk : ClSmall k) (hV : Strs w Vb bobs) :
    Calls Tryz.prog 9 #[m.v v, k.v, Vb, .string r] w fun e w' => e = .returned (.tuple #[.string (nextO (sortB (cloB n [P, B] T)) bobs P B r), .bool (decide (r ∈ sortB (cloB n [P, B] T)))]) ∧ Below w.heap.size w w' := by
  have Hnb := Lib.hid (fun W (hW : Below w.heap.size w W) => goodBlocks_yes m v k Vb n T P B B' Q bobs W hK hF hbg (hm.to hW) hs hk (hV.to hW))
  have HI := Lib.hid (fun (hh : r ∈ sortB (cloB n [P, B] T)) => (bk_all hK).1 r ((sortB_mem _ _).1 hh))
  have hso := sortB_sorted (cloB n [P, B] T)
  have hbl := hbg.1.len
  have HS1 := Lib.hid hbg.1.2.sorted
  obtain ⟨G, hG⟩ : ∃ G, G = sortB (cloB n [P, B] T) := ⟨_, rfl⟩
  have hGl : G.length ≤ 130 := by rw [hG, sortB_len]; exact hF
  rw [← hG] at Hnb hso HI hbl ⊢
  have Hn := Lib.hid hK.hn
  have HP := Lib.hid hK.invP.1
  have HB := Lib.hid hK.invB.1
  have HV := Lib.hid hV
  have Hh := Lib.hid (fun V W (hV : Strs W V G) => has_any V G r W hV hso (by omega))
  obtain ⟨L, hL⟩ : ∃ L, L = nextO G bobs P B r := ⟨_, rfl⟩
  rw [← hL]
  unfold nextO at hL
  have HL := Lib.hid hL
  obtain ⟨Ab, cb, rfl⟩ : ∃ A c, Vb = .slice A bobs.length c := by obtain ⟨A, c, e, _⟩ := hV; exact ⟨A, c, e⟩
  obtain ⟨A, q, hv⟩ := hm.form
  subst hv
  unfold Mt.v Cl.v at *
  clear hm hK hG hF hso hbg hV hL
  cases hd : decide (r ∈ G)
  all_goals
    have Hd := Lib.hid hd
    go_enter Tryz.func9, Tryz.ntmps9
    go_wp2_with fail
    refine box2 (C := fun W => Calls _ _ _ W _) ?_
    intro wb hw k1 k2 hB0
    clear k1 k2
    refine (Hnb.out _ hw).mono ?_; rintro e w1 ⟨A1, q1, rfl, hown1, hb1⟩
    have HS := Lib.hid (strs_of_own hown1)
    have hB1 := bw_to hw hb1
    clear hown1
    go_wp2_with (go_at_call 50; refine (Hh.out _ _ (HS.out.to (bw_al (Below.refl _ _) _))).mono ?_; rintro e w' ⟨rfl, rfl⟩; rw [Hd.out])
  · go_ret2
    have e0 : r ∉ G := of_decide_eq_false Hd.out
    have e1 : L = ⟨#[]⟩ := by rw [HL.out, if_neg e0]
    subst e1
    exact ⟨rfl, bw_al hB1 _⟩
  · have hi : r ∈ G := of_decide_eq_true Hd.out
    refine (nextI_any n P B Q r _ _ bobs _ Hn.out HP.out HB.out (HI.out hi) ?_ HS1.out (by omega)).mono ?_
    · exact HV.out.to (bw_al hB1 _)
    rintro e w2 ⟨rfl, hb2⟩
    have hB2 := bw_to (bw_al hB1 (.cells #[.string P, .string B, .slice A1 G.length q1, .string Q] 72)) hb2
    go_wp2_with fail
    go_ret2
    have e1 : L = nxB bobs P B r := by rw [HL.out, if_pos hi]
    subst e1
    exact ⟨rfl, hB2⟩
set_option maxHeartbeats 2000000 in
theorem specNextHead_no (m : Mt) (v : Value) (k : Cl) (Vb : Value) (bobs : List ByteArray) (r : ByteArray) (w : World) (hb : BadBob m k bobs) (hm : MethAt w m v) (hs : MtSmall m) (hk : ClSmall k) (hV : Strs w Vb bobs) (hbl : bobs.length ≤ 100000000) : Calls Tryz.prog 10 #[m.v v, k.v, Vb, .string r] w fun e w' => e = .returned (.tuple #[.string ⟨#[]⟩, .bool false]) ∧ Below w.heap.size w w' := by
  have Hnb := Lib.hid (fun W (hW : Below w.heap.size w W) => l17Bobs_bad m v k Vb bobs W hb (hm.to hW) hs hk (hV.to hW) hbl)
  obtain ⟨Ab, cb, rfl⟩ : ∃ A c, Vb = .slice A bobs.length c := by obtain ⟨A, c, e, _⟩ := hV; exact ⟨A, c, e⟩
  obtain ⟨A, q, hv⟩ := hm.form
  subst hv
  unfold Mt.v Cl.v at *
  clear hm hb hV
  go_enter Tryz.func10, Tryz.ntmps10
  go_wp2_with fail
  refine box2 (C := fun W => Calls _ _ _ W _) ?_
  intro wb hw k1 k2 hB0
  clear k1 k2
  refine (Hnb.out _ hw).mono ?_; rintro e w1 ⟨a, b, d, A1, l1, q1, rfl, hb1⟩
  go_wp2_with fail
  go_ret2
  exact ⟨rfl, bw_al (bw_to hw hb1) _⟩
set_option maxRecDepth 100000 in
set_option maxHeartbeats 4000000 in
theorem specNextHead_yes (m : Mt) (v : Value) (k : Cl) (Vb : Value) (n T : Nat) (P B B' Q r : ByteArray) (bobs : List ByteArray) (w : World) (hK : BK m k n T P B B' Q) (hF : (cloB n [P, B] T).length ≤ 130) (hbg : BG (sortB (cloB n [P, B] T)) bobs Q) (hm : MethAt w m v) (hs : MtSmall m) (hk : ClSmall k) (hV : Strs w Vb bobs) :
    Calls Tryz.prog 10 #[m.v v, k.v, Vb, .string r] w fun e w' => e = .returned (.tuple #[.string (nextO (sortB (cloB n [P, B] T)) bobs P B r), .bool (decide (r ∈ sortB (cloB n [P, B] T)))]) ∧ Below w.heap.size w w' := by
  have Hnb := Lib.hid (fun W (hW : Below w.heap.size w W) => l17Bobs_yes m v k Vb n T P B B' Q bobs W hK hF hbg (hm.to hW) hs hk (hV.to hW))
  have HI := Lib.hid (fun (hh : r ∈ sortB (cloB n [P, B] T)) => (bk_all hK).1 r ((sortB_mem _ _).1 hh))
  have hso := sortB_sorted (cloB n [P, B] T)
  have hbl := hbg.1.len
  have HS1 := Lib.hid hbg.1.2.sorted
  obtain ⟨G, hG⟩ : ∃ G, G = sortB (cloB n [P, B] T) := ⟨_, rfl⟩
  have hGl : G.length ≤ 130 := by rw [hG, sortB_len]; exact hF
  rw [← hG] at Hnb hso HI hbl ⊢
  have Hn := Lib.hid hK.hn
  have HP := Lib.hid hK.invP.1
  have HB := Lib.hid hK.invB.1
  have HV := Lib.hid hV
  have Hh := Lib.hid (fun V W (hV : Strs W V G) => l1HasS_any V G r W hV)
  obtain ⟨L, hL⟩ : ∃ L, L = nextO G bobs P B r := ⟨_, rfl⟩
  rw [← hL]
  unfold nextO at hL
  have HL := Lib.hid hL
  obtain ⟨Ab, cb, rfl⟩ : ∃ A c, Vb = .slice A bobs.length c := by obtain ⟨A, c, e, _⟩ := hV; exact ⟨A, c, e⟩
  obtain ⟨A, q, hv⟩ := hm.form
  subst hv
  unfold Mt.v Cl.v at *
  clear hm hK hG hF hso hbg hV hL
  cases hd : decide (r ∈ G)
  all_goals
    have Hd := Lib.hid hd
    go_enter Tryz.func10, Tryz.ntmps10
    go_wp2_with fail
    refine box2 (C := fun W => Calls _ _ _ W _) ?_
    intro wb hw k1 k2 hB0
    clear k1 k2
    refine (Hnb.out _ hw).mono ?_; rintro e w1 ⟨A1, q1, rfl, hown1, hb1⟩
    have HS := Lib.hid (strs_of_own hown1)
    have hB1 := bw_to hw hb1
    clear hown1
    go_wp2_with (go_at_call 53; refine (Hh.out _ _ (HS.out.to (bw_al (Below.refl _ _) _))).mono ?_; rintro e w' ⟨rfl, rfl⟩; rw [Hd.out])
  · go_ret2
    have e0 : r ∉ G := of_decide_eq_false Hd.out
    have e1 : L = ⟨#[]⟩ := by rw [HL.out, if_neg e0]
    subst e1
    exact ⟨rfl, bw_al hB1 _⟩
  · have hi : r ∈ G := of_decide_eq_true Hd.out
    refine (nextS_any n P B Q r _ _ bobs _ Hn.out HP.out HB.out (HI.out hi) ?_ HS1.out (by omega)).mono ?_
    · exact HV.out.to (bw_al hB1 _)
    rintro e w2 ⟨rfl, hb2⟩
    have hB2 := bw_to (bw_al hB1 (.cells #[.string P, .string B, .string Q, .slice A1 G.length q1] 78)) hb2
    go_wp2_with fail
    go_ret2
    have e1 : L = nxB bobs P B r := by rw [HL.out, if_pos hi]
    subst e1
    exact ⟨rfl, hB2⟩
set_option maxHeartbeats 2000000 in
theorem implLeadGroup_no (m : Mt) (v : Value) (k : Cl) (w : World) (hb : BadBlk m k) (hm : MethAt w m v) (hs : MtSmall m) (hk : ClSmall k) : Calls Tryz.prog 11 #[m.v v, k.v] w fun e w' => ∃ A q, e = .returned (.tuple #[.slice A ([] : List ByteArray).length q, .bool false]) ∧ w'.ownsRow w.heap.size 9 1 (.slice A ([] : List ByteArray).length q) ([] : List ByteArray).length (([] : List ByteArray).map Value.string) ∧ Below w.heap.size w w'  := by
  have Hnb := Lib.hid (fun W (hW : Below w.heap.size w W) => newBlocks_bad m v k W hb (hm.to hW) hs hk)
  obtain ⟨A, q, hv⟩ := hm.form
  subst hv
  unfold Mt.v Cl.v at *
  clear hm hb
  go_enter Tryz.func11, Tryz.ntmps11
  go_wp2_with fail
  refine box2 (C := fun W => Calls _ _ _ W _) ?_
  intro wb hw k1 k2 hB0
  clear k1 k2
  refine (Hnb.out _ hw).mono ?_; rintro e w1 ⟨a, b, d, A1, l1, q1, rfl, hb1⟩
  go_wp2_with fail
  go_ret2
  exact ⟨none, 0, rfl, World.ownsRow_nil _ _ _ _, bw_al (bw_to hw hb1) _⟩
set_option maxRecDepth 100000 in
set_option maxHeartbeats 4000000 in
theorem implLeadGroup_yes (m : Mt) (v : Value) (k : Cl) (n T : Nat) (P B B' Q : ByteArray) (w : World) (hK : BK m k n T P B B' Q) (hF : (cloB n [P, B] T).length ≤ 130) (hm : MethAt w m v) (hs : MtSmall m) (hk : ClSmall k) :
    Calls Tryz.prog 11 #[m.v v, k.v] w fun e w' => ∃ A q, e = .returned (.tuple #[.slice A (sortB (cloB n [P, B] T)).length q, .bool true]) ∧ w'.ownsRow w.heap.size 9 1 (.slice A (sortB (cloB n [P, B] T)).length q) (sortB (cloB n [P, B] T)).length ((sortB (cloB n [P, B] T)).map Value.string) ∧ Below w.heap.size w w' := by
  have Hnb := Lib.hid (fun W (hW : Below w.heap.size w W) => newBlocks_yes m v k n T P B B' Q W hK (hm.to hW) hs hk)
  rw [grpL_yes hF, decide_eq_true hF] at Hnb
  obtain ⟨G, hG⟩ : ∃ G, G = sortB (cloB n [P, B] T) := ⟨_, rfl⟩
  have hGl : G.length ≤ 130 := by rw [hG, sortB_len]; exact hF
  try rw [← hG]
  rw [← hG] at Hnb
  obtain ⟨A, q, hv⟩ := hm.form
  subst hv
  unfold Mt.v Cl.v at *
  clear hm hK hG hF
  go_enter Tryz.func11, Tryz.ntmps11
  go_wp2_with fail
  refine box2 (C := fun W => Calls _ _ _ W _) ?_
  intro wb hw k1 k2 hB0
  clear k1 k2
  refine (Hnb.out _ hw).mono ?_; rintro e w1 ⟨A1, q1, rfl, hown1, hb1⟩
  have HS := Lib.hid hown1
  have hB1 := bw_to hw hb1
  have hlow := hw.size
  clear hown1
  go_wp2_with fail
  go_ret2
  exact ⟨A1, q1, rfl, own_base (own_to HS.out (bw_al (Below.refl _ _) _)) hlow, bw_al hB1 _⟩
set_option maxHeartbeats 2000000 in
theorem specLeadGroup_no (m : Mt) (v : Value) (k : Cl) (w : World) (hb : BadBlk m k) (hm : MethAt w m v) (hs : MtSmall m) (hk : ClSmall k) : Calls Tryz.prog 34 #[m.v v, k.v] w fun e w' => ∃ A q, e = .returned (.tuple #[.slice A ([] : List ByteArray).length q, .bool false]) ∧ w'.ownsRow w.heap.size 9 1 (.slice A ([] : List ByteArray).length q) ([] : List ByteArray).length (([] : List ByteArray).map Value.string) ∧ Below w.heap.size w w'  := by
  have Hnb := Lib.hid (fun W (hW : Below w.heap.size w W) => l17Of_bad m v k W hb (hm.to hW) hs hk)
  obtain ⟨A, q, hv⟩ := hm.form
  subst hv
  unfold Mt.v Cl.v at *
  clear hm hb
  go_enter Tryz.func34, Tryz.ntmps34
  go_wp2_with fail
  refine box2 (C := fun W => Calls _ _ _ W _) ?_
  intro wb hw k1 k2 hB0
  clear k1 k2
  refine (Hnb.out _ hw).mono ?_; rintro e w1 ⟨a, b, d, A1, l1, q1, rfl, hb1⟩
  go_wp2_with fail
  go_ret2
  exact ⟨none, 0, rfl, World.ownsRow_nil _ _ _ _, bw_al (bw_to hw hb1) _⟩
set_option maxRecDepth 100000 in
set_option maxHeartbeats 4000000 in
theorem specLeadGroup_yes (m : Mt) (v : Value) (k : Cl) (n T : Nat) (P B B' Q : ByteArray) (w : World) (hK : BK m k n T P B B' Q) (hF : (cloB n [P, B] T).length ≤ 130) (hm : MethAt w m v) (hs : MtSmall m) (hk : ClSmall k) :
    Calls Tryz.prog 34 #[m.v v, k.v] w fun e w' => ∃ A q, e = .returned (.tuple #[.slice A (sortB (cloB n [P, B] T)).length q, .bool true]) ∧ w'.ownsRow w.heap.size 9 1 (.slice A (sortB (cloB n [P, B] T)).length q) (sortB (cloB n [P, B] T)).length ((sortB (cloB n [P, B] T)).map Value.string) ∧ Below w.heap.size w w' := by
  have Hnb := Lib.hid (fun W (hW : Below w.heap.size w W) => l17Of_yes m v k n T P B B' Q W hK (hm.to hW) hs hk)
  rw [grp8_yes (Nat.le_trans hF (by omega)), decide_eq_true hF] at Hnb
  obtain ⟨G, hG⟩ : ∃ G, G = sortB (cloB n [P, B] T) := ⟨_, rfl⟩
  have hGl : G.length ≤ 130 := by rw [hG, sortB_len]; exact hF
  try rw [← hG]
  rw [← hG] at Hnb
  obtain ⟨A, q, hv⟩ := hm.form
  subst hv
  unfold Mt.v Cl.v at *
  clear hm hK hG hF
  go_enter Tryz.func34, Tryz.ntmps34
  go_wp2_with fail
  refine box2 (C := fun W => Calls _ _ _ W _) ?_
  intro wb hw k1 k2 hB0
  clear k1 k2
  refine (Hnb.out _ hw).mono ?_; rintro e w1 ⟨A1, q1, rfl, hown1, hb1⟩
  have HS := Lib.hid hown1
  have hB1 := bw_to hw hb1
  have hlow := hw.size
  clear hown1
  go_wp2_with fail
  go_ret2
  exact ⟨A1, q1, rfl, own_base (own_to HS.out (bw_al (Below.refl _ _) _)) hlow, bw_al hB1 _⟩
set_option maxHeartbeats 2000000 in
theorem implSetRow_no (m : Mt) (v : Value) (k : Cl) (w : World) (hb : BadBlk m k) (hm : MethAt w m v) (hs : MtSmall m) (hk : ClSmall k) : Calls Tryz.prog 15 #[m.v v, k.v] w fun e w' => e = .returned (.tuple #[.string ⟨#[]⟩, .bool false]) ∧ Below w.heap.size w w' := by
  have Hnb := Lib.hid (fun W (hW : Below w.heap.size w W) => newBlocks_bad m v k W hb (hm.to hW) hs hk)
  obtain ⟨A, q, hv⟩ := hm.form
  subst hv
  unfold Mt.v Cl.v at *
  clear hm hb
  go_enter Tryz.func15, Tryz.ntmps15
  go_wp2_with fail
  refine box2 (C := fun W => Calls _ _ _ W _) ?_
  intro wb hw k1 k2 hB0
  clear k1 k2
  refine (Hnb.out _ hw).mono ?_; rintro e w1 ⟨a, b, d, A1, l1, q1, rfl, hb1⟩
  go_wp2_with fail
  go_ret2
  exact ⟨rfl, bw_al (bw_to hw hb1) _⟩
set_option maxRecDepth 100000 in
set_option maxHeartbeats 4000000 in
theorem implSetRow_yes (m : Mt) (v : Value) (k : Cl) (n T : Nat) (P B B' Q : ByteArray) (w : World) (hK : BK m k n T P B B' Q) (hF : (cloB n [P, B] T).length ≤ 130) (hm : MethAt w m v) (hs : MtSmall m) (hk : ClSmall k) :
    Calls Tryz.prog 15 #[m.v v, k.v] w fun e w' => e = .returned (.tuple #[.string Q, .bool true]) ∧ Below w.heap.size w w' := by
  have Hnb := Lib.hid (fun W (hW : Below w.heap.size w W) => newBlocks_yes m v k n T P B B' Q W hK (hm.to hW) hs hk)
  rw [grpL_yes hF, decide_eq_true hF] at Hnb
  obtain ⟨G, hG⟩ : ∃ G, G = sortB (cloB n [P, B] T) := ⟨_, rfl⟩
  have hGl : G.length ≤ 130 := by rw [hG, sortB_len]; exact hF
  try rw [← hG]
  rw [← hG] at Hnb
  obtain ⟨A, q, hv⟩ := hm.form
  subst hv
  unfold Mt.v Cl.v at *
  clear hm hK hG hF
  go_enter Tryz.func15, Tryz.ntmps15
  go_wp2_with fail
  refine box2 (C := fun W => Calls _ _ _ W _) ?_
  intro wb hw k1 k2 hB0
  clear k1 k2
  refine (Hnb.out _ hw).mono ?_; rintro e w1 ⟨A1, q1, rfl, hown1, hb1⟩
  have HS := Lib.hid hown1
  have hB1 := bw_to hw hb1
  have hlow := hw.size
  clear hown1
  go_wp2_with fail
  go_ret2
  exact ⟨rfl, bw_al hB1 _⟩
set_option maxHeartbeats 2000000 in
theorem specSetRow_no (m : Mt) (v : Value) (k : Cl) (w : World) (hb : BadBlk m k) (hm : MethAt w m v) (hs : MtSmall m) (hk : ClSmall k) : Calls Tryz.prog 25 #[m.v v, k.v] w fun e w' => e = .returned (.tuple #[.string ⟨#[]⟩, .bool false]) ∧ Below w.heap.size w w' := by
  have Hnb := Lib.hid (fun W (hW : Below w.heap.size w W) => l17Of_bad m v k W hb (hm.to hW) hs hk)
  obtain ⟨A, q, hv⟩ := hm.form
  subst hv
  unfold Mt.v Cl.v at *
  clear hm hb
  go_enter Tryz.func25, Tryz.ntmps25
  go_wp2_with fail
  refine box2 (C := fun W => Calls _ _ _ W _) ?_
  intro wb hw k1 k2 hB0
  clear k1 k2
  refine (Hnb.out _ hw).mono ?_; rintro e w1 ⟨a, b, d, A1, l1, q1, rfl, hb1⟩
  go_wp2_with fail
  go_ret2
  exact ⟨rfl, bw_al (bw_to hw hb1) _⟩
set_option maxRecDepth 100000 in
set_option maxHeartbeats 4000000 in
theorem specSetRow_yes (m : Mt) (v : Value) (k : Cl) (n T : Nat) (P B B' Q : ByteArray) (w : World) (hK : BK m k n T P B B' Q) (hF : (cloB n [P, B] T).length ≤ 130) (hm : MethAt w m v) (hs : MtSmall m) (hk : ClSmall k) :
    Calls Tryz.prog 25 #[m.v v, k.v] w fun e w' => e = .returned (.tuple #[.string Q, .bool true]) ∧ Below w.heap.size w w' := by
  have Hnb := Lib.hid (fun W (hW : Below w.heap.size w W) => l17Of_yes m v k n T P B B' Q W hK (hm.to hW) hs hk)
  rw [grp8_yes (Nat.le_trans hF (by omega)), decide_eq_true hF] at Hnb
  obtain ⟨G, hG⟩ : ∃ G, G = sortB (cloB n [P, B] T) := ⟨_, rfl⟩
  have hGl : G.length ≤ 130 := by rw [hG, sortB_len]; exact hF
  try rw [← hG]
  rw [← hG] at Hnb
  obtain ⟨A, q, hv⟩ := hm.form
  subst hv
  unfold Mt.v Cl.v at *
  clear hm hK hG hF
  go_enter Tryz.func25, Tryz.ntmps25
  go_wp2_with fail
  refine box2 (C := fun W => Calls _ _ _ W _) ?_
  intro wb hw k1 k2 hB0
  clear k1 k2
  refine (Hnb.out _ hw).mono ?_; rintro e w1 ⟨A1, q1, rfl, hown1, hb1⟩
  have HS := Lib.hid hown1
  have hB1 := bw_to hw hb1
  have hlow := hw.size
  clear hown1
  go_wp2_with fail
  go_ret2
  exact ⟨rfl, bw_al hB1 _⟩
set_option maxHeartbeats 2000000 in
theorem implGoodBobs_no (m : Mt) (v : Value) (k : Cl) (Vb : Value) (bobs : List ByteArray) (w : World) (hb : BadBlk m k) (hm : MethAt w m v) (hs : MtSmall m) (hk : ClSmall k) (hV : Strs w Vb bobs) : Calls Tryz.prog 20 #[m.v v, k.v, Vb] w fun e w' => e = .returned (.tuple #[.bool false, .bool false]) ∧ Below w.heap.size w w' := by
  have Hnb := Lib.hid (fun W (hW : Below w.heap.size w W) => newBlocks_bad m v k W hb (hm.to hW) hs hk)
  obtain ⟨Ab, cb, rfl⟩ : ∃ A c, Vb = .slice A bobs.length c := by obtain ⟨A, c, e, _⟩ := hV; exact ⟨A, c, e⟩
  obtain ⟨A, q, hv⟩ := hm.form
  subst hv
  unfold Mt.v Cl.v at *
  clear hm hb hV
  go_enter Tryz.func20, Tryz.ntmps20
  go_wp2_with fail
  refine box2 (C := fun W => Calls _ _ _ W _) ?_
  intro wb hw k1 k2 hB0
  clear k1 k2
  refine (Hnb.out _ hw).mono ?_; rintro e w1 ⟨a, b, d, A1, l1, q1, rfl, hb1⟩
  go_wp2_with fail
  go_ret2
  exact ⟨rfl, bw_al (bw_to hw hb1) _⟩
set_option maxRecDepth 100000 in
set_option maxHeartbeats 4000000 in
theorem implGoodBobs_yes (m : Mt) (v : Value) (k : Cl) (Vb : Value) (n T : Nat) (P B B' Q : ByteArray) (bobs : List ByteArray) (w : World) (hK : BK m k n T P B B' Q) (hF : (cloB n [P, B] T).length ≤ 130) (hm : MethAt w m v) (hs : MtSmall m) (hk : ClSmall k) (hV : Strs w Vb bobs) :
    Calls Tryz.prog 20 #[m.v v, k.v, Vb] w fun e w' => e = .returned (.tuple #[.bool (decide (InG (sortB (cloB n [P, B] T)) bobs) && decide (goodQ bobs Q)), .bool (decide (InG (sortB (cloB n [P, B] T)) bobs))]) ∧ Below w.heap.size w w' := by
  have Hnb := Lib.hid (fun W (hW : Below w.heap.size w W) => newBlocks_yes m v k n T P B B' Q W hK (hm.to hW) hs hk)
  rw [grpL_yes hF, decide_eq_true hF] at Hnb
  obtain ⟨KK, hOb, hO⟩ := ord_ex hK.hn hK.invQ
  have hn := hK.hn
  have hQ := hK.invQ
  have hr : ∀ x ∈ sortB (cloB n [P, B] T), RowIn n x := fun x hx => (bk_all hK).1 x ((sortB_mem _ _).1 hx)
  have hso := sortB_sorted (cloB n [P, B] T)
  obtain ⟨G, hG⟩ : ∃ G, G = sortB (cloB n [P, B] T) := ⟨_, rfl⟩
  have hGl : G.length ≤ 130 := by rw [hG, sortB_len]; exact hF
  rw [← hG] at Hnb hso hr ⊢
  have Hin := Lib.hid (fun A1 q1 W (hW : Below w.heap.size w W) (hG : Strs W (.slice A1 G.length q1) G) => inGroup_any P B Q (.slice A1 G.length q1) Vb G bobs W hG hso (by omega) (hV.to hW))
  have Hgo := Lib.hid (fun A1 q1 (hi : InG G bobs) W (hW : Below w.heap.size w W) (hG : Strs W (.slice A1 G.length q1) G) => areBobs_any n KK P B Q (.slice A1 G.length q1) Vb bobs W hn hQ hO hOb ⟨_, _, _, rfl⟩ (hV.to hW) hi.2.sorted (by have := hi.len; omega) (fun h hh => hr h (hi.1 h hh)))
  obtain ⟨Ab, cb, rfl⟩ : ∃ A c, Vb = .slice A bobs.length c := by obtain ⟨A, c, e, _⟩ := hV; exact ⟨A, c, e⟩
  obtain ⟨A, q, hv⟩ := hm.form
  subst hv
  unfold Mt.v Cl.v at *
  clear hm hK hG hF hso hV hO hn hQ hr
  cases hdi : decide (InG G bobs)
  all_goals
    have Hdi := Lib.hid hdi
    clear hdi
    go_enter Tryz.func20, Tryz.ntmps20
    go_wp2_with fail
    refine box2 (C := fun W => Calls _ _ _ W _) ?_
    intro wb hw k1 k2 hB0
    clear k1 k2
    refine (Hnb.out _ hw).mono ?_; rintro e w1 ⟨A1, q1, rfl, hown1, hb1⟩
    have HS := Lib.hid (strs_of_own hown1)
    have hB1 := bw_to hw hb1
    clear hown1
    go_wp2_with (go_at_call 59; refine (Hin.out _ _ _ (bw_al hB1 _) (HS.out.to (bw_al (Below.refl _ _) _))).mono ?_; rintro e w2 ⟨rfl, hb2⟩; rw [Hdi.out]; (have kx : w2.heap[w1.heap.size]? = some (.cells #[.string P, .string B, .slice A1 G.length q1, .string Q] 72 (0, 0)) := (hb2.block w1.heap.size (by simp)).trans (heap_new w1 _)); (have x0 := heap_cell kx 0); (have x1 := heap_cell kx 1); (have x2 := heap_cell kx 2); (have x3 := heap_cell kx 3))
    have hB2 := bw_to (bw_al hB1 (.cells #[.string P, .string B, .slice A1 G.length q1, .string Q] 72)) hb2
    have HS2 := Lib.hid (HS.out.to (bw_to (bw_al (Below.refl w1.heap.size w1) (.cells #[.string P, .string B, .slice A1 G.length q1, .string Q] 72)) hb2))
  · go_ret2
    refine ⟨?_, hB2⟩
    rfl
  · refine (Hgo.out _ _ (of_decide_eq_true Hdi.out) _ hB2 HS2.out).mono ?_
    rintro e w3 ⟨rfl, hb3⟩
    have hB3 := bw_to hB2 hb3
    go_wp2_with fail
    go_ret2
    refine ⟨?_, hB3⟩
    rfl
set_option maxHeartbeats 2000000 in
theorem specGoodBobs_no (m : Mt) (v : Value) (k : Cl) (Vb : Value) (bobs : List ByteArray) (w : World) (hb : BadBlk m k) (hm : MethAt w m v) (hs : MtSmall m) (hk : ClSmall k) (hV : Strs w Vb bobs) : Calls Tryz.prog 21 #[m.v v, k.v, Vb] w fun e w' => e = .returned (.tuple #[.bool false, .bool false]) ∧ Below w.heap.size w w' := by
  have Hnb := Lib.hid (fun W (hW : Below w.heap.size w W) => l17Of_bad m v k W hb (hm.to hW) hs hk)
  obtain ⟨Ab, cb, rfl⟩ : ∃ A c, Vb = .slice A bobs.length c := by obtain ⟨A, c, e, _⟩ := hV; exact ⟨A, c, e⟩
  obtain ⟨A, q, hv⟩ := hm.form
  subst hv
  unfold Mt.v Cl.v at *
  clear hm hb hV
  go_enter Tryz.func21, Tryz.ntmps21
  go_wp2_with fail
  refine box2 (C := fun W => Calls _ _ _ W _) ?_
  intro wb hw k1 k2 hB0
  clear k1 k2
  refine (Hnb.out _ hw).mono ?_; rintro e w1 ⟨a, b, d, A1, l1, q1, rfl, hb1⟩
  go_wp2_with fail
  go_ret2
  exact ⟨rfl, bw_al (bw_to hw hb1) _⟩
set_option maxRecDepth 100000 in
set_option maxHeartbeats 4000000 in
theorem specGoodBobs_yes (m : Mt) (v : Value) (k : Cl) (Vb : Value) (n T : Nat) (P B B' Q : ByteArray) (bobs : List ByteArray) (w : World) (hK : BK m k n T P B B' Q) (hF : (cloB n [P, B] T).length ≤ 130) (hm : MethAt w m v) (hs : MtSmall m) (hk : ClSmall k) (hV : Strs w Vb bobs) :
    Calls Tryz.prog 21 #[m.v v, k.v, Vb] w fun e w' => e = .returned (.tuple #[.bool (decide (InG (sortB (cloB n [P, B] T)) bobs) && decide (goodQ bobs Q)), .bool (decide (InG (sortB (cloB n [P, B] T)) bobs))]) ∧ Below w.heap.size w w' := by
  have Hnb := Lib.hid (fun W (hW : Below w.heap.size w W) => l17Of_yes m v k n T P B B' Q W hK (hm.to hW) hs hk)
  rw [grp8_yes (Nat.le_trans hF (by omega)), decide_eq_true hF] at Hnb
  obtain ⟨KK, hOb, hO⟩ := ord_ex hK.hn hK.invQ
  have hn := hK.hn
  have hQ := hK.invQ
  have hr : ∀ x ∈ sortB (cloB n [P, B] T), RowIn n x := fun x hx => (bk_all hK).1 x ((sortB_mem _ _).1 hx)
  have hso := sortB_sorted (cloB n [P, B] T)
  obtain ⟨G, hG⟩ : ∃ G, G = sortB (cloB n [P, B] T) := ⟨_, rfl⟩
  have hGl : G.length ≤ 130 := by rw [hG, sortB_len]; exact hF
  rw [← hG] at Hnb hso hr ⊢
  have Hin := Lib.hid (fun A1 q1 W (hW : Below w.heap.size w W) (hG : Strs W (.slice A1 G.length q1) G) => rowsS_any P B Q (.slice A1 G.length q1) Vb G bobs W hG (hV.to hW))
  have Hgo := Lib.hid (fun A1 q1 (hi : InG G bobs) W (hW : Below w.heap.size w W) (hG : Strs W (.slice A1 G.length q1) G) => goodS_any n P B Q (.slice A1 G.length q1) Vb bobs W hn hQ ⟨_, _, _, rfl⟩ (hV.to hW) (fun h hh => hr h (hi.1 h hh)))
  obtain ⟨Ab, cb, rfl⟩ : ∃ A c, Vb = .slice A bobs.length c := by obtain ⟨A, c, e, _⟩ := hV; exact ⟨A, c, e⟩
  obtain ⟨A, q, hv⟩ := hm.form
  subst hv
  unfold Mt.v Cl.v at *
  clear hm hK hG hF hso hV hO hn hQ hr
  cases hdi : decide (InG G bobs)
  all_goals
    have Hdi := Lib.hid hdi
    clear hdi
    go_enter Tryz.func21, Tryz.ntmps21
    go_wp2_with fail
    refine box2 (C := fun W => Calls _ _ _ W _) ?_
    intro wb hw k1 k2 hB0
    clear k1 k2
    refine (Hnb.out _ hw).mono ?_; rintro e w1 ⟨A1, q1, rfl, hown1, hb1⟩
    have HS := Lib.hid (strs_of_own hown1)
    have hB1 := bw_to hw hb1
    clear hown1
    go_wp2_with (go_at_call 62; refine (Hin.out _ _ _ (bw_al hB1 _) (HS.out.to (bw_al (Below.refl _ _) _))).mono ?_; rintro e w2 ⟨rfl, hb2⟩; rw [Hdi.out]; (have kx : w2.heap[w1.heap.size]? = some (.cells #[.string P, .string B, .string Q, .slice A1 G.length q1] 78 (0, 0)) := (hb2.block w1.heap.size (by simp)).trans (heap_new w1 _)); (have x0 := heap_cell kx 0); (have x1 := heap_cell kx 1); (have x2 := heap_cell kx 2); (have x3 := heap_cell kx 3))
    have hB2 := bw_to (bw_al hB1 (.cells #[.string P, .string B, .string Q, .slice A1 G.length q1] 78)) hb2
    have HS2 := Lib.hid (HS.out.to (bw_to (bw_al (Below.refl w1.heap.size w1) (.cells #[.string P, .string B, .string Q, .slice A1 G.length q1] 78)) hb2))
  · go_ret2
    refine ⟨?_, hB2⟩
    rfl
  · refine (Hgo.out _ _ (of_decide_eq_true Hdi.out) _ hB2 HS2.out).mono ?_
    rintro e w3 ⟨rfl, hb3⟩
    have hB3 := bw_to hB2 hb3
    go_wp2_with fail
    go_ret2
    refine ⟨?_, hB3⟩
    rfl
end Go.Proofs.YtheppimoncokcaaGreat
