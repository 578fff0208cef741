/- AddSet and RingsIn on both sides. (Printed by a program: tools/mkIQ.py.) -/
import Derived.Test.YthgadnhkbmimiaaGreatPk34
namespace Go.Proofs.YthgadnhkbmimiaaGreat
open Go Go.RowKit
set_option linter.unusedVariables false
set_option linter.unusedSimpArgs false

/-- What AddSet answers. -/
def addO (n T K : Nat) (P B Q r : ByteArray) (bobs : List ByteArray) : List ByteArray := if r ∈ sortB (cloB n [P, B] T) then addS bobs (sortB (setB n Q r K)) else []
set_option maxHeartbeats 2000000 in
theorem implAddSet_no (m : Mt) (v : Value) (k : Cl) (Vb : Value) (bobs : List ByteArray) (r : ByteArray) (w : World) (hb : BadBob m k bobs) (hm : MethAt w m v) (hs : MtSmall m) (hk : ClSmall k) (hV : Strs w Vb bobs) (hbl : bobs.length ≤ 100000000) : Calls Tryz.prog 24 #[m.v v, k.v, Vb, .string r] w fun e w' => ∃ A q, e = .returned (.tuple #[.slice A ([] : List ByteArray).length q, .bool false]) ∧ w'.ownsRow w.heap.size 9 1 (.slice A ([] : List ByteArray).length q) ([] : List ByteArray).length (([] : List ByteArray).map Value.string) ∧ Below w.heap.size w w' := by
  have Hnb := Lib.hid (fun W (hW : Below w.heap.size w W) => goodBlocks_bad m v k Vb bobs W hb (hm.to hW) hs hk (hV.to hW) hbl)
  obtain ⟨Ab, cb, rfl⟩ : ∃ A c, Vb = .slice A bobs.length c := by obtain ⟨A, c, e, _⟩ := hV; exact ⟨A, c, e⟩
  obtain ⟨A, c, hv⟩ := hm.form
  subst hv
  unfold Mt.v Cl.v at *
  clear hm hb hV
  go_enter Tryz.func24, Tryz.ntmps24
  go_wp2_with fail
  refine box2 (C := fun W => Calls _ _ _ W _) ?_
  intro wb hw k1 k2 hB0
  clear k1 k2
  refine (Hnb.out _ hw).mono ?_; rintro e w1 ⟨a, b, d, A1, l1, q1, rfl, hb1⟩
  go_wp2_with fail
  go_ret2
  exact ⟨none, 0, rfl, World.ownsRow_nil _ _ _ _, bw_al (bw_to hw hb1) _⟩
set_option maxRecDepth 100000 in
set_option maxHeartbeats 4000000 in
theorem implAddSet_yes (m : Mt) (v : Value) (k : Cl) (Vb : Value) (n T K : Nat) (P B B' Q r : ByteArray) (bobs : List ByteArray) (w : World) (hK : BK m k n T P B B' Q) (hF : (cloB n [P, B] T).length ≤ 130) (hbg : BG (sortB (cloB n [P, B] T)) bobs Q) (hO : IsOrd n Q K) (hOb : K ≤ 16777216) (hm : MethAt w m v) (hs : MtSmall m) (hk : ClSmall k) (hV : Strs w Vb bobs) (hN : NilOk Vb) :
    Calls Tryz.prog 24 #[m.v v, k.v, Vb, .string r] w fun e w' => ∃ A q, e = .returned (.tuple #[.slice A (addO n T K P B Q r bobs).length q, .bool (decide (r ∈ sortB (cloB n [P, B] T)))]) ∧ w'.ownsRow w.heap.size 9 1 (.slice A (addO n T K P B Q r bobs).length q) (addO n T K P B Q r bobs).length ((addO n T K P B Q r bobs).map Value.string) ∧ Below w.heap.size w w' := by
  have Hnb := Lib.hid (fun W (hW : Below w.heap.size w W) => goodBlocks_yes m v k Vb n T P B B' Q bobs W hK hF hbg (hm.to hW) hs hk (hV.to hW))
  have HI := Lib.hid (fun (hh : r ∈ sortB (cloB n [P, B] T)) => (bk_all hK).2.2 r ((sortB_mem _ _).1 hh))
  have hso := sortB_sorted (cloB n [P, B] T)
  have hbl := hbg.1.len
  have HS1 := Lib.hid hbg.1.2.sorted
  have HS2 := Lib.hid hbg.1.2.nodup
  obtain ⟨G, hG⟩ : ∃ G, G = sortB (cloB n [P, B] T) := ⟨_, rfl⟩
  have hGl : G.length ≤ 130 := by rw [hG, sortB_len]; exact hF
  obtain ⟨L, hL⟩ : ∃ L, L = addO n T K P B Q r bobs := ⟨_, rfl⟩
  rw [← hL]
  unfold addO at hL
  rw [← hG] at Hnb hso HI hL hbl ⊢
  have HL := Lib.hid hL
  have HO := Lib.hid hO
  have Hn := Lib.hid hK.hn
  have HQ := Lib.hid hK.invQ
  have HV := Lib.hid hV
  have HNV := Lib.hid hN
  have Hh := Lib.hid (fun V W (hV : Strs W V G) => has_any V G r W hV hso (by omega))
  obtain ⟨Ab, cb, rfl⟩ : ∃ A c, Vb = .slice A bobs.length c := by obtain ⟨A, c, e, _⟩ := hV; exact ⟨A, c, e⟩
  obtain ⟨A, q, hv⟩ := hm.form
  subst hv
  unfold Mt.v Cl.v at *
  clear hm hK hG hF hso hO hL hbg hV hN
  cases hd : decide (r ∈ G)
  all_goals
    have Hd := Lib.hid hd
    go_enter Tryz.func24, Tryz.ntmps24
    go_wp2_with fail
    refine box2 (C := fun W => Calls _ _ _ W _) ?_
    intro wb hw k1 k2 hB0
    clear k1 k2
    refine (Hnb.out _ hw).mono ?_; rintro e w1 ⟨A1, q1, rfl, hown1, hb1⟩
    have HS := Lib.hid (strs_of_own hown1)
    have hB1 := bw_to hw hb1
    clear hown1
    go_wp2_with (go_at_call 57; refine (Hh.out _ _ (HS.out.to (bw_al (Below.refl _ _) _))).mono ?_; rintro e w' ⟨rfl, rfl⟩; rw [Hd.out])
  · go_ret2
    have e0 : r ∉ G := of_decide_eq_false Hd.out
    have e1 : L = [] := by rw [HL.out, if_neg e0]
    subst e1
    exact ⟨none, 0, rfl, World.ownsRow_nil _ _ _ _, bw_al hB1 _⟩
  · have hi : r ∈ G := of_decide_eq_true Hd.out
    have e1 : L = addS bobs (sortB (setB n Q r K)) := by rw [HL.out, if_pos hi]
    refine (withSet_any n K P B Q r _ _ bobs _ Hn.out HQ.out.1 (HI.out hi).1 HO.out hOb ⟨_, _, _, rfl⟩ ?_ HNV.out HS1.out HS2.out (by omega)).mono ?_
    · exact HV.out.to (bw_al hB1 _)
    rintro e w2 ⟨A2, q2, rfl, hown2, hb2⟩
    rw [← e1] at hown2 ⊢
    have Hown := Lib.hid hown2
    have hB2 := bw_to (bw_al hB1 (.cells #[.string P, .string B, .slice A1 G.length q1, .string Q] 80)) hb2
    have hlow : w.heap.size ≤ (w1.alloc (.cells #[.string P, .string B, .slice A1 G.length q1, .string Q] 80)).heap.size := (bw_al hB1 (.cells #[.string P, .string B, .slice A1 G.length q1, .string Q] 80)).size
    clear hown2 e1
    go_wp2_with fail
    go_ret2
    exact ⟨A2, q2, rfl, own_base Hown.out hlow, hB2⟩
set_option maxHeartbeats 2000000 in
theorem specAddSet_no (m : Mt) (v : Value) (k : Cl) (Vb : Value) (bobs : List ByteArray) (r : ByteArray) (w : World) (hb : BadBob m k bobs) (hm : MethAt w m v) (hs : MtSmall m) (hk : ClSmall k) (hV : Strs w Vb bobs) (hbl : bobs.length ≤ 100000000) : Calls Tryz.prog 22 #[m.v v, k.v, Vb, .string r] w fun e w' => ∃ A q, e = .returned (.tuple #[.slice A ([] : List ByteArray).length q, .bool false]) ∧ w'.ownsRow w.heap.size 9 1 (.slice A ([] : List ByteArray).length q) ([] : List ByteArray).length (([] : List ByteArray).map Value.string) ∧ Below w.heap.size w w' := by
  have Hnb := Lib.hid (fun W (hW : Below w.heap.size w W) => l17Bobs_bad m v k Vb bobs W hb (hm.to hW) hs hk (hV.to hW) hbl)
  obtain ⟨Ab, cb, rfl⟩ : ∃ A c, Vb = .slice A bobs.length c := by obtain ⟨A, c, e, _⟩ := hV; exact ⟨A, c, e⟩
  obtain ⟨A, c, hv⟩ := hm.form
  subst hv
  unfold Mt.v Cl.v at *
  clear hm hb hV
  go_enter Tryz.func22, Tryz.ntmps22
  go_wp2_with fail
  refine box2 (C := fun W => Calls _ _ _ W _) ?_
  intro wb hw k1 k2 hB0
  clear k1 k2
  refine (Hnb.out _ hw).mono ?_; rintro e w1 ⟨a, b, d, A1, l1, q1, rfl, hb1⟩
  go_wp2_with fail
  go_ret2
  exact ⟨none, 0, rfl, World.ownsRow_nil _ _ _ _, bw_al (bw_to hw hb1) _⟩
set_option maxRecDepth 100000 in
set_option maxHeartbeats 4000000 in
theorem specAddSet_yes (m : Mt) (v : Value) (k : Cl) (Vb : Value) (n T K : Nat) (P B B' Q r : ByteArray) (bobs : List ByteArray) (w : World) (hK : BK m k n T P B B' Q) (hF : (cloB n [P, B] T).length ≤ 130) (hbg : BG (sortB (cloB n [P, B] T)) bobs Q) (hO : IsOrd n Q K) (hOb : K ≤ 16777216) (hm : MethAt w m v) (hs : MtSmall m) (hk : ClSmall k) (hV : Strs w Vb bobs) (hN : NilOk Vb) :
    Calls Tryz.prog 22 #[m.v v, k.v, Vb, .string r] w fun e w' => ∃ A q, e = .returned (.tuple #[.slice A (addO n T K P B Q r bobs).length q, .bool (decide (r ∈ sortB (cloB n [P, B] T)))]) ∧ w'.ownsRow w.heap.size 9 1 (.slice A (addO n T K P B Q r bobs).length q) (addO n T K P B Q r bobs).length ((addO n T K P B Q r bobs).map Value.string) ∧ Below w.heap.size w w' := by
  have Hnb := Lib.hid (fun W (hW : Below w.heap.size w W) => l17Bobs_yes m v k Vb n T P B B' Q bobs W hK hF hbg (hm.to hW) hs hk (hV.to hW))
  have HI := Lib.hid (fun (hh : r ∈ sortB (cloB n [P, B] T)) => (bk_all hK).2.2 r ((sortB_mem _ _).1 hh))
  have hso := sortB_sorted (cloB n [P, B] T)
  have hbl := hbg.1.len
  have HS1 := Lib.hid hbg.1.2.sorted
  have HS2 := Lib.hid hbg.1.2.nodup
  obtain ⟨G, hG⟩ : ∃ G, G = sortB (cloB n [P, B] T) := ⟨_, rfl⟩
  have hGl : G.length ≤ 130 := by rw [hG, sortB_len]; exact hF
  obtain ⟨L, hL⟩ : ∃ L, L = addO n T K P B Q r bobs := ⟨_, rfl⟩
  rw [← hL]
  unfold addO at hL
  rw [← hG] at Hnb hso HI hL hbl ⊢
  have HL := Lib.hid hL
  have HO := Lib.hid hO
  have Hn := Lib.hid hK.hn
  have HQ := Lib.hid hK.invQ
  have HV := Lib.hid hV
  have HNV := Lib.hid hN
  have Hh := Lib.hid (fun V W (hV : Strs W V G) => l1HasS_any V G r W hV)
  obtain ⟨Ab, cb, rfl⟩ : ∃ A c, Vb = .slice A bobs.length c := by obtain ⟨A, c, e, _⟩ := hV; exact ⟨A, c, e⟩
  obtain ⟨A, q, hv⟩ := hm.form
  subst hv
  unfold Mt.v Cl.v at *
  clear hm hK hG hF hso hO hL hbg hV hN
  cases hd : decide (r ∈ G)
  all_goals
    have Hd := Lib.hid hd
    go_enter Tryz.func22, Tryz.ntmps22
    go_wp2_with fail
    refine box2 (C := fun W => Calls _ _ _ W _) ?_
    intro wb hw k1 k2 hB0
    clear k1 k2
    refine (Hnb.out _ hw).mono ?_; rintro e w1 ⟨A1, q1, rfl, hown1, hb1⟩
    have HS := Lib.hid (strs_of_own hown1)
    have hB1 := bw_to hw hb1
    clear hown1
    go_wp2_with (go_at_call 54; refine (Hh.out _ _ (HS.out.to (bw_al (Below.refl _ _) _))).mono ?_; rintro e w' ⟨rfl, rfl⟩; rw [Hd.out])
  · go_ret2
    have e0 : r ∉ G := of_decide_eq_false Hd.out
    have e1 : L = [] := by rw [HL.out, if_neg e0]
    subst e1
    exact ⟨none, 0, rfl, World.ownsRow_nil _ _ _ _, bw_al hB1 _⟩
  · have hi : r ∈ G := of_decide_eq_true Hd.out
    have e1 : L = addS bobs (sortB (setB n Q r K)) := by rw [HL.out, if_pos hi]
    refine (addSetS_any n K P B Q r _ _ bobs _ Hn.out HQ.out (HI.out hi) HO.out hOb ⟨_, _, _, rfl⟩ ?_ HNV.out HS1.out (by omega)).mono ?_
    · exact HV.out.to (bw_al hB1 _)
    rintro e w2 ⟨A2, q2, rfl, hown2, hb2⟩
    rw [← e1] at hown2 ⊢
    have Hown := Lib.hid hown2
    have hB2 := bw_to (bw_al hB1 (.cells #[.string P, .string B, .string Q, .slice A1 G.length q1] 74)) hb2
    have hlow : w.heap.size ≤ (w1.alloc (.cells #[.string P, .string B, .string Q, .slice A1 G.length q1] 74)).heap.size := (bw_al hB1 (.cells #[.string P, .string B, .string Q, .slice A1 G.length q1] 74)).size
    clear hown2 e1
    go_wp2_with fail
    go_ret2
    exact ⟨A2, q2, rfl, own_base Hown.out hlow, hB2⟩
set_option maxHeartbeats 2000000 in
theorem implRingsIn_no (m : Mt) (v : Value) (k : Cl) (Vb : Value) (bobs : List ByteArray) (w : World) (hb : BadBob m k bobs) (hm : MethAt w m v) (hs : MtSmall m) (hk : ClSmall k) (hV : Strs w Vb bobs) (hbl : bobs.length ≤ 100000000) : Calls Tryz.prog 29 #[m.v v, k.v, Vb] w fun e w' =>
    ∃ A q vs, e = .returned (.tuple #[.slice A ([] : List (List ByteArray)).length q, .bool false]) ∧ OwnSV w' w.heap.size (.slice A ([] : List (List ByteArray)).length q) [] vs ∧ ApartV vs ∧ Below w.heap.size w w' := by
  have Hnb := Lib.hid (fun W (hW : Below w.heap.size w W) => goodBlocks_bad m v k Vb bobs W hb (hm.to hW) hs hk (hV.to hW) hbl)
  obtain ⟨Ab, cb, rfl⟩ : ∃ A c, Vb = .slice A bobs.length c := by obtain ⟨A, c, e, _⟩ := hV; exact ⟨A, c, e⟩
  obtain ⟨A, c, hv⟩ := hm.form
  subst hv
  unfold Mt.v Cl.v at *
  clear hm hb hV
  go_enter Tryz.func29, Tryz.ntmps29
  go_wp2_with fail
  refine box2 (C := fun W => Calls _ _ _ W _) ?_
  intro wb hw k1 k2 hB0
  clear k1 k2
  refine (Hnb.out _ hw).mono ?_; rintro e w1 ⟨a, b, d, A1, l1, q1, rfl, hb1⟩
  go_wp2_with fail
  go_ret2
  exact ⟨none, 0, [], rfl, OwnSV.nil _ _, List.Pairwise.nil, bw_al (bw_to hw hb1) _⟩
set_option maxRecDepth 100000 in
set_option maxHeartbeats 4000000 in
theorem implRingsIn_yes (m : Mt) (v : Value) (k : Cl) (Vb : Value) (n T K : Nat) (P B B' Q : ByteArray) (RR : List ByteArray → ByteArray → Nat) (bobs : List ByteArray) (w : World) (hK : BK m k n T P B B' Q) (hF : (cloB n [P, B] T).length ≤ 130) (hbg : BG (sortB (cloB n [P, B] T)) bobs Q) (hX : CX n P B Q bobs (sortB (cloB n [P, B] T)) (RR bobs) K) (hm : MethAt w m v) (hs : MtSmall m) (hk : ClSmall k) (hV : Strs w Vb bobs) :
    Calls Tryz.prog 29 #[m.v v, k.v, Vb] w fun e w' => ∃ A q vs, e = .returned (.tuple #[.slice A (rgs (nxB bobs P B) (RR bobs) (sortB (cloB n [P, B] T)) []).length q, .bool true]) ∧ OwnSV w' w.heap.size (.slice A (rgs (nxB bobs P B) (RR bobs) (sortB (cloB n [P, B] T)) []).length q) (rgs (nxB bobs P B) (RR bobs) (sortB (cloB n [P, B] T)) []) vs ∧ ApartV vs ∧ Below w.heap.size w w' := by
  have Hnb := Lib.hid (fun W (hW : Below w.heap.size w W) => goodBlocks_yes m v k Vb n T P B B' Q bobs W hK hF hbg (hm.to hW) hs hk (hV.to hW))
  have hbl := hbg.1.len
  have HS1 := Lib.hid hbg.1.2.sorted
  obtain ⟨G, hG⟩ : ∃ G, G = sortB (cloB n [P, B] T) := ⟨_, rfl⟩
  have hGl : G.length ≤ 130 := by rw [hG, sortB_len]; exact hF
  rw [← hG] at Hnb hbl hX ⊢
  obtain ⟨Z, hZ⟩ : ∃ Z, Z = rgs (nxB bobs P B) (RR bobs) G [] := ⟨_, rfl⟩
  rw [← hZ]
  have HZ := Lib.hid hZ
  have HV := Lib.hid hV
  obtain ⟨Ab, cb, rfl⟩ : ∃ A c, Vb = .slice A bobs.length c := by obtain ⟨A, c, e, _⟩ := hV; exact ⟨A, c, e⟩
  obtain ⟨A, q, hv⟩ := hm.form
  subst hv
  unfold Mt.v Cl.v at *
  clear hm hK hG hF hbg hV hZ
  go_enter Tryz.func29, Tryz.ntmps29
  go_wp2_with fail
  refine box2 (C := fun W => Calls _ _ _ W _) ?_
  intro wb hw k1 k2 hB0
  clear k1 k2
  refine (Hnb.out _ hw).mono ?_; rintro e w1 ⟨A1, q1, rfl, hown1, hb1⟩
  have HS := Lib.hid (strs_of_own hown1)
  have hB1 := bw_to hw hb1
  clear hown1
  go_wp2_with fail
  refine (ringsI_all n P B Q G (RR bobs) _ _ bobs _ hX.hn hX.hP hX.hB ?_ (by omega) ?_ HS1.out (by omega) hX.hit hX.hRR).mono ?_
  · exact HS.out.to (bw_al (Below.refl _ _) _)
  · exact HV.out.to (bw_al hB1 _)
  rw [← HZ.out]
  rintro e w2 ⟨A2, q2, vs, rfl, hown2, hap, hb2⟩
  have Hown := Lib.hid hown2
  have Hap := Lib.hid hap
  have hB2 := bw_to (bw_al hB1 (.cells #[.string P, .string B, .slice A1 G.length q1, .string Q] 80)) hb2
  have hlow : w.heap.size ≤ (w1.alloc (.cells #[.string P, .string B, .slice A1 G.length q1, .string Q] 80)).heap.size := (bw_al hB1 (.cells #[.string P, .string B, .slice A1 G.length q1, .string Q] 80)).size
  clear hown2 hap hX
  go_wp2_with fail
  go_ret2
  exact ⟨A2, q2, vs, rfl, Hown.out.base hlow, Hap.out, hB2⟩
set_option maxHeartbeats 2000000 in
theorem specRingsIn_no (m : Mt) (v : Value) (k : Cl) (Vb : Value) (bobs : List ByteArray) (w : World) (hb : BadBob m k bobs) (hm : MethAt w m v) (hs : MtSmall m) (hk : ClSmall k) (hV : Strs w Vb bobs) (hbl : bobs.length ≤ 100000000) : Calls Tryz.prog 28 #[m.v v, k.v, Vb] w fun e w' =>
    ∃ A q vs, e = .returned (.tuple #[.slice A ([] : List (List ByteArray)).length q, .bool false]) ∧ OwnSV w' w.heap.size (.slice A ([] : List (List ByteArray)).length q) [] vs ∧ ApartV vs ∧ Below w.heap.size w w' := by
  have Hnb := Lib.hid (fun W (hW : Below w.heap.size w W) => l17Bobs_bad m v k Vb bobs W hb (hm.to hW) hs hk (hV.to hW) hbl)
  obtain ⟨Ab, cb, rfl⟩ : ∃ A c, Vb = .slice A bobs.length c := by obtain ⟨A, c, e, _⟩ := hV; exact ⟨A, c, e⟩
  obtain ⟨A, c, hv⟩ := hm.form
  subst hv
  unfold Mt.v Cl.v at *
  clear hm hb hV
  go_enter Tryz.func28, Tryz.ntmps28
  go_wp2_with fail
  refine box2 (C := fun W => Calls _ _ _ W _) ?_
  intro wb hw k1 k2 hB0
  clear k1 k2
  refine (Hnb.out _ hw).mono ?_; rintro e w1 ⟨a, b, d, A1, l1, q1, rfl, hb1⟩
  go_wp2_with fail
  go_ret2
  exact ⟨none, 0, [], rfl, OwnSV.nil _ _, List.Pairwise.nil, bw_al (bw_to hw hb1) _⟩
set_option maxRecDepth 100000 in
set_option maxHeartbeats 4000000 in
theorem specRingsIn_yes (m : Mt) (v : Value) (k : Cl) (Vb : Value) (n T K : Nat) (P B B' Q : ByteArray) (RR : List ByteArray → ByteArray → Nat) (bobs : List ByteArray) (w : World) (hK : BK m k n T P B B' Q) (hF : (cloB n [P, B] T).length ≤ 130) (hbg : BG (sortB (cloB n [P, B] T)) bobs Q) (hX : CX n P B Q bobs (sortB (cloB n [P, B] T)) (RR bobs) K) (hm : MethAt w m v) (hs : MtSmall m) (hk : ClSmall k) (hV : Strs w Vb bobs) :
    Calls Tryz.prog 28 #[m.v v, k.v, Vb] w fun e w' => ∃ A q vs, e = .returned (.tuple #[.slice A (rgs (nxB bobs P B) (RR bobs) (sortB (cloB n [P, B] T)) []).length q, .bool true]) ∧ OwnSV w' w.heap.size (.slice A (rgs (nxB bobs P B) (RR bobs) (sortB (cloB n [P, B] T)) []).length q) (rgs (nxB bobs P B) (RR bobs) (sortB (cloB n [P, B] T)) []) vs ∧ ApartV vs ∧ Below w.heap.size w w' := by
  have Hnb := Lib.hid (fun W (hW : Below w.heap.size w W) => l17Bobs_yes m v k Vb n T P B B' Q bobs W hK hF hbg (hm.to hW) hs hk (hV.to hW))
  have hbl := hbg.1.len
  have HS1 := Lib.hid hbg.1.2.sorted
  obtain ⟨G, hG⟩ : ∃ G, G = sortB (cloB n [P, B] T) := ⟨_, rfl⟩
  have hGl : G.length ≤ 130 := by rw [hG, sortB_len]; exact hF
  rw [← hG] at Hnb hbl hX ⊢
  obtain ⟨Z, hZ⟩ : ∃ Z, Z = rgs (nxB bobs P B) (RR bobs) G [] := ⟨_, rfl⟩
  rw [← hZ]
  have HZ := Lib.hid hZ
  have HV := Lib.hid hV
  obtain ⟨Ab, cb, rfl⟩ : ∃ A c, Vb = .slice A bobs.length c := by obtain ⟨A, c, e, _⟩ := hV; exact ⟨A, c, e⟩
  obtain ⟨A, q, hv⟩ := hm.form
  subst hv
  unfold Mt.v Cl.v at *
  clear hm hK hG hF hbg hV hZ
  go_enter Tryz.func28, Tryz.ntmps28
  go_wp2_with fail
  refine box2 (C := fun W => Calls _ _ _ W _) ?_
  intro wb hw k1 k2 hB0
  clear k1 k2
  refine (Hnb.out _ hw).mono ?_; rintro e w1 ⟨A1, q1, rfl, hown1, hb1⟩
  have HS := Lib.hid (strs_of_own hown1)
  have hB1 := bw_to hw hb1
  clear hown1
  go_wp2_with fail
  refine (ringsS_all n P B Q G (RR bobs) _ _ bobs _ hX.hn hX.hP hX.hB ?_ (by omega) ?_ HS1.out (by omega) hX.hit hX.hpm hX.hRR).mono ?_
  · exact HS.out.to (bw_al (Below.refl _ _) _)
  · exact HV.out.to (bw_al hB1 _)
  rw [← HZ.out]
  rintro e w2 ⟨A2, q2, vs, rfl, hown2, hap, hb2⟩
  have Hown := Lib.hid hown2
  have Hap := Lib.hid hap
  have hB2 := bw_to (bw_al hB1 (.cells #[.string P, .string B, .string Q, .slice A1 G.length q1] 74)) hb2
  have hlow : w.heap.size ≤ (w1.alloc (.cells #[.string P, .string B, .string Q, .slice A1 G.length q1] 74)).heap.size := (bw_al hB1 (.cells #[.string P, .string B, .string Q, .slice A1 G.length q1] 74)).size
  clear hown2 hap hX
  go_wp2_with fail
  go_ret2
  exact ⟨A2, q2, vs, rfl, Hown.out.base hlow, Hap.out, hB2⟩
end Go.Proofs.YthgadnhkbmimiaaGreat
