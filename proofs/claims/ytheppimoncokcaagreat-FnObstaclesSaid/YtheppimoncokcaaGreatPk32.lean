/- The touch along a ring comes round; where joining rings ends: a plain account. -/
import Derived.Test.YtheppimoncokcaaGreatPk30
import Derived.Test.YtheppimoncokcaaGreatPk22
import Derived.Test.YtheppimoncokcaaGreatPk29
namespace Go.Proofs.YtheppimoncokcaaGreat
open Go Go.RowKit
set_option linter.unusedVariables false
set_option linter.unusedSimpArgs false

/-- The calls along a ring. -/
def ringT (f : ByteArray → ByteArray) (bobs : List ByteArray) (h : ByteArray) (R : Nat) : List UInt8 := (ringL f h R).map (fun x => if x ∈ bobs then 98 else 112)
theorem ringT_len (f : ByteArray → ByteArray) (bobs : List ByteArray) (h : ByteArray) (R : Nat) : (ringT f bobs h R).length = R := by unfold ringT; rw [List.length_map, ringL_len]
theorem ringT_get {f : ByteArray → ByteArray} {bobs : List ByteArray} {h : ByteArray} {R j : Nat} (hj : j < (ringT f bobs h R).length) : (ringT f bobs h R)[j] = if iterB f h j ∈ bobs then 98 else 112 := by
  unfold ringT ringL; simp
theorem ringT_call (f : ByteArray → ByteArray) (bobs : List ByteArray) (h : ByteArray) {R : Nat} (h1 : 1 ≤ R) (h2 : R ≤ 60) : touchB (ringT f bobs h R) = true := by
  unfold touchB
  rw [ringT_len, Bool.and_eq_true]
  refine ⟨?_, decide_eq_true ⟨h1, h2⟩⟩
  rw [List.all_eq_true]
  intro c hc
  unfold ringT at hc
  obtain ⟨x, _, rfl⟩ := List.mem_map.1 hc
  split <;> decide
theorem ringT_prod {n : Nat} (hn : n ≤ 8) {F : UInt8 → ByteArray} {bobs : List ByteArray} {P B h : ByteArray} {R : Nat} (hP : F 112 = P) (hB : F 98 = B) (hF : ∀ c, RowIn n (F c)) (hit : ∀ j, RowIn n (iterB (nxB bobs P B) h j)) :
    ∀ j, j ≤ R → timesB h (endB F (roundsB n) ((ringT (nxB bobs P B) bobs h R).take j)) = iterB (nxB bobs P B) h j
  | 0, _ => by
    show timesB h (roundsB n) = h
    exact times_rounds hn (hit 0)
  | j + 1, hj => by
    have ih := ringT_prod hn hP hB hF hit j (R := R) (by omega)
    have hl : j < (ringT (nxB bobs P B) bobs h R).length := by rw [ringT_len]; omega
    rw [end_take hl, ← times_assoc h (end_in hF _ (rounds_in hn)) (hF _), ih, ringT_get hl]
    show _ = nxB bobs P B (iterB (nxB bobs P B) h j)
    generalize iterB (nxB bobs P B) h j = x
    unfold nxB
    split
    · rw [hB]
    · rw [hP]
theorem ringT_round {n : Nat} (hn : n ≤ 8) {F : UInt8 → ByteArray} {bobs : List ByteArray} {P B h : ByteArray} {R : Nat} (hP : F 112 = P) (hB : F 98 = B) (hF : ∀ c, RowIn n (F c)) (hit : ∀ j, RowIn n (iterB (nxB bobs P B) h j)) (hh : Inv n h) (hR : IsRing (nxB bobs P B) h R) :
    endB F (roundsB n) (ringT (nxB bobs P B) bobs h R) = roundsB n := by
  have e := ringT_prod hn hP hB hF hit R (Nat.le_refl R)
  rw [List.take_of_length_le (by rw [ringT_len]; exact Nat.le_refl _), hR.2.1] at e
  exact hh.cancel_left hn (end_in hF _ (rounds_in hn)) (rounds_in hn) (by rw [e, times_rounds hn hh.1])
theorem joinF_none {cnt : List ByteArray → Nat} {S : ByteArray → List ByteArray} {b : List ByteArray} : ∀ {G : List ByteArray}, joinF cnt S b G = none → ∀ h ∈ G, h ∉ b → cnt b ≤ cnt (addS b (S h))
  | [], _, h, hh, _ => by cases hh
  | x :: t, e, h, hh, hb => by
    rw [joinF] at e
    by_cases h1 : x ∈ b
    · rw [if_pos h1] at e
      rcases List.mem_cons.1 hh with rfl | hh
      · exact absurd h1 hb
      · exact joinF_none e h hh hb
    · rw [if_neg h1] at e
      by_cases h2 : cnt (addS b (S x)) < cnt b
      · rw [if_pos h2] at e; cases e
      · rw [if_neg h2] at e
        rcases List.mem_cons.1 hh with rfl | hh
        · omega
        · exact joinF_none e h hh hb
/-- Where joining ends: no set makes the count less. -/
theorem joinL_end {Ok : List ByteArray → Prop} {cnt : List ByteArray → Nat} {S : ByteArray → List ByteArray} {G : List ByteArray} (hA : ∀ b, Ok b → ∀ x ∈ G, Ok (addS b (S x))) : ∀ (f : Nat) (b : List ByteArray), cnt b ≤ f → Ok b →
    joinF cnt S (joinL cnt S G f b) G = none ∧ cnt (joinL cnt S G f b) ≤ cnt b ∧ Ok (joinL cnt S G f b)
  | 0, b, hf, hb => by
    rw [joinL]
    refine ⟨?_, Nat.le_refl _, hb⟩
    cases e : joinF cnt S b G with
    | none => rfl
    | some m => have := (joinF_some e).1; omega
  | f + 1, b, hf, hb => by
    cases e : joinF cnt S b G with
    | none => rw [joinL, e]; exact ⟨e, Nat.le_refl _, hb⟩
    | some m =>
      obtain ⟨h1, x, hx, rfl⟩ := joinF_some e
      have ih := joinL_end hA f _ (show cnt (addS b (S x)) ≤ f by omega) (hA b hb x hx)
      have ej : joinL cnt S G (f + 1) b = joinL cnt S G f (addS b (S x)) := by rw [joinL, e]
      rw [ej]
      exact ⟨ih.1, by have := ih.2.1; omega, ih.2.2⟩
end Go.Proofs.YtheppimoncokcaaGreat

/- RingsSign on both sides. -/
namespace Go.Proofs.YtheppimoncokcaaGreat
open Go Go.RowKit
set_option linter.unusedVariables false
set_option linter.unusedSimpArgs false

def sgnB (N K : Nat) (x : Int) : Bool := (((N : Int) + x * ((K : Int) - 1)) % 2 == 0)
end Go.Proofs.YtheppimoncokcaaGreat

/- AddSet and RingsIn on both sides. (Printed by a program: tools/mkIQ.py.) -/
namespace Go.Proofs.YtheppimoncokcaaGreat
open Go Go.RowKit
set_option linter.unusedVariables false
set_option linter.unusedSimpArgs false

/-- What AddSet answers. -/
def addO (n T K : Nat) (P B Q r : ByteArray) (bobs : List ByteArray) : List ByteArray := if r ∈ sortB (cloB n [P, B] T) then addS bobs (sortB (setB n Q r K)) else []
set_option maxHeartbeats 2000000 in
theorem implAddSet_no (m : Mt) (v : Value) (k : Cl) (Vb : Value) (bobs : List ByteArray) (r : ByteArray) (w : World) (hb : BadBob m k bobs) (hm : MethAt w m v) (hs : MtSmall m) (hk : ClSmall k) (hV : Strs w Vb bobs) (hbl : bobs.length ≤ 100000000) : Calls Tryz.prog 38 #[m.v v, k.v, Vb, .string r] w fun e w' => ∃ A q, e = .returned (.tuple #[.slice A ([] : List ByteArray).length q, .bool false]) ∧ w'.ownsRow w.heap.size 9 1 (.slice A ([] : List ByteArray).length q) ([] : List ByteArray).length (([] : List ByteArray).map Value.string) ∧ Below w.heap.size w w' := by
  have Hnb := Lib.hid (fun W (hW : Below w.heap.size w W) => goodBlocks_bad m v k Vb bobs W hb (hm.to hW) hs hk (hV.to hW) hbl)
  obtain ⟨Ab, cb, rfl⟩ : ∃ A c, Vb = .slice A bobs.length c := by obtain ⟨A, c, e, _⟩ := hV; exact ⟨A, c, e⟩
  obtain ⟨A, c, hv⟩ := hm.form
  subst hv
  unfold Mt.v Cl.v at *
  clear hm hb hV
  go_enter Tryz.func38, Tryz.ntmps38
  go_wp2_with fail
  refine box2 (C := fun W => Calls _ _ _ W _) ?_
  intro wb hw k1 k2 hB0
  clear k1 k2
  refine (Hnb.out _ hw).mono ?_; rintro e w1 ⟨a, b, d, A1, l1, q1, rfl, hb1⟩
  go_wp2_with fail
  go_ret2
  exact ⟨none, 0, rfl, World.ownsRow_nil _ _ _ _, bw_al (bw_to hw hb1) _⟩
set_option maxRecDepth 100000 in
set_option maxHeartbeats 4000000 in
theorem implAddSet_yes (m : Mt) (v : Value) (k : Cl) (Vb : Value) (n T K : Nat) (P B B' Q r : ByteArray) (bobs : List ByteArray) (w : World) (hK : BK m k n T P B B' Q) (hF : (cloB n [P, B] T).length ≤ 130) (hbg : BG (sortB (cloB n [P, B] T)) bobs Q) (hO : IsOrd n Q K) (hOb : K ≤ 16777216) (hm : MethAt w m v) (hs : MtSmall m) (hk : ClSmall k) (hV : Strs w Vb bobs) (hN : NilOk Vb) :
    Calls Tryz.prog 38 #[m.v v, k.v, Vb, .string r] w fun e w' => ∃ A q, e = .returned (.tuple #[.slice A (addO n T K P B Q r bobs).length q, .bool (decide (r ∈ sortB (cloB n [P, B] T)))]) ∧ w'.ownsRow w.heap.size 9 1 (.slice A (addO n T K P B Q r bobs).length q) (addO n T K P B Q r bobs).length ((addO n T K P B Q r bobs).map Value.string) ∧ Below w.heap.size w w' := by
  have Hnb := Lib.hid (fun W (hW : Below w.heap.size w W) => goodBlocks_yes m v k Vb n T P B B' Q bobs W hK hF hbg (hm.to hW) hs hk (hV.to hW))
  have HI := Lib.hid (fun (hh : r ∈ sortB (cloB n [P, B] T)) => (bk_all hK).2.2 r ((sortB_mem _ _).1 hh))
  have hso := sortB_sorted (cloB n [P, B] T)
  have hbl := hbg.1.len
  have HS1 := Lib.hid hbg.1.2.sorted
  have HS2 := Lib.hid hbg.1.2.nodup
  obtain ⟨G, hG⟩ : ∃ G, G = sortB (cloB n [P, B] T) := ⟨_, rfl⟩
  have hGl : G.length ≤ 130 := by rw [hG, sortB_len]; exact hF
  obtain ⟨L, hL⟩ : ∃ L, L = addO n T K P B Q r bobs := ⟨_, rfl⟩
  rw [← hL]
  unfold addO at hL
  rw [← hG] at Hnb hso HI hL hbl ⊢
  have HL := Lib.hid hL
  have HO := Lib.hid hO
  have Hn := Lib.hid hK.hn
  have HQ := Lib.hid hK.invQ
  have HV := Lib.hid hV
  have HNV := Lib.hid hN
  have Hh := Lib.hid (fun V W (hV : Strs W V G) => has_any V G r W hV hso (by omega))
  obtain ⟨Ab, cb, rfl⟩ : ∃ A c, Vb = .slice A bobs.length c := by obtain ⟨A, c, e, _⟩ := hV; exact ⟨A, c, e⟩
  obtain ⟨A, q, hv⟩ := hm.form
  subst hv
  unfold Mt.v Cl.v at *
  clear hm hK hG hF hso hO hL hbg hV hN
  cases hd : decide (r ∈ G)
  all_goals
    have Hd := Lib.hid hd
    go_enter Tryz.func38, Tryz.ntmps38
    go_wp2_with fail
    refine box2 (C := fun W => Calls _ _ _ W _) ?_
    intro wb hw k1 k2 hB0
    clear k1 k2
    refine (Hnb.out _ hw).mono ?_; rintro e w1 ⟨A1, q1, rfl, hown1, hb1⟩
    have HS := Lib.hid (strs_of_own hown1)
    have hB1 := bw_to hw hb1
    clear hown1
    go_wp2_with (go_at_call 50; refine (Hh.out _ _ (HS.out.to (bw_al (Below.refl _ _) _))).mono ?_; rintro e w' ⟨rfl, rfl⟩; rw [Hd.out])
  · go_ret2
    have e0 : r ∉ G := of_decide_eq_false Hd.out
    have e1 : L = [] := by rw [HL.out, if_neg e0]
    subst e1
    exact ⟨none, 0, rfl, World.ownsRow_nil _ _ _ _, bw_al hB1 _⟩
  · have hi : r ∈ G := of_decide_eq_true Hd.out
    have e1 : L = addS bobs (sortB (setB n Q r K)) := by rw [HL.out, if_pos hi]
    refine (withSet_any n K P B Q r _ _ bobs _ Hn.out HQ.out.1 (HI.out hi).1 HO.out hOb ⟨_, _, _, rfl⟩ ?_ HNV.out HS1.out HS2.out (by omega)).mono ?_
    · exact HV.out.to (bw_al hB1 _)
    rintro e w2 ⟨A2, q2, rfl, hown2, hb2⟩
    rw [← e1] at hown2 ⊢
    have Hown := Lib.hid hown2
    have hB2 := bw_to (bw_al hB1 (.cells #[.string P, .string B, .slice A1 G.length q1, .string Q] 72)) hb2
    have hlow : w.heap.size ≤ (w1.alloc (.cells #[.string P, .string B, .slice A1 G.length q1, .string Q] 72)).heap.size := (bw_al hB1 (.cells #[.string P, .string B, .slice A1 G.length q1, .string Q] 72)).size
    clear hown2 e1
    go_wp2_with fail
    go_ret2
    exact ⟨A2, q2, rfl, own_base Hown.out hlow, hB2⟩
set_option maxHeartbeats 2000000 in
theorem specAddSet_no (m : Mt) (v : Value) (k : Cl) (Vb : Value) (bobs : List ByteArray) (r : ByteArray) (w : World) (hb : BadBob m k bobs) (hm : MethAt w m v) (hs : MtSmall m) (hk : ClSmall k) (hV : Strs w Vb bobs) (hbl : bobs.length ≤ 100000000) : Calls Tryz.prog 40 #[m.v v, k.v, Vb, .string r] w fun e w' => ∃ A q, e = .returned (.tuple #[.slice A ([] : List ByteArray).length q, .bool false]) ∧ w'.ownsRow w.heap.size 9 1 (.slice A ([] : List ByteArray).length q) ([] : List ByteArray).length (([] : List ByteArray).map Value.string) ∧ Below w.heap.size w w' := by
  have Hnb := Lib.hid (fun W (hW : Below w.heap.size w W) => l17Bobs_bad m v k Vb bobs W hb (hm.to hW) hs hk (hV.to hW) hbl)
  obtain ⟨Ab, cb, rfl⟩ : ∃ A c, Vb = .slice A bobs.length c := by obtain ⟨A, c, e, _⟩ := hV; exact ⟨A, c, e⟩
  obtain ⟨A, c, hv⟩ := hm.form
  subst hv
  unfold Mt.v Cl.v at *
  clear hm hb hV
  go_enter Tryz.func40, Tryz.ntmps40
  go_wp2_with fail
  refine box2 (C := fun W => Calls _ _ _ W _) ?_
  intro wb hw k1 k2 hB0
  clear k1 k2
  refine (Hnb.out _ hw).mono ?_; rintro e w1 ⟨a, b, d, A1, l1, q1, rfl, hb1⟩
  go_wp2_with fail
  go_ret2
  exact ⟨none, 0, rfl, World.ownsRow_nil _ _ _ _, bw_al (bw_to hw hb1) _⟩
set_option maxRecDepth 100000 in
set_option maxHeartbeats 4000000 in
theorem specAddSet_yes (m : Mt) (v : Value) (k : Cl) (Vb : Value) (n T K : Nat) (P B B' Q r : ByteArray) (bobs : List ByteArray) (w : World) (hK : BK m k n T P B B' Q) (hF : (cloB n [P, B] T).length ≤ 130) (hbg : BG (sortB (cloB n [P, B] T)) bobs Q) (hO : IsOrd n Q K) (hOb : K ≤ 16777216) (hm : MethAt w m v) (hs : MtSmall m) (hk : ClSmall k) (hV : Strs w Vb bobs) (hN : NilOk Vb) :
    Calls Tryz.prog 40 #[m.v v, k.v, Vb, .string r] w fun e w' => ∃ A q, e = .returned (.tuple #[.slice A (addO n T K P B Q r bobs).length q, .bool (decide (r ∈ sortB (cloB n [P, B] T)))]) ∧ w'.ownsRow w.heap.size 9 1 (.slice A (addO n T K P B Q r bobs).length q) (addO n T K P B Q r bobs).length ((addO n T K P B Q r bobs).map Value.string) ∧ Below w.heap.size w w' := by
  have Hnb := Lib.hid (fun W (hW : Below w.heap.size w W) => l17Bobs_yes m v k Vb n T P B B' Q bobs W hK hF hbg (hm.to hW) hs hk (hV.to hW))
  have HI := Lib.hid (fun (hh : r ∈ sortB (cloB n [P, B] T)) => (bk_all hK).2.2 r ((sortB_mem _ _).1 hh))
  have hso := sortB_sorted (cloB n [P, B] T)
  have hbl := hbg.1.len
  have HS1 := Lib.hid hbg.1.2.sorted
  have HS2 := Lib.hid hbg.1.2.nodup
  obtain ⟨G, hG⟩ : ∃ G, G = sortB (cloB n [P, B] T) := ⟨_, rfl⟩
  have hGl : G.length ≤ 130 := by rw [hG, sortB_len]; exact hF
  obtain ⟨L, hL⟩ : ∃ L, L = addO n T K P B Q r bobs := ⟨_, rfl⟩
  rw [← hL]
  unfold addO at hL
  rw [← hG] at Hnb hso HI hL hbl ⊢
  have HL := Lib.hid hL
  have HO := Lib.hid hO
  have Hn := Lib.hid hK.hn
  have HQ := Lib.hid hK.invQ
  have HV := Lib.hid hV
  have HNV := Lib.hid hN
  have Hh := Lib.hid (fun V W (hV : Strs W V G) => l1HasS_any V G r W hV)
  obtain ⟨Ab, cb, rfl⟩ : ∃ A c, Vb = .slice A bobs.length c := by obtain ⟨A, c, e, _⟩ := hV; exact ⟨A, c, e⟩
  obtain ⟨A, q, hv⟩ := hm.form
  subst hv
  unfold Mt.v Cl.v at *
  clear hm hK hG hF hso hO hL hbg hV hN
  cases hd : decide (r ∈ G)
  all_goals
    have Hd := Lib.hid hd
    go_enter Tryz.func40, Tryz.ntmps40
    go_wp2_with fail
    refine box2 (C := fun W => Calls _ _ _ W _) ?_
    intro wb hw k1 k2 hB0
    clear k1 k2
    refine (Hnb.out _ hw).mono ?_; rintro e w1 ⟨A1, q1, rfl, hown1, hb1⟩
    have HS := Lib.hid (strs_of_own hown1)
    have hB1 := bw_to hw hb1
    clear hown1
    go_wp2_with (go_at_call 53; refine (Hh.out _ _ (HS.out.to (bw_al (Below.refl _ _) _))).mono ?_; rintro e w' ⟨rfl, rfl⟩; rw [Hd.out])
  · go_ret2
    have e0 : r ∉ G := of_decide_eq_false Hd.out
    have e1 : L = [] := by rw [HL.out, if_neg e0]
    subst e1
    exact ⟨none, 0, rfl, World.ownsRow_nil _ _ _ _, bw_al hB1 _⟩
  · have hi : r ∈ G := of_decide_eq_true Hd.out
    have e1 : L = addS bobs (sortB (setB n Q r K)) := by rw [HL.out, if_pos hi]
    refine (addSetS_any n K P B Q r _ _ bobs _ Hn.out HQ.out (HI.out hi) HO.out hOb ⟨_, _, _, rfl⟩ ?_ HNV.out HS1.out (by omega)).mono ?_
    · exact HV.out.to (bw_al hB1 _)
    rintro e w2 ⟨A2, q2, rfl, hown2, hb2⟩
    rw [← e1] at hown2 ⊢
    have Hown := Lib.hid hown2
    have hB2 := bw_to (bw_al hB1 (.cells #[.string P, .string B, .string Q, .slice A1 G.length q1] 78)) hb2
    have hlow : w.heap.size ≤ (w1.alloc (.cells #[.string P, .string B, .string Q, .slice A1 G.length q1] 78)).heap.size := (bw_al hB1 (.cells #[.string P, .string B, .string Q, .slice A1 G.length q1] 78)).size
    clear hown2 e1
    go_wp2_with fail
    go_ret2
    exact ⟨A2, q2, rfl, own_base Hown.out hlow, hB2⟩
set_option maxHeartbeats 2000000 in
theorem implRingsIn_no (m : Mt) (v : Value) (k : Cl) (Vb : Value) (bobs : List ByteArray) (w : World) (hb : BadBob m k bobs) (hm : MethAt w m v) (hs : MtSmall m) (hk : ClSmall k) (hV : Strs w Vb bobs) (hbl : bobs.length ≤ 100000000) : Calls Tryz.prog 27 #[m.v v, k.v, Vb] w fun e w' =>
    ∃ A q vs, e = .returned (.tuple #[.slice A ([] : List (List ByteArray)).length q, .bool false]) ∧ OwnSV w' w.heap.size (.slice A ([] : List (List ByteArray)).length q) [] vs ∧ ApartV vs ∧ Below w.heap.size w w' := by
  have Hnb := Lib.hid (fun W (hW : Below w.heap.size w W) => goodBlocks_bad m v k Vb bobs W hb (hm.to hW) hs hk (hV.to hW) hbl)
  obtain ⟨Ab, cb, rfl⟩ : ∃ A c, Vb = .slice A bobs.length c := by obtain ⟨A, c, e, _⟩ := hV; exact ⟨A, c, e⟩
  obtain ⟨A, c, hv⟩ := hm.form
  subst hv
  unfold Mt.v Cl.v at *
  clear hm hb hV
  go_enter Tryz.func27, Tryz.ntmps27
  go_wp2_with fail
  refine box2 (C := fun W => Calls _ _ _ W _) ?_
  intro wb hw k1 k2 hB0
  clear k1 k2
  refine (Hnb.out _ hw).mono ?_; rintro e w1 ⟨a, b, d, A1, l1, q1, rfl, hb1⟩
  go_wp2_with fail
  go_ret2
  exact ⟨none, 0, [], rfl, OwnSV.nil _ _, List.Pairwise.nil, bw_al (bw_to hw hb1) _⟩
set_option maxRecDepth 100000 in
set_option maxHeartbeats 4000000 in
theorem implRingsIn_yes (m : Mt) (v : Value) (k : Cl) (Vb : Value) (n T K : Nat) (P B B' Q : ByteArray) (RR : List ByteArray → ByteArray → Nat) (bobs : List ByteArray) (w : World) (hK : BK m k n T P B B' Q) (hF : (cloB n [P, B] T).length ≤ 130) (hbg : BG (sortB (cloB n [P, B] T)) bobs Q) (hX : CX n P B Q bobs (sortB (cloB n [P, B] T)) (RR bobs) K) (hm : MethAt w m v) (hs : MtSmall m) (hk : ClSmall k) (hV : Strs w Vb bobs) :
    Calls Tryz.prog 27 #[m.v v, k.v, Vb] w fun e w' => ∃ A q vs, e = .returned (.tuple #[.slice A (rgs (nxB bobs P B) (RR bobs) (sortB (cloB n [P, B] T)) []).length q, .bool true]) ∧ OwnSV w' w.heap.size (.slice A (rgs (nxB bobs P B) (RR bobs) (sortB (cloB n [P, B] T)) []).length q) (rgs (nxB bobs P B) (RR bobs) (sortB (cloB n [P, B] T)) []) vs ∧ ApartV vs ∧ Below w.heap.size w w' := by
  have Hnb := Lib.hid (fun W (hW : Below w.heap.size w W) => goodBlocks_yes m v k Vb n T P B B' Q bobs W hK hF hbg (hm.to hW) hs hk (hV.to hW))
  have hbl := hbg.1.len
  have HS1 := Lib.hid hbg.1.2.sorted
  obtain ⟨G, hG⟩ : ∃ G, G = sortB (cloB n [P, B] T) := ⟨_, rfl⟩
  have hGl : G.length ≤ 130 := by rw [hG, sortB_len]; exact hF
  rw [← hG] at Hnb hbl hX ⊢
  obtain ⟨Z, hZ⟩ : ∃ Z, Z = rgs (nxB bobs P B) (RR bobs) G [] := ⟨_, rfl⟩
  rw [← hZ]
  have HZ := Lib.hid hZ
  have HV := Lib.hid hV
  obtain ⟨Ab, cb, rfl⟩ : ∃ A c, Vb = .slice A bobs.length c := by obtain ⟨A, c, e, _⟩ := hV; exact ⟨A, c, e⟩
  obtain ⟨A, q, hv⟩ := hm.form
  subst hv
  unfold Mt.v Cl.v at *
  clear hm hK hG hF hbg hV hZ
  go_enter Tryz.func27, Tryz.ntmps27
  go_wp2_with fail
  refine box2 (C := fun W => Calls _ _ _ W _) ?_
  intro wb hw k1 k2 hB0
  clear k1 k2
  refine (Hnb.out _ hw).mono ?_; rintro e w1 ⟨A1, q1, rfl, hown1, hb1⟩
  have HS := Lib.hid (strs_of_own hown1)
  have hB1 := bw_to hw hb1
  clear hown1
  go_wp2_with fail
  refine (ringsI_all n P B Q G (RR bobs) _ _ bobs _ hX.hn hX.hP hX.hB ?_ (by omega) ?_ HS1.out (by omega) hX.hit hX.hRR).mono ?_
  · exact HS.out.to (bw_al (Below.refl _ _) _)
  · exact HV.out.to (bw_al hB1 _)
  rw [← HZ.out]
  rintro e w2 ⟨A2, q2, vs, rfl, hown2, hap, hb2⟩
  have Hown := Lib.hid hown2
  have Hap := Lib.hid hap
  have hB2 := bw_to (bw_al hB1 (.cells #[.string P, .string B, .slice A1 G.length q1, .string Q] 72)) hb2
  have hlow : w.heap.size ≤ (w1.alloc (.cells #[.string P, .string B, .slice A1 G.length q1, .string Q] 72)).heap.size := (bw_al hB1 (.cells #[.string P, .string B, .slice A1 G.length q1, .string Q] 72)).size
  clear hown2 hap hX
  go_wp2_with fail
  go_ret2
  exact ⟨A2, q2, vs, rfl, Hown.out.base hlow, Hap.out, hB2⟩
set_option maxHeartbeats 2000000 in
theorem specRingsIn_no (m : Mt) (v : Value) (k : Cl) (Vb : Value) (bobs : List ByteArray) (w : World) (hb : BadBob m k bobs) (hm : MethAt w m v) (hs : MtSmall m) (hk : ClSmall k) (hV : Strs w Vb bobs) (hbl : bobs.length ≤ 100000000) : Calls Tryz.prog 28 #[m.v v, k.v, Vb] w fun e w' =>
    ∃ A q vs, e = .returned (.tuple #[.slice A ([] : List (List ByteArray)).length q, .bool false]) ∧ OwnSV w' w.heap.size (.slice A ([] : List (List ByteArray)).length q) [] vs ∧ ApartV vs ∧ Below w.heap.size w w' := by
  have Hnb := Lib.hid (fun W (hW : Below w.heap.size w W) => l17Bobs_bad m v k Vb bobs W hb (hm.to hW) hs hk (hV.to hW) hbl)
  obtain ⟨Ab, cb, rfl⟩ : ∃ A c, Vb = .slice A bobs.length c := by obtain ⟨A, c, e, _⟩ := hV; exact ⟨A, c, e⟩
  obtain ⟨A, c, hv⟩ := hm.form
  subst hv
  unfold Mt.v Cl.v at *
  clear hm hb hV
  go_enter Tryz.func28, Tryz.ntmps28
  go_wp2_with fail
  refine box2 (C := fun W => Calls _ _ _ W _) ?_
  intro wb hw k1 k2 hB0
  clear k1 k2
  refine (Hnb.out _ hw).mono ?_; rintro e w1 ⟨a, b, d, A1, l1, q1, rfl, hb1⟩
  go_wp2_with fail
  go_ret2
  exact ⟨none, 0, [], rfl, OwnSV.nil _ _, List.Pairwise.nil, bw_al (bw_to hw hb1) _⟩
set_option maxRecDepth 100000 in
set_option maxHeartbeats 4000000 in
theorem specRingsIn_yes (m : Mt) (v : Value) (k : Cl) (Vb : Value) (n T K : Nat) (P B B' Q : ByteArray) (RR : List ByteArray → ByteArray → Nat) (bobs : List ByteArray) (w : World) (hK : BK m k n T P B B' Q) (hF : (cloB n [P, B] T).length ≤ 130) (hbg : BG (sortB (cloB n [P, B] T)) bobs Q) (hX : CX n P B Q bobs (sortB (cloB n [P, B] T)) (RR bobs) K) (hm : MethAt w m v) (hs : MtSmall m) (hk : ClSmall k) (hV : Strs w Vb bobs) :
    Calls Tryz.prog 28 #[m.v v, k.v, Vb] w fun e w' => ∃ A q vs, e = .returned (.tuple #[.slice A (rgs (nxB bobs P B) (RR bobs) (sortB (cloB n [P, B] T)) []).length q, .bool true]) ∧ OwnSV w' w.heap.size (.slice A (rgs (nxB bobs P B) (RR bobs) (sortB (cloB n [P, B] T)) []).length q) (rgs (nxB bobs P B) (RR bobs) (sortB (cloB n [P, B] T)) []) vs ∧ ApartV vs ∧ Below w.heap.size w w' := by
  have Hnb := Lib.hid (fun W (hW : Below w.heap.size w W) => l17Bobs_yes m v k Vb n T P B B' Q bobs W hK hF hbg (hm.to hW) hs hk (hV.to hW))
  have hbl := hbg.1.len
  have HS1 := Lib.hid hbg.1.2.sorted
  obtain ⟨G, hG⟩ : ∃ G, G = sortB (cloB n [P, B] T) := ⟨_, rfl⟩
  have hGl : G.length ≤ 130 := by rw [hG, sortB_len]; exact hF
  rw [← hG] at Hnb hbl hX ⊢
  obtain ⟨Z, hZ⟩ : ∃ Z, Z = rgs (nxB bobs P B) (RR bobs) G [] := ⟨_, rfl⟩
  rw [← hZ]
  have HZ := Lib.hid hZ
  have HV := Lib.hid hV
  obtain ⟨Ab, cb, rfl⟩ : ∃ A c, Vb = .slice A bobs.length c := by obtain ⟨A, c, e, _⟩ := hV; exact ⟨A, c, e⟩
  obtain ⟨A, q, hv⟩ := hm.form
  subst hv
  unfold Mt.v Cl.v at *
  clear hm hK hG hF hbg hV hZ
  go_enter Tryz.func28, Tryz.ntmps28
  go_wp2_with fail
  refine box2 (C := fun W => Calls _ _ _ W _) ?_
  intro wb hw k1 k2 hB0
  clear k1 k2
  refine (Hnb.out _ hw).mono ?_; rintro e w1 ⟨A1, q1, rfl, hown1, hb1⟩
  have HS := Lib.hid (strs_of_own hown1)
  have hB1 := bw_to hw hb1
  clear hown1
  go_wp2_with fail
  refine (ringsS_all n P B Q G (RR bobs) _ _ bobs _ hX.hn hX.hP hX.hB ?_ (by omega) ?_ HS1.out (by omega) hX.hit hX.hpm hX.hRR).mono ?_
  · exact HS.out.to (bw_al (Below.refl _ _) _)
  · exact HV.out.to (bw_al hB1 _)
  rw [← HZ.out]
  rintro e w2 ⟨A2, q2, vs, rfl, hown2, hap, hb2⟩
  have Hown := Lib.hid hown2
  have Hap := Lib.hid hap
  have hB2 := bw_to (bw_al hB1 (.cells #[.string P, .string B, .string Q, .slice A1 G.length q1] 78)) hb2
  have hlow : w.heap.size ≤ (w1.alloc (.cells #[.string P, .string B, .string Q, .slice A1 G.length q1] 78)).heap.size := (bw_al hB1 (.cells #[.string P, .string B, .string Q, .slice A1 G.length q1] 78)).size
  clear hown2 hap hX
  go_wp2_with fail
  go_ret2
  exact ⟨A2, q2, vs, rfl, Hown.out.base hlow, Hap.out, hB2⟩
end Go.Proofs.YtheppimoncokcaaGreat
