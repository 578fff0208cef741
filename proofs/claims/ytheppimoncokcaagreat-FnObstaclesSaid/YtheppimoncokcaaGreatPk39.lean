/- Drawn bobs, a drawn head. -/
import Derived.Test.YtheppimoncokcaaGreatPk37
import Derived.Test.YtheppimoncokcaaGreatPk38
namespace Go.Proofs.YtheppimoncokcaaGreat
open Go Go.RowKit
set_option linter.unusedVariables false
set_option linter.unusedSimpArgs false

/-- A row of texts of the call's own, or all of it but its first. -/
def BobV (w : World) (base : Nat) (V : Value) (l : List ByteArray) : Prop :=
  w.ownsRow base 9 1 V l.length (l.map Value.string) ∨ ∃ g q x, w.ownsRow base 9 1 (.slice (some ⟨g, 0, none⟩) (l.length + 1) q) (l.length + 1) ((x :: l).map Value.string) ∧ V = .slice (if q = 1 then some ⟨g, 0, none⟩ else some (Addr.add ⟨g, 0, none⟩ 1)) l.length (q - 1)
theorem BobV.to {w w' : World} {base : Nat} {V : Value} {l : List ByteArray} (h : BobV w base V l) (hb : Below w.heap.size w w') : BobV w' base V l := by
  rcases h with h | ⟨g, q, x, h, e⟩
  · exact .inl (own_to h hb)
  · exact .inr ⟨g, q, x, own_to h hb, e⟩
theorem BobV.base {w : World} {base base' : Nat} {V : Value} {l : List ByteArray} (h : BobV w base V l) (hb : base' ≤ base) : BobV w base' V l := by
  rcases h with h | ⟨g, q, x, h, e⟩
  · exact .inl (own_base h hb)
  · exact .inr ⟨g, q, x, own_base h hb, e⟩
theorem BobV.draw {w w' : World} {base C : Nat} {V : Value} {l : List ByteArray} (h : BobV w base V l) (hg : w.grownBy w' (some C)) (hC : C < base) : BobV w' base V l := by
  rcases h with h | ⟨g, q, x, h, e⟩
  · exact .inl (own_ltC h hg hC)
  · exact .inr ⟨g, q, x, own_ltC h hg hC, e⟩
theorem BobV.strs {w : World} {base : Nat} {V : Value} {l : List ByteArray} (h : BobV w base V l) : Strs w V l := by
  rcases h with h | ⟨g, q, x, h, rfl⟩
  · exact strs_own_v rfl h
  · have h1 := strs_fromG (k := 1) (strs_own_v (l := x :: l) rfl h) (by simp)
    simpa using h1
theorem BobV.nil {w : World} {base : Nat} {V : Value} {l : List ByteArray} (h : BobV w base V l) : NilOk V := by
  rcases h with h | ⟨g, q, x, h, rfl⟩
  · exact nilok_own h
  · intro n c e
    split at e <;> cases e
def DrewB (w : World) (C lim : Nat) (e : Ending) (w' : World) : Prop := ∃ V bobs, e = .returned V ∧ BobV w' w.heap.size V bobs ∧ bobs.length ≤ 130 ∧ Cur w' C lim ∧ w.grownBy w' (some C)
/-- The state of a draw beside the lead heads in box X. -/
structure BS (w : World) (C X : Nat) (P B Q : ByteArray) (gv : Value) (G : List ByteArray) (lim : Nat) (W : World) : Prop where
  cur : Cur W C lim
  gb : w.grownBy W (some C)
  box : W.ownsRow w.heap.size 78 4 (.slice (some ⟨X, 0, none⟩) 1 1) 1 [.string P, .string B, .string Q, gv]
  row : W.ownsRow w.heap.size 9 1 gv G.length (G.map Value.string)
  hC : C < w.heap.size
theorem BS.to {w : World} {C X : Nat} {P B Q : ByteArray} {gv : Value} {G : List ByteArray} {lim : Nat} {W W' : World} (h : BS w C X P B Q gv G lim W) (hb : Below W.heap.size W W') : BS w C X P B Q gv G lim W' := ⟨h.cur.to hb, gb_to h.gb hb, own_to h.box hb, own_to h.row hb, h.hC⟩
theorem BS.draw {w : World} {C X : Nat} {P B Q : ByteArray} {gv : Value} {G : List ByteArray} {lim lim' : Nat} {W W' : World} (h : BS w C X P B Q gv G lim W) (hc : Cur W' C lim') (hg : W.grownBy W' (some C)) : BS w C X P B Q gv G lim' W' := ⟨hc, gb_tr h.gb hg, own_ltC h.box hg h.hC, own_ltC h.row hg h.hC, h.hC⟩
theorem BS.more {w : World} {C X : Nat} {P B Q : ByteArray} {gv : Value} {G : List ByteArray} {lim lim' : Nat} {W : World} (h : BS w C X P B Q gv G lim W) (hl : lim ≤ lim') : BS w C X P B Q gv G lim' W := { h with cur := h.cur.more hl }
def BSx (w : World) (C X : Nat) (P B Q : ByteArray) (gv : Value) (G : List ByteArray) (L : Nat) (W : World) : Prop := ∃ l, l ≤ L ∧ BS w C X P B Q gv G l W
theorem BSx.all {w : World} {C X : Nat} {P B Q : ByteArray} {ga q : Nat} {G : List ByteArray} {L : Nat} {W : World} (h : BSx w C X P B Q (.slice (some ⟨ga, 0, none⟩) G.length q) G L W) :
    BSx w C X P B Q (.slice (some ⟨ga, 0, none⟩) G.length q) G L W ∧ W.cell? ⟨X, 0, none⟩ = some (.string P) ∧ W.cell? ⟨X, 1, none⟩ = some (.string B) ∧ W.cell? ⟨X, 2, none⟩ = some (.string Q) ∧ W.cell? ⟨X, 3, none⟩ = some (.slice (some ⟨ga, 0, none⟩) G.length q) ∧ ∀ i (hi : i < G.length), W.cell? ⟨ga, i, none⟩ = some (.string G[i]) :=
  ⟨h, let ⟨_, _, h⟩ := h; ⟨(h.box.cellAt 0 (by omega)).trans rfl, (h.box.cellAt 1 (by omega)).trans rfl, (h.box.cellAt 2 (by omega)).trans rfl, (h.box.cellAt 3 (by omega)).trans rfl, fun i hi => by rw [h.row.cellAt i (by omega)]; simp [hi]⟩⟩
theorem BS.x {w : World} {C X : Nat} {P B Q : ByteArray} {gv : Value} {G : List ByteArray} {lim L : Nat} {W : World} (h : BS w C X P B Q gv G lim W) (hl : lim ≤ L) : BSx w C X P B Q gv G L W := ⟨lim, hl, h⟩
set_option maxRecDepth 100000 in
set_option maxHeartbeats 8000000 in
theorem head_bad (m : Mt) (v : Value) (k : Cl) (w : World) (C lim : Nat) (h : Cur w C lim) (hl : lim ≤ 9000000) (hb : BadBlk m k) (hm : MethAt w m v) (hs : MtSmall m) (hk : ClSmall k) : Calls Tryz.prog 48 #[.pointer (some ⟨C, 0, none⟩), m.v v, k.v] w (DrewStr w C (lim + 70) fun s => s.size ≤ 20) := by
  have H := Lib.hid h
  have hCl := h.lt
  have Hnb := Lib.hid (fun W (hW : Below w.heap.size w W) => l17Of_bad m v k W hb (hm.to hW) hs hk)
  obtain ⟨A, c, hv⟩ := hm.form
  subst hv
  unfold Mt.v Cl.v at *
  clear h hm hb
  go_enter Tryz.func48, Tryz.ntmps48
  go_wp2_with fail
  refine box2 (C := fun W => Calls _ _ _ W _) ?_
  intro wb hw k1 k2 hB0
  clear k1 k2
  refine (Hnb.out _ hw).mono ?_; rintro e w1 ⟨a, b, d, A1, l1, q1, rfl, hb1⟩
  have C1 := Lib.hid ((H.out.to (bw_to hw hb1)).al (.cells #[.string a, .string b, .string d, .slice A1 l1 q1] 78))
  have G1 := Lib.hid (gb_al (gb_to (gb_refl w C) (bw_to hw hb1)) (.cells #[.string a, .string b, .string d, .slice A1 l1 q1] 78))
  go_wp2_with fail
  refine (anyRow_any _ C lim C1.out (by omega)).mono ?_; rintro e w2 ⟨s, rfl, hs2, hc2, hg2⟩
  have C2 := Lib.hid hc2
  have G2 := Lib.hid (gb_tr G1.out hg2)
  have Hs2 := Lib.hid hs2
  clear hc2 hg2 hs2
  go_wp2_with fail
  go_ret
  exact ⟨s, rfl, Hs2.out, C2.out.more (by omega), G2.out⟩
set_option maxRecDepth 100000 in
set_option maxHeartbeats 8000000 in
theorem head_yes (m : Mt) (v : Value) (k : Cl) (n T : Nat) (P B B' Q : ByteArray) (w : World) (C lim : Nat) (h : Cur w C lim) (hl : lim ≤ 9000000) (hK : BK m k n T P B B' Q) (hF : (cloB n [P, B] T).length ≤ 130) (hm : MethAt w m v) (hs : MtSmall m) (hk : ClSmall k) : Calls Tryz.prog 48 #[.pointer (some ⟨C, 0, none⟩), m.v v, k.v] w (DrewStr w C (lim + 70) fun s => s.size ≤ 20) := by
  have H := Lib.hid h
  have hCl := h.lt
  have Hnb := Lib.hid (fun W (hW : Below w.heap.size w W) => l17Of_yes m v k n T P B B' Q W hK (hm.to hW) hs hk)
  rw [grp8_yes (Nat.le_trans hF (by omega)), decide_eq_true hF] at Hnb
  have hr : ∀ x ∈ sortB (cloB n [P, B] T), x.size ≤ 20 := fun x hx => by
    have := ((bk_all hK).1 x ((sortB_mem _ _).1 hx)).1
    have := hK.hn
    omega
  have hG0 : 1 ≤ (sortB (cloB n [P, B] T)).length := List.length_pos_of_mem ((sortB_mem _ _).2 (clo_rounds n [P, B] T))
  obtain ⟨G, hG⟩ : ∃ G, G = sortB (cloB n [P, B] T) := ⟨_, rfl⟩
  have hGl : G.length ≤ 130 := by rw [hG, sortB_len]; exact hF
  rw [← hG] at Hnb hr hG0
  obtain ⟨A, c, hv⟩ := hm.form
  subst hv
  unfold Mt.v Cl.v at *
  have Hr := Lib.hid hr
  clear h hm hK hG hF hr
  go_enter Tryz.func48, Tryz.ntmps48
  go_wp2_with fail
  refine box2 (C := fun W => Calls _ _ _ W _) ?_
  intro wb hw k1 k2 hB0
  clear k1 k2
  refine (Hnb.out _ hw).mono ?_; rintro e w1 ⟨A1, q1, rfl, hown1, hb1⟩
  have hlow := hw.size
  have C1 := Lib.hid (H.out.to (bw_to hw hb1))
  have G1 := Lib.hid (gb_to (gb_refl w C) (bw_to hw hb1))
  have O1 := Lib.hid (own_base (base' := w.heap.size) hown1 hlow)
  have hw1 : w.heap.size ≤ w1.heap.size := (bw_to hw hb1).size
  obtain ⟨ga, rfl, hga, _⟩ := own_addr hown1 hG0
  clear hw hb1 hown1
  go_upto_region 2 with fail
  refine box1 (C := fun W => Code.wp _ _ _ _ W) ?_
  intro w2 hw2 k2 hB2
  have S2 := Lib.hid (show BS w C w1.heap.size P B Q (.slice (some ⟨ga, 0, none⟩) G.length q1) G lim w2 from ⟨C1.out.to hw2, gb_to G1.out hw2, own_of_heap (n := 1) (size := 4) k2 hw1 (by unfold maxLen; omega) rfl, own_to O1.out hw2, hCl⟩)
  obtain ⟨X, hX⟩ : ∃ X, X = w1.heap.size := ⟨_, rfl⟩
  rw [← hX] at S2 ⊢
  clear k2 hw2 hB2 hX C1 G1 O1
  go_wp2_with fail
  refine (one_any w2 C _ 12 S2.out.cur (by omega) (by omega) (by omega)).mono ?_; rintro e w3 ⟨b2, rfl, hc3, hg3⟩
  have S3 := Lib.hid (S2.out.draw hc3 hg3)
  clear hc3 hg3 S2
  cases b2
  · go_upto_region 4 with fail
    have x3 := S3.out.to (Below.drew (Below.refl w3.heap.size w3))
    have S3d := Lib.hid x3
    have y3 : BSx w C X P B Q (.slice (some ⟨ga, 0, none⟩) G.length q1) G (lim + 10) w3.drew := x3.x (by omega)
    have hGi : (1 : Int) ≤ G.length := by omega
    clear x3
    go_region_held3 (fun W => BSx w C X P B Q (.slice (some ⟨ga, 0, none⟩) G.length q1) G (lim + 10) W ∧ W.cell? ⟨X, 0, none⟩ = some (.string P) ∧ W.cell? ⟨X, 1, none⟩ = some (.string B) ∧ W.cell? ⟨X, 2, none⟩ = some (.string Q) ∧ W.cell? ⟨X, 3, none⟩ = some (.slice (some ⟨ga, 0, none⟩) G.length q1) ∧ ∀ i (hi : i < G.length), W.cell? ⟨ga, i, none⟩ = some (.string G[i])) (first | with_reducible assumption | with_reducible exact BSx.all (by assumption)) (first | (go_at_call 79; refine (pick_any _ C _ G.length S3d.out.cur (by omega) (by omega) (by omega)).mono ?_; rintro e w4 ⟨z, rfl, hz, hc4, hg4⟩; (have S4 := Lib.hid (S3d.out.draw hc4 hg4)); (have y4 : BSx w C X P B Q (.slice (some ⟨ga, 0, none⟩) G.length q1) G (lim + 10) w4 := S4.out.x (by omega)); (obtain ⟨i, rfl⟩ : ∃ i : Nat, z = i := ⟨z.toNat, by omega⟩); (have hi : i < G.length := by omega); (have hzi : (i : Int) < (G.length : Int) := by omega); clear hc4 hg4 hz))
    go_wp2_with fail
    go_ret
    exact ⟨_, rfl, Hr.out _ (List.getElem_mem _), S4.out.cur.more (by omega), S4.out.gb⟩
  · go_wp2_with fail
    refine (anyRow_any _ C _ S3.out.cur (by omega)).mono ?_; rintro e w4 ⟨s, rfl, hs2, hc4, hg4⟩
    have S4 := Lib.hid (S3.out.draw hc4 hg4)
    have Hs2 := Lib.hid hs2
    clear hc4 hg4 hs2 S3
    go_wp2_with fail
    go_ret
    exact ⟨s, rfl, Hs2.out, S4.out.cur.more (by omega), S4.out.gb⟩
theorem head_any (m : Mt) (v : Value) (k : Cl) (w : World) (C lim : Nat) (h : Cur w C lim) (hl : lim ≤ 9000000) (hm : MethAt w m v) (hs : MtSmall m) (hk : ClSmall k) : Calls Tryz.prog 48 #[.pointer (some ⟨C, 0, none⟩), m.v v, k.v] w (DrewStr w C (lim + 70) fun s => s.size ≤ 20) := by
  rcases blk_cases m k with hb | ⟨n, T, P, B, B', Q, hK, hF⟩
  · exact head_bad m v k w C lim h hl hb hm hs hk
  · exact head_yes m v k n T P B B' Q w C lim h hl hK hF hm hs hk
set_option maxRecDepth 100000 in
set_option maxHeartbeats 8000000 in
theorem bobbed_bad (m : Mt) (v : Value) (k : Cl) (w : World) (C lim : Nat) (h : Cur w C lim) (hl : lim ≤ 9000000) (hb : BadBlk m k) (hm : MethAt w m v) (hs : MtSmall m) (hk : ClSmall k) : Calls Tryz.prog 47 #[.pointer (some ⟨C, 0, none⟩), m.v v, k.v] w (DrewB w C (lim + 20)) := by
  have H := Lib.hid h
  have hCl := h.lt
  have Hnb := Lib.hid (fun W (hW : Below w.heap.size w W) => l17Of_bad m v k W hb (hm.to hW) hs hk)
  obtain ⟨A, c, hv⟩ := hm.form
  subst hv
  unfold Mt.v Cl.v at *
  clear h hm hb
  go_enter Tryz.func47, Tryz.ntmps47
  go_wp2_with fail
  refine box2 (C := fun W => Calls _ _ _ W _) ?_
  intro wb hw k1 k2 hB0
  clear k1 k2
  refine (Hnb.out _ hw).mono ?_; rintro e w1 ⟨a, b, d, A1, l1, q1, rfl, hb1⟩
  have C1 := Lib.hid ((H.out.to (bw_to hw hb1)).al (.cells #[.string a, .string b, .string d, .slice A1 l1 q1] 78))
  have G1 := Lib.hid (gb_al (gb_to (gb_refl w C) (bw_to hw hb1)) (.cells #[.string a, .string b, .string d, .slice A1 l1 q1] 78))
  go_wp2_with fail
  refine (pick_any _ C lim 4 C1.out (by omega) (by omega) (by omega)).mono ?_; rintro e w2 ⟨z, rfl, hz, hc2, hg2⟩
  have C2 := Lib.hid hc2
  have G2 := Lib.hid (gb_tr G1.out hg2)
  clear hc2 hg2
  go_wp2_with fail
  go_loopw [9] (fun b wr => b = .slice none 0 0 ∧ Cur wr C (lim + 2) ∧ w.grownBy wr (some C)) (fun _ _ => 0)
  case atStart => exact ⟨rfl, C2.out, G2.out⟩
  case round =>
    obtain ⟨rfl, hc, hg⟩ := hrel
    have HC3 := Lib.hid hc
    have HG3 := Lib.hid hg
    clear hc hg
    go_wp2_with fail
    go_ret
    exact ⟨_, [], rfl, .inl (World.ownsRow_nil _ _ _ _), by simp, HC3.out.more (by omega), HG3.out⟩
set_option maxRecDepth 100000 in
set_option maxHeartbeats 8000000 in
theorem bobbed_yes (m : Mt) (v : Value) (k : Cl) (n T : Nat) (P B B' Q : ByteArray) (w : World) (C lim : Nat) (h : Cur w C lim) (hl : lim ≤ 9000000) (hK : BK m k n T P B B' Q) (hF : (cloB n [P, B] T).length ≤ 130) (hm : MethAt w m v) (hs : MtSmall m) (hk : ClSmall k) : Calls Tryz.prog 47 #[.pointer (some ⟨C, 0, none⟩), m.v v, k.v] w (DrewB w C (lim + 20)) := by
  have H := Lib.hid h
  have hCl := h.lt
  have Hnb := Lib.hid (fun W (hW : Below w.heap.size w W) => l17Of_yes m v k n T P B B' Q W hK (hm.to hW) hs hk)
  rw [grp8_yes (Nat.le_trans hF (by omega)), decide_eq_true hF] at Hnb
  obtain ⟨K, hKb, hO⟩ := ord_ex hK.hn hK.invQ
  have hG0 : 1 ≤ (sortB (cloB n [P, B] T)).length := List.length_pos_of_mem ((sortB_mem _ _).2 (clo_rounds n [P, B] T))
  have hA := fun (b : List ByteArray) (hb : BG (sortB (cloB n [P, B] T)) b Q) x (hx : x ∈ sortB (cloB n [P, B] T)) => bg_add hK hO hx hb
  have hI := fun x (hx : x ∈ sortB (cloB n [P, B] T)) => (bk_all hK).2.2 x ((sortB_mem _ _).1 hx)
  obtain ⟨G, hG⟩ : ∃ G, G = sortB (cloB n [P, B] T) := ⟨_, rfl⟩
  have hGl : G.length ≤ 130 := by rw [hG, sortB_len]; exact hF
  rw [← hG] at Hnb hG0 hA hI
  have HA := Lib.hid hA
  have Had := Lib.hid (fun (b : List ByteArray) (hb : BG G b Q) x (hx : x ∈ G) gv Vb W (hf : ∃ A l c, gv = .slice A l c) (hV : Strs W Vb b) (hN : NilOk Vb) => addSetS_any n K P B Q x gv Vb b W hK.hn hK.invQ (hI x hx) hO hKb hf hV hN hb.1.2.sorted (by have := hb.1.len; omega))
  obtain ⟨A, c, hv⟩ := hm.form
  subst hv
  unfold Mt.v Cl.v at *
  clear h hm hK hG hF hA hI hO
  go_enter Tryz.func47, Tryz.ntmps47
  go_wp2_with fail
  refine box2 (C := fun W => Calls _ _ _ W _) ?_
  intro wb hw k1 k2 hB0
  clear k1 k2
  refine (Hnb.out _ hw).mono ?_; rintro e w1 ⟨A1, q1, rfl, hown1, hb1⟩
  have hlow := hw.size
  have C1 := Lib.hid (H.out.to (bw_to hw hb1))
  have G1 := Lib.hid (gb_to (gb_refl w C) (bw_to hw hb1))
  have O1 := Lib.hid (own_base (base' := w.heap.size) hown1 hlow)
  have hw1 : w.heap.size ≤ w1.heap.size := (bw_to hw hb1).size
  obtain ⟨ga, rfl, hga, _⟩ := own_addr hown1 hG0
  clear hw hb1 hown1
  go_upto_region 2 with fail
  refine box1 (C := fun W => Code.wp _ _ _ _ W) ?_
  intro w2 hw2 k2 hB2
  have S2 := Lib.hid (show BS w C w1.heap.size P B Q (.slice (some ⟨ga, 0, none⟩) G.length q1) G lim w2 from ⟨C1.out.to hw2, gb_to G1.out hw2, own_of_heap (n := 1) (size := 4) k2 hw1 (by unfold maxLen; omega) rfl, own_to O1.out hw2, hCl⟩)
  obtain ⟨X, hX⟩ : ∃ X, X = w1.heap.size := ⟨_, rfl⟩
  rw [← hX] at S2 ⊢
  clear k2 hw2 hB2 hX C1 G1 O1 hw1 hlow
  go_wp2_with fail
  refine (pick_any w2 C _ 4 S2.out.cur (by omega) (by omega) (by omega)).mono ?_; rintro e w3 ⟨z, rfl, hz, hc3, hg3⟩
  obtain ⟨j0, rfl⟩ : ∃ j : Nat, z = j := ⟨z.toNat, by omega⟩
  have hj0 : j0 ≤ 3 := by omega
  have S3 := Lib.hid (S2.out.draw hc3 hg3)
  clear hc3 hg3 S2 hz
  go_wp2_with fail
  go_loopw [9, 10] (fun b i wr => ∃ (j : Nat) (A : Option Addr) (q : Nat) (l : List ByteArray), j ≤ 3 ∧ i = .int .i64 j ∧ b = .slice A l.length q ∧ BG G l Q ∧ wr.ownsRow w.heap.size 9 1 (.slice A l.length q) l.length (l.map Value.string) ∧ BS w C X P B Q (.slice (some ⟨ga, 0, none⟩) G.length q1) G (lim + 2 + 2 * (3 - j)) wr) (fun _ i _ => (intOf i).toNat)
  case atStart => exact ⟨j0, none, 0, [], hj0, rfl, rfl, BG.nil G Q, World.ownsRow_nil _ _ _ _, S3.out.more (by omega)⟩
  case round =>
    obtain ⟨j, A4, q4, l, hj, rfl, rfl, hbg, ho, st⟩ := hrel
    have St := Lib.hid st
    have Ho := Lib.hid ho
    have Hbg := Lib.hid hbg
    have hll : l.length ≤ 130 := by have := hbg.1.len; omega
    clear st ho hbg
    by_cases hpos : 0 < j
    · have hpi : (0 : Int) < j := by omega
      have x3 := St.out.to (Below.drew (Below.refl wr.heap.size wr))
      have S3d := Lib.hid x3
      have HoD := Lib.hid (own_to Ho.out (Below.drew (Below.refl wr.heap.size wr)))
      have y3 : BSx w C X P B Q (.slice (some ⟨ga, 0, none⟩) G.length q1) G (lim + 20) wr.drew := x3.x (by omega)
      have hGi : (1 : Int) ≤ G.length := by omega
      clear x3 S3
      go_upto_region 6 with fail
      go_region_held3 (fun W => BSx w C X P B Q (.slice (some ⟨ga, 0, none⟩) G.length q1) G (lim + 20) W ∧ W.cell? ⟨X, 0, none⟩ = some (.string P) ∧ W.cell? ⟨X, 1, none⟩ = some (.string B) ∧ W.cell? ⟨X, 2, none⟩ = some (.string Q) ∧ W.cell? ⟨X, 3, none⟩ = some (.slice (some ⟨ga, 0, none⟩) G.length q1) ∧ ∀ i (hi : i < G.length), W.cell? ⟨ga, i, none⟩ = some (.string G[i])) (first | with_reducible assumption | with_reducible exact BSx.all (by assumption)) (first | (go_at_call 79; refine (pick_any _ C _ G.length S3d.out.cur (by omega) (by omega) (by omega)).mono ?_; rintro e w4 ⟨z, rfl, hz, hc4, hg4⟩; (have S4 := Lib.hid (S3d.out.draw hc4 hg4)); (have Ho4 := Lib.hid (own_ltC HoD.out hg4 hCl)); (have y4 : BSx w C X P B Q (.slice (some ⟨ga, 0, none⟩) G.length q1) G (lim + 20) w4 := S4.out.x (by omega)); (obtain ⟨i, rfl⟩ : ∃ i : Nat, z = i := ⟨z.toNat, by omega⟩); (have hi : i < G.length := by omega); (have hzi : (i : Int) < (G.length : Int) := by omega); clear hc4 hg4 hz) | (go_at_call 74; refine (Had.out l Hbg.out _ (List.getElem_mem hi) _ _ _ ⟨_, _, _, rfl⟩ (strs_of_own Ho4.out) (nilok_own Ho4.out)).mono ?_; rintro e w5 ⟨A5, q5, rfl, ho5, hb5⟩; (have S5 := Lib.hid (S4.out.to hb5)); (have Ho5 := Lib.hid (own_base (base' := w.heap.size) ho5 (S4.out.gb.size))); (have y5 : BSx w C X P B Q (.slice (some ⟨ga, 0, none⟩) G.length q1) G (lim + 20) w5 := S5.out.x (by omega)); (have Hb5 := Lib.hid (HA.out l Hbg.out _ (List.getElem_mem hi))); clear ho5 hb5))
      go_wp2_with fail
      exact ⟨⟨j - 1, A5, q5, _, by omega, by rw [show ((j - 1 : Nat) : Int) = (j : Int) - 1 by omega], rfl, Hb5.out, Ho5.out, S5.out.more (by omega)⟩, by simp [intOf]; omega⟩
    · obtain rfl : j = 0 := by omega
      have hp0 : ¬ (0 : Int) < 0 := by omega
      by_cases h0 : l.length = 0
      · have h0i : ¬ (0 : Int) < (l.length : Int) := by omega
        go_wp2_with fail
        go_ret
        obtain rfl : l = [] := List.length_eq_zero_iff.1 h0
        exact ⟨_, [], rfl, .inl Ho.out, hll, St.out.cur.more (by omega), St.out.gb⟩
      · have h0i : (0 : Int) < (l.length : Int) := by omega
        have h1i : (1 : Int) ≤ (l.length : Int) := by omega
        have h1n : 1 ≤ l.length := by omega
        obtain ⟨gl, rfl, hgl, _⟩ := own_addr Ho.out h1n
        have hql : l.length ≤ q4 := sl_capX Ho.out
        go_wp2_with fail
        refine (one_any wr C _ 12 St.out.cur (by omega) (by omega) (by omega)).mono ?_; rintro e w6 ⟨b2, rfl, hc6, hg6⟩
        have S6 := Lib.hid (St.out.draw hc6 hg6)
        have Ho6 := Lib.hid (own_ltC Ho.out hg6 hCl)
        clear hc6 hg6
        cases b2
        · go_wp2_with fail
          go_ret
          exact ⟨_, l, rfl, .inl Ho6.out, hll, S6.out.cur.more (by omega), S6.out.gb⟩
        · go_wp2_with fail
          all_goals
            go_ret
            obtain ⟨x, l', rfl⟩ : ∃ x l', l = x :: l' := by
              cases l with
              | nil => exact absurd rfl h0
              | cons x l' => exact ⟨x, l', rfl⟩
            refine ⟨_, l', rfl, .inr ⟨gl, q4, x, Ho6.out, ?_⟩, by simp at hll; omega, S6.out.cur.more (by omega), S6.out.gb⟩
            simp [Addr.add, *]
theorem bobbed_any (m : Mt) (v : Value) (k : Cl) (w : World) (C lim : Nat) (h : Cur w C lim) (hl : lim ≤ 9000000) (hm : MethAt w m v) (hs : MtSmall m) (hk : ClSmall k) : Calls Tryz.prog 47 #[.pointer (some ⟨C, 0, none⟩), m.v v, k.v] w (DrewB w C (lim + 20)) := by
  rcases blk_cases m k with hb | ⟨n, T, P, B, B', Q, hK, hF⟩
  · exact bobbed_bad m v k w C lim h hl hb hm hs hk
  · exact bobbed_yes m v k n T P B B' Q w C lim h hl hK hF hm hs hk
end Go.Proofs.YtheppimoncokcaaGreat
