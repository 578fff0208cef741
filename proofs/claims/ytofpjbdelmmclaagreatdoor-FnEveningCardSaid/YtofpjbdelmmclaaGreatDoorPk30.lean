/- Contracts: is a row among rising rows, is it among rows; the next head; the ring of a head. -/
import Derived.Test.YtofpjbdelmmclaaGreatDoorPk29
import Derived.Test.YtofpjbdelmmclaaGreatDoorPk24
import Derived.Test.YtofpjbdelmmclaaGreatDoorPk18
namespace Go.Proofs.YtofpjbdelmmclaaGreatDoor
open Go Go.RowKit
set_option linter.unusedVariables false
set_option linter.unusedSimpArgs false

theorem bs_up {l : List ByteArray} {r : ByteArray} {h : Nat} (hs : SortedS l) (hh : h < l.length) (e : nmLt l[h] r = true) : ∀ k (hk : k < l.length), k < h + 1 → nmLt l[k] r = true := by
  intro k hk hk2
  rcases Nat.lt_or_ge k h with h3 | h3
  · cases hx : nmLt l[k] r
    · have h5 := (List.pairwise_iff_getElem.1 hs) k h hk hh h3
      rw [le_trans' hx h5] at e
      cases e
    · rfl
  · obtain rfl : k = h := by omega
    exact e
theorem bs_dn {l : List ByteArray} {r : ByteArray} {h : Nat} (hs : SortedS l) (hh : h < l.length) (e : nmLt l[h] r = false) : ∀ k (hk : k < l.length), h ≤ k → nmLt l[k] r = false := by
  intro k hk hk2
  rcases Nat.eq_or_lt_of_le hk2 with e2 | h4
  · subst e2; exact e
  · exact le_trans' e ((List.pairwise_iff_getElem.1 hs) h k hh hk h4)
set_option maxHeartbeats 2000000 in
theorem l1HasS_any (V : Value) (l : List ByteArray) (r : ByteArray) (w : World) (hV : Strs w V l) : Calls Tryz.prog 169 #[V, .string r] w fun e w' => e = .returned (.bool (decide (r ∈ l))) ∧ w = w' := by
  obtain ⟨A, c, rfl, h1, h2, hrd⟩ := hV
  unfold maxLen at h2
  go_enter Tryz.func169, Tryz.ntmps169
  go_wp2_with fail
  go_loop [9] (fun i => ∃ k : Nat, k ≤ l.length ∧ i = .int .i64 k ∧ r ∉ l.take k) (fun i => l.length - (intOf i).toNat)
  case atStart => exact ⟨0, by omega, rfl, by simp⟩
  case round =>
    obtain ⟨k, hk, rfl, hn⟩ := hrel
    have Hn := Lib.hid hn
    clear hn
    by_cases hlt : k < l.length
    · obtain ⟨ad, rfl, hC⟩ := strs_el hrd hlt
      have hC0 := hC w (Below.refl _ _)
      have He := Lib.hid (sl_beq l[k] r)
      have Hno : Hid (l[k] ≠ r → r ∉ l.take (k + 1)) := Lib.hid (fun h hm => by
        rw [List.take_succ_eq_append_getElem hlt, List.mem_append, List.mem_singleton] at hm
        rcases hm with hm | hm
        · exact Hn.out hm
        · exact h hm.symm)
      have Hyes : Hid (l[k] = r → r ∈ l) := Lib.hid (fun h => by rw [← h]; exact List.getElem_mem hlt)
      obtain ⟨x, hx⟩ : ∃ x, x = l[k] := ⟨_, rfl⟩
      rw [← hx] at hC0 He Hno Hyes
      clear hC hx
      cases hb : (x.toList == r.toList)
      · have Hne : Hid (x ≠ r) := Lib.hid (fun e => by rw [He.out, decide_eq_true e] at hb; cases hb)
        go_wp2_with fail
        exact ⟨⟨k + 1, by omega, by go_num, Hno.out Hne.out⟩, by simp [intOf]; omega⟩
      · have Hd := Lib.hid (decide_eq_true (Hyes.out (by rw [He.out] at hb; exact of_decide_eq_true hb)))
        go_wp2_with fail
        go_ret
        exact ⟨ret_bool Hd.out.symm, rfl⟩
    · have Hd := Lib.hid (decide_eq_false (fun h : r ∈ l => Hn.out (by rw [List.take_of_length_le (by omega)]; exact h)))
      go_wp2_with fail
      go_ret
      exact ⟨ret_bool Hd.out.symm, rfl⟩
end Go.Proofs.YtofpjbdelmmclaaGreatDoor

/- Contracts: the next head, the ring of a head, both sides. (Printed by a program: mkHH.) -/
namespace Go.Proofs.YtofpjbdelmmclaaGreatDoor
open Go Go.RowKit
set_option linter.unusedVariables false
set_option linter.unusedSimpArgs false

set_option maxHeartbeats 2000000 in
theorem nextS_any (n : Nat) (P B Q h : ByteArray) (gv Vb : Value) (bobs : List ByteArray) (w : World) (hn : n ≤ 8) (hP : RowIn n P) (hB : RowIn n B) (hh : RowIn n h) (hV : Strs w Vb bobs) (hs : SortedS bobs) (hbl : bobs.length ≤ 1000000) :
    Calls Tryz.prog 201 #[.agg #[.string P, .string B, .string Q, gv], Vb, .string h] w fun e w' => e = .returned (.string (nxB bobs P B h)) ∧ Below w.heap.size w w' := by
  have Hb := Lib.hid (fun W (hW : Below w.heap.size w W) => hV.to hW)
  have Hs := Lib.hid hs
  have Htb := Lib.hid (fun W => l1Times_any h B W (by rw [hh.1]; omega) (by rw [hB.1]; omega) (row_hin hh.1 hB))
  have Htp := Lib.hid (fun W => l1Times_any h P W (by rw [hh.1]; omega) (by rw [hP.1]; omega) (row_hin hh.1 hP))
  have Hy : Hid (h ∈ bobs → nxB bobs P B h = timesB h B) := Lib.hid (fun e => by unfold nxB; rw [if_pos e])
  have Hn : Hid (h ∉ bobs → nxB bobs P B h = timesB h P) := Lib.hid (fun e => by unfold nxB; rw [if_neg e])
  clear hV hs hP hB hh
  by_cases hm : h ∈ bobs
  · have Hd := Lib.hid (decide_eq_true hm)
    have HE := Lib.hid (Hy.out hm)
    clear hm
    go_enter Tryz.func201, Tryz.ntmps201
    go_wp2_with fail
    refine box1 (C := fun W => Calls _ _ _ W _) ?_
    intro wb hw k1 hB0
    have R1 := boxRule k1
    clear k1
    (try refine (l1HasS_any Vb bobs h wb (Hb.out wb hw)).mono ?_; rintro e w' ⟨rfl, rfl⟩; rw [Hd.out]; go_wp2_with fail)
    refine (Htb.out _).mono ?_; rintro e w2 ⟨rfl, rfl⟩
    go_wp2_with fail
    go_ret
    exact ⟨ret_str HE.out.symm, hw⟩
  · have Hd := Lib.hid (decide_eq_false hm)
    have HE := Lib.hid (Hn.out hm)
    clear hm
    go_enter Tryz.func201, Tryz.ntmps201
    go_wp2_with fail
    refine box1 (C := fun W => Calls _ _ _ W _) ?_
    intro wb hw k1 hB0
    have R1 := boxRule k1
    clear k1
    (try refine (l1HasS_any Vb bobs h wb (Hb.out wb hw)).mono ?_; rintro e w' ⟨rfl, rfl⟩; rw [Hd.out]; go_wp2_with fail)
    refine (Htp.out _).mono ?_; rintro e w2 ⟨rfl, rfl⟩
    go_wp2_with fail
    go_ret
    exact ⟨ret_str HE.out.symm, hw⟩
set_option maxRecDepth 10000 in
set_option maxHeartbeats 4000000 in
theorem ringS_any (n R : Nat) (P B Q h : ByteArray) (gv Vb : Value) (bobs : List ByteArray) (w : World) (hn : n ≤ 8) (hP : RowIn n P) (hB : RowIn n B) (hit : ∀ j, RowIn n (iterB (nxB bobs P B) h j)) (hV : Strs w Vb bobs) (hs : SortedS bobs) (hbl : bobs.length ≤ 1000000) (hR : IsRing (nxB bobs P B) h R) (hRb : R ≤ 1000000) :
    Calls Tryz.prog 170 #[.agg #[.string P, .string B, .string Q, gv], Vb, .string h] w fun e w' => ∃ A q, e = .returned (.slice A R q) ∧ w'.ownsRow w.heap.size 9 1 (.slice A R q) R ((ringL (nxB bobs P B) h R).map Value.string) ∧ Below w.heap.size w w' := by
  have Hnx := Lib.hid (fun j W (hW : Below w.heap.size w W) => nextS_any n P B Q (iterB (nxB bobs P B) h j) gv Vb bobs W hn hP hB (hit j) (hV.to hW) hs hbl)
  have HR := Lib.hid hR
  have hR1 := hR.1
  obtain ⟨nx, hnx⟩ : ∃ f, f = nxB bobs P B := ⟨_, rfl⟩
  have Hit : Hid (∀ j, nxB bobs P B (iterB nx h j) = iterB nx h (j + 1)) := Lib.hid (fun j => by rw [hnx]; rfl)
  simp only [← hnx] at Hnx HR Hit ⊢
  have H0 : Hid (iterB nx h 0 = h) := Lib.hid rfl
  clear hV hs hP hB hit hR hnx
  go_enter Tryz.func170, Tryz.ntmps170
  go_wp2_with fail
  refine box2 (C := fun W => Calls _ _ _ W _) ?_
  intro wb hw k1 k2 hB0
  have R1 := boxRule k1
  have hown0 : wb.ownsRow (w.heap.size + 1) 9 1 (.slice (some ⟨w.heap.size + 1, 0, none⟩) 1 1) 1 ((ringL nx h 1).map Value.string) := own_of_heap k2 (Nat.le_refl _) (by unfold maxLen; omega) rfl
  have hl2 := blk_lt k2
  have RB := fun i W (hW : Below (w.heap.size + 1) wb W) => boxRuleB k1 (by omega) W i hW
  have hlow : ∀ W, Below (w.heap.size + 1) wb W → Below w.heap.size w W := fun W hW => hw.trans (hW.mono (by omega))
  have Hlow := Lib.hid hlow
  have hn0 := Hnx.out 0 wb hw
  rw [H0.out] at hn0
  have e0 := Hit.out 0
  rw [H0.out] at e0
  rw [e0] at hn0
  have Hn0 := Lib.hid hn0
  clear k1 k2 hlow hn0 e0 H0 R1
  refine Hn0.out.mono ?_; rintro e w1 ⟨rfl, hb1⟩
  have hown1 := own_to hown0 hb1
  have hL1 : Below (w.heap.size + 1) wb w1 := hb1.mono (by omega)
  have hz1 : wb.heap.size ≤ w1.heap.size := hb1.size
  clear hown0 Hn0
  go_wp2_with fail
  go_loopw [7, 8] (fun o r wr => ∃ (j : Nat) (A : Option Addr) (q : Nat), 1 ≤ j ∧ j ≤ R ∧ r = .string (iterB nx h j) ∧ o = .slice A j q ∧ wr.ownsRow (w.heap.size + 1) 9 1 (.slice A j q) j ((ringL nx h j).map Value.string) ∧ Below (w.heap.size + 1) wb wr ∧ wb.heap.size ≤ wr.heap.size) (fun o _ _ => R - lenV o)
  case atStart => exact ⟨1, _, 1, by omega, by omega, rfl, rfl, hown1, hL1, hz1⟩
  case round =>
    obtain ⟨j, A, q, h1j, hj, rfl, rfl, hown, hL, hz⟩ := hrel
    have R2 := fun i => RB i wr hL
    have Hst := Lib.hid (ring_stop HR.out h1j hj)
    have Hgo := Lib.hid (ring_go HR.out hj)
    have Hs : Hid (ringL nx h (j + 1) = ringL nx h j ++ [iterB nx h j]) := Lib.hid (ringL_succ nx h j)
    have Hnj := Lib.hid (fun W hW => Hnx.out j W hW)
    have Hij := Lib.hid (Hit.out j)
    rw [Hij.out] at Hnj
    have Hx1 : Hid (iterB nx h (j + 1) = iterB nx h (j + 1)) := Lib.hid rfl
    obtain ⟨y, hy⟩ : ∃ y, y = iterB nx h (j + 1) := ⟨_, rfl⟩
    have Hy := Lib.hid hy
    rw [← hy] at Hnj
    obtain ⟨x, hx⟩ : ∃ x, x = iterB nx h j := ⟨_, rfl⟩
    rw [← hx] at Hst Hgo Hs Hnj ⊢
    clear hx hy Hij Hx1
    have He := Lib.hid (sl_beq x h)
    cases hb : (x.toList == h.toList)
    · have hlt := Hgo.out (fun e => by rw [He.out, decide_eq_true e] at hb; cases hb)
      go_wp2_with (at_builtin; go_must (refine wpList_app _ rfl _ _ _ rfl (w.heap.size + 1) 9 _ 1 16 Tryz.underlying24 info_str rfl (by omega) hown [.string x] rfl rfl rfl (one_mem rfl) (by omega) (by omega) (by omega) ?_); intro v2 w3 hown3 hb3 hg3 _; (have hL3 := hL.trans hb3); (have R3 := fun i => RB i w3 hL3))
      refine (Hnj.out _ (Hlow.out _ hL3)).mono ?_; rintro e w4 ⟨rfl, hb4⟩
      have hz3 : wb.heap.size ≤ w3.heap.size := by have := hg3.size; omega
      have hown4 := own_to hown3 hb4
      have hL4 : Below (w.heap.size + 1) wb w4 := hL3.trans (hb4.mono (by omega))
      have hz4 : wb.heap.size ≤ w4.heap.size := Nat.le_trans hz3 hb4.size
      obtain ⟨A2, q2, e2, _⟩ := sl_of_own hown4
      subst e2
      rw [str_snoc Hs.out] at hown4
      clear hown hown3 R2 R3
      go_wp2_with fail
      exact ⟨⟨j + 1, A2, q2, by omega, by omega, by rw [Hy.out], rfl, hown4, hL4, hz4⟩, by simp [lenV]; omega⟩
    · obtain rfl := Hst.out (by rw [He.out] at hb; exact of_decide_eq_true hb)
      go_wp2_with fail
      go_ret
      exact ⟨A, q, rfl, own_base hown (by omega), Hlow.out _ hL⟩
end Go.Proofs.YtofpjbdelmmclaaGreatDoor

/- Contracts: how many rings there are, both sides. -/
namespace Go.Proofs.YtofpjbdelmmclaaGreatDoor
open Go Go.RowKit
set_option linter.unusedVariables false
set_option linter.unusedSimpArgs false

theorem info_sl : (Tryz.prog.info? 24).map (fun i => (i.zero, i.size, i.bytes)) = some (some (.slice none 0 0), 1, 24) := by kernel_rfl
theorem mem_updF {seen L : List ByteArray} {f : ByteArray → Bool} {k : Nat} (hk : k < L.length) (h : ∀ s, f s = true ↔ s ∈ seen ++ L.take k) (s : ByteArray) : updF f L[k] s = true ↔ s ∈ seen ++ L.take (k + 1) := by
  have h2 := updF_app h (x := L[k]) s
  rw [h2, List.take_succ_eq_append_getElem hk, List.append_assoc]
theorem mem_SeenOf {n : Nat} {seen L : List ByteArray} {f : Nat → Bool} {k : Nat} (hk : k < L.length) (h : SeenOf n f (seen ++ L.take k)) (hp : PermR n L[k]) : SeenOf n (fun j => if j = placeB L[k] then true else f j) (seen ++ L.take (k + 1)) := by
  have h2 := h.put hp
  rw [List.append_assoc, ← List.take_succ_eq_append_getElem hk] at h2
  exact h2
end Go.Proofs.YtofpjbdelmmclaaGreatDoor

/- Rings of a method with no bobs; obstacles: parts. -/
namespace Go.Proofs.YtofpjbdelmmclaaGreatDoor
open Go Go.RowKit
set_option linter.unusedVariables false
set_option linter.unusedSimpArgs false

/-- All that counting rings asks. -/
structure CX (n : Nat) (P B Q : ByteArray) (bobs G : List ByteArray) (RR : ByteArray → Nat) (K : Nat) : Prop where
  hn : n ≤ 8
  hP : RowIn n P
  hB : RowIn n B
  hQ : RowIn n Q
  hGl : G.length ≤ 130
  hit : ∀ h ∈ G, ∀ j, RowIn n (iterB (nxB bobs P B) h j)
  hpm : ∀ h ∈ G, ∀ j, PermR n (iterB (nxB bobs P B) h j)
  hRR : ∀ h ∈ G, IsRing (nxB bobs P B) h (RR h) ∧ RR h ≤ 200
  ord : IsOrd n Q K
  kb : K ≤ 16777216
theorem bk_all {m : Mt} {k : Cl} {n T : Nat} {P B B' Q : ByteArray} (h : BK m k n T P B B' Q) : (∀ x ∈ cloB n [P, B] T, RowIn n x) ∧ (∀ x ∈ cloB n [P, B] T, PermR n x) ∧ (∀ x ∈ cloB n [P, B] T, Inv n x) := by
  refine ⟨clo_all (rounds_in h.hn) (fun x g hx hg => times_in hx (h.gin g hg)) T, clo_all (PermR.rounds h.hn) (fun x g hx hg => hx.times h.hn (h.gperm g hg)) T, clo_all (Inv.rounds h.hn) (fun x g hx hg => hx.times h.hn ?_) T⟩
  rcases List.mem_cons.1 hg with rfl | hg
  · exact h.invP
  · rw [List.mem_singleton.1 hg]; exact h.invB
theorem cx_of {m : Mt} {k : Cl} {n T : Nat} {P B B' Q : ByteArray} (h : BK m k n T P B B' Q) (hF : (cloB n [P, B] T).length ≤ 130) {bobs : List ByteArray} (hg : goodQ bobs Q) : ∃ RR K, CX n P B Q bobs (sortB (cloB n [P, B] T)) RR K := by
  obtain ⟨a1, a2, a3⟩ := bk_all h
  obtain ⟨K, hKb, hK⟩ := ord_ex h.hn h.invQ
  obtain ⟨F, hFd⟩ : ∃ F, F = cloB n [P, B] T := ⟨_, rfl⟩
  have hclo : ∀ x ∈ F, nxB bobs P B x ∈ F := fun x hx => by
    rw [hFd] at hx ⊢
    unfold nxB
    split
    · exact clo_closed h.clo hx (by simp)
    · exact clo_closed h.clo hx (by simp)
  have hinj : ∀ x ∈ F, ∀ y ∈ F, nxB bobs P B x = nxB bobs P B y → x = y := fun x hx y hy e => by
    rw [hFd] at hx hy
    exact nx_inj h.hn h.invP h.invB h.inv.hb h.inv.ab h.hQ h.invQ hg (a1 x hx) (a1 y hy) e
  have hex : ∀ x, ∃ R, x ∈ F → (R ≤ F.length ∧ IsRing (nxB bobs P B) x R) := fun x => by
    by_cases hx : x ∈ F
    · obtain ⟨R, h1, h2⟩ := ring_ex hclo hinj hx
      exact ⟨R, fun _ => ⟨h1, h2⟩⟩
    · exact ⟨0, fun h => absurd h hx⟩
  obtain ⟨RR, hRR⟩ := Classical.axiomOfChoice hex
  rw [← hFd] at a1 a2 a3 hF ⊢
  refine ⟨RR, K, h.hn, h.invP.1, h.invB.1, h.invQ.1, by rw [sortB_len]; exact hF, fun x hx j => a1 _ (iter_in hclo ((sortB_mem F x).1 hx) j), fun x hx j => a2 _ (iter_in hclo ((sortB_mem F x).1 hx) j), fun x hx => ?_, hK, hKb⟩
  have h2 := hRR x ((sortB_mem F x).1 hx)
  exact ⟨h2.2, by omega⟩
def ringN (P B : ByteArray) (bobs G : List ByteArray) (RR : ByteArray → Nat) : Nat := (rgs (nxB bobs P B) RR G []).length
theorem strs_nil (w : World) : Strs w (.slice none 0 0) [] := ⟨none, 0, rfl, by simp, by unfold maxLen; omega, Reads.none_⟩
theorem gb_set3 (w : World) (g : Nat) (u0 u1 u2 : Value) : w.grownBy (((w.setCell ⟨g, 0, none⟩ u0).setCell ⟨g, 1, none⟩ u1).setCell ⟨g, 2, none⟩ u2) (some g) :=
  gr_set (gr_set (gr_set (gr_refl w (some g)) u0) u1) u2
theorem gb_cellG {w w' : World} {g : Nat} (h : w.grownBy w' (some g)) {p : Addr} (hp : p.block < w.heap.size) (hn : p.block ≠ g) : w'.cell? p = w.cell? p := by
  have e := h.block p.block hp (fun x => hn (by injection x))
  unfold World.cell?
  rw [e]
def provB (N K : Int) : Bool := ((K.tmod 2 == 1) && (N.tmod 2 == 0)) || ((K == 1) && !(N == 1))
/-- A method and calls without a group of at most 130 rows. -/
def BadBlk (m : Mt) (k : Cl) : Prop := callsB m k = false ∨ ∃ n T P B B' Q, BK m k n T P B B' Q ∧ ¬ (cloB n [P, B] T).length ≤ 130
theorem blk_cases (m : Mt) (k : Cl) : BadBlk m k ∨ ∃ n T P B B' Q, BK m k n T P B B' Q ∧ (cloB n [P, B] T).length ≤ 130 := by
  cases h : callsB m k
  · exact .inl (.inl h)
  · obtain ⟨n, T, P, B, B', Q, hK⟩ := bk_of h
    by_cases hF : (cloB n [P, B] T).length ≤ 130
    · exact .inr ⟨n, T, P, B, B', Q, hK, hF⟩
    · exact .inl (.inr ⟨n, T, P, B, B', Q, hK, hF⟩)
theorem l17Of_bad (m : Mt) (v : Value) (k : Cl) (w : World) (hb : BadBlk m k) (h : MethAt w m v) (hs : MtSmall m) (hk : ClSmall k) : Calls Tryz.prog 138 #[m.v v, k.v] w fun e w' =>
    ∃ (a b d : ByteArray) (A : Option Addr) (l q : Nat), e = .returned (.tuple #[.agg #[.string a, .string b, .string d, .slice A l q], .bool false]) ∧ Below w.heap.size w w' := by
  rcases hb with hb | ⟨n, T, P, B, B', Q, hK, hF⟩
  · exact (l17Of_no m v k w hb h hs hk).mono fun e w' ⟨h1, h2⟩ => ⟨_, _, _, _, _, _, h1, h2⟩
  · refine (l17Of_yes m v k n T P B B' Q w hK h hs hk).mono ?_
    rintro e w' ⟨A, q, rfl, _, h2⟩
    exact ⟨_, _, _, _, _, _, by rw [decide_eq_false hF], h2⟩
end Go.Proofs.YtofpjbdelmmclaaGreatDoor

/- impl.leftTimes, impl.sorted, impl.blocks.setOf. -/
namespace Go.Proofs.YtofpjbdelmmclaaGreatDoor
open Go Go.RowKit
set_option linter.unusedVariables false
set_option linter.unusedSimpArgs false

theorem nilOk_own {w : World} {base n c : Nat} {e : TypeId} {A : Option Addr} {xs : List Value} (h : w.ownsRow base e 1 (.slice A n c) n xs) (hn : 1 ≤ n) : NilOk (.slice A n c) := by
  obtain ⟨g, rfl, _⟩ := own_ptr h hn
  intro a b hh
  cases hh
theorem strs_own_n {w : World} {base n q : Nat} {A : Option Addr} {l : List ByteArray} (hl : l.length = n) (h : w.ownsRow base 9 1 (.slice A n q) n (l.map Value.string)) : Strs w (.slice A n q) l := by
  subst hl; exact strs_of_own h
end Go.Proofs.YtofpjbdelmmclaaGreatDoor
