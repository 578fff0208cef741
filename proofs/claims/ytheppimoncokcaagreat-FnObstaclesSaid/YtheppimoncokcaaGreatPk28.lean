/- Contracts: the rings with their rows, both sides. (Turned from HI by a program.) -/
import Derived.Test.YtheppimoncokcaaGreatPk21
import Derived.Test.YtheppimoncokcaaGreatPk27
namespace Go.Proofs.YtheppimoncokcaaGreat
open Go Go.RowKit
set_option linter.unusedVariables false
set_option linter.unusedSimpArgs false

set_option maxRecDepth 100000 in
set_option maxHeartbeats 8000000 in
theorem ringsI_all (n : Nat) (P B Q : ByteArray) (G : List ByteArray) (RR : ByteArray → Nat) (gv Vb : Value) (bobs : List ByteArray) (w : World) (hn : n ≤ 8) (hP : RowIn n P) (hB : RowIn n B) (hG : Strs w gv G) (hGl : G.length ≤ 200) (hV : Strs w Vb bobs) (hs : SortedS bobs) (hbl : bobs.length ≤ 1000000)
    (hit : ∀ h ∈ G, ∀ j, RowIn n (iterB (nxB bobs P B) h j)) (hRR : ∀ h ∈ G, IsRing (nxB bobs P B) h (RR h) ∧ RR h ≤ 200) :
    Calls Tryz.prog 65 #[.agg #[.string P, .string B, gv, .string Q], Vb] w fun e w' => ∃ A q vs, e = .returned (.slice A (rgs (nxB bobs P B) RR G []).length q) ∧ OwnSV w' w.heap.size (.slice A (rgs (nxB bobs P B) RR G []).length q) (rgs (nxB bobs P B) RR G []) vs ∧ ApartV vs ∧ Below w.heap.size w w' := by
  have Hri := Lib.hid (fun h (hh : h ∈ G) W (hW : Below w.heap.size w W) => ringI_any n (RR h) P B Q h gv Vb bobs W hn hP hB (hit h hh) (hV.to hW) hs hbl (hRR h hh).1 (by have := (hRR h hh).2; omega))
  have HRR := Lib.hid (fun h hh => (hRR h hh).2)
  have Hit := Lib.hid hit
  have hGf : ∃ A c, gv = .slice A G.length c := by obtain ⟨A, c, e, _⟩ := hG; exact ⟨A, c, e⟩
  obtain ⟨A0, c0, rfl, hgc, hgm, hrd⟩ := hG
  unfold maxLen at hgm
  obtain ⟨nx, hnx⟩ : ∃ f, f = nxB bobs P B := ⟨_, rfl⟩
  simp only [← hnx] at Hri Hit ⊢
  have Hseen := Lib.hid (fun k (hk : k < G.length) seen => rgs_seen (nx := nx) (RR := RR) (seen := seen) hk)
  have Hnew := Lib.hid (fun k (hk : k < G.length) seen => rgs_new (nx := nx) (RR := RR) (seen := seen) hk)
  have hfew := rgs_len nx RR G []
  obtain ⟨Z, hN⟩ : ∃ Z, Z = rgs nx RR G [] := ⟨_, rfl⟩
  have HN := Lib.hid hN
  rw [← hN] at hfew ⊢
  clear hV hs hP hB hit hRR hnx hN hGf
  go_enter Tryz.func65, Tryz.ntmps65
  go_wp2_with fail
  refine box1 (C := fun W => Oper.upon _ _ _ _ _ ((Sem.run _ _ W).andThen _)) ?_
  intro wb hw k1 hB0
  have R1 := boxRule k1
  clear k1
  refine upon_mkS ?_
  intro w1 hm1 hb1
  have hbl1 := hm1.lt
  have hwz : w.heap.size ≤ w1.heap.size := by have := hw.size; have := hb1.size; omega
  have R1a := R1 (w1.alloc (.cells #[] 24)) 2 (bw_al hb1 _)
  go_wp2_with fail
  refine box1 (C := fun W => Code.wp _ _ _ _ W) ?_
  intro w2 hw2 k2 hB02
  have hown0 : w2.ownsRow w1.heap.size 24 1 (.slice (some ⟨w1.heap.size, 0, none⟩) 0 0) 0 [] := own_of_heap (cs := #[]) k2 (Nat.le_refl _) (by unfold maxLen; omega) rfl
  have hm2 := hm1.to hw2
  have hb2 := bw_to hb1 hw2
  have hz2 : w1.heap.size ≤ w2.heap.size := hw2.size
  have R2 := fun i => R1 w2 i hb2
  clear k2 hm1 hw2 R1a
  go_loopw [6, 17] (fun o i wr => ∃ (k : Nat) (seen : List ByteArray) (f : ByteArray → Bool) (cnt : Nat) (Y : List (List ByteArray)) (A : Option Addr) (q : Nat) (vs : List Value), k ≤ G.length ∧ i = .int .i64 k ∧ o = .slice A Y.length q ∧ OwnSV wr w1.heap.size (.slice A Y.length q) Y vs ∧ ApartV vs ∧ SM wr wb.heap.size cnt f ∧ (∀ s, f s = true ↔ s ∈ seen) ∧ Y ++ rgs nx RR (G.drop k) seen = Z ∧ cnt ≤ k * 200 ∧ Below wb.heap.size wb wr ∧ w1.heap.size ≤ wr.heap.size) (fun _ i _ => G.length - (intOf i).toNat)
  case atStart => exact ⟨0, [], _, 0, [], _, 0, [], by omega, rfl, rfl, ⟨hown0, fun i h => absurd h (Nat.not_lt_zero _)⟩, List.Pairwise.nil, hm2, by simp, by rw [HN.out]; simp, by omega, hb2, hz2⟩
  case round =>
    obtain ⟨k, seen, f, cnt, Y, A, q, vs, hk, rfl, rfl, hown, hap, hm, hf, hc, hcnt, hB, hz⟩ := hrel
    have Hm := Lib.hid hm
    have Hf := Lib.hid hf
    have Hc := Lib.hid hc
    have hcN : Y.length ≤ Z.length := by rw [← Hc.out, List.length_append]; omega
    have Hap := Lib.hid hap
    have Hown := Lib.hid hown
    clear hap hown
    have R3 := fun i => R1 wr i hB
    clear hm hf hc hown0 hm2
    by_cases hlt : k < G.length
    · obtain ⟨ad, rfl, hC⟩ := strs_el hrd hlt
      have hC0 := hC _ (bw_to hw hB)
      have hmem : G[k] ∈ G := List.getElem_mem hlt
      have Hr := Lib.hid (fun W hW => Hri.out _ hmem W hW)
      have hRb := HRR.out _ hmem
      have hin0 := Hit.out _ hmem 0
      have hxs : G[k].size ≤ maxLen := by have : RowIn n G[k] := hin0; rw [this.1]; unfold maxLen; omega
      have hlk := Hm.out.look 111 Tryz.underlying111 G[k] hxs
      have Hse := Lib.hid (Hseen.out k hlt seen)
      have Hne := Lib.hid (Hnew.out k hlt seen)
      have Hin := Lib.hid (Hit.out _ hmem)
      obtain ⟨x, hx⟩ : ∃ x, x = G[k] := ⟨_, rfl⟩
      rw [← hx] at hC0 Hr hRb hlk Hse Hne Hin
      obtain ⟨R, hR⟩ : ∃ R, R = RR x := ⟨_, rfl⟩
      rw [← hR] at Hr hRb Hne
      clear hC hx hmem hin0 hxs hR
      cases hb : f x
      · have Hn : Hid (rgs nx RR (G.drop k) seen = ringL nx x R :: rgs nx RR (G.drop (k + 1)) (seen ++ ringL nx x R)) := Lib.hid (Hne.out (fun h => by rw [(Hf.out x).2 h] at hb; cases hb))
        rw [hb] at hlk
        have Hlk := Lib.hid hlk
        go_wp2_with fail
        refine (Hr.out _ (bw_to hw hB)).mono ?_; rintro e w5 ⟨A5, q5, rfl, hown5, hb5⟩
        have hB5 := bw_to hB hb5
        have HownL := Lib.hid (Hown.out.to hb5)
        have hm5 := Hm.out.to hb5
        have hz5 : w1.heap.size ≤ w5.heap.size := Nat.le_trans hz hb5.size
        have hlr : wb.heap.size < wr.heap.size := by omega
        obtain ⟨bz, hbz⟩ : ∃ b, b = wr.heap.size := ⟨_, rfl⟩
        rw [← hbz] at hown5 hlr
        have R5 := fun i => R1 w5 i hB5
        have Hrl := Lib.hid (ringL_len nx x R)
        obtain ⟨L, hL⟩ : ∃ L, L = ringL nx x R := ⟨_, rfl⟩
        rw [← hL] at hown5 Hn Hrl
        have HinL : Hid (∀ s ∈ L, s.size ≤ maxLen) := Lib.hid (fun s hs => by
          rw [hL] at hs
          unfold ringL at hs
          obtain ⟨j, _, rfl⟩ := List.mem_map.1 hs
          rw [(Hin.out j).1]; unfold maxLen; omega)
        have hcut5 := sl_cap hown5
        have Hbz := Lib.hid hbz
        have hbzw : w1.heap.size ≤ bz := by rw [hbz]; exact hz
        clear hL Hlk hlk R3 hbz
        go_wp2_with fail
        obtain ⟨wo, rfl⟩ : ∃ wo : World, wo = w5 := ⟨_, rfl⟩
        go_loopw [30] (fun i wr => ∃ (j : Nat) (f : ByteArray → Bool) (cnt' : Nat), j ≤ R ∧ i = .int .i64 j ∧ OwnSV wr w1.heap.size (.slice A Y.length q) Y vs ∧ wr.ownsRow bz 9 1 (.slice A5 R q5) R (L.map Value.string) ∧ SM wr wb.heap.size cnt' f ∧ (∀ s, f s = true ↔ s ∈ seen ++ L.take j) ∧ cnt' ≤ k * 200 + j ∧ Below wb.heap.size wb wr ∧ w1.heap.size ≤ wr.heap.size) (fun i _ => R - (intOf i).toNat)
        case atStart => exact ⟨0, f, cnt, by omega, rfl, HownL.out, hown5, hm5, by simpa using Hf.out, by omega, hB5, hz5⟩
        case round =>
          obtain ⟨j, f', cnt', hj, rfl, hownL, hownR, hm, hf, hcnt', hB', hz'⟩ := hrel
          have Hm' := Lib.hid hm
          have Hf' := Lib.hid hf
          clear hm hf hm5 hown5
          have R6 := fun i => R1 wr i hB'
          by_cases hlt2 : j < R
          · have hjL : j < L.length := by rw [Hrl.out]; exact hlt2
            have hSr : Strs wr (.slice A5 R q5) L := by
              have h : Strs wr (.slice A5 R q5) L := strs_of_own (by rw [Hrl.out]; exact hownR)
              exact h
            obtain ⟨A6, q6, e6, _, _, hrdR⟩ := hSr
            injection e6 with ea eb ec
            subst ea ec
            obtain ⟨ad6, rfl, hC6⟩ := strs_el hrdR hjL
            have hC60 := hC6 _ (Below.refl _ _)
            have Hys := Lib.hid (HinL.out _ (List.getElem_mem hjL))
            have Hup := Lib.hid (mem_updF hjL Hf'.out)
            obtain ⟨y, hy⟩ : ∃ y, y = L[j] := ⟨_, rfl⟩
            rw [← hy] at hC60 Hys Hup
            clear hC6 hy hrdR eb
            go_wp2_with fail
            refine upon_insS Tryz.underlying111 Hm'.out (by omega) y Hys.out ?_
            intro w7 hm7 hg7
            have Ho1 := Lib.hid (hownL.kept hg7 (fun k e => .inl (by cases e; exact hbl1)))
            have ho2 := hownR.kept hg7 (own_neG hownR (.inl hlr))
            have hB7 := gr_lowS hB' hg7 (Nat.le_refl _)
            have hz7 : w1.heap.size ≤ w7.heap.size := Nat.le_trans hz' hg7.size
            have Hm7 := Lib.hid hm7
            clear hm7 hg7 hownL
            go_wp2_with fail
            exact ⟨⟨j + 1, _, _, by omega, by go_num, Ho1.out, ho2, Hm7.out, Hup.out, by omega, hB7, hz7⟩, by simp [intOf]; omega⟩
          · obtain rfl : j = R := by omega
            have Hf2 : Hid (∀ s, f' s = true ↔ s ∈ seen ++ L) := Lib.hid (fun s => by
              have h := Hf'.out s
              rw [List.take_of_length_le (by rw [Hrl.out]; exact Nat.le_refl _)] at h
              exact h)
            have HoR := Lib.hid hownR
            have HoL := Lib.hid hownL
            have hoL := hownL.1
            clear hownR hownL
            go_wp2_with (at_builtin; go_must (refine wpList_app _ rfl _ _ _ rfl w1.heap.size 24 _ 1 24 Tryz.underlying52 info_sl rfl (by omega) hoL [.slice A5 j q5] rfl rfl rfl (one_mem rfl) (by omega) (by omega) hz' ?_); intro v8 w8 hown8 hb8 hg8 _)
            obtain ⟨A8, q8, e8, _⟩ := sl_of_own hown8
            subst e8
            have hm8 := Hm'.out.kept hg8 ((own_neG (G := wb.heap.size) hoL (.inl hbl1)).elim (fun h => by rw [h]; simp) (fun h e => h e.symm))
            have hkc : (Y ++ [L]) ++ rgs nx RR (G.drop (k + 1)) (seen ++ L) = Z := by
              have h := Hc.out
              rw [Hn.out] at h
              rw [List.append_assoc]; exact h
            have hy1 : (Y ++ [L]).length = Y.length + 1 := by simp
            have HpS := Lib.hid (HoL.out.push (l := L) (by rw [Hrl.out]; exact own_base HoR.out hbzw) hown8 hg8)
            have HaS := Lib.hid (Hap.out.snoc Hown.out (x := .slice A5 j q5) (fun b hb => by have := (HoR.out.lt b hb).1; rw [Hbz.out] at this; exact this))
            have Hkc := Lib.hid hkc
            have Hy1 := Lib.hid hy1
            clear hkc hy1 hown8
            exact ⟨⟨k + 1, seen ++ L, f', cnt', Y ++ [L], A8, q8, _, by omega, by go_num, by rw [Hy1.out], by rw [Hy1.out]; exact HpS.out, HaS.out, hm8, Hf2.out, Hkc.out, by omega, hB'.trans (hb8.mono (by omega)), by have := hg8.size; omega⟩, by simp [intOf]; omega⟩
      · have He := Lib.hid (Hse.out ((Hf.out x).1 hb))
        rw [hb] at hlk
        go_wp2_with fail
        exact ⟨⟨k + 1, seen, f, cnt, Y, A, q, vs, by omega, by go_num, rfl, Hown.out, Hap.out, Hm.out, Hf.out, by rw [← He.out]; exact Hc.out, by omega, hB, hz⟩, by simp [intOf]; omega⟩
    · obtain rfl : k = G.length := by omega
      have hcN2 : Y = Z := by
        have h := Hc.out
        rw [List.drop_length] at h
        simpa [rgs] using h
      subst hcN2
      go_wp2_with fail
      go_ret
      exact ⟨A, q, vs, rfl, Hown.out.base hwz, Hap.out, bw_to hw hB⟩
set_option maxRecDepth 100000 in
set_option maxHeartbeats 8000000 in
theorem ringsS_all (n : Nat) (P B Q : ByteArray) (G : List ByteArray) (RR : ByteArray → Nat) (gv Vb : Value) (bobs : List ByteArray) (w : World) (hn : n ≤ 8) (hP : RowIn n P) (hB : RowIn n B) (hG : Strs w gv G) (hGl : G.length ≤ 200) (hV : Strs w Vb bobs) (hs : SortedS bobs) (hbl : bobs.length ≤ 1000000)
    (hit : ∀ h ∈ G, ∀ j, RowIn n (iterB (nxB bobs P B) h j)) (hpm : ∀ h ∈ G, ∀ j, PermR n (iterB (nxB bobs P B) h j)) (hRR : ∀ h ∈ G, IsRing (nxB bobs P B) h (RR h) ∧ RR h ≤ 200) :
    Calls Tryz.prog 66 #[.agg #[.string P, .string B, .string Q, gv], Vb] w fun e w' => ∃ A q vs, e = .returned (.slice A (rgs (nxB bobs P B) RR G []).length q) ∧ OwnSV w' w.heap.size (.slice A (rgs (nxB bobs P B) RR G []).length q) (rgs (nxB bobs P B) RR G []) vs ∧ ApartV vs ∧ Below w.heap.size w w' := by
  have Hri := Lib.hid (fun h (hh : h ∈ G) W (hW : Below w.heap.size w W) => ringS_any n (RR h) P B Q h gv Vb bobs W hn hP hB (hit h hh) (hV.to hW) hs hbl (hRR h hh).1 (by have := (hRR h hh).2; omega))
  have HRR := Lib.hid (fun h hh => (hRR h hh).2)
  have Hpm := Lib.hid hpm
  obtain ⟨A0, c0, rfl, hgc, hgm, hrd⟩ := hG
  unfold maxLen at hgm
  have hPs := hP.1
  have hfl := fact_le hn
  obtain ⟨nx, hnx⟩ : ∃ f, f = nxB bobs P B := ⟨_, rfl⟩
  simp only [← hnx] at Hri Hpm ⊢
  have Hseen := Lib.hid (fun k (hk : k < G.length) seen => rgs_seen (nx := nx) (RR := RR) (seen := seen) hk)
  have Hnew := Lib.hid (fun k (hk : k < G.length) seen => rgs_new (nx := nx) (RR := RR) (seen := seen) hk)
  have hfew := rgs_len nx RR G []
  obtain ⟨Z, hN⟩ : ∃ Z, Z = rgs nx RR G [] := ⟨_, rfl⟩
  have HN := Lib.hid hN
  rw [← hN] at hfew ⊢
  have Hpl := Lib.hid (fun x (hx : PermR n x) W => l1Place_any n x W hn hx)
  have Hse6 := Lib.hid (fun W => l6Seen_any n W hn)
  obtain ⟨M, hM⟩ : ∃ M, M = factB n := ⟨_, rfl⟩
  have HplM : Hid (∀ x, PermR n x → placeB x < M) := Lib.hid (fun x hx => by rw [hM]; exact place_lt hx)
  rw [← hM] at Hse6 hfl
  have Hnone := Lib.hid (SeenOf.none n)
  clear hV hs hP hB hit hRR hnx hN hpm hM
  go_enter Tryz.func66, Tryz.ntmps66
  go_wp2_with fail
  refine box1 (C := fun W => Calls _ _ _ W _) ?_
  intro wb hw k1 hB0
  have R1 := boxRule k1
  clear k1
  refine (Hse6.out wb).mono ?_; rintro e w1 ⟨rfl, hm1, hb1⟩
  have hbl1 := hm1.lt.2
  have hwz : w.heap.size ≤ w1.heap.size := by have := hw.size; have := hb1.size; omega
  have R1a := fun i => R1 w1 i hb1
  have Hm1 := Lib.hid hm1
  clear hm1
  go_wp2_with fail
  go_loopw [5, 19] (fun o i wr => ∃ (k : Nat) (seen : List ByteArray) (f : Nat → Bool) (Y : List (List ByteArray)) (A : Option Addr) (q : Nat) (vs : List Value), k ≤ G.length ∧ i = .int .i64 k ∧ o = .slice A Y.length q ∧ OwnSV wr w1.heap.size (.slice A Y.length q) Y vs ∧ ApartV vs ∧ SB wr wb.heap.size wb.heap.size M f ∧ SeenOf n f seen ∧ Y ++ rgs nx RR (G.drop k) seen = Z ∧ Below wb.heap.size wb wr ∧ w1.heap.size ≤ wr.heap.size) (fun _ i _ => G.length - (intOf i).toNat)
  case atStart => exact ⟨0, [], _, [], none, 0, [], by omega, rfl, rfl, OwnSV.nil _ _, List.Pairwise.nil, Hm1.out, Hnone.out, by rw [HN.out]; simp, hb1, Nat.le_refl _⟩
  case round =>
    obtain ⟨k, seen, f, Y, A, q, vs, hk, rfl, rfl, hown, hap, hm, hf, hc, hB, hz⟩ := hrel
    have Hm := Lib.hid hm
    have Hf := Lib.hid hf
    have Hc := Lib.hid hc
    have hcN : Y.length ≤ Z.length := by rw [← Hc.out, List.length_append]; omega
    have Hap := Lib.hid hap
    have Hown := Lib.hid hown
    clear hap hown
    have R3 := fun i => R1 wr i hB
    clear hm hf hc R1a
    by_cases hlt : k < G.length
    · obtain ⟨ad, rfl, hC⟩ := strs_el hrd hlt
      have hC0 := hC _ (bw_to hw hB)
      have hmem : G[k] ∈ G := List.getElem_mem hlt
      have Hr := Lib.hid (fun W hW => Hri.out _ hmem W hW)
      have hRb := HRR.out _ hmem
      have Hpx : Hid (PermR n G[k]) := Lib.hid (Hpm.out _ hmem 0)
      have Hse := Lib.hid (Hseen.out k hlt seen)
      have Hne := Lib.hid (Hnew.out k hlt seen)
      have Hin := Lib.hid (Hpm.out _ hmem)
      obtain ⟨x, hx⟩ : ∃ x, x = G[k] := ⟨_, rfl⟩
      rw [← hx] at hC0 Hr hRb Hpx Hse Hne Hin
      obtain ⟨R, hR⟩ : ∃ R, R = RR x := ⟨_, rfl⟩
      rw [← hR] at Hr hRb Hne
      have Hplx := Lib.hid (fun W => Hpl.out x Hpx.out W)
      have hpM := HplM.out x Hpx.out
      have Hfx := Lib.hid (Hf.out x Hpx.out)
      obtain ⟨p, hp⟩ : ∃ p, p = placeB x := ⟨_, rfl⟩
      rw [← hp] at Hplx hpM Hfx
      clear hC hx hmem hR hp
      go_wp2_with fail
      refine (Hplx.out _).mono ?_; rintro e w4 ⟨rfl, hb4⟩
      have hm4 := Hm.out.to hb4
      have hB4 := bw_to hB hb4
      have Hown4 := Lib.hid (Hown.out.to hb4)
      have hz4 : w1.heap.size ≤ w4.heap.size := Nat.le_trans hz hb4.size
      have hcell := hm4.cell hpM
      have R4 := fun i => R1 w4 i hB4
      have Hm4 := Lib.hid hm4
      clear hm4 R3
      cases hb : f p
      · have Hn : Hid (rgs nx RR (G.drop k) seen = ringL nx x R :: rgs nx RR (G.drop (k + 1)) (seen ++ ringL nx x R)) := Lib.hid (Hne.out (fun h => by rw [Hfx.out.2 h] at hb; cases hb))
        rw [hb] at hcell
        go_wp2_with fail
        refine (Hr.out _ (bw_to hw hB4)).mono ?_; rintro e w5 ⟨A5, q5, rfl, hown5, hb5⟩
        have hB5 := bw_to hB4 hb5
        have HownL := Lib.hid (Hown4.out.to hb5)
        have hm5 := Hm4.out.to hb5
        have hz5 : w1.heap.size ≤ w5.heap.size := Nat.le_trans hz4 hb5.size
        have hlr : wb.heap.size < w4.heap.size := by omega
        obtain ⟨bz, hbz⟩ : ∃ b, b = w4.heap.size := ⟨_, rfl⟩
        rw [← hbz] at hown5 hlr
        have R5 := fun i => R1 w5 i hB5
        have Hrl := Lib.hid (ringL_len nx x R)
        obtain ⟨L, hL⟩ : ∃ L, L = ringL nx x R := ⟨_, rfl⟩
        rw [← hL] at hown5 Hn Hrl
        have HinL : Hid (∀ s ∈ L, PermR n s) := Lib.hid (fun s hs => by
          rw [hL] at hs
          unfold ringL at hs
          obtain ⟨j, _, rfl⟩ := List.mem_map.1 hs
          exact Hin.out j)
        have hcut5 := sl_cap hown5
        have Hbz := Lib.hid hbz
        have hbzw : w1.heap.size ≤ bz := by rw [hbz]; exact hz4
        clear hL hcell R4 hbz
        go_wp2_with fail
        obtain ⟨wo, rfl⟩ : ∃ wo : World, wo = w5 := ⟨_, rfl⟩
        go_loopw [34] (fun i wr => ∃ (j : Nat) (f : Nat → Bool), j ≤ R ∧ i = .int .i64 j ∧ OwnSV wr w1.heap.size (.slice A Y.length q) Y vs ∧ wr.ownsRow bz 9 1 (.slice A5 R q5) R (L.map Value.string) ∧ SB wr wb.heap.size wb.heap.size M f ∧ SeenOf n f (seen ++ L.take j) ∧ Below wb.heap.size wb wr ∧ w1.heap.size ≤ wr.heap.size) (fun i _ => R - (intOf i).toNat)
        case atStart => exact ⟨0, f, by omega, rfl, HownL.out, hown5, hm5, by simpa using Hf.out, hB5, hz5⟩
        case round =>
          obtain ⟨j, f', hj, rfl, hownL, hownR, hm, hf, hB', hz'⟩ := hrel
          have Hm' := Lib.hid hm
          have Hf' := Lib.hid hf
          clear hm hf hm5 hown5
          have R6 := fun i => R1 wr i hB'
          by_cases hlt2 : j < R
          · have hjL : j < L.length := by rw [Hrl.out]; exact hlt2
            have hSr : Strs wr (.slice A5 R q5) L := by
              have h : Strs wr (.slice A5 R q5) L := strs_of_own (by rw [Hrl.out]; exact hownR)
              exact h
            obtain ⟨A6, q6, e6, _, _, hrdR⟩ := hSr
            injection e6 with ea eb ec
            subst ea ec
            obtain ⟨ad6, rfl, hC6⟩ := strs_el hrdR hjL
            have hC60 := hC6 _ (Below.refl _ _)
            have Hpy := Lib.hid (HinL.out _ (List.getElem_mem hjL))
            have Hup := Lib.hid (mem_SeenOf hjL Hf'.out Hpy.out)
            obtain ⟨y, hy⟩ : ∃ y, y = L[j] := ⟨_, rfl⟩
            rw [← hy] at hC60 Hpy Hup
            have Hply := Lib.hid (fun W => Hpl.out y Hpy.out W)
            have hpyM := HplM.out y Hpy.out
            obtain ⟨p', hp'⟩ : ∃ p, p = placeB y := ⟨_, rfl⟩
            rw [← hp'] at Hply hpyM Hup
            have Hor := Lib.hid hownR
            have Hol := Lib.hid hownL
            clear hC6 hy hrdR eb hp' hownR hownL
            go_wp2_with fail
            refine (Hply.out _).mono ?_; rintro e w7 ⟨rfl, hb7⟩
            have hm7 := Hm'.out.to hb7
            have hc7 := hm7.cell hpyM
            have hf7 := hm7.free p'
            have hs7 := Lib.hid (hm7.set hpyM)
            have ho1 := (Hol.out.to hb7).kept (gr_set (gr_refl w7 (some wb.heap.size)) (j := p') (.bool true)) (fun k e => .inl (by cases e; exact hbl1))
            have ho2 := own_past (own_to Hor.out hb7) hlr p' (.bool true)
            have hB7 : Below wb.heap.size wb (w7.setCell ⟨wb.heap.size, p', none⟩ (.bool true)) := grow_set (bw_to hB' hb7) (Nat.le_refl _) _
            have hz7 : w1.heap.size ≤ (w7.setCell ⟨wb.heap.size, p', none⟩ (.bool true)).heap.size := by simp [World.setCell]; exact Nat.le_trans hz' hb7.size
            clear hm7
            go_wp2_with fail
            have Ho1 := Lib.hid ho1
            exact ⟨⟨j + 1, _, by omega, by go_num, Ho1.out, ho2, hs7.out, Hup.out, hB7, hz7⟩, by simp [intOf]; omega⟩
          · obtain rfl : j = R := by omega
            have Hf2 : Hid (SeenOf n f' (seen ++ L)) := Lib.hid (by
              have h := Hf'.out
              rw [List.take_of_length_le (by rw [Hrl.out]; exact Nat.le_refl _)] at h
              exact h)
            have HoR := Lib.hid hownR
            have HoL := Lib.hid hownL
            have hoL := hownL.1
            clear hownR hownL
            go_wp2_with (at_builtin; go_must (refine wpList_app _ rfl _ _ _ rfl w1.heap.size 24 _ 1 24 Tryz.underlying52 info_sl rfl (by omega) hoL [.slice A5 j q5] rfl rfl rfl (one_mem rfl) (by omega) (by omega) hz' ?_); intro v8 w8 hown8 hb8 hg8 _)
            obtain ⟨A8, q8, e8, _⟩ := sl_of_own hown8
            subst e8
            have hm8 : SB w8 wb.heap.size wb.heap.size M f' := World.ownsRow.kept Hm'.out hg8 (.inr (fun e => by have := (hoL.lt wb.heap.size e.symm).1; omega))
            have hkc : (Y ++ [L]) ++ rgs nx RR (G.drop (k + 1)) (seen ++ L) = Z := by
              have h := Hc.out
              rw [Hn.out] at h
              rw [List.append_assoc]; exact h
            have hy1 : (Y ++ [L]).length = Y.length + 1 := by simp
            have HpS := Lib.hid (HoL.out.push (l := L) (by rw [Hrl.out]; exact own_base HoR.out hbzw) hown8 hg8)
            have HaS := Lib.hid (Hap.out.snoc Hown4.out (x := .slice A5 j q5) (fun b hb => by have := (HoR.out.lt b hb).1; rw [Hbz.out] at this; exact this))
            have Hkc := Lib.hid hkc
            have Hy1 := Lib.hid hy1
            clear hkc hy1 hown8
            exact ⟨⟨k + 1, seen ++ L, f', Y ++ [L], A8, q8, _, by omega, by go_num, by rw [Hy1.out], by rw [Hy1.out]; exact HpS.out, HaS.out, hm8, Hf2.out, Hkc.out, hB'.trans (hb8.mono (by omega)), by have := hg8.size; omega⟩, by simp [intOf]; omega⟩
      · have He := Lib.hid (Hse.out (Hfx.out.1 hb))
        rw [hb] at hcell
        go_wp2_with fail
        exact ⟨⟨k + 1, seen, f, Y, A, q, vs, by omega, by go_num, rfl, Hown4.out, Hap.out, Hm4.out, Hf.out, by rw [← He.out]; exact Hc.out, hB4, hz4⟩, by simp [intOf]; omega⟩
    · obtain rfl : k = G.length := by omega
      have hcN2 : Y = Z := by
        have h := Hc.out
        rw [List.drop_length] at h
        simpa [rgs] using h
      subst hcN2
      go_wp2_with fail
      go_ret
      exact ⟨A, q, vs, rfl, Hown.out.base hwz, Hap.out, bw_to hw hB⟩
end Go.Proofs.YtheppimoncokcaaGreat
