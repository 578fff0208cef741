/- The group that rows generate: the program's. -/
import Derived.Test.YthgadnhkbmimiaaPk22
import Derived.Test.YthgadnhkbmimiaaPk23
import Derived.Test.YthgadnhkbmimiaaPk24
namespace Go.Proofs.Ythgadnhkbmimiaa
open Go Go.RowKit
set_option linter.unusedVariables false
set_option linter.unusedSimpArgs false

def grpL (F : List ByteArray) : List ByteArray := if F.length ≤ 130 then sortB F else []
theorem grpL_yes {F : List ByteArray} (h : F.length ≤ 130) : grpL F = sortB F := by unfold grpL; rw [if_pos h]
theorem grpL_no {F : List ByteArray} (h : ¬ F.length ≤ 130) : grpL F = [] := by unfold grpL; rw [if_neg h]
theorem part_get {n : Nat} {gens : List ByteArray} {t : Nat} (h : t < (cloB n gens t).length) (j : Nat) (y : ByteArray) : (partB n gens t j y)[t]? = some (cloB n gens t)[t] := by
  obtain ⟨r, hr⟩ := exp_pre y (gens.take j) (cloB n gens t)
  unfold partB
  rw [← hr, List.getElem?_append_left h, List.getElem?_eq_getElem h]
theorem updF_app {L : List ByteArray} {x : ByteArray} {f : ByteArray → Bool} (h : ∀ s, f s = true ↔ s ∈ L) (s : ByteArray) : updF f x s = true ↔ s ∈ L ++ [x] := by
  unfold updF
  rw [List.mem_append, List.mem_singleton, ← h s]
  by_cases e : s = x
  · rw [if_pos e]; simp [e]
  · rw [if_neg e]; simp [e]
set_option maxRecDepth 100000 in
set_option maxHeartbeats 8000000 in
theorem generated_any (n T : Nat) (gens : List ByteArray) (V : Value) (w : World) (hn : n ≤ 8) (hg : ∀ g ∈ gens, RowIn n g) (hV : Strs w V gens) (hgl : gens.length ≤ 1000) (hT : IsClo n gens T) (hTb : T ≤ 16777216) :
    Calls Try.prog 93 #[.int .i64 n, V, .int .i64 130] w fun e w' => ∃ A q, e = .returned (.tuple #[.slice A (grpL (cloB n gens T)).length q, .bool (decide ((cloB n gens T).length ≤ 130))]) ∧ w'.ownsRow w.heap.size 9 1 (.slice A (grpL (cloB n gens T)).length q) (grpL (cloB n gens T)).length ((grpL (cloB n gens T)).map Value.string) ∧ Below w.heap.size w w' := by
  have Hall := Lib.hid (clo_all (P := RowIn n) (n := n) (gens := gens) (rounds_in hn) (fun x g hx hg' => times_in hx (hg g hg')))
  have HT := Lib.hid hT
  have Hg := Lib.hid hg
  have Hyes := Lib.hid (fun h => grpL_yes (F := cloB n gens T) h)
  have Hno := Lib.hid (fun h => grpL_no (F := cloB n gens T) h)
  obtain ⟨A0, c0, rfl, hgc, hgm, hrd⟩ := hV
  unfold maxLen at hgm
  have hrs : (roundsB n).size ≤ maxLen := by rw [rounds_size hn]; unfold maxLen; omega
  have Hrs := Lib.hid hrs
  clear hT hg hrs
  go_enter Try.func93, Try.ntmps93
  go_wp2_with fail
  refine upon_mkS ?_
  intro w1 hm1 hb1
  go_wp2_with (go_at_call 97; refine (rounds_any n _ hn).mono ?_; rintro e w' ⟨rfl, rfl⟩)
  refine upon_insS Try.underlying121 hm1 (by omega) (roundsB n) Hrs.out ?_
  intro w2 hm2 hg2
  have hb2 := gr_lowS hb1 hg2 (Nat.le_refl _)
  go_wp2_with (go_at_call 97; refine (rounds_any n _ hn).mono ?_; rintro e w' ⟨rfl, rfl⟩)
  refine box1 (C := fun W => Code.wp _ _ _ _ W) ?_
  intro w3 hw3 k3 hB03
  have hbl : w.heap.size < w2.heap.size := hm2.lt
  have hown0 : w3.ownsRow w2.heap.size 9 1 (.slice (some ⟨w2.heap.size, 0, none⟩) 1 1) 1 ([roundsB n].map Value.string) := own_of_heap k3 (Nat.le_refl _) (by unfold maxLen; omega) rfl
  have hm3 := hm2.to hw3
  have hB3 := bw_to hb2 hw3
  have hs3 : w2.heap.size ≤ w3.heap.size := hw3.size
  clear k3 hm1 hg2
  go_wp2_with fail
  go_loopw [9, 10] (fun o i wr => ∃ (t : Nat) (L : List ByteArray) (A : Option Addr) (q cnt : Nat) (f : ByteArray → Bool), t ≤ T ∧ i = .int .i64 t ∧ L = cloB n gens t ∧ o = .slice A L.length q ∧ wr.ownsRow w2.heap.size 9 1 (.slice A L.length q) L.length (L.map Value.string) ∧ SM wr w.heap.size cnt f ∧ (∀ s, f s = true ↔ s ∈ L) ∧ cnt ≤ 200 ∧ cnt ≤ L.length ∧ L.length ≤ 130 ∧ Below w.heap.size w wr ∧ w2.heap.size ≤ wr.heap.size) (fun _ i _ => T + 1 - (intOf i).toNat)
  case atStart => exact ⟨0, [roundsB n], _, 1, 1, _, by omega, rfl, rfl, rfl, hown0, hm3, fun s => by unfold updF; by_cases e : s = roundsB n <;> simp [e], by omega, by simp, by simp, hB3, hs3⟩
  case round =>
    obtain ⟨t, L, A, q, cnt, f, ht, rfl, hL, rfl, hown, hm, hf, hc1, hc2, hl, hB, hsz⟩ := hrel
    have hlq := sl_cap hown
    have HL := Lib.hid hL
    have Hf := Lib.hid hf
    have Hm := Lib.hid hm
    clear hL hf hm
    by_cases hlt : t < L.length
    · have htT : t < T := by
        rcases Nat.lt_or_ge t T with h | h
        · exact h
        · have e : t = T := by omega
          have := HT.out.1
          rw [← e, ← HL.out] at this; omega
      have hlt' : t < (cloB n gens t).length := by rw [← HL.out]; exact hlt
      obtain ⟨y, hy⟩ : ∃ y, y = (cloB n gens t)[t] := ⟨_, rfl⟩
      have Hy : Hid (RowIn n y) := Lib.hid (by rw [hy]; exact Hall.out t _ (List.getElem_mem hlt'))
      have Hpl : Hid (∀ j, (partB n gens t j y).length ≤ (cloB n gens T).length) := Lib.hid (fun j => by rw [hy]; exact part_len HT.out htT)
      have Hpg : Hid (∀ j, (partB n gens t j y)[t]? = some y) := Lib.hid (fun j => by rw [part_get hlt' j y, hy])
      have Hpa : Hid (partB n gens t gens.length y = cloB n gens (t + 1)) := Lib.hid (by rw [hy]; exact part_all hlt')
      have Hp0 : Hid (L = partB n gens t 0 y) := Lib.hid HL.out
      clear hy hlt'
      go_wp2_with fail
      obtain ⟨wo, rfl⟩ : ∃ wo : World, wo = wr := ⟨_, rfl⟩
      go_loopw [9, 29] (fun o i wr => ∃ (j : Nat) (L : List ByteArray) (A : Option Addr) (q cnt : Nat) (f : ByteArray → Bool), j ≤ gens.length ∧ i = .int .i64 j ∧ L = partB n gens t j y ∧ o = .slice A L.length q ∧ wr.ownsRow w2.heap.size 9 1 (.slice A L.length q) L.length (L.map Value.string) ∧ SM wr w.heap.size cnt f ∧ (∀ s, f s = true ↔ s ∈ L) ∧ cnt ≤ 200 ∧ cnt ≤ L.length ∧ L.length ≤ 130 ∧ Below w.heap.size w wr ∧ w2.heap.size ≤ wr.heap.size) (fun _ i _ => gens.length - (intOf i).toNat)
      case atStart => exact ⟨0, L, A, q, cnt, f, by omega, rfl, Hp0.out, rfl, hown, Hm.out, Hf.out, hc1, hc2, hl, hB, hsz⟩
      case round =>
        clear hown hlq hc2 hl hlt HL Hf Hm Hp0
        obtain ⟨j, L, A, q, cnt, f, hj, rfl, hL, rfl, hown, hm, hf, hc1, hc2, hl, hB, hsz⟩ := hrel
        have hlq := sl_cap hown
        have HL := Lib.hid hL
        clear hL
        by_cases hlt : j < gens.length
        · obtain ⟨ad, rfl, hC⟩ := strs_el hrd hlt
          have hC0 := hC _ hB
          have hgin := Hg.out _ (List.getElem_mem hlt)
          obtain ⟨A', c', e', hx1, hx2, hrdL⟩ := sl_of_own hown
          injection e' with ea _ ec
          subst ea ec
          have htL : t < L.length := by
            have h := Hpg.out j
            rw [← HL.out] at h
            exact (List.getElem?_eq_some_iff.1 h).1
          obtain ⟨ad2, rfl, hC2⟩ := strs_el hrdL htL
          have hC20 := hC2 _ (Below.refl _ _)
          have ey : L[t] = y := by
            have h := Hpg.out j
            rw [← HL.out] at h
            exact (List.getElem?_eq_some_iff.1 h).2
          rw [ey] at hC20
          obtain ⟨g, eg⟩ : ∃ g, g = gens[j] := ⟨_, rfl⟩
          have Hps : Hid (partB n gens t (j + 1) y = visitB L (timesB y g)) := Lib.hid (by rw [part_succ hlt, ← HL.out, eg])
          rw [← eg] at hC0 hgin
          have Hti := Lib.hid (times_in Hy.out hgin)
          have Htm := Lib.hid (fun W => times_any y g W (by rw [Hy.out.1]; omega) (by rw [hgin.1]; omega) (row_hin Hy.out.1 hgin))
          have hownH := Lib.hid hown
          have Hm := Lib.hid hm
          have Hf := Lib.hid hf
          clear hC hC2 ey eg hgin hrdL hx2 hown hm hf
          go_wp2_with fail
          refine (Htm.out _).mono ?_; rintro e w5 ⟨rfl, hb5⟩
          obtain ⟨x, hx⟩ : ∃ x, x = timesB y g := ⟨_, rfl⟩
          rw [← hx] at Hps Hti ⊢
          have hxs : x.size ≤ maxLen := by rw [Hti.out.1]; unfold maxLen; omega
          have hm5 := Hm.out.to hb5
          have hown5 := own_to hownH.out hb5
          have hB5 := bw_to hB hb5
          have hsz5 : w2.heap.size ≤ w5.heap.size := Nat.le_trans hsz hb5.size
          have hlk := hm5.look 121 Try.underlying121 x hxs
          have Hm5 := Lib.hid hm5
          have Hxs := Lib.hid hxs
          clear hx hm5 hxs
          cases hb : f x
          · have hnm : x ∉ L := fun h => by rw [(Hf.out x).2 h] at hb; cases hb
            have Hv : Hid (partB n gens t (j + 1) y = L ++ [x]) := Lib.hid (by rw [Hps.out]; unfold visitB; rw [if_neg hnm])
            rw [hb] at hlk
            by_cases h130 : L.length = 130
            · have HF : Hid (¬ (cloB n gens T).length ≤ 130) := Lib.hid (by
                have h := Hpl.out (j + 1)
                rw [Hv.out, List.length_append, h130] at h
                simp at h
                omega)
              have hd : ((L.length : Int) == 130) = true := by simp; omega
              have hdd := Lib.hid (decide_eq_false HF.out)
              have HE := Lib.hid (Hno.out HF.out)
              clear hown5
              go_wp2_with fail
              go_ret2
              refine ⟨none, 0, by rw [hdd.out, HE.out]; rfl, by rw [HE.out]; exact World.ownsRow_nil _ _ _ _, hB5⟩
            · have hd : ((L.length : Int) == 130) = false := by simp; omega
              go_wp2_with fail
              refine upon_insS Try.underlying121 Hm5.out (by omega) x Hxs.out ?_
              intro w6 hm6 hg6
              have hown6 := hown5.kept hg6 (own_neG hown5 (.inl hbl))
              have hB6 := gr_lowS hB5 hg6 (Nat.le_refl _)
              have hsz6 : w2.heap.size ≤ w6.heap.size := Nat.le_trans hsz5 hg6.size
              have Hm6 := Lib.hid hm6
              clear hown5 hm6 hg6
              go_wp2_with (at_builtin; go_must (refine wpList_app _ rfl _ _ _ rfl w2.heap.size 9 _ 1 16 Try.underlying22 info_str rfl (by omega) hown6 [.string x] rfl rfl rfl (one_mem rfl) (by omega) (by omega) hsz6 ?_); intro v7 w7 hown7 hb7 hg7 _)
              obtain ⟨A7, q7, e7, _⟩ := sl_of_own hown7
              subst e7
              have hm7 := Hm6.out.kept hg7 ((own_neG (G := w.heap.size) hown6 (.inl hbl)).elim (fun h => by rw [h]; simp) (fun h e => h e.symm))
              rw [str_snoc (rfl : L ++ [x] = L ++ [x])] at hown7
              have e8 : (L ++ [x]).length = L.length + 1 := by simp
              exact ⟨⟨j + 1, L ++ [x], A7, q7, _, _, by omega, by go_num, Hv.out.symm, by rw [e8], by rw [e8]; exact hown7, hm7, updF_app Hf.out, by omega, by rw [e8]; omega, by rw [e8]; omega, hB6.trans (hb7.mono (by omega)), by have := hg7.size; omega⟩, by simp [intOf]; omega⟩
          · have hmem := (Hf.out x).1 hb
            have Hv : Hid (partB n gens t (j + 1) y = L) := Lib.hid (by rw [Hps.out]; unfold visitB; rw [if_pos hmem])
            rw [hb] at hlk
            clear hmem
            go_wp2_with fail
            exact ⟨⟨j + 1, L, _, q, cnt, f, by omega, by go_num, Hv.out.symm, rfl, hown5, Hm5.out, Hf.out, by omega, by omega, by omega, hB5, hsz5⟩, by simp [intOf]; omega⟩
        · obtain rfl : j = gens.length := by omega
          have Hm := Lib.hid hm
          have Hf := Lib.hid hf
          clear hm hf
          go_wp2_with fail
          exact ⟨⟨t + 1, L, A, q, cnt, f, by omega, by go_num, by rw [HL.out, Hpa.out], rfl, hown, Hm.out, Hf.out, by omega, by omega, by omega, hB, hsz⟩, by simp [intOf]; omega⟩
    · have htT : t = T := by
        rcases Nat.lt_or_ge t T with h | h
        · have := HT.out.2 t h; rw [← HL.out] at this; omega
        · omega
      subst htT
      have hF : (cloB n gens t).length ≤ 130 := by rw [← HL.out]; exact hl
      have hdd := Lib.hid (decide_eq_true hF)
      have HE := Lib.hid (Hyes.out hF)
      obtain ⟨g, hA, hgl2⟩ := own_ptr hown (by
        have := clo_len_mono (n := n) (gens := gens) (Nat.zero_le t)
        rw [← HL.out] at this
        exact this)
      subst hA
      have Hso := Lib.hid (sortS_any g L.length q w2.heap.size L wr hown (by omega))
      clear hown hF
      go_wp2_with fail
      refine Hso.out.mono ?_; rintro e w8 ⟨rfl, hown8, hb8, hs8⟩
      have Hown8 := Lib.hid hown8
      clear hown8
      go_wp2_with fail
      go_ret2
      have e9 : (grpL (cloB n gens t)).length = L.length := by rw [HE.out, sortB_len, ← HL.out]
      refine ⟨_, q, by rw [hdd.out, e9]; rfl, ?_, hB.trans (hb8.mono (by omega))⟩
      rw [e9, HE.out, ← HL.out]
      exact own_base Hown8.out (by omega)
end Go.Proofs.Ythgadnhkbmimiaa
