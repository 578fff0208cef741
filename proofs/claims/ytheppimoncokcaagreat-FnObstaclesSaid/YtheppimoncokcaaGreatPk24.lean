/- slices.Compact at a row of texts of the call's own; impl.blocks.withSet, spec.l17C.add. -/
import Derived.Test.YtheppimoncokcaaGreatPk11
import Derived.Test.YtheppimoncokcaaGreatPk23
import Derived.Test.YtheppimoncokcaaGreatPk10
namespace Go.Proofs.YtheppimoncokcaaGreat
open Go Go.RowKit Go.Sort
set_option linter.unusedVariables false
set_option linter.unusedSimpArgs false

theorem compB_len (l : List ByteArray) : (compB l).length = (Lib.compact (l.map (·.data.toList))).length := by unfold compB; rw [List.length_map]
theorem compB_enc (l : List ByteArray) : (Lib.compact (l.map (·.data.toList))).map encStr = (compB l).map Value.string := by
  unfold compB
  rw [List.map_map]
  rfl
theorem compB_le (l : List ByteArray) : (compB l).length ≤ l.length := (compB_sub l).length_le
theorem compactS_any (g n c base : Nat) (l : List ByteArray) (w : World) (h : w.ownsRow base 9 1 (.slice (some ⟨g, 0, none⟩) n c) n (l.map Value.string)) (hl : n ≤ 100000000) : Calls Tryz.prog 106 #[.slice (some ⟨g, 0, none⟩) n c] w fun e w' =>
    e = .returned (.slice (some ⟨g, 0, none⟩) (compB l).length c) ∧ w'.ownsRow base 9 1 (.slice (some ⟨g, 0, none⟩) (compB l).length c) (compB l).length ((compB l).map Value.string) ∧ Below base w w' ∧ w.heap.size ≤ w'.heap.size := by
  have hlen : l.length = n := by have := h.1; simpa using this
  subst hlen
  obtain ⟨ss, hss⟩ : ∃ ss, ss = l.map (·.data.toList) := ⟨_, rfl⟩
  have hsl : ss.length = l.length := by rw [hss, List.length_map]
  have e1 : l.map Value.string = ss.map encStr := by
    rw [hss, List.map_map]
    apply List.map_congr_left
    intro x _
    rfl
  have e2 : (Lib.compact ss).map encStr = (compB l).map Value.string := by rw [hss]; exact compB_enc l
  have e3 : (Lib.compact ss).length = (compB l).length := by rw [hss]; exact (compB_len l).symm
  have e4 : (Lib.compact ss).length ≤ ss.length := by rw [e3, hsl]; exact compB_le l
  rw [e1] at h
  rcases h.2 with ⟨hnil, _⟩ | ⟨g', cap, cur, hv, hbase, hb, h1, h2, h3, h4⟩
  · cases hnil
  · injection hv with ha hn hc
    injection ha with ha
    injection ha with ha
    subst ha hc
    rw [← hsl] at h1 h4 hl ⊢
    have hs := Tryz.slices_Compact_string g 0 c ss w (holds_of_block hb (by simpa using h4)) (by omega) h1
    refine hs.mono ?_
    rintro e w' ⟨rfl, q, rfl⟩
    obtain ⟨ts, hts⟩ : ∃ ts, ts = Lib.compact ss ++ List.replicate (ss.length - (Lib.compact ss).length) [] := ⟨_, rfl⟩
    have htl : ts.length = ss.length := by rw [hts, List.length_append, List.length_replicate]; omega
    have hg := grownBy_sorted (w := w) (g := g) (n := q) (os := #[]) ts.toArray
    have ho := ownsRow_sorted (n := q) (os := #[]) (ts := ts) htl hbase hb h1 h2 h3
    rw [grow_empty] at hg ho
    rw [← hts]
    have hgl := (Array.getElem?_eq_some_iff.1 hb).1
    have hu := own_upto ho e4
    have e5 : (ts.map encStr).take (Lib.compact ss).length = (Lib.compact ss).map encStr := by
      rw [hts, List.map_append, List.take_left' (by rw [List.length_map])]
    rw [e5, e2, e3] at hu
    exact ⟨by rw [e3], hu, (Below.refl _ _).grown hg (by omega) (fun k hk => by cases hk; exact hbase), hg.size⟩
theorem sortB_pos {l : List ByteArray} (h : 1 ≤ l.length) : 1 ≤ (sortB l).length := by rw [sortB_len]; exact h
set_option maxRecDepth 100000 in
set_option maxHeartbeats 4000000 in
theorem withSet_any (n K : Nat) (P B Q h : ByteArray) (gv Vb : Value) (bobs : List ByteArray) (w : World) (hn : n ≤ 8) (hQ : RowIn n Q) (hh : RowIn n h) (hK : IsOrd n Q K) (hKb : K ≤ 16777216) (hf : ∃ A l c, gv = .slice A l c) (hV : Strs w Vb bobs) (hN : NilOk Vb) (hs : SortedS bobs) (hd : bobs.Nodup) (hbl : bobs.length ≤ 1000000) :
    Calls Tryz.prog 73 #[.agg #[.string P, .string B, gv, .string Q], Vb, .string h] w fun e w' =>
    ∃ A q, e = .returned (.slice A (addS bobs (sortB (setB n Q h K))).length q) ∧ w'.ownsRow w.heap.size 9 1 (.slice A (addS bobs (sortB (setB n Q h K))).length q) (addS bobs (sortB (setB n Q h K))).length ((addS bobs (sortB (setB n Q h K))).map Value.string) ∧ Below w.heap.size w w' := by
  have hK1 := hK.1
  have Hset := Lib.hid (fun W => setOfI_any n K P B Q h gv W hn hQ hh hK hKb hf)
  obtain ⟨S, hS⟩ : ∃ S, S = sortB (setB n Q h K) := ⟨_, rfl⟩
  have hSl : S.length = K := by rw [hS, sortB_len, setB_len]
  have hcs : compB (sortB (bobs ++ S)) = addS bobs S := addS_comp hs hd
  rw [← hS] at Hset ⊢
  rw [← hcs]
  obtain ⟨T, hT⟩ : ∃ T, T = sortB (bobs ++ S) := ⟨_, rfl⟩
  have hTl : T.length = bobs.length + K := by rw [hT, sortB_len, List.length_append, hSl]
  have Hso := Lib.hid (fun V W (hV : Strs W V (bobs ++ S)) (hN : NilOk V) => sorted_any V (bobs ++ S) W hV hN (by rw [List.length_append]; omega) (by rw [List.length_append]; omega))
  rw [← hT, List.length_append, hSl] at Hso
  rw [← hT]
  have Hco := Lib.hid (fun g c base W hown => compactS_any g (bobs.length + K) c base T W hown (by omega))
  have HV := Lib.hid hV
  have HN := Lib.hid hN
  have HSl := Lib.hid hSl
  have Hcc := Lib.hid (fun g v W h1 h2 (hu : Strs W Vb bobs) hv hnv => concatStr2_any g Vb v bobs S W h1 h2 hu hv hN hnv (by omega) (by omega))
  rw [hSl] at Hcc
  obtain ⟨A, l, c, rfl⟩ := hf
  obtain ⟨Ab, cb, rfl⟩ : ∃ A c, Vb = .slice A bobs.length c := by obtain ⟨A, c, e, _⟩ := hV; exact ⟨A, c, e⟩
  clear hK hQ hh hV hN hcs hS hT hs hd
  go_enter Tryz.func73, Tryz.ntmps73
  go_wp2_with fail
  refine box1 (C := fun W => Calls _ _ _ W _) ?_
  intro wb hw k1 hB0
  have R1 := boxRule k1
  clear k1
  refine (Hset.out _).mono ?_; rintro e w1 ⟨A1, q1, rfl, hown1, hb1⟩
  have hB1 := bw_to hw hb1
  have S1 := Lib.hid (strs_own_n HSl.out hown1)
  have N1 := Lib.hid (nilOk_own hown1 hK1)
  clear hown1
  go_wp2_with fail
  refine box1 (C := fun W => Calls _ _ _ W _) ?_
  intro w2 hw2 k2 hB02
  have R2 := boxRule k2
  have hB2 := bw_to hB1 hw2
  clear k2
  refine (Hcc.out _ _ _ (fun W hW => R2 W 0 hW) (fun W hW => R2 W 1 hW) (HV.out.to hB2) (S1.out.to hw2) N1.out).mono ?_; rintro e w3 ⟨v3, rfl, hown3, hb3⟩
  have S3 := Lib.hid (strs_own_v (by rw [List.length_append, HSl.out]) hown3)
  have N3 := Lib.hid (nilok_own hown3)
  have hB3 := bw_to hB2 hb3
  clear hown3
  go_wp2_with fail
  refine (Hso.out _ _ S3.out N3.out).mono ?_; rintro e w4 ⟨A4, q4, rfl, hown4, hb4⟩
  have hB4 := bw_to hB3 hb4
  obtain ⟨g, rfl, hg⟩ := own_ptr hown4 (by omega)
  have Hown := Lib.hid hown4
  have hz3 := hB3.size
  clear hown4
  go_wp2_with fail
  refine (Hco.out _ _ _ _ Hown.out).mono ?_; rintro e w5 ⟨rfl, hown5, hb5, hz5⟩
  go_wp2_with fail
  go_ret
  exact ⟨_, _, rfl, own_base hown5 hz3, hB4.trans (hb5.mono hz3)⟩
theorem addS_len : ∀ (S bobs : List ByteArray), (addS bobs S).length ≤ bobs.length + S.length
  | [], bobs => by simp [addS]
  | y :: S, bobs => by
    show (addS (putS bobs y) S).length ≤ _
    have h1 := addS_len S (putS bobs y)
    have h2 := putS_len (l := bobs) (r := y)
    rw [List.length_cons]; omega
theorem addS_take {S : List ByteArray} {k : Nat} (hk : k < S.length) (bobs : List ByteArray) : addS bobs (S.take (k + 1)) = putS (addS bobs (S.take k)) S[k] := by
  unfold addS
  rw [List.take_succ_eq_append_getElem hk, List.foldl_append]
  rfl
theorem addS_sorted : ∀ (S : List ByteArray) {bobs : List ByteArray}, SortedS bobs → SortedS (addS bobs S)
  | [], bobs, h => h
  | y :: S, bobs, h => addS_sorted S (putS_sorted bobs y)
set_option maxRecDepth 100000 in
set_option maxHeartbeats 4000000 in
theorem addSetS_any (n K : Nat) (P B Q h : ByteArray) (gv Vb : Value) (bobs : List ByteArray) (w : World) (hn : n ≤ 8) (hQ : Inv n Q) (hh : Inv n h) (hK : IsOrd n Q K) (hKb : K ≤ 16777216) (hf : ∃ A l c, gv = .slice A l c) (hV : Strs w Vb bobs) (hN : NilOk Vb) (hs : SortedS bobs) (hbl : bobs.length ≤ 1000000) :
    Calls Tryz.prog 74 #[.agg #[.string P, .string B, .string Q, gv], Vb, .string h] w fun e w' =>
    ∃ A q, e = .returned (.slice A (addS bobs (sortB (setB n Q h K))).length q) ∧ w'.ownsRow w.heap.size 9 1 (.slice A (addS bobs (sortB (setB n Q h K))).length q) (addS bobs (sortB (setB n Q h K))).length ((addS bobs (sortB (setB n Q h K))).map Value.string) ∧ Below w.heap.size w w' := by
  have hK1 := hK.1
  have Hset := Lib.hid (fun W => setS_any n K P B Q h gv W hn hQ hh hK hKb hf)
  obtain ⟨S, hS⟩ : ∃ S, S = sortB (setB n Q h K) := ⟨_, rfl⟩
  have hSl : S.length = K := by rw [hS, sortB_len, setB_len]
  rw [← hS] at Hset ⊢
  have Hown := Lib.hid (fun W hW => l1OwnS_any Vb bobs W (hV.to hW) hN (by omega))
  have Hsr : Hid (∀ k, SortedS (addS bobs (S.take k))) := Lib.hid (fun k => addS_sorted _ hs)
  have Hln : Hid (∀ k, (addS bobs (S.take k)).length ≤ bobs.length + K) := Lib.hid (fun k => by have := addS_len (S.take k) bobs; rw [List.length_take] at this; omega)
  have HSl := Lib.hid hSl
  have H0 : Hid (addS bobs (S.take 0) = bobs) := Lib.hid (by simp [addS])
  have HE : Hid (addS bobs (S.take K) = addS bobs S) := Lib.hid (by rw [← hSl, List.take_length])
  obtain ⟨A, l, c, rfl⟩ := hf
  have HVf : ∃ A c, Vb = .slice A bobs.length c := by obtain ⟨A, c, e, _⟩ := hV; exact ⟨A, c, e⟩
  obtain ⟨Ab, cb, rfl⟩ := HVf
  clear hK hQ hh hV hN hS hs
  go_enter Tryz.func74, Tryz.ntmps74
  go_wp2_with fail
  refine box1 (C := fun W => Calls _ _ _ W _) ?_
  intro wb hw k1 hB0
  have R1 := boxRule k1
  clear k1
  refine (Hown.out _ hw).mono ?_; rintro e w1 ⟨v1, rfl, hown1, hb1⟩
  obtain ⟨A1, q1, rfl, _⟩ := sl_of_own hown1
  have hB1 := bw_to hB0 hb1
  have R2 := fun i => R1 w1 i hB1
  have Ho1 := Lib.hid hown1
  clear hown1
  go_wp2_with fail
  refine (Hset.out _).mono ?_; rintro e w2 ⟨A2, q2, rfl, hown2, hb2⟩
  have hB2 := bw_to hB1 hb2
  have S2 := Lib.hid (strs_own_n HSl.out hown2)
  have Ho2 := Lib.hid (own_base (own_to Ho1.out hb2) hw.size)
  have hc2 := sl_cap hown2
  clear hown2 R2
  go_wp2_with fail
  obtain ⟨wo, rfl⟩ : ∃ wo : World, wo = w2 := ⟨_, rfl⟩
  go_loopw [7, 16] (fun o i wr => ∃ (k : Nat) (A : Option Addr) (q : Nat), k ≤ K ∧ i = .int .i64 k ∧ o = .slice A (addS bobs (S.take k)).length q ∧ wr.ownsRow w.heap.size 9 1 (.slice A (addS bobs (S.take k)).length q) (addS bobs (S.take k)).length ((addS bobs (S.take k)).map Value.string) ∧ Below wb.heap.size wb wr ∧ Below wo.heap.size wo wr) (fun _ i _ => K - (intOf i).toNat)
  case atStart => exact ⟨0, A1, q1, by omega, rfl, by rw [H0.out], by rw [H0.out]; exact Ho2.out, hB2, Below.refl _ _⟩
  case round =>
    obtain ⟨k, Ak, qk, hk, rfl, rfl, hown, hB, hBo⟩ := hrel
    by_cases hlt : k < K
    · have hkS : k < S.length := by rw [HSl.out]; exact hlt
      have hS2 := S2.out
      obtain ⟨A6, q6, e6, _, _, hrdS⟩ := hS2
      injection e6 with ea eb ec
      subst ea ec
      obtain ⟨ad, rfl, hC⟩ := strs_el hrdS hkS
      have hC0 := hC _ hBo
      have Hst := Lib.hid (addS_take hkS bobs)
      have hSk := Lib.hid (strs_of_own hown)
      have hNk := Lib.hid (nilok_own hown)
      have hl1 := Hln.out k
      have hl2 := Hln.out (k + 1)
      have Hso := Lib.hid (Hsr.out k)
      obtain ⟨x, hx⟩ : ∃ x, x = S[k] := ⟨_, rfl⟩
      rw [← hx] at hC0 Hst
      obtain ⟨U, hU⟩ : ∃ U, U = addS bobs (S.take k) := ⟨_, rfl⟩
      rw [← hU] at hown hSk hNk Hst hl1 Hso ⊢
      have Hput := Lib.hid (fun W hW => l17Put_all (.slice Ak U.length qk) U x W hW hNk.out Hso.out (by omega))
      rw [← Hst.out] at Hput
      have HUe : Hid (x ∈ U → putS U x = U) := Lib.hid (fun h => putS_in Hso.out h)
      have HU2 := Lib.hid Hst.out
      clear hC hx hU eb hrdS
      go_wp2_with fail
      refine (Hput.out _ hSk.out).mono ?_; rintro e w3 ⟨A3, q3, rfl, hor, hb3⟩
      have hB3 := bw_to hB hb3
      have hBo3 := bw_to hBo hb3
      have ho3 : w3.ownsRow w.heap.size 9 1 (.slice A3 (addS bobs (S.take (k + 1))).length q3) (addS bobs (S.take (k + 1))).length ((addS bobs (S.take (k + 1))).map Value.string) := by
        rcases hor with h | ⟨hm, he⟩
        · exact own_base h (Nat.le_trans hw.size hB.size)
        · have e9 : addS bobs (S.take (k + 1)) = U := by rw [HU2.out]; exact HUe.out hm
          rw [e9] at he ⊢
          rw [← he]
          exact own_to hown hb3
      have Ho3 := Lib.hid ho3
      clear hor hown ho3
      go_wp2_with fail
      exact ⟨⟨k + 1, A3, q3, by omega, by go_num, rfl, Ho3.out, hB3, hBo3⟩, by simp [intOf]; omega⟩
    · obtain rfl : k = K := by omega
      have Ho := Lib.hid hown
      clear hown
      rw [HE.out] at Ho ⊢
      go_wp2_with fail
      go_ret
      exact ⟨_, _, rfl, Ho.out, bw_to hw hB⟩
end Go.Proofs.YtheppimoncokcaaGreat
