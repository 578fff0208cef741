/- Contract: the canonical form of a method (the program's). -/
import Derived.Test.YtnbehldacehiiaaT9
namespace Go.Proofs.Ytnbehldacehiiaa
open Go Go.RowKit
set_option linter.unusedVariables false
set_option linter.unusedSimpArgs false

def foldR (xs b : List ByteArray) (k : Nat) : List ByteArray := ((List.range k).map (rot xs)).foldl minS b
theorem foldR_succ (xs b : List ByteArray) (k : Nat) : foldR xs b (k + 1) = minS (foldR xs b k) (rot xs k) := by
  unfold foldR
  rw [List.range_succ, List.map_append, List.foldl_append]
  rfl
theorem foldR_len (xs b : List ByteArray) (h : xs.length = b.length) : ∀ k, (foldR xs b k).length = b.length
  | 0 => rfl
  | k + 1 => by
    rw [foldR_succ, min_len, foldR_len xs b h k]
    rw [rot_len, foldR_len xs b h k, h]
theorem norm_same (l : List ByteArray) : foldR l.reverse (foldR l l l.length) l.length = foldN l l.length := by
  have h : foldR l.reverse (foldR l l l.length) l.length = ((List.range l.length).map (rot l) ++ (List.range l.length).map (rot l.reverse)).foldl minS l := by
    rw [List.foldl_append]; rfl
  rw [h]
  unfold foldN
  refine min_same ?_ ?_ rfl ?_
  · intro c hc
    rcases List.mem_append.1 hc with hc | hc
    · obtain ⟨i, _, rfl⟩ := List.mem_map.1 hc; exact rot_len _ _
    · obtain ⟨i, _, rfl⟩ := List.mem_map.1 hc; rw [rot_len, List.length_reverse]
  · intro c hc
    obtain ⟨i, _, hc⟩ := List.mem_flatMap.1 hc
    simp only [List.mem_cons, List.not_mem_nil, or_false] at hc
    rcases hc with rfl | rfl
    · exact rot_len _ _
    · rw [rot_len, List.length_reverse]
  · intro x
    simp only [List.mem_cons, List.mem_append, List.mem_map, List.mem_flatMap, List.mem_range, List.not_mem_nil, or_false]
    constructor
    · rintro (h | ⟨i, h1, h2⟩ | ⟨i, h1, h2⟩)
      · exact .inl h
      · exact .inr ⟨i, h1, .inl h2.symm⟩
      · exact .inr ⟨i, h1, .inr h2.symm⟩
    · rintro (h | ⟨i, h1, h2 | h2⟩)
      · exact .inl h
      · exact .inr (.inl ⟨i, h1, h2.symm⟩)
      · exact .inr (.inr ⟨i, h1, h2.symm⟩)
theorem rotated_gen (v : Value) (k n : Nat) (ss : List ByteArray) (w : World) (h : Strs w v ss) (hn : ss.length = n) (hk : k < n) (hmax : n ≤ 1000000) : Calls Try.prog 73 #[v, .int .i64 k] w fun e w' =>
    ∃ r : Value, e = .returned r ∧ w'.ownsRow w.heap.size 9 1 r n ((rot ss k).map Value.string) ∧ Below w.heap.size w w' := by
  subst hn
  have h' := h
  obtain ⟨A, c, rfl, h1, h2, hr⟩ := h
  obtain ⟨ad, rfl, _⟩ := hr.2 (by omega)
  exact rotated_any ad c k ss w h' hk hmax
set_option maxRecDepth 100000 in
set_option maxHeartbeats 4000000 in
theorem normal_any (m : Mt) (v : Value) (w : World) (h : Strs w v m.l) (hn : NilOk v) (hlen : 1 ≤ m.l.length ∧ m.l.length ≤ 40) : Calls Try.prog 57 #[m.v v] w fun e w' =>
    ∃ r : Value, e = .returned r ∧ w'.ownsRow w.heap.size 9 1 r m.l.length ((foldN m.l m.l.length).map Value.string) ∧ Below w.heap.size w w' := by
  unfold Mt.v
  have h0 := h
  obtain ⟨A, c, rfl, h1, h2, hr⟩ := h
  unfold maxLen at h2
  have Hs := Lib.hid h0
  clear hr h0
  go_enter Try.func57, Try.ntmps57
  go_wp2_with fail
  refine box1 (C := fun W => Calls _ _ _ W _) ?_
  intro wb hw k1 hB0
  have R1 := boxRule k1
  clear k1
  refine (cloneStr_any _ m.l wb (Hs.out.to hw) hn (by omega)).mono ?_; rintro e w1 ⟨r, rfl, hown, hb1⟩
  have hst := Below.refl w1.heap.size w1
  have R1' := fun w' i (hb : Below w1.heap.size w1 w') => R1 w' i (bw_to hb1 hb)
  have Hn := Lib.hid hn
  have Hs1 := Lib.hid (Hs.out.to (bw_to hw hb1))
  have Hb1 := Lib.hid hb1
  have Hown := Lib.hid hown
  clear R1 hb1 hown hn
  go_wp2_with fail
  go_region_held3 (fun w' => Below w1.heap.size w1 w') (first | exact Below.drew (by assumption) | exact bw_to (by assumption) hb' | exact bw_al (by assumption) _)
    (first | (go_at_call 74; refine (reversed_any _ m.l _ (Hs1.out.to (by assumption)) Hn.out (by omega)).mono ?_; rintro e wa ⟨ra, rfl, howna, hb'⟩; (obtain ⟨Aa, ca, hra, _⟩ := sl_of_own howna); subst hra))
  obtain ⟨wi, hwi⟩ : ∃ wi, wi = wa.alloc (.cells #[.slice A m.l.length c, .slice Aa m.l.length ca] 32) := ⟨_, rfl⟩
  have hri : Below w1.heap.size w1 wi := by rw [hwi]; assumption
  have hai : Below wa.heap.size wa wi := by rw [hwi]; exact bw_al (Below.refl _ _) _
  have hH : wi.heap[wa.heap.size]? = some (.cells #[.slice A m.l.length c, .slice Aa m.l.length ca] 32 (0, 0)) := by rw [hwi]; exact heap_new wa _
  have RH := boxRule hH
  have HaI := Lib.hid (strs_own' (own_to howna hai))
  have HbI := Lib.hid (own_to Hown.out hri)
  have HsI := Lib.hid (Hs1.out.to hri)
  have hwwi : Below w.heap.size w wi := bw_to (bw_to hw Hb1.out) hri
  have hwb := hw.size
  rw [← hwi]
  clear howna hb' hai hH hwi R1' hst hri
  have HBi := Lib.hid (Below.refl wi.heap.size wi)
  go_wp2_with fail
  go_loopw [3, 18] (fun z i wr => ∃ (q : Nat) (b : List ByteArray), q ≤ 2 ∧ i = .int .i64 q ∧ Below wi.heap.size wi wr ∧ b.length = m.l.length ∧ wr.ownsRow w.heap.size 9 1 z m.l.length (b.map Value.string) ∧ (q = 0 ∧ b = m.l ∨ q = 1 ∧ b = foldR m.l m.l m.l.length ∨ q = 2 ∧ b = foldR m.l.reverse (foldR m.l m.l m.l.length) m.l.length)) (fun _ i _ => 2 - (intOf i).toNat)
  case atStart => exact ⟨0, _, by omega, rfl, HBi.out, rfl, own_base HbI.out hwb, .inl ⟨rfl, rfl⟩⟩
  case round =>
    obtain ⟨q, b, hq, rfl, hB, hbl, hown, hqb⟩ := hrel
    rcases hqb with ⟨rfl, hb⟩ | ⟨rfl, hb⟩ | ⟨rfl, hb⟩
    · have hc := RH wr 0 hB
      simp at hc
      have Hbe := Lib.hid hb
      have Hown := Lib.hid hown
      have Hbl := Lib.hid hbl
      have HB := Lib.hid hB
      obtain ⟨xs, hxe⟩ : ∃ xs, xs = m.l := ⟨_, rfl⟩
      have Hxe := Lib.hid hxe
      have Hxs : Hid (Strs wr (.slice A m.l.length c) xs) := Lib.hid (by rw [hxe]; exact HsI.out.to hB)
      have hxl : xs.length = m.l.length := by rw [hxe]
      have Hxl := Lib.hid hxl
      have HRH := Lib.hid RH
      clear hb hbl hown hB hxl RH hxe
      go_wp2_with fail
      obtain ⟨wq, rfl⟩ : ∃ wq : World, wq = wr := ⟨_, rfl⟩
      go_loopw [3, 24] (fun z i wr => ∃ k : Nat, k ≤ m.l.length ∧ i = .int .i64 k ∧ Below wq.heap.size wq wr ∧ wr.ownsRow w.heap.size 9 1 z m.l.length ((foldR xs b k).map Value.string)) (fun _ i _ => m.l.length - (intOf i).toNat)
      case atStart => exact ⟨0, by omega, rfl, Below.refl _ _, Hown.out⟩
      case round =>
        obtain ⟨k, hk, rfl, hBq, hownq⟩ := hrel
        by_cases hlt : k < m.l.length
        · have Hownq := Lib.hid hownq
          have HBq := Lib.hid hBq
          have Hwq : Hid (w.heap.size ≤ wr.heap.size) := Lib.hid (by have := hwwi.size; have := HB.out.size; have := hBq.size; omega)
          clear hownq hBq
          go_wp2_with fail
          refine (rotated_gen _ k m.l.length _ _ (Hxs.out.to HBq.out) Hxl.out hlt (by omega)).mono ?_; rintro e w2 ⟨r2, rfl, hown2, hb2⟩
          have hcmp := slicesCompareStr_any r2 u3 _ _ w2 (strs_own' hown2) (strs_own' (own_to Hownq.out hb2)) (by rw [rot_len, Hxl.out, foldR_len _ _ (by rw [Hxl.out, Hbl.out]), Hbl.out])
          have hlc := less_cmp (xs := rot xs k) (ys := foldR xs b k) (by rw [rot_len, Hxl.out, foldR_len _ _ (by rw [Hxl.out, Hbl.out]), Hbl.out])
          obtain ⟨z0, hz0⟩ : ∃ z0, z0 = cmpSS (rot xs k) (foldR xs b k) := ⟨_, rfl⟩
          rw [← hz0] at hcmp hlc
          have Hcmp := Lib.hid hcmp
          have Hown2 := Lib.hid hown2
          have Hb2 := Lib.hid hb2
          have hsucc := foldR_succ xs b k
          by_cases hneg : z0 < 0
          · rw [decide_eq_true hneg] at hlc
            rw [minS_of hlc] at hsucc
            have Hsucc := Lib.hid hsucc
            clear hcmp hown2 hb2 hlc hsucc hz0
            go_wp2_with fail
            refine Hcmp.out.mono ?_; rintro e w3 ⟨rfl, rfl⟩
            go_wp2_with fail
            refine ⟨⟨_, _, _, _, _, _, _, _, _, _, _, _, _, _, _, ⟨k + 1, by omega, ?_, HBq.out.trans (Hb2.out.mono HBq.out.size), by rw [Hsucc.out]; exact own_base Hown2.out Hwq.out⟩, rfl⟩, ?_⟩
            · go_num
            · simp [intOf]; omega
          · rw [decide_eq_false hneg] at hlc
            rw [minS_not hlc] at hsucc
            have Hsucc := Lib.hid hsucc
            clear hcmp hown2 hb2 hlc hsucc hz0
            go_wp2_with fail
            refine Hcmp.out.mono ?_; rintro e w3 ⟨rfl, rfl⟩
            go_wp2_with fail
            refine ⟨⟨_, _, _, _, _, _, _, _, _, _, _, _, _, _, _, ⟨k + 1, by omega, ?_, HBq.out.trans (Hb2.out.mono HBq.out.size), by rw [Hsucc.out]; exact own_to Hownq.out Hb2.out⟩, rfl⟩, ?_⟩
            · go_num
            · simp [intOf]; omega
        · obtain rfl : k = m.l.length := by omega
          have Hownq := Lib.hid hownq
          have HBq := Lib.hid hBq
          clear hownq hBq
          go_wp2_with fail
          exact ⟨⟨1, _, by omega, by go_num, bw_to HB.out HBq.out, by rw [foldR_len _ _ (by rw [Hxl.out, Hbl.out]), Hbl.out], Hownq.out, .inr (.inl ⟨rfl, by rw [Hxe.out, Hbe.out]⟩)⟩, by simp [intOf]⟩
    · have hc := RH wr 1 hB
      simp at hc
      have Hbe := Lib.hid hb
      have Hown := Lib.hid hown
      have Hbl := Lib.hid hbl
      have HB := Lib.hid hB
      obtain ⟨xs, hxe⟩ : ∃ xs, xs = m.l.reverse := ⟨_, rfl⟩
      have Hxe := Lib.hid hxe
      have Hxs : Hid (Strs wr (.slice Aa m.l.length ca) xs) := Lib.hid (by rw [hxe]; exact HaI.out.to hB)
      have hxl : xs.length = m.l.length := by rw [hxe]; simp
      have Hxl := Lib.hid hxl
      have HRH := Lib.hid RH
      clear hb hbl hown hB hxl RH hxe
      go_wp2_with fail
      obtain ⟨wq, rfl⟩ : ∃ wq : World, wq = wr := ⟨_, rfl⟩
      go_loopw [3, 24] (fun z i wr => ∃ k : Nat, k ≤ m.l.length ∧ i = .int .i64 k ∧ Below wq.heap.size wq wr ∧ wr.ownsRow w.heap.size 9 1 z m.l.length ((foldR xs b k).map Value.string)) (fun _ i _ => m.l.length - (intOf i).toNat)
      case atStart => exact ⟨0, by omega, rfl, Below.refl _ _, Hown.out⟩
      case round =>
        obtain ⟨k, hk, rfl, hBq, hownq⟩ := hrel
        by_cases hlt : k < m.l.length
        · have Hownq := Lib.hid hownq
          have HBq := Lib.hid hBq
          have Hwq : Hid (w.heap.size ≤ wr.heap.size) := Lib.hid (by have := hwwi.size; have := HB.out.size; have := hBq.size; omega)
          clear hownq hBq
          go_wp2_with fail
          refine (rotated_gen _ k m.l.length _ _ (Hxs.out.to HBq.out) Hxl.out hlt (by omega)).mono ?_; rintro e w2 ⟨r2, rfl, hown2, hb2⟩
          have hcmp := slicesCompareStr_any r2 u3 _ _ w2 (strs_own' hown2) (strs_own' (own_to Hownq.out hb2)) (by rw [rot_len, Hxl.out, foldR_len _ _ (by rw [Hxl.out, Hbl.out]), Hbl.out])
          have hlc := less_cmp (xs := rot xs k) (ys := foldR xs b k) (by rw [rot_len, Hxl.out, foldR_len _ _ (by rw [Hxl.out, Hbl.out]), Hbl.out])
          obtain ⟨z0, hz0⟩ : ∃ z0, z0 = cmpSS (rot xs k) (foldR xs b k) := ⟨_, rfl⟩
          rw [← hz0] at hcmp hlc
          have Hcmp := Lib.hid hcmp
          have Hown2 := Lib.hid hown2
          have Hb2 := Lib.hid hb2
          have hsucc := foldR_succ xs b k
          by_cases hneg : z0 < 0
          · rw [decide_eq_true hneg] at hlc
            rw [minS_of hlc] at hsucc
            have Hsucc := Lib.hid hsucc
            clear hcmp hown2 hb2 hlc hsucc hz0
            go_wp2_with fail
            refine Hcmp.out.mono ?_; rintro e w3 ⟨rfl, rfl⟩
            go_wp2_with fail
            refine ⟨⟨_, _, _, _, _, _, _, _, _, _, _, _, _, _, _, ⟨k + 1, by omega, ?_, HBq.out.trans (Hb2.out.mono HBq.out.size), by rw [Hsucc.out]; exact own_base Hown2.out Hwq.out⟩, rfl⟩, ?_⟩
            · go_num
            · simp [intOf]; omega
          · rw [decide_eq_false hneg] at hlc
            rw [minS_not hlc] at hsucc
            have Hsucc := Lib.hid hsucc
            clear hcmp hown2 hb2 hlc hsucc hz0
            go_wp2_with fail
            refine Hcmp.out.mono ?_; rintro e w3 ⟨rfl, rfl⟩
            go_wp2_with fail
            refine ⟨⟨_, _, _, _, _, _, _, _, _, _, _, _, _, _, _, ⟨k + 1, by omega, ?_, HBq.out.trans (Hb2.out.mono HBq.out.size), by rw [Hsucc.out]; exact own_to Hownq.out Hb2.out⟩, rfl⟩, ?_⟩
            · go_num
            · simp [intOf]; omega
        · obtain rfl : k = m.l.length := by omega
          have Hownq := Lib.hid hownq
          have HBq := Lib.hid hBq
          clear hownq hBq
          go_wp2_with fail
          exact ⟨⟨2, _, by omega, by go_num, bw_to HB.out HBq.out, by rw [foldR_len _ _ (by rw [Hxl.out, Hbl.out]), Hbl.out], Hownq.out, .inr (.inr ⟨rfl, by rw [Hxe.out, Hbe.out]⟩)⟩, by simp [intOf]⟩
    · have Hn : Hid (b = foldN m.l m.l.length) := Lib.hid (hb.trans (norm_same m.l))
      clear hb
      go_wp2_with fail
      go_ret
      exact ⟨_, rfl, by rw [← Hn.out]; exact hown, bw_to hwwi hB⟩
end Go.Proofs.Ytnbehldacehiiaa
