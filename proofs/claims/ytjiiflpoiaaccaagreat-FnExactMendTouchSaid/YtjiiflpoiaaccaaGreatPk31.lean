/- Contract: a repair's touch, the program's: the walk. -/
import Derived.Test.YtjiiflpoiaaccaaGreatPk30
namespace Go.Proofs.YtjiiflpoiaaccaaGreat
open Go Go.RowKit
set_option linter.unusedVariables false
set_option linter.unusedSimpArgs false

set_option maxRecDepth 100000 in
set_option maxHeartbeats 8000000 in
theorem implRepairTouch_any (m : Mt) (v : Value) (k : Cl) (n : Nat) (fr tg : ByteArray) (w : World) (hg : CGood m k n) (hc : callsB m k = true) (h4 : 4 ≤ n) (hf : PermR n fr) (ht : PermR n tg) (h : MethAt w m v) (hs : MtSmall m) (hk : ClSmall k) : Calls Tryz.prog 105 #[m.v v, k.v, .string fr, .string tg] w fun e w' =>
    e = .returned (.tuple #[.string (ofL ((mendQ (headB n m.l k.bob k.single) fr tg).getD [])), .bool (mendQ (headB n m.l k.bob k.single) fr tg).isSome]) ∧ Below w.heap.size w w' := by
  have hn := hg.m.hi
  have hfr := perm_in hn hf
  have htr := perm_in hn ht
  have htz : tg.size ≤ 1048576 := by rw [htr.1]; omega
  have HG := Lib.hid (fun W (hW : Below w.heap.size w W) => goodRepair_any m v k n fr tg W hg hc h4 hf ht (h.to hW) hs hk)
  have HR := Lib.hid (fun W (hW : Below w.heap.size w W) => repairLayers_any m v k n fr tg W hg (h.1.to hW) hfr htz)
  have HH := Lib.hid (fun W (hW : Below w.heap.size w W) => callHeads_any m v k n W hg (h.1.to hW))
  have HC := Lib.hid (fun W (hW : Below w.heap.size w W) c => callHead_any m v k n c W hg (h.1.to hW))
  have HFi := Lib.hid (fun c => head_in hn m.l k.bob k.single c)
  obtain ⟨F, hF⟩ : ∃ F, F = headB n m.l k.bob k.single := ⟨_, rfl⟩
  simp only [← hF] at HG HR HH HC HFi ⊢
  obtain ⟨A, c, hv', _⟩ := h.1
  subst hv'
  unfold Mt.v Cl.v at *
  have Hts := Lib.hid htz
  have Hfr := Lib.hid hfr
  have Htr := Lib.hid htr
  have hfz : fr.size ≤ 8 := by rw [hfr.1]; omega
  clear hF hg hc h4 hf ht h hs hk hfr htr htz
  have Hhin : Hid (∀ x ∈ headsR F, RowIn n x) := Lib.hid (fun x hx => by
    unfold headsR at hx
    simp only [List.mem_cons, List.not_mem_nil, or_false] at hx
    rcases hx with rfl | rfl | rfl <;> exact HFi.out _)
  have Hlin := Lib.hid (layR_in hn Hhin.out Hfr.out)
  go_enter Tryz.func105, Tryz.ntmps105
  go_wp2_with fail
  refine box2 (C := fun W => Calls _ _ _ W _) ?_
  intro wb hw k1 k2 hB0
  have R1 := boxRule k1
  have R2 := boxRule k2
  clear k1 k2
  have HG1 := Lib.hid (HG.out _ hw)
  by_cases he : fr = tg
  · have Hq := Lib.hid (mendQ_same F he)
    have hd : (!decide (fr = tg)) = false := by simp [he]
    rw [hd] at HG1
    clear hd he
    refine (HG1.out).mono ?_; rintro e w1 ⟨rfl, hb1⟩
    go_wp2_with fail
    go_ret2
    exact ⟨by rw [Hq.out]; rfl, bw_to hw hb1⟩
  have hd : (!decide (fr = tg)) = true := by simp [he]
  rw [hd] at HG1
  have Hne := Lib.hid he
  clear hd he
  refine (HG1.out).mono ?_; rintro e w1 ⟨rfl, hb1⟩
  go_wp2_with fail
  refine (HR.out _ (bw_to hw hb1)).mono ?_; rintro e w2 ⟨A2, q2, vs2, rfl, hlay, hb2⟩
  have hB2 := bw_to hb1 hb2
  cases hrep : repB (headsR F) fr tg with
  | none =>
    have Hq := Lib.hid (mendQ_none hrep)
    clear hrep hlay
    go_wp2_with fail
    go_ret2
    exact ⟨by rw [Hq.out]; rfl, bw_to hw hB2⟩
  | some N =>
    have Hq := Lib.hid (mendQ_some Hne.out hrep)
    simp only [laysB_some hrep, laysU_len] at hlay ⊢
    have hN1 := repGo_some 8 0 N hrep
    have hN0 : 0 < N := hN1.1
    have hN8 : N ≤ 8 := by have := hN1.2.1; omega
    have Htl : Hid (tg ∈ layR (headsR F) fr N) := Lib.hid hN1.2.2.1
    have Hsh := Lib.hid (fun i (hi : i < N) => layR_short hrep hi)
    have Hlay := Lib.hid hlay
    clear hN1 hrep hlay HG HG1 HR
    go_wp2_with fail
    refine (HH.out _ (bw_to hw hB2)).mono ?_; rintro e w3 ⟨A3, q3, rfl, hown3, hb3⟩
    have hB3 := bw_to hB2 hb3
    have Hlay3 := Lib.hid (Hlay.out.to hb3)
    have Hst3 : Hid (Strs w3 (.slice A3 3 q3) (headsR F)) := Lib.hid (strs_of_own hown3)
    have hlr := Hlay3.out.1
    rw [laysU_len] at hlr
    obtain ⟨gl, hgl, hgl2⟩ := own_ptr hlr (by omega)
    subst hgl
    obtain ⟨i0, hi0, hz0, hs0, hb0⟩ := info_parts info_msb
    have hiN : IntKind.i64.wrap ((N : Int) + 1 - 1) = (N : Int) := by rw [show (N : Int) + 1 - 1 = (N : Int) by omega]; exact IntWalk.i64_in _ ⟨by omega, by omega⟩
    have hiM : IntKind.i64.wrap ((N : Int) + 1 - 2) = (N : Int) - 1 := by rw [show (N : Int) + 1 - 2 = (N : Int) - 1 by omega]; exact IntWalk.i64_in _ ⟨by omega, by omega⟩
    clear hown3 hlr
    go_wp2_with (at_make; refine wpList_make_full _ rfl _ _ _ rfl w3.heap.size 197 i0 _ 1 Tryz.underlying196 hi0 hz0 hs0 _ _ _ _ (N + 1) rfl rfl rfl rfl (by rw [hb0]; omega) (by unfold maxLen; omega) (Nat.le_refl _) ?_; intro w4 hl4 hgr4)
    rw [Nat.mul_one] at hl4
    have hB4 := bw_to hB3 (bw_gr (Below.refl w3.heap.size w3) hgr4)
    clear hi0 hz0 hs0 hb0
    have hB34 : Below w3.heap.size w3 w4 := bw_gr (Below.refl w3.heap.size w3) hgr4
    have hgl4 : w3.heap.size < w4.heap.size := (World.ownsRow.lt hl4 w3.heap.size rfl).2
    have hvl : (madeCells (Value.map none).cells (N + 1)).toList.length = N + 1 := by have := hl4.1; simpa using this
    obtain ⟨vs0, hvs0⟩ : ∃ x, x = (madeCells (Value.map none).cells (N + 1)).toList := ⟨_, rfl⟩
    rw [← hvs0] at hl4 hvl
    have Hl4 := Lib.hid hl4
    clear hl4 hgr4 hvs0
    go_wp2_with fail
    refine upon_mkS ?_
    intro w5 hm5 hb5
    have hbl5 := hm5.lt
    go_wp2_with fail
    refine upon_insS Tryz.underlying197 hm5 (by omega) tg (by have := Hts.out; unfold maxLen; omega) ?_
    intro w6 hm6 hg6
    have hb46 := gr_lowS hb5 hg6 (Nat.le_refl _)
    have ho6 := own_to Hl4.out hb46
    have Hm6 := Lib.hid hm6
    have hz6 : w4.heap.size < w6.heap.size := Nat.lt_of_lt_of_le hbl5 hg6.size
    have hB36 := bw_to hB34 hb46
    have hcell := ho6.cellAt N (by omega)
    rw [List.getElem?_eq_getElem (by omega : N < vs0.length)] at hcell
    have hfz := ho6.frozenAt N
    have HB7 : Hid (Below w3.heap.size w3 (w6.setCell ⟨w3.heap.size, N, none⟩ (.map (some w4.heap.size)))) := Lib.hid (grow_set hB36 (by omega) _)
    have Ho7 : Hid ((w6.setCell ⟨w3.heap.size, N, none⟩ (.map (some w4.heap.size))).ownsRow w3.heap.size 197 1 (.slice (some ⟨w3.heap.size, 0, none⟩) (N + 1) (N + 1)) (N + 1) (vs0.set N (.map (some w4.heap.size)))) := Lib.hid (own_set (own_base ho6 (by omega)) N _)
    have Hg7 : Hid (GM (w6.setCell ⟨w3.heap.size, N, none⟩ (.map (some w4.heap.size))) w3.heap.size (w4.heap.size + 1) N N (vs0.set N (.map (some w4.heap.size))) (goodR F fr tg N)) := Lib.hid (by
      intro j h1 h2
      obtain rfl : j = N := by omega
      refine ⟨w4.heap.size, _, _, List.getElem?_set_self (by omega), hgl4, by omega, Hm6.out.kept (gr_set (gr_refl w6 (some w3.heap.size)) _) (by intro e; injection e with e; omega), fun s => ?_⟩
      rw [goodR_top Htl.out]
      unfold updF
      by_cases e : s = tg <;> simp [e])
    have hz7 : w4.heap.size + 1 ≤ (w6.setCell ⟨w3.heap.size, N, none⟩ (.map (some w4.heap.size))).heap.size := by
      have e : (w6.setCell ⟨w3.heap.size, N, none⟩ (.map (some w4.heap.size))).heap.size = w6.heap.size := by simp
      omega
    have hgs : w3.heap.size ≤ w3.heap.size := by omega
    clear hm5 hb5 hm6 hg6 hb46 ho6 hB4 hB34
    go_wp2_with fail
    go_loopw [14] (fun x wr => ∃ (lo hi : Nat) (z : Int) (vs : List Value), lo ≤ N ∧ x = .int .i64 z ∧ z = (lo : Int) - 1 ∧ vs.length = N + 1 ∧ wr.ownsRow w3.heap.size 197 1 (.slice (some ⟨w3.heap.size, 0, none⟩) (N + 1) (N + 1)) (N + 1) vs ∧ GM wr w3.heap.size hi lo N vs (goodR F fr tg N) ∧ hi ≤ wr.heap.size ∧ w3.heap.size < hi ∧ Below w3.heap.size w3 wr) (fun x _ => (intOf x + 1).toNat)
    case atStart => exact ⟨N, _, _, _, by omega, rfl, rfl, by simpa using hvl, Ho7.out, Hg7.out, hz7, by omega, HB7.out⟩
    case round =>
      clear hcell hfz HB7 Ho7 Hg7 hz7
      obtain ⟨lo, hi, z, vs, hlo, rfl, hz, hvs, hown, hgm, hhi, hgh, hB⟩ := hrel
      have Hgm := Lib.hid hgm
      have Hown := Lib.hid hown
      clear hown hgm
      rcases Nat.eq_zero_or_pos lo with hl0 | hl0
      · subst hl0
        obtain rfl : z = -1 := by omega
        clear hz
        have Hst : Hid (∃ rest, leastB F tg (N - 0) fr = some rest ∧ leastB F tg N fr = some ([] ++ rest)) := Lib.hid (by
          obtain ⟨t, ht⟩ := Option.isSome_iff_exists.1 (least_from Htl.out)
          exact ⟨t, ht, ht⟩)
        have Hfr0 : Hid (fr ∈ layR (headsR F) fr 0) := Lib.hid (.head _)
        have hsz3 := hB.size
        have hws : Below w.heap.size w w3 := bw_to hw hB3
        go_wp2_with fail
        obtain ⟨wo, rfl⟩ : ∃ wo : World, wo = wr := ⟨_, rfl⟩
        go_loopw [19, 20, 21] (fun tx rx x wr => ∃ (jj : Nat) (tl rest : List UInt8) (rr t1 : ByteArray), jj ≤ N ∧ x = .int .i64 ((jj : Int) + 1) ∧ tx = .string t1 ∧ t1 = ofL tl ∧ rx = .string rr ∧ tl.length = jj ∧ rr ∈ layR (headsR F) fr jj ∧ leastB F tg (N - jj) rr = some rest ∧ leastB F tg N fr = some (tl ++ rest) ∧ Below wo.heap.size wo wr) (fun _ _ x _ => N + 1 - (intOf x).toNat)
        case atStart =>
          obtain ⟨rest, h1, h2⟩ := Hst.out
          exact ⟨0, [], rest, fr, _, by omega, rfl, rfl, rfl, rfl, rfl, Hfr0.out, h1, h2, Below.refl _ _⟩
        case round =>
          clear Hst Hfr0
          obtain ⟨jj, tl, rest, rr, t1, hjj, rfl, rfl, ht1, rfl, htl, hrr, hle, hln, hBo⟩ := hrel
          have Hrr := Lib.hid hrr
          have Ht1 := Lib.hid ht1
          have Hle := Lib.hid hle
          have Hln := Lib.hid hln
          clear hrr hle hln ht1
          by_cases hlt : jj < N
          · have hjN : (jj : Int) + 1 < (N : Int) + 1 := by omega
            have hjp : IntKind.i64.wrap ((jj : Int) + 1 + 1) = (jj : Int) + 1 + 1 := IntWalk.i64_in _ ⟨by omega, by omega⟩
            go_wp2_with fail
            refine box1 (C := fun W => Code.wp _ _ _ _ W) ?_
            intro w5 hw5 k5 hB05
            have Hlit : Hid (w5.ownsRow 0 9 1 (.slice (some ⟨wr.heap.size, 0, none⟩) 3 3) 3 ((clB.map callT).map Value.string)) := Lib.hid (own_of_heap (base := 0) (n := 3) (size := 1) k5 (Nat.zero_le _) (by unfold maxLen; omega) rfl)
            have hBo5 := bw_to hBo hw5
            clear k5
            obtain ⟨n1, hn1⟩ : ∃ n1, N - jj = n1 + 1 := ⟨N - jj - 1, by omega⟩
            have Hn1 : Hid (n1 = N - (jj + 1)) := Lib.hid (by omega)
            have Hle1 : Hid (leastB F tg (n1 + 1) rr = some rest) := Lib.hid (by rw [← hn1]; exact Hle.out)
            have Hri := Lib.hid (Hlin.out jj rr Hrr.out)
            have htl8 : tl.length ≤ 8 := by omega
            clear hn1
            obtain ⟨wq, rfl⟩ : ∃ wq : World, wq = wr := ⟨_, rfl⟩
            go_loopw [19, 20, 106] (fun tx rx x wr => ∃ q : Nat, q ≤ 3 ∧ tx = .string t1 ∧ rx = .string rr ∧ x = .int .i64 q ∧ (∀ p (h : p < clB.length), p < q → leastB F tg n1 (timesB rr (F clB[p])) = none) ∧ Below w5.heap.size w5 wr) (fun _ _ x _ => 3 - (intOf x).toNat)
            case atStart => exact ⟨0, by omega, rfl, rfl, rfl, fun p h h2 => absurd h2 (Nat.not_lt_zero _), Below.refl _ _⟩
            case round =>
              obtain ⟨q, hq3, rfl, rfl, rfl, hno, hB5⟩ := hrel
              have Hno := Lib.hid hno
              clear hno
              by_cases hlt2 : q < 3
              · have hqc : q < clB.length := hlt2
                have hC0 : wr.cell? ⟨wq.heap.size, q, none⟩ = some (.string (callT clB[q])) := by
                  have h1 := (own_to Hlit.out hB5).cellAt q (by omega)
                  rw [h1, List.getElem?_map, List.getElem?_map, List.getElem?_eq_getElem hqc]
                  rfl
                have Hhit := Lib.hid (fun t h => least_hit (F := F) (tg := tg) (r := rr) (t := t) hqc Hno.out h)
                have Hin := Lib.hid (clB_in (F := F) hqc)
                have Hnx : Hid (leastB F tg n1 (timesB rr (F clB[q])) = none → ∀ p (h : p < clB.length), p < q + 1 → leastB F tg n1 (timesB rr (F clB[p])) = none) := Lib.hid (fun h p hp hpq => by
                  by_cases e : p = q
                  · subst e; exact h
                  · exact Hno.out p hp (by omega))
                obtain ⟨c, hc⟩ : ∃ c, c = clB[q] := ⟨_, rfl⟩
                rw [← hc] at hC0 Hhit Hin Hnx
                have hBw := bw_to hws (bw_to hB (bw_to hBo5 hB5))
                have Hcall := Lib.hid (fun W hW => HC.out W hW c)
                have Hcz : Hid ((callT c).size = 1) := Lib.hid rfl
                have Htm := Lib.hid (fun W => times_any rr (F c) W (by rw [Hri.out.1]; omega) (by rw [(HFi.out c).1]; omega) (row_hin Hri.out.1 (HFi.out c)))
                have Hti := Lib.hid (times_in Hri.out (HFi.out c))
                have Hnext := Lib.hid (goodR_next Htl.out hlt Hrr.out Hin.out)
                rw [← Hn1.out] at Hnext
                obtain ⟨x, hx⟩ : ∃ x, x = timesB rr (F c) := ⟨_, rfl⟩
                simp only [← hx] at Htm Hti Hnext Hhit Hnx
                have hxs : x.size ≤ maxLen := by rw [Hti.out.1]; unfold maxLen; omega
                have Hoc := Lib.hid (ofL_call tl c)
                have htz : (ofL tl).size ≤ 8 := by rw [ofL_size]; omega
                obtain ⟨s1, hs1⟩ : ∃ s1, s1 = callT c := ⟨_, rfl⟩
                rw [← hs1] at hC0 Hcz Hoc
                rw [← Ht1.out] at htz Hoc
                rw [← hs1] at Hcall
                have hsum : ¬ 9223372036854775807 < t1.size + s1.size := by have := Hcz.out; omega
                have hj0 : (0 : Int) ≤ (jj : Int) + 1 := by omega
                have hBb := bw_to hB3 (bw_to hB (bw_to hBo5 hB5))
                have r1 := fun i => R1 wr i hBb
                have r2 := fun i => R2 wr i hBb
                clear hc hx hqc hs1
                go_wp2_with fail
                refine (Hcall.out _ hBw).mono ?_; rintro e w8 ⟨rfl, hb8⟩
                go_wp2_with fail
                refine (Htm.out _).mono ?_; rintro e w9 ⟨rfl, hb9⟩
                have hB59 := bw_to hB5 (hb8.trans (hb9.mono hb8.size))
                have hBo9 := bw_to hBo5 hB59
                have hown9 := own_to Hown.out hBo9
                obtain ⟨b1, cnt1, f1, hv1, hb1g, hb1o, hm1, hf1⟩ := (Hgm.out.to hBo9) (jj + 1) (by omega) (by omega)
                have hlk := hm1.look 197 Tryz.underlying197 x hxs
                have hgc := hown9.cellAt (jj + 1) (by omega)
                rw [hv1] at hgc
                have Hf1 := Lib.hid (hf1 x)
                clear hown9 hv1 hm1 hf1 hC0
                cases hb : f1 x
                · rw [hb] at hlk
                  have Hnn := Lib.hid (Hnx.out (by
                    cases hh : leastB F tg n1 x with
                    | none => rfl
                    | some t =>
                      have h1 := Hf1.out.2 (Hnext.out.2 (by rw [hh]; rfl))
                      rw [h1] at hb; cases hb))
                  go_wp2_with fail
                  exact ⟨⟨q + 1, by omega, rfl, rfl, by go_num, Hnn.out, hB59⟩, by simp [intOf]; omega⟩
                · rw [hb] at hlk
                  have hgr := Hf1.out.1 hb
                  obtain ⟨t, ht⟩ := Option.isSome_iff_exists.1 (Hnext.out.1 hgr)
                  have hr1 := Hhit.out t ht
                  rw [Hle1.out] at hr1
                  injection hr1 with hr1
                  have Hln2 : Hid (leastB F tg N fr = some ((tl ++ [c]) ++ t)) := Lib.hid (by rw [Hln.out, hr1]; simp)
                  have Hgr := Lib.hid hgr.1
                  have Ht : Hid (leastB F tg (N - (jj + 1)) x = some t) := Lib.hid (by rw [← Hn1.out]; exact ht)
                  clear ht hr1 hgr
                  go_wp2_with fail
                  refine ⟨⟨jj + 1, tl ++ [c], t, x, t1 ++ s1, by omega, ?_, rfl, Hoc.out, rfl, by simp [htl], Hgr.out, Ht.out, Hln2.out, hBo9⟩, by simp [intOf]; omega⟩
                  first | rfl | go_num
              · exfalso
                have h1 := least_miss (F := F) (tg := tg) (r := rr) (n := n1) (fun p h => Hno.out p h (by have : clB.length = 3 := rfl; omega))
                rw [Hle1.out] at h1
                cases h1
          · obtain rfl : jj = N := by omega
            have Hfin : Hid (mendQ F fr tg = some tl) := Lib.hid (by
              have h1 := Hle.out
              rw [Nat.sub_self] at h1
              have h2 := least_len 0 _ _ h1
              have h3 : rest = [] := List.eq_nil_of_length_eq_zero h2
              rw [Hq.out, Hln.out, h3, List.append_nil])
            go_wp2_with fail
            go_ret2
            exact ⟨by rw [Hfin.out, Ht1.out]; rfl, bw_to hws (bw_to hB hBo)⟩
      · obtain ⟨i, rfl⟩ : ∃ i, lo = i + 1 := ⟨lo - 1, by omega⟩
        obtain rfl : z = (i : Int) := by omega
        clear hz hl0
        have hiN' : i < N := hlo
        have hiw : IntKind.i64.wrap ((i : Int) - 1) = (i : Int) - 1 := IntWalk.i64_in _ ⟨by omega, by omega⟩
        have hip : IntKind.i64.wrap ((i : Int) + 1) = (i : Int) + 1 := IntWalk.i64_in _ ⟨by omega, by omega⟩
        have hil : i < (laysU (headsR F) fr (N + 1)).length := by rw [laysU_len]; omega
        have hlayr := Hlay3.out.to hB
        have hvlen := hlayr.len
        rw [laysU_len] at hvlen
        have hiv : i < vs2.length := by omega
        have hL1 := hlayr.1
        rw [laysU_len] at hL1
        have hLc := hL1.cellAt i (by omega)
        rw [List.getElem?_eq_getElem hiv] at hLc
        have hrow := hlayr.2 i hil hiv
        rw [laysU_get hil] at hrow
        obtain ⟨Ai, ci, eiv, _⟩ := sl_of_own hrow
        rw [eiv] at hLc hrow
        have Hrow := Lib.hid hrow
        have Hsh' := Lib.hid (Hsh.out i hiN')
        have Hli := Lib.hid (Hlin.out i)
        obtain ⟨L, hL⟩ : ∃ L, L = layR (headsR F) fr i := ⟨_, rfl⟩
        have HL := Lib.hid hL
        rw [← hL] at Hrow Hsh' Hli hLc
        have HLc := Lib.hid hLc
        clear hil hlayr hvlen hiv hL1 hLc hrow eiv hL
        have hs800 := Hsh'.out
        go_wp2_with fail
        refine upon_mkS ?_
        intro w5 hm5 hb5
        have hbl5 := hm5.lt
        have hB5 := bw_to hB hb5
        have ho5 := own_to Hown.out hb5
        have hg5 := Hgm.out.to hb5
        have hcell := ho5.cellAt i (by omega)
        rw [List.getElem?_eq_getElem (by omega : i < vs.length)] at hcell
        have hfz := ho5.frozenAt i
        have hi0 : (0 : Int) ≤ (i : Int) := by omega
        have hii : (i : Int) < (N : Int) + 1 := by omega
        have hbb : wr.heap.size ≠ w3.heap.size := by omega
        obtain ⟨w6, hw6⟩ : ∃ w6, w6 = w5.setCell ⟨w3.heap.size, i, none⟩ (.map (some wr.heap.size)) := ⟨_, rfl⟩
        have HB6 : Hid (Below w3.heap.size w3 w6) := Lib.hid (by rw [hw6]; exact grow_set hB5 (by omega) _)
        have Ho6 : Hid (w6.ownsRow w3.heap.size 197 1 (.slice (some ⟨w3.heap.size, 0, none⟩) (N + 1) (N + 1)) (N + 1) (vs.set i (.map (some wr.heap.size)))) := Lib.hid (by rw [hw6]; exact own_set ho5 i _)
        have Hg6 : Hid (GM w6 w3.heap.size wr.heap.size (i + 1) N (vs.set i (.map (some wr.heap.size))) (goodR F fr tg N)) := Lib.hid (by
          rw [hw6]
          have h1 := hg5.put (Nat.lt_succ_self i) (.map (some wr.heap.size))
          intro j h2 h3
          obtain ⟨b, cnt, f, e, hb, hb2, r⟩ := h1 j h2 h3
          exact ⟨b, cnt, f, e, hb, by omega, r⟩)
        have Hm6 : Hid (SM w6 wr.heap.size 0 (fun _ => false)) := Lib.hid (by rw [hw6]; exact hm5.kept (gr_set (gr_refl w5 (some w3.heap.size)) _) (by intro e; injection e with e; omega))
        have hz6 : wr.heap.size < w6.heap.size := by
          have e : w6.heap.size = w5.heap.size := by rw [hw6]; simp
          omega
        have Hvi : Hid ((vs.set i (.map (some wr.heap.size)))[i]? = some (.map (some wr.heap.size))) := Lib.hid (List.getElem?_set_self (by omega))
        have hvs6 : (vs.set i (.map (some wr.heap.size))).length = N + 1 := by rw [List.length_set]; exact hvs
        have hgb : w3.heap.size < wr.heap.size := by omega
        have hbw : w3.heap.size < wr.heap.size := by omega
        have hLc6 : (w5.setCell ⟨w3.heap.size, i, none⟩ (.map (some wr.heap.size))).cell? ⟨gl, i, none⟩ = some (.slice Ai L.length ci) := by
          rw [← hw6]
          have h1 := (Hlay3.out.to HB6.out).1
          rw [laysU_len] at h1
          have h2 := h1.cellAt i (by omega)
          rw [← HLc.out, h2]
          have h3 := (Hlay3.out.to hB).1
          rw [laysU_len] at h3
          exact (h3.cellAt i (by omega)).symm
        have Hrow6 : Hid (∀ W, Below w3.heap.size w3 W → Strs W (.slice Ai L.length ci) L) := Lib.hid (fun W hW => by
          have hlayr := Hlay3.out.to hW
          have hvlen := hlayr.len
          rw [laysU_len] at hvlen
          have hil : i < (laysU (headsR F) fr (N + 1)).length := by rw [laysU_len]; omega
          have h1 := hlayr.2 i hil (by omega)
          rw [laysU_get hil, ← HL.out] at h1
          have h3 := (Hlay3.out.to hB).1
          rw [laysU_len] at h3
          have h4 := h3.cellAt i (by omega)
          rw [HLc.out, List.getElem?_eq_getElem (by omega : i < vs2.length)] at h4
          injection h4 with h4
          rw [← h4] at h1
          exact strs_of_own h1)
        clear hm5 hg5 ho5 hB5
        go_wp2_with fail
        rw [← hw6]
        clear hcell hfz hLc6
        obtain ⟨wo, rfl⟩ : ∃ wo : World, wo = wr := ⟨_, rfl⟩
        go_loopw [71] (fun x wr => ∃ (kk cnt : Nat) (f : ByteArray → Bool), kk ≤ L.length ∧ x = .int .i64 kk ∧ wr.ownsRow w3.heap.size 197 1 (.slice (some ⟨w3.heap.size, 0, none⟩) (N + 1) (N + 1)) (N + 1) (vs.set i (.map (some wo.heap.size))) ∧ GM wr w3.heap.size wo.heap.size (i + 1) N (vs.set i (.map (some wo.heap.size))) (goodR F fr tg N) ∧ SM wr wo.heap.size cnt f ∧ (∀ s, f s = true ↔ s ∈ L.take kk ∧ goodR F fr tg N i s) ∧ cnt ≤ kk * 3 ∧ Below w3.heap.size w3 wr) (fun x _ => L.length - (intOf x).toNat)
        case atStart => exact ⟨0, 0, _, by omega, rfl, Ho6.out, Hg6.out, Hm6.out, by simp, by omega, HB6.out⟩
        case round =>
          clear HB6 Ho6 Hg6 Hm6 hw6
          obtain ⟨kk, cnt, f, hkk, rfl, hown, hgm, hsm, hf, hcnt, hB⟩ := hrel
          have Hgm := Lib.hid hgm
          have Hown := Lib.hid hown
          have Hsm := Lib.hid hsm
          have Hf := Lib.hid hf
          clear hown hgm hsm hf
          by_cases hlt : kk < L.length
          · obtain ⟨A', c', e', _, _, hrd⟩ := Hrow6.out wr hB
            injection e' with ea eb ec
            subst ea ec
            clear eb
            obtain ⟨ad, rfl, hC⟩ := strs_el hrd hlt
            have hC0 := hC _ (Below.refl _ _)
            have Hr := Lib.hid (Hli.out _ (List.getElem_mem hlt))
            have Hge : Hid (∀ f' : ByteArray → Bool, (∀ s, f' s = true ↔ (s ∈ L.take kk ∧ goodR F fr tg N i s) ∨ s = L[kk] ∧ ∃ h ∈ headsR F, goodR F fr tg N (i + 1) (timesB L[kk] h)) → ∀ s, f' s = true ↔ s ∈ L.take (kk + 1) ∧ goodR F fr tg N i s) := Lib.hid (by
              intro f' hf'
              have := HL.out
              subst this
              exact good_end Htl.out hiN' hlt hf')
            obtain ⟨r, hr⟩ : ∃ r, r = L[kk] := ⟨_, rfl⟩
            rw [← hr] at hC0 Hr Hge
            have Hf0 := Lib.hid (good_start (hs := headsR F) Hf.out r)
            clear hC hrd hr
            go_wp2_with fail
            obtain ⟨wq, rfl⟩ : ∃ wq : World, wq = wr := ⟨_, rfl⟩
            go_loopw [77] (fun x wr => ∃ (j cnt2 : Nat) (f : ByteArray → Bool), j ≤ 3 ∧ x = .int .i64 j ∧ wr.ownsRow w3.heap.size 197 1 (.slice (some ⟨w3.heap.size, 0, none⟩) (N + 1) (N + 1)) (N + 1) (vs.set i (.map (some wo.heap.size))) ∧ GM wr w3.heap.size wo.heap.size (i + 1) N (vs.set i (.map (some wo.heap.size))) (goodR F fr tg N) ∧ SM wr wo.heap.size cnt2 f ∧ (∀ s, f s = true ↔ (s ∈ L.take kk ∧ goodR F fr tg N i s) ∨ s = r ∧ ∃ h ∈ (headsR F).take j, goodR F fr tg N (i + 1) (timesB r h)) ∧ cnt2 ≤ cnt + j ∧ Below w3.heap.size w3 wr) (fun x _ => 3 - (intOf x).toNat)
            case atStart => exact ⟨0, cnt, _, by omega, rfl, Hown.out, Hgm.out, Hsm.out, Hf0.out, by omega, hB⟩
            case round =>
              clear Hown Hgm Hsm Hf Hf0 hC0 hB
              obtain ⟨j, cnt2, f, hj, rfl, hown, hgm, hsm, hf, hcnt2, hB⟩ := hrel
              have Hgm := Lib.hid hgm
              have Hown := Lib.hid hown
              have Hsm := Lib.hid hsm
              have Hf := Lib.hid hf
              clear hown hgm hsm hf
              by_cases hlt2 : j < 3
              · have hjh : j < (headsR F).length := hlt2
                obtain ⟨A', c2', e', _, _, hrd⟩ := Hst3.out.to hB
                injection e' with ea eb ec
                subst ea ec
                clear eb
                obtain ⟨ad2, rfl, hC⟩ := strs_el hrd hjh
                have hC0 := hC _ (Below.refl _ _)
                have Hhr := Lib.hid (Hhin.out _ (List.getElem_mem hjh))
                have Hput : Hid (goodR F fr tg N (i + 1) (timesB r (headsR F)[j]) → ∀ s, updF f r s = true ↔ (s ∈ L.take kk ∧ goodR F fr tg N i s) ∨ s = r ∧ ∃ h ∈ (headsR F).take (j + 1), goodR F fr tg N (i + 1) (timesB r h)) := Lib.hid (fun hq => good_put hjh Hf.out hq)
                have Hskip : Hid (¬ goodR F fr tg N (i + 1) (timesB r (headsR F)[j]) → ∀ s, f s = true ↔ (s ∈ L.take kk ∧ goodR F fr tg N i s) ∨ s = r ∧ ∃ h ∈ (headsR F).take (j + 1), goodR F fr tg N (i + 1) (timesB r h)) := Lib.hid (fun hq => good_skip hjh Hf.out hq)
                obtain ⟨h, hhj⟩ : ∃ h, h = (headsR F)[j] := ⟨_, rfl⟩
                rw [← hhj] at hC0 Hhr Hput Hskip
                have Htm := Lib.hid (fun W => times_any r h W (by rw [Hr.out.1]; omega) (by rw [Hhr.out.1]; omega) (row_hin Hr.out.1 Hhr.out))
                have Hti := Lib.hid (times_in Hr.out Hhr.out)
                obtain ⟨x, hx⟩ : ∃ x, x = timesB r h := ⟨_, rfl⟩
                simp only [← hx] at Htm Hti Hput Hskip
                have hxs : x.size ≤ maxLen := by rw [Hti.out.1]; unfold maxLen; omega
                have hrs : r.size ≤ maxLen := by rw [Hr.out.1]; unfold maxLen; omega
                obtain ⟨b1, cnt1, f1, hv1, hb1g, hb1o, hm1, hf1⟩ := Hgm.out (i + 1) (Nat.le_refl _) (by omega)
                have hj1 : i + 1 < (vs.set i (.map (some wo.heap.size))).length := by rw [hvs6]; omega
                have hlk : ∀ u : Aft wr, (Instr.lookup 197 (.map (some b1)) (.string x) false).run Tryz.prog u.w = .ok (.bool (f1 x)) u.w := fun u => (hm1.to u.h).look 197 Tryz.underlying197 x hxs
                have hgc : ∀ u : Aft wr, u.w.cell? ⟨w3.heap.size, i + 1, none⟩ = some (.map (some b1)) := fun u => by
                  have h1 := (own_to Hown.out u.h).cellAt (i + 1) (by omega)
                  rw [hv1] at h1
                  exact h1
                have hi1 : (i : Int) + 1 < (N : Int) + 1 := by omega
                have hi10 : (0 : Int) ≤ (i : Int) + 1 := by omega
                have hBr := Below.refl wr.heap.size wr
                have hb : f1 x = true ∨ f1 x = false := by cases f1 x <;> simp
                have Hf1 := Lib.hid (hf1 x)
                clear hC hrd hhj hx hjh hv1 hm1 hf1
                go_upto_region 19 with fail
                refine wp_region_aft (wb := wr) (by kernel_rfl) (by kernel_rfl) hBr ?_
                repeat (go_big_quiet_step ((go_at_call 196; exact calls_aft fun w hw => Htm.out w)))
                refine wpQuiet_nil ?_
                rintro _ ⟨u3, rfl⟩
                have hB7 := u3.h
                generalize u3.w = w7 at hB7 ⊢
                have hB37 := bw_to hB hB7
                have hown7 := own_to Hown.out hB7
                have Hgm7 := Lib.hid (Hgm.out.to hB7)
                have Hsm7 := Lib.hid (Hsm.out.to hB7)
                have Hown7 := Lib.hid hown7
                clear hC0 hlk hgc
                rcases hb with hb | hb
                · rw [hb]
                  have Hf2 := Lib.hid (Hput.out (Hf1.out.1 hb))
                  have hgc := hown7.cellAt i (by omega)
                  rw [Hvi.out] at hgc
                  clear hown7
                  go_wp2_with fail
                  refine upon_insS Tryz.underlying197 Hsm7.out (by omega) r hrs ?_
                  intro w8 hm8 hg8
                  have hB8 : Below w3.heap.size w3 w8 := hB37.grown hg8 hB37.size (fun k e => by cases e; omega)
                  have Ho8 := Lib.hid (Hown7.out.kept hg8 (.inr (fun e => by have e2 : some w3.heap.size = some wo.heap.size := e; injection e2 with e3; omega)))
                  have Hg8 := Lib.hid (Hgm7.out.kept hg8 (fun k e => by cases e; exact .inr (Nat.le_refl _)))
                  clear hg8
                  go_wp2_with fail
                  exact ⟨⟨j + 1, cnt2 + 1, _, by omega, by go_num, Ho8.out, Hg8.out, hm8, Hf2.out, by omega, hB8⟩, by simp [intOf]; omega⟩
                · rw [hb]
                  have Hf2 := Lib.hid (Hskip.out (fun h => by rw [Hf1.out.2 h] at hb; cases hb))
                  clear hown7
                  go_wp2_with fail
                  exact ⟨⟨j + 1, cnt2, f, by omega, by go_num, Hown7.out, Hgm7.out, Hsm7.out, Hf2.out, by omega, hB37⟩, by simp [intOf]; omega⟩
              · obtain rfl : j = 3 := by omega
                have Hf2 := Lib.hid (Hge.out f (by simpa [headsR] using Hf.out))
                go_wp2_with fail
                exact ⟨⟨kk + 1, cnt2, f, by omega, by go_num, Hown.out, Hgm.out, Hsm.out, Hf2.out, by omega, hB⟩, by simp [intOf]; omega⟩
          · obtain rfl : kk = L.length := by omega
            have Hf2 : Hid (∀ s, f s = true ↔ goodR F fr tg N i s) := Lib.hid (by
              have := HL.out
              subst this
              exact good_all Hf.out)
            go_wp2_with fail
            refine ⟨⟨i, wo.heap.size + 1, (i : Int) - 1, _, by omega, ?_, rfl, hvs6, Hown.out, Hgm.out.more Hvi.out hgb (by omega) (by omega) Hsm.out Hf2.out, Hsm.out.lt, by omega, hB⟩, ?_⟩
            · rfl
            · simp [intOf]
end Go.Proofs.YtjiiflpoiaaccaaGreat
