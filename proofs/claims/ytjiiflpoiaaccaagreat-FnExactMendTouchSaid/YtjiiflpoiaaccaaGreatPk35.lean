/- Contract: the layers of a repair, the specification's. -/
import Derived.Test.YtjiiflpoiaaccaaGreatPk34
import Derived.Test.YtjiiflpoiaaccaaGreatPk32
namespace Go.Proofs.YtjiiflpoiaaccaaGreat
open Go Go.RowKit
set_option linter.unusedVariables false
set_option linter.unusedSimpArgs false

set_option maxRecDepth 100000 in
set_option maxHeartbeats 8000000 in
theorem l15Layers_any (m : Mt) (v : Value) (k : Cl) (n : Nat) (fr tg : ByteArray) (w : World) (hg : CGood m k n) (hv : Strs w v m.l) (hfr : RowIn n fr) : Calls Tryz.prog 189 #[m.v v, k.v, .string fr, .string tg] w fun e w' =>
    ∃ (A : Option Addr) (q : Nat) (vs : List Value), e = .returned (.tuple #[.slice A (laysB (headsR (headB n m.l k.bob k.single)) fr tg).length q, .bool (repB (headsR (headB n m.l k.bob k.single)) fr tg).isSome]) ∧ OwnSV w' w.heap.size (.slice A (laysB (headsR (headB n m.l k.bob k.single)) fr tg).length q) (laysB (headsR (headB n m.l k.bob k.single)) fr tg) vs ∧ Below w.heap.size w w' := by
  have hn := hg.m.hi
  have HNx := Lib.hid (fun W (hW : Below w.heap.size w W) V vs base i hV h8 hi => l15Next_any m v k n fr V vs base i W hg (hv.to hW) hfr hV h8 hi)
  obtain ⟨hs, hhs⟩ : ∃ x, x = headsR (headB n m.l k.bob k.single) := ⟨_, rfl⟩
  have Hh3 : Hid (hs.length = 3) := Lib.hid (by rw [hhs]; rfl)
  simp only [← hhs] at HNx ⊢
  have Hr0 : Hid (repB hs fr tg = repGo hs fr tg (8 - 0) 0) := Lib.hid rfl
  have Hsm := Lib.hid (fun N (h : repB hs fr tg = some N) => laysB_some h)
  have Hno := Lib.hid (fun (h : repB hs fr tg = none) => laysB_none h)
  obtain ⟨RB, hRB⟩ : ∃ x, x = repB hs fr tg := ⟨_, rfl⟩
  obtain ⟨LB, hLB⟩ : ∃ x, x = laysB hs fr tg := ⟨_, rfl⟩
  simp only [← hRB, ← hLB] at Hr0 Hsm Hno ⊢
  obtain ⟨A, c, hv', _⟩ := hv
  subst hv'
  unfold Mt.v Cl.v at *
  clear hg hhs hRB hLB hfr
  go_enter Tryz.func189, Tryz.ntmps189
  go_wp2_with fail
  refine box4 (C := fun W => Code.wp _ _ _ _ W) ?_
  intro w4 hw hbz k1 k2 k3 k4 hB04
  have K1 := Lib.hid k1
  have K2 := Lib.hid k2
  have hr0 : w4.ownsRow (w.heap.size + 2) 9 1 (.slice (some ⟨w.heap.size + 2, 0, none⟩) 1 1) (layR hs fr 0).length ((layR hs fr 0).map Value.string) := own_of_heap k3 (by omega) (by unfold maxLen; omega) rfl
  have hl0 : w4.ownsRow (w.heap.size + 2) 22 1 (.slice (some ⟨w.heap.size + 3, 0, none⟩) 1 1) 1 [.slice (some ⟨w.heap.size + 2, 0, none⟩) 1 1] := own_of_heap k4 (by omega) (by unfold maxLen; omega) rfl
  have Hv0 : Hid (OwnSV w4 (w.heap.size + 2) (.slice (some ⟨w.heap.size + 3, 0, none⟩) (0 + 1) 1) (laysU hs fr (0 + 1)) [.slice (some ⟨w.heap.size + 2, 0, none⟩) 1 1]) := Lib.hid ⟨hl0, fun i h1 h2 => by
    have : i = 0 := by simp at h2; omega
    subst this
    exact hr0⟩
  have hz4 : w.heap.size + 2 ≤ w4.heap.size := by have := blk_lt k4; omega
  clear k1 k2 k3 k4 hr0 hl0 hbz
  go_loopw [10] (fun o wr => ∃ (i q : Nat) (A : Option Addr) (vs : List Value), i ≤ 8 ∧ o = .slice A (i + 1) q ∧ RB = repGo hs fr tg (8 - i) i ∧ (seenR hs fr i).length ≤ 3200 ∧ OwnSV wr (w.heap.size + 2) (.slice A (i + 1) q) (laysU hs fr (i + 1)) vs ∧ w4.heap.size ≤ wr.heap.size ∧ Below (w.heap.size + 2) w4 wr) (fun o _ => 9 - lenV o)
  case atStart => exact ⟨0, 1, _, _, by omega, rfl, Hr0.out, by simp [seenR, lsR], Hv0.out, Nat.le_refl _, Below.refl _ _⟩
  case round =>
    clear Hv0
    obtain ⟨i, q, A, vs, hi, rfl, hRB, hsl, hV, hzr, hB⟩ := hrel
    have HRB := Lib.hid hRB
    have HV := Lib.hid hV
    clear hRB hV
    by_cases hlt : i < 8
    · have hll := laysU_len hs fr (i + 1)
      have Hmany := Lib.hid (fun W (hW : Below wr.heap.size wr W) => l15Many_any _ _ vs _ W (HV.out.to hW) (by rw [lens_lays]; omega) (by rw [hll]; omega))
      rw [lens_lays] at Hmany
      obtain ⟨fu, hfu⟩ : ∃ fu, 8 - i = fu + 1 := ⟨8 - i - 1, by omega⟩
      obtain ⟨sl, hsl'⟩ : ∃ s, s = (seenR hs fr i).length := ⟨_, rfl⟩
      have Hst : Hid (RB = if 800 < sl then none else if tg ∈ layR hs fr (i + 1) then some (i + 1) else repGo hs fr tg fu (i + 1)) := Lib.hid (by rw [HRB.out, hfu, repGo, ← hsl'])
      have Hfu : Hid (fu = 8 - (i + 1)) := Lib.hid (by omega)
      have Hsl := Lib.hid hsl'
      rw [← hsl'] at Hmany hsl
      have hi8 : (i : Int) + 1 ≤ 8 := by omega
      have hws : Below w.heap.size w wr := hw.trans (hB.mono (by omega))
      have r1 := fun j => heap_cell ((hB.block w.heap.size (by omega)).trans K1.out) j
      have r2 := fun j => heap_cell ((hB.block (w.heap.size + 1) (by omega)).trans K2.out) j
      clear hll hfu hsl'
      by_cases hbig : 800 < sl
      · have HN : Hid (RB = none) := Lib.hid (by rw [Hst.out, if_pos hbig])
        have HL := Lib.hid (Hno.out HN.out)
        have hd : decide ((sl : Int) ≤ 800) = false := by simp; omega
        go_wp2_with fail
        refine (Hmany.out _ (Below.refl _ _)).mono ?_; rintro e w5 ⟨rfl, rfl⟩
        go_wp2_with fail
        go_ret2
        exact ⟨none, 0, [], by rw [HL.out, HN.out]; rfl, by rw [HL.out]; exact OwnSV.nil _ _, hws⟩
      · have hd : decide ((sl : Int) ≤ 800) = true := by simp; omega
        have hle8 : (layR hs fr i).length ≤ 800 := by have := layR_le hs fr i; have := Hsl.out; omega
        have Hn8 := Lib.hid (HNx.out wr hws _ vs _ i HV.out hle8 (by omega))
        have Hfew : Hid ((layR hs fr (i + 1)).length ≤ 2400) := Lib.hid (layR_few hle8 Hh3.out)
        have Hsn := Lib.hid (seenR_len hs fr i)
        have Hnb : Hid (¬ 800 < sl) := Lib.hid hbig
        clear hbig hle8
        go_wp2_with fail
        refine (Hmany.out _ (Below.refl _ _)).mono ?_; rintro e w5 ⟨rfl, rfl⟩
        go_wp2_with fail
        refine (Hn8.out).mono ?_; rintro e w6 ⟨A6, N6, q6, rfl, hN6, hown6, hb6⟩
        have HN6 := Lib.hid hN6
        have Hx6 := Lib.hid hown6
        have hv9 := (HV.out.to hb6).1
        rw [laysU_len] at hv9
        have HV9 := Lib.hid (HV.out.to hb6)
        have hz6 : w.heap.size + 2 ≤ w6.heap.size := by have := hb6.size; omega
        have hz6b := hb6.size
        have hvlt := (World.ownsRow.lt HV.out.1)
        have hxlt := (World.ownsRow.lt hown6)
        have Hkp : Hid (∀ k, (Value.slice A6 N6 q6).ownBlock = some k → (Value.slice A (i + 1) q).ownBlock ≠ some k) := Lib.hid (fun k h1 h2 => by
          have := (hxlt k h1).1
          have := (hvlt k h2).2
          omega)
        have hNf : N6 ≤ 2400 := by rw [hN6]; exact Hfew.out
        have hB6 : Below (w.heap.size + 2) w4 w6 := hB.trans (hb6.mono (by omega))
        clear hN6 hown6 hvlt hxlt
        go_wp2_with (at_builtin; go_must (refine wpList_app _ rfl _ _ _ rfl (w.heap.size + 2) 22 _ 1 24 Tryz.underlying101 info_slU rfl (by omega) hv9 [.slice A6 N6 q6] rfl rfl rfl (one_mem rfl) (by omega) (by omega) hz6 ?_); intro v7 w7 hown7 hb7 hg7 _)
        obtain ⟨A7, q7, e7, _⟩ := sl_of_own hown7
        subst e7
        have hx7 := Hx6.out.kept hg7 (by
          cases h : (Value.slice A6 N6 q6).ownBlock with
          | none => exact .inl rfl
          | some k => exact .inr (fun e => Hkp.out k h e.symm))
        have HV7 := Lib.hid (HV9.out.push (l := layR hs fr (i + 1)) (x := .slice A6 N6 q6) (by rw [← HN6.out]; exact own_base Hx6.out (by omega)) (by rw [laysU_len]; exact hown7) hg7)
        rw [← laysU_succ] at HV7
        have hB7 : Below (w.heap.size + 2) w4 w7 := hB6.trans hb7
        have hz7 : w4.heap.size ≤ w7.heap.size := by have := hg7.size; omega
        have Hha := Lib.hid (l1HasS_any (.slice A6 N6 q6) (layR hs fr (i + 1)) tg w7 (strs_of_own (by rw [HN6.out] at hx7 ⊢; exact hx7)))
        obtain ⟨bb, hbb⟩ : ∃ b, b = decide (tg ∈ layR hs fr (i + 1)) := ⟨_, rfl⟩
        rw [← hbb] at Hha
        have Hbb := Lib.hid hbb
        clear hown7 hx7 hbb hv9
        go_wp2_with fail
        refine Hha.out.mono ?_; rintro e w8 ⟨rfl, rfl⟩
        cases bb
        · have hni := of_decide_eq_false Hbb.out.symm
          have HR : Hid (RB = repGo hs fr tg (8 - (i + 1)) (i + 1)) := Lib.hid (by rw [Hst.out, if_neg Hnb.out, if_neg hni, Hfu.out])
          have Hrl9 : Hid ((seenR hs fr (i + 1)).length ≤ 3200) := Lib.hid (by rw [Hsn.out, ← Hsl.out]; have := Hnb.out; have := Hfew.out; omega)
          clear hni
          go_wp2_with fail
          exact ⟨⟨i + 1, q7, A7, _, by omega, rfl, HR.out, Hrl9.out, HV7.out, hz7, hB7⟩, by simp [lenV]; omega⟩
        · have hyi := of_decide_eq_true Hbb.out.symm
          have HR : Hid (RB = some (i + 1)) := Lib.hid (by rw [Hst.out, if_neg Hnb.out, if_pos hyi])
          have HL := Lib.hid (Hsm.out _ HR.out)
          have HLl : Hid (LB.length = i + 1 + 1) := Lib.hid (by rw [HL.out, laysU_len])
          clear hyi
          go_wp2_with fail
          go_ret2
          refine ⟨A7, q7, vs ++ [.slice A6 N6 q6], by rw [HLl.out, HR.out]; rfl, ?_, hw.trans (hB7.mono (by omega))⟩
          rw [HLl.out, HL.out]
          exact HV7.out.base (by omega)
    · obtain rfl : i = 8 := by omega
      have hd : decide (((8 + 1 : Nat) : Int) ≤ 8) = false := rfl
      have HN : Hid (RB = none) := Lib.hid (by rw [HRB.out]; rfl)
      have HL := Lib.hid (Hno.out HN.out)
      go_wp2_with fail
      go_ret2
      exact ⟨none, 0, [], by rw [HL.out, HN.out]; rfl, by rw [HL.out]; exact OwnSV.nil _ _, hw.trans (hB.mono (by omega))⟩
end Go.Proofs.YtjiiflpoiaaccaaGreat

/- Contracts: who asks for a repair, and the least touch, the specification's. -/
namespace Go.Proofs.YtjiiflpoiaaccaaGreat
open Go Go.RowKit
set_option linter.unusedVariables false
set_option linter.unusedSimpArgs false

set_option maxRecDepth 10000 in
set_option maxHeartbeats 4000000 in
theorem l15Least_any (m : Mt) (v : Value) (k : Cl) (n : Nat) (tg : ByteArray) (hg : CGood m k n) : ∀ (d : Nat) (r : ByteArray) (w : World), d ≤ 8 → RowIn n r → Strs w v m.l → Calls Tryz.prog 190 #[m.v v, k.v, .string r, .string tg, .int .i64 d] w fun e w' =>
    e = .returned (.tuple #[.string (ofL ((leastB (headB n m.l k.bob k.single) tg d r).getD [])), .bool (leastB (headB n m.l k.bob k.single) tg d r).isSome]) ∧ Below w.heap.size w w' := by
  intro d
  induction d with
  | zero =>
    intro r w hd hr hv
    obtain ⟨F, hF⟩ : ∃ F, F = headB n m.l k.bob k.single := ⟨_, rfl⟩
    rw [← hF]
    have Hl : Hid (leastB F tg 0 r = if r = tg then some [] else none) := Lib.hid rfl
    obtain ⟨A, c, hv', _⟩ := hv
    subst hv'
    unfold Mt.v Cl.v at *
    clear hF hg
    by_cases e : r = tg
    · have he : (r.toList == tg.toList) = true := by rw [str_beq]; exact decide_eq_true e
      have Hl2 : Hid (leastB F tg 0 r = some []) := Lib.hid (by rw [Hl.out, if_pos e])
      clear e
      go_enter Tryz.func190, Tryz.ntmps190
      go_wp2_with fail
      go_ret2
      refine ⟨?_, bw_al (bw_al (Below.refl _ _) _) _⟩
      rw [Hl2.out]; rfl
    · have he : (r.toList == tg.toList) = false := by rw [str_beq]; exact decide_eq_false e
      have Hl2 : Hid (leastB F tg 0 r = none) := Lib.hid (by rw [Hl.out, if_neg e])
      clear e
      go_enter Tryz.func190, Tryz.ntmps190
      go_wp2_with fail
      go_ret2
      refine ⟨?_, bw_al (bw_al (Below.refl _ _) _) _⟩
      rw [Hl2.out]; rfl
  | succ d ih =>
    intro r w hd hr hv
    have hn := hg.m.hi
    have HC := Lib.hid (fun W (hW : Below w.heap.size w W) c => l8Head_any m v k n c W hg (hv.to hW))
    have HFi := Lib.hid (fun c => head_in hn m.l k.bob k.single c)
    have Ih := Lib.hid (fun W (hW : Below w.heap.size w W) x hx => ih x W (by omega) hx (hv.to hW))
    obtain ⟨F, hF⟩ : ∃ F, F = headB n m.l k.bob k.single := ⟨_, rfl⟩
    simp only [← hF] at HC HFi Ih ⊢
    obtain ⟨A, c, hv', _⟩ := hv
    subst hv'
    unfold Mt.v Cl.v at *
    have Hr := Lib.hid hr
    clear hF hg ih hr
    have hdw : IntKind.i64.wrap ((d : Int) + 1 - 1) = (d : Int) := by rw [IntWalk.i64_in _ ⟨by omega, by omega⟩]; omega
    have hd0 : ((d : Int) + 1 == 0) = false := by simp; omega
    have hd1 : (d : Int) + 1 - 1 = (d : Int) := by omega
    go_enter Tryz.func190, Tryz.ntmps190
    go_wp2_with fail
    obtain ⟨w0, hw0⟩ : ∃ x, x = w := ⟨_, rfl⟩
    refine box3 (C := fun W => Code.wp _ _ _ _ W) ?_
    intro wb hw k1 k2 k3 hB0
    have R1 := boxRule k1
    have R2 := boxRule k2
    have Hlit : Hid (wb.ownsRow 0 9 1 (.slice (some ⟨w.heap.size + 2, 0, none⟩) 3 3) 3 ((clB.map callT).map Value.string)) := Lib.hid (own_of_heap (base := 0) (n := 3) (size := 1) k3 (Nat.zero_le _) (by unfold maxLen; omega) rfl)
    clear k1 k2 k3
    go_loopw [23] (fun x wr => ∃ q : Nat, q ≤ 3 ∧ x = .int .i64 q ∧ (∀ p (h : p < clB.length), p < q → leastB F tg d (timesB r (F clB[p])) = none) ∧ Below wb.heap.size wb wr) (fun x _ => 3 - (intOf x).toNat)
    case atStart => exact ⟨0, by omega, rfl, fun p h h2 => absurd h2 (Nat.not_lt_zero _), Below.refl _ _⟩
    case round =>
      obtain ⟨q, hq3, rfl, hno, hB⟩ := hrel
      have Hno := Lib.hid hno
      clear hno
      by_cases hlt2 : q < 3
      · have hqc : q < clB.length := hlt2
        have hC0 : wr.cell? ⟨w.heap.size + 2, q, none⟩ = some (.string (callT clB[q])) := by
          have h1 := (own_to Hlit.out hB).cellAt q (by omega)
          rw [h1, List.getElem?_map, List.getElem?_map, List.getElem?_eq_getElem hqc]
          rfl
        have Hhit := Lib.hid (fun t h => least_hit (F := F) (tg := tg) (r := r) (t := t) hqc Hno.out h)
        have Hnx : Hid (leastB F tg d (timesB r (F clB[q])) = none → ∀ p (h : p < clB.length), p < q + 1 → leastB F tg d (timesB r (F clB[p])) = none) := Lib.hid (fun h p hp hpq => by
          by_cases e : p = q
          · subst e; exact h
          · exact Hno.out p hp (by omega))
        obtain ⟨c1, hc⟩ : ∃ c, c = clB[q] := ⟨_, rfl⟩
        rw [← hc] at hC0 Hhit Hnx
        have hBw := bw_to hw hB
        have Hcall := Lib.hid (fun W hW => HC.out W hW c1)
        have Htm := Lib.hid (fun W => l1Times_any r (F c1) W (by rw [Hr.out.1]; omega) (by rw [(HFi.out c1).1]; omega) (row_hin Hr.out.1 (HFi.out c1)))
        have Hti := Lib.hid (times_in Hr.out (HFi.out c1))
        have Hih := Lib.hid (fun W hW => Ih.out W hW _ Hti.out)
        obtain ⟨x, hx⟩ : ∃ x, x = timesB r (F c1) := ⟨_, rfl⟩
        simp only [← hx] at Htm Hti Hhit Hnx Hih
        obtain ⟨la, hla⟩ : ∃ l, l = leastB F tg d x := ⟨_, rfl⟩
        have Hll : Hid (∀ t, la = some t → t.length ≤ 8) := Lib.hid (fun t ht => by have := least_len d x t (hla.symm.trans ht); omega)
        rw [← hla] at Hnx
        simp only [← hla] at Hih Hhit
        obtain ⟨s1, hs1⟩ : ∃ s1, s1 = callT c1 := ⟨_, rfl⟩
        have Hcz : Hid (s1.size = 1) := Lib.hid (by rw [hs1]; rfl)
        have Hcs : Hid (∀ t, s1 ++ ofL t = ofL (c1 :: t)) := Lib.hid (fun t => by rw [hs1]; exact bytes_ext (by simp [ofL, callT]))
        rw [← hs1] at hC0 Hcall
        have hr1 := fun (u : Aft wr) i => R1 u.w i (bw_to hB u.h)
        have hr2 := fun (u : Aft wr) i => R2 u.w i (bw_to hB u.h)
        have hBr := Below.refl wr.heap.size wr
        have hqz : (q : Int) < 3 := by omega
        clear hc hx hqc hla hs1
        go_upto_region 6 with fail
        refine wp_region_aft (wb := wr) (by kernel_rfl) (by kernel_rfl) hBr ?_
        repeat (go_big_quiet_step ((first | (go_at_call 257; exact calls_aft fun w hw => Hcall.out w (bw_to hBw hw)) | (go_at_call 229; exact calls_aft_same fun w hw => Htm.out w) | (go_at_call 190; exact calls_aft fun w hw => Hih.out w (bw_to hBw hw)))))
        refine wpQuiet_nil ?_
        rintro _ ⟨u3, rfl⟩
        have hB7 := u3.h
        generalize u3.w = w7 at hB7 ⊢
        have hB37 := bw_to hB hB7
        have hBw7 := bw_to hw hB37
        clear hC0 hr1 hr2
        cases la with
        | none =>
          have Hn2 := Lib.hid (Hnx.out rfl)
          go_wp2_with fail
          exact ⟨⟨q + 1, by omega, by go_num, Hn2.out, hB37⟩, by simp [intOf]; omega⟩
        | some t =>
          have Ha := Lib.hid (Hhit.out t rfl)
          have hl8 := Hll.out t rfl
          have hsum : ¬ 9223372036854775807 < s1.size + (ofL t).size := by have := Hcz.out; rw [ofL_size]; omega
          have hc2 := Hcs.out t
          have hBF := bw_to hw hB37
          obtain ⟨t1, ht1⟩ : ∃ x, x = ofL t := ⟨_, rfl⟩
          rw [← ht1] at hsum hc2
          have Hc2 := Lib.hid hc2
          have Hgo : Hid (∀ W, Below w.heap.size w W → True) := Lib.hid (fun _ _ => trivial)
          simp only [Option.getD_some, Option.isSome_some]
          rw [← ht1]
          clear hc2 ht1 hl8
          go_wp2_with fail
          go_ret2
          exact ⟨by rw [Ha.out]; exact congrArg (fun x => Ending.returned (Value.tuple #[.string x, .bool true])) Hc2.out, hBF⟩
      · obtain rfl : q = 3 := by omega
        have Ha : Hid (leastB F tg (d + 1) r = none) := Lib.hid (least_miss (fun p h => Hno.out p h (by have : clB.length = 3 := rfl; omega)))
        go_wp2_with fail
        go_ret2
        exact ⟨by rw [Ha.out]; rfl, bw_to hw hB⟩
end Go.Proofs.YtjiiflpoiaaccaaGreat

/- Contract: a touch mended, the program's. -/
namespace Go.Proofs.YtjiiflpoiaaccaaGreat
open Go Go.RowKit
set_option linter.unusedVariables false
set_option linter.unusedSimpArgs false

theorem isBell_any (n b : Int) (w : World) : Calls Tryz.prog 103 #[.int .i64 n, .int .i64 b] w fun e w' => e = .returned (.bool (decide (1 ≤ b ∧ b ≤ n))) ∧ w = w' := by
  by_cases h1 : 1 ≤ b
  · by_cases h2 : b ≤ n
    all_goals
      go_enter Tryz.func103, Tryz.ntmps103
      go_wp2_with fail
      go_ret
      exact ⟨by simp [h1, h2], rfl⟩
  · go_enter Tryz.func103, Tryz.ntmps103
    go_wp2_with fail
    go_ret
    exact ⟨by rw [decide_eq_false (show ¬ 1 ≤ b by omega)]; rfl, rfl⟩
def askM (m : Mt) (k : Cl) (t : ByteArray) (lead i j : Int) : Bool := askT m k t && (decide (4 ≤ m.stage) && (decide (0 ≤ lead ∧ lead ≤ (t.size : Int) - 1) && (decide (1 ≤ i ∧ i ≤ m.stage) && (decide (1 ≤ j ∧ j ≤ m.stage) && !decide (i = j)))))
def mendA (m : Mt) (k : Cl) (t : ByteArray) (lead i j : Int) : Option (List UInt8) :=
  if askM m k t lead i j then mendQ (headB m.stage.toNat m.l k.bob k.single) (swapB i.toNat j.toNat ((headsT m k t)[lead.toNat]?.getD ⟨#[]⟩)) (endT m k t) else none
theorem mendA_no {m : Mt} {k : Cl} {t : ByteArray} {lead i j : Int} (h : askM m k t lead i j = false) : mendA m k t lead i j = none := by unfold mendA; rw [h]; rfl
theorem mendA_yes {m : Mt} {k : Cl} {t : ByteArray} {lead i j : Int} (h : askM m k t lead i j = true) {l' : Nat} (hl : lead = (l' : Int)) (hlt : l' < (headsT m k t).length) : mendA m k t lead i j = mendQ (headB m.stage.toNat m.l k.bob k.single) (swapB i.toNat j.toNat (headsT m k t)[l']) (endT m k t) := by
  subst hl
  unfold mendA; rw [if_pos h, Int.toNat_natCast, List.getElem?_eq_getElem hlt]; rfl
set_option maxRecDepth 100000 in
set_option maxHeartbeats 4000000 in
theorem implMendTouch_any (m : Mt) (v : Value) (k : Cl) (t : ByteArray) (lead i j : Int) (w : World) (h : MethAt w m v) (hs : MtSmall m) (hk : ClSmall k) (ht : t.size ≤ 1048576) : Calls Tryz.prog 19 #[m.v v, k.v, .string t, .int .i64 lead, .int .i64 i, .int .i64 j] w fun e w' =>
    e = .returned (.tuple #[.string (ofL ((mendA m k t lead i j).getD [])), .bool (mendA m k t lead i j).isSome]) ∧ Below w.heap.size w w' := by
  have htm : t.size ≤ maxLen := by unfold maxLen; omega
  have HG := Lib.hid (fun W (hW : Below w.heap.size w W) => goodFor_any m v k t W (h.to hW) hs hk htm)
  have Hask : Hid (askM m k t lead i j = (askT m k t && (decide (4 ≤ m.stage) && (decide (0 ≤ lead ∧ lead ≤ (t.size : Int) - 1) && (decide (1 ≤ i ∧ i ≤ m.stage) && (decide (1 ≤ j ∧ j ≤ m.stage) && !decide (i = j))))))) := Lib.hid rfl
  have Hno := Lib.hid (fun (h : askM m k t lead i j = false) => mendA_no h)
  have Hyes := Lib.hid (fun (h : askM m k t lead i j = true) (l' : Nat) (hl : lead = (l' : Int)) (hlt : l' < (headsT m k t).length) => mendA_yes h hl hlt)
  have Hh := Lib.hid h
  have Hs := Lib.hid hs
  have Hk := Lib.hid hk
  change Hid (∀ W, Below w.heap.size w W → Calls _ _ _ W fun e w' => e = .returned (.bool (askT m k t)) ∧ _) at HG
  obtain ⟨A, c, hv', _⟩ := h.1
  subst hv'
  unfold Mt.v Cl.v at *
  obtain ⟨ak, hak⟩ : ∃ x, x = askM m k t lead i j := ⟨_, rfl⟩
  obtain ⟨ma, hma⟩ : ∃ x, x = mendA m k t lead i j := ⟨_, rfl⟩
  have Hak := Lib.hid hak.symm
  rw [← hak] at Hask
  simp only [← hak, ← hma] at Hno Hyes
  rw [← hma]
  obtain ⟨at0, hat0⟩ : ∃ x, x = askT m k t := ⟨_, rfl⟩
  rw [← hat0] at HG Hask
  have Hat0 := Lib.hid hat0
  have hw1 : IntKind.i64.wrap ((t.size : Int) - 1) = (t.size : Int) - 1 := IntWalk.i64_in _ ⟨by omega, by omega⟩
  have HW := Lib.hid (fun W => within_any lead 0 ((t.size : Int) - 1) W)
  have HI1 := Lib.hid (fun W => isBell_any m.stage i W)
  have HI2 := Lib.hid (fun W => isBell_any m.stage j W)
  obtain ⟨d1, hd1⟩ : ∃ x, x = decide (0 ≤ lead ∧ lead ≤ (t.size : Int) - 1) := ⟨_, rfl⟩
  obtain ⟨d2, hd2⟩ : ∃ x, x = decide (1 ≤ i ∧ i ≤ m.stage) := ⟨_, rfl⟩
  obtain ⟨d3, hd3⟩ : ∃ x, x = decide (1 ≤ j ∧ j ≤ m.stage) := ⟨_, rfl⟩
  simp only [← hd1] at HW Hask
  simp only [← hd2] at HI1 Hask
  simp only [← hd3] at HI2 Hask
  have Hd1 := Lib.hid hd1
  have Hd2 := Lib.hid hd2
  have Hd3 := Lib.hid hd3
  clear hd1 hd2 hd3
  clear hak hma hat0 h hs hk htm
  cases ha : at0
  · subst ha
    have Hm : Hid (ma = none) := Lib.hid (Hno.out (by rw [Hask.out, Bool.false_and]))
    clear Hask Hno Hyes Hat0
    go_enter Tryz.func19, Tryz.ntmps19
    go_wp2_with fail
    refine box2 (C := fun W => Calls _ _ _ W _) ?_
    intro wb hw k1 k2 hB0
    refine (HG.out _ hw).mono ?_; rintro e w1 ⟨rfl, hb1⟩
    go_wp2_with fail
    go_ret2
    exact ⟨by rw [Hm.out]; rfl, bw_to hw hb1⟩
  subst ha
  by_cases h4 : 4 ≤ m.stage
  · cases h1 : d1
    · subst h1
      have Hm : Hid (ma = none) := Lib.hid (Hno.out (by rw [Hask.out, decide_eq_true h4]; rfl))
      have hd : decide (m.stage < 4) = false := by simp; omega
      have hd4 : 4 ≤ m.stage := h4
      clear Hask Hno Hyes Hat0 h4
      go_enter Tryz.func19, Tryz.ntmps19
      go_wp2_with fail
      refine box2 (C := fun W => Calls _ _ _ W _) ?_
      intro wb hw k1 k2 hB0
      have R1 := boxRule k1
      have R2 := boxRule k2
      refine (HG.out _ hw).mono ?_; rintro e w1 ⟨rfl, hb1⟩
      have r1 := fun i => R1 w1 i hb1
      go_wp2_with fail
      refine (HW.out _).mono ?_; rintro e w2 ⟨rfl, rfl⟩
      go_wp2_with fail
      go_ret2
      exact ⟨by rw [Hm.out]; rfl, bw_to hw hb1⟩
    subst h1
    cases h2 : d2
    · subst h2
      have Hm : Hid (ma = none) := Lib.hid (Hno.out (by rw [Hask.out, decide_eq_true h4]; rfl))
      have hd : decide (m.stage < 4) = false := by simp; omega
      have hd4 : 4 ≤ m.stage := h4
      clear Hask Hno Hyes Hat0 h4
      go_enter Tryz.func19, Tryz.ntmps19
      go_wp2_with fail
      refine box2 (C := fun W => Calls _ _ _ W _) ?_
      intro wb hw k1 k2 hB0
      have R1 := boxRule k1
      have R2 := boxRule k2
      refine (HG.out _ hw).mono ?_; rintro e w1 ⟨rfl, hb1⟩
      have r1 := fun i => R1 w1 i hb1
      go_wp2_with fail
      refine (HW.out _).mono ?_; rintro e w2 ⟨rfl, rfl⟩
      go_wp2_with fail
      refine (HI1.out _).mono ?_; rintro e w2 ⟨rfl, rfl⟩
      go_wp2_with fail
      go_ret2
      exact ⟨by rw [Hm.out]; rfl, bw_to hw hb1⟩
    subst h2
    cases h3 : d3
    · subst h3
      have Hm : Hid (ma = none) := Lib.hid (Hno.out (by rw [Hask.out, decide_eq_true h4]; rfl))
      have hd : decide (m.stage < 4) = false := by simp; omega
      have hd4 : 4 ≤ m.stage := h4
      clear Hask Hno Hyes Hat0 h4
      go_enter Tryz.func19, Tryz.ntmps19
      go_wp2_with fail
      refine box2 (C := fun W => Calls _ _ _ W _) ?_
      intro wb hw k1 k2 hB0
      have R1 := boxRule k1
      have R2 := boxRule k2
      refine (HG.out _ hw).mono ?_; rintro e w1 ⟨rfl, hb1⟩
      have r1 := fun i => R1 w1 i hb1
      go_wp2_with fail
      refine (HW.out _).mono ?_; rintro e w2 ⟨rfl, rfl⟩
      go_wp2_with fail
      refine (HI1.out _).mono ?_; rintro e w2 ⟨rfl, rfl⟩
      go_wp2_with fail
      refine (HI2.out _).mono ?_; rintro e w2 ⟨rfl, rfl⟩
      go_wp2_with fail
      go_ret2
      exact ⟨by rw [Hm.out]; rfl, bw_to hw hb1⟩
    subst h3
    by_cases h5 : i = j
    · subst h5
      have Hm : Hid (ma = none) := Lib.hid (Hno.out (by rw [Hask.out, decide_eq_true h4]; simp))
      have hd : decide (m.stage < 4) = false := by simp; omega
      have hd4 : 4 ≤ m.stage := h4
      clear Hask Hno Hyes Hat0 h4
      go_enter Tryz.func19, Tryz.ntmps19
      go_wp2_with fail
      refine box2 (C := fun W => Calls _ _ _ W _) ?_
      intro wb hw k1 k2 hB0
      have R1 := boxRule k1
      have R2 := boxRule k2
      refine (HG.out _ hw).mono ?_; rintro e w1 ⟨rfl, hb1⟩
      have r1 := fun i => R1 w1 i hb1
      go_wp2_with fail
      refine (HW.out _).mono ?_; rintro e w2 ⟨rfl, rfl⟩
      go_wp2_with fail
      refine (HI1.out _).mono ?_; rintro e w2 ⟨rfl, rfl⟩
      go_wp2_with fail
      refine (HI2.out _).mono ?_; rintro e w2 ⟨rfl, rfl⟩
      go_wp2_with fail
      go_ret2
      exact ⟨by rw [Hm.out]; rfl, bw_to hw hb1⟩
    have Hya : Hid (askM m k t lead i j = true) := Lib.hid (by
      have := Hask.out
      rw [decide_eq_true h4, decide_eq_false h5] at this
      rw [Hak.out, this]; rfl)
    have hat := Hat0.out.symm
    unfold askT at hat
    rw [Bool.and_eq_true] at hat
    obtain ⟨hc, htb⟩ := hat
    obtain ⟨n, hg⟩ := cgood_of hc
    have hst := hg.m.st
    have hn := hg.m.hi
    have hld := of_decide_eq_true Hd1.out.symm
    have hi2 := of_decide_eq_true Hd2.out.symm
    have hj2 := of_decide_eq_true Hd3.out.symm
    obtain ⟨l', hl'⟩ : ∃ l' : Nat, lead = (l' : Int) := ⟨lead.toNat, by omega⟩
    obtain ⟨i', hi'⟩ : ∃ i' : Nat, i = (i' : Int) := ⟨i.toNat, by omega⟩
    obtain ⟨j', hj'⟩ : ∃ j' : Nat, j = (j' : Int) := ⟨j.toNat, by omega⟩
    have hlt : l' < (headsT m k t).length := by rw [headsT_len]; omega
    have Hans := Lib.hid (Hyes.out (Hak.out.symm.trans Hya.out) l' hl' hlt)
    have Hhl := Lib.hid (headsT_len m k t)
    have hlast := headsT_last m k t
    have hpm := headsT_perm (k := k) hg.m t
    have Hhd := Lib.hid (fun W (hW : Below w.heap.size w W) => heads_any m (.slice A m.l.length c) k t n W hg (Hh.out.1.to hW) htb)
    rw [← headsT_n hst] at Hhd
    have hpl := hpm _ (List.getElem_mem hlt)
    have hpe : PermR n (endT m k t) := hpm _ (List.mem_of_getElem? hlast)
    obtain ⟨x, hx⟩ : ∃ x, x = (headsT m k t)[l'] := ⟨_, rfl⟩
    rw [← hx] at hpl Hans
    have Hxl : Hid ((headsT m k t)[l']? = some x) := Lib.hid (by rw [hx]; exact List.getElem?_eq_getElem hlt)
    have Hlast := Lib.hid hlast
    subst hl' hi' hj'
    rw [Int.toNat_natCast, Int.toNat_natCast] at Hans
    have hij : i' ≠ j' := fun e => h5 (by rw [e])
    have HX := Lib.hid (fun W => exchanged_any n x i' j' W hn hpl (by omega) (by omega) (by omega) (by omega) hij)
    have hps := swap_perm hn hpl (i := i') (j := j') (by omega) (by omega) (by omega) (by omega) hij
    have HR := Lib.hid (fun W (hW : Below w.heap.size w W) => implRepairTouch_any m (.slice A m.l.length c) k n (swapB i' j' x) (endT m k t) W hg hc (by omega) hps hpe (Hh.out.to hW) Hs.out Hk.out)
    have hstn : (headB m.stage.toNat m.l k.bob k.single) = headB n m.l k.bob k.single := by rw [hst]; rfl
    rw [hstn] at Hans
    rw [← Hans.out] at HR
    obtain ⟨hl, hhl⟩ : ∃ h, h = headsT m k t := ⟨_, rfl⟩
    rw [← hhl] at Hhd Hxl Hlast Hhl
    obtain ⟨en, hen⟩ : ∃ e, e = endT m k t := ⟨_, rfl⟩
    rw [← hen] at HR Hlast
    obtain ⟨sx, hsx⟩ : ∃ s, s = swapB i' j' x := ⟨_, rfl⟩
    rw [← hsx] at HR HX
    unfold Mt.v Cl.v at HR Hhd
    have hd : decide (m.stage < 4) = false := by simp; omega
    have hld2 : (l' : Int) ≤ (t.size : Int) - 1 := hld.2
    have hij2 : ¬ (i' : Int) = (j' : Int) := h5
    have htlen : t.size < t.size + 1 := Nat.lt_succ_self _
    have hl0 : (l' : Int) < (t.size : Int) + 1 := by omega
    clear Hask Hno Hyes Hat0 Hak Hya hc htb hg hst hn hld hi2 hj2 hlt hlast hpm hpl hpe hx hps hstn hhl hen hsx Hans h5 h4 hij
    go_enter Tryz.func19, Tryz.ntmps19
    go_wp2_with fail
    refine box2 (C := fun W => Calls _ _ _ W _) ?_
    intro wb hw k1 k2 hB0
    have R1 := boxRule k1
    have R2 := boxRule k2
    refine (HG.out _ hw).mono ?_; rintro e w1 ⟨rfl, hb1⟩
    have r1 := fun i => R1 w1 i hb1
    go_wp2_with fail
    refine (HW.out _).mono ?_; rintro e w2 ⟨rfl, rfl⟩
    go_wp2_with fail
    refine (HI1.out _).mono ?_; rintro e w2 ⟨rfl, rfl⟩
    go_wp2_with fail
    refine (HI2.out _).mono ?_; rintro e w2 ⟨rfl, rfl⟩
    go_wp2_with fail
    have HB1 := bw_to hw hb1
    refine (Hhd.out _ HB1).mono ?_; rintro e w3 ⟨A3, q3, rfl, hown3, hb3⟩
    have hB3 := bw_to hb1 hb3
    have hc1 : ∀ u : Aft w3, u.w.cell? ⟨w.heap.size, 0, none⟩ = some (.string m.name) := fun u => R1 u.w 0 (bw_to hB3 u.h)
    have Hown3 := Lib.hid hown3
    obtain ⟨g3, hg3, _⟩ := own_ptr hown3 (by omega)
    subst hg3
    have hcl : ∀ u : Aft w3, u.w.cell? ⟨g3, l', none⟩ = some (.string x) := fun u => by
      have h1 := (own_to Hown3.out u.h).cellAt l' (by omega)
      rw [h1, List.getElem?_map, Hxl.out]; rfl
    have hce : ∀ u : Aft w3, u.w.cell? ⟨g3, t.size, none⟩ = some (.string en) := fun u => by
      have h1 := (own_to Hown3.out u.h).cellAt t.size (by omega)
      rw [h1, List.getElem?_map, Hlast.out]; rfl
    have hr1 := fun (u : Aft w3) i => R1 u.w i (bw_to hB3 u.h)
    have hr2 := fun (u : Aft w3) i => R2 u.w i (bw_to hB3 u.h)
    have hw3 := bw_to hw hB3
    have hBr := Below.refl w3.heap.size w3
    clear hown3 hc1
    go_upto_region 4 with fail
    refine wp_region_aft (wb := w3) (by kernel_rfl) (by kernel_rfl) hBr ?_
    repeat (go_big_quiet_step ((first | (go_at_call 106; exact calls_aft fun w hw => HX.out w) | (go_at_call 105; exact calls_aft fun w hw => HR.out w (bw_to hw3 hw)))))
    refine wpQuiet_nil ?_
    rintro _ ⟨u3, rfl⟩
    have hB7 := u3.h
    generalize u3.w = w7 at hB7 ⊢
    have hB37 := bw_to hw3 hB7
    clear hcl hce hr1 hr2
    go_wp2_with fail
    go_ret2
    exact ⟨rfl, hB37⟩
  · have Hm : Hid (ma = none) := Lib.hid (Hno.out (by rw [Hask.out, decide_eq_false h4]; rfl))
    have hd : m.stage < 4 := by omega
    clear Hask Hno Hyes Hat0 h4
    go_enter Tryz.func19, Tryz.ntmps19
    go_wp2_with fail
    refine box2 (C := fun W => Calls _ _ _ W _) ?_
    intro wb hw k1 k2 hB0
    have R1 := boxRule k1
    refine (HG.out _ hw).mono ?_; rintro e w1 ⟨rfl, hb1⟩
    go_wp2_with fail
    go_ret2
    exact ⟨by rw [Hm.out]; rfl, bw_to hw hb1⟩
end Go.Proofs.YtjiiflpoiaaccaaGreat
