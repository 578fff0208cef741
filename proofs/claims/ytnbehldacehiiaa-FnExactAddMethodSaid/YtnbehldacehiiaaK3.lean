/- Contract: a method added to a library, the program's side. -/
import Derived.Test.YtnbehldacehiiaaK2
import Derived.Test.YtnbehldacehiiaaD1
namespace Go.Proofs.Ytnbehldacehiiaa
open Go Go.RowKit
set_option linter.unusedVariables false
set_option linter.unusedSimpArgs false

theorem mflat_cut (ps : List (Mt × Value)) (k : Nat) : (ps.flatMap mcells).take (k * 3) = (ps.take k).flatMap mcells ∧ (ps.flatMap mcells).drop (k * 3) = (ps.drop k).flatMap mcells := by
  induction ps generalizing k with
  | nil => simp
  | cons p ps ih =>
    cases k with
    | zero => simp
    | succ k =>
      have hc : mcells p = [.string p.1.name, .int .i64 p.1.stage, p.2] := rfl
      rw [List.flatMap_cons, List.take_succ_cons, List.drop_succ_cons, List.flatMap_cons, show (k + 1) * 3 = 3 + k * 3 by omega]
      have hl : (mcells p).length = 3 := rfl
      constructor
      · rw [List.take_append, List.take_of_length_le (by omega), hl, show 3 + k * 3 - 3 = k * 3 by omega, (ih k).1]
      · rw [List.drop_append, List.drop_of_length_le (by omega), hl, show 3 + k * 3 - 3 = k * 3 by omega, (ih k).2]; rfl
def insP (ps : List (Mt × Value)) (k : Nat) (p : Mt × Value) : List (Mt × Value) := ps.take k ++ [p] ++ ps.drop k
theorem insP_fst {ps : List (Mt × Value)} {ms : List Mt} (h : ps.map Prod.fst = ms) (k : Nat) (p : Mt × Value) : (insP ps k p).map Prod.fst = insAt ms k p.1 := by
  subst h
  unfold insP insAt
  simp [List.map_take, List.map_drop]
theorem insP_perm (ps : List (Mt × Value)) (k : Nat) (p : Mt × Value) : (ps ++ [p]).Perm (insP ps k p) := by
  unfold insP
  have h := List.take_append_drop k ps
  calc ps ++ [p] = ps.take k ++ (ps.drop k ++ [p]) := by rw [← List.append_assoc, h]
    _ |>.Perm (ps.take k ++ ([p] ++ ps.drop k)) := List.Perm.append_left _ List.perm_append_comm
    _ = _ := by rw [List.append_assoc]
theorem Apart.perm {ps qs : List (Mt × Value)} (h : Apart ps) (hp : ps.Perm qs) : Apart qs := (hp.pairwise_iff (fun h => ⟨h.2, h.1⟩)).1 h
theorem OwnP.ins {wA w3 : World} {base : Nat} {V V2 x : Value} {ps : List (Mt × Value)} {m : Mt} {k n : Nat} (hk : k ≤ ps.length) (hn : n = ps.length) (h : OwnP wA base V ps) (hx : wA.ownsRow base 9 1 x m.l.length (m.l.map Value.string))
    (h3 : w3.ownsRow base 36 3 V2 (n + 1) ((ps.flatMap mcells).take (k * 3) ++ [.string m.name, .int .i64 m.stage, x] ++ (ps.flatMap mcells).drop (k * 3))) (hg : wA.grownBy w3 V.ownBlock) : OwnP w3 base V2 (insP ps k (m, x)) := by
  subst hn
  refine ⟨?_, ?_⟩
  · have e : (insP ps k (m, x)).length = ps.length + 1 := by unfold insP; simp; omega
    have e2 : (insP ps k (m, x)).flatMap mcells = (ps.flatMap mcells).take (k * 3) ++ [.string m.name, .int .i64 m.stage, x] ++ (ps.flatMap mcells).drop (k * 3) := by
      rw [(mflat_cut ps k).1, (mflat_cut ps k).2]
      unfold insP
      rw [List.flatMap_append, List.flatMap_append]
      rfl
    rw [e, e2]; exact h3
  · intro p hp
    have hp' := (insP_perm ps k (m, x)).mem_iff.2 hp
    rcases List.mem_append.1 hp' with hp | hp
    · exact (h.2 p hp).kept hg (own_kinds (h.2 p hp) h.1 (by decide))
    · rw [List.mem_singleton.1 hp]; exact hx.kept hg (own_kinds hx h.1 (by decide))
theorem OwnD.base {w : World} {b b' : Nat} {v : Value} {ms : List Mt} (h : OwnD w b v ms) (hb : b' ≤ b) : OwnD w b' v ms :=
  let ⟨ps, e, h1, h2⟩ := h; ⟨ps, e, ⟨own_base h1.1 hb, fun p hp => own_base (h1.2 p hp) hb⟩, h2⟩
theorem ret_vb {v : Value} {p q : Bool} (k : q = p) : Ending.returned (.tuple #[v, .bool p]) = .returned (.tuple #[v, .bool q]) := by rw [k]
theorem insMt_any (base n i H : Nat) (v : Value) (cs vs : List Value) (w : World) (hown : w.ownsRow base 36 3 v n cs) (hi : i ≤ n) (hn : n ≤ 100000) (hbase : base ≤ w.heap.size)
    (hv : w.heap[H]? = some (.cells vs.toArray 36 (0, 0))) (hvl : vs.length = 3) (h1 : ∀ u ∈ vs, u.oneCell' = true) (h1c : ∀ u ∈ cs, u.oneCell' = true) (hH : ∀ k, v.ownBlock = some k → k ≠ H) :
    Calls Try.prog 66 #[v, .int .i64 i, .slice (some ⟨H, 0, none⟩) 1 1] w fun e w' =>
      ∃ r, e = .returned r ∧ w'.ownsRow base 36 3 r (n + 1) (cs.take (i * 3) ++ vs ++ cs.drop (i * 3)) ∧ Below base w w' ∧ w.grownBy w' v.ownBlock := by
  have hcl := hown.1
  by_cases hin : i = n
  · subst hin
    refine (insMt_end base i H v cs vs w hown hn hbase hv hvl h1).mono ?_
    rintro e w' ⟨r, he, ho, hb, hg⟩
    refine ⟨r, he, ?_, hb, hg⟩
    rw [List.take_of_length_le (by omega), List.drop_of_length_le (by omega), List.append_nil]
    exact ho
  · obtain ⟨g, c, rfl, _, _⟩ := hown.form (by omega)
    have hHg : H ≠ g := fun e => hH g rfl e.symm
    by_cases hr : n + 1 ≤ c
    · exact insMt_shift base n c g i H cs vs w hown (by omega) hr hv hvl h1 h1c hHg
    · exact insMt_grow base n c g i H cs vs w hown (by omega) hn (by omega) hbase hv hvl h1 h1c
theorem small_ins {ms : List Mt} {m : Mt} (k : Nat) (h : libB ms = true) (hs : AllSmall ms) (hm : MtSmall m) : AllSmall (insAt ms k m) := by
  have hl := ((lib_iff ms).1 h).1
  refine ⟨by unfold insAt; simp; omega, fun x hx => ?_⟩
  unfold insAt at hx
  rcases List.mem_append.1 hx with hx | hx
  · rcases List.mem_append.1 hx with hx | hx
    · exact hs.2 x (List.mem_of_mem_take hx)
    · rw [List.mem_singleton.1 hx]; exact hm
  · exact hs.2 x (List.mem_of_mem_drop hx)
theorem take_lt {ms : List Mt} {m : Mt} {k : Nat} (hk : k < ms.length) (h : ∀ x ∈ ms.take k, nmLt x.name m.name = true) (h1 : nmLt (ms[k]'hk).name m.name = true) : ∀ x ∈ ms.take (k + 1), nmLt x.name m.name = true := take_allM (p := fun x => nmLt x.name m.name = true) hk h h1
set_option maxRecDepth 100000 in
set_option maxHeartbeats 4000000 in
theorem implAddMethod_any (V : Value) (ms : List Mt) (m : Mt) (x : Value) (w : World) (h : MethsN w V ms) (hs : AllSmall ms) (hm : MethAt w m x) (hn : NilOk x) (hms : MtSmall m) : Calls Try.prog 27 #[V, .agg #[.string m.name, .int .i64 m.stage, x]] w fun e w' =>
    ∃ r, e = .returned (.tuple #[r, .bool (addB ms m)]) ∧ OwnD w' w.heap.size r (addM ms m) ∧ Below w.heap.size w w' := by
  have Hno1 := Lib.hid (fun h => (⟨add_no1 h, addM_no (add_no1 h)⟩ : addB ms m = false ∧ addM ms m = []))
  have Hno2 := Lib.hid (fun h => (⟨add_no2 h, addM_no (add_no2 h)⟩ : addB ms m = false ∧ addM ms m = []))
  have Hat : Hid (∀ k, PosAt ms m k → libB ms = true → methB m = true → addB ms m = libB (insAt ms k m) ∧ (libB (insAt ms k m) = true → addM ms m = insAt ms k m) ∧ (libB (insAt ms k m) = false → addM ms m = [])) := Lib.hid (fun k hp hl hm => ⟨(add_at hp hl hm).1, (add_at hp hl hm).2, fun h => addM_no ((add_at hp hl hm).1.trans h)⟩)
  obtain ⟨B, hB⟩ : ∃ B, B = addB ms m := ⟨_, rfl⟩
  obtain ⟨L, hL⟩ : ∃ L, L = addM ms m := ⟨_, rfl⟩
  rw [← hB, ← hL] at Hno1 Hno2 Hat ⊢
  clear hB hL
  obtain ⟨Ax, cx, hx⟩ : ∃ A c, x = .slice A m.l.length c := hm.form
  subst hx
  have HV := Lib.hid h
  have Hs := Lib.hid hs
  have Hm := Lib.hid hm
  have Hn := Lib.hid hn
  have Hms := Lib.hid hms
  obtain ⟨vs, hvl, ⟨A, c, rfl, h1, h2, hr⟩, hat⟩ := h
  unfold maxLen at h2
  have Hel := Lib.hid hat
  clear hat hs hm hn hms
  go_enter Try.func27, Try.ntmps27
  go_wp2_with fail
  refine box1 (C := fun W => Calls _ _ _ W _) ?_
  intro wb hw k1 hB0
  have RK := boxRule k1
  have HRK := Lib.hid RK
  have Hk1 := Lib.hid k1
  clear k1 RK
  refine (implGoodLibrary_any _ _ _ (HV.out.meths.to hw) Hs.out).mono ?_; rintro e w1 ⟨rfl, hb1⟩
  cases hl : libB ms
  · have Hx := Lib.hid (Hno1.out hl)
    clear hl
    go_wp2_with fail
    go_ret2
    exact ⟨_, ret_vb Hx.out.1, by rw [Hx.out.2]; exact OwnD.nil _ _, bw_to hw hb1⟩
  have Hl := Lib.hid hl
  have hlen := ((lib_iff ms).1 hl).1
  clear hl
  have hr1 := fun o => HRK.out w1 o hb1
  go_wp2_with fail
  refine (implGoodMethod_any m _ _ (Hm.out.to (bw_to hw hb1)) Hms.out).mono ?_; rintro e w2 ⟨rfl, hb2⟩
  have hB2 := bw_to hb1 hb2
  cases hg : methB m
  · have Hx := Lib.hid (Hno2.out hg)
    clear hg
    go_wp2_with fail
    go_ret2
    exact ⟨_, ret_vb Hx.out.1, by rw [Hx.out.2]; exact OwnD.nil _ _, bw_to hw hB2⟩
  have Hg := Lib.hid hg
  clear hg hb1 hb2 hr1
  go_wp2_with fail
  have hBq := bw_al hB2 (.cells #[] 36)
  have hO0 : OwnP (w2.alloc (.cells #[] 36)) wb.heap.size (.slice (some ⟨w2.heap.size, 0, none⟩) 0 0) [] := ⟨own_of_heap (cs := #[]) (n := 0) (heap_new w2 _) hB2.size (by unfold maxLen; omega) rfl, fun p hp => by cases hp⟩
  have HO0 := Lib.hid hO0
  clear hO0
  go_loopw [6, 21] (fun o i wr => ∃ k : Nat, ∃ ps, k ≤ ms.length ∧ i = .int .i64 k ∧ ps.map Prod.fst = ms.take k ∧ OwnP wr wb.heap.size o ps ∧ Apart ps ∧ Below wb.heap.size wb wr) (fun _ i _ => ms.length - (intOf i).toNat)
  case atStart => exact ⟨0, [], by omega, rfl, rfl, HO0.out, List.Pairwise.nil, hBq⟩
  case round =>
    obtain ⟨k, ps, hk, rfl, hps, hO, hap, hB⟩ := hrel
    have Hps := Lib.hid hps
    have HO := Lib.hid hO
    have Hap := Lib.hid hap
    have hpl : ps.length = k := by have := congrArg List.length hps; simpa [Nat.min_eq_left hk] using this
    obtain ⟨Ao, co, e0, _⟩ := sl_of_own hO.1
    subst e0
    subst hpl
    clear hps hO hap hBq HO0 hB2
    by_cases hlt : ps.length < ms.length
    · obtain ⟨ad, v, rfl, hmem, hC⟩ := meths_el hvl hr rfl hlt
      have hm := (Hel.out _ hmem).1.to (bw_to hw hB)
      have hn := (Hel.out _ hmem).2
      have Htk := Lib.hid (List.take_succ_eq_append_getElem hlt)
      have hl := (Hs.out.2 _ (List.getElem_mem hlt)).2.1
      have hc0 := hC wr (bw_to hw hB)
      obtain ⟨y, em⟩ : ∃ y, y = ms[ps.length] := ⟨_, rfl⟩
      rw [← em] at hc0 hm hn Htk hl
      have Hy := Lib.hid hm
      have Hny := Lib.hid hn
      obtain ⟨Av, cv, hv⟩ : ∃ A c, v = .slice A y.l.length c := hm.form
      subst hv
      clear hmem em hm hn hC
      go_wp2_with fail
      refine (copyMethod_any y _ _ (Hy.out.1.to (bw_al (Below.refl _ _) _)) Hny.out (by omega)).mono ?_; rintro e w3 ⟨A1, c1, rfl, hown1, hb1⟩
      have hb1' := bw_to (bw_al (Below.refl _ wr) _) hb1
      have hbA := bw_to hb1' (bw_al (Below.refl _ w3) (.cells #[.string y.name, .int .i64 y.stage, .slice A1 y.l.length c1] 36))
      have HOA := HO.out.to hbA
      have HBA := bw_to hB hbA
      have hx := own_base (own_to hown1 (bw_al (Below.refl _ w3) (.cells #[.string y.name, .int .i64 y.stage, .slice A1 y.l.length c1] 36))) (show wb.heap.size ≤ _ from Nat.le_trans hB.size (by simp))
      have hap1 := Hap.out.snoc (m := y) HO.out (x := .slice A1 y.l.length c1) (fun k hk => Nat.le_trans (by simp) (hown1.lt k hk).1)
      have hnew : (w3.alloc (.cells #[.string y.name, .int .i64 y.stage, .slice A1 y.l.length c1] 36)).ownsRow 0 36 3 (.slice (some ⟨w3.heap.size, 0, none⟩) 1 1) 1 [.string y.name, .int .i64 y.stage, .slice A1 y.l.length c1] := own_of_heap (heap_new w3 _) (Nat.zero_le _) (by unfold maxLen; omega) rfl
      have hsl := sl_of_own hnew
      have hnl := nilok_own hnew
      have Hx := Lib.hid hx
      have HHA := Lib.hid HOA
      have Hap1 := Lib.hid hap1
      have hrow := HOA.1
      have hsz := HBA.size
      clear hx hown1 hnew HOA hb1' hbA hb1 hap1
      go_wp2_with (at_builtin; go_must (refine wpList_app_sl _ rfl _ _ _ rfl wb.heap.size 36 _ 3 48 Try.underlying25 info_meth rfl (by omega) hrow rfl hsl hnl rfl (by simp [Value.oneCell']) (by omega) (by omega) hsz ?_); intro v2 w4 hown3 hb3 hg3 _)
      obtain ⟨A2, c2, e2, _⟩ := sl_of_own hown3
      subst e2
      exact ⟨⟨ps.length + 1, _, by omega, by go_num, by rw [List.map_append, Hps.out, Htk.out]; rfl, OwnP.push HHA.out Hx.out hown3 hg3, Hap1.out, HBA.trans hb3⟩, by simp [intOf]; omega⟩
    · have Hpm : Hid (ps.map Prod.fst = ms) := Lib.hid (by rw [Hps.out, List.take_of_length_le (by omega)])
      have hpe : ps.length = ms.length := by omega
      clear hlt hk Hps
      rw [hpe] at HO
      obtain ⟨wo, rfl⟩ : ∃ wo, wo = wr := ⟨_, rfl⟩
      have HB0 := Lib.hid hB
      go_wp2_with fail
      go_loopw [9] (fun i wr => ∃ k : Nat, k ≤ ms.length ∧ i = .int .i64 k ∧ (∀ x ∈ ms.take k, nmLt x.name m.name = true) ∧ Below wo.heap.size wo wr) (fun i _ => ms.length - (intOf i).toNat)
      case atStart => exact ⟨0, by omega, rfl, by simp, Below.refl _ _⟩
      case round =>
        obtain ⟨k, hk, rfl, hle, hB⟩ := hrel
        have Hle := Lib.hid hle
        clear hle
        by_cases hlt : k < ms.length
        · obtain ⟨ad, v, rfl, hmem, hC⟩ := meths_el hvl hr rfl hlt
          have hBw := bw_to HB0.out hB
          have hc0 := (hC wr (bw_to hw hBw)).1
          have hr0 := fun o => HRK.out wr o hBw
          have Htk := Lib.hid (take_lt hlt Hle.out)
          have Hps := Lib.hid (fun (h : nmLt (ms[k]'hlt).name m.name = false) => (⟨hk, Hle.out, fun _ => h⟩ : PosAt ms m k))
          obtain ⟨y, ex⟩ : ∃ y, y = ms[k].name := ⟨_, rfl⟩
          rw [← ex] at hc0 Htk Hps
          clear hC ex hmem hBw
          cases hd : Op.bytesLess y.toList m.name.toList
          · have HP := Lib.hid (Hps.out hd)
            clear Hps Htk
            go_wp2_with fail
            go_big_quiet (fail)
            have hBq := bw_dr hB nq
            clear hB hc0 hr0
            generalize wr.drewN nq = wq at hBq ⊢
            have hOq := HO.out.to hBq
            have hBw := bw_to HB0.out hBq
            have Hr1 := fun o => HRK.out wq o hBw
            have hat := Hat.out k HP.out Hl.out Hg.out
            have HAT := Lib.hid hat
            have hszo : wo.heap.size ≤ wq.heap.size := hBq.size
            have hok : ∀ g, (Value.slice Ao ms.length co).ownBlock = some g → g < wo.heap.size := fun g hg => (HO.out.1.lt g hg).2
            have Hok := Lib.hid hok
            have HOq := Lib.hid hOq
            have HBw := Lib.hid hBw
            have hkk : k ≤ ps.length := by omega
            clear hat hok hOq hBw hBq
            go_wp2_with fail
            refine (copyMethod_any m _ _ (Hm.out.1.to (bw_to hw HBw.out)) Hn.out (by have := Hms.out.2.1; omega)).mono ?_; rintro e w3 ⟨A1, c1, rfl, hown1, hb1⟩
            have hbA := bw_to hb1 (bw_al (Below.refl _ w3) (.cells #[.string m.name, .int .i64 m.stage, .slice A1 m.l.length c1] 36))
            have HBA := bw_to HBw.out hbA
            have HOA := HOq.out.to hbA
            have hx := own_base (own_to hown1 (bw_al (Below.refl _ w3) (.cells #[.string m.name, .int .i64 m.stage, .slice A1 m.l.length c1] 36))) (show wb.heap.size ≤ _ from HBw.out.size)
            have hap1 := Hap.out.snoc (m := m) HOq.out (x := .slice A1 m.l.length c1) (fun k hk => (hown1.lt k hk).1)
            have hrow := HOA.1
            rw [hpe] at hrow
            have hins := insMt_any wb.heap.size ms.length k w3.heap.size (.slice Ao ms.length co) _ [.string m.name, .int .i64 m.stage, .slice A1 m.l.length c1] _ hrow (hpe ▸ hkk) (by omega) HBA.size (heap_new w3 _) rfl (by simp [Value.oneCell']) HOA.one (fun g hg => Nat.ne_of_lt (Nat.lt_of_lt_of_le (Hok.out g hg) (Nat.le_trans hszo hb1.size)))
            have HIns := Lib.hid hins
            have HHA := Lib.hid HBA
            have Hfin := Lib.hid (fun r4 w4 ho4 hg4 => (⟨_, insP_fst Hpm.out k (m, .slice A1 m.l.length c1), OwnP.ins (V2 := r4) (w3 := w4) (k := k) (n := ms.length) hkk hpe.symm HOA hx ho4 hg4, hap1.perm (insP_perm ps k _)⟩ : OwnD w4 wb.heap.size r4 (insAt ms k m)))
            have Hsm := Lib.hid (small_ins k Hl.out Hs.out Hms.out)
            clear hins hrow HBA HOA hx hap1 hbA hb1 hown1 Hr1
            go_wp2_with fail
            refine HIns.out.mono ?_; rintro e w4 ⟨r4, rfl, ho4, hb4, hg4⟩
            have hD : OwnD w4 wb.heap.size r4 (insAt ms k m) := Hfin.out r4 w4 ho4 hg4
            have hB4 := bw_to hw (HHA.out.trans hb4)
            have HD := Lib.hid hD
            have HB4 := Lib.hid hB4
            obtain ⟨A4, c4, e4, _⟩ := sl_of_own ho4
            subst e4
            have hgl := implGoodLibrary_any _ (insAt ms k m) w4 (hD.own.meths Hsm.out) Hsm.out
            clear ho4 hb4 hg4 hD hB4
            cases hz : libB (insAt ms k m)
            all_goals
              rw [hz] at hgl
              have Hz := Lib.hid hz
              have Hgl := Lib.hid hgl
              clear hz hgl
            · go_wp2_with fail
              refine Hgl.out.mono ?_; rintro e w5 ⟨rfl, hb5⟩
              go_wp2_with fail
              go_ret2
              exact ⟨_, ret_vb (HAT.out.1.trans Hz.out), by rw [HAT.out.2.2 Hz.out]; exact OwnD.nil _ _, bw_to HB4.out hb5⟩
            · go_wp2_with fail
              refine Hgl.out.mono ?_; rintro e w5 ⟨rfl, hb5⟩
              go_wp2_with fail
              go_ret2
              exact ⟨_, ret_vb (HAT.out.1.trans Hz.out), by rw [HAT.out.2.1 Hz.out]; exact (HD.out.to hb5).base hw.size, bw_to HB4.out hb5⟩
          · have Hnx := Lib.hid (Htk.out hd)
            clear Hps Htk
            go_wp2_with fail
            go_big_quiet (fail)
            go_wp2_with fail
            exact ⟨⟨k + 1, by omega, by go_num, Hnx.out, bw_dr hB _⟩, by simp [intOf]; omega⟩
        · have HP := Lib.hid (⟨hk, Hle.out, fun h => absurd h hlt⟩ : PosAt ms m k)
          have hr0 := fun o => HRK.out wr o (bw_to HB0.out hB)
          go_wp2_with fail
          go_big_quiet (fail)
          have hBq := bw_dr hB nq
          clear hB hr0
          generalize wr.drewN nq = wq at hBq ⊢
          have hOq := HO.out.to hBq
          have hBw := bw_to HB0.out hBq
          have Hr1 := fun o => HRK.out wq o hBw
          have hat := Hat.out k HP.out Hl.out Hg.out
          have HAT := Lib.hid hat
          have hszo : wo.heap.size ≤ wq.heap.size := hBq.size
          have hok : ∀ g, (Value.slice Ao ms.length co).ownBlock = some g → g < wo.heap.size := fun g hg => (HO.out.1.lt g hg).2
          have Hok := Lib.hid hok
          have HOq := Lib.hid hOq
          have HBw := Lib.hid hBw
          have hkk : k ≤ ps.length := by omega
          clear hat hok hOq hBw hBq
          go_wp2_with fail
          refine (copyMethod_any m _ _ (Hm.out.1.to (bw_to hw HBw.out)) Hn.out (by have := Hms.out.2.1; omega)).mono ?_; rintro e w3 ⟨A1, c1, rfl, hown1, hb1⟩
          have hbA := bw_to hb1 (bw_al (Below.refl _ w3) (.cells #[.string m.name, .int .i64 m.stage, .slice A1 m.l.length c1] 36))
          have HBA := bw_to HBw.out hbA
          have HOA := HOq.out.to hbA
          have hx := own_base (own_to hown1 (bw_al (Below.refl _ w3) (.cells #[.string m.name, .int .i64 m.stage, .slice A1 m.l.length c1] 36))) (show wb.heap.size ≤ _ from HBw.out.size)
          have hap1 := Hap.out.snoc (m := m) HOq.out (x := .slice A1 m.l.length c1) (fun k hk => (hown1.lt k hk).1)
          have hrow := HOA.1
          rw [hpe] at hrow
          have hins := insMt_any wb.heap.size ms.length k w3.heap.size (.slice Ao ms.length co) _ [.string m.name, .int .i64 m.stage, .slice A1 m.l.length c1] _ hrow (hpe ▸ hkk) (by omega) HBA.size (heap_new w3 _) rfl (by simp [Value.oneCell']) HOA.one (fun g hg => Nat.ne_of_lt (Nat.lt_of_lt_of_le (Hok.out g hg) (Nat.le_trans hszo hb1.size)))
          have HIns := Lib.hid hins
          have HHA := Lib.hid HBA
          have Hfin := Lib.hid (fun r4 w4 ho4 hg4 => (⟨_, insP_fst Hpm.out k (m, .slice A1 m.l.length c1), OwnP.ins (V2 := r4) (w3 := w4) (k := k) (n := ms.length) hkk hpe.symm HOA hx ho4 hg4, hap1.perm (insP_perm ps k _)⟩ : OwnD w4 wb.heap.size r4 (insAt ms k m)))
          have Hsm := Lib.hid (small_ins k Hl.out Hs.out Hms.out)
          clear hins hrow HBA HOA hx hap1 hbA hb1 hown1 Hr1
          go_wp2_with fail
          refine HIns.out.mono ?_; rintro e w4 ⟨r4, rfl, ho4, hb4, hg4⟩
          have hD : OwnD w4 wb.heap.size r4 (insAt ms k m) := Hfin.out r4 w4 ho4 hg4
          have hB4 := bw_to hw (HHA.out.trans hb4)
          have HD := Lib.hid hD
          have HB4 := Lib.hid hB4
          obtain ⟨A4, c4, e4, _⟩ := sl_of_own ho4
          subst e4
          have hgl := implGoodLibrary_any _ (insAt ms k m) w4 (hD.own.meths Hsm.out) Hsm.out
          clear ho4 hb4 hg4 hD hB4
          cases hz : libB (insAt ms k m)
          all_goals
            rw [hz] at hgl
            have Hz := Lib.hid hz
            have Hgl := Lib.hid hgl
            clear hz hgl
          · go_wp2_with fail
            refine Hgl.out.mono ?_; rintro e w5 ⟨rfl, hb5⟩
            go_wp2_with fail
            go_ret2
            exact ⟨_, ret_vb (HAT.out.1.trans Hz.out), by rw [HAT.out.2.2 Hz.out]; exact OwnD.nil _ _, bw_to HB4.out hb5⟩
          · go_wp2_with fail
            refine Hgl.out.mono ?_; rintro e w5 ⟨rfl, hb5⟩
            go_wp2_with fail
            go_ret2
            exact ⟨_, ret_vb (HAT.out.1.trans Hz.out), by rw [HAT.out.2.1 Hz.out]; exact (HD.out.to hb5).base hw.size, bw_to HB4.out hb5⟩
end Go.Proofs.Ytnbehldacehiiaa
