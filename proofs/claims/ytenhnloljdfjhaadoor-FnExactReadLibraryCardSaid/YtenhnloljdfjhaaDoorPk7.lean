/- Contracts: libraries (their goodness). -/
import Derived.Test.YtenhnloljdfjhaaDoorPk6
namespace Go.Proofs.YtenhnloljdfjhaaDoor
open Go Go.RowKit
set_option linter.unusedVariables false
set_option linter.unusedSimpArgs false

def nmLt (p q : ByteArray) : Bool := Op.bytesLess p.toList q.toList
theorem less_tot : ∀ x y : List UInt8, (Op.bytesLess x y || x == y) = !Op.bytesLess y x
  | [], [] => rfl
  | [], _ :: _ => rfl
  | _ :: _, [] => rfl
  | a :: x, b :: y => by
    have ih := less_tot x y
    rw [Op.bytesLess, Op.bytesLess]
    by_cases h1 : a < b
    · have h2 : ¬ b < a := by simp only [UInt8.lt_iff_toNat_lt] at *; omega
      have h3 : ¬ b = a := by rintro rfl; simp only [UInt8.lt_iff_toNat_lt] at *; omega
      simp [h1, h2, h3]
    · by_cases h2 : b < a
      · have h3 : ¬ a = b := by rintro rfl; simp only [UInt8.lt_iff_toNat_lt] at *; omega
        simp [h1, h2, h3]
      · have h3 : a = b := by simp only [UInt8.lt_iff_toNat_lt] at *; exact UInt8.toNat_inj.1 (by omega)
        subst h3
        simp only [h1, decide_false, beq_self_eq_true, Bool.true_and, Bool.false_or]
        rw [← ih]
        simp
theorem MethAt.form {w : World} {m : Mt} {v : Value} (h : MethAt w m v) : ∃ A c, v = .slice A m.l.length c := let ⟨A, c, e, _⟩ := h.1; ⟨A, c, e⟩
def dM : Mt := ⟨⟨#[]⟩, 0, []⟩
def okAt (ms : List Mt) (k : Nat) : Bool := methB (ms.getD k dM) && (decide (k = 0) || nmLt (ms.getD (k - 1) dM).name (ms.getD k dM).name)
def libB (ms : List Mt) : Bool := decide (ms.length ≤ 30) && (List.range ms.length).all (okAt ms)
theorem getD_at {ms : List Mt} {k : Nat} (h : k < ms.length) : ms.getD k dM = ms[k] := by rw [List.getD_eq_getElem?_getD, List.getElem?_eq_getElem h]; rfl
theorem lib_no {ms : List Mt} {k : Nat} (h : k < ms.length) (ho : okAt ms k = false) : libB ms = false := by
  unfold libB
  have : (List.range ms.length).all (okAt ms) = false := by
    rw [List.all_eq_false]
    exact ⟨k, List.mem_range.2 h, by simp [ho]⟩
  rw [this, Bool.and_false]
theorem lib_step {ms : List Mt} {k : Nat} (ha : (List.range k).all (okAt ms) = true) (ho : okAt ms k = true) : (List.range (k + 1)).all (okAt ms) = true := by
  rw [List.range_succ, List.all_append, ha]; simp [ho]
theorem ok_bad {ms : List Mt} {k : Nat} (h : k < ms.length) (hm : methB ms[k] = false) : okAt ms k = false := by rw [okAt, getD_at h, hm]; rfl
theorem ok_first {ms : List Mt} (h : 0 < ms.length) (hm : methB ms[0] = true) : okAt ms 0 = true := by rw [okAt, getD_at h, hm]; rfl
theorem ok_next {ms : List Mt} {k : Nat} {b : Bool} (h : k < ms.length) (h0 : 0 < k) (hm : methB ms[k] = true) (hp : nmLt (ms[k - 1]'(by omega)).name ms[k].name = b) : okAt ms k = b := by
  rw [okAt, getD_at h, getD_at (show k - 1 < ms.length by omega), hm, hp, decide_eq_false (by omega)]; simp
theorem l4Good_as {m : Mt} {v : Value} {w : World} {r : Bool} (hr : methB m = r) (h : MethAt w m v) (hs : MtSmall m) : Calls Tryd.prog 27 #[m.v v] w fun e w' => e = .returned (.bool r) ∧ Below w.heap.size w w' := by subst hr; exact l4Good_any m v w h hs
theorem implGoodMethod_as {m : Mt} {v : Value} {w : World} {r : Bool} (hr : methB m = r) (h : MethAt w m v) (hs : MtSmall m) : Calls Tryd.prog 34 #[m.v v] w fun e w' => e = .returned (.bool r) ∧ Below w.heap.size w w' := by subst hr; exact implGoodMethod_any m v w h hs
set_option maxRecDepth 100000 in
set_option maxHeartbeats 4000000 in
theorem l29Good_any (V : Value) (ms : List Mt) (w : World) (h : Meths w V ms) (hs : AllSmall ms) : Calls Tryd.prog 12 #[V] w fun e w' => e = .returned (.bool (libB ms)) ∧ Below w.heap.size w w' := by
  obtain ⟨vs, hvl, ⟨A, c, rfl, h1, h2, hr⟩, hat⟩ := h
  unfold maxLen at h2
  have Hat := Lib.hid hat
  have Hsm := Lib.hid hs.2
  have hlen := hs.1
  clear hat hs
  go_enter Tryd.func12, Tryd.ntmps12
  go_wp2_with fail
  go_loopw [7] (fun i wr => ∃ k : Nat, k ≤ ms.length ∧ i = .int .i64 k ∧ (List.range k).all (okAt ms) = true ∧ Below w.heap.size w wr) (fun i _ => ms.length - (intOf i).toNat)
  case atStart => exact ⟨0, by omega, rfl, rfl, Below.refl _ _⟩
  case round =>
    obtain ⟨k, hk, rfl, hok, hB⟩ := hrel
    have Hok := Lib.hid hok
    clear hok
    by_cases hlt : k < ms.length
    · obtain ⟨ad, v, rfl, hmem, hC⟩ := meths_el hvl hr rfl hlt
      have hm := (Hat.out _ hmem).to hB
      obtain ⟨Av, cv, hv⟩ : ∃ A c, v = .slice A (ms[k]).l.length c := hm.form
      subst hv
      have hsm := Hsm.out _ (List.getElem_mem hlt)
      have Hbad := Lib.hid (ok_bad hlt)
      have Hnext := Lib.hid fun b => ok_next (b := b) hlt
      go_wp2_with fail
      refine box1 (C := fun W => Code.wp _ _ _ _ W) ?_
      intro wb hw k1 hB0
      have R1 := boxRule k1
      clear k1
      have hBb := bw_to hB hw
      have R3 : ∀ (x : Aft wb) (i : Nat), x.w.cell? ⟨wr.heap.size, i, none⟩ = #[.string ms[k].name, .int .i64 ms[k].stage, .slice Av ms[k].l.length cv][i]? := fun x i => R1 x.w i x.h
      have hm2 := hm.to hw
      clear R1 hC hm
      obtain ⟨m, em⟩ : ∃ m, m = ms[k] := ⟨_, rfl⟩
      rw [← em] at R3 hm2 hsm
      by_cases hgood : methB m = true
      · by_cases hk0 : k = 0
        · subst hk0
          have Hstep := Lib.hid (ok_first hlt (by rw [← em]; exact hgood))
          clear em
          refine wp_region_aft (wb := wb) (by kernel_rfl) (by kernel_rfl) hB0 ?_
          repeat (go_big_quiet_step ((first | (go_at_call 27; exact calls_aft fun w hw => l4Good_as hgood (hm2.to hw) hsm))))
          refine wpQuiet_nil ?_
          rintro _ ⟨⟨w3, hB3⟩, rfl⟩
          go_wp2_with fail
          exact ⟨⟨1, by omega, by go_num, lib_step Hok.out Hstep.out, bw_to hBb hB3⟩, by simp [intOf]; omega⟩
        · have hpos : 0 < k := by omega
          have hk1 : k - 1 < ms.length := by omega
          obtain ⟨ad', vp, hA, hmemp, hCp⟩ := meths_el hvl hr rfl hk1
          cases hA
          have RP : ∀ (x : Aft wb), x.w.cell? (ad.add ((k - 1) * 3)) = some (.string (ms[k - 1]).name) := fun x => (hCp x.w (bw_to hBb x.h)).1
          clear hCp hmemp
          have Hn := Lib.hid fun b => Hnext.out b hpos (by rw [← em]; exact hgood)
          rw [← em] at Hn
          clear Hnext Hbad em
          obtain ⟨p, ep⟩ : ∃ p, p = (ms[k - 1]).name := ⟨_, rfl⟩
          rw [← ep] at RP Hn
          clear ep
          have hw1 : IntKind.i64.wrap ((k : Int) - 1) = (k : Int) - 1 := IntWalk.i64_in _ ⟨by omega, by omega⟩
          have hi0 : (0 : Int) ≤ (k : Int) - 1 := by omega
          have hi1 : ((k : Int) - 1).toNat = k - 1 := by omega
          have hi2 : (k : Int) - 1 < ms.length := by omega
          have hi3 : decide ((0 : Int) < k) = true := by simpa using hpos
          cases hb : Op.bytesLess p.toList m.name.toList
          · have Hstep := Lib.hid (lib_no hlt (Hn.out false hb))
            clear Hn
            refine wp_region_aft (wb := wb) (by kernel_rfl) (by kernel_rfl) hB0 ?_
            repeat (go_big_quiet_step ((first | (go_at_call 27; exact calls_aft fun w hw => l4Good_as hgood (hm2.to hw) hsm))))
            refine wpQuiet_nil ?_
            rintro _ ⟨⟨w3, hB3⟩, rfl⟩
            go_wp2_with fail
            go_ret
            exact ⟨ret_bool Hstep.out.symm, bw_to hBb hB3⟩
          · have Hstep := Lib.hid (Hn.out true hb)
            clear Hn
            refine wp_region_aft (wb := wb) (by kernel_rfl) (by kernel_rfl) hB0 ?_
            repeat (go_big_quiet_step ((first | (go_at_call 27; exact calls_aft fun w hw => l4Good_as hgood (hm2.to hw) hsm))))
            refine wpQuiet_nil ?_
            rintro _ ⟨⟨w3, hB3⟩, rfl⟩
            go_wp2_with fail
            exact ⟨⟨k + 1, by omega, by go_num, lib_step Hok.out Hstep.out, bw_to hBb hB3⟩, by simp [intOf]; omega⟩
      · have hgood : methB m = false := by simpa using hgood
        have Hno := Lib.hid (lib_no hlt (Hbad.out (by rw [← em]; exact hgood)))
        clear em
        by_cases hk0 : (0 : Int) < k
        all_goals
        refine wp_region_aft (wb := wb) (by kernel_rfl) (by kernel_rfl) hB0 ?_
        repeat (go_big_quiet_step ((first | (go_at_call 27; exact calls_aft fun w hw => l4Good_as hgood (hm2.to hw) hsm))))
        refine wpQuiet_nil ?_
        rintro _ ⟨⟨w3, hB3⟩, rfl⟩
        go_wp2_with fail
        go_ret
        exact ⟨ret_bool Hno.out.symm, bw_to hBb hB3⟩
    · go_wp2_with fail
      go_ret
      obtain rfl : k = ms.length := by omega
      exact ⟨ret_bool (by unfold libB; rw [Hok.out, Bool.and_true]; congr 1; apply propext; omega), hB⟩
set_option maxRecDepth 100000 in
set_option maxHeartbeats 4000000 in
theorem implGoodLibrary_any (V : Value) (ms : List Mt) (w : World) (h : Meths w V ms) (hs : AllSmall ms) : Calls Tryd.prog 18 #[V] w fun e w' => e = .returned (.bool (libB ms)) ∧ Below w.heap.size w w' := by
  obtain ⟨vs, hvl, ⟨A, c, rfl, h1, h2, hr⟩, hat⟩ := h
  unfold maxLen at h2
  have Hat := Lib.hid hat
  have Hsm := Lib.hid hs.2
  have hlen := hs.1
  clear hat hs
  by_cases hbig : 30 < ms.length
  · have Hno := Lib.hid (show libB ms = false by unfold libB; rw [decide_eq_false (by omega)]; rfl)
    go_enter Tryd.func18, Tryd.ntmps18
    go_wp2_with fail
    go_ret
    exact ⟨ret_bool Hno.out.symm, Below.refl _ _⟩
  go_enter Tryd.func18, Tryd.ntmps18
  go_wp2_with fail
  go_loopw [10] (fun i wr => ∃ k : Nat, k ≤ ms.length ∧ i = .int .i64 k ∧ (List.range k).all (okAt ms) = true ∧ Below w.heap.size w wr) (fun i _ => ms.length - (intOf i).toNat)
  case atStart => exact ⟨0, by omega, rfl, rfl, Below.refl _ _⟩
  case round =>
    obtain ⟨k, hk, rfl, hok, hB⟩ := hrel
    have Hok := Lib.hid hok
    clear hok
    by_cases hlt : k < ms.length
    · obtain ⟨ad, v, rfl, hmem, hC⟩ := meths_el hvl hr rfl hlt
      have hm := (Hat.out _ hmem).to hB
      obtain ⟨Av, cv, hv⟩ : ∃ A c, v = .slice A (ms[k]).l.length c := hm.form
      subst hv
      have hsm := Hsm.out _ (List.getElem_mem hlt)
      have Hbad := Lib.hid (ok_bad hlt)
      have Hnext := Lib.hid fun b => ok_next (b := b) hlt
      go_wp2_with fail
      refine box1 (C := fun W => Code.wp _ _ _ _ W) ?_
      intro wb hw k1 hB0
      have R1 := boxRule k1
      clear k1
      have hBb := bw_to hB hw
      have R3 : ∀ (x : Aft wb) (i : Nat), x.w.cell? ⟨wr.heap.size, i, none⟩ = #[.string ms[k].name, .int .i64 ms[k].stage, .slice Av ms[k].l.length cv][i]? := fun x i => R1 x.w i x.h
      have hm2 := hm.to hw
      clear R1 hC hm
      obtain ⟨m, em⟩ : ∃ m, m = ms[k] := ⟨_, rfl⟩
      rw [← em] at R3 hm2 hsm
      by_cases hgood : methB m = true
      · by_cases hk0 : k = 0
        · subst hk0
          have Hstep := Lib.hid (ok_first hlt (by rw [← em]; exact hgood))
          clear em
          refine wp_region_aft (wb := wb) (by kernel_rfl) (by kernel_rfl) hB0 ?_
          repeat (go_big_quiet_step ((first | (go_at_call 34; exact calls_aft fun w hw => implGoodMethod_as hgood (hm2.to hw) hsm))))
          refine wpQuiet_nil ?_
          rintro _ ⟨⟨w3, hB3⟩, rfl⟩
          go_wp2_with fail
          exact ⟨⟨1, by omega, by go_num, lib_step Hok.out Hstep.out, bw_to hBb hB3⟩, by simp [intOf]; omega⟩
        · have hpos : 0 < k := by omega
          have hk1 : k - 1 < ms.length := by omega
          obtain ⟨ad', vp, hA, hmemp, hCp⟩ := meths_el hvl hr rfl hk1
          cases hA
          have RP : ∀ (x : Aft wb), x.w.cell? (ad.add ((k - 1) * 3)) = some (.string (ms[k - 1]).name) := fun x => (hCp x.w (bw_to hBb x.h)).1
          clear hCp hmemp
          have Hn := Lib.hid fun b => Hnext.out b hpos (by rw [← em]; exact hgood)
          rw [← em] at Hn
          clear Hnext Hbad em
          obtain ⟨p, ep⟩ : ∃ p, p = (ms[k - 1]).name := ⟨_, rfl⟩
          rw [← ep] at RP Hn
          clear ep
          have hw1 : IntKind.i64.wrap ((k : Int) - 1) = (k : Int) - 1 := IntWalk.i64_in _ ⟨by omega, by omega⟩
          have hi0 : (0 : Int) ≤ (k : Int) - 1 := by omega
          have hi1 : ((k : Int) - 1).toNat = k - 1 := by omega
          have hi2 : (k : Int) - 1 < ms.length := by omega
          have hi3 : decide ((0 : Int) < k) = true := by simpa using hpos
          have ht := less_tot m.name.toList p.toList
          cases hb : Op.bytesLess p.toList m.name.toList
          all_goals
            rw [hb] at ht
            simp only [Bool.not_false, Bool.not_true] at ht
          · have Hstep := Lib.hid (lib_no hlt (Hn.out false hb))
            clear Hn
            refine wp_region_aft (wb := wb) (by kernel_rfl) (by kernel_rfl) hB0 ?_
            repeat (go_big_quiet_step ((first | (go_at_call 34; exact calls_aft fun w hw => implGoodMethod_as hgood (hm2.to hw) hsm))))
            refine wpQuiet_nil ?_
            rintro _ ⟨⟨w3, hB3⟩, rfl⟩
            go_wp2_with fail
            go_ret
            exact ⟨ret_bool Hstep.out.symm, bw_to hBb hB3⟩
          · have Hstep := Lib.hid (Hn.out true hb)
            clear Hn
            refine wp_region_aft (wb := wb) (by kernel_rfl) (by kernel_rfl) hB0 ?_
            repeat (go_big_quiet_step ((first | (go_at_call 34; exact calls_aft fun w hw => implGoodMethod_as hgood (hm2.to hw) hsm))))
            refine wpQuiet_nil ?_
            rintro _ ⟨⟨w3, hB3⟩, rfl⟩
            go_wp2_with fail
            exact ⟨⟨k + 1, by omega, by go_num, lib_step Hok.out Hstep.out, bw_to hBb hB3⟩, by simp [intOf]; omega⟩
      · have hgood : methB m = false := by simpa using hgood
        have Hno := Lib.hid (lib_no hlt (Hbad.out (by rw [← em]; exact hgood)))
        clear em
        by_cases hk0 : (0 : Int) < k
        all_goals
        refine wp_region_aft (wb := wb) (by kernel_rfl) (by kernel_rfl) hB0 ?_
        repeat (go_big_quiet_step ((first | (go_at_call 34; exact calls_aft fun w hw => implGoodMethod_as hgood (hm2.to hw) hsm))))
        refine wpQuiet_nil ?_
        rintro _ ⟨⟨w3, hB3⟩, rfl⟩
        go_wp2_with fail
        go_ret
        exact ⟨ret_bool Hno.out.symm, bw_to hBb hB3⟩
    · go_wp2_with fail
      go_ret
      obtain rfl : k = ms.length := by omega
      exact ⟨ret_bool (by unfold libB; rw [Hok.out, Bool.and_true, decide_eq_true (by omega)]), hB⟩
end Go.Proofs.YtenhnloljdfjhaaDoor
