/- Contracts: the text of a proof, both sides. -/
import Derived.Test.YtofpjbdelmmclaaGreatDoorPk24
import Derived.Test.YtofpjbdelmmclaaGreatDoorPk25
import Derived.Test.YtofpjbdelmmclaaGreatDoorPk26
import Derived.Lib.Join
import Derived.Test.YtofpjbdelmmclaaGreatDoorPk21
namespace Go.Proofs.YtofpjbdelmmclaaGreatDoor
open Go Go.RowKit
set_option linter.unusedVariables false
set_option linter.unusedSimpArgs false

/-- A slice whose array begins at a block. -/
def Nf (v : Value) : Prop := ∀ A n c, v = .slice A n c → 0 < n → ∃ b o, A = some ⟨b, o, none⟩
theorem nf_none {n c : Nat} (h : n = 0) : Nf (.slice none n c) := by
  intro A n' c' e hn
  injection e with _ e2 _
  omega
theorem nf_blk {b o n c : Nat} : Nf (.slice (some ⟨b, o, none⟩) n c) := by
  intro A n' c' e hn
  injection e with e1 _ _
  exact ⟨b, o, e1.symm⟩
theorem nf_own {w : World} {base n : Nat} {e : TypeId} {v : Value} {cs : List Value} (h : w.ownsRow base e 1 v n cs) : Nf v := by
  rcases h.2 with ⟨rfl, _⟩ | ⟨g, cap, cur, rfl, _⟩
  · exact nf_none rfl
  · exact nf_blk
theorem hdL_join : ∀ hs : List ByteArray, Lib.join (hs.map (·.data.toList)) [32] = hdL hs
  | [] => rfl
  | [h] => by rw [List.map_cons, Lib.join_cons]; simp [Lib.joinTail, hdL]
  | h :: h' :: t => by
    have e := hdL_join (h' :: t)
    rw [List.map_cons, Lib.join_cons] at e
    have e2 : ∀ r : List (List UInt8), Lib.joinTail [32] (h'.data.toList :: r) = 32 :: (h'.data.toList ++ Lib.joinTail [32] r) := by intro r; simp [Lib.joinTail]
    rw [List.map_cons, Lib.join_cons, List.map_cons, e2, e, hdL]
theorem hd_snoc : ∀ {l : List ByteArray} (_ : 0 < l.length) (x : ByteArray), hdL (l ++ [x]) = hdL l ++ 32 :: x.data.toList
  | [], h, _ => by simp at h
  | [a], _, x => by simp [hdL]
  | a :: b :: t, _, x => by
    have e := hd_snoc (l := b :: t) (by simp) x
    show a.data.toList ++ 32 :: hdL (b :: t ++ [x]) = (a.data.toList ++ 32 :: hdL (b :: t)) ++ 32 :: x.data.toList
    rw [e]; simp
theorem hd_len : ∀ {hs : List ByteArray}, hs.all digB = true → (hdL hs).length ≤ 9 * hs.length
  | [], _ => by simp [hdL]
  | [h], hh => by
    have := (dig_byte (List.all_eq_true.1 hh h (by simp)))
    have h8 : h.size ≤ 8 := by
      have := List.all_eq_true.1 hh h (by simp)
      unfold digB at this
      rw [Bool.and_eq_true, decide_eq_true_eq] at this
      exact this.2.2
    show h.data.toList.length ≤ _
    rw [bytes_len]; simp; omega
  | h :: h' :: t, hh => by
    have h8 : h.size ≤ 8 := by
      have := List.all_eq_true.1 hh h (by simp)
      unfold digB at this
      rw [Bool.and_eq_true, decide_eq_true_eq] at this
      exact this.2.2
    have hr := hd_len (hs := h' :: t) (by rw [List.all_cons, Bool.and_eq_true] at hh; exact hh.2)
    show (h.data.toList ++ 32 :: hdL (h' :: t)).length ≤ _
    rw [List.length_append, bytes_len, List.length_cons]
    simp only [List.length_cons] at hr ⊢
    omega
theorem hd_ge : ∀ hs : List ByteArray, hs.length ≤ (hdL hs).length + 1
  | [] => by simp
  | [h] => by simp
  | h :: h' :: t => by
    have := hd_ge (h' :: t)
    show _ ≤ (h.data.toList ++ 32 :: hdL (h' :: t)).length + 1
    simp only [List.length_append, List.length_cons] at this ⊢
    omega
def lnW (l : Ln) : ByteArray := l.row ++ ⟨#[32]⟩ ++ numT l.lead ++ ⟨#[46]⟩ ++ numT l.at' ++ ⟨#[10]⟩
theorem prT_snoc (hs : List ByteArray) (ls : List Ln) (l : Ln) : prT hs (ls ++ [l]) = prT hs ls ++ lnW l := by
  apply ByteArray.ext
  apply Array.toList_inj.1
  simp [prT, bdL, lnL, lnW]
theorem prT_nil (hs : List ByteArray) : prT hs [] = baL (hdL hs) ++ ⟨#[10]⟩ := by
  apply ByteArray.ext
  apply Array.toList_inj.1
  simp [prT, bdL, baL]
theorem lnW_size {l : Ln} (h : lnB l = true) : (lnW l).size ≤ 39 ∧ l.row.size ≤ 8 ∧ (numT l.lead).size ≤ 14 ∧ (numT l.at').size ≤ 14 := by
  obtain ⟨h1, h2, h3⟩ := ln_parts h
  unfold digB at h1
  rw [Bool.and_eq_true, decide_eq_true_eq] at h1
  have h4 := h1.2.2
  have z1 : (numT l.lead).size ≤ 14 := numT_size (by omega) (by omega)
  have z2 : (numT l.at').size ≤ 14 := numT_size (by omega) (by omega)
  refine ⟨?_, h4, z1, z2⟩
  unfold lnW
  simp only [ByteArray.size_append]
  have e1 : (⟨#[32]⟩ : ByteArray).size = 1 := rfl
  have e2 : (⟨#[46]⟩ : ByteArray).size = 1 := rfl
  have e3 : (⟨#[10]⟩ : ByteArray).size = 1 := rfl
  omega
theorem pr_size {hs : List ByteArray} {ls : List Ln} (h : shapeB hs ls = true) : ∀ k, k ≤ ls.length → (prT hs (ls.take k)).size ≤ 600 + 39 * k := by
  obtain ⟨h1, h2, h3, h4⟩ := shape_parts h
  intro k
  induction k with
  | zero =>
    intro _
    rw [List.take_zero, prT_nil, ByteArray.size_append]
    have := hd_len h3
    have e : (baL (hdL hs)).size = (hdL hs).length := by show (hdL hs).toArray.size = _; simp
    have e3 : (⟨#[10]⟩ : ByteArray).size = 1 := rfl
    omega
  | succ k ih =>
    intro hk
    have hw := (lnW_size (List.all_eq_true.1 h4 ls[k] (List.getElem_mem (by omega)))).1
    rw [List.take_succ_eq_append_getElem (by omega), prT_snoc, ByteArray.size_append]
    have := ih (by omega)
    omega
theorem dig_sz {s : ByteArray} (h : digB s = true) : s.size ≤ 8 := by
  unfold digB at h
  rw [Bool.and_eq_true, decide_eq_true_eq] at h
  exact h.2.2
theorem all_take {hs : List ByteArray} (h : hs.all digB = true) (k : Nat) : (hs.take k).all digB = true := by
  rw [List.all_eq_true] at h ⊢
  exact fun x hx => h x (List.mem_of_mem_take hx)
theorem hdk_size {hs : List ByteArray} (h1 : hs.length ≤ 61) (h : hs.all digB = true) : ∀ k, k ≤ hs.length → (baL (hdL (hs.take k))).size ≤ 600 := by
  intro k hk
  have e : (baL (hdL (hs.take k))).size = (hdL (hs.take k)).length := by show (hdL (hs.take k)).toArray.size = _; simp
  have := hd_len (all_take h k)
  rw [List.length_take] at this
  omega
theorem hdk_step {hs : List ByteArray} {k : Nat} (h : k < hs.length) : baL (hdL (hs.take (k + 1))) = if 0 < k then baL (hdL (hs.take k)) ++ ⟨#[32]⟩ ++ hs[k] else hs[k] := by
  rw [List.take_succ_eq_append_getElem h]
  by_cases h0 : 0 < k
  · rw [if_pos h0, hd_snoc (by rw [List.length_take]; omega)]
    apply ByteArray.ext
    apply Array.toList_inj.1
    simp [baL]
  · obtain rfl : k = 0 := by omega
    rw [if_neg (by omega)]
    apply ByteArray.ext
    apply Array.toList_inj.1
    simp [baL, hdL]
theorem pr_step {hs : List ByteArray} {ls : List Ln} {k : Nat} (h : k < ls.length) : prT hs (ls.take (k + 1)) = prT hs (ls.take k) ++ lnW ls[k] := by
  rw [List.take_succ_eq_append_getElem h, prT_snoc]
theorem joinedH_any (v : Value) (hs : List ByteArray) (w : World) (h : Strs w v hs) (hn : Nf v) (hz : (hdL hs).length ≤ 1000000) : Calls Tryz.prog 62 #[v, .string ⟨#[32]⟩] w fun e w' => e = .returned (.string (baL (hdL hs))) ∧ Below w.heap.size w w' := by
  obtain ⟨A, c, rfl, h1, h2, hr⟩ := h
  unfold maxLen at h2
  rcases Nat.eq_zero_or_pos hs.length with h0 | h0
  · obtain rfl := List.eq_nil_of_length_eq_zero h0
    have hc := Tryz.strings_Join_none A c ⟨#[32]⟩ w
    go_enter Tryz.func62, Tryz.ntmps62
    go_wp2_with fail
    refine hc.mono ?_; rintro e w' ⟨rfl, rfl⟩
    go_wp2_with fail
    go_ret
    exact ⟨rfl, Below.refl _ _⟩
  · obtain ⟨b, o, rfl⟩ := hn _ _ _ rfl h0
    obtain ⟨ad, e0, hb, hcell⟩ := hr.2 h0
    cases e0
    have hl : hs.length ≤ 140737488355328 := by have := hd_ge hs; omega
    have hc := Tryz.strings_Join b o c hs ⟨#[32]⟩ w (fun j x hx => by
      have := hcell j (.string x) (by rw [List.getElem?_map, hx]; rfl)
      rcases Nat.eq_zero_or_pos j with rfl | hj
      · rwa [add_zero'] at this
      · obtain ⟨j', rfl⟩ : ∃ j', j = j' + 1 := ⟨j - 1, by omega⟩
        rwa [add_succ'] at this) hb hl h1 (by
        show (Lib.join (hs.map (·.data.toList)) [32]).length ≤ _
        rw [hdL_join]; omega)
    have e1 : (⟨(Lib.join (hs.map (·.data.toList)) (⟨#[32]⟩ : ByteArray).data.toList).toArray⟩ : ByteArray) = baL (hdL hs) := by
      show (⟨(Lib.join (hs.map (·.data.toList)) [32]).toArray⟩ : ByteArray) = _
      rw [hdL_join]; rfl
    rw [e1] at hc
    have Hc := Lib.hid hc
    clear hc e1
    go_enter Tryz.func62, Tryz.ntmps62
    go_wp2_with fail
    refine Hc.out.mono ?_; rintro e w' ⟨rfl, hb'⟩
    go_wp2_with fail
    go_ret
    exact ⟨rfl, hb'⟩
set_option maxRecDepth 10000 in
set_option maxHeartbeats 4000000 in
theorem proofText0_any (hv lv : Value) (hs : List ByteArray) (ls : List Ln) (w : World) (hh : Strs w hv hs) (hl : Lns w lv ls) (hn : Nf hv) (hok : shapeB hs ls = true) (ht : Tab10 w) :
    Calls Tryz.prog 39 #[.agg #[hv, lv]] w fun e w' => e = .returned (.string (prT hs ls)) ∧ Below w.heap.size w w' := by
  obtain ⟨p1, p2, p3, p4⟩ := shape_parts hok
  have hhl := hd_len p3
  have Hj := Lib.hid (fun W (hW : Below w.heap.size w W) => joinedH_any hv hs W (hh.to hW) hn (by omega))
  have Hz := Lib.hid (pr_size hok)
  have Hp4 := Lib.hid p4
  have Ht := Lib.hid ht
  have e1 : (baL (hdL hs)).size = (hdL hs).length := by show (hdL hs).toArray.size = _; simp
  have z0 : (baL (hdL hs)).size ≤ 1000 := by omega
  have En := Lib.hid (prT_nil hs)
  obtain ⟨T0, hT0⟩ : ∃ T, T = baL (hdL hs) := ⟨_, rfl⟩
  rw [← hT0] at Hj z0 En
  clear hT0 e1 hhl p3 p4 ht
  obtain ⟨A1, c1, rfl, hc1, hm1, hr1⟩ := hh
  obtain ⟨A2, c2, rfl, hc2, hm2, hr2⟩ := hl
  unfold maxLen at hm1 hm2
  clear hr1
  go_enter Tryz.func39, Tryz.ntmps39
  go_upto_region 1 with fail
  refine box1 (C := fun W => Code.wp _ _ _ _ W) ?_
  intro wb hw k1 hB0
  have R1 := boxRule k1
  have c0 := R1 wb 0 (Below.refl _ _)
  clear k1
  go_wp2_with fail
  refine (Hj.out _ hw).mono ?_; rintro e w1 ⟨rfl, hb1⟩
  have b1 := R1 w1 1 hb1
  have hB1 := bw_to hw hb1
  have o0 : ¬ 9223372036854775807 < T0.size + 1 := by omega
  clear c0 Hj R1
  go_wp2_with fail
  clear b1 hb1
  go_loopw [3, 13] (fun z i wr => ∃ (k : Nat) (s : ByteArray), k ≤ ls.length ∧ i = .int .i64 k ∧ z = .string s ∧ s = prT hs (ls.take k) ∧ Below w.heap.size w wr) (fun _ i _ => ls.length - (intOf i).toNat)
  case atStart => exact ⟨0, _, Nat.zero_le _, rfl, rfl, En.out.symm, hB1⟩
  case round =>
    obtain ⟨k, s, hk, rfl, rfl, hs', hB⟩ := hrel
    have hss := Hz.out k hk
    rw [← hs'] at hss
    have Hs := Lib.hid hs'
    clear hs'
    by_cases hlt : k < ls.length
    · obtain ⟨ad, rfl, hC⟩ := lns_el hr2 rfl hlt
      obtain ⟨q0, q1, q2⟩ := hC wr hB
      have hln := List.all_eq_true.1 Hp4.out ls[k] (List.getElem_mem hlt)
      obtain ⟨zz, zr, zl, za⟩ := lnW_size hln
      obtain ⟨_, bl, ba⟩ := ln_parts hln
      have Hst := Lib.hid (pr_step (hs := hs) hlt)
      obtain ⟨x, hx⟩ : ∃ x, x = ls[k] := ⟨_, rfl⟩
      rw [← hx] at q0 q1 q2 zz zr zl za bl ba Hst
      clear hC hx hln
      go_wp2_with fail
      refine box1 (C := fun W => Code.wp _ _ _ _ W) ?_
      intro w2 hw2 k2 hB2
      have R2 := boxRule k2
      have P0 := fun (y : Aft w2) => R2 y.w 0 y.h
      have P1 := fun (y : Aft w2) => R2 y.w 1 y.h
      have P2 := fun (y : Aft w2) => R2 y.w 2 y.h
      have hB3 := bw_to hB hw2
      clear q0 q1 q2 k2 hw2 hB hB2 R2
      have o1 : ¬ 9223372036854775807 < x.row.size + 1 := by omega
      have o2 : ¬ 9223372036854775807 < x.row.size + 1 + (numT x.lead).size := by omega
      have o3 : ¬ 9223372036854775807 < x.row.size + 1 + (numT x.lead).size + 1 := by omega
      have o4 : ¬ 9223372036854775807 < x.row.size + 1 + (numT x.lead).size + 1 + (numT x.at').size := by omega
      have o5 : ¬ 9223372036854775807 < x.row.size + 1 + (numT x.lead).size + 1 + (numT x.at').size + 1 := by omega
      have o6 : ¬ 9223372036854775807 < s.size + (x.row.size + 1 + (numT x.lead).size + 1 + (numT x.at').size + 1) := by omega
      have Hbl := Lib.hid bl
      have Hba := Lib.hid ba
      have hst := Below.refl w2.heap.size w2
      refine wp_region_aft (wb := w2) (by kernel_rfl) (by kernel_rfl) hst ?_
      repeat (go_big_quiet_step ((first | (go_at_call 61; exact calls_aft fun w' hb' => decimal_any _ w' (by have := Hbl.out; have := Hba.out; omega) (by have := Hbl.out; have := Hba.out; omega) (Ht.out.to (bw_to hB3 hb'))))))
      refine wpQuiet_nil ?_
      rintro _ ⟨⟨w4, hB4⟩, rfl⟩
      go_wp2_with fail
      refine ⟨⟨k + 1, _, by omega, by go_num, rfl, ?_, bw_to hB3 hB4⟩, by simp [intOf]; omega⟩
      rw [Hst.out, ← Hs.out]; rfl
    · obtain rfl : k = ls.length := by omega
      go_wp2_with fail
      go_ret
      exact ⟨by rw [Hs.out, List.take_length] <;> rfl, hB⟩
set_option maxRecDepth 10000 in
set_option maxHeartbeats 4000000 in
theorem l20Text_any (hv lv : Value) (hs : List ByteArray) (ls : List Ln) (w : World) (hh : Strs w hv hs) (hl : Lns w lv ls) (hok : shapeB hs ls = true) :
    Calls Tryz.prog 41 #[.agg #[hv, lv]] w fun e w' => e = .returned (.string (prT hs ls)) ∧ Below w.heap.size w w' := by
  obtain ⟨p1, p2, p3, p4⟩ := shape_parts hok
  have Hz := Lib.hid (pr_size hok)
  have Hzh := Lib.hid (hdk_size p1 p3)
  have Hp3 := Lib.hid p3
  have Hp4 := Lib.hid p4
  have En := Lib.hid (prT_nil hs)
  clear p3 p4
  obtain ⟨A1, c1, rfl, hc1, hm1, hr1⟩ := hh
  obtain ⟨A2, c2, rfl, hc2, hm2, hr2⟩ := hl
  unfold maxLen at hm1 hm2
  go_enter Tryz.func41, Tryz.ntmps41
  go_upto_region 1 with fail
  refine box1 (C := fun W => Code.wp _ _ _ _ W) ?_
  intro wb hw k1 hB0
  have R1 := boxRule k1
  have HR1 := Lib.hid R1
  have c0 := R1 wb 0 (Below.refl _ _)
  clear k1 R1
  go_wp2_with fail
  clear c0
  go_loopw [3, 11] (fun z i wr => ∃ (k : Nat) (s : ByteArray), k ≤ hs.length ∧ i = .int .i64 k ∧ z = .string s ∧ s = baL (hdL (hs.take k)) ∧ Below wb.heap.size wb wr) (fun _ i _ => hs.length - (intOf i).toNat)
  case atStart => exact ⟨0, _, Nat.zero_le _, rfl, rfl, rfl, hB0⟩
  case round =>
    obtain ⟨k, s, hk, rfl, rfl, hs', hB⟩ := hrel
    have hss := Hzh.out k hk
    rw [← hs'] at hss
    have Hs := Lib.hid hs'
    clear hs'
    by_cases hlt : k < hs.length
    · obtain ⟨ad, rfl, hC⟩ := strs_el hr1 hlt
      have q0 := hC wr (bw_to hw hB)
      have hln := dig_sz (List.all_eq_true.1 Hp3.out hs[k] (List.getElem_mem hlt))
      have Hst := Lib.hid (hdk_step (hs := hs) hlt)
      obtain ⟨x, hx⟩ : ∃ x, x = hs[k] := ⟨_, rfl⟩
      rw [← hx] at q0 hln Hst
      clear hC hx
      have o1 : ¬ 9223372036854775807 < s.size + 1 := by omega
      have o2 : ¬ 9223372036854775807 < s.size + 1 + x.size := by omega
      have o3 : ¬ 9223372036854775807 < s.size + x.size := by omega
      by_cases hk0 : 0 < k
      · have hd : (0 : Int) < (k : Int) := by omega
        go_wp2_with fail
        refine ⟨⟨k + 1, _, by omega, by go_num, rfl, ?_, hB⟩, by simp [intOf]; omega⟩
        rw [Hst.out, if_pos hk0, ← Hs.out]
      · obtain rfl : k = 0 := by omega
        rw [add_zero'] at q0
        go_wp2_with fail
        refine ⟨⟨1, _, by omega, by go_num, rfl, ?_, hB⟩, by simp [intOf]; omega⟩
        have e := Hst.out
        rw [if_neg (by omega)] at e
        rw [e, Hs.out]
        apply ByteArray.ext; simp [baL, hdL]
    · obtain rfl : k = hs.length := by omega
      have b1 := HR1.out wr 1 hB
      have o0 : ¬ 9223372036854775807 < s.size + 1 := by omega
      have hs0 := Hs.out
      rw [List.take_length] at hs0
      have Hs0 := Lib.hid hs0
      have hB1 := bw_to hw hB
      clear hs0 Hs hB hr1 HR1
      go_wp2_with fail
      clear b1
      go_loopw [3, 29] (fun z i wr => ∃ (k : Nat) (s : ByteArray), k ≤ ls.length ∧ i = .int .i64 k ∧ z = .string s ∧ s = prT hs (ls.take k) ∧ Below w.heap.size w wr) (fun _ i _ => ls.length - (intOf i).toNat)
      case atStart => exact ⟨0, _, Nat.zero_le _, rfl, rfl, by rw [List.take_zero, En.out, Hs0.out], hB1⟩
      case round =>
        clear hss o0
        obtain ⟨k, s, hk, rfl, rfl, hs', hB⟩ := hrel
        have hss := Hz.out k hk
        rw [← hs'] at hss
        have Hs := Lib.hid hs'
        clear hs'
        by_cases hlt : k < ls.length
        · obtain ⟨ad, rfl, hC⟩ := lns_el hr2 rfl hlt
          obtain ⟨q0, q1, q2⟩ := hC wr hB
          have hln := List.all_eq_true.1 Hp4.out ls[k] (List.getElem_mem hlt)
          obtain ⟨zz, zr, zl, za⟩ := lnW_size hln
          obtain ⟨_, bl, ba⟩ := ln_parts hln
          have Hst := Lib.hid (pr_step (hs := hs) hlt)
          obtain ⟨x, hx⟩ : ∃ x, x = ls[k] := ⟨_, rfl⟩
          rw [← hx] at q0 q1 q2 zz zr zl za bl ba Hst
          clear hC hx hln
          go_wp2_with fail
          refine box1 (C := fun W => Code.wp _ _ _ _ W) ?_
          intro w2 hw2 k2 hB2
          have R2 := boxRule k2
          have P0 := fun (y : Aft w2) => R2 y.w 0 y.h
          have P1 := fun (y : Aft w2) => R2 y.w 1 y.h
          have P2 := fun (y : Aft w2) => R2 y.w 2 y.h
          have hB3 := bw_to hB hw2
          clear q0 q1 q2 k2 hw2 hB hB2 R2
          have o1 : ¬ 9223372036854775807 < x.row.size + 1 := by omega
          have o2 : ¬ 9223372036854775807 < x.row.size + 1 + (numT x.lead).size := by omega
          have o3 : ¬ 9223372036854775807 < x.row.size + 1 + (numT x.lead).size + 1 := by omega
          have o4 : ¬ 9223372036854775807 < x.row.size + 1 + (numT x.lead).size + 1 + (numT x.at').size := by omega
          have o5 : ¬ 9223372036854775807 < x.row.size + 1 + (numT x.lead).size + 1 + (numT x.at').size + 1 := by omega
          have o6 : ¬ 9223372036854775807 < s.size + (x.row.size + 1 + (numT x.lead).size + 1 + (numT x.at').size + 1) := by omega
          have Hbl := Lib.hid bl
          have Hba := Lib.hid ba
          have hst := Below.refl w2.heap.size w2
          refine wp_region_aft (wb := w2) (by kernel_rfl) (by kernel_rfl) hst ?_
          repeat (go_big_quiet_step ((first | (go_at_call 63; exact calls_aft fun w' hb' => l1Num_int _ w' (by have := Hbl.out; have := Hba.out; omega) (by have := Hbl.out; have := Hba.out; omega)))))
          refine wpQuiet_nil ?_
          rintro _ ⟨⟨w4, hB4⟩, rfl⟩
          go_wp2_with fail
          refine ⟨⟨k + 1, _, by omega, by go_num, rfl, ?_, bw_to hB3 hB4⟩, by simp [intOf]; omega⟩
          rw [Hst.out, ← Hs.out]; rfl
        · obtain rfl : k = ls.length := by omega
          go_wp2_with fail
          go_ret
          exact ⟨by rw [Hs.out, List.take_length] <;> rfl, hB⟩
def prTS (hs : List ByteArray) (ls : List Ln) : ByteArray := if shapeB hs ls then prT hs ls else ⟨#[]⟩
set_option maxRecDepth 10000 in
set_option maxHeartbeats 4000000 in
theorem implProofText_any (hv lv : Value) (hs : List ByteArray) (ls : List Ln) (w : World) (hh : Strs w hv hs) (hl : Lns w lv ls) (fh : FitS hs) (fl : FitL ls) (hn : Nf hv) (ht : Tab10 w) :
    Calls Tryz.prog 7 #[.agg #[hv, lv]] w fun e w' => e = .returned (.tuple #[.string (prTS hs ls), .bool (shapeB hs ls)]) ∧ Below w.heap.size w w' := by
  have Hg := Lib.hid (fun W (hW : Below w.heap.size w W) => goodProof_any hv lv hs ls W (hh.to hW) (hl.to hW) fh fl)
  have Hp := Lib.hid (fun W (hW : Below w.heap.size w W) (ho : shapeB hs ls = true) => proofText0_any hv lv hs ls W (hh.to hW) (hl.to hW) hn ho (ht.to hW))
  have He : prTS hs ls = if shapeB hs ls then prT hs ls else ⟨#[]⟩ := rfl
  obtain ⟨ok, hok⟩ : ∃ ok, ok = shapeB hs ls := ⟨_, rfl⟩
  rw [← hok] at He Hg Hp ⊢
  obtain ⟨T, hT⟩ : ∃ T, T = prTS hs ls := ⟨_, rfl⟩
  rw [← hT] at He ⊢
  obtain ⟨P, hP⟩ : ∃ P, P = prT hs ls := ⟨_, rfl⟩
  rw [← hP] at He Hp
  have HE := Lib.hid He
  obtain ⟨A1, c1, rfl, hc1, hm1, hr1⟩ := hh
  obtain ⟨A2, c2, rfl, hc2, hm2, hr2⟩ := hl
  clear hok hT hP He hn ht fh fl hr1 hr2 hc1 hm1 hc2 hm2
  go_enter Tryz.func7, Tryz.ntmps7
  go_upto_region 1 with fail
  refine box1 (C := fun W => Code.wp _ _ _ _ W) ?_
  intro wb hw k1 hB0
  have R1 := boxRule k1
  have HR1 := Lib.hid R1
  have c0 := R1 wb 0 (Below.refl _ _)
  have c1' := R1 wb 1 (Below.refl _ _)
  clear k1 R1
  go_wp2_with fail
  refine (Hg.out _ hw).mono ?_; rintro e w1 ⟨rfl, hb1⟩
  have hB1 := bw_to hB0 hb1
  clear c0 c1'
  cases ok
  · go_wp2_with fail
    go_ret2
    exact ⟨by rw [HE.out] <;> rfl, bw_to hw hB1⟩
  · have c0 := HR1.out w1 0 hB1
    have c1' := HR1.out w1 1 hB1
    go_wp2_with fail
    refine (Hp.out _ (bw_to hw hB1) (by trivial)).mono ?_; rintro e w2 ⟨rfl, hb2⟩
    go_wp2_with fail
    go_ret2
    exact ⟨by rw [HE.out] <;> rfl, bw_to hw (bw_to hB1 hb2)⟩
set_option maxRecDepth 10000 in
set_option maxHeartbeats 4000000 in
theorem specProofText_any (hv lv : Value) (hs : List ByteArray) (ls : List Ln) (w : World) (hh : Strs w hv hs) (hl : Lns w lv ls) (fh : FitS hs) (fl : FitL ls) :
    Calls Tryz.prog 8 #[.agg #[hv, lv]] w fun e w' => e = .returned (.tuple #[.string (prTS hs ls), .bool (shapeB hs ls)]) ∧ Below w.heap.size w w' := by
  have Hg := Lib.hid (fun W (hW : Below w.heap.size w W) => l20Shape_any hv lv hs ls W (hh.to hW) (hl.to hW) fh fl)
  have Hp := Lib.hid (fun W (hW : Below w.heap.size w W) (ho : shapeB hs ls = true) => l20Text_any hv lv hs ls W (hh.to hW) (hl.to hW) ho)
  have He : prTS hs ls = if shapeB hs ls then prT hs ls else ⟨#[]⟩ := rfl
  obtain ⟨ok, hok⟩ : ∃ ok, ok = shapeB hs ls := ⟨_, rfl⟩
  rw [← hok] at He Hg Hp ⊢
  obtain ⟨T, hT⟩ : ∃ T, T = prTS hs ls := ⟨_, rfl⟩
  rw [← hT] at He ⊢
  obtain ⟨P, hP⟩ : ∃ P, P = prT hs ls := ⟨_, rfl⟩
  rw [← hP] at He Hp
  have HE := Lib.hid He
  obtain ⟨A1, c1, rfl, hc1, hm1, hr1⟩ := hh
  obtain ⟨A2, c2, rfl, hc2, hm2, hr2⟩ := hl
  clear hok hT hP He fh fl hr1 hr2 hc1 hm1 hc2 hm2
  go_enter Tryz.func8, Tryz.ntmps8
  go_upto_region 1 with fail
  refine box1 (C := fun W => Code.wp _ _ _ _ W) ?_
  intro wb hw k1 hB0
  have R1 := boxRule k1
  have HR1 := Lib.hid R1
  have c0 := R1 wb 0 (Below.refl _ _)
  have c1' := R1 wb 1 (Below.refl _ _)
  clear k1 R1
  go_wp2_with fail
  refine (Hg.out _ hw).mono ?_; rintro e w1 ⟨rfl, hb1⟩
  have hB1 := bw_to hB0 hb1
  clear c0 c1'
  cases ok
  · go_wp2_with fail
    go_ret2
    exact ⟨by rw [HE.out] <;> rfl, bw_to hw hB1⟩
  · have c0 := HR1.out w1 0 hB1
    have c1' := HR1.out w1 1 hB1
    go_wp2_with fail
    refine (Hp.out _ (bw_to hw hB1) (by trivial)).mono ?_; rintro e w2 ⟨rfl, hb2⟩
    go_wp2_with fail
    go_ret2
    exact ⟨by rw [HE.out] <;> rfl, bw_to hw (bw_to hB1 hb2)⟩
end Go.Proofs.YtofpjbdelmmclaaGreatDoor

/- Pieces of a cut text are no longer than it; the library's own bound for short texts. (From Y3 and Y4, for seats without records.) -/
namespace Go.Proofs.YtofpjbdelmmclaaGreatDoor
open Go Go.RowKit
set_option linter.unusedVariables false
set_option linter.unusedSimpArgs false

theorem splitL_size (c : UInt8) : ∀ (l : List UInt8), ∀ x ∈ splitL c l, x.length ≤ l.length
  | [], x, hx => by simp [splitL] at hx; subst hx; simp
  | b :: l, x, hx => by
    unfold splitL at hx
    split at hx
    · rcases List.mem_cons.1 hx with e | e
      · subst e; simp
      · have := splitL_size c l x e; simp; omega
    · have ih := splitL_size c l
      cases h : splitL c l with
      | nil => rw [h] at hx; simp [glue] at hx; subst hx; simp
      | cons q r =>
        rw [h] at hx ih
        simp only [glue] at hx
        rcases List.mem_cons.1 hx with e | e
        · subst e
          have := ih q (List.mem_cons_self ..)
          simp; omega
        · have := ih x (List.mem_cons_of_mem _ e); simp; omega
theorem splitW_size {c : UInt8} {s : ByteArray} : ∀ x ∈ splitW c s, x.size ≤ s.size := by
  intro x hx
  unfold splitW at hx
  obtain ⟨l, hl, rfl⟩ := List.mem_map.1 hx
  have := splitL_size c _ l hl
  rw [bytes_len] at this
  show l.toArray.size ≤ _
  rw [List.size_toArray]; exact this
/-- The library's own bound for short texts: some number. -/
def MaxOk (w : World) : Prop := ∀ w', Below w.heap.size w w' → ∃ m, w'.cell? ⟨0, 0, none⟩ = some (.int .i64 m)
theorem MaxOk.to {w w' : World} (h : MaxOk w) (hb : Below w.heap.size w w') : MaxOk w' := fun W hW => h W (bw_to hb hW)
end Go.Proofs.YtofpjbdelmmclaaGreatDoor

/- Contracts: the lines of a text, one line of a proof; the program's. -/
namespace Go.Proofs.YtofpjbdelmmclaaGreatDoor
open Go Go.RowKit
set_option linter.unusedVariables false
set_option linter.unusedSimpArgs false

theorem cut_lens (l c : List UInt8) : (Lib.cut l c).1.length ≤ l.length ∧ (Lib.cut l c).2.1.length ≤ l.length := by
  unfold Lib.cut
  split <;> simp <;> omega
theorem baL_size (l : List UInt8) : (baL l).size = l.length := by show l.toArray.size = _; simp
def lnQ (x : ByteArray) : Ln := ⟨baL (Lib.cut x.data.toList [32]).1, numV (Lib.cut (Lib.cut x.data.toList [32]).2.1 [46]).1 2, numV (Lib.cut (Lib.cut x.data.toList [32]).2.1 [46]).2.1 2⟩
def lnG (x : ByteArray) : Bool := (((Lib.cut x.data.toList [32]).2.2 && (Lib.cut (Lib.cut x.data.toList [32]).2.1 [46]).2.2) && canB (Lib.cut (Lib.cut x.data.toList [32]).2.1 [46]).1 2) && canB (Lib.cut (Lib.cut x.data.toList [32]).2.1 [46]).2.1 2
theorem lnO_is (x : ByteArray) : lnO x = if lnG x then some (lnQ x) else none := rfl
theorem lnQ_row (x : ByteArray) : (lnQ x).row.size ≤ x.size := by
  unfold lnQ
  rw [baL_size]
  have := (cut_lens x.data.toList [32]).1
  rw [bytes_len] at this
  exact this
theorem splitX_any (s : ByteArray) (c : UInt8) (w : World) (hs : s.size ≤ 1048576) (hm : MaxOk w) : Calls Tryz.prog 43 #[.string s, .string ⟨#[c]⟩] w fun e w' =>
    e = .returned (.slice (some ⟨w.heap.size, 0, none⟩) (splitW c s).length (splitW c s).length) ∧ w' = w.alloc (.cells ((splitW c s).map Value.string).toArray 9) := by
  obtain ⟨m, hm'⟩ := hm w (Below.refl _ _)
  have h := Tryz.strings_Split s ⟨#[c]⟩ m w (by omega) hm' (by show 1 ≤ 1; omega)
  rw [splitB_W, ← splitW_len] at h
  exact h
theorem splitW_le {c : UInt8} {s : ByteArray} : (splitW c s).length ≤ s.size + 1 := by
  rw [splitW_len]
  have := Lib.countB_le ⟨#[c]⟩ (by show 1 ≤ 1; omega) s.size s (Nat.le_refl _)
  have h1 : (⟨#[c]⟩ : ByteArray).size = 1 := rfl
  omega
theorem strs_newX (w : World) (l : List ByteArray) (hl : l.length ≤ 1048577) : (w.alloc (.cells (l.map Value.string).toArray 9)).ownsRow w.heap.size 9 1 (.slice (some ⟨w.heap.size, 0, none⟩) l.length l.length) l.length (l.map Value.string) := by
  have := own_of_heap (base := w.heap.size) (n := l.length) (size := 1) (heap_new w (.cells (l.map Value.string).toArray 9)) (Nat.le_refl _) (by unfold maxLen; omega) (by simp)
  simpa using this
theorem cutX_any (s : ByteArray) (c : UInt8) (w : World) (hs : s.size ≤ 1048576) (hm : MaxOk w) : Calls Tryz.prog 82 #[.string s, .string ⟨#[c]⟩] w fun e w' =>
    e = .returned (.tuple #[.string (baL (Lib.cut s.data.toList [c]).1), .string (baL (Lib.cut s.data.toList [c]).2.1), .bool (Lib.cut s.data.toList [c]).2.2]) ∧ Below w.heap.size w w' := by
  obtain ⟨m, hm'⟩ := hm w (Below.refl _ _)
  refine (Tryz.strings_Cut s ⟨#[c]⟩ m w (by omega) hm').mono ?_
  rintro e w' ⟨rfl, n, rfl⟩
  exact ⟨rfl, bw_dr (Below.refl _ _) _⟩
set_option maxRecDepth 10000 in
set_option maxHeartbeats 4000000 in
theorem linesOf_any (s : ByteArray) (X : List ByteArray) (x : ByteArray) (w : World) (hL : splitW 10 s = X ++ [x]) (hs : s.size ≤ 1048576) (hm : MaxOk w) : Calls Tryz.prog 42 #[.string s] w fun e w' =>
    e = .returned (.tuple #[.slice (some ⟨w.heap.size, 0, none⟩) X.length (X.length + 1), .bool x.toList.isEmpty]) ∧ Strs w' (.slice (some ⟨w.heap.size, 0, none⟩) X.length (X.length + 1)) X ∧ Below w.heap.size w w' := by
  have hsp := splitX_any s 10 w hs hm
  have hl := splitW_le (c := 10) (s := s)
  rw [hL] at hsp hl
  have e1 : (X ++ [x]).length = X.length + 1 := by simp
  rw [e1] at hsp hl
  have hown := strs_newX w (X ++ [x]) (by rw [e1]; omega)
  rw [e1] at hown
  have hS : Strs (w.alloc (.cells ((X ++ [x]).map Value.string).toArray 9)) (.slice (some ⟨w.heap.size, 0, none⟩) (X.length + 1) (X.length + 1)) (X ++ [x]) := by
    have := strs_of_own (zs := X ++ [x]) (by rw [e1]; exact hown)
    exact this
  have hS2 := strs_uptoG (k := X.length) hS (by omega)
  rw [List.take_left' rfl] at hS2
  have hx := hown.cellAt X.length (by simp)
  have hx2 : (w.alloc (.cells ((X ++ [x]).map Value.string).toArray 9)).cell? ⟨w.heap.size, X.length, none⟩ = some (.string x) := by
    rw [hx]; simp
  have hb := bw_al (Below.refl w.heap.size w) (.cells ((X ++ [x]).map Value.string).toArray 9)
  obtain ⟨W, hW⟩ : ∃ W, W = w.alloc (.cells ((X ++ [x]).map Value.string).toArray 9) := ⟨_, rfl⟩
  rw [← hW] at hsp hS2 hx2 hb
  have Hsp := Lib.hid hsp
  have HS2 := Lib.hid hS2
  have hX : X.length ≤ 1048576 := by omega
  clear hL hs hm e1 hown hS hx hW hsp hl hS2
  go_enter Tryz.func42, Tryz.ntmps42
  go_wp2_with fail
  refine Hsp.out.mono ?_; rintro e w1 ⟨rfl, rfl⟩
  go_wp2_with fail
  go_big_quiet (fail)
  go_wp2_with fail
  go_ret2
  exact ⟨by rfl, HS2.out.to (bw_dr (Below.refl _ _) _), bw_dr hb _⟩
set_option maxRecDepth 10000 in
set_option maxHeartbeats 4000000 in
theorem proofLine_any (x : ByteArray) (w : World) (hx : x.size ≤ 1048576) (hm : MaxOk w) : Calls Tryz.prog 44 #[.string x] w fun e w' =>
    e = .returned (.tuple #[.agg #[.string (lnQ x).row, .int .i64 (lnQ x).lead, .int .i64 (lnQ x).at'], .bool (lnG x)]) ∧ Below w.heap.size w w' := by
  have hk : lnG x = ((((Lib.cut x.data.toList [32]).2.2 && (Lib.cut (Lib.cut x.data.toList [32]).2.1 [46]).2.2) && canB (Lib.cut (Lib.cut x.data.toList [32]).2.1 [46]).1 2) && canB (Lib.cut (Lib.cut x.data.toList [32]).2.1 [46]).2.1 2) := rfl
  have hq : Value.agg #[.string (lnQ x).row, .int .i64 (lnQ x).lead, .int .i64 (lnQ x).at'] = Value.agg #[.string (baL (Lib.cut x.data.toList [32]).1), .int .i64 (numV (Lib.cut (Lib.cut x.data.toList [32]).2.1 [46]).1 2), .int .i64 (numV (Lib.cut (Lib.cut x.data.toList [32]).2.1 [46]).2.1 2)] := rfl
  rw [hk, hq]
  have l1 := cut_lens x.data.toList [32]
  rw [bytes_len] at l1
  have H1 := Lib.hid (fun W (hW : Below w.heap.size w W) => cutX_any x 32 W hx (hm.to hW))
  obtain ⟨c, hc⟩ : ∃ c, c = Lib.cut x.data.toList [32] := ⟨_, rfl⟩
  rw [← hc] at H1 l1 ⊢
  have l2 := cut_lens c.2.1 [46]
  have H2 := Lib.hid (fun W (hW : Below w.heap.size w W) => cutX_any (baL c.2.1) 46 W (by rw [baL_size]; omega) (hm.to hW))
  rw [baL_list] at H2
  obtain ⟨d, hd⟩ : ∃ d, d = Lib.cut c.2.1 [46] := ⟨_, rfl⟩
  rw [← hd] at H2 l2 ⊢
  have H3 := Lib.hid (fun W => number_any (baL d.1) 2 W (by rw [baL_size]; unfold maxLen; omega) (by omega))
  have H4 := Lib.hid (fun W => number_any (baL d.2.1) 2 W (by rw [baL_size]; unfold maxLen; omega) (by omega))
  simp only [baL_list] at H3 H4
  obtain ⟨c1, c2, b1⟩ := c
  obtain ⟨d1, d2, b2⟩ := d
  simp only at H1 H2 H3 H4 ⊢
  obtain ⟨n1, hn1⟩ : ∃ n, n = numV d1 2 := ⟨_, rfl⟩
  obtain ⟨n2, hn2⟩ : ∃ n, n = numV d2 2 := ⟨_, rfl⟩
  obtain ⟨b3, hb3⟩ : ∃ n, n = canB d1 2 := ⟨_, rfl⟩
  obtain ⟨b4, hb4⟩ : ∃ n, n = canB d2 2 := ⟨_, rfl⟩
  rw [← hn1, ← hb3] at H3
  rw [← hn2, ← hb4] at H4
  rw [← hn1, ← hn2, ← hb3, ← hb4]
  obtain ⟨r, hr⟩ : ∃ r, r = baL c1 := ⟨_, rfl⟩
  obtain ⟨r2, hr2⟩ : ∃ r, r = baL c2 := ⟨_, rfl⟩
  obtain ⟨e1, he1⟩ : ∃ r, r = baL d1 := ⟨_, rfl⟩
  obtain ⟨e2, he2⟩ : ∃ r, r = baL d2 := ⟨_, rfl⟩
  rw [← hr, ← hr2] at H1
  rw [← hr2, ← he1, ← he2] at H2
  rw [← he1] at H3
  rw [← he2] at H4
  rw [← hr]
  clear hk hq l1 l2 hc hd hn1 hn2 hb3 hb4 hr hr2 he1 he2 hm hx
  go_enter Tryz.func44, Tryz.ntmps44
  go_wp2_with fail
  refine box1 (C := fun W => Calls _ _ _ W _) ?_
  intro wb hw k1 hB0
  have R1 := boxRule k1
  have F1 := fun (j : Nat) w' hb => frozen_of_heap k1 j (w' := w') hb
  have hz := blk_lt k1
  clear k1
  refine (H1.out _ hw).mono ?_; rintro e w1 ⟨rfl, hb1⟩
  go_wp2_with fail
  refine (H2.out _ (bw_to hw hb1)).mono ?_; rintro e w2 ⟨rfl, hb2⟩
  go_wp2_with fail
  refine (H3.out _).mono ?_; rintro e w3 ⟨rfl, rfl⟩
  go_wp2_with fail
  refine (H4.out _).mono ?_; rintro e w4 ⟨rfl, rfl⟩
  have hB2 := bw_to hb1 hb2
  have hBw := bw_to hw hB2
  have c0 := R1 w2 0 hB2
  have c1 := R1 w2 1 hB2
  have c2 := R1 w2 2 hB2
  have f0 := F1 0 w2 hB2
  have f1 := F1 1 w2 hB2
  have f2 := F1 2 w2 hB2
  clear R1 F1 H1 H2 H3 H4
  cases b1 <;> cases b2 <;> cases b3 <;> cases b4
  all_goals
    go_wp2_with fail
    refine bodyPost_ret (v := .tuple #[.agg #[.string r, .int .i64 n1, .int .i64 n2], .bool _]) ?hr rfl ⟨rfl, ?hb⟩
    case hb => exact grow_set (grow_set (grow_set hBw (by omega) _) (by omega) _) (by omega) _
    case hr => simp [results, go_sem, c0, c1, c2]
end Go.Proofs.YtofpjbdelmmclaaGreatDoor
