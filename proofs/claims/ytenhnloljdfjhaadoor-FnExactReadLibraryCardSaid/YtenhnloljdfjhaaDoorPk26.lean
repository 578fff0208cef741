/- Contracts: the short notation, both sides. -/
import Derived.Test.YtenhnloljdfjhaaDoorPk25
namespace Go.Proofs.YtenhnloljdfjhaaDoor
open Go Go.RowKit
set_option linter.unusedVariables false
set_option linter.unusedSimpArgs false

def pairT (l : List ByteArray) : ByteArray := txt (hAl l) ++ ⟨#[44]⟩ ++ txt (hBl l)
def shortT (l : List ByteArray) : ByteArray := if (findJ l).isSome && decide ((pairT l).size < (txt l).size) then pairT l else txt l
theorem shortT_no {l : List ByteArray} (h : (findJ l).isSome = false) : shortT l = txt l := by unfold shortT; rw [h]; rfl
theorem shortT_pair {l : List ByteArray} (h : (findJ l).isSome = true) (h' : (pairT l).size < (txt l).size) : shortT l = pairT l := by unfold shortT; rw [h, decide_eq_true h']; rfl
theorem shortT_whole {l : List ByteArray} (h' : ¬ (pairT l).size < (txt l).size) : shortT l = txt l := by unfold shortT; rw [decide_eq_false h', Bool.and_false]; rfl
theorem hAl_sub (l : List ByteArray) : ∀ x ∈ hAl l, x ∈ l := by
  intro x hx
  unfold hAl at hx
  split at hx
  · exact List.mem_of_mem_take hx
  · cases hx
theorem hBl_sub (l : List ByteArray) : ∀ x ∈ hBl l, x ∈ l := by
  intro x hx
  unfold hBl at hx
  split at hx
  · exact List.mem_of_mem_drop (List.mem_of_mem_take hx)
  · cases hx
theorem hAl_len (l : List ByteArray) : (hAl l).length ≤ l.length := by
  unfold hAl; split
  · rw [List.length_take]; omega
  · simp
theorem hBl_len (l : List ByteArray) : (hBl l).length ≤ l.length := by
  unfold hBl; split
  · rw [List.length_take, List.length_drop]; omega
  · simp
theorem txt_size {l : List ByteArray} (h : ∀ x ∈ l, x.size ≤ 1048576) (hl : l.length ≤ 1000) : (txt l).size ≤ 1048577000 := by
  have := txTo_size h l.length (Nat.le_refl _)
  unfold txt
  have h2 : (1048576 + 1) * l.length ≤ 1048577 * 1000 := Nat.mul_le_mul_left 1048577 hl
  omega
set_option maxRecDepth 10000 in
set_option maxHeartbeats 2000000 in
theorem shortNotation_any (ad : Addr) (c : Nat) (l : List ByteArray) (w : World) (h : Strs w (.slice (some ad) l.length c) l) (hf : ∀ x ∈ l, x.size ≤ 1048576) (h0 : 0 < l.length) (hlen : l.length ≤ 1000) : Calls Tryd.prog 36 #[.slice (some ad) l.length c] w fun e w' => e = .returned (.string (shortT l)) ∧ Below w.heap.size w w' := by
  have H := Lib.hid h
  have Hf := Lib.hid hf
  have ha := hAl_len l
  have hb := hBl_len l
  have zl := txt_size hf hlen
  have za := txt_size (l := hAl l) (fun x hx => hf x (hAl_sub l x hx)) (by omega)
  have zb := txt_size (l := hBl l) (fun x hx => hf x (hBl_sub l x hx)) (by omega)
  obtain ⟨T, hT⟩ : ∃ T, T = shortT l := ⟨_, rfl⟩
  rw [← hT]
  have HT := Lib.hid hT
  obtain ⟨X, hX⟩ : ∃ X, X = txt l := ⟨_, rfl⟩
  obtain ⟨Y, hY⟩ : ∃ Y, Y = txt (hAl l) := ⟨_, rfl⟩
  obtain ⟨Z, hZ⟩ : ∃ Z, Z = txt (hBl l) := ⟨_, rfl⟩
  have t1 := fun w' (hs : Strs w' (.slice (some ad) l.length c) l) => notationText_any _ l w' hs hf hlen
  have t2 := fun r w' (hs : Strs w' r (hAl l)) => notationText_any r (hAl l) w' hs (fun x hx => hf x (hAl_sub l x hx)) (by omega)
  have t3 := fun r w' (hs : Strs w' r (hBl l)) => notationText_any r (hBl l) w' hs (fun x hx => hf x (hBl_sub l x hx)) (by omega)
  simp only [← hX] at t1
  simp only [← hY] at t2
  simp only [← hZ] at t3
  rw [← hX] at zl
  rw [← hY] at za
  rw [← hZ] at zb
  have T1 := Lib.hid t1
  have T2 := Lib.hid t2
  have T3 := Lib.hid t3
  have HX := Lib.hid hX
  have HP : Hid (pairT l = Y ++ ⟨#[44]⟩ ++ Z) := Lib.hid (by unfold pairT; rw [hY, hZ])
  have hps : (Y ++ (⟨#[44]⟩ : ByteArray) ++ Z).size = Y.size + 1 + Z.size := by rw [ByteArray.size_append, ByteArray.size_append]; rfl
  have Hps := Lib.hid hps
  clear h hf ha hb hT hX hY hZ t1 t2 t3 hps
  go_enter Tryd.func36, Tryd.ntmps36
  go_wp2_with fail
  refine (T1.out w H.out).mono ?_; rintro e w1 ⟨rfl, rfl⟩
  go_wp2_with fail
  have hhv := halves_any ad c l w H.out h0 hlen
  cases hj : (findJ l).isSome
  · rw [hj] at hhv
    have Hh := Lib.hid hhv
    have Hn := Lib.hid (shortT_no hj)
    clear hhv hj
    refine Hh.out.mono ?_; rintro e w2 ⟨r1, r2, rfl, s1, s2, hb2⟩
    go_wp2_with fail
    go_ret
    exact ⟨by rw [HT.out, Hn.out, ← HX.out]; rfl, hb2⟩
  · rw [hj] at hhv
    have Hh := Lib.hid hhv
    have Hj := Lib.hid hj
    clear hhv hj
    refine Hh.out.mono ?_; rintro e w2 ⟨r1, r2, rfl, s1, s2, hb2⟩
    go_wp2_with fail
    refine (T2.out r1 w2 s1).mono ?_; rintro e w3 ⟨rfl, rfl⟩
    go_wp2_with fail
    refine (T3.out r2 w2 s2).mono ?_; rintro e w4 ⟨rfl, rfl⟩
    by_cases hc : Y.size + 1 + Z.size < X.size
    · have Hn := Lib.hid (shortT_pair Hj.out (by rw [HP.out, Hps.out, ← HX.out]; exact hc))
      go_wp2_with fail
      go_ret
      exact ⟨by rw [HT.out, Hn.out, HP.out]; rfl, hb2⟩
    · have Hn := Lib.hid (shortT_whole (l := l) (by rw [HP.out, Hps.out, ← HX.out]; exact hc))
      go_wp2_with fail
      go_ret
      exact ⟨by rw [HT.out, Hn.out, ← HX.out]; rfl, hb2⟩
set_option maxHeartbeats 1000000 in
theorem l3List_yes (n : Int) (v : Value) (l : List ByteArray) (w : World) (h : Strs w v l) (hf : ∀ x ∈ l, x.size ≤ 1048576) (hn : 3 ≤ n ∧ n ≤ 8) (hl : 1 ≤ l.length ∧ l.length ≤ 40) (hc : chgs n l = true) : Calls Tryd.prog 42 #[.int .i64 n, v] w fun e w' => e = .returned (.bool true) ∧ w = w' := by
  obtain ⟨A, c, rfl, h1, h2, hr⟩ := h
  unfold maxLen at h2
  have Hf := Lib.hid hf
  have Hc := Lib.hid hc
  have hB := Below.refl w.heap.size w
  clear hf hc
  go_enter Tryd.func42, Tryd.ntmps42
  go_wp2_with fail
  go_loop [9] (fun i => ∃ k : Nat, k ≤ l.length ∧ i = .int .i64 k) (fun i => l.length - (intOf i).toNat)
  case atStart => exact ⟨0, by omega, rfl⟩
  case round =>
    obtain ⟨k, hk, rfl⟩ := hrel
    by_cases hlt : k < l.length
    · obtain ⟨ad, rfl, hC⟩ := strs_el hr hlt
      have c0 := hC w hB
      have hxs := Hf.out l[k] (List.getElem_mem hlt)
      have hch : changeB n l[k].data.toList = true := by
        have := Hc.out
        unfold chgs at this
        rw [List.all_eq_true] at this
        exact this _ (List.getElem_mem hlt)
      obtain ⟨x, ex⟩ : ∃ x, x = l[k] := ⟨_, rfl⟩
      rw [← ex] at c0 hxs hch
      have hcall := l2Change_any n x w (by unfold maxLen; omega)
      rw [hch] at hcall
      have Hcall := Lib.hid hcall
      clear hC ex hch hcall
      go_wp2_with (go_at_call 40; refine Hcall.out.mono ?_; rintro e w1 ⟨rfl, rfl⟩)
      exact ⟨⟨k + 1, by omega, by go_num⟩, by simp [intOf]; omega⟩
    · have hl1 : 1 ≤ l.length := hl.1
      have hl2 : l.length ≤ 40 := hl.2
      have d1 : decide ((1 : Int) ≤ (l.length : Int) ∧ (l.length : Int) ≤ 40) = true := decide_eq_true (by omega)
      have d2 : decide ((3 : Int) ≤ n ∧ n ≤ 8) = true := decide_eq_true hn
      have q1 := l1In_any (l.length : Int) 1 40 w
      have q2 := l1In_any n 3 8 w
      rw [d1] at q1
      rw [d2] at q2
      have Q1 := Lib.hid q1
      have Q2 := Lib.hid q2
      clear q1 q2 d1 d2 hn hl
      go_wp2_with fail
      refine Q1.out.mono ?_; rintro e w1 ⟨rfl, rfl⟩
      go_wp2_with fail
      refine Q2.out.mono ?_; rintro e w1 ⟨rfl, rfl⟩
      go_wp2_with fail
      go_ret
      exact ⟨rfl, rfl⟩
set_option maxRecDepth 10000 in
set_option maxHeartbeats 2000000 in
theorem specShortNotation_any (n : Int) (ad : Addr) (c : Nat) (l : List ByteArray) (w : World) (h : Strs w (.slice (some ad) l.length c) l) (hf : ∀ x ∈ l, x.size ≤ 1048576) (hn : 3 ≤ n ∧ n ≤ 8) (hl : 1 ≤ l.length ∧ l.length ≤ 40) (hc : chgs n l = true) : Calls Tryd.prog 28 #[.int .i64 n, .slice (some ad) l.length c] w fun e w' => e = .returned (.tuple #[.string (shortT l), .bool true]) ∧ Below w.heap.size w w' := by
  have H := Lib.hid h
  have Hf := Lib.hid hf
  have ha := hAl_len l
  have hb := hBl_len l
  have hlen : l.length ≤ 1000 := by omega
  have h0 : 0 < l.length := by omega
  have zl := txt_size hf hlen
  have za := txt_size (l := hAl l) (fun x hx => hf x (hAl_sub l x hx)) (by omega)
  have zb := txt_size (l := hBl l) (fun x hx => hf x (hBl_sub l x hx)) (by omega)
  obtain ⟨T, hT⟩ : ∃ T, T = shortT l := ⟨_, rfl⟩
  rw [← hT]
  have HT := Lib.hid hT
  obtain ⟨X, hX⟩ : ∃ X, X = txt l := ⟨_, rfl⟩
  obtain ⟨Y, hY⟩ : ∃ Y, Y = txt (hAl l) := ⟨_, rfl⟩
  obtain ⟨Z, hZ⟩ : ∃ Z, Z = txt (hBl l) := ⟨_, rfl⟩
  have t1 := fun w' (hs : Strs w' (.slice (some ad) l.length c) l) => l3Text_any _ l w' hs hf hlen
  have t2 := fun r w' (hs : Strs w' r (hAl l)) => l3Text_any r (hAl l) w' hs (fun x hx => hf x (hAl_sub l x hx)) (by omega)
  have t3 := fun r w' (hs : Strs w' r (hBl l)) => l3Text_any r (hBl l) w' hs (fun x hx => hf x (hBl_sub l x hx)) (by omega)
  simp only [← hX] at t1
  simp only [← hY] at t2
  simp only [← hZ] at t3
  rw [← hX] at zl
  rw [← hY] at za
  rw [← hZ] at zb
  have T1 := Lib.hid t1
  have T2 := Lib.hid t2
  have T3 := Lib.hid t3
  have HX := Lib.hid hX
  have HP : Hid (pairT l = Y ++ ⟨#[44]⟩ ++ Z) := Lib.hid (by unfold pairT; rw [hY, hZ])
  have hps : (Y ++ (⟨#[44]⟩ : ByteArray) ++ Z).size = Y.size + 1 + Z.size := by rw [ByteArray.size_append, ByteArray.size_append]; rfl
  have Hps := Lib.hid hps
  have Hli := Lib.hid (l3List_yes n _ l w h hf hn hl hc)
  clear h hf ha hb hT hX hY hZ t1 t2 t3 hps hn hl hc
  go_enter Tryd.func28, Tryd.ntmps28
  go_wp2_with fail
  refine Hli.out.mono ?_; rintro e w1 ⟨rfl, rfl⟩
  go_wp2_with fail
  have hhv := l3Halves_any ad c l w H.out h0 hlen
  cases hj : (findJ l).isSome
  · rw [hj] at hhv
    have Hh := Lib.hid hhv
    have Hn := Lib.hid (shortT_no hj)
    clear hhv hj
    refine Hh.out.mono ?_; rintro e w2 ⟨r1, r2, rfl, s1, s2, hb2⟩
    go_wp2_with fail
    refine (T2.out r1 w2 s1).mono ?_; rintro e w3 ⟨rfl, rfl⟩
    go_wp2_with fail
    refine (T3.out r2 w2 s2).mono ?_; rintro e w4 ⟨rfl, rfl⟩
    go_wp2_with fail
    refine (T1.out w2 (H.out.to hb2)).mono ?_; rintro e w5 ⟨rfl, rfl⟩
    go_wp2_with fail
    go_ret2
    exact ⟨by rw [HT.out, Hn.out, ← HX.out]; rfl, hb2⟩
  · rw [hj] at hhv
    have Hh := Lib.hid hhv
    have Hj := Lib.hid hj
    clear hhv hj
    refine Hh.out.mono ?_; rintro e w2 ⟨r1, r2, rfl, s1, s2, hb2⟩
    go_wp2_with fail
    refine (T2.out r1 w2 s1).mono ?_; rintro e w3 ⟨rfl, rfl⟩
    go_wp2_with fail
    refine (T3.out r2 w2 s2).mono ?_; rintro e w4 ⟨rfl, rfl⟩
    go_wp2_with fail
    refine (T1.out w2 (H.out.to hb2)).mono ?_; rintro e w5 ⟨rfl, rfl⟩
    by_cases hc : Y.size + 1 + Z.size < X.size
    · have Hn := Lib.hid (shortT_pair Hj.out (by rw [HP.out, Hps.out, ← HX.out]; exact hc))
      go_wp2_with fail
      go_ret2
      exact ⟨by rw [HT.out, Hn.out, HP.out]; rfl, hb2⟩
    · have Hn := Lib.hid (shortT_whole (l := l) (by rw [HP.out, Hps.out, ← HX.out]; exact hc))
      go_wp2_with fail
      refine (T1.out w2 (H.out.to hb2)).mono ?_; rintro e w5 ⟨rfl, rfl⟩
      go_wp2_with fail
      go_ret2
      exact ⟨by rw [HT.out, Hn.out, ← HX.out]; rfl, hb2⟩
end Go.Proofs.YtenhnloljdfjhaaDoor
