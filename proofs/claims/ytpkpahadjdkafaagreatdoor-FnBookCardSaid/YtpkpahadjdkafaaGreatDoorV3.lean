/- Contracts: good books, both sides. -/
import Derived.Test.YtpkpahadjdkafaaGreatDoorP5
namespace Go.Proofs.YtpkpahadjdkafaaGreatDoor
open Go Go.RowKit
set_option linter.unusedVariables false
set_option linter.unusedSimpArgs false

theorem bk_bad {xs : List Rc} {k : Nat} {b : Bool} (hk : k < xs.length) (h : b = bookTo (xs.take k) (xs.drop k)) (hr : recB xs[k] = false) : b = false := by rw [book_step hk h, hr]; rfl
theorem bk_day {xs : List Rc} {k : Nat} {b : Bool} (hk : k < xs.length) (h : b = bookTo (xs.take k) (xs.drop k)) (hd : dayOk (xs.take k) xs[k] = false) : b = false := by rw [book_step hk h, hd]; simp
theorem bk_any {xs : List Rc} {k : Nat} {b : Bool} (hk : k < xs.length) (h : b = bookTo (xs.take k) (xs.drop k)) (ha : (xs.take k).any (alikeP xs[k].meth xs[k].touch) = true) : b = false := by rw [book_step hk h, ha]; simp
theorem bk_next {xs : List Rc} {k : Nat} {b : Bool} (hk : k < xs.length) (h : b = bookTo (xs.take k) (xs.drop k)) (hr : recB xs[k] = true) (hd : dayOk (xs.take k) xs[k] = true) (ha : (xs.take k).any (alikeP xs[k].meth xs[k].touch) = false) :
    b = bookTo (xs.take (k + 1)) (xs.drop (k + 1)) := by rw [book_step hk h, hr, hd, ha]; simp
theorem dayOk_at {xs : List Rc} {k : Nat} (hk : k < xs.length) (h0 : 0 < k) {b : Bool} (hb : decide (xs[k].day < (xs[k - 1]'(by omega)).day) = b) : dayOk (xs.take k) xs[k] = !b := by
  obtain ⟨j, rfl⟩ : ∃ j, k = j + 1 := ⟨k - 1, by omega⟩
  rw [dayOk_succ (by omega), ← hb]
  simp only [Nat.add_sub_cancel]
  rw [Bool.eq_iff_iff]
  simp
theorem implGoodRecord_as {x : Rc} {b : Bool} {w : World} (h : recB x = b) (hs : RcFit x) : Calls Tryz.prog 34 #[.agg #[.int .i64 x.day, .string x.meth, .string x.touch, .int .i64 x.rows, .string x.note]] w fun e w' => e = .returned (.bool b) ∧ Below w.heap.size w w' := by
  subst h; exact implGoodRecord_any x w hs
theorem l28Good_as {x : Rc} {b : Bool} {w : World} (h : recB x = b) (hs : RcFit x) : Calls Tryz.prog 40 #[.agg #[.int .i64 x.day, .string x.meth, .string x.touch, .int .i64 x.rows, .string x.note]] w fun e w' => e = .returned (.bool b) ∧ Below w.heap.size w w' := by
  subst h; exact l28Good_any x w hs
theorem gb1_any (x : Rc) (m t : ByteArray) (g : Nat) (w : World) (hg : ∀ w', Below w.heap.size w w' → w'.cell? ⟨g, 1, none⟩ = some (.string m) ∧ w'.cell? ⟨g, 2, none⟩ = some (.string t)) (hx : goodT x.touch) (ht : goodT t) :
    Calls Tryz.prog 36 #[x.v, .pointer (some ⟨g, 0, none⟩)] w fun e w' => e = .returned (.bool (alikeP m t x)) ∧ Below w.heap.size w w' := by
  have Ha := Lib.hid (fun w => alike_any x m t w hx ht)
  unfold Rc.v at Ha ⊢
  have hg0 := hg _ (bw_al (Below.refl _ _) (.cells #[.int .i64 x.day, .string x.meth, .string x.touch, .int .i64 x.rows, .string x.note] 39))
  clear hg
  go_enter Tryz.func36, Tryz.ntmps36
  go_wp2_with fail
  refine (Ha.out _).mono ?_; rintro e w1 ⟨rfl, hb1⟩
  go_wp2_with fail
  go_ret
  exact ⟨rfl, bw_to (bw_al (Below.refl _ _) _) hb1⟩
theorem blk_ltR {w : World} {g : Nat} {o : Obj} (h : w.heap[g]? = some o) : g < w.heap.size := (Array.getElem?_eq_some_iff.1 h).1
def AllFit (xs : List Rc) : Prop := ∀ x ∈ xs, RcFit x
set_option maxRecDepth 100000 in
set_option maxHeartbeats 4000000 in
theorem implGoodBook_any (V : Value) (xs : List Rc) (w : World) (h : Recs w V xs) (hs : AllFit xs) : Calls Tryz.prog 14 #[V] w fun e w' => e = .returned (.bool (bookB xs)) ∧ Below w.heap.size w w' := by
  have h0 := h
  obtain ⟨A, c, rfl, h1, h2, hr⟩ := h
  unfold maxLen at h2
  have Hsm := Lib.hid hs
  clear hs
  by_cases hbig : 20 < xs.length
  · have Hno := Lib.hid (show bookB xs = false by unfold bookB; rw [decide_eq_false (by omega)]; rfl)
    go_enter Tryz.func14, Tryz.ntmps14
    go_wp2_with fail
    go_ret
    exact ⟨ret_bool Hno.out.symm, Below.refl _ _⟩
  have hB : bookB xs = bookTo [] xs := by unfold bookB; rw [decide_eq_true (by omega)]; rfl
  rw [hB]
  clear hB
  obtain ⟨b, hb⟩ : ∃ b, b = bookTo [] xs := ⟨_, rfl⟩
  rw [← hb]
  have Hb := Lib.hid hb
  clear hb
  go_enter Tryz.func14, Tryz.ntmps14
  go_wp2_with fail
  go_loopw [10] (fun i wr => ∃ k : Nat, k ≤ xs.length ∧ i = .int .i64 k ∧ b = bookTo (xs.take k) (xs.drop k) ∧ (∀ x ∈ xs.take k, recB x = true) ∧ Below w.heap.size w wr) (fun i _ => xs.length - (intOf i).toNat)
  case atStart => exact ⟨0, by omega, rfl, Hb.out, by simp, Below.refl _ _⟩
  case round =>
    obtain ⟨k, hk, rfl, hok, hgd, hB⟩ := hrel
    have Hok := Lib.hid hok
    have Hgd := Lib.hid hgd
    clear hok hgd
    by_cases hlt : k < xs.length
    · obtain ⟨ad, rfl, hC⟩ := recs_el hr rfl hlt
      have hsm := Hsm.out _ (List.getElem_mem hlt)
      have Hrec := Lib.hid (h0.to hB)
      go_wp2_with fail
      refine box1 (C := fun W => Code.wp _ _ _ _ W) ?_
      intro wb hw k1 hB0
      have RK := boxRule k1
      have R1 := boxRule k1
      clear k1
      have hBb := bw_to hB hw
      have R3 : ∀ (x : Aft wb) (i : Nat), x.w.cell? ⟨wr.heap.size, i, none⟩ = #[.int .i64 xs[k].day, .string xs[k].meth, .string xs[k].touch, .int .i64 xs[k].rows, .string xs[k].note][i]? := fun x i => R1 x.w i x.h
      have hi0 : (k : Int) ≤ (xs.length : Int) := by omega
      have hi9 : (k : Int) ≤ (c : Int) := by omega
      have HRK := Lib.hid RK
      clear R1 hC RK
      cases hg : recB xs[k]
      · have Hno := Lib.hid (bk_bad hlt Hok.out hg)
        have Hcall := Lib.hid (fun w => implGoodRecord_as (w := w) hg hsm)
        obtain ⟨m, em⟩ : ∃ m, m = xs[k] := ⟨_, rfl⟩
        rw [← em] at R3 Hcall
        clear em hg
        refine wp_region_aft (wb := wb) (by kernel_rfl) (by kernel_rfl) hB0 ?_
        repeat (go_big_quiet_step ((first | (go_at_call 34; exact calls_aft fun w hw => Hcall.out w))))
        refine wpQuiet_nil ?_
        rintro _ ⟨⟨w3, hB3⟩, rfl⟩
        go_wp2_with fail
        go_ret
        exact ⟨ret_bool Hno.out.symm, bw_to hBb hB3⟩
      · have Hcall := Lib.hid (fun w => implGoodRecord_as (w := w) hg hsm)
        have Hany := Lib.hid (bk_any hlt Hok.out)
        have Hnext := Lib.hid (bk_next hlt Hok.out hg)
        have Hgx := Lib.hid (recB_touch hg)
        have Hgn := Lib.hid (take_allG hlt Hgd.out hg)
        obtain ⟨q, hq⟩ : ∃ q, q = (xs.take k).any (alikeP xs[k].meth xs[k].touch) := ⟨_, rfl⟩
        have Hcon := Lib.hid (fun (w3 : World) (hB3 : Below wb.heap.size wb w3) => containsR_gb (.slice (some ad) k c) (xs.take k) (alikeP xs[k].meth xs[k].touch) (.pointer (some ⟨wr.heap.size, 0, none⟩)) w3
          (recs_upto ((Hrec.out.to hw).to hB3) rfl hk)
          (fun x hx w' hb' => gb1_any x _ _ _ w' (fun w2 hb2 => ⟨HRK.out w2 1 (bw_to (bw_to hB3 hb') hb2), HRK.out w2 2 (bw_to (bw_to hB3 hb') hb2)⟩) (recB_touch (Hgd.out x hx)) Hgx.out))
        rw [← hq] at Hcon Hany Hnext
        clear hq
        by_cases hk0 : k = 0
        · have Hday := Lib.hid (show dayOk (xs.take k) xs[k] = true by subst hk0; rfl)
          have Hn2 := Lib.hid (Hnext.out Hday.out)
          clear Hnext Hday
          subst hk0
          obtain ⟨m, em⟩ : ∃ m, m = xs[0] := ⟨_, rfl⟩
          rw [← em] at R3 Hcall
          clear em hg
          refine wp_region_aft (wb := wb) (by kernel_rfl) (by kernel_rfl) hB0 ?_
          repeat (go_big_quiet_step ((first | (go_at_call 34; exact calls_aft fun w hw => Hcall.out w))))
          refine wpQuiet_nil ?_
          rintro _ ⟨⟨w3, hB3⟩, rfl⟩
          go_wp2_with fail
          refine (Hcon.out _ hB3).mono ?_; rintro e w4 ⟨rfl, hb4⟩
          cases q
          · go_wp2_with fail
            exact ⟨⟨1, by omega, by go_num, Hn2.out (by simp), Hgn.out, bw_to (bw_to hBb hB3) hb4⟩, by simp [intOf]; omega⟩
          · go_wp2_with fail
            go_ret
            exact ⟨ret_bool (Hany.out (by simp)).symm, bw_to (bw_to hBb hB3) hb4⟩
        · have hpos : 0 < k := by omega
          have hk1 : k - 1 < xs.length := by omega
          obtain ⟨ad', hA, hCp⟩ := recs_el hr rfl hk1
          cases hA
          have RP : ∀ (x : Aft wb), x.w.cell? (ad.add ((k - 1) * 5)) = some (.int .i64 (xs[k - 1]).day) := fun x => (hCp x.w (bw_to hBb x.h)).1
          have Hday := Lib.hid (fun b => dayOk_at (b := b) hlt hpos)
          have Hbad := Lib.hid (bk_day hlt Hok.out)
          clear hCp
          obtain ⟨p, ep⟩ : ∃ p, p = (xs[k - 1]).day := ⟨_, rfl⟩
          rw [← ep] at RP Hday
          clear ep
          obtain ⟨m, em⟩ : ∃ m, m = xs[k] := ⟨_, rfl⟩
          rw [← em] at R3 Hcall Hday Hnext Hbad
          clear em hg
          have hw1 : IntKind.i64.wrap ((k : Int) - 1) = (k : Int) - 1 := IntWalk.i64_in _ ⟨by omega, by omega⟩
          have hi0' : (0 : Int) ≤ (k : Int) - 1 := by omega
          have hi1 : ((k : Int) - 1).toNat = k - 1 := by omega
          have hi2 : (k : Int) - 1 < xs.length := by omega
          have hi3 : decide ((0 : Int) < k) = true := by simpa using hpos
          cases hb : decide (m.day < p)
          · have Hn2 := Lib.hid (Hnext.out (Hday.out _ hb))
            clear Hbad Hnext Hday
            refine wp_region_aft (wb := wb) (by kernel_rfl) (by kernel_rfl) hB0 ?_
            repeat (go_big_quiet_step ((first | (go_at_call 34; exact calls_aft fun w hw => Hcall.out w))))
            refine wpQuiet_nil ?_
            rintro _ ⟨⟨w3, hB3⟩, rfl⟩
            clear hi3 hb hw1 hi1
            go_wp2_with fail
            refine (Hcon.out _ hB3).mono ?_; rintro e w4 ⟨rfl, hb4⟩
            cases q
            · go_wp2_with fail
              exact ⟨⟨k + 1, by omega, by go_num, Hn2.out (by simp), Hgn.out, bw_to (bw_to hBb hB3) hb4⟩, by simp [intOf]; omega⟩
            · go_wp2_with fail
              go_ret
              exact ⟨ret_bool (Hany.out (by simp)).symm, bw_to (bw_to hBb hB3) hb4⟩
          · have Hno := Lib.hid (Hbad.out (Hday.out _ hb))
            clear Hbad Hnext Hday
            refine wp_region_aft (wb := wb) (by kernel_rfl) (by kernel_rfl) hB0 ?_
            repeat (go_big_quiet_step ((first | (go_at_call 34; exact calls_aft fun w hw => Hcall.out w))))
            refine wpQuiet_nil ?_
            rintro _ ⟨⟨w3, hB3⟩, rfl⟩
            go_wp2_with fail
            go_ret
            exact ⟨ret_bool Hno.out.symm, bw_to hBb hB3⟩
    · have Hend := Lib.hid (book_end (by omega) Hok.out)
      go_wp2_with fail
      go_ret
      exact ⟨ret_bool Hend.out.symm, hB⟩
theorem take_take_le {xs : List Rc} {j k : Nat} (h : j ≤ k) : (xs.take k).take j = xs.take j := by rw [List.take_take, Nat.min_eq_left h]
theorem any_snoc {xs : List Rc} {p : Rc → Bool} {j : Nat} (hj : j < xs.length) (h : (xs.take j).any p = false) (hp : p xs[j] = false) : (xs.take (j + 1)).any p = false := by
  rw [List.take_succ_eq_append_getElem hj, List.any_append, h]; simp [hp]
theorem any_hit {xs : List Rc} {p : Rc → Bool} {j k : Nat} (hj : j < xs.length) (hk : j < k) (hp : p xs[j] = true) : (xs.take k).any p = true := by
  rw [List.any_eq_true]
  refine ⟨xs[j], ?_, hp⟩
  rw [List.mem_iff_getElem]
  exact ⟨j, by simp; omega, by simp⟩
theorem l28Alike_as {x r : Rc} {w : World} (hx : goodT x.touch) (ht : goodT r.touch) : Calls Tryz.prog 41 #[.agg #[.int .i64 x.day, .string x.meth, .string x.touch, .int .i64 x.rows, .string x.note], .agg #[.int .i64 r.day, .string r.meth, .string r.touch, .int .i64 r.rows, .string r.note]] w fun e w' => e = .returned (.bool (alikeP r.meth r.touch x)) ∧ Below w.heap.size w w' := l28Alike_any x r w hx ht
set_option maxRecDepth 100000 in
set_option maxHeartbeats 4000000 in
theorem l28Book_any (V : Value) (xs : List Rc) (w : World) (h : Recs w V xs) (hs : AllFit xs) : Calls Tryz.prog 18 #[V] w fun e w' => e = .returned (.bool (bookB xs)) ∧ Below w.heap.size w w' := by
  have h0 := h
  obtain ⟨A, c, rfl, h1, h2, hr⟩ := h
  unfold maxLen at h2
  have Hsm := Lib.hid hs
  clear hs
  have hB : bookB xs = (decide ((xs.length : Int) ≤ 20) && bookTo [] xs) := by unfold bookB; congr 1; rw [Bool.eq_iff_iff]; simp; omega
  rw [hB]
  clear hB
  obtain ⟨b, hb⟩ : ∃ b, b = bookTo [] xs := ⟨_, rfl⟩
  rw [← hb]
  have Hb := Lib.hid hb
  clear hb
  go_enter Tryz.func18, Tryz.ntmps18
  go_wp2_with fail
  go_loopw [9] (fun i wr => ∃ k : Nat, k ≤ xs.length ∧ i = .int .i64 k ∧ b = bookTo (xs.take k) (xs.drop k) ∧ (∀ x ∈ xs.take k, recB x = true) ∧ Below w.heap.size w wr) (fun i _ => xs.length - (intOf i).toNat)
  case atStart => exact ⟨0, by omega, rfl, Hb.out, by simp, Below.refl _ _⟩
  case round =>
    obtain ⟨k, hk, rfl, hok, hgd, hB⟩ := hrel
    have Hok := Lib.hid hok
    have Hgd := Lib.hid hgd
    clear hok hgd
    by_cases hlt : k < xs.length
    · obtain ⟨ad, rfl, hC⟩ := recs_el hr rfl hlt
      have hsm := Hsm.out _ (List.getElem_mem hlt)
      go_wp2_with fail
      refine box1 (C := fun W => Code.wp _ _ _ _ W) ?_
      intro wb hw k1 hB0
      have R1 := boxRule k1
      have hgb := blk_ltR k1
      clear k1
      have hBb := bw_to hB hw
      have R3 : ∀ (x : Aft wb) (i : Nat), x.w.cell? ⟨wr.heap.size, i, none⟩ = #[.int .i64 xs[k].day, .string xs[k].meth, .string xs[k].touch, .int .i64 xs[k].rows, .string xs[k].note][i]? := fun x i => R1 x.w i x.h
      have hi0 : (k : Int) ≤ (xs.length : Int) := by omega
      have hi9 : (k : Int) ≤ (c : Int) := by omega
      have HR := Lib.hid R1
      clear R1 hC
      cases hg : recB xs[k]
      · have Hno := Lib.hid (bk_bad hlt Hok.out hg)
        have Hcall := Lib.hid (fun w => l28Good_as (w := w) hg hsm)
        obtain ⟨m, em⟩ : ∃ m, m = xs[k] := ⟨_, rfl⟩
        rw [← em] at R3 Hcall
        clear em hg
        refine wp_region_aft (wb := wb) (by kernel_rfl) (by kernel_rfl) hB0 ?_
        repeat (go_big_quiet_step ((first | (go_at_call 40; exact calls_aft fun w hw => Hcall.out w))))
        refine wpQuiet_nil ?_
        rintro _ ⟨⟨w3, hB3⟩, rfl⟩
        go_wp2_with fail
        go_ret
        exact ⟨ret_bool (by rw [Hno.out]; simp), bw_to hBb hB3⟩
      · have Hcall := Lib.hid (fun w => l28Good_as (w := w) hg hsm)
        have Hany := Lib.hid (bk_any hlt Hok.out)
        have Hnext := Lib.hid (bk_next hlt Hok.out hg)
        have Hgx := Lib.hid (recB_touch hg)
        have Hgn := Lib.hid (take_allG hlt Hgd.out hg)
        have Hhit := Lib.hid (fun (j : Nat) (hj : j < xs.length) (hjk : j < k) => any_hit (p := alikeP xs[k].meth xs[k].touch) hj hjk)
        have Hsn := Lib.hid (fun (j : Nat) (hj : j < xs.length) => any_snoc (p := alikeP xs[k].meth xs[k].touch) hj)
        by_cases hk0 : k = 0
        · have Hday := Lib.hid (show dayOk (xs.take k) xs[k] = true by subst hk0; rfl)
          have Hn2 := Lib.hid (Hnext.out Hday.out)
          clear Hnext Hday
          subst hk0
          obtain ⟨m, em⟩ : ∃ m, m = xs[0] := ⟨_, rfl⟩
          rw [← em] at R3 Hcall
          clear em hg
          refine wp_region_aft (wb := wb) (by kernel_rfl) (by kernel_rfl) hB0 ?_
          repeat (go_big_quiet_step ((first | (go_at_call 40; exact calls_aft fun w hw => Hcall.out w))))
          refine wpQuiet_nil ?_
          rintro _ ⟨⟨w3, hB3⟩, rfl⟩
          go_wp2_with fail
          go_loopw [36] (fun i wr => i = .int .i64 0 ∧ Below w.heap.size w wr) (fun i _ => 0)
          case atStart => exact ⟨rfl, bw_to hBb hB3⟩
          case round =>
            obtain ⟨rfl, hB4⟩ := hrel
            go_wp2_with fail
            exact ⟨⟨1, by omega, by go_num, Hn2.out (by simp), Hgn.out, hB4⟩, by simp [intOf]; omega⟩
        · have hpos : 0 < k := by omega
          have hk1 : k - 1 < xs.length := by omega
          obtain ⟨ad', hA, hCp⟩ := recs_el hr rfl hk1
          cases hA
          have RP : ∀ (x : Aft wb), x.w.cell? (ad.add ((k - 1) * 5)) = some (.int .i64 (xs[k - 1]).day) := fun x => (hCp x.w (bw_to hBb x.h)).1
          have Hday := Lib.hid (fun b => dayOk_at (b := b) hlt hpos)
          have Hbad := Lib.hid (bk_day hlt Hok.out)
          clear hCp
          obtain ⟨p, ep⟩ : ∃ p, p = (xs[k - 1]).day := ⟨_, rfl⟩
          rw [← ep] at RP Hday
          clear ep
          obtain ⟨m, em⟩ : ∃ m, m = xs[k] := ⟨_, rfl⟩
          rw [← em] at R3 Hcall Hday Hnext Hbad Hany Hhit Hsn HR Hgx
          clear em hg
          have hw1 : IntKind.i64.wrap ((k : Int) - 1) = (k : Int) - 1 := IntWalk.i64_in _ ⟨by omega, by omega⟩
          have hi0' : (0 : Int) ≤ (k : Int) - 1 := by omega
          have hi1 : ((k : Int) - 1).toNat = k - 1 := by omega
          have hi2 : (k : Int) - 1 < xs.length := by omega
          have hi3 : decide ((0 : Int) < k) = true := by simpa using hpos
          cases hb : decide (m.day < p)
          · have Hn2 := Lib.hid (Hnext.out (Hday.out _ hb))
            clear Hbad Hnext Hday
            refine wp_region_aft (wb := wb) (by kernel_rfl) (by kernel_rfl) hB0 ?_
            repeat (go_big_quiet_step ((first | (go_at_call 40; exact calls_aft fun w hw => Hcall.out w))))
            refine wpQuiet_nil ?_
            rintro _ ⟨⟨w3, hB3⟩, rfl⟩
            clear hi3 hb hw1 hi1 RP R3
            go_wp2_with fail
            obtain ⟨wo, rfl⟩ : ∃ wo : World, wo = wr := ⟨_, rfl⟩
            go_loopw [36] (fun i w5 => ∃ j : Nat, j ≤ k ∧ i = .int .i64 j ∧ (xs.take j).any (alikeP m.meth m.touch) = false ∧ Below wb.heap.size wb w5) (fun i _ => k - (intOf i).toNat)
            case atStart => exact ⟨0, by omega, rfl, rfl, hB3⟩
            case round =>
              obtain ⟨j, hj, rfl, hany, hB5⟩ := hrel
              have Hno := Lib.hid hany
              clear hany
              by_cases hjl : j < k
              · have hjx : j < xs.length := by omega
                obtain ⟨ad2, hA2, hCj⟩ := recs_el hr rfl hjx
                cases hA2
                have Hal := Lib.hid (fun w => l28Alike_as (x := xs[j]) (r := m) (w := w) (recB_touch (Hgd.out _ (by rw [List.mem_iff_getElem]; exact ⟨j, by simp; omega, by simp⟩))) Hgx.out)
                have H1 := Lib.hid (Hhit.out j hjx hjl)
                have H2 := Lib.hid (Hsn.out j hjx Hno.out)
                obtain ⟨q, hq⟩ : ∃ q, q = alikeP m.meth m.touch xs[j] := ⟨_, rfl⟩
                rw [← hq] at Hal H1 H2
                clear hq
                have hC5 := hCj wr (bw_to hBb hB5)
                obtain ⟨y, ey⟩ : ∃ y, y = xs[j] := ⟨_, rfl⟩
                rw [← ey] at Hal hC5
                clear hCj ey
                have hR5 := fun o => HR.out (wr.alloc (.cells #[.int .i64 y.day, .string y.meth, .string y.touch, .int .i64 y.rows, .string y.note] 39)) o (bw_al hB5 _)
                go_wp2_with fail
                refine (Hal.out _).mono ?_; rintro e w6 ⟨rfl, hb6⟩
                cases q
                · go_wp2_with fail
                  exact ⟨⟨j + 1, by omega, by go_num, H2.out (by simp), bw_to (bw_al hB5 _) hb6⟩, by simp [intOf]; omega⟩
                · go_wp2_with fail
                  go_ret
                  exact ⟨ret_bool (by rw [Hany.out (H1.out (by simp))]; simp), bw_to hBb (bw_to (bw_al hB5 _) hb6)⟩
              · obtain rfl : j = k := by omega
                go_wp2_with fail
                exact ⟨⟨j + 1, by omega, by go_num, Hn2.out Hno.out, Hgn.out, bw_to hBb hB5⟩, by simp [intOf]; omega⟩
          · have Hno := Lib.hid (Hbad.out (Hday.out _ hb))
            clear Hbad Hnext Hday
            refine wp_region_aft (wb := wb) (by kernel_rfl) (by kernel_rfl) hB0 ?_
            repeat (go_big_quiet_step ((first | (go_at_call 40; exact calls_aft fun w hw => Hcall.out w))))
            refine wpQuiet_nil ?_
            rintro _ ⟨⟨w3, hB3⟩, rfl⟩
            go_wp2_with fail
            go_ret
            exact ⟨ret_bool (by rw [Hno.out]; simp), bw_to hBb hB3⟩
    · have Hend := Lib.hid (book_end (by omega) Hok.out)
      go_wp2_with fail
      go_ret
      exact ⟨ret_bool (by rw [Hend.out]; simp), hB⟩
end Go.Proofs.YtpkpahadjdkafaaGreatDoor
