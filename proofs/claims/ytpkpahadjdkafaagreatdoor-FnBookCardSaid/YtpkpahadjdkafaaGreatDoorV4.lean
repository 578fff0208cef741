/- Contracts: the line of a record, the text of a book, both sides. -/
import Derived.Test.YtpkpahadjdkafaaGreatDoorV3
import Derived.Test.YtpkpahadjdkafaaGreatDoorN1
import Derived.Lib.Join
namespace Go.Proofs.YtpkpahadjdkafaaGreatDoor
open Go Go.RowKit
set_option linter.unusedVariables false
set_option linter.unusedSimpArgs false

theorem l1Num_z (a : Int) (w : World) (h0 : 0 ≤ a) (h1 : a ≤ 1000000000000) : Calls Tryz.prog 42 #[.int .i64 a] w fun e w' => e = .returned (.string (numT a)) ∧ Below w.heap.size w w' := by
  obtain ⟨n, rfl⟩ : ∃ n : Nat, a = n := ⟨a.toNat, by omega⟩
  exact l1Num_any n w (by omega)
def sumL (l : List UInt8) : Nat := l.foldl (fun n c => (33 * n + c.toNat) % 99991) 1
theorem sumL_snoc (l : List UInt8) (c : UInt8) : sumL (l ++ [c]) = (33 * sumL l + c.toNat) % 99991 := by unfold sumL; rw [List.foldl_append]; rfl
theorem sumL_lt (l : List UInt8) : sumL l < 99991 := by
  rcases List.eq_nil_or_concat l with h | ⟨t, c, h⟩
  · subst h; decide
  · subst h; rw [List.concat_eq_append, sumL_snoc]; exact Nat.mod_lt _ (by omega)
theorem sumL_next {s : ByteArray} {k : Nat} (hk : k < s.size) : ((sumL (s.data.toList.take (k + 1)) : Nat) : Int) = (33 * ((sumL (s.data.toList.take k) : Nat) : Int) + (s[k].toNat : Int)) % 99991 := by
  rw [List.take_succ_eq_append_getElem (by simpa using hk), bytes_get _ _ hk, sumL_snoc]
  omega
def spB : ByteArray := ⟨#[32]⟩
def recT (x : Rc) : ByteArray := numT x.day ++ ⟨#[32]⟩ ++ x.meth ++ ⟨#[32]⟩ ++ x.touch ++ ⟨#[32]⟩ ++ numT x.rows ++ ⟨#[32]⟩ ++ x.note
def lineT (x : Rc) : ByteArray := recT x ++ ⟨#[32]⟩ ++ numT (sumL (recT x).data.toList) ++ ⟨#[10]⟩
theorem rec_bd {x : Rc} (h : recB x = true) : 0 ≤ x.day ∧ x.day ≤ 99999 ∧ 1 ≤ x.rows ∧ x.rows ≤ 800 ∧ 1 ≤ x.meth.size ∧ x.meth.size ≤ 10 ∧ 1 ≤ x.touch.size ∧ x.touch.size ≤ 60 ∧ x.note.size ≤ 20 := by
  have ht := touch_size (recB_touch h)
  unfold recB wordB noteB at h
  simp only [Bool.and_eq_true, decide_eq_true_eq, bytes_len] at h
  omega
theorem recT_size {x : Rc} (h : recB x = true) : (recT x).size ≤ 130 := by
  obtain ⟨h1, h2, h3, h4, _, h5, _, h6, h7⟩ := rec_bd h
  have z1 : (numT x.day).size ≤ 14 := numT_size (by omega) (by omega)
  have z2 : (numT x.rows).size ≤ 14 := numT_size (by omega) (by omega)
  have e : (⟨#[32]⟩ : ByteArray).size = 1 := rfl
  unfold recT
  simp only [ByteArray.size_append, e]
  omega
theorem lineT_size {x : Rc} (h : recB x = true) : (lineT x).size ≤ 150 := by
  have z := recT_size h
  have hl := sumL_lt (recT x).data.toList
  have z2 : (numT (sumL (recT x).data.toList)).size ≤ 14 := numT_size (by omega) (by omega)
  have e : (⟨#[32]⟩ : ByteArray).size = 1 := rfl
  have e' : (⟨#[10]⟩ : ByteArray).size = 1 := rfl
  unfold lineT
  simp only [ByteArray.size_append, e, e']
  omega
set_option maxHeartbeats 1000000 in
theorem l28Sum_any (s : ByteArray) (w : World) (hs : s.size ≤ 1048576) : Calls Tryz.prog 43 #[.string s] w fun e w' => e = .returned (.int .i64 (sumL s.data.toList)) ∧ w = w' := by
  go_enter Tryz.func43, Tryz.ntmps43
  go_wp2
  go_loop [3, 4] (fun n i => ∃ k m : Nat, k ≤ s.size ∧ i = .int .i64 k ∧ n = .int .i64 m ∧ m = sumL (s.data.toList.take k) ∧ m < 99991) (fun _ i => s.size - (intOf i).toNat)
  case atStart => exact ⟨0, 1, Nat.zero_le _, rfl, rfl, rfl, by omega⟩
  case round =>
    obtain ⟨k, m, hk, rfl, rfl, hm, hm2⟩ := hrel
    have Hm := Lib.hid hm
    clear hm
    by_cases hlt : k < s.size
    · have Hn := Lib.hid (sumL_next hlt)
      have hlt2 := sumL_lt (s.data.toList.take (k + 1))
      have hc : s[k].toNat < 256 := s[k].toNat_lt
      go_wp2
      refine ⟨⟨k + 1, sumL (s.data.toList.take (k + 1)), by omega, by go_num, ?_, rfl, by simpa using hlt2⟩, by simp [intOf]; omega⟩
      rw [Hn.out, ← Hm.out]
    · go_wp2
      go_ret
      refine ⟨ret_int ?_, rfl⟩
      rw [Hm.out, List.take_of_length_le (by simp; omega)]
theorem below_refl' (w : World) : Below w.heap.size w w := Below.refl _ _
set_option maxRecDepth 10000 in
set_option maxHeartbeats 4000000 in
theorem l28Line_any (x : Rc) (w : World) (hx : recB x = true) : Calls Tryz.prog 19 #[x.v] w fun e w' => e = .returned (.string (lineT x)) ∧ Below w.heap.size w w' := by
  obtain ⟨h1, h2, h3, h4, _, h5, _, h6, h7⟩ := rec_bd hx
  have z1 : (numT x.day).size ≤ 14 := numT_size (by omega) (by omega)
  have z2 : (numT x.rows).size ≤ 14 := numT_size (by omega) (by omega)
  have hl := sumL_lt (recT x).data.toList
  have z3 : (numT (sumL (recT x).data.toList)).size ≤ 14 := numT_size (by omega) (by omega)
  have hz := recT_size hx
  have eT : lineT x = recT x ++ ⟨#[32]⟩ ++ numT (sumL (recT x).data.toList) ++ ⟨#[10]⟩ := rfl
  have HT := Lib.hid eT
  have Hs := Lib.hid (fun w' => l1Num_z (sumL (recT x).data.toList) w' (by omega) (by omega))
  have Hsum := Lib.hid (fun w' => l28Sum_any (recT x) w' (by omega))
  have eR : recT x = numT x.day ++ ⟨#[32]⟩ ++ x.meth ++ ⟨#[32]⟩ ++ x.touch ++ ⟨#[32]⟩ ++ numT x.rows ++ ⟨#[32]⟩ ++ x.note := rfl
  have Hrec := Lib.hid eR
  clear eT eR
  obtain ⟨T, hT⟩ : ∃ T, T = lineT x := ⟨_, rfl⟩
  obtain ⟨R, hR⟩ : ∃ R, R = recT x := ⟨_, rfl⟩
  rw [← hT] at HT
  rw [← hR] at HT Hs Hsum Hrec z3 hz
  rw [← hT]
  clear hT hR hl
  unfold Rc.v
  have o1 : ¬ 9223372036854775807 < (numT x.day).size + 1 := by omega
  have o2 : ¬ 9223372036854775807 < (numT x.day).size + 1 + x.meth.size := by omega
  have o3 : ¬ 9223372036854775807 < (numT x.day).size + 1 + x.meth.size + 1 := by omega
  have o4 : ¬ 9223372036854775807 < (numT x.day).size + 1 + x.meth.size + 1 + x.touch.size := by omega
  have o5 : ¬ 9223372036854775807 < (numT x.day).size + 1 + x.meth.size + 1 + x.touch.size + 1 := by omega
  have o6 : ¬ 9223372036854775807 < (numT x.day).size + 1 + x.meth.size + 1 + x.touch.size + 1 + (numT x.rows).size := by omega
  have o7 : ¬ 9223372036854775807 < (numT x.day).size + 1 + x.meth.size + 1 + x.touch.size + 1 + (numT x.rows).size + 1 := by omega
  have o8 : ¬ 9223372036854775807 < (numT x.day).size + 1 + x.meth.size + 1 + x.touch.size + 1 + (numT x.rows).size + 1 + x.note.size := by omega
  go_enter Tryz.func19, Tryz.ntmps19
  go_wp2_with fail
  refine box1 (C := fun W => Code.wp _ _ _ _ W) ?_
  intro wb hw k1 hB0
  have R1 := boxRule k1
  clear k1
  have R3 : ∀ (y : Aft wb) (i : Nat), y.w.cell? ⟨w.heap.size, i, none⟩ = #[.int .i64 x.day, .string x.meth, .string x.touch, .int .i64 x.rows, .string x.note][i]? := fun y i => R1 y.w i y.h
  clear R1
  refine wp_region_aft (wb := wb) (by kernel_rfl) (by kernel_rfl) hB0 ?_
  repeat (go_big_quiet_step ((first | (go_at_call 42; exact calls_aft fun w' hb' => l1Num_z _ w' (by omega) (by omega)))))
  refine wpQuiet_nil ?_
  rintro _ ⟨⟨w3, hB3⟩, rfl⟩
  clear R3 o1 o2 o3 o4 o5 o6 o7 o8
  rw [← Hrec.out]
  go_wp2_with fail
  refine (Hsum.out _).mono ?_; rintro e w4 ⟨rfl, rfl⟩
  go_wp2_with fail
  refine (Hs.out _).mono ?_; rintro e w5 ⟨rfl, hb5⟩
  go_wp2_with fail
  go_ret
  exact ⟨by rw [HT.out]; rfl, bw_to (bw_to hw hB3) hb5⟩
def join5 (a b c d e : ByteArray) : ByteArray := a ++ ⟨#[32]⟩ ++ b ++ ⟨#[32]⟩ ++ c ++ ⟨#[32]⟩ ++ d ++ ⟨#[32]⟩ ++ e
theorem join5_eq (a b c d e : ByteArray) : (⟨(Lib.join ([a, b, c, d, e].map (·.data.toList)) spB.data.toList).toArray⟩ : ByteArray) = join5 a b c d e := by
  apply ByteArray.ext
  apply Array.toList_inj.1
  unfold join5
  simp [Lib.join_cons, Lib.joinTail, spB]
theorem joined5_any (a b c d e : ByteArray) (w : World) (hz : (join5 a b c d e).size ≤ 1000000) : Calls Tryz.prog 38 #[.slice (some ⟨w.heap.size, 0, none⟩) 5 5, .string ⟨#[32]⟩] (w.alloc (.cells #[.string a, .string b, .string c, .string d, .string e] 9)) fun r w' =>
    r = .returned (.string (join5 a b c d e)) ∧ Below (w.alloc (.cells #[.string a, .string b, .string c, .string d, .string e] 9)).heap.size (w.alloc (.cells #[.string a, .string b, .string c, .string d, .string e] 9)) w' := by
  have hj := join5_eq a b c d e
  have hsz : (Lib.join ([a, b, c, d, e].map (·.data.toList)) spB.data.toList).length ≤ 140737488355328 := by
    have e : (Lib.join ([a, b, c, d, e].map (·.data.toList)) spB.data.toList).length = (join5 a b c d e).size := by
      rw [← hj]; show _ = (Lib.join ([a, b, c, d, e].map (·.data.toList)) spB.data.toList).toArray.size; simp
    omega
  have hk := heap_new w (.cells #[.string a, .string b, .string c, .string d, .string e] 9)
  obtain ⟨W, hW⟩ : ∃ W, W = w.alloc (.cells #[.string a, .string b, .string c, .string d, .string e] 9) := ⟨_, rfl⟩
  rw [← hW] at hk ⊢
  clear hW
  have hc := Tryz.strings_Join w.heap.size 0 5 [a, b, c, d, e] spB W (fun j x hx => by
    rw [Nat.zero_add, heap_cell hk j]
    have e5 : (#[Value.string a, .string b, .string c, .string d, .string e] : Array Value)[j]? = ([a, b, c, d, e].map Value.string)[j]? := by simp
    rw [e5, List.getElem?_map, hx]; rfl) (blk_ltR hk) (by simp) (by simp) hsz
  rw [hj] at hc
  have Hc := Lib.hid hc
  clear hc hj hsz hz
  unfold spB at Hc
  go_enter Tryz.func38, Tryz.ntmps38
  go_wp2_with fail
  refine Hc.out.mono ?_; rintro r w' ⟨rfl, hb'⟩
  go_wp2_with fail
  go_ret
  exact ⟨rfl, hb'⟩
set_option maxRecDepth 10000 in
set_option maxHeartbeats 4000000 in
theorem recordLine_any (x : Rc) (w : World) (hx : recB x = true) (ht : Tab10 w) : Calls Tryz.prog 17 #[x.v] w fun e w' => e = .returned (.string (lineT x)) ∧ Below w.heap.size w w' := by
  obtain ⟨h1, h2, h3, h4, _, h5, _, h6, h7⟩ := rec_bd hx
  have hl := sumL_lt (recT x).data.toList
  have z3 : (numT (sumL (recT x).data.toList)).size ≤ 14 := numT_size (by omega) (by omega)
  have hz := recT_size hx
  have eT : lineT x = recT x ++ ⟨#[32]⟩ ++ numT (sumL (recT x).data.toList) ++ ⟨#[10]⟩ := rfl
  have HT := Lib.hid eT
  have Ht := Lib.hid ht
  have Hj := Lib.hid (fun W => joined5_any (numT x.day) x.meth x.touch (numT x.rows) x.note W (show (recT x).size ≤ 1000000 by omega))
  have eR : join5 (numT x.day) x.meth x.touch (numT x.rows) x.note = recT x := rfl
  rw [eR] at Hj
  clear ht
  obtain ⟨T, hT⟩ : ∃ T, T = lineT x := ⟨_, rfl⟩
  obtain ⟨R, hR⟩ : ∃ R, R = recT x := ⟨_, rfl⟩
  rw [← hT] at HT
  rw [← hR] at HT Hj z3 hz hl
  rw [← hT]
  clear hT hR eT eR
  unfold Rc.v
  go_enter Tryz.func17, Tryz.ntmps17
  go_wp2_with fail
  refine box1 (C := fun W => Code.wp _ _ _ _ W) ?_
  intro wb hw k1 hB0
  have R1 := boxRule k1
  clear k1
  go_region_held3 (fun w' => Below wb.heap.size wb w') (first | exact Below.drew (by assumption) | exact bw_to (by assumption) hb' | exact bw_al (by assumption) _)
    (first | (go_at_call 39; refine (decimal_any _ _ (by omega) (by omega) (Ht.out.to (bw_to hw (by assumption)))).mono ?_; rintro e w' ⟨rfl, hb'⟩) | (go_at_call 38; refine (Hj.out _).mono ?_; rintro e w' ⟨rfl, hb'⟩))
  rename_i wz hBz
  go_wp2_with fail
  go_loop [4, 22] (fun n i => ∃ k m : Nat, k ≤ R.size ∧ i = .int .i64 k ∧ n = .int .i64 m ∧ m = sumL (R.data.toList.take k) ∧ m < 99991) (fun _ i => R.size - (intOf i).toNat)
  case atStart => exact ⟨0, 1, Nat.zero_le _, rfl, rfl, rfl, by omega⟩
  case round =>
    obtain ⟨k, m, hk, rfl, rfl, hm, hm2⟩ := hrel
    have Hm := Lib.hid hm
    clear hm
    by_cases hlt : k < R.size
    · have Hn := Lib.hid (sumL_next hlt)
      have hlt2 := sumL_lt (R.data.toList.take (k + 1))
      have hc : R[k].toNat < 256 := R[k].toNat_lt
      go_wp2_with fail
      refine ⟨⟨k + 1, sumL (R.data.toList.take (k + 1)), by omega, by go_num, ?_, rfl, by simpa using hlt2⟩, by simp [intOf]; omega⟩
      rw [Hn.out, ← Hm.out]
    · have Hend := Lib.hid (show m = sumL R.data.toList by rw [Hm.out, List.take_of_length_le (by simp; omega)])
      have hz3 : (numT (m : Int)).size ≤ 14 := by rw [Hend.out]; exact z3
      go_wp2_with fail
      refine (decimal_any _ _ (by omega) (by omega) (Ht.out.to (bw_to hw (by assumption)))).mono ?_; rintro e w5 ⟨rfl, hb5⟩
      go_wp2_with fail
      go_ret
      exact ⟨by rw [HT.out, ← Hend.out]; rfl, bw_to (bw_to hw (by assumption)) hb5⟩
def booksT (xs : List Rc) (k : Nat) : ByteArray := (xs.take k).foldl (fun s x => s ++ lineT x) ⟨#[]⟩
theorem booksT_zero (xs : List Rc) : booksT xs 0 = ⟨#[]⟩ := rfl
theorem booksT_succ {xs : List Rc} {k : Nat} (h : k < xs.length) : booksT xs (k + 1) = booksT xs k ++ lineT xs[k] := by
  unfold booksT; rw [List.take_succ_eq_append_getElem h, List.foldl_append]; rfl
theorem booksT_size {xs : List Rc} (hg : ∀ x ∈ xs, recB x = true) : ∀ k, k ≤ xs.length → (booksT xs k).size ≤ 150 * k := by
  intro k
  induction k with
  | zero => intro _; exact Nat.le_refl _
  | succ k ih =>
    intro h
    have := ih (by omega)
    have := lineT_size (hg _ (List.getElem_mem (show k < xs.length by omega)))
    rw [booksT_succ (by omega), ByteArray.size_append]
    omega
def bookT (xs : List Rc) : ByteArray := if bookB xs then booksT xs xs.length else ⟨#[]⟩
theorem bookT_no {xs : List Rc} (h : bookB xs = false) : bookT xs = ⟨#[]⟩ := by unfold bookT; rw [h]; rfl
theorem bookT_yes {xs : List Rc} (h : bookB xs = true) : bookT xs = booksT xs xs.length := by unfold bookT; rw [h]; rfl
theorem recordLine_as (x : Rc) (w : World) (hx : recB x = true) (ht : Tab10 w) : Calls Tryz.prog 17 #[.agg #[.int .i64 x.day, .string x.meth, .string x.touch, .int .i64 x.rows, .string x.note]] w fun e w' => e = .returned (.string (lineT x)) ∧ Below w.heap.size w w' := recordLine_any x w hx ht
set_option maxHeartbeats 2000000 in
theorem implBookText_any (V : Value) (xs : List Rc) (w : World) (h : Recs w V xs) (hs : AllFit xs) (ht : Tab10 w) : Calls Tryz.prog 5 #[V] w fun e w' => e = .returned (.tuple #[.string (bookT xs), .bool (bookB xs)]) ∧ Below w.heap.size w w' := by
  have Hg := Lib.hid (implGoodBook_any V xs w h hs)
  have Ht := Lib.hid ht
  obtain ⟨T, hT⟩ : ∃ T, T = bookT xs := ⟨_, rfl⟩
  obtain ⟨b, hb⟩ : ∃ b, b = bookB xs := ⟨_, rfl⟩
  rw [← hT, ← hb]
  rw [← hb] at Hg
  have HT := Lib.hid hT
  have Hb := Lib.hid hb
  obtain ⟨A, c, rfl, h1, h2, hr⟩ := h
  unfold maxLen at h2
  clear hT hb ht hs
  cases b
  · have Hn := Lib.hid (bookT_no Hb.out.symm)
    go_enter Tryz.func5, Tryz.ntmps5
    go_wp2_with fail
    refine Hg.out.mono ?_; rintro e w1 ⟨rfl, hb1⟩
    go_wp2_with fail
    go_ret2
    exact ⟨by rw [HT.out, Hn.out]; rfl, hb1⟩
  · have Hn := Lib.hid (bookT_yes Hb.out.symm)
    have hi := (bookB_iff xs).1 Hb.out.symm
    have hlen := hi.1
    have Hgd := Lib.hid hi.2.1
    clear hi
    go_enter Tryz.func5, Tryz.ntmps5
    go_wp2_with fail
    refine Hg.out.mono ?_; rintro e w1 ⟨rfl, hb1⟩
    go_wp2_with fail
    go_loopw [4, 12] (fun o i wr => ∃ k : Nat, ∃ O : ByteArray, k ≤ xs.length ∧ i = .int .i64 k ∧ o = .string O ∧ O = booksT xs k ∧ Below w.heap.size w wr) (fun _ i _ => xs.length - (intOf i).toNat)
    case atStart => exact ⟨0, _, by omega, rfl, rfl, rfl, hb1⟩
    case round =>
      obtain ⟨k, O, hk, rfl, rfl, hO, hB⟩ := hrel
      have hOz := booksT_size Hgd.out k hk
      rw [← hO] at hOz
      have HO := Lib.hid hO
      clear hO
      by_cases hlt : k < xs.length
      · obtain ⟨ad, rfl, hC⟩ := recs_el hr rfl hlt
        have hgk := Hgd.out _ (List.getElem_mem hlt)
        have Hnext := Lib.hid (booksT_succ hlt)
        have hlz := lineT_size hgk
        have Hl := Lib.hid (fun w ht => recordLine_as xs[k] w hgk ht)
        obtain ⟨L, hL⟩ : ∃ L, L = lineT xs[k] := ⟨_, rfl⟩
        rw [← hL] at Hnext hlz Hl
        obtain ⟨x, ex⟩ : ∃ x, x = xs[k] := ⟨_, rfl⟩
        rw [← ex] at hC Hl
        clear hL ex hgk
        go_wp2_with fail
        refine (Hl.out _ (Ht.out.to (bw_al hB _))).mono ?_; rintro e w2 ⟨rfl, hb2⟩
        go_wp2_with fail
        exact ⟨⟨k + 1, _, by omega, by go_num, rfl, by rw [HO.out, Hnext.out], bw_to (bw_al hB _) hb2⟩, by simp [intOf]; omega⟩
      · obtain rfl : k = xs.length := by omega
        go_wp2_with fail
        go_ret2
        exact ⟨by rw [HT.out, Hn.out, HO.out]; rfl, hB⟩
theorem l28Line_as (x : Rc) (w : World) (hx : recB x = true) : Calls Tryz.prog 19 #[.agg #[.int .i64 x.day, .string x.meth, .string x.touch, .int .i64 x.rows, .string x.note]] w fun e w' => e = .returned (.string (lineT x)) ∧ Below w.heap.size w w' := l28Line_any x w hx
set_option maxHeartbeats 2000000 in
theorem specBookText_any (V : Value) (xs : List Rc) (w : World) (h : Recs w V xs) (hs : AllFit xs) : Calls Tryz.prog 6 #[V] w fun e w' => e = .returned (.tuple #[.string (bookT xs), .bool (bookB xs)]) ∧ Below w.heap.size w w' := by
  have Hg := Lib.hid (l28Book_any V xs w h hs)
  obtain ⟨T, hT⟩ : ∃ T, T = bookT xs := ⟨_, rfl⟩
  obtain ⟨b, hb⟩ : ∃ b, b = bookB xs := ⟨_, rfl⟩
  rw [← hT, ← hb]
  rw [← hb] at Hg
  have HT := Lib.hid hT
  have Hb := Lib.hid hb
  obtain ⟨A, c, rfl, h1, h2, hr⟩ := h
  unfold maxLen at h2
  clear hT hb hs
  cases b
  · have Hn := Lib.hid (bookT_no Hb.out.symm)
    go_enter Tryz.func6, Tryz.ntmps6
    go_wp2_with fail
    refine Hg.out.mono ?_; rintro e w1 ⟨rfl, hb1⟩
    go_wp2_with fail
    go_ret2
    exact ⟨by rw [HT.out, Hn.out]; rfl, hb1⟩
  · have Hn := Lib.hid (bookT_yes Hb.out.symm)
    have hi := (bookB_iff xs).1 Hb.out.symm
    have hlen := hi.1
    have Hgd := Lib.hid hi.2.1
    clear hi
    go_enter Tryz.func6, Tryz.ntmps6
    go_wp2_with fail
    refine Hg.out.mono ?_; rintro e w1 ⟨rfl, hb1⟩
    go_wp2_with fail
    go_loopw [4, 12] (fun o i wr => ∃ k : Nat, ∃ O : ByteArray, k ≤ xs.length ∧ i = .int .i64 k ∧ o = .string O ∧ O = booksT xs k ∧ Below w.heap.size w wr) (fun _ i _ => xs.length - (intOf i).toNat)
    case atStart => exact ⟨0, _, by omega, rfl, rfl, rfl, hb1⟩
    case round =>
      obtain ⟨k, O, hk, rfl, rfl, hO, hB⟩ := hrel
      have hOz := booksT_size Hgd.out k hk
      rw [← hO] at hOz
      have HO := Lib.hid hO
      clear hO
      by_cases hlt : k < xs.length
      · obtain ⟨ad, rfl, hC⟩ := recs_el hr rfl hlt
        have hgk := Hgd.out _ (List.getElem_mem hlt)
        have Hnext := Lib.hid (booksT_succ hlt)
        have hlz := lineT_size hgk
        have Hl := Lib.hid (fun w => l28Line_as xs[k] w hgk)
        obtain ⟨L, hL⟩ : ∃ L, L = lineT xs[k] := ⟨_, rfl⟩
        rw [← hL] at Hnext hlz Hl
        obtain ⟨x, ex⟩ : ∃ x, x = xs[k] := ⟨_, rfl⟩
        rw [← ex] at hC Hl
        clear hL ex hgk
        go_wp2_with fail
        refine (Hl.out _).mono ?_; rintro e w2 ⟨rfl, hb2⟩
        go_wp2_with fail
        exact ⟨⟨k + 1, _, by omega, by go_num, rfl, by rw [HO.out, Hnext.out], bw_to (bw_al hB _) hb2⟩, by simp [intOf]; omega⟩
      · obtain rfl : k = xs.length := by omega
        go_wp2_with fail
        go_ret2
        exact ⟨by rw [HT.out, Hn.out, HO.out]; rfl, hB⟩
end Go.Proofs.YtpkpahadjdkafaaGreatDoor
