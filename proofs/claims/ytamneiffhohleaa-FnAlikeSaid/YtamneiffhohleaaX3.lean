/- Contracts: FindLike both, ReverseTouch, TurnTouch, qSameBook, qNumber. -/
import Derived.Test.YtamneiffhohleaaW6
import Derived.Test.YtamneiffhohleaaX1
import Derived.Test.YtamneiffhohleaaP7
namespace Go.Proofs.Ytamneiffhohleaa
open Go Go.RowKit
set_option linter.unusedVariables false
set_option linter.unusedSimpArgs false

theorem fl1_any (x : Rc) (m t : ByteArray) (g k : Nat) (w : World) (hg : ∀ w', Below w.heap.size w w' → w'.cell? ⟨g, 0, none⟩ = some (.string m) ∧ w'.cell? ⟨k, 0, none⟩ = some (.string t)) (hx : goodT x.touch) (ht : goodT t) :
    Calls Try.prog 45 #[x.v, .pointer (some ⟨g, 0, none⟩), .pointer (some ⟨k, 0, none⟩)] w fun e w' => e = .returned (.bool (alikeP m t x)) ∧ Below w.heap.size w w' := by
  have Ha := Lib.hid (fun w => alike_any x m t w hx ht)
  unfold Rc.v at Ha ⊢
  have hg0 := hg _ (bw_al (Below.refl _ _) (.cells #[.int .i64 x.day, .string x.meth, .string x.touch, .int .i64 x.rows, .string x.note] 31))
  clear hg
  go_enter Try.func45, Try.ntmps45
  go_wp2_with fail
  refine (Ha.out _).mono ?_; rintro e w1 ⟨rfl, hb1⟩
  go_wp2_with fail
  go_ret
  exact ⟨rfl, bw_to (bw_al (Below.refl _ _) _) hb1⟩
set_option maxRecDepth 10000 in
set_option maxHeartbeats 2000000 in
theorem indexFuncR_fl (V : Value) (xs : List Rc) (p : Rc → Bool) (ptr ptr' : Value) (w : World) (h : Recs w V xs)
    (hp : ∀ x ∈ xs, ∀ w', Below w.heap.size w w' → Calls Try.prog 45 #[x.v, ptr, ptr'] w' fun e w'' => e = .returned (.bool (p x)) ∧ Below w'.heap.size w' w'') :
    Calls Try.prog 44 #[V, .func (.func 45) #[] #[ptr, ptr']] w fun e w' => e = .returned (.int .i64 (ixR p 0 xs)) ∧ Below w.heap.size w w' := by
  obtain ⟨A, c, rfl, h1, h2, hr⟩ := h
  unfold maxLen at h2
  have Hp := Lib.hid hp
  clear hp
  go_enter Try.func44, Try.ntmps44
  go_wp2_with fail
  go_loopw [8] (fun i wr => ∃ k : Nat, k ≤ xs.length ∧ i = .int .i64 k ∧ ixR p k (xs.drop k) = ixR p 0 xs ∧ Below w.heap.size w wr) (fun i _ => xs.length - (intOf i).toNat)
  case atStart => exact ⟨0, by omega, rfl, rfl, Below.refl _ _⟩
  case round =>
    obtain ⟨k, hk, rfl, hok, hB⟩ := hrel
    have Hok := Lib.hid hok
    clear hok
    by_cases hlt : k < xs.length
    · obtain ⟨ad, rfl, hC⟩ := recs_el hr rfl hlt
      have H1 := Lib.hid (ixR_hit hlt Hok.out)
      have H2 := Lib.hid (ixR_step hlt Hok.out)
      have Hc := Lib.hid (Hp.out _ (List.getElem_mem hlt))
      unfold Rc.v at Hc
      obtain ⟨b, hb⟩ : ∃ b, b = p xs[k] := ⟨_, rfl⟩
      rw [← hb] at H1 H2 Hc
      clear hb
      go_wp2_with fail
      refine (Hc.out _ hB).mono ?_; rintro e w1 ⟨rfl, hb1⟩
      cases b
      · go_wp2_with fail
        exact ⟨⟨k + 1, by omega, by go_num, H2.out (by simp), bw_to hB hb1⟩, by simp [intOf]; omega⟩
      · go_wp2_with fail
        go_ret
        exact ⟨ret_int (H1.out (by simp)).symm, bw_to hB hb1⟩
    · go_wp2_with fail
      go_ret
      exact ⟨ret_int (ixR_end (by omega) Hok.out).symm, hB⟩
def flG (xs : List Rc) (t : ByteArray) : Bool := bookB xs && touchB t.data.toList
def flB (xs : List Rc) (m t : ByteArray) : Bool := flG xs t && decide (0 ≤ ixR (alikeP m t) 0 xs)
def flN (xs : List Rc) (m t : ByteArray) : Int := if flB xs m t then ixR (alikeP m t) 0 xs else 0
theorem fl_no {xs : List Rc} {m t : ByteArray} (h : flG xs t = false) : flB xs m t = false ∧ flN xs m t = 0 := by
  have e : flB xs m t = false := by unfold flB; rw [h]; rfl
  exact ⟨e, by unfold flN; rw [e]; rfl⟩
theorem fl_neg {xs : List Rc} {m t : ByteArray} (h : ¬ 0 ≤ ixR (alikeP m t) 0 xs) : flB xs m t = false ∧ flN xs m t = 0 := by
  have e : flB xs m t = false := by unfold flB; rw [decide_eq_false h, Bool.and_false]
  exact ⟨e, by unfold flN; rw [e]; rfl⟩
theorem fl_yes {xs : List Rc} {m t : ByteArray} (hg : flG xs t = true) (h : 0 ≤ ixR (alikeP m t) 0 xs) : flB xs m t = true ∧ flN xs m t = ixR (alikeP m t) 0 xs := by
  have e : flB xs m t = true := by unfold flB; rw [hg, decide_eq_true h]; rfl
  exact ⟨e, by unfold flN; rw [e]; rfl⟩
def FlPost (w : World) (xs : List Rc) (m t : ByteArray) (e : Ending) (w' : World) : Prop := e = .returned (.tuple #[.int .i64 (flN xs m t), .bool (flB xs m t)]) ∧ Below w.heap.size w w'
set_option maxRecDepth 100000 in
set_option maxHeartbeats 2000000 in
theorem implFindLike_any (V : Value) (xs : List Rc) (m t : ByteArray) (w : World) (h : Recs w V xs) (hs : AllFit xs) (ht : t.size ≤ maxLen) : Calls Try.prog 20 #[V, .string m, .string t] w (FlPost w xs m t) := by
  have H := Lib.hid h
  have hgb := fun W hW => implGoodBook_any V xs W hW hs
  have hgt := fun W => GoodTouch_any t W ht
  have Hno := Lib.hid (fl_no (xs := xs) (m := m) (t := t))
  have Hneg := Lib.hid (fl_neg (xs := xs) (m := m) (t := t))
  have Hyes := Lib.hid (fl_yes (xs := xs) (m := m) (t := t))
  have hG : flG xs t = (bookB xs && touchB t.data.toList) := rfl
  obtain ⟨N, hN⟩ : ∃ N, N = flN xs m t := ⟨_, rfl⟩
  obtain ⟨B, hB⟩ : ∃ B, B = flB xs m t := ⟨_, rfl⟩
  unfold FlPost
  rw [← hN, ← hB]
  rw [← hN, ← hB] at Hno Hneg Hyes
  obtain ⟨p, hp⟩ : ∃ p, p = bookB xs := ⟨_, rfl⟩
  obtain ⟨q, hq⟩ : ∃ q, q = touchB t.data.toList := ⟨_, rfl⟩
  rw [← hp] at hgb hG
  rw [← hq] at hgt hG
  have Hgb := Lib.hid hgb
  have Hgt := Lib.hid hgt
  have HG := Lib.hid hG
  have Hp := Lib.hid hp
  have Hq := Lib.hid hq
  clear h hs ht hgb hgt hG hN hB hp hq
  go_enter Try.func20, Try.ntmps20
  go_wp2_with fail
  refine box2 (C := fun W => Calls _ _ _ W _) ?_
  intro wb hw k1 k2 hB0
  have RK1 := boxRule k1
  have RK2 := boxRule k2
  have H1 := Lib.hid RK1
  have H2 := Lib.hid RK2
  clear k1 k2 RK1 RK2
  refine (Hgb.out _ (H.out.to hw)).mono ?_; rintro e w1 ⟨rfl, hb1⟩
  have hB1 := bw_to hw hb1
  have R2 := fun o => H2.out w1 o hb1
  cases p
  · have Hn := Lib.hid (Hno.out (by rw [HG.out]; rfl))
    go_wp2_with fail
    go_ret2
    exact ⟨by rw [Hn.out.1, Hn.out.2]; rfl, hB1⟩
  · go_wp2_with fail
    refine (Hgt.out _).mono ?_; rintro e w2 ⟨rfl, rfl⟩
    cases q
    · have Hn := Lib.hid (Hno.out (by rw [HG.out]; rfl))
      go_wp2_with fail
      go_ret2
      exact ⟨by rw [Hn.out.1, Hn.out.2]; rfl, hB1⟩
    · have hgd := ((bookB_iff xs).1 Hp.out.symm).2.1
      have Hix := Lib.hid (indexFuncR_fl V xs (alikeP m t) (.pointer (some ⟨w.heap.size, 0, none⟩)) (.pointer (some ⟨w.heap.size + 1, 0, none⟩)) w1 (H.out.to hB1)
        (fun x hx w' hb' => fl1_any x _ _ _ _ w' (fun w2 hb2 => ⟨H1.out w2 0 (bw_to (bw_to hb1 hb') hb2), H2.out w2 0 (bw_to (bw_to hb1 hb') hb2)⟩) (recB_touch (hgd x hx)) Hq.out.symm))
      have hrng := ixR_rng (alikeP m t) xs 0
      obtain ⟨z, hz⟩ : ∃ z, z = ixR (alikeP m t) 0 xs := ⟨_, rfl⟩
      rw [← hz] at Hix Hneg Hyes hrng
      clear hz hgd
      go_wp2_with fail
      refine Hix.out.mono ?_; rintro e w3 ⟨rfl, hb3⟩
      by_cases hz : 0 ≤ z
      · have Hy := Lib.hid (Hyes.out (by rw [HG.out]; rfl) hz)
        go_wp2_with fail
        go_ret2
        exact ⟨by rw [Hy.out.1, Hy.out.2]; rfl, bw_to hB1 hb3⟩
      · have Hn := Lib.hid (Hneg.out (by omega))
        go_wp2_with fail
        go_ret2
        exact ⟨by rw [Hn.out.1, Hn.out.2]; rfl, bw_to hB1 hb3⟩
theorem l1Most_any (a b : Int) (w : World) : Calls Try.prog 48 #[.int .i64 a, .int .i64 b] w fun e w' => e = .returned (.int .i64 (max a b)) ∧ w = w' := by
  by_cases h : b < a
  · have e : max a b = a := Int.max_eq_left (by omega)
    rw [e]
    clear e
    go_enter Try.func48, Try.ntmps48
    go_wp2_with fail
    go_ret
    exact ⟨rfl, rfl⟩
  · have e : max a b = b := Int.max_eq_right (by omega)
    rw [e]
    clear e
    go_enter Try.func48, Try.ntmps48
    go_wp2_with fail
    go_ret
    exact ⟨rfl, rfl⟩
set_option maxRecDepth 100000 in
set_option maxHeartbeats 2000000 in
theorem specFindLike_any (V : Value) (xs : List Rc) (m t : ByteArray) (w : World) (h : Recs w V xs) (hs : AllFit xs) (ht : t.size ≤ maxLen) : Calls Try.prog 21 #[V, .string m, .string t] w (FlPost w xs m t) := by
  have H := Lib.hid h
  have hgb := fun W hW => l28Book_any V xs W hW hs
  have hgt := fun W => l9Good_any t W ht
  have Hno := Lib.hid (fl_no (xs := xs) (m := m) (t := t))
  have Hneg := Lib.hid (fl_neg (xs := xs) (m := m) (t := t))
  have Hyes := Lib.hid (fl_yes (xs := xs) (m := m) (t := t))
  have hG : flG xs t = (bookB xs && touchB t.data.toList) := rfl
  obtain ⟨N, hN⟩ : ∃ N, N = flN xs m t := ⟨_, rfl⟩
  obtain ⟨B, hB⟩ : ∃ B, B = flB xs m t := ⟨_, rfl⟩
  unfold FlPost
  rw [← hN, ← hB]
  rw [← hN, ← hB] at Hno Hneg Hyes
  obtain ⟨p, hp⟩ : ∃ p, p = bookB xs := ⟨_, rfl⟩
  obtain ⟨q, hq⟩ : ∃ q, q = touchB t.data.toList := ⟨_, rfl⟩
  rw [← hp] at hgb hG
  rw [← hq] at hgt hG
  have Hgb := Lib.hid hgb
  have Hgt := Lib.hid hgt
  have HG := Lib.hid hG
  have Hp := Lib.hid hp
  have Hq := Lib.hid hq
  clear h hs ht hgb hgt hG hN hB hp hq
  go_enter Try.func21, Try.ntmps21
  go_wp2_with fail
  refine (Hgb.out _ H.out).mono ?_; rintro e w1 ⟨rfl, hb1⟩
  cases p
  · have Hn := Lib.hid (Hno.out (by rw [HG.out]; rfl))
    go_wp2_with fail
    go_ret2
    exact ⟨by rw [Hn.out.1, Hn.out.2]; rfl, hb1⟩
  · go_wp2_with fail
    refine (Hgt.out _).mono ?_; rintro e w2 ⟨rfl, rfl⟩
    cases q
    · have Hn := Lib.hid (Hno.out (by rw [HG.out]; rfl))
      go_wp2_with fail
      go_ret2
      exact ⟨by rw [Hn.out.1, Hn.out.2]; rfl, hb1⟩
    · have hgd := ((bookB_iff xs).1 Hp.out.symm).2.1
      have Hix := Lib.hid (l28Find_any V xs ⟨0, m, t, 0, ⟨#[]⟩⟩ w1 (H.out.to hb1) hgd Hq.out.symm)
      obtain ⟨z, hz⟩ : ∃ z, z = ixR (alikeP m t) 0 xs := ⟨_, rfl⟩
      simp only at Hix
      rw [← hz] at Hix Hneg Hyes
      unfold Rc.v at Hix
      have hrng := ixR_rng (alikeP m t) xs 0
      rw [← hz] at hrng
      clear hz hgd
      go_wp2_with fail
      refine Hix.out.mono ?_; rintro e w3 ⟨rfl, hb3⟩
      have hmx := fun W => l1Most_any z 0 W
      by_cases hz : 0 ≤ z
      · rw [Int.max_eq_left hz] at hmx
        have Hm := Lib.hid hmx
        have Hy := Lib.hid (Hyes.out (by rw [HG.out]; rfl) hz)
        clear hmx
        go_wp2_with (go_at_call 48; refine (Hm.out _).mono ?_; rintro e w4 ⟨rfl, rfl⟩)
        go_ret2
        exact ⟨by rw [Hy.out.1, Hy.out.2]; rfl, bw_to hb1 hb3⟩
      · rw [Int.max_eq_right (by omega)] at hmx
        have Hm := Lib.hid hmx
        have Hn := Lib.hid (Hneg.out (by omega))
        have hd : decide (0 ≤ z) = false := decide_eq_false hz
        clear hmx
        go_wp2_with (go_at_call 48; refine (Hm.out _).mono ?_; rintro e w4 ⟨rfl, rfl⟩)
        go_ret2
        exact ⟨by rw [Hn.out.1, Hn.out.2]; rfl, bw_to hb1 hb3⟩
theorem callC_rot {s : ByteArray} {n : Nat} (h : touchB s.data.toList = true) (hn : n ≤ s.size) : touchB (rotT s n).data.toList = true := by
  unfold touchB at h ⊢
  rw [Bool.and_eq_true, List.all_eq_true, decide_eq_true_eq] at h ⊢
  have hl : (rotT s n).data.toList.length = s.data.toList.length := by rw [bytes_len, bytes_len, rot_size hn]
  refine ⟨fun c hc => ?_, by rw [hl]; exact h.2⟩
  rw [rot_list hn] at hc
  rcases List.mem_append.1 hc with hc | hc
  · exact h.1 c (List.mem_of_mem_drop hc)
  · exact h.1 c (List.mem_of_mem_take hc)
theorem callC_rev {s : ByteArray} (h : touchB s.data.toList = true) : touchB (revT s).data.toList = true := by
  have hz := touch_size h
  unfold touchB at h ⊢
  rw [Bool.and_eq_true, List.all_eq_true, decide_eq_true_eq] at h ⊢
  have hl : (revT s).data.toList.length = s.data.toList.length := by rw [bytes_len, bytes_len, rev_size hz.1]
  refine ⟨fun c hc => ?_, by rw [hl]; exact h.2⟩
  rw [revT_list hz.1] at hc
  rcases List.mem_append.1 hc with hc | hc
  · exact h.1 c (List.mem_of_mem_take (List.mem_reverse.1 hc))
  · exact h.1 c (List.mem_of_mem_drop hc)
theorem ReverseTouch_any (s : ByteArray) (w : World) (hg : touchB s.data.toList = true) : Calls Try.prog 24 #[.string s] w fun e w' => e = .returned (.tuple #[.string (revT s), .bool true]) ∧ w = w' := by
  obtain ⟨h1, h2⟩ := touch_size hg
  have hgd := fun W => l9Good_any s W (by unfold maxLen; omega)
  rw [hg] at hgd
  have Hgd := Lib.hid hgd
  have Hr := Lib.hid (fun W => l9Reverse_any s W (by omega) h1)
  clear hgd hg
  go_enter Try.func24, Try.ntmps24
  go_wp2_with fail
  refine (Hgd.out _).mono ?_; rintro e w1 ⟨rfl, rfl⟩
  go_wp2_with fail
  refine (Hr.out _).mono ?_; rintro e w1 ⟨rfl, rfl⟩
  go_wp2_with fail
  go_ret2
  exact ⟨rfl, rfl⟩
theorem TurnTouch_any (s : ByteArray) (n : Nat) (w : World) (hg : touchB s.data.toList = true) (hn : n < s.size) : Calls Try.prog 25 #[.string s, .int .i64 n] w fun e w' => e = .returned (.tuple #[.string (rotT s n), .bool true]) ∧ Below w.heap.size w w' := by
  obtain ⟨h1, h2⟩ := touch_size hg
  have hgd := fun W => l9Good_any s W (by unfold maxLen; omega)
  rw [hg] at hgd
  have Hgd := Lib.hid hgd
  have Hr := Lib.hid (fun W => l9Turn_any s n W (by omega) (by omega))
  clear hgd hg
  have hin : decide ((0 : Int) ≤ n ∧ (n : Int) ≤ (s.size : Int) - 1) = true := decide_eq_true (by omega)
  have hin2 := fun W => l1In_any (n : Int) 0 ((s.size : Int) - 1) W
  rw [hin] at hin2
  have Hin := Lib.hid hin2
  clear hin hin2
  go_enter Try.func25, Try.ntmps25
  go_wp2_with fail
  refine (Hgd.out _).mono ?_; rintro e w1 ⟨rfl, rfl⟩
  go_wp2_with fail
  refine (Hin.out _).mono ?_; rintro e w1 ⟨rfl, rfl⟩
  go_wp2_with fail
  refine (Hr.out _).mono ?_; rintro e w1 ⟨rfl, hb1⟩
  go_wp2_with fail
  go_ret2
  exact ⟨rfl, hb1⟩
set_option maxHeartbeats 1000000 in
theorem qSameBook_same (a b : Value) (xs : List Rc) (w : World) (ha : Recs w a xs) (hb : Recs w b xs) : Calls Try.prog 22 #[a, b] w fun e w' => e = .returned (.bool true) ∧ Below w.heap.size w w' := by
  obtain ⟨A, c, rfl, h1, h2, hr⟩ := ha
  obtain ⟨A', c', rfl, h1', h2', hr'⟩ := hb
  unfold maxLen at h2 h2'
  go_enter Try.func22, Try.ntmps22
  go_wp2_with fail
  go_loopw [13] (fun i wr => ∃ k : Nat, k ≤ xs.length ∧ i = .int .i64 k ∧ Below w.heap.size w wr) (fun i _ => xs.length - (intOf i).toNat)
  case atStart => exact ⟨0, by omega, rfl, Below.refl _ _⟩
  case round =>
    obtain ⟨k, hk, rfl, hB⟩ := hrel
    by_cases hlt : k < xs.length
    · obtain ⟨ad, rfl, hC⟩ := recs_el hr rfl hlt
      obtain ⟨ad', rfl, hC'⟩ := recs_el hr' rfl hlt
      have hc0 := hC wr hB
      have hc1 := hC' wr hB
      clear hC hC'
      go_wp2_with fail
      go_big_quiet (fail)
      go_wp2_with fail
      exact ⟨⟨k + 1, by omega, by go_num, bw_dr hB _⟩, by simp [intOf]; omega⟩
    · go_wp2_with fail
      go_ret
      exact ⟨rfl, hB⟩
set_option maxHeartbeats 1000000 in
theorem qNumber_any (V : Value) (w : World) (h : BytesAt w w.heap.size V) : Calls Try.prog 26 #[V] w fun e w' => ∃ k : Nat, e = .returned (.int .i64 k) ∧ k ≤ 1000002 ∧ w = w' := by
  obtain ⟨A, n, c, zs, rfl, rfl, hnc, hc, hr, hz⟩ := h
  unfold maxLen at hc
  have Hz := Lib.hid hz
  clear hz
  go_enter Try.func26, Try.ntmps26
  go_wp2_with fail
  go_loop [3, 8] (fun q i => ∃ k m : Nat, k ≤ zs.length ∧ i = .int .i64 k ∧ q = .int .i64 m ∧ m ≤ 1000002) (fun _ i => zs.length - (intOf i).toNat)
  case atStart => exact ⟨0, 0, by omega, rfl, rfl, by omega⟩
  case round =>
    obtain ⟨k, m, hk, rfl, rfl, hm⟩ := hrel
    by_cases hlt : k < zs.length
    · obtain ⟨ad, u, rfl, hb, hu, hcell⟩ := hr.at_ (k := k) (by omega)
      have hu' : u = .int .u8 zs[k] := by simpa [hlt] using hu.symm
      subst hu'
      have hzk := Hz.out _ (List.getElem_mem hlt)
      obtain ⟨z, ez⟩ : ∃ z, z = zs[k] := ⟨_, rfl⟩
      rw [← ez] at hcell hzk
      obtain ⟨hz0, hz1⟩ := hzk
      clear hu ez
      have hmod0 : 0 ≤ (31 * (m : Int) + z) % 1000003 := Int.emod_nonneg _ (by omega)
      have hmod1 : (31 * (m : Int) + z) % 1000003 < 1000003 := Int.emod_lt_of_pos _ (by omega)
      go_wp2_with fail
      refine ⟨⟨k + 1, ((31 * (m : Int) + z) % 1000003).toNat, by omega, by go_num, congrArg (Value.int .i64) (by omega), by omega⟩, by simp [intOf]; omega⟩
    · go_wp2_with fail
      go_ret
      exact ⟨m, rfl, hm, rfl⟩
end Go.Proofs.Ytamneiffhohleaa
