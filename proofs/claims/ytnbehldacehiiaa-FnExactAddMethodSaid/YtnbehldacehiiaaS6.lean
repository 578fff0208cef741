/- FindName on both sides. -/
import Derived.Test.YtnbehldacehiiaaS5
namespace Go.Proofs.Ytnbehldacehiiaa
open Go Go.RowKit
set_option linter.unusedVariables false
set_option linter.unusedSimpArgs false

def ixOf (s : ByteArray) : Nat → List Mt → Int
  | _, [] => -1
  | k, m :: t => if (m.name.toList == s.toList) = true then k else ixOf s (k + 1) t
theorem ix_hit {s : ByteArray} {ms : List Mt} {k : Nat} {r : Int} (hk : k < ms.length) (h : ixOf s k (ms.drop k) = r) (hh : (ms[k].name.toList == s.toList) = true) : r = k := by
  rw [List.drop_eq_getElem_cons hk, ixOf, if_pos hh] at h; exact h.symm
theorem ix_step {s : ByteArray} {ms : List Mt} {k : Nat} {r : Int} (hk : k < ms.length) (h : ixOf s k (ms.drop k) = r) (hh : (ms[k].name.toList == s.toList) = false) : ixOf s (k + 1) (ms.drop (k + 1)) = r := by
  rw [List.drop_eq_getElem_cons hk, ixOf, if_neg (by rw [hh]; decide)] at h; exact h
theorem ix_end {s : ByteArray} {ms : List Mt} {k : Nat} {r : Int} (hk : ms.length ≤ k) (h : ixOf s k (ms.drop k) = r) : r = -1 := by
  rw [List.drop_of_length_le hk] at h; exact h.symm
theorem ix_rng (s : ByteArray) : ∀ (ms : List Mt) (k : Nat), ixOf s k ms = -1 ∨ (0 ≤ ixOf s k ms ∧ ixOf s k ms < k + ms.length)
  | [], k => .inl rfl
  | m :: t, k => by
    rw [ixOf]
    split
    · right; simp only [List.length_cons]; omega
    · rcases ix_rng s t (k + 1) with h | h
      · exact .inl h
      · right; simp only [List.length_cons]; omega
set_option maxHeartbeats 2000000 in
theorem l29At_any (V : Value) (ms : List Mt) (s : ByteArray) (w : World) (h : Meths w V ms) : Calls Try.prog 49 #[V, .string s] w fun e w' => e = .returned (.int .i64 (ixOf s 0 ms)) ∧ Below w.heap.size w w' := by
  obtain ⟨vs, hvl, ⟨A, c, rfl, h1, h2, hr⟩, hat⟩ := h
  unfold maxLen at h2
  have Hat := Lib.hid hat
  clear hat
  go_enter Try.func49, Try.ntmps49
  go_wp2_with fail
  go_loopw [9] (fun i wr => ∃ k : Nat, k ≤ ms.length ∧ i = .int .i64 k ∧ ixOf s k (ms.drop k) = ixOf s 0 ms ∧ Below w.heap.size w wr) (fun i _ => ms.length - (intOf i).toNat)
  case atStart => exact ⟨0, by omega, rfl, rfl, Below.refl _ _⟩
  case round =>
    obtain ⟨k, hk, rfl, hok, hB⟩ := hrel
    have Hok := Lib.hid hok
    clear hok
    by_cases hlt : k < ms.length
    · obtain ⟨ad, v, rfl, hmem, hC⟩ := meths_el hvl hr rfl hlt
      have hm := (Hat.out _ hmem).to hB
      obtain ⟨Av, cv, hv⟩ : ∃ A c, v = .slice A (ms[k]).l.length c := hm.form
      subst hv
      have H1 := Lib.hid (ix_hit hlt Hok.out)
      have H2 := Lib.hid (ix_step hlt Hok.out)
      obtain ⟨m, em⟩ : ∃ m, m = ms[k] := ⟨_, rfl⟩
      rw [← em] at hC H1 H2
      clear hmem hm em
      cases hb : (m.name.toList == s.toList)
      · go_wp2_with fail
        exact ⟨⟨k + 1, by omega, by go_num, H2.out (by assumption), bw_al hB _⟩, by simp [intOf]; omega⟩
      · go_wp2_with fail
        go_ret
        exact ⟨ret_int (H1.out (by assumption)).symm, bw_al hB _⟩
    · go_wp2_with fail
      go_ret
      exact ⟨ret_int (ix_end (by omega) Hok.out).symm, hB⟩
set_option maxHeartbeats 2000000 in
theorem findName1_any (m : Mt) (v : Value) (s : ByteArray) (g : Nat) (w : World) (hg : ∀ w', Below w.heap.size w w' → w'.cell? ⟨g, 0, none⟩ = some (.string s)) :
    Calls Try.prog 51 #[m.v v, .pointer (some ⟨g, 0, none⟩)] w fun e w' => e = .returned (.bool (m.name.toList == s.toList)) ∧ Below w.heap.size w w' := by
  unfold Mt.v
  have hg0 := hg _ (bw_al (Below.refl _ _) (.cells #[.string m.name, .int .i64 m.stage, v] 36))
  go_enter Try.func51, Try.ntmps51
  go_wp2_with fail
  go_ret
  exact ⟨rfl, bw_al (Below.refl _ _) _⟩
set_option maxHeartbeats 2000000 in
theorem indexFunc_any (V : Value) (ms : List Mt) (s : ByteArray) (g : Nat) (w : World) (h : Meths w V ms) (hg : ∀ w', Below w.heap.size w w' → w'.cell? ⟨g, 0, none⟩ = some (.string s)) :
    Calls Try.prog 50 #[V, .func (.func 51) #[] #[.pointer (some ⟨g, 0, none⟩)]] w fun e w' => e = .returned (.int .i64 (ixOf s 0 ms)) ∧ Below w.heap.size w w' := by
  obtain ⟨vs, hvl, ⟨A, c, rfl, h1, h2, hr⟩, hat⟩ := h
  unfold maxLen at h2
  have Hat := Lib.hid hat
  clear hat
  go_enter Try.func50, Try.ntmps50
  go_wp2_with fail
  go_loopw [8] (fun i wr => ∃ k : Nat, k ≤ ms.length ∧ i = .int .i64 k ∧ ixOf s k (ms.drop k) = ixOf s 0 ms ∧ Below w.heap.size w wr) (fun i _ => ms.length - (intOf i).toNat)
  case atStart => exact ⟨0, by omega, rfl, rfl, Below.refl _ _⟩
  case round =>
    obtain ⟨k, hk, rfl, hok, hB⟩ := hrel
    have Hok := Lib.hid hok
    clear hok
    by_cases hlt : k < ms.length
    · obtain ⟨ad, v, rfl, hmem, hC⟩ := meths_el hvl hr rfl hlt
      have H1 := Lib.hid (ix_hit hlt Hok.out)
      have H2 := Lib.hid (ix_step hlt Hok.out)
      obtain ⟨m, em⟩ : ∃ m, m = ms[k] := ⟨_, rfl⟩
      rw [← em] at hC H1 H2
      clear hmem em
      go_wp2_with fail
      refine (findName1_any m v s g _ fun w' hb => hg w' (bw_to hB hb)).mono ?_; rintro e w1 ⟨rfl, hb1⟩
      cases hb : (m.name.toList == s.toList)
      all_goals
        have Hb := Lib.hid hb
        clear hb
      · go_wp2_with fail
        exact ⟨⟨k + 1, by omega, by go_num, H2.out Hb.out, bw_to hB hb1⟩, by simp [intOf]; omega⟩
      · go_wp2_with fail
        go_ret
        exact ⟨ret_int (H1.out Hb.out).symm, bw_to hB hb1⟩
    · go_wp2_with fail
      go_ret
      exact ⟨ret_int (ix_end (by omega) Hok.out).symm, hB⟩
def fnN (ms : List Mt) (s : ByteArray) : Int := if libB ms then (if ixOf s 0 ms < 0 then 0 else ixOf s 0 ms) else 0
def fnB (ms : List Mt) (s : ByteArray) : Bool := libB ms && decide (0 ≤ ixOf s 0 ms)
theorem fn_no {ms : List Mt} {s : ByteArray} (h : libB ms = false) : Ending.returned (.tuple #[.int .i64 0, .bool false]) = .returned (.tuple #[.int .i64 (fnN ms s), .bool (fnB ms s)]) := by unfold fnN fnB; rw [h]; rfl
theorem fn_neg {ms : List Mt} {s : ByteArray} (h : ixOf s 0 ms < 0) : Ending.returned (.tuple #[.int .i64 0, .bool false]) = .returned (.tuple #[.int .i64 (fnN ms s), .bool (fnB ms s)]) := by
  unfold fnN fnB; rw [if_pos h, decide_eq_false (by omega), Bool.and_false]; split <;> rfl
theorem fn_yes {ms : List Mt} {s : ByteArray} (hl : libB ms = true) (h : ¬ ixOf s 0 ms < 0) : Ending.returned (.tuple #[.int .i64 (ixOf s 0 ms), .bool true]) = .returned (.tuple #[.int .i64 (fnN ms s), .bool (fnB ms s)]) := by
  unfold fnN fnB; rw [hl, if_neg h, decide_eq_true (by omega)]; rfl
set_option maxHeartbeats 2000000 in
theorem implFindName_any (V : Value) (ms : List Mt) (s : ByteArray) (w : World) (h : Meths w V ms) (hs : AllSmall ms) : Calls Try.prog 16 #[V, .string s] w fun e w' =>
    e = .returned (.tuple #[.int .i64 (fnN ms s), .bool (fnB ms s)]) ∧ Below w.heap.size w w' := by
  go_enter Try.func16, Try.ntmps16
  go_wp2_with fail
  refine box1 (C := fun W => Calls _ _ _ W _) ?_
  intro wb hw k1 hB0
  have R1 := boxRule k1
  clear k1
  refine (implGoodLibrary_any _ _ _ (h.to hw) hs).mono ?_; rintro e w1 ⟨rfl, hb1⟩
  obtain ⟨b, hlib⟩ : ∃ b, b = libB ms := ⟨_, rfl⟩
  rw [← hlib]
  cases b
  all_goals
    have Hlib := Lib.hid hlib
    clear hlib
  · go_wp2_with fail
    go_ret2
    exact ⟨fn_no Hlib.out.symm, bw_to hw hb1⟩
  · go_wp2_with fail
    refine (indexFunc_any V ms s _ _ ((h.to hw).to hb1) (fun w' hb => R1 w' 0 (bw_to hb1 hb))).mono ?_; rintro e w2 ⟨rfl, hb2⟩
    have Hneg := Lib.hid (fn_neg (ms := ms) (s := s))
    have Hyes := Lib.hid (fn_yes (s := s) Hlib.out.symm)
    obtain ⟨z, hz⟩ : ∃ z, z = ixOf s 0 ms := ⟨_, rfl⟩
    rw [← hz] at Hneg Hyes
    rw [← hz]
    clear hz
    go_wp2_with fail
    · go_ret2
      exact ⟨Hneg.out (by omega), bw_to (bw_to hw hb1) hb2⟩
    · go_ret2
      exact ⟨Hyes.out (by omega), bw_to (bw_to hw hb1) hb2⟩
set_option maxHeartbeats 2000000 in
theorem specFindName_any (V : Value) (ms : List Mt) (s : ByteArray) (w : World) (h : Meths w V ms) (hs : AllSmall ms) : Calls Try.prog 15 #[V, .string s] w fun e w' =>
    e = .returned (.tuple #[.int .i64 (fnN ms s), .bool (fnB ms s)]) ∧ Below w.heap.size w w' := by
  go_enter Try.func15, Try.ntmps15
  go_wp2_with fail
  refine (l29Good_any _ _ _ h hs).mono ?_; rintro e w1 ⟨rfl, hb1⟩
  obtain ⟨b, hlib⟩ : ∃ b, b = libB ms := ⟨_, rfl⟩
  rw [← hlib]
  cases b
  all_goals
    have Hlib := Lib.hid hlib
    clear hlib
  · go_wp2_with fail
    go_ret2
    exact ⟨fn_no Hlib.out.symm, hb1⟩
  · go_wp2_with fail
    refine (l29At_any V ms s _ (h.to hb1)).mono ?_; rintro e w2 ⟨rfl, hb2⟩
    have hB2 := bw_to hb1 hb2
    have Hneg := Lib.hid (fn_neg (ms := ms) (s := s))
    have Hyes := Lib.hid (fn_yes (s := s) Hlib.out.symm)
    by_cases hlt : ixOf s 0 ms < 0
    · have hneg := Lib.hid (Hneg.out hlt)
      go_wp2_with fail
      go_ret2
      exact ⟨hneg.out, hB2⟩
    · have hyes := Lib.hid (Hyes.out hlt)
      go_wp2_with fail
      refine (l29At_any V ms s _ (h.to hB2)).mono ?_; rintro e w3 ⟨rfl, hb3⟩
      go_wp2_with fail
      go_ret2
      exact ⟨hyes.out, bw_to hB2 hb3⟩
set_option maxHeartbeats 2000000 in
theorem lawFindName_any (V : Value) (ms : List Mt) (s : ByteArray) (w : World) (h : Meths w V ms) (hfit : s.size ≤ maxLen) : Calls Try.prog 4 #[V, .string s] w fun e w' => e = .returned (.bool true) ∧ Below w.heap.size w w' := by
  unfold maxLen at hfit
  by_cases hbig : 1048576 < s.size
  · go_enter Try.func4, Try.ntmps4
    go_wp2_with fail
    go_ret
    exact ⟨rfl, Below.refl _ _⟩
  go_enter Try.func4, Try.ntmps4
  go_wp2_with fail
  refine (szMethodS_any _ _ _ _ h (by omega) (by omega)).mono ?_; rintro e w1 ⟨r, rfl, hr0, hr1, hsm, hb1⟩
  have Hsm := Lib.hid hsm
  clear hsm
  go_wp2_with fail
  · go_ret
    exact ⟨rfl, hb1⟩
  · rename_i hpos
    have hs := Hsm.out (by omega)
    refine (toMethodS_any _ _ _ (h.to hb1) hs).mono ?_; rintro e w2 ⟨r2, rfl, ho2, hb2⟩
    have hB2 := bw_to hb1 hb2
    go_wp2_with fail
    refine (specFindName_any _ _ _ _ (ho2.meths hs) hs).mono ?_; rintro e w3 ⟨rfl, hb3⟩
    have hB3 := bw_to hB2 hb3
    go_wp2_with fail
    refine (toMethodS_any _ _ _ (h.to hB3) hs).mono ?_; rintro e w4 ⟨r4, rfl, ho4, hb4⟩
    have hB4 := bw_to hB3 hb4
    go_wp2_with fail
    refine (implFindName_any _ _ _ _ (ho4.meths hs) hs).mono ?_; rintro e w5 ⟨rfl, hb5⟩
    have hB5 := bw_to hB4 hb5
    go_wp2_with fail
    refine (toMethodS_any _ _ _ (h.to hB5) hs).mono ?_; rintro e w6 ⟨r6, rfl, ho6, hb6⟩
    have hB6 := bw_to hB5 hb6
    go_wp2_with fail
    refine (eqMethodS_same _ _ _ _ (((ho4.to hb5).to hb6).meths hs) (ho6.meths hs)).mono ?_; rintro e w7 ⟨rfl, hb7⟩
    go_wp2_with fail
    go_ret
    exact ⟨rfl, bw_to hB6 hb7⟩
end Go.Proofs.Ytnbehldacehiiaa
