/- Contracts: numbers read, both sides. -/
import Derived.Test.YtenhnloljdfjhaaDoorPk3
namespace Go.Proofs.YtenhnloljdfjhaaDoor
open Go Go.RowKit
set_option linter.unusedVariables false
set_option linter.unusedSimpArgs false

def digY (c : UInt8) : Bool := decide (48 ≤ (c.toNat : Int) ∧ (c.toNat : Int) ≤ 57)
def dval (l : List UInt8) : Nat := l.foldl (fun n c => 10 * n + (c.toNat - 48)) 0
theorem dval_snoc (l : List UInt8) (c : UInt8) : dval (l ++ [c]) = 10 * dval l + (c.toNat - 48) := by unfold dval; rw [List.foldl_append]; rfl
def canB (l : List UInt8) (m : Nat) : Bool := decide (1 ≤ l.length ∧ l.length ≤ m) && (!(decide (1 < l.length) && decide (l[0]?.getD 0 = 48)) && l.all digY)
theorem dval_lt : ∀ (n : Nat) (l : List UInt8), l.length = n → l.all digY = true → dval l < 10 ^ n
  | 0, l, h, _ => by rw [List.eq_nil_of_length_eq_zero h]; decide
  | n + 1, l, h, ha => by
    rcases List.eq_nil_or_concat l with e | ⟨t, c, e⟩
    · subst e; simp at h
    · rw [List.concat_eq_append] at e
      subst e
      rw [List.all_append, Bool.and_eq_true] at ha
      have ih := dval_lt n t (by simpa using h) ha.1
      have hc : digY c = true := by simpa using ha.2
      unfold digY at hc
      rw [decide_eq_true_eq] at hc
      rw [dval_snoc, Nat.pow_succ]; omega
theorem can_short {l : List UInt8} {m : Nat} (h : ¬ (1 ≤ l.length ∧ l.length ≤ m)) : canB l m = false := by unfold canB; rw [decide_eq_false h]; rfl
theorem can_lead {l : List UInt8} {m : Nat} (h : 1 < l.length) (h0 : l[0]?.getD 0 = 48) : canB l m = false := by unfold canB; rw [decide_eq_true h, decide_eq_true h0]; simp
theorem can_dig {l : List UInt8} {m k : Nat} (hk : k < l.length) (h : digY l[k] = false) : canB l m = false := by unfold canB; rw [all_false hk h]; simp
theorem can_yes {l : List UInt8} {m : Nat} (h : 1 ≤ l.length ∧ l.length ≤ m) (h0 : ¬ (1 < l.length ∧ l[0]?.getD 0 = 48)) (ha : l.all digY = true) : canB l m = true := by
  unfold canB
  rw [decide_eq_true h, ha, ← Bool.decide_and, decide_eq_false h0]; rfl
theorem lead_at {s : ByteArray} (h : 0 < s.size) : s.data.toList[0]?.getD 0 = s[0] := by
  rw [List.getElem?_eq_getElem (by simpa using h)]; rfl
theorem u8_48 (c : UInt8) : (c = 48) ↔ ((c.toNat : Int) = 48) := by
  constructor
  · intro h; rw [h]; rfl
  · intro h; exact UInt8.toNat_inj.1 (by have : (48 : UInt8).toNat = 48 := rfl; omega)
theorem dig_t {c : UInt8} (h : digY c = true) : 48 ≤ (c.toNat : Int) ∧ (c.toNat : Int) ≤ 57 := by unfold digY at h; simpa using h
theorem dig_f {c : UInt8} (h : digY c = false) : ¬ (48 ≤ (c.toNat : Int) ∧ (c.toNat : Int) ≤ 57) := by unfold digY at h; simpa using h
theorem dval_next {s : ByteArray} {k : Nat} (hk : k < s.size) (h : digY s[k] = true) : ((dval (s.data.toList.take (k + 1)) : Nat) : Int) = 10 * ((dval (s.data.toList.take k) : Nat) : Int) + ((s[k].toNat : Int) - 48) := by
  rw [List.take_succ_eq_append_getElem (by simpa using hk), bytes_get _ _ hk, dval_snoc]
  have := dig_t h
  omega
def numV (l : List UInt8) (m : Nat) : Int := if canB l m then (dval l : Int) else 0
def readV (l : List UInt8) : Int := if canB l 6 then (dval l : Int) else -1
theorem numV_no {l : List UInt8} {m : Nat} (h : canB l m = false) : numV l m = 0 := by unfold numV; rw [h]; rfl
theorem numV_yes {l : List UInt8} {m : Nat} (h : canB l m = true) : numV l m = (dval l : Int) := by unfold numV; rw [h]; rfl
theorem readV_no {l : List UInt8} (h : canB l 6 = false) : readV l = -1 := by unfold readV; rw [h]; rfl
theorem readV_yes {l : List UInt8} (h : canB l 6 = true) : readV l = (dval l : Int) := by unfold readV; rw [h]; rfl
theorem can_mono {l : List UInt8} {m m' : Nat} (h : canB l m = true) (hm : m ≤ m') : canB l m' = true := by
  unfold canB at h ⊢
  simp only [Bool.and_eq_true, decide_eq_true_eq] at h ⊢
  exact ⟨⟨h.1.1, by omega⟩, h.2⟩
/-- A number of more than m digits in its one form is m digits' worth at least. -/
theorem dval_ge : ∀ (n : Nat) (l : List UInt8), l.length = n + 1 → l.all digY = true → l[0]?.getD 0 ≠ 48 → 10 ^ n ≤ dval l
  | 0, l, h, ha, h0 => by
    obtain ⟨c, rfl⟩ := List.length_eq_one_iff.1 h
    have hc : digY c = true := by simpa using ha
    have hb := dig_t hc
    have h0' : c ≠ 48 := by simpa using h0
    rw [Ne, u8_48] at h0'
    show 1 ≤ 10 * 0 + (c.toNat - 48)
    omega
  | n + 1, l, h, ha, h0 => by
    rcases List.eq_nil_or_concat l with e | ⟨t, c, e⟩
    · subst e; simp at h
    · rw [List.concat_eq_append] at e
      subst e
      rw [List.all_append, Bool.and_eq_true] at ha
      have ht : t.length = n + 1 := by simpa using h
      have ih := dval_ge n t ht ha.1 (by
        rw [List.getElem?_append_left (by omega)] at h0; exact h0)
      rw [dval_snoc, Nat.pow_succ]; omega
/-- Where the shorter reading fails, the longer one fails or is too great. -/
theorem read_big {l : List UInt8} {m : Nat} (h : canB l m = false) (hm : 1 ≤ m) : readV l = -1 ∨ (10 ^ m : Nat) ≤ readV l := by
  cases h6 : canB l 6
  · exact .inl (readV_no h6)
  · right
    rw [readV_yes h6]
    unfold canB at h h6
    simp only [Bool.and_eq_true, decide_eq_true_eq, Bool.not_eq_true', Bool.and_eq_false_iff, decide_eq_false_iff_not] at h6
    obtain ⟨⟨h1, h2⟩, h3, h4⟩ := h6
    have hlen : ¬ l.length ≤ m := by
      intro hle
      rw [decide_eq_true ⟨h1, hle⟩, h4, Bool.and_true, Bool.true_and] at h
      simp only [Bool.not_eq_false', Bool.and_eq_true, decide_eq_true_eq] at h
      rcases h3 with h3 | h3
      · exact h3 h.1
      · exact h3 h.2
    have hl0 : l[0]?.getD 0 ≠ 48 := by
      rcases h3 with h3 | h3
      · omega
      · exact h3
    have := dval_ge (l.length - 1) l (by omega) h4 hl0
    have hp : 10 ^ m ≤ 10 ^ (l.length - 1) := Nat.pow_le_pow_right (by omega) (by omega)
    omega
theorem ret_ib {a b : Int} {p q : Bool} (h : a = b) (k : p = q) : Ending.returned (.tuple #[.int .i64 a, .bool p]) = .returned (.tuple #[.int .i64 b, .bool q]) := by rw [h, k]
set_option maxHeartbeats 2000000 in
theorem number_any (s : ByteArray) (m : Nat) (w : World) (hs : s.size ≤ maxLen) (hm : m ≤ 6) : Calls Tryd.prog 16 #[.string s, .int .i64 m] w fun e w' => e = .returned (.tuple #[.int .i64 (numV s.data.toList m), .bool (canB s.data.toList m)]) ∧ w = w' := by
  unfold maxLen at hs
  have hl := bytes_len s
  by_cases h1 : 1 ≤ s.size
  case neg =>
    have hc := can_short (l := s.data.toList) (m := m) (by rw [hl]; omega)
    have Hc := Lib.hid hc
    have Hv := Lib.hid (numV_no hc)
    have h1i : (s.size : Int) < 1 := by omega
    clear hc hl
    go_enter Tryd.func16, Tryd.ntmps16
    go_wp2
    all_goals first
      | (exfalso; omega)
      | (go_ret2; exact ⟨ret_ib Hv.out.symm Hc.out.symm, rfl⟩)
  case pos =>
  have h1i : ¬ ((s.size : Int) < 1) := by omega
  by_cases h2 : s.size ≤ m
  case neg =>
    have hc := can_short (l := s.data.toList) (m := m) (by rw [hl]; omega)
    have Hc := Lib.hid hc
    have Hv := Lib.hid (numV_no hc)
    have h2i : (m : Int) < (s.size : Int) := by omega
    clear hc hl
    go_enter Tryd.func16, Tryd.ntmps16
    go_wp2
    all_goals first
      | (exfalso; omega)
      | (go_ret2; exact ⟨ret_ib Hv.out.symm Hc.out.symm, rfl⟩)
  case pos =>
  have h2i : ¬ ((m : Int) < (s.size : Int)) := by omega
  have h0 : 0 < s.size := by omega
  have hlead := lead_at h0
  by_cases hL : (1 : Int) < (s.size : Int) ∧ ((s[0].toNat : Int) == 48) = true
  case pos =>
    obtain ⟨h3, hb⟩ := hL
    have hc := can_lead (l := s.data.toList) (m := m) (by rw [hl]; omega) (by rw [hlead, u8_48]; simpa using hb)
    have Hc := Lib.hid hc
    have Hv := Lib.hid (numV_no hc)
    clear hc hl hlead
    go_enter Tryd.func16, Tryd.ntmps16
    go_wp2
    all_goals first
      | (exfalso; omega)
      | (go_ret2; exact ⟨ret_ib Hv.out.symm Hc.out.symm, rfl⟩)
  cases hb : ((s[0].toNat : Int) == 48)
  all_goals by_cases h3 : (1 : Int) < (s.size : Int)
  all_goals try (exfalso; exact hL ⟨h3, hb⟩)
  all_goals
    clear hL
    have Hno : Hid (¬ (1 < s.data.toList.length ∧ s.data.toList[0]?.getD 0 = 48)) := Lib.hid (by
      rw [hl, hlead, u8_48]
      first | (simp at hb; omega) | omega)
    have Hl := Lib.hid hl
    obtain ⟨B, hB⟩ : ∃ B, B = canB s.data.toList m := ⟨_, rfl⟩
    obtain ⟨N, hN⟩ : ∃ N, N = numV s.data.toList m := ⟨_, rfl⟩
    rw [← hB, ← hN]
    have HB := Lib.hid hB
    have HN := Lib.hid hN
    clear hl hlead hB hN
    go_enter Tryd.func16, Tryd.ntmps16
    go_wp2
    go_loop [6, 29] (fun n i => ∃ k q : Nat, k ≤ s.size ∧ i = .int .i64 k ∧ n = .int .i64 q ∧ q < 1000000 ∧ Hid (q = dval (s.data.toList.take k) ∧ (s.data.toList.take k).all digY = true)) (fun _ i => s.size - (intOf i).toNat)
    case atStart => exact ⟨0, 0, Nat.zero_le _, rfl, rfl, by omega, Lib.hid ⟨rfl, rfl⟩⟩
    case round =>
      obtain ⟨k, q, hk, rfl, rfl, hq, Hq⟩ := hrel
      by_cases hlt : k < s.size
      · cases hd : digY s[k]
        · have H := Lib.hid (dig_f hd)
          have Hc := Lib.hid (can_dig (l := s.data.toList) (m := m) (k := k) (by simpa using hlt) hd)
          have Hv := Lib.hid (numV_no Hc.out)
          clear hd
          go_wp2
          all_goals first
            | (exfalso; have h := H.out; omega)
            | (go_ret2; exact ⟨ret_ib (by rw [HN.out, Hv.out]) (by rw [HB.out, Hc.out]), rfl⟩)
        · have H := Lib.hid (dig_t hd)
          have hdl := H.out
          have Hn := Lib.hid (dval_next hlt hd)
          have Ha := Lib.hid (all_step (p := digY) (l := s.data.toList) (k := k) (by simpa using hlt) Hq.out.2 hd)
          have hdl6 : dval (s.data.toList.take (k + 1)) < 1000000 := by
            have h := dval_lt (k + 1) (s.data.toList.take (k + 1)) (by simp; omega) Ha.out
            have : 10 ^ (k + 1) ≤ 10 ^ 6 := Nat.pow_le_pow_right (by omega) (by omega)
            omega
          have hsub : IntKind.u8.wrap ((s[k].toNat : Int) - 48) = (s[k].toNat : Int) - 48 := by
            unfold IntKind.wrap; simp [IntKind.signed, IntKind.bits]; omega
          have H6 := Lib.hid hdl6
          clear hd hdl6
          go_wp2
          all_goals first
            | (exfalso; have h := H.out; omega)
            | (refine ⟨⟨k + 1, dval (s.data.toList.take (k + 1)), by omega, by go_num, ?_, H6.out, Lib.hid ⟨rfl, Ha.out⟩⟩, by simp [intOf]; omega⟩; rw [Hn.out, ← Hq.out.1])
      · go_wp2
        have hf := Hq.out
        rw [List.take_of_length_le (by rw [Hl.out]; omega)] at hf
        have hy := can_yes (m := m) ⟨by rw [Hl.out]; omega, by rw [Hl.out]; omega⟩ Hno.out hf.2
        go_ret2
        exact ⟨ret_ib (by rw [HN.out, numV_yes hy, hf.1]) (by rw [HB.out, hy]), rfl⟩
set_option maxHeartbeats 2000000 in
theorem l1Read_any (s : ByteArray) (w : World) (hs : s.size ≤ maxLen) : Calls Tryd.prog 11 #[.string s] w fun e w' => e = .returned (.int .i64 (readV s.data.toList)) ∧ w = w' := by
  unfold maxLen at hs
  have hl := bytes_len s
  have hin := fun W => l1In_any (s.size : Int) 1 6 W
  by_cases h1 : 1 ≤ (s.size : Int) ∧ (s.size : Int) ≤ 6
  case neg =>
    rw [decide_eq_false h1] at hin
    have hc := can_short (l := s.data.toList) (m := 6) (by rw [hl]; omega)
    have Hv := Lib.hid (readV_no hc)
    have Hin := Lib.hid hin
    clear hc hl hin h1
    go_enter Tryd.func11, Tryd.ntmps11
    go_wp2_with (go_at_call 24; refine (Hin.out _).mono ?_; rintro e w1 ⟨rfl, rfl⟩)
    go_ret
    exact ⟨ret_int Hv.out.symm, rfl⟩
  case pos =>
  rw [decide_eq_true h1] at hin
  have Hin := Lib.hid hin
  obtain ⟨h1a, h2a⟩ := h1
  clear hin
  have h0 : 0 < s.size := by omega
  have hlead := lead_at h0
  by_cases hL : (1 : Int) < (s.size : Int) ∧ ((s[0].toNat : Int) == 48) = true
  case pos =>
    obtain ⟨h3, hb⟩ := hL
    have hc := can_lead (l := s.data.toList) (m := 6) (by rw [hl]; omega) (by rw [hlead, u8_48]; simpa using hb)
    have Hv := Lib.hid (readV_no hc)
    clear hc hl hlead
    go_enter Tryd.func11, Tryd.ntmps11
    go_wp2_with (go_at_call 24; refine (Hin.out _).mono ?_; rintro e w1 ⟨rfl, rfl⟩)
    go_ret
    exact ⟨ret_int Hv.out.symm, rfl⟩
  cases hb : ((s[0].toNat : Int) == 48)
  all_goals by_cases h3 : (1 : Int) < (s.size : Int)
  all_goals try (exfalso; exact hL ⟨h3, hb⟩)
  all_goals
    clear hL
    have Hno : Hid (¬ (1 < s.data.toList.length ∧ s.data.toList[0]?.getD 0 = 48)) := Lib.hid (by
      rw [hl, hlead, u8_48]
      first | (simp at hb; omega) | omega)
    have Hl := Lib.hid hl
    obtain ⟨N, hN⟩ : ∃ N, N = readV s.data.toList := ⟨_, rfl⟩
    rw [← hN]
    have HN := Lib.hid hN
    clear hl hlead hN
    go_enter Tryd.func11, Tryd.ntmps11
    go_wp2_with (go_at_call 24; refine (Hin.out _).mono ?_; rintro e w1 ⟨rfl, rfl⟩)
    go_loop [3, 4] (fun n i => ∃ k q : Nat, k ≤ s.size ∧ i = .int .i64 k ∧ n = .int .i64 q ∧ q < 1000000 ∧ Hid (q = dval (s.data.toList.take k) ∧ (s.data.toList.take k).all digY = true)) (fun _ i => s.size - (intOf i).toNat)
    case atStart => exact ⟨0, 0, Nat.zero_le _, rfl, rfl, by omega, Lib.hid ⟨rfl, rfl⟩⟩
    case round =>
      obtain ⟨k, q, hk, rfl, rfl, hq, Hq⟩ := hrel
      by_cases hlt : k < s.size
      · cases hd : digY s[k]
        · have H := Lib.hid (dig_f hd)
          have Hc := Lib.hid (can_dig (l := s.data.toList) (m := 6) (k := k) (by simpa using hlt) hd)
          have Hv := Lib.hid (readV_no Hc.out)
          clear hd
          go_wp2
          all_goals first
            | (exfalso; have h := H.out; omega)
            | (go_ret; exact ⟨ret_int (by rw [HN.out, Hv.out]), rfl⟩)
        · have H := Lib.hid (dig_t hd)
          have hdl := H.out
          have Hn := Lib.hid (dval_next hlt hd)
          have Ha := Lib.hid (all_step (p := digY) (l := s.data.toList) (k := k) (by simpa using hlt) Hq.out.2 hd)
          have hdl6 : dval (s.data.toList.take (k + 1)) < 1000000 := by
            have h := dval_lt (k + 1) (s.data.toList.take (k + 1)) (by simp; omega) Ha.out
            have : 10 ^ (k + 1) ≤ 10 ^ 6 := Nat.pow_le_pow_right (by omega) (by omega)
            omega
          have hsub : IntKind.u8.wrap ((s[k].toNat : Int) - 48) = (s[k].toNat : Int) - 48 := by
            unfold IntKind.wrap; simp [IntKind.signed, IntKind.bits]; omega
          have H6 := Lib.hid hdl6
          clear hd hdl6
          go_wp2
          all_goals first
            | (exfalso; have h := H.out; omega)
            | (refine ⟨⟨k + 1, dval (s.data.toList.take (k + 1)), by omega, by go_num, ?_, H6.out, Lib.hid ⟨rfl, Ha.out⟩⟩, by simp [intOf]; omega⟩; rw [Hn.out, ← Hq.out.1])
      · go_wp2
        have hf := Hq.out
        rw [List.take_of_length_le (by rw [Hl.out]; omega)] at hf
        have hy := can_yes (m := 6) ⟨by rw [Hl.out]; omega, by rw [Hl.out]; omega⟩ Hno.out hf.2
        go_ret
        exact ⟨ret_int (by rw [HN.out, readV_yes hy, hf.1]), rfl⟩
end Go.Proofs.YtenhnloljdfjhaaDoor
