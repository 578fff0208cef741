/- A law's arguments opened: bytes. -/
import Derived.Test.YtofpjbdelmmclaaGreatDoorPk1
import Derived.Test.YtofpjbdelmmclaaGreatDoorPk0
import Derived.Laws.IdiomStrings
namespace Go.Proofs.YtofpjbdelmmclaaGreatDoor
open Go Go.RowKit Go.WideShapes Go.ChangeShapes Go.ChangeAt Go.Joins Go.Deep
set_option linter.unusedVariables false
set_option linter.unusedSimpArgs false
set_option maxRecDepth 100000
section
variable {H : Type} {enc : TypeId × Value → H} {w : World} {base : Nat} {spare : Nat → Bool} {held : Bool}
theorem cells_u8 : Tryz.prog.cellsOf 5 = 1 := by kernel_rfl
theorem u8_bd {n : Int} (h : (Lit.int .u8 n).wf = true) : 0 ≤ n ∧ n ≤ 255 := by
  simpa [Lit.wf, IntKind.min, IntKind.max, IntKind.signed, IntKind.bits] using h
theorem op_Bytes {b0 : Nat} {r : Reach} {v : Value} {d : DataW H} {p : List MemPlace} (hv : Value.okWide Tryz.prog w r b0 22 v) (h : DataW.Trod enc Tryz.prog w base spare held 22 v d p) :
    ∃ k : Nat, BytesAt w w.heap.size v := by
  obtain ⟨a, l, c, rfl⟩ := okWide_slice Tryz.underlying22 hv
  obtain ⟨n, hn⟩ := h
  obtain ⟨v', e, xs, hsl, hg⟩ := rd_slice (C := fun z : Int => [Value.int .u8 z]) (good := fun z => 0 ≤ z ∧ z ≤ 255) Tryz.underlying22 cells_u8 (by omega)
    (fun n cs y hy => by obtain ⟨z, e, _, wf⟩ := DataW.trod_int Tryz.underlying5 hy; exact ⟨z, e, u8_bd wf⟩) hn
  simp only [Value.cells, List.cons.injEq, and_true] at e
  subst e
  obtain ⟨A, c', e, h1, h2, hr⟩ := hsl
  refine ⟨0, A, _, c', xs, e, rfl, h1, h2, ?_, hg⟩
  rw [← List.flatMap_singleton' (xs.map _), List.flatMap_map]
  exact hr
end
end Go.Proofs.YtofpjbdelmmclaaGreatDoor

/- Contracts of small functions on numbers and words. -/
namespace Go.Proofs.YtofpjbdelmmclaaGreatDoor
open Go Go.RowKit
set_option linter.unusedVariables false
set_option linter.unusedSimpArgs false

def letter (c : UInt8) : Bool := decide (97 ≤ (c.toNat : Int) ∧ (c.toNat : Int) ≤ 122)
def wordB (l : List UInt8) : Bool := l.all letter && decide (1 ≤ l.length ∧ l.length ≤ 10)

theorem within_any (n a b : Int) (w : World) : Calls Tryz.prog 66 #[.int .i64 n, .int .i64 a, .int .i64 b] w fun e w' => e = .returned (.bool (decide (a ≤ n ∧ n ≤ b))) ∧ w = w' := by
  by_cases h1 : a ≤ n
  · by_cases h2 : n ≤ b
    all_goals
      go_enter Tryz.func66, Tryz.ntmps66
      go_wp2
      go_ret
      exact ⟨ret_bool (by simp [*]), rfl⟩
  · go_enter Tryz.func66, Tryz.ntmps66
    go_wp2
    go_ret
    exact ⟨ret_bool (by simp; omega), rfl⟩

theorem letter_no1 {c : UInt8} (h : (c.toNat : Int) < 97) : letter c = false := by unfold letter; simp; omega
theorem letter_no2 {c : UInt8} (h : 122 < (c.toNat : Int)) : letter c = false := by unfold letter; simp; omega
theorem letter_yes {c : UInt8} (h1 : ¬ (c.toNat : Int) < 97) (h2 : (c.toNat : Int) ≤ 122) : letter c = true := by unfold letter; simp; omega
theorem word_no {l : List UInt8} {k : Nat} (hk : k < l.length) (h : letter l[k] = false) : wordB l = false := by unfold wordB; rw [all_false hk h]; rfl
theorem word_end {s : ByteArray} {k : Nat} {b : Bool} (hk : k ≤ s.size) (hn : ¬ k < s.size) (h : (s.data.toList.take k).all letter = true) (hb : b = decide (1 ≤ (s.size : Int) ∧ (s.size : Int) ≤ 10)) : b = wordB s.data.toList := by
  unfold wordB
  rw [all_true (by simp; omega) h, hb, bytes_len]
  simp only [Bool.true_and]
  congr 1
  apply propext
  omega

theorem isWord_any (s : ByteArray) (w : World) (hs : s.size ≤ maxLen) : Calls Tryz.prog 74 #[.string s] w fun e w' => e = .returned (.bool (wordB s.data.toList)) ∧ w = w' := by
  unfold maxLen at hs
  go_enter Tryz.func74, Tryz.ntmps74
  go_wp2
  go_loop [6] (fun i => ∃ k : Nat, k ≤ s.size ∧ i = .int .i64 k ∧ (s.data.toList.take k).all letter = true) (fun i => s.size - (intOf i).toNat)
  case atStart => exact ⟨0, Nat.zero_le _, rfl, by simp⟩
  case round =>
    obtain ⟨k, hk, rfl, ha⟩ := hrel
    have Ha := Lib.hid ha
    clear ha
    by_cases hlt : k < s.size
    · go_wp2
      · go_ret
        exact ⟨ret_bool (word_no (by simpa using hlt) (letter_no1 (by assumption))).symm, rfl⟩
      · go_ret
        exact ⟨ret_bool (word_no (by simpa using hlt) (letter_no2 (by assumption))).symm, rfl⟩
      · exact ⟨⟨k + 1, by omega, by go_num, all_step (by simpa using hlt) Ha.out (letter_yes (by assumption) (by assumption))⟩, by simp [intOf]; omega⟩
    · go_wp2
      all_goals
        go_ret
        exact ⟨ret_bool (word_end hk hlt Ha.out (by simp; omega)), rfl⟩
theorem l1In_any (n a b : Int) (w : World) : Calls Tryz.prog 68 #[.int .i64 n, .int .i64 a, .int .i64 b] w fun e w' => e = .returned (.bool (decide (a ≤ n ∧ n ≤ b))) ∧ w = w' := by
  by_cases h1 : a ≤ n
  · by_cases h2 : n ≤ b
    all_goals
      go_enter Tryz.func68, Tryz.ntmps68
      go_wp2
      go_ret
      exact ⟨ret_bool (by simp [*]), rfl⟩
  · go_enter Tryz.func68, Tryz.ntmps68
    go_wp2
    go_ret
    exact ⟨ret_bool (by simp; omega), rfl⟩
theorem isStage_any (n : Int) (w : World) : Calls Tryz.prog 73 #[.int .i64 n] w fun e w' => e = .returned (.bool (decide (3 ≤ n ∧ n ≤ 8))) ∧ w = w' := by
  by_cases h1 : 3 ≤ n
  · by_cases h2 : n ≤ 8
    all_goals
      go_enter Tryz.func73, Tryz.ntmps73
      go_wp2
      go_ret
      exact ⟨ret_bool (by simp [*]), rfl⟩
  · go_enter Tryz.func73, Tryz.ntmps73
    go_wp2
    go_ret
    exact ⟨ret_bool (by simp; omega), rfl⟩
theorem l4Name_any (s : ByteArray) (w : World) (hs : s.size ≤ maxLen) : Calls Tryz.prog 101 #[.string s] w fun e w' => e = .returned (.bool (wordB s.data.toList)) ∧ w = w' := by
  unfold maxLen at hs
  go_enter Tryz.func101, Tryz.ntmps101
  go_wp2
  go_loop [3] (fun i => ∃ k : Nat, k ≤ s.size ∧ i = .int .i64 k ∧ (s.data.toList.take k).all letter = true) (fun i => s.size - (intOf i).toNat)
  case atStart => exact ⟨0, Nat.zero_le _, rfl, by simp⟩
  case round =>
    obtain ⟨k, hk, rfl, ha⟩ := hrel
    have Ha := Lib.hid ha
    clear ha
    by_cases hlt : k < s.size
    · go_wp2
      · go_ret
        exact ⟨ret_bool (word_no (by simpa using hlt) (letter_no1 (by assumption))).symm, rfl⟩
      · go_ret
        exact ⟨ret_bool (word_no (by simpa using hlt) (letter_no2 (by assumption))).symm, rfl⟩
      · exact ⟨⟨k + 1, by omega, by go_num, all_step (by simpa using hlt) Ha.out (letter_yes (by assumption) (by assumption))⟩, by simp [intOf]; omega⟩
    · go_wp2_with (go_at_call 68; refine (l1In_any _ _ _ _).mono ?_; rintro e w' ⟨rfl, rfl⟩)
      go_ret
      exact ⟨ret_bool (word_end hk hlt Ha.out (by simp)), rfl⟩
end Go.Proofs.YtofpjbdelmmclaaGreatDoor

/- Contracts: numbers read, both sides. -/
namespace Go.Proofs.YtofpjbdelmmclaaGreatDoor
open Go Go.RowKit
set_option linter.unusedVariables false
set_option linter.unusedSimpArgs false

def digY (c : UInt8) : Bool := decide (48 ≤ (c.toNat : Int) ∧ (c.toNat : Int) ≤ 57)
def dval (l : List UInt8) : Nat := l.foldl (fun n c => 10 * n + (c.toNat - 48)) 0
theorem dval_snoc (l : List UInt8) (c : UInt8) : dval (l ++ [c]) = 10 * dval l + (c.toNat - 48) := by unfold dval; rw [List.foldl_append]; rfl
def canB (l : List UInt8) (m : Nat) : Bool := decide (1 ≤ l.length ∧ l.length ≤ m) && (!(decide (1 < l.length) && decide (l[0]?.getD 0 = 48)) && l.all digY)
theorem dval_lt : ∀ (n : Nat) (l : List UInt8), l.length = n → l.all digY = true → dval l < 10 ^ n
  | 0, l, h, _ => by rw [List.eq_nil_of_length_eq_zero h]; decide
  | n + 1, l, h, ha => by
    rcases List.eq_nil_or_concat l with e | ⟨t, c, e⟩
    · subst e; simp at h
    · rw [List.concat_eq_append] at e
      subst e
      rw [List.all_append, Bool.and_eq_true] at ha
      have ih := dval_lt n t (by simpa using h) ha.1
      have hc : digY c = true := by simpa using ha.2
      unfold digY at hc
      rw [decide_eq_true_eq] at hc
      rw [dval_snoc, Nat.pow_succ]; omega
theorem can_short {l : List UInt8} {m : Nat} (h : ¬ (1 ≤ l.length ∧ l.length ≤ m)) : canB l m = false := by unfold canB; rw [decide_eq_false h]; rfl
theorem can_lead {l : List UInt8} {m : Nat} (h : 1 < l.length) (h0 : l[0]?.getD 0 = 48) : canB l m = false := by unfold canB; rw [decide_eq_true h, decide_eq_true h0]; simp
theorem can_dig {l : List UInt8} {m k : Nat} (hk : k < l.length) (h : digY l[k] = false) : canB l m = false := by unfold canB; rw [all_false hk h]; simp
theorem can_yes {l : List UInt8} {m : Nat} (h : 1 ≤ l.length ∧ l.length ≤ m) (h0 : ¬ (1 < l.length ∧ l[0]?.getD 0 = 48)) (ha : l.all digY = true) : canB l m = true := by
  unfold canB
  rw [decide_eq_true h, ha, ← Bool.decide_and, decide_eq_false h0]; rfl
theorem lead_at {s : ByteArray} (h : 0 < s.size) : s.data.toList[0]?.getD 0 = s[0] := by
  rw [List.getElem?_eq_getElem (by simpa using h)]; rfl
theorem u8_48 (c : UInt8) : (c = 48) ↔ ((c.toNat : Int) = 48) := by
  constructor
  · intro h; rw [h]; rfl
  · intro h; exact UInt8.toNat_inj.1 (by have : (48 : UInt8).toNat = 48 := rfl; omega)
theorem dig_t {c : UInt8} (h : digY c = true) : 48 ≤ (c.toNat : Int) ∧ (c.toNat : Int) ≤ 57 := by unfold digY at h; simpa using h
theorem dig_f {c : UInt8} (h : digY c = false) : ¬ (48 ≤ (c.toNat : Int) ∧ (c.toNat : Int) ≤ 57) := by unfold digY at h; simpa using h
theorem dval_next {s : ByteArray} {k : Nat} (hk : k < s.size) (h : digY s[k] = true) : ((dval (s.data.toList.take (k + 1)) : Nat) : Int) = 10 * ((dval (s.data.toList.take k) : Nat) : Int) + ((s[k].toNat : Int) - 48) := by
  rw [List.take_succ_eq_append_getElem (by simpa using hk), bytes_get _ _ hk, dval_snoc]
  have := dig_t h
  omega
def numV (l : List UInt8) (m : Nat) : Int := if canB l m then (dval l : Int) else 0
def readV (l : List UInt8) : Int := if canB l 6 then (dval l : Int) else -1
theorem numV_no {l : List UInt8} {m : Nat} (h : canB l m = false) : numV l m = 0 := by unfold numV; rw [h]; rfl
theorem numV_yes {l : List UInt8} {m : Nat} (h : canB l m = true) : numV l m = (dval l : Int) := by unfold numV; rw [h]; rfl
theorem readV_no {l : List UInt8} (h : canB l 6 = false) : readV l = -1 := by unfold readV; rw [h]; rfl
theorem readV_yes {l : List UInt8} (h : canB l 6 = true) : readV l = (dval l : Int) := by unfold readV; rw [h]; rfl
theorem can_mono {l : List UInt8} {m m' : Nat} (h : canB l m = true) (hm : m ≤ m') : canB l m' = true := by
  unfold canB at h ⊢
  simp only [Bool.and_eq_true, decide_eq_true_eq] at h ⊢
  exact ⟨⟨h.1.1, by omega⟩, h.2⟩
/-- A number of more than m digits in its one form is m digits' worth at least. -/
theorem dval_ge : ∀ (n : Nat) (l : List UInt8), l.length = n + 1 → l.all digY = true → l[0]?.getD 0 ≠ 48 → 10 ^ n ≤ dval l
  | 0, l, h, ha, h0 => by
    obtain ⟨c, rfl⟩ := List.length_eq_one_iff.1 h
    have hc : digY c = true := by simpa using ha
    have hb := dig_t hc
    have h0' : c ≠ 48 := by simpa using h0
    rw [Ne, u8_48] at h0'
    show 1 ≤ 10 * 0 + (c.toNat - 48)
    omega
  | n + 1, l, h, ha, h0 => by
    rcases List.eq_nil_or_concat l with e | ⟨t, c, e⟩
    · subst e; simp at h
    · rw [List.concat_eq_append] at e
      subst e
      rw [List.all_append, Bool.and_eq_true] at ha
      have ht : t.length = n + 1 := by simpa using h
      have ih := dval_ge n t ht ha.1 (by
        rw [List.getElem?_append_left (by omega)] at h0; exact h0)
      rw [dval_snoc, Nat.pow_succ]; omega
/-- Where the shorter reading fails, the longer one fails or is too great. -/
theorem read_big {l : List UInt8} {m : Nat} (h : canB l m = false) (hm : 1 ≤ m) : readV l = -1 ∨ (10 ^ m : Nat) ≤ readV l := by
  cases h6 : canB l 6
  · exact .inl (readV_no h6)
  · right
    rw [readV_yes h6]
    unfold canB at h h6
    simp only [Bool.and_eq_true, decide_eq_true_eq, Bool.not_eq_true', Bool.and_eq_false_iff, decide_eq_false_iff_not] at h6
    obtain ⟨⟨h1, h2⟩, h3, h4⟩ := h6
    have hlen : ¬ l.length ≤ m := by
      intro hle
      rw [decide_eq_true ⟨h1, hle⟩, h4, Bool.and_true, Bool.true_and] at h
      simp only [Bool.not_eq_false', Bool.and_eq_true, decide_eq_true_eq] at h
      rcases h3 with h3 | h3
      · exact h3 h.1
      · exact h3 h.2
    have hl0 : l[0]?.getD 0 ≠ 48 := by
      rcases h3 with h3 | h3
      · omega
      · exact h3
    have := dval_ge (l.length - 1) l (by omega) h4 hl0
    have hp : 10 ^ m ≤ 10 ^ (l.length - 1) := Nat.pow_le_pow_right (by omega) (by omega)
    omega
theorem ret_ib {a b : Int} {p q : Bool} (h : a = b) (k : p = q) : Ending.returned (.tuple #[.int .i64 a, .bool p]) = .returned (.tuple #[.int .i64 b, .bool q]) := by rw [h, k]
set_option maxHeartbeats 2000000 in
theorem number_any (s : ByteArray) (m : Nat) (w : World) (hs : s.size ≤ maxLen) (hm : m ≤ 6) : Calls Tryz.prog 83 #[.string s, .int .i64 m] w fun e w' => e = .returned (.tuple #[.int .i64 (numV s.data.toList m), .bool (canB s.data.toList m)]) ∧ w = w' := by
  unfold maxLen at hs
  have hl := bytes_len s
  by_cases h1 : 1 ≤ s.size
  case neg =>
    have hc := can_short (l := s.data.toList) (m := m) (by rw [hl]; omega)
    have Hc := Lib.hid hc
    have Hv := Lib.hid (numV_no hc)
    have h1i : (s.size : Int) < 1 := by omega
    clear hc hl
    go_enter Tryz.func83, Tryz.ntmps83
    go_wp2
    all_goals first
      | (exfalso; omega)
      | (go_ret2; exact ⟨ret_ib Hv.out.symm Hc.out.symm, rfl⟩)
  case pos =>
  have h1i : ¬ ((s.size : Int) < 1) := by omega
  by_cases h2 : s.size ≤ m
  case neg =>
    have hc := can_short (l := s.data.toList) (m := m) (by rw [hl]; omega)
    have Hc := Lib.hid hc
    have Hv := Lib.hid (numV_no hc)
    have h2i : (m : Int) < (s.size : Int) := by omega
    clear hc hl
    go_enter Tryz.func83, Tryz.ntmps83
    go_wp2
    all_goals first
      | (exfalso; omega)
      | (go_ret2; exact ⟨ret_ib Hv.out.symm Hc.out.symm, rfl⟩)
  case pos =>
  have h2i : ¬ ((m : Int) < (s.size : Int)) := by omega
  have h0 : 0 < s.size := by omega
  have hlead := lead_at h0
  by_cases hL : (1 : Int) < (s.size : Int) ∧ ((s[0].toNat : Int) == 48) = true
  case pos =>
    obtain ⟨h3, hb⟩ := hL
    have hc := can_lead (l := s.data.toList) (m := m) (by rw [hl]; omega) (by rw [hlead, u8_48]; simpa using hb)
    have Hc := Lib.hid hc
    have Hv := Lib.hid (numV_no hc)
    clear hc hl hlead
    go_enter Tryz.func83, Tryz.ntmps83
    go_wp2
    all_goals first
      | (exfalso; omega)
      | (go_ret2; exact ⟨ret_ib Hv.out.symm Hc.out.symm, rfl⟩)
  cases hb : ((s[0].toNat : Int) == 48)
  all_goals by_cases h3 : (1 : Int) < (s.size : Int)
  all_goals try (exfalso; exact hL ⟨h3, hb⟩)
  all_goals
    clear hL
    have Hno : Hid (¬ (1 < s.data.toList.length ∧ s.data.toList[0]?.getD 0 = 48)) := Lib.hid (by
      rw [hl, hlead, u8_48]
      first | (simp at hb; omega) | omega)
    have Hl := Lib.hid hl
    obtain ⟨B, hB⟩ : ∃ B, B = canB s.data.toList m := ⟨_, rfl⟩
    obtain ⟨N, hN⟩ : ∃ N, N = numV s.data.toList m := ⟨_, rfl⟩
    rw [← hB, ← hN]
    have HB := Lib.hid hB
    have HN := Lib.hid hN
    clear hl hlead hB hN
    go_enter Tryz.func83, Tryz.ntmps83
    go_wp2
    go_loop [6, 29] (fun n i => ∃ k q : Nat, k ≤ s.size ∧ i = .int .i64 k ∧ n = .int .i64 q ∧ q < 1000000 ∧ Hid (q = dval (s.data.toList.take k) ∧ (s.data.toList.take k).all digY = true)) (fun _ i => s.size - (intOf i).toNat)
    case atStart => exact ⟨0, 0, Nat.zero_le _, rfl, rfl, by omega, Lib.hid ⟨rfl, rfl⟩⟩
    case round =>
      obtain ⟨k, q, hk, rfl, rfl, hq, Hq⟩ := hrel
      by_cases hlt : k < s.size
      · cases hd : digY s[k]
        · have H := Lib.hid (dig_f hd)
          have Hc := Lib.hid (can_dig (l := s.data.toList) (m := m) (k := k) (by simpa using hlt) hd)
          have Hv := Lib.hid (numV_no Hc.out)
          clear hd
          go_wp2
          all_goals first
            | (exfalso; have h := H.out; omega)
            | (go_ret2; exact ⟨ret_ib (by rw [HN.out, Hv.out]) (by rw [HB.out, Hc.out]), rfl⟩)
        · have H := Lib.hid (dig_t hd)
          have hdl := H.out
          have Hn := Lib.hid (dval_next hlt hd)
          have Ha := Lib.hid (all_step (p := digY) (l := s.data.toList) (k := k) (by simpa using hlt) Hq.out.2 hd)
          have hdl6 : dval (s.data.toList.take (k + 1)) < 1000000 := by
            have h := dval_lt (k + 1) (s.data.toList.take (k + 1)) (by simp; omega) Ha.out
            have : 10 ^ (k + 1) ≤ 10 ^ 6 := Nat.pow_le_pow_right (by omega) (by omega)
            omega
          have hsub : IntKind.u8.wrap ((s[k].toNat : Int) - 48) = (s[k].toNat : Int) - 48 := by
            unfold IntKind.wrap; simp [IntKind.signed, IntKind.bits]; omega
          have H6 := Lib.hid hdl6
          clear hd hdl6
          go_wp2
          all_goals first
            | (exfalso; have h := H.out; omega)
            | (refine ⟨⟨k + 1, dval (s.data.toList.take (k + 1)), by omega, by go_num, ?_, H6.out, Lib.hid ⟨rfl, Ha.out⟩⟩, by simp [intOf]; omega⟩; rw [Hn.out, ← Hq.out.1])
      · go_wp2
        have hf := Hq.out
        rw [List.take_of_length_le (by rw [Hl.out]; omega)] at hf
        have hy := can_yes (m := m) ⟨by rw [Hl.out]; omega, by rw [Hl.out]; omega⟩ Hno.out hf.2
        go_ret2
        exact ⟨ret_ib (by rw [HN.out, numV_yes hy, hf.1]) (by rw [HB.out, hy]), rfl⟩
set_option maxHeartbeats 2000000 in
theorem l1Read_any (s : ByteArray) (w : World) (hs : s.size ≤ maxLen) : Calls Tryz.prog 84 #[.string s] w fun e w' => e = .returned (.int .i64 (readV s.data.toList)) ∧ w = w' := by
  unfold maxLen at hs
  have hl := bytes_len s
  have hin := fun W => l1In_any (s.size : Int) 1 6 W
  by_cases h1 : 1 ≤ (s.size : Int) ∧ (s.size : Int) ≤ 6
  case neg =>
    rw [decide_eq_false h1] at hin
    have hc := can_short (l := s.data.toList) (m := 6) (by rw [hl]; omega)
    have Hv := Lib.hid (readV_no hc)
    have Hin := Lib.hid hin
    clear hc hl hin h1
    go_enter Tryz.func84, Tryz.ntmps84
    go_wp2_with (go_at_call 68; refine (Hin.out _).mono ?_; rintro e w1 ⟨rfl, rfl⟩)
    go_ret
    exact ⟨ret_int Hv.out.symm, rfl⟩
  case pos =>
  rw [decide_eq_true h1] at hin
  have Hin := Lib.hid hin
  obtain ⟨h1a, h2a⟩ := h1
  clear hin
  have h0 : 0 < s.size := by omega
  have hlead := lead_at h0
  by_cases hL : (1 : Int) < (s.size : Int) ∧ ((s[0].toNat : Int) == 48) = true
  case pos =>
    obtain ⟨h3, hb⟩ := hL
    have hc := can_lead (l := s.data.toList) (m := 6) (by rw [hl]; omega) (by rw [hlead, u8_48]; simpa using hb)
    have Hv := Lib.hid (readV_no hc)
    clear hc hl hlead
    go_enter Tryz.func84, Tryz.ntmps84
    go_wp2_with (go_at_call 68; refine (Hin.out _).mono ?_; rintro e w1 ⟨rfl, rfl⟩)
    go_ret
    exact ⟨ret_int Hv.out.symm, rfl⟩
  cases hb : ((s[0].toNat : Int) == 48)
  all_goals by_cases h3 : (1 : Int) < (s.size : Int)
  all_goals try (exfalso; exact hL ⟨h3, hb⟩)
  all_goals
    clear hL
    have Hno : Hid (¬ (1 < s.data.toList.length ∧ s.data.toList[0]?.getD 0 = 48)) := Lib.hid (by
      rw [hl, hlead, u8_48]
      first | (simp at hb; omega) | omega)
    have Hl := Lib.hid hl
    obtain ⟨N, hN⟩ : ∃ N, N = readV s.data.toList := ⟨_, rfl⟩
    rw [← hN]
    have HN := Lib.hid hN
    clear hl hlead hN
    go_enter Tryz.func84, Tryz.ntmps84
    go_wp2_with (go_at_call 68; refine (Hin.out _).mono ?_; rintro e w1 ⟨rfl, rfl⟩)
    go_loop [3, 4] (fun n i => ∃ k q : Nat, k ≤ s.size ∧ i = .int .i64 k ∧ n = .int .i64 q ∧ q < 1000000 ∧ Hid (q = dval (s.data.toList.take k) ∧ (s.data.toList.take k).all digY = true)) (fun _ i => s.size - (intOf i).toNat)
    case atStart => exact ⟨0, 0, Nat.zero_le _, rfl, rfl, by omega, Lib.hid ⟨rfl, rfl⟩⟩
    case round =>
      obtain ⟨k, q, hk, rfl, rfl, hq, Hq⟩ := hrel
      by_cases hlt : k < s.size
      · cases hd : digY s[k]
        · have H := Lib.hid (dig_f hd)
          have Hc := Lib.hid (can_dig (l := s.data.toList) (m := 6) (k := k) (by simpa using hlt) hd)
          have Hv := Lib.hid (readV_no Hc.out)
          clear hd
          go_wp2
          all_goals first
            | (exfalso; have h := H.out; omega)
            | (go_ret; exact ⟨ret_int (by rw [HN.out, Hv.out]), rfl⟩)
        · have H := Lib.hid (dig_t hd)
          have hdl := H.out
          have Hn := Lib.hid (dval_next hlt hd)
          have Ha := Lib.hid (all_step (p := digY) (l := s.data.toList) (k := k) (by simpa using hlt) Hq.out.2 hd)
          have hdl6 : dval (s.data.toList.take (k + 1)) < 1000000 := by
            have h := dval_lt (k + 1) (s.data.toList.take (k + 1)) (by simp; omega) Ha.out
            have : 10 ^ (k + 1) ≤ 10 ^ 6 := Nat.pow_le_pow_right (by omega) (by omega)
            omega
          have hsub : IntKind.u8.wrap ((s[k].toNat : Int) - 48) = (s[k].toNat : Int) - 48 := by
            unfold IntKind.wrap; simp [IntKind.signed, IntKind.bits]; omega
          have H6 := Lib.hid hdl6
          clear hd hdl6
          go_wp2
          all_goals first
            | (exfalso; have h := H.out; omega)
            | (refine ⟨⟨k + 1, dval (s.data.toList.take (k + 1)), by omega, by go_num, ?_, H6.out, Lib.hid ⟨rfl, Ha.out⟩⟩, by simp [intOf]; omega⟩; rw [Hn.out, ← Hq.out.1])
      · go_wp2
        have hf := Hq.out
        rw [List.take_of_length_le (by rw [Hl.out]; omega)] at hf
        have hy := can_yes (m := 6) ⟨by rw [Hl.out]; omega, by rw [Hl.out]; omega⟩ Hno.out hf.2
        go_ret
        exact ⟨ret_int (by rw [HN.out, readV_yes hy, hf.1]), rfl⟩
end Go.Proofs.YtofpjbdelmmclaaGreatDoor

/- Contracts: marks (the text m followed by a number's digits). -/
namespace Go.Proofs.YtofpjbdelmmclaaGreatDoor
open Go Go.RowKit
set_option linter.unusedVariables false
set_option linter.unusedSimpArgs false

def digit (n : Nat) : ByteArray := ⟨#[UInt8.ofNat (48 + n % 10)]⟩
def mGo : Nat → Nat → ByteArray → ByteArray
  | 0, _, t => t
  | f + 1, n, t => if n = 0 then t else mGo f (n / 10) (digit n ++ t)
/-- The text of mark k. -/
def mText (k : Nat) : ByteArray := (⟨#[109]⟩ : ByteArray) ++ (if k = 0 then (⟨#[48]⟩ : ByteArray) else mGo 20 k ⟨#[]⟩)
theorem mGo_zero (f : Nat) (t : ByteArray) : mGo f 0 t = t := by cases f <;> rfl
theorem mGo_step {f n : Nat} (h : 0 < n) (t : ByteArray) : mGo (f + 1) n t = mGo f (n / 10) (digit n ++ t) := by rw [mGo, if_neg (by omega)]
theorem digit_size (n : Nat) : (digit n).size = 1 := rfl
theorem one_byte {P : Program} {src dst e : TypeId} (hs : P.underlying src = some (.slice e)) (he : P.underlying e = some (.int .u8)) (hd : P.underlying dst = some .string) (W : World) (n : Nat) :
    (convert src dst (.slice (some ⟨W.heap.size, 0, none⟩) 1 1)).run P (W.alloc (.cells #[.int .u8 (48 + (n : Int) % 10)] e)) = .ok (.string (digit n)) (W.alloc (.cells #[.int .u8 (48 + (n : Int) % 10)] e)) := by
  refine run_convert_bytes_back _ src dst e ⟨W.heap.size, 0, none⟩ 1 [UInt8.ofNat (48 + n % 10)] hs he hd (fun j hj => ?_)
  have : j = 0 := by simpa using hj
  subst this
  rw [Addr.add_lit, heap_cell (heap_new W _)]
  simp
  omega

/-- 'only the row g, and what is new, has turned'. -/
theorem gr_refl (w : World) (row : Option Nat) : w.grownBy w row := World.grownBy.refl w row
theorem gr_below {a w w1 : World} {row : Option Nat} (h : a.grownBy w row) (hb : Below w.heap.size w w1) : a.grownBy w1 row :=
  ⟨hb.os.trans h.os, hb.tape.trans h.tape, hb.output.trans h.output, Nat.le_trans h.size hb.size, fun k hk hn => (hb.block k (Nat.lt_of_lt_of_le hk h.size)).trans (h.block k hk hn)⟩
theorem gr_set {a w : World} {g j : Nat} (h : a.grownBy w (some g)) (u : Value) : a.grownBy (w.setCell ⟨g, j, none⟩ u) (some g) :=
  ⟨h.os, h.tape, h.output, by simpa [World.setCell] using h.size, fun i hi hne => (Below.heap_setCell w ⟨g, j, none⟩ u i (by rintro rfl; exact hne rfl)).trans (h.block i hi hne)⟩
/-- Two rows that the call made one after the other lie apart. -/
theorem own_apart {w1 w2 : World} {b1 b2 : Nat} {e1 e2 : TypeId} {s1 s2 n1 n2 : Nat} {v1 v2 : Value} {x1 x2 : List Value} (h1 : w1.ownsRow b1 e1 s1 v1 n1 x1) (h2 : w2.ownsRow b2 e2 s2 v2 n2 x2) (hb : w1.heap.size ≤ b2) :
    v2.ownBlock = none ∨ v2.ownBlock ≠ v1.ownBlock := by
  cases hv : v2.ownBlock with
  | none => exact .inl rfl
  | some k =>
    refine .inr fun h => ?_
    have := (h2.lt k hv).1
    have := (h1.lt k h.symm).2
    omega
theorem own_apart' {w1 w2 : World} {b1 b2 : Nat} {e1 e2 : TypeId} {s1 s2 n1 n2 : Nat} {v1 v2 : Value} {x1 x2 : List Value} (h1 : w1.ownsRow b1 e1 s1 v1 n1 x1) (h2 : w2.ownsRow b2 e2 s2 v2 n2 x2) (hb : w1.heap.size ≤ b2) :
    v1.ownBlock = none ∨ v1.ownBlock ≠ v2.ownBlock := by
  rcases own_apart h1 h2 hb with h | h
  · cases hv : v1.ownBlock with
    | none => exact .inl rfl
    | some k => rw [h]; exact .inr (by simp)
  · exact .inr fun e => h e.symm
/-- A write into a row of the call's own leaves all that lay below as it was. -/
theorem bw_row {a w w1 : World} {base : Nat} {e : TypeId} {s n : Nat} {v : Value} {x : List Value} (h : Below a.heap.size a w) {w0 : World} (ho : w0.ownsRow base e s v n x) (hb : a.heap.size ≤ base) (hg : w.grownBy w1 v.ownBlock) : Below a.heap.size a w1 :=
  h.grown hg h.size (fun k hk => Nat.le_trans hb (ho.lt k hk).1)
def marksI (k n : Nat) : List Int := (List.range n).map fun i => ((k + i : Nat) : Int)
theorem marksI_length (k n : Nat) : (marksI k n).length = n := by simp [marksI]
theorem marksI_get {k n i : Nat} (h : i < (marksI k n).length) : (marksI k n)[i] = ((k + i : Nat) : Int) := by simp [marksI]
theorem marksI_succ (k n : Nat) : marksI k (n + 1) = marksI k n ++ [((k + n : Nat) : Int)] := by simp [marksI, List.range_succ]
end Go.Proofs.YtofpjbdelmmclaaGreatDoor

/- Contracts: evenings and items. -/
namespace Go.Proofs.YtofpjbdelmmclaaGreatDoor
open Go Go.RowKit
set_option linter.unusedVariables false
set_option linter.unusedSimpArgs false

def evB (a b c d : Int) : Bool := decide (3 ≤ a ∧ a ≤ 8) && decide (1 ≤ b ∧ b ≤ 100) && decide (0 ≤ c ∧ c ≤ 20000) && decide (0 ≤ d ∧ d ≤ 1000)

theorem implGoodEvening_any (a b c d : Int) (w : World) : Calls Tryz.prog 30 #[.agg #[.int .i64 a, .int .i64 b, .int .i64 c, .int .i64 d]] w fun e w' => e = .returned (.bool (evB a b c d)) ∧ Below w.heap.size w w' := by
  go_enter Tryz.func30, Tryz.ntmps30
  go_wp2_with (first
    | (go_at_call 73; refine (isStage_any _ _).mono ?_; rintro e w' ⟨rfl, rfl⟩)
    | (go_at_call 66; refine (within_any _ _ _ _).mono ?_; rintro e w' ⟨rfl, rfl⟩))
  all_goals
    go_ret
    exact ⟨ret_bool (by rw [Bool.eq_iff_iff]; simp [evB]; omega), (Below.refl _ _).alloc (Nat.le_refl _) _⟩
theorem l30Evening_any (a b c d : Int) (w : World) : Calls Tryz.prog 53 #[.agg #[.int .i64 a, .int .i64 b, .int .i64 c, .int .i64 d]] w fun e w' => e = .returned (.bool (evB a b c d)) ∧ Below w.heap.size w w' := by
  go_enter Tryz.func53, Tryz.ntmps53
  go_wp2_with (first
    | (go_at_call 68; refine (l1In_any _ _ _ _).mono ?_; rintro e w' ⟨rfl, rfl⟩))
  all_goals
    go_ret
    exact ⟨ret_bool (by rw [Bool.eq_iff_iff]; simp [evB]; omega), (Below.refl _ _).alloc (Nat.le_refl _) _⟩
theorem specGoodEvening_any (a b c d : Int) (w : World) : Calls Tryz.prog 31 #[.agg #[.int .i64 a, .int .i64 b, .int .i64 c, .int .i64 d]] w fun e w' => e = .returned (.bool (evB a b c d)) ∧ Below w.heap.size w w' := by
  go_enter Tryz.func31, Tryz.ntmps31
  go_wp2_with (first
    | (go_at_call 53; refine (l30Evening_any _ _ _ _ _).mono ?_; rintro e w' ⟨rfl, hb⟩))
  go_ret
  exact ⟨rfl, ((Below.refl _ _).alloc (Nat.le_refl _) _).trans (hb.mono (by simp))⟩
end Go.Proofs.YtofpjbdelmmclaaGreatDoor

/- Contracts: items, and the time of one. -/
namespace Go.Proofs.YtofpjbdelmmclaaGreatDoor
open Go Go.RowKit
set_option linter.unusedVariables false
set_option linter.unusedSimpArgs false

structure It where
  name : ByteArray
  stage : Int
  rows : Int
  worth : Int
def It.cells (x : It) : List Value := [.string x.name, .int .i64 x.stage, .int .i64 x.rows, .int .i64 x.worth]
def Items (w : World) (v : Value) (xs : List It) : Prop := Sl w 4 v xs.length (xs.flatMap It.cells) ∧ ∀ x ∈ xs, x.name.size ≤ maxLen
theorem Items.to {w w' : World} {v : Value} {xs : List It} (h : Items w v xs) (hb : Below w.heap.size w w') : Items w' v xs := ⟨h.1.to hb, h.2⟩
theorem items_el {w : World} {B : Nat} {A : Option Addr} {xs : List It} (hr : Reads w B 4 A xs.length (xs.flatMap It.cells)) {k : Nat} (hk : k < xs.length) :
    ∃ ad, A = some ad ∧ ∀ w', Below B w w' → w'.cell? (ad.add (k * 4)) = some (.string xs[k].name) ∧ w'.cell? ⟨(ad.add (k * 4)).block, (ad.add (k * 4)).off + 1, none⟩ = some (.int .i64 xs[k].stage) ∧
      w'.cell? ⟨(ad.add (k * 4)).block, (ad.add (k * 4)).off + 2, none⟩ = some (.int .i64 xs[k].rows) ∧ w'.cell? ⟨(ad.add (k * 4)).block, (ad.add (k * 4)).off + 3, none⟩ = some (.int .i64 xs[k].worth) := by
  obtain ⟨ad, e, h⟩ := hr.el (fun _ _ => rfl) hk
  refine ⟨ad, e, fun w' hb => ⟨?_, ?_, ?_, ?_⟩⟩
  · have := h w' hb 0 _ (by omega) rfl; rwa [add_zero'] at this
  · exact h w' hb 1 _ (by omega) rfl
  · exact h w' hb 2 _ (by omega) rfl
  · exact h w' hb 3 _ (by omega) rfl
def itB (x : It) : Bool := wordB x.name.data.toList && decide (3 ≤ x.stage ∧ x.stage ≤ 8) && decide (1 ≤ x.rows ∧ x.rows ≤ 800) && decide (0 ≤ x.worth ∧ x.worth ≤ 100)
def szAfter (k n : Int) : Int := if k - n < 0 then -1 else k - n
theorem szAfter_neg {k n : Int} (h : k - n < 0) : -1 = szAfter k n := by rw [szAfter, if_pos h]
theorem szAfter_pos {k n : Int} (h : 0 ≤ k - n) : k - n = szAfter k n := by rw [szAfter, if_neg (by omega)]
def timeB (a b c d : Int) (x : It) : Bool := evB a b c d && itB x && decide (x.stage ≤ a)
def timeN (a b c d : Int) (x : It) : Int := if timeB a b c d x then x.rows * b else 0

theorem implGoodItem_any (x : It) (w : World) (hs : x.name.size ≤ maxLen) : Calls Tryz.prog 32 #[.agg #[.string x.name, .int .i64 x.stage, .int .i64 x.rows, .int .i64 x.worth]] w fun e w' => e = .returned (.bool (itB x)) ∧ Below w.heap.size w w' := by
  go_enter Tryz.func32, Tryz.ntmps32
  go_wp2_with (first
    | (go_at_call 74; refine (isWord_any _ _ hs).mono ?_; rintro e w' ⟨rfl, rfl⟩)
    | (go_at_call 73; refine (isStage_any _ _).mono ?_; rintro e w' ⟨rfl, rfl⟩)
    | (go_at_call 66; refine (within_any _ _ _ _).mono ?_; rintro e w' ⟨rfl, rfl⟩))
  all_goals
    go_ret
    exact ⟨ret_bool (by rw [Bool.eq_iff_iff]; simp [itB, *]; try omega), bw_al (Below.refl _ _) _⟩
theorem l30Item_any (x : It) (w : World) (hs : x.name.size ≤ maxLen) : Calls Tryz.prog 70 #[.agg #[.string x.name, .int .i64 x.stage, .int .i64 x.rows, .int .i64 x.worth]] w fun e w' => e = .returned (.bool (itB x)) ∧ Below w.heap.size w w' := by
  go_enter Tryz.func70, Tryz.ntmps70
  go_wp2_with (first
    | (go_at_call 101; refine (l4Name_any _ _ hs).mono ?_; rintro e w' ⟨rfl, rfl⟩)
    | (go_at_call 68; refine (l1In_any _ _ _ _).mono ?_; rintro e w' ⟨rfl, rfl⟩))
  all_goals
    go_ret
    exact ⟨ret_bool (by rw [Bool.eq_iff_iff]; simp [itB, *]; try omega), bw_al (Below.refl _ _) _⟩
theorem specGoodItem_any (x : It) (w : World) (hs : x.name.size ≤ maxLen) : Calls Tryz.prog 33 #[.agg #[.string x.name, .int .i64 x.stage, .int .i64 x.rows, .int .i64 x.worth]] w fun e w' => e = .returned (.bool (itB x)) ∧ Below w.heap.size w w' := by
  go_enter Tryz.func33, Tryz.ntmps33
  go_wp2_with (first
    | (go_at_call 70; refine (l30Item_any _ _ hs).mono ?_; rintro e w' ⟨rfl, hb⟩))
  go_ret
  exact ⟨rfl, bw_to (bw_al (Below.refl _ _) _) hb⟩
theorem evB_bd {a b c d : Int} (h : evB a b c d = true) : 3 ≤ a ∧ a ≤ 8 ∧ 1 ≤ b ∧ b ≤ 100 ∧ 0 ≤ c ∧ c ≤ 20000 ∧ 0 ≤ d ∧ d ≤ 1000 := by simp [evB] at h; omega
theorem itB_bd {x : It} (h : itB x = true) : 3 ≤ x.stage ∧ x.stage ≤ 8 ∧ 1 ≤ x.rows ∧ x.rows ≤ 800 ∧ 0 ≤ x.worth ∧ x.worth ≤ 100 := by simp [itB] at h; omega
theorem mul_bd {a b m n : Int} (h1 : 0 ≤ a) (h2 : a ≤ m) (h3 : 0 ≤ b) (h4 : b ≤ n) : 0 ≤ a * b ∧ a * b ≤ m * n :=
  ⟨Int.mul_nonneg h1 h3, Int.mul_le_mul h2 h4 h3 (by omega)⟩
theorem rows_pace {a b c d : Int} {x : It} (h : evB a b c d = true) (k : itB x = true) : 0 ≤ x.rows * b ∧ x.rows * b ≤ 80000 := by
  obtain ⟨_, _, h1, h2, _⟩ := evB_bd h
  obtain ⟨_, _, k1, k2, _⟩ := itB_bd k
  exact mul_bd (by omega) k2 (by omega) h2
theorem specTimeOf_any (a b c d : Int) (x : It) (w : World) (hs : x.name.size ≤ maxLen) : Calls Tryz.prog 26 #[.agg #[.int .i64 a, .int .i64 b, .int .i64 c, .int .i64 d], .agg #[.string x.name, .int .i64 x.stage, .int .i64 x.rows, .int .i64 x.worth]] w fun e w' =>
    e = .returned (.tuple #[.int .i64 (timeN a b c d x), .bool (timeB a b c d x)]) ∧ Below w.heap.size w w' := by
  go_enter Tryz.func26, Tryz.ntmps26
  go_wp2_with fail
  refine (l30Evening_any _ _ _ _ _).mono ?_; rintro e w1 ⟨rfl, hb1⟩
  obtain ⟨hc1, hf1⟩ := bcell hb1
  have hz1 : w.heap.size < w1.heap.size ∧ w.heap.size + 1 < w1.heap.size := by have := hb1.size; simp at this; omega
  have hB1 := bw_to (bw_al (bw_al (Below.refl _ _) _) _) hb1
  go_wp2_with fail
  · go_ret2
    exact ⟨by simp [timeN, timeB, *], hB1⟩
  · refine (l30Item_any x _ hs).mono ?_; rintro e w2 ⟨rfl, hb2⟩
    obtain ⟨hc2, hf2⟩ := bcell hb2
    have hB2 := bw_to hB1 hb2
    by_cases hi : itB x = true
    · obtain ⟨hp1, hp2⟩ := rows_pace ‹_› hi
      by_cases hst : x.stage ≤ a
      all_goals
        go_wp2_with fail
        go_ret2
        exact ⟨by simp [timeN, timeB, *]; try omega, hB2⟩
    · have hi' : itB x = false := by simpa using hi
      clear hi
      go_wp2_with fail
      go_ret2
      exact ⟨by simp [timeN, timeB, *]; try omega, hB2⟩
theorem implTimeOf_any (a b c d : Int) (x : It) (w : World) (hs : x.name.size ≤ maxLen) : Calls Tryz.prog 25 #[.agg #[.int .i64 a, .int .i64 b, .int .i64 c, .int .i64 d], .agg #[.string x.name, .int .i64 x.stage, .int .i64 x.rows, .int .i64 x.worth]] w fun e w' =>
    e = .returned (.tuple #[.int .i64 (timeN a b c d x), .bool (timeB a b c d x)]) ∧ Below w.heap.size w w' := by
  go_enter Tryz.func25, Tryz.ntmps25
  go_wp2_with fail
  refine (implGoodEvening_any _ _ _ _ _).mono ?_; rintro e w1 ⟨rfl, hb1⟩
  obtain ⟨hc1, hf1⟩ := bcell hb1
  have hz1 : w.heap.size < w1.heap.size ∧ w.heap.size + 1 < w1.heap.size := by have := hb1.size; simp at this; omega
  have hB1 := bw_to (bw_al (bw_al (Below.refl _ _) _) _) hb1
  go_wp2_with fail
  · go_ret2
    exact ⟨by simp [timeN, timeB, *], hB1⟩
  · refine (implGoodItem_any x _ hs).mono ?_; rintro e w2 ⟨rfl, hb2⟩
    obtain ⟨hc2, hf2⟩ := bcell hb2
    have hB2 := bw_to hB1 hb2
    by_cases hi : itB x = true
    · obtain ⟨hp1, hp2⟩ := rows_pace ‹_› hi
      by_cases hst : x.stage ≤ a
      all_goals
        go_wp2_with fail
        go_ret2
        exact ⟨by simp [timeN, timeB, *]; try omega, hB2⟩
    · have hi' : itB x = false := by simpa using hi
      clear hi
      go_wp2_with fail
      go_ret2
      exact ⟨by simp [timeN, timeB, *]; try omega, hB2⟩
end Go.Proofs.YtofpjbdelmmclaaGreatDoor

/- Contracts: slices of items and of numbers; the total time of a choice. -/
namespace Go.Proofs.YtofpjbdelmmclaaGreatDoor
open Go Go.RowKit
set_option linter.unusedVariables false
set_option linter.unusedSimpArgs false

theorem szAfter_le {k : Int} {m : Nat} (h : k ≤ 1048576) : szAfter k m ≤ 1048576 := by unfold szAfter; split <;> omega
end Go.Proofs.YtofpjbdelmmclaaGreatDoor
