/- Contracts: notes, calls, touches. -/
import Derived.Test.YtimeecimaokldaaGreatDoorPk1
import Derived.Test.YtimeecimaokldaaGreatDoorPk4
import Derived.Laws.IdiomStrings
namespace Go.Proofs.YtimeecimaokldaaGreatDoor
open Go Go.RowKit
set_option linter.unusedVariables false
set_option linter.unusedSimpArgs false

def noteC (c : UInt8) : Bool := decide (97 ≤ (c.toNat : Int) ∧ (c.toNat : Int) ≤ 122) || decide (48 ≤ (c.toNat : Int) ∧ (c.toNat : Int) ≤ 57) || decide ((c.toNat : Int) = 46) || decide ((c.toNat : Int) = 45)
def noteB (l : List UInt8) : Bool := l.all noteC && decide (l.length ≤ 20)
theorem noteC_t {c : UInt8} (h : noteC c = true) : (97 ≤ (c.toNat : Int) ∧ (c.toNat : Int) ≤ 122) ∨ (48 ≤ (c.toNat : Int) ∧ (c.toNat : Int) ≤ 57) ∨ (c.toNat : Int) = 46 ∨ (c.toNat : Int) = 45 := by
  unfold noteC at h; simpa only [Bool.or_eq_true, decide_eq_true_eq, or_assoc] using h
theorem noteC_f {c : UInt8} (h : noteC c = false) : ¬ ((97 ≤ (c.toNat : Int) ∧ (c.toNat : Int) ≤ 122) ∨ (48 ≤ (c.toNat : Int) ∧ (c.toNat : Int) ≤ 57) ∨ (c.toNat : Int) = 46 ∨ (c.toNat : Int) = 45) := by
  intro k
  have : noteC c = true := by unfold noteC; simpa only [Bool.or_eq_true, decide_eq_true_eq, or_assoc] using k
  rw [h] at this; cases this
theorem note_no {l : List UInt8} {k : Nat} (hk : k < l.length) (h : noteC l[k] = false) : noteB l = false := by unfold noteB; rw [all_false hk h]; rfl
theorem note_end {s : ByteArray} {k : Nat} (hk : k ≤ s.size) (hn : ¬ k < s.size) (h : (s.data.toList.take k).all noteC = true) : decide ((s.size : Int) ≤ 20) = noteB s.data.toList := by
  unfold noteB
  rw [all_true (by simp; omega) h, bytes_len]
  simp only [Bool.true_and]
  congr 1
  apply propext
  omega
def callC (c : UInt8) : Bool := decide ((c.toNat : Int) = 112) || decide ((c.toNat : Int) = 98) || decide ((c.toNat : Int) = 115)
def callS (s : ByteArray) : Bool := (s.toList == [112]) || (s.toList == [98]) || (s.toList == [115])
def touchB (l : List UInt8) : Bool := l.all callC && decide (1 ≤ l.length ∧ l.length ≤ 60)
theorem ext_list (s : ByteArray) (i j : Nat) : (s.extract i j).data.toList = (s.data.toList.drop i).take (j - i) := by
  simp [ByteArray.data_extract, Array.toList_extract, List.extract_eq_take_drop, List.drop_take]
theorem ext_one {s : ByteArray} {k : Nat} (h : k < s.size) : (s.extract k (k + 1)).toList = [s[k]] := by
  rw [ByteArray.toList_eq, ext_list, Nat.add_sub_cancel_left, List.drop_eq_getElem_cons (by simpa using h)]
  rfl
theorem nat_u8 (c d : UInt8) : ([c] == [d]) = decide ((c.toNat : Int) = (d.toNat : Int)) := by
  rw [Bool.eq_iff_iff, decide_eq_true_eq, beq_iff_eq]
  constructor
  · intro h
    rw [(List.cons.inj h).1]
  · intro h
    have e : c = d := UInt8.toNat_inj.1 (by omega)
    rw [e]
theorem callS_def (s : ByteArray) : callS s = ((s.toList == [112]) || (s.toList == [98]) || (s.toList == [115])) := rfl
theorem callS_one {s : ByteArray} {k : Nat} (h : k < s.size) : callS (s.extract k (k + 1)) = callC s[k] := by
  unfold callS callC
  rw [ext_one h, nat_u8, nat_u8, nat_u8]
  rfl
theorem isCall_any (s : ByteArray) (w : World) : Calls Tryz.prog 114 #[.string s] w fun e w' => e = .returned (.bool (callS s)) ∧ w = w' := by
  cases e1 : (s.toList == [112]) <;> cases e2 : (s.toList == [98]) <;> cases e3 : (s.toList == [115])
  all_goals
    have h := callS_def s
    rw [e1, e2, e3] at h
    have H := Lib.hid h
    clear h
    go_enter Tryz.func114, Tryz.ntmps114
    go_wp2
    go_ret
    exact ⟨ret_bool (by rw [H.out]; rfl), rfl⟩
theorem l8Call_any (s : ByteArray) (w : World) : Calls Tryz.prog 164 #[.string s] w fun e w' => e = .returned (.bool (callS s)) ∧ w = w' := by
  cases e1 : (s.toList == [112]) <;> cases e2 : (s.toList == [98]) <;> cases e3 : (s.toList == [115])
  all_goals
    have h := callS_def s
    rw [e1, e2, e3] at h
    have H := Lib.hid h
    clear h
    go_enter Tryz.func164, Tryz.ntmps164
    go_wp2
    go_ret
    exact ⟨ret_bool (by rw [H.out]; rfl), rfl⟩
theorem areCalls_any (s : ByteArray) (w : World) (hs : s.size ≤ maxLen) : Calls Tryz.prog 138 #[.string s] w fun e w' => e = .returned (.bool (s.data.toList.all callC)) ∧ w = w' := by
  unfold maxLen at hs
  obtain ⟨q, hq⟩ : ∃ q, q = s.data.toList.all callC := ⟨_, rfl⟩
  rw [← hq]
  have Hq := Lib.hid hq
  clear hq
  go_enter Tryz.func138, Tryz.ntmps138
  go_wp2
  go_loop [6] (fun i => ∃ k : Nat, k ≤ s.size ∧ i = .int .i64 k ∧ (s.data.toList.take k).all callC = true) (fun i => s.size - (intOf i).toNat)
  case atStart => exact ⟨0, Nat.zero_le _, rfl, by simp⟩
  case round =>
    obtain ⟨k, hk, rfl, ha⟩ := hrel
    have Ha := Lib.hid ha
    clear ha
    by_cases hlt : k < s.size
    · have H1 := Lib.hid (callS_one hlt)
      cases hb : callC s[k]
      all_goals have Hb := Lib.hid hb; clear hb
      · go_wp2_with (go_at_call 114; refine (isCall_any _ _).mono ?_; rintro e w1 ⟨rfl, rfl⟩; rw [H1.out, Hb.out])
        go_ret
        exact ⟨ret_bool (by rw [Hq.out, all_false (k := k) (by simpa using hlt) Hb.out]), rfl⟩
      · go_wp2_with (go_at_call 114; refine (isCall_any _ _).mono ?_; rintro e w1 ⟨rfl, rfl⟩; rw [H1.out, Hb.out])
        exact ⟨⟨k + 1, by omega, by go_num, all_step (by simpa using hlt) Ha.out Hb.out⟩, by simp [intOf]; omega⟩
    · go_wp2
      go_ret
      exact ⟨ret_bool (by rw [Hq.out, all_true (by simp; omega) Ha.out]), rfl⟩
theorem touch_of {s : ByteArray} {b : Bool} (h : s.data.toList.all callC = b) {c : Bool} (hc : c = decide (1 ≤ (s.size : Int) ∧ (s.size : Int) ≤ 60)) : touchB s.data.toList = (c && b) := by
  unfold touchB
  rw [h, hc, bytes_len, Bool.and_comm]
  congr 2
  apply propext
  omega
theorem GoodTouch_any (s : ByteArray) (w : World) (hs : s.size ≤ maxLen) : Calls Tryz.prog 98 #[.string s] w fun e w' => e = .returned (.bool (touchB s.data.toList)) ∧ w = w' := by
  unfold maxLen at hs
  obtain ⟨b, hb⟩ : ∃ b, s.data.toList.all callC = b := ⟨_, rfl⟩
  have H := Lib.hid (touch_of hb rfl)
  have Hb := Lib.hid hb
  clear hb
  go_enter Tryz.func98, Tryz.ntmps98
  go_wp2_with (go_at_call 138; refine (areCalls_any _ _ (by unfold maxLen; omega)).mono ?_; rintro e w1 ⟨rfl, rfl⟩; rw [Hb.out])
  all_goals
    go_ret
    exact ⟨ret_bool (by rw [H.out]; simp [Bool.decide_and]; try omega), rfl⟩
theorem l9Good_any (s : ByteArray) (w : World) (hs : s.size ≤ maxLen) : Calls Tryz.prog 132 #[.string s] w fun e w' => e = .returned (.bool (touchB s.data.toList)) ∧ w = w' := by
  unfold maxLen at hs
  go_enter Tryz.func132, Tryz.ntmps132
  go_wp2
  go_loop [3] (fun i => ∃ k : Nat, k ≤ s.size ∧ i = .int .i64 k ∧ (s.data.toList.take k).all callC = true) (fun i => s.size - (intOf i).toNat)
  case atStart => exact ⟨0, Nat.zero_le _, rfl, by simp⟩
  case round =>
    obtain ⟨k, hk, rfl, ha⟩ := hrel
    have Ha := Lib.hid ha
    clear ha
    by_cases hlt : k < s.size
    · have H1 := Lib.hid (callS_one hlt)
      cases hb : callC s[k]
      all_goals have Hb := Lib.hid hb; clear hb
      · go_wp2_with (go_at_call 164; refine (l8Call_any _ _).mono ?_; rintro e w1 ⟨rfl, rfl⟩; rw [H1.out, Hb.out])
        go_ret
        exact ⟨ret_bool (by rw [touch_of (all_false (k := k) (by simpa using hlt) Hb.out) rfl]; simp), rfl⟩
      · go_wp2_with (go_at_call 164; refine (l8Call_any _ _).mono ?_; rintro e w1 ⟨rfl, rfl⟩; rw [H1.out, Hb.out])
        exact ⟨⟨k + 1, by omega, by go_num, all_step (by simpa using hlt) Ha.out Hb.out⟩, by simp [intOf]; omega⟩
    · go_wp2_with (go_at_call 43; refine (l1In_any _ _ _ _).mono ?_; rintro e w1 ⟨rfl, rfl⟩)
      go_ret
      exact ⟨ret_bool (by rw [touch_of (all_true (by simp; omega) Ha.out) rfl, Bool.and_true]; simp [Bool.decide_and]), rfl⟩
end Go.Proofs.YtimeecimaokldaaGreatDoor

/- Contracts: rounds, the product of rows. -/
namespace Go.Proofs.YtimeecimaokldaaGreatDoor
open Go Go.RowKit
set_option linter.unusedVariables false
set_option linter.unusedSimpArgs false

theorem ret_str {a b : ByteArray} (h : a = b) : Ending.returned (.string a) = .returned (.string b) := by rw [h]
theorem rounds_any (n : Nat) (w : World) (hn : n ≤ 8) : Calls Tryz.prog 104 #[.int .i64 n] w fun e w' => e = .returned (.string (roundsB n)) ∧ w = w' := by
  have he : (⟨#[49, 50, 51, 52, 53, 54, 55, 56]⟩ : ByteArray).size = 8 := rfl
  have hr : roundsB n = (⟨#[49, 50, 51, 52, 53, 54, 55, 56]⟩ : ByteArray).extract 0 n := rfl
  have Hr := Lib.hid hr
  clear hr
  go_enter Tryz.func104, Tryz.ntmps104
  go_wp2_with fail
  go_ret
  exact ⟨ret_str Hr.out.symm, rfl⟩
theorem l1Rounds_any (n : Nat) (w : World) (hn : n ≤ 8) : Calls Tryz.prog 96 #[.int .i64 n] w fun e w' => e = .returned (.string (roundsB n)) ∧ w = w' := by
  have he : (⟨#[49, 50, 51, 52, 53, 54, 55, 56]⟩ : ByteArray).size = 8 := rfl
  have hr : roundsB n = (⟨#[49, 50, 51, 52, 53, 54, 55, 56]⟩ : ByteArray).extract 0 n := rfl
  have Hr := Lib.hid hr
  clear hr
  go_enter Tryz.func96, Tryz.ntmps96
  go_wp2_with fail
  go_ret
  exact ⟨ret_str Hr.out.symm, rfl⟩
theorem l1At_any (s : ByteArray) (k : Nat) (w : World) (hs : s.size ≤ maxLen) (hk : k < s.size) (h0 : 48 ≤ (s[k].toNat : Int)) : Calls Tryz.prog 141 #[.string s, .int .i64 ((k : Int) + 1)] w fun e w' => e = .returned (.int .i64 ((s[k].toNat : Int) - 48)) ∧ w = w' := by
  unfold maxLen at hs
  have h1 := s[k].toNat_lt
  have h2 : (k : Int) + 1 - 1 = k := by omega
  go_enter Tryz.func141, Tryz.ntmps141
  go_wp2_with fail
  go_ret
  exact ⟨rfl, rfl⟩
theorem info_u8 : (Tryz.prog.info? 5).map (fun i => (i.zero, i.size, i.bytes)) = some (some (.int .u8 0), 1, 1) := by kernel_rfl
def u8v (c : UInt8) : Value := .int .u8 (c.toNat : Int)
theorem conv_back {P : Program} {src dst e : TypeId} (hs : P.underlying src = some (.slice e)) (he : P.underlying e = some (.int .u8)) (hd : P.underlying dst = some .string) {w : World} {base g n cap : Nat} {cs : List Value} {l : List UInt8}
    (h : w.ownsRow base e 1 (.slice (some ⟨g, 0, none⟩) n cap) n cs) (hc : cs = l.map u8v) (hl : l.length = n) : (convert src dst (.slice (some ⟨g, 0, none⟩) n cap)).run P w = .ok (.string (ofL l)) w := by
  subst hl hc
  refine run_convert_bytes_back w src dst e ⟨g, 0, none⟩ cap l hs he hd (fun j hj => ?_)
  rw [Addr.add_lit, Nat.zero_add, h.cellAt j (by omega)]
  simp [u8v, hj]
theorem timesL_len (a b : List UInt8) : (timesL a b).length = b.length := by simp [timesL]
theorem times_snoc {a b : ByteArray} {k : Nat} (hk : k < b.size) {m : Nat} (hm : m = b[k].toNat - 49) (hl : m < a.size) : timesL a.data.toList (b.data.toList.take (k + 1)) = timesL a.data.toList (b.data.toList.take k) ++ [a[m]] := by
  subst hm
  rw [timesL_take (by rw [bytes_len]; exact hk), List.getD_eq_getElem?_getD, bytes_get b k hk, List.getElem?_eq_getElem (by rw [bytes_len]; exact hl)]
  rfl
set_option maxHeartbeats 1000000 in
theorem times_any (a b : ByteArray) (w : World) (ha : a.size ≤ 1048576) (hb : b.size ≤ 1048576) (hin : ∀ i (h : i < b.size), 49 ≤ b[i].toNat ∧ b[i].toNat < 49 + a.size) :
    Calls Tryz.prog 152 #[.string a, .string b] w fun e w' => e = .returned (.string (timesB a b)) ∧ Below w.heap.size w w' := by
  obtain ⟨i0, hi0, hz0, hs0, hb0⟩ := info_parts info_u8
  have Hin := Lib.hid hin
  have HT := Lib.hid (show timesB a b = ofL (timesL a.data.toList b.data.toList) from rfl)
  clear hin
  go_enter Tryz.func152, Tryz.ntmps152
  go_wp2_with (at_make; refine wpList_make_full _ rfl _ _ _ rfl w.heap.size 5 i0 _ 1 Tryz.underlying53 hi0 hz0 hs0 _ _ _ _ b.size rfl rfl rfl rfl (by rw [hb0]; omega) (by unfold maxLen; omega) (Nat.le_refl _) ?_; intro w1 hown1 hgr1)
  have hB1 := bw_gr (Below.refl _ _) hgr1
  go_loopw [12] (fun i wr => ∃ k : Nat, k ≤ b.size ∧ i = .int .i64 k ∧ Below w.heap.size w wr ∧ ∃ cs : List Value, wr.ownsRow w.heap.size 5 1 (.slice (some ⟨w.heap.size, 0, none⟩) b.size b.size) b.size cs ∧ cs.take k = (timesL a.data.toList (b.data.toList.take k)).map u8v)
    (fun i _ => b.size - (intOf i).toNat)
  case atStart => exact ⟨0, by omega, rfl, hB1, _, hown1, by simp [timesL]⟩
  case round =>
    obtain ⟨k, hk, rfl, hB, cs, hown, hcs⟩ := hrel
    have Hcs := Lib.hid hcs
    clear hcs
    by_cases hlt : k < b.size
    · obtain ⟨y0, hy0⟩ := own_some hown (j := k) (by omega)
      have hf := hown.frozenAt k
      have hr := Hin.out k hlt
      obtain ⟨m, hm⟩ : ∃ m, m = b[k].toNat - 49 := ⟨_, rfl⟩
      have hml : m < a.size := by omega
      have hbm : (b[k].toNat : Int) = m + 49 := by omega
      have Hsn := Lib.hid (times_snoc hlt hm hml)
      have hlt8 := b[k].toNat_lt
      have hw8 : IntKind.u8.wrap ((m : Int) + 49 - 49) = m := by rw [IntWalk.u8_in _ ⟨by omega, by omega⟩]; omega
      have Hr := Lib.hid hr
      clear hm hr
      go_wp2_with fail
      refine ⟨⟨k + 1, by omega, by go_num, grow_set hB (Nat.le_refl _) _, _, own_set hown _ _, ?_⟩, by simp [intOf]; omega⟩
      rw [take_set_last (by rw [hown.1]; omega), Hcs.out, Hsn.out]
      simp [u8v]
    · obtain rfl : k = b.size := by omega
      rw [List.take_of_length_le (by rw [hown.1]; omega), List.take_of_length_le (by rw [bytes_len]; exact Nat.le_refl _)] at Hcs
      have hcv := conv_back Tryz.underlying53 Tryz.underlying5 Tryz.underlying9 hown Hcs.out (by rw [timesL_len, bytes_len])
      go_wp2_with fail
      go_ret
      exact ⟨ret_str HT.out.symm, hB⟩
theorem ext_app {a : ByteArray} {m : Nat} (h : m < a.size) (s : List UInt8) : ofL s ++ a.extract m (m + 1) = ofL (s ++ [a[m]]) := by
  apply bytes_ext
  rw [ofL_list, show (ofL s ++ a.extract m (m + 1)).data.toList = (ofL s).data.toList ++ (a.extract m (m + 1)).data.toList by simp [ByteArray.data_append], ofL_list, ← bytes_toList, ext_one h]
set_option maxHeartbeats 1000000 in
theorem l1Times_any (a b : ByteArray) (w : World) (ha : a.size ≤ 1048576) (hb : b.size ≤ 1048576) (hin : ∀ i (h : i < b.size), 49 ≤ b[i].toNat ∧ b[i].toNat < 49 + a.size) :
    Calls Tryz.prog 178 #[.string a, .string b] w fun e w' => e = .returned (.string (timesB a b)) ∧ w = w' := by
  have Hin := Lib.hid hin
  have HT := Lib.hid (show timesB a b = ofL (timesL a.data.toList b.data.toList) from rfl)
  have hz : (⟨#[]⟩ : ByteArray) = ofL (timesL a.data.toList (b.data.toList.take 0)) := rfl
  have Hz := Lib.hid hz
  clear hin hz
  go_enter Tryz.func178, Tryz.ntmps178
  go_wp2_with fail
  go_loop [5, 6] (fun o i => ∃ k : Nat, ∃ s : ByteArray, k ≤ b.size ∧ i = .int .i64 ((k : Int) + 1) ∧ o = .string s ∧ s.size = k ∧ s = ofL (timesL a.data.toList (b.data.toList.take k))) (fun _ i => b.size + 1 - (intOf i).toNat)
  case atStart => exact ⟨0, _, by omega, rfl, rfl, rfl, Hz.out⟩
  case round =>
    obtain ⟨k, s, hk, rfl, rfl, hsz, hs⟩ := hrel
    have Hs := Lib.hid hs
    clear hs
    by_cases hlt : k < b.size
    · have hr := Hin.out k hlt
      obtain ⟨m, hm⟩ : ∃ m, m = b[k].toNat - 49 := ⟨_, rfl⟩
      have hml : m < a.size := by omega
      have hat := Lib.hid (l1At_any b k w (by unfold maxLen; omega) hlt (by omega))
      have hbm : (b[k].toNat : Int) - 48 = m + 1 := by omega
      rw [hbm] at hat
      have Hsn := Lib.hid (times_snoc hlt hm hml)
      have Hap := Lib.hid (ext_app hml)
      have Hr := Lib.hid hr
      have Hsz := Lib.hid hsz
      have hsz' : s.size ≤ 1048576 := by omega
      have hex : (a.extract m (m + 1)).size = 1 := by rw [ByteArray.size_extract]; omega
      have Hex := Lib.hid hex
      have hex' : (a.extract m (m + 1)).size ≤ 1 := by omega
      clear hm hr hbm hsz hex
      go_wp2_with (go_at_call 141; refine (hat.out).mono ?_; rintro e w' ⟨rfl, rfl⟩)
      refine ⟨⟨k + 1, _, by omega, by go_num, rfl, ?_, ?_⟩, by simp [intOf]; omega⟩
      · rw [ByteArray.size_append, Hsz.out, Hex.out]
      · rw [Hs.out, Hap.out, Hsn.out]
    · obtain rfl : k = b.size := by omega
      go_wp2_with fail
      go_ret
      exact ⟨ret_str (by rw [HT.out, Hs.out, List.take_of_length_le (by rw [bytes_len]; exact Nat.le_refl _)]), rfl⟩
end Go.Proofs.YtimeecimaokldaaGreatDoor
