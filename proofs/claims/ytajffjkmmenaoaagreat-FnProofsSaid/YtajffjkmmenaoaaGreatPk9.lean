/- Contracts: notes, calls, touches. -/
import Derived.Test.YtajffjkmmenaoaaGreatPk1
import Derived.Test.YtajffjkmmenaoaaGreatPk3
import Derived.Test.YtajffjkmmenaoaaGreatPk8
import Derived.Laws.IdiomStrings
namespace Go.Proofs.YtajffjkmmenaoaaGreat
open Go Go.RowKit
set_option linter.unusedVariables false
set_option linter.unusedSimpArgs false

def noteC (c : UInt8) : Bool := decide (97 ≤ (c.toNat : Int) ∧ (c.toNat : Int) ≤ 122) || decide (48 ≤ (c.toNat : Int) ∧ (c.toNat : Int) ≤ 57) || decide ((c.toNat : Int) = 46) || decide ((c.toNat : Int) = 45)
def noteB (l : List UInt8) : Bool := l.all noteC && decide (l.length ≤ 20)
theorem noteC_t {c : UInt8} (h : noteC c = true) : (97 ≤ (c.toNat : Int) ∧ (c.toNat : Int) ≤ 122) ∨ (48 ≤ (c.toNat : Int) ∧ (c.toNat : Int) ≤ 57) ∨ (c.toNat : Int) = 46 ∨ (c.toNat : Int) = 45 := by
  unfold noteC at h; simpa only [Bool.or_eq_true, decide_eq_true_eq, or_assoc] using h
theorem noteC_f {c : UInt8} (h : noteC c = false) : ¬ ((97 ≤ (c.toNat : Int) ∧ (c.toNat : Int) ≤ 122) ∨ (48 ≤ (c.toNat : Int) ∧ (c.toNat : Int) ≤ 57) ∨ (c.toNat : Int) = 46 ∨ (c.toNat : Int) = 45) := by
  intro k
  have : noteC c = true := by unfold noteC; simpa only [Bool.or_eq_true, decide_eq_true_eq, or_assoc] using k
  rw [h] at this; cases this
theorem note_no {l : List UInt8} {k : Nat} (hk : k < l.length) (h : noteC l[k] = false) : noteB l = false := by unfold noteB; rw [all_false hk h]; rfl
theorem note_end {s : ByteArray} {k : Nat} (hk : k ≤ s.size) (hn : ¬ k < s.size) (h : (s.data.toList.take k).all noteC = true) : decide ((s.size : Int) ≤ 20) = noteB s.data.toList := by
  unfold noteB
  rw [all_true (by simp; omega) h, bytes_len]
  simp only [Bool.true_and]
  congr 1
  apply propext
  omega
def callC (c : UInt8) : Bool := decide ((c.toNat : Int) = 112) || decide ((c.toNat : Int) = 98) || decide ((c.toNat : Int) = 115)
def callS (s : ByteArray) : Bool := (s.toList == [112]) || (s.toList == [98]) || (s.toList == [115])
def touchB (l : List UInt8) : Bool := l.all callC && decide (1 ≤ l.length ∧ l.length ≤ 60)
theorem ext_list (s : ByteArray) (i j : Nat) : (s.extract i j).data.toList = (s.data.toList.drop i).take (j - i) := by
  simp [ByteArray.data_extract, Array.toList_extract, List.extract_eq_take_drop, List.drop_take]
theorem ext_one {s : ByteArray} {k : Nat} (h : k < s.size) : (s.extract k (k + 1)).toList = [s[k]] := by
  rw [ByteArray.toList_eq, ext_list, Nat.add_sub_cancel_left, List.drop_eq_getElem_cons (by simpa using h)]
  rfl
theorem nat_u8 (c d : UInt8) : ([c] == [d]) = decide ((c.toNat : Int) = (d.toNat : Int)) := by
  rw [Bool.eq_iff_iff, decide_eq_true_eq, beq_iff_eq]
  constructor
  · intro h
    rw [(List.cons.inj h).1]
  · intro h
    have e : c = d := UInt8.toNat_inj.1 (by omega)
    rw [e]
theorem callS_def (s : ByteArray) : callS s = ((s.toList == [112]) || (s.toList == [98]) || (s.toList == [115])) := rfl
theorem callS_one {s : ByteArray} {k : Nat} (h : k < s.size) : callS (s.extract k (k + 1)) = callC s[k] := by
  unfold callS callC
  rw [ext_one h, nat_u8, nat_u8, nat_u8]
  rfl
theorem isCall_any (s : ByteArray) (w : World) : Calls Tryz.prog 138 #[.string s] w fun e w' => e = .returned (.bool (callS s)) ∧ w = w' := by
  cases e1 : (s.toList == [112]) <;> cases e2 : (s.toList == [98]) <;> cases e3 : (s.toList == [115])
  all_goals
    have h := callS_def s
    rw [e1, e2, e3] at h
    have H := Lib.hid h
    clear h
    go_enter Tryz.func138, Tryz.ntmps138
    go_wp2
    go_ret
    exact ⟨ret_bool (by rw [H.out]; rfl), rfl⟩
theorem l8Call_any (s : ByteArray) (w : World) : Calls Tryz.prog 130 #[.string s] w fun e w' => e = .returned (.bool (callS s)) ∧ w = w' := by
  cases e1 : (s.toList == [112]) <;> cases e2 : (s.toList == [98]) <;> cases e3 : (s.toList == [115])
  all_goals
    have h := callS_def s
    rw [e1, e2, e3] at h
    have H := Lib.hid h
    clear h
    go_enter Tryz.func130, Tryz.ntmps130
    go_wp2
    go_ret
    exact ⟨ret_bool (by rw [H.out]; rfl), rfl⟩
theorem areCalls_any (s : ByteArray) (w : World) (hs : s.size ≤ maxLen) : Calls Tryz.prog 108 #[.string s] w fun e w' => e = .returned (.bool (s.data.toList.all callC)) ∧ w = w' := by
  unfold maxLen at hs
  obtain ⟨q, hq⟩ : ∃ q, q = s.data.toList.all callC := ⟨_, rfl⟩
  rw [← hq]
  have Hq := Lib.hid hq
  clear hq
  go_enter Tryz.func108, Tryz.ntmps108
  go_wp2
  go_loop [6] (fun i => ∃ k : Nat, k ≤ s.size ∧ i = .int .i64 k ∧ (s.data.toList.take k).all callC = true) (fun i => s.size - (intOf i).toNat)
  case atStart => exact ⟨0, Nat.zero_le _, rfl, by simp⟩
  case round =>
    obtain ⟨k, hk, rfl, ha⟩ := hrel
    have Ha := Lib.hid ha
    clear ha
    by_cases hlt : k < s.size
    · have H1 := Lib.hid (callS_one hlt)
      cases hb : callC s[k]
      all_goals have Hb := Lib.hid hb; clear hb
      · go_wp2_with (go_at_call 138; refine (isCall_any _ _).mono ?_; rintro e w1 ⟨rfl, rfl⟩; rw [H1.out, Hb.out])
        go_ret
        exact ⟨ret_bool (by rw [Hq.out, all_false (k := k) (by simpa using hlt) Hb.out]), rfl⟩
      · go_wp2_with (go_at_call 138; refine (isCall_any _ _).mono ?_; rintro e w1 ⟨rfl, rfl⟩; rw [H1.out, Hb.out])
        exact ⟨⟨k + 1, by omega, by go_num, all_step (by simpa using hlt) Ha.out Hb.out⟩, by simp [intOf]; omega⟩
    · go_wp2
      go_ret
      exact ⟨ret_bool (by rw [Hq.out, all_true (by simp; omega) Ha.out]), rfl⟩
theorem touch_of {s : ByteArray} {b : Bool} (h : s.data.toList.all callC = b) {c : Bool} (hc : c = decide (1 ≤ (s.size : Int) ∧ (s.size : Int) ≤ 60)) : touchB s.data.toList = (c && b) := by
  unfold touchB
  rw [h, hc, bytes_len, Bool.and_comm]
  congr 2
  apply propext
  omega
theorem GoodTouch_any (s : ByteArray) (w : World) (hs : s.size ≤ maxLen) : Calls Tryz.prog 64 #[.string s] w fun e w' => e = .returned (.bool (touchB s.data.toList)) ∧ w = w' := by
  unfold maxLen at hs
  obtain ⟨b, hb⟩ : ∃ b, s.data.toList.all callC = b := ⟨_, rfl⟩
  have H := Lib.hid (touch_of hb rfl)
  have Hb := Lib.hid hb
  clear hb
  go_enter Tryz.func64, Tryz.ntmps64
  go_wp2_with (go_at_call 108; refine (areCalls_any _ _ (by unfold maxLen; omega)).mono ?_; rintro e w1 ⟨rfl, rfl⟩; rw [Hb.out])
  all_goals
    go_ret
    exact ⟨ret_bool (by rw [H.out]; simp [Bool.decide_and]; try omega), rfl⟩
theorem l9Good_any (s : ByteArray) (w : World) (hs : s.size ≤ maxLen) : Calls Tryz.prog 101 #[.string s] w fun e w' => e = .returned (.bool (touchB s.data.toList)) ∧ w = w' := by
  unfold maxLen at hs
  go_enter Tryz.func101, Tryz.ntmps101
  go_wp2
  go_loop [3] (fun i => ∃ k : Nat, k ≤ s.size ∧ i = .int .i64 k ∧ (s.data.toList.take k).all callC = true) (fun i => s.size - (intOf i).toNat)
  case atStart => exact ⟨0, Nat.zero_le _, rfl, by simp⟩
  case round =>
    obtain ⟨k, hk, rfl, ha⟩ := hrel
    have Ha := Lib.hid ha
    clear ha
    by_cases hlt : k < s.size
    · have H1 := Lib.hid (callS_one hlt)
      cases hb : callC s[k]
      all_goals have Hb := Lib.hid hb; clear hb
      · go_wp2_with (go_at_call 130; refine (l8Call_any _ _).mono ?_; rintro e w1 ⟨rfl, rfl⟩; rw [H1.out, Hb.out])
        go_ret
        exact ⟨ret_bool (by rw [touch_of (all_false (k := k) (by simpa using hlt) Hb.out) rfl]; simp), rfl⟩
      · go_wp2_with (go_at_call 130; refine (l8Call_any _ _).mono ?_; rintro e w1 ⟨rfl, rfl⟩; rw [H1.out, Hb.out])
        exact ⟨⟨k + 1, by omega, by go_num, all_step (by simpa using hlt) Ha.out Hb.out⟩, by simp [intOf]; omega⟩
    · go_wp2_with (go_at_call 73; refine (l1In_any _ _ _ _).mono ?_; rintro e w1 ⟨rfl, rfl⟩)
      go_ret
      exact ⟨ret_bool (by rw [touch_of (all_true (by simp; omega) Ha.out) rfl, Bool.and_true]; simp [Bool.decide_and]), rfl⟩
end Go.Proofs.YtajffjkmmenaoaaGreat

/- Contracts: rounds, the product of rows. -/
namespace Go.Proofs.YtajffjkmmenaoaaGreat
open Go Go.RowKit
set_option linter.unusedVariables false
set_option linter.unusedSimpArgs false

theorem ret_str {a b : ByteArray} (h : a = b) : Ending.returned (.string a) = .returned (.string b) := by rw [h]
theorem rounds_any (n : Nat) (w : World) (hn : n ≤ 8) : Calls Tryz.prog 50 #[.int .i64 n] w fun e w' => e = .returned (.string (roundsB n)) ∧ w = w' := by
  have he : (⟨#[49, 50, 51, 52, 53, 54, 55, 56]⟩ : ByteArray).size = 8 := rfl
  have hr : roundsB n = (⟨#[49, 50, 51, 52, 53, 54, 55, 56]⟩ : ByteArray).extract 0 n := rfl
  have Hr := Lib.hid hr
  clear hr
  go_enter Tryz.func50, Tryz.ntmps50
  go_wp2_with fail
  go_ret
  exact ⟨ret_str Hr.out.symm, rfl⟩
theorem l1Rounds_any (n : Nat) (w : World) (hn : n ≤ 8) : Calls Tryz.prog 30 #[.int .i64 n] w fun e w' => e = .returned (.string (roundsB n)) ∧ w = w' := by
  have he : (⟨#[49, 50, 51, 52, 53, 54, 55, 56]⟩ : ByteArray).size = 8 := rfl
  have hr : roundsB n = (⟨#[49, 50, 51, 52, 53, 54, 55, 56]⟩ : ByteArray).extract 0 n := rfl
  have Hr := Lib.hid hr
  clear hr
  go_enter Tryz.func30, Tryz.ntmps30
  go_wp2_with fail
  go_ret
  exact ⟨ret_str Hr.out.symm, rfl⟩
theorem l1At_any (s : ByteArray) (k : Nat) (w : World) (hs : s.size ≤ maxLen) (hk : k < s.size) (h0 : 48 ≤ (s[k].toNat : Int)) : Calls Tryz.prog 104 #[.string s, .int .i64 ((k : Int) + 1)] w fun e w' => e = .returned (.int .i64 ((s[k].toNat : Int) - 48)) ∧ w = w' := by
  unfold maxLen at hs
  have h1 := s[k].toNat_lt
  have h2 : (k : Int) + 1 - 1 = k := by omega
  go_enter Tryz.func104, Tryz.ntmps104
  go_wp2_with fail
  go_ret
  exact ⟨rfl, rfl⟩
theorem info_u8 : (Tryz.prog.info? 5).map (fun i => (i.zero, i.size, i.bytes)) = some (some (.int .u8 0), 1, 1) := by kernel_rfl
def u8v (c : UInt8) : Value := .int .u8 (c.toNat : Int)
theorem conv_back {P : Program} {src dst e : TypeId} (hs : P.underlying src = some (.slice e)) (he : P.underlying e = some (.int .u8)) (hd : P.underlying dst = some .string) {w : World} {base g n cap : Nat} {cs : List Value} {l : List UInt8}
    (h : w.ownsRow base e 1 (.slice (some ⟨g, 0, none⟩) n cap) n cs) (hc : cs = l.map u8v) (hl : l.length = n) : (convert src dst (.slice (some ⟨g, 0, none⟩) n cap)).run P w = .ok (.string (ofL l)) w := by
  subst hl hc
  refine run_convert_bytes_back w src dst e ⟨g, 0, none⟩ cap l hs he hd (fun j hj => ?_)
  rw [Addr.add_lit, Nat.zero_add, h.cellAt j (by omega)]
  simp [u8v, hj]
theorem timesL_len (a b : List UInt8) : (timesL a b).length = b.length := by simp [timesL]
theorem times_snoc {a b : ByteArray} {k : Nat} (hk : k < b.size) {m : Nat} (hm : m = b[k].toNat - 49) (hl : m < a.size) : timesL a.data.toList (b.data.toList.take (k + 1)) = timesL a.data.toList (b.data.toList.take k) ++ [a[m]] := by
  subst hm
  rw [timesL_take (by rw [bytes_len]; exact hk), List.getD_eq_getElem?_getD, bytes_get b k hk, List.getElem?_eq_getElem (by rw [bytes_len]; exact hl)]
  rfl
set_option maxHeartbeats 1000000 in
theorem times_any (a b : ByteArray) (w : World) (ha : a.size ≤ 1048576) (hb : b.size ≤ 1048576) (hin : ∀ i (h : i < b.size), 49 ≤ b[i].toNat ∧ b[i].toNat < 49 + a.size) :
    Calls Tryz.prog 52 #[.string a, .string b] w fun e w' => e = .returned (.string (timesB a b)) ∧ Below w.heap.size w w' := by
  obtain ⟨i0, hi0, hz0, hs0, hb0⟩ := info_parts info_u8
  have Hin := Lib.hid hin
  have HT := Lib.hid (show timesB a b = ofL (timesL a.data.toList b.data.toList) from rfl)
  clear hin
  go_enter Tryz.func52, Tryz.ntmps52
  go_wp2_with (at_make; refine wpList_make_full _ rfl _ _ _ rfl w.heap.size 5 i0 _ 1 Tryz.underlying22 hi0 hz0 hs0 _ _ _ _ b.size rfl rfl rfl rfl (by rw [hb0]; omega) (by unfold maxLen; omega) (Nat.le_refl _) ?_; intro w1 hown1 hgr1)
  have hB1 := bw_gr (Below.refl _ _) hgr1
  go_loopw [12] (fun i wr => ∃ k : Nat, k ≤ b.size ∧ i = .int .i64 k ∧ Below w.heap.size w wr ∧ ∃ cs : List Value, wr.ownsRow w.heap.size 5 1 (.slice (some ⟨w.heap.size, 0, none⟩) b.size b.size) b.size cs ∧ cs.take k = (timesL a.data.toList (b.data.toList.take k)).map u8v)
    (fun i _ => b.size - (intOf i).toNat)
  case atStart => exact ⟨0, by omega, rfl, hB1, _, hown1, by simp [timesL]⟩
  case round =>
    obtain ⟨k, hk, rfl, hB, cs, hown, hcs⟩ := hrel
    have Hcs := Lib.hid hcs
    clear hcs
    by_cases hlt : k < b.size
    · obtain ⟨y0, hy0⟩ := own_some hown (j := k) (by omega)
      have hf := hown.frozenAt k
      have hr := Hin.out k hlt
      obtain ⟨m, hm⟩ : ∃ m, m = b[k].toNat - 49 := ⟨_, rfl⟩
      have hml : m < a.size := by omega
      have hbm : (b[k].toNat : Int) = m + 49 := by omega
      have Hsn := Lib.hid (times_snoc hlt hm hml)
      have hlt8 := b[k].toNat_lt
      have hw8 : IntKind.u8.wrap ((m : Int) + 49 - 49) = m := by rw [IntWalk.u8_in _ ⟨by omega, by omega⟩]; omega
      have Hr := Lib.hid hr
      clear hm hr
      go_wp2_with fail
      refine ⟨⟨k + 1, by omega, by go_num, grow_set hB (Nat.le_refl _) _, _, own_set hown _ _, ?_⟩, by simp [intOf]; omega⟩
      rw [take_set_last (by rw [hown.1]; omega), Hcs.out, Hsn.out]
      simp [u8v]
    · obtain rfl : k = b.size := by omega
      rw [List.take_of_length_le (by rw [hown.1]; omega), List.take_of_length_le (by rw [bytes_len]; exact Nat.le_refl _)] at Hcs
      have hcv := conv_back Tryz.underlying22 Tryz.underlying5 Tryz.underlying9 hown Hcs.out (by rw [timesL_len, bytes_len])
      go_wp2_with fail
      go_ret
      exact ⟨ret_str HT.out.symm, hB⟩
theorem ext_app {a : ByteArray} {m : Nat} (h : m < a.size) (s : List UInt8) : ofL s ++ a.extract m (m + 1) = ofL (s ++ [a[m]]) := by
  apply bytes_ext
  rw [ofL_list, show (ofL s ++ a.extract m (m + 1)).data.toList = (ofL s).data.toList ++ (a.extract m (m + 1)).data.toList by simp [ByteArray.data_append], ofL_list, ← bytes_toList, ext_one h]
set_option maxHeartbeats 1000000 in
theorem l1Times_any (a b : ByteArray) (w : World) (ha : a.size ≤ 1048576) (hb : b.size ≤ 1048576) (hin : ∀ i (h : i < b.size), 49 ≤ b[i].toNat ∧ b[i].toNat < 49 + a.size) :
    Calls Tryz.prog 60 #[.string a, .string b] w fun e w' => e = .returned (.string (timesB a b)) ∧ w = w' := by
  have Hin := Lib.hid hin
  have HT := Lib.hid (show timesB a b = ofL (timesL a.data.toList b.data.toList) from rfl)
  have hz : (⟨#[]⟩ : ByteArray) = ofL (timesL a.data.toList (b.data.toList.take 0)) := rfl
  have Hz := Lib.hid hz
  clear hin hz
  go_enter Tryz.func60, Tryz.ntmps60
  go_wp2_with fail
  go_loop [5, 6] (fun o i => ∃ k : Nat, ∃ s : ByteArray, k ≤ b.size ∧ i = .int .i64 ((k : Int) + 1) ∧ o = .string s ∧ s.size = k ∧ s = ofL (timesL a.data.toList (b.data.toList.take k))) (fun _ i => b.size + 1 - (intOf i).toNat)
  case atStart => exact ⟨0, _, by omega, rfl, rfl, rfl, Hz.out⟩
  case round =>
    obtain ⟨k, s, hk, rfl, rfl, hsz, hs⟩ := hrel
    have Hs := Lib.hid hs
    clear hs
    by_cases hlt : k < b.size
    · have hr := Hin.out k hlt
      obtain ⟨m, hm⟩ : ∃ m, m = b[k].toNat - 49 := ⟨_, rfl⟩
      have hml : m < a.size := by omega
      have hat := Lib.hid (l1At_any b k w (by unfold maxLen; omega) hlt (by omega))
      have hbm : (b[k].toNat : Int) - 48 = m + 1 := by omega
      rw [hbm] at hat
      have Hsn := Lib.hid (times_snoc hlt hm hml)
      have Hap := Lib.hid (ext_app hml)
      have Hr := Lib.hid hr
      have Hsz := Lib.hid hsz
      have hsz' : s.size ≤ 1048576 := by omega
      have hex : (a.extract m (m + 1)).size = 1 := by rw [ByteArray.size_extract]; omega
      have Hex := Lib.hid hex
      have hex' : (a.extract m (m + 1)).size ≤ 1 := by omega
      clear hm hr hbm hsz hex
      go_wp2_with (go_at_call 104; refine (hat.out).mono ?_; rintro e w' ⟨rfl, rfl⟩)
      refine ⟨⟨k + 1, _, by omega, by go_num, rfl, ?_, ?_⟩, by simp [intOf]; omega⟩
      · rw [ByteArray.size_append, Hsz.out, Hex.out]
      · rw [Hs.out, Hap.out, Hsn.out]
    · obtain rfl : k = b.size := by omega
      go_wp2_with fail
      go_ret
      exact ⟨ret_str (by rw [HT.out, Hs.out, List.take_of_length_le (by rw [bytes_len]; exact Nat.le_refl _)]), rfl⟩
end Go.Proofs.YtajffjkmmenaoaaGreat

/- A row drawn; a text spoilt. -/
namespace Go.Proofs.YtajffjkmmenaoaaGreat
open Go Go.RowKit
set_option linter.unusedVariables false
set_option linter.unusedSimpArgs false

theorem byte_oneX {P : Program} {src dst e : TypeId} (hs : P.underlying src = some (.slice e)) (he : P.underlying e = some (.int .u8)) (hd : P.underlying dst = some .string) (W : World) (g : Nat) (c : UInt8) (hg : W.heap[g]? = some (.cells #[.int .u8 (c.toNat : Int)] e (0, 0))) :
    (convert src dst (.slice (some ⟨g, 0, none⟩) 1 1)).run P W = .ok (.string ⟨#[c]⟩) W := by
  refine run_convert_bytes_back W src dst e ⟨g, 0, none⟩ 1 [c] hs he hd (fun j hj => ?_)
  have : j = 0 := by simpa using hj
  subst this
  rw [Addr.add_lit, heap_cell hg]
  simp
def fact8 : Nat → Nat
  | 0 => 1
  | n + 1 => (n + 1) * fact8 n
theorem l1FactX_any (n : Nat) (w : World) (hn : n ≤ 8) : Calls Tryz.prog 61 #[.int .i64 n] w fun e w' => e = .returned (.int .i64 (fact8 n)) ∧ w = w' := by
  go_enter Tryz.func61, Tryz.ntmps61
  go_wp2_with fail
  have hn9 : n = 0 ∨ n = 1 ∨ n = 2 ∨ n = 3 ∨ n = 4 ∨ n = 5 ∨ n = 6 ∨ n = 7 ∨ n = 8 := by omega
  go_loop [0, 3] (fun a f => ∃ k : Nat, k ≤ n ∧ a = .int .i64 k ∧ ∃ z : Nat, f = .int .i64 z ∧ z * fact8 k = fact8 n ∧ 1 ≤ z ∧ z ≤ 40320) (fun a _ => (intOf a).toNat)
  case atStart => exact ⟨n, by omega, rfl, 1, rfl, by omega, by omega, by omega⟩
  case round =>
    obtain ⟨k, hk, rfl, z, rfl, hz, hz1, hz2⟩ := hrel
    have hk9 : k = 0 ∨ k = 1 ∨ k = 2 ∨ k = 3 ∨ k = 4 ∨ k = 5 ∨ k = 6 ∨ k = 7 ∨ k = 8 := by omega
    by_cases hlt : 1 < k
    · obtain ⟨k', rfl⟩ : ∃ k', k = k' + 1 := ⟨k - 1, by omega⟩
      have e1 : (z * (k' + 1)) * fact8 k' = fact8 n := by rw [← hz]; show _ = z * ((k' + 1) * fact8 k'); rw [Nat.mul_assoc]
      have hb : z * (k' + 1) ≤ 40320 := by
        have h1 : 1 ≤ fact8 k' := by
          have : k' = 1 ∨ k' = 2 ∨ k' = 3 ∨ k' = 4 ∨ k' = 5 ∨ k' = 6 ∨ k' = 7 := by omega
          rcases this with rfl | rfl | rfl | rfl | rfl | rfl | rfl <;> decide
        have h2 : fact8 n ≤ 40320 := by rcases hn9 with rfl | rfl | rfl | rfl | rfl | rfl | rfl | rfl | rfl <;> decide
        have h3 := Nat.le_mul_of_pos_right (z * (k' + 1)) h1
        omega
      have hb1 : 1 ≤ z * (k' + 1) := Nat.mul_pos (by omega) (by omega)
      have hw : IntKind.i64.wrap ((z : Int) * ((k' + 1 : Nat) : Int)) = ((z * (k' + 1) : Nat) : Int) := by
        rw [← Int.natCast_mul]; exact IntWalk.i64_in _ (by omega)
      have hlt' : (1 : Int) < ((k' + 1 : Nat) : Int) := by omega
      have E1 := Lib.hid e1
      clear hz e1 hk9 hn9
      go_wp2_with fail
      exact ⟨⟨k', by omega, by simp, z * (k' + 1), congrArg (Value.int .i64) (by rw [show ((k' : Int) + 1) = ((k' + 1 : Nat) : Int) by omega, ← Int.natCast_mul]; generalize z * (k' + 1) = p at hb hb1; unfold wrap64; omega), E1.out, hb1, hb⟩, by simp [intOf]⟩
    · have e2 : z = fact8 n := by
        have : k = 0 ∨ k = 1 := by omega
        rcases this with rfl | rfl
        · simpa [fact8] using hz
        · simpa [fact8] using hz
      have hlt' : ¬ (1 : Int) < (k : Int) := by omega
      subst e2
      clear hz hk9 hn9
      go_wp2_with fail
      go_ret
      exact ⟨rfl, rfl⟩
set_option maxRecDepth 10000 in
set_option maxHeartbeats 4000000 in
theorem RowOf_any (n k : Nat) (w : World) (h3 : 3 ≤ n) (h8 : n ≤ 8) (hk : k < fact8 n) : Calls Tryz.prog 112 #[.int .i64 n, .int .i64 k] w fun e w' => ∃ r : ByteArray, e = .returned (.tuple #[.string r, .bool true]) ∧ r.size = n ∧ Below w.heap.size w w' := by
  have Hf := Lib.hid (fun (m : Nat) (hm : m ≤ 8) W => l1FactX_any m W hm)
  have hf8 : fact8 n ≤ 40320 := by
    have hn9 : n = 3 ∨ n = 4 ∨ n = 5 ∨ n = 6 ∨ n = 7 ∨ n = 8 := by omega
    rcases hn9 with rfl | rfl | rfl | rfl | rfl | rfl <;> decide
  have hd1 : decide ((3 : Int) ≤ n ∧ (n : Int) ≤ 8) = true := decide_eq_true (by omega)
  have hd2 : decide ((0 : Int) ≤ k ∧ (k : Int) ≤ (fact8 n : Int) - 1) = true := decide_eq_true (by omega)
  have hwf : IntKind.i64.wrap ((fact8 n : Int) - 1) = (fact8 n : Int) - 1 := IntWalk.i64_in _ (by omega)
  have Hk := Lib.hid hk
  clear hk
  go_enter Tryz.func112, Tryz.ntmps112
  go_wp2_with (first | (go_at_call 73; refine (l1In_any _ _ _ _).mono ?_; rintro e w' ⟨rfl, rfl⟩; first | rw [hd1] | rw [hd2]) | (go_at_call 61; refine (Hf.out n h8 _).mono ?_; rintro e w' ⟨rfl, rfl⟩) | (go_at_call 30; refine (l1Rounds_any n _ h8).mono ?_; rintro e w' ⟨rfl, rfl⟩))
  go_loopw [1, 6, 7] (fun s1 s6 s7 wr => ∃ (x y : ByteArray) (j : Nat), s6 = .string x ∧ s7 = .string y ∧ s1 = .int .i64 j ∧ x.size + y.size = n ∧ j < fact8 x.size ∧ Below w.heap.size w wr) (fun _ s6 _ _ => match s6 with | .string x => x.size | _ => 0)
  case atStart => exact ⟨roundsB n, ⟨#[]⟩, k, rfl, rfl, rfl, by rw [rounds_size h8]; rfl, by rw [rounds_size h8]; exact Hk.out, Below.refl _ _⟩
  case round =>
    obtain ⟨x, y, j, rfl, rfl, rfl, hxy, hj, hB⟩ := hrel
    by_cases h0 : x.size = 0
    · have hl : ¬ (0 : Int) < (x.size : Int) := by omega
      go_wp2_with fail
      go_ret2
      exact ⟨y, rfl, by omega, hB⟩
    · obtain ⟨m, hm⟩ : ∃ m, x.size = m + 1 := ⟨x.size - 1, by omega⟩
      have hl : (0 : Int) < (x.size : Int) := by omega
      have hm8 : m ≤ 7 := by omega
      have hwm : IntKind.i64.wrap ((x.size : Int) - 1) = (m : Int) := by rw [hm]; exact (IntWalk.i64_in _ (by omega)).trans (by omega)
      rw [hm] at hj
      obtain ⟨f, hf⟩ : ∃ f, f = fact8 m := ⟨_, rfl⟩
      have hfm : fact8 (m + 1) = (m + 1) * f := by rw [hf]; rfl
      rw [hfm] at hj
      have hf1 : 1 ≤ f := by
        rw [hf]
        have hn9 : m = 0 ∨ m = 1 ∨ m = 2 ∨ m = 3 ∨ m = 4 ∨ m = 5 ∨ m = 6 ∨ m = 7 := by omega
        rcases hn9 with rfl | rfl | rfl | rfl | rfl | rfl | rfl | rfl <;> decide
      have hf2 : f ≤ 5040 := by
        rw [hf]
        have hn9 : m = 0 ∨ m = 1 ∨ m = 2 ∨ m = 3 ∨ m = 4 ∨ m = 5 ∨ m = 6 ∨ m = 7 := by omega
        rcases hn9 with rfl | rfl | rfl | rfl | rfl | rfl | rfl | rfl <;> decide
      have Hfm := Lib.hid (fun W => Hf.out m (by omega) W)
      rw [← hf] at Hfm
      have hi : j / f < m + 1 := Nat.div_lt_of_lt_mul (by rw [Nat.mul_comm]; exact hj)
      have hjf : j % f < f := Nat.mod_lt _ (by omega)
      have hjb : j ≤ 50000 := by
        have h1 : (m + 1) * f ≤ 8 * 5040 := Nat.mul_le_mul (by omega) hf2
        omega
      have hq : Int.tdiv (j : Int) (f : Int) = ((j / f : Nat) : Int) := rfl
      have hr : Int.tmod (j : Int) (f : Int) = ((j % f : Nat) : Int) := rfl
      obtain ⟨i, hid⟩ : ∃ i, i = j / f := ⟨_, rfl⟩
      obtain ⟨r, hrd⟩ : ∃ r, r = j % f := ⟨_, rfl⟩
      rw [← hid] at hi hq
      rw [← hrd] at hjf hr
      have hfz : ¬ ((f : Int) = 0) := by omega
      have hwq : IntKind.i64.wrap (i : Int) = (i : Int) := IntWalk.i64_in _ (by omega)
      have hwr : IntKind.i64.wrap (r : Int) = (r : Int) := IntWalk.i64_in _ (by omega)
      have hwi : IntKind.i64.wrap ((i : Int) + 1) = (i : Int) + 1 := IntWalk.i64_in _ (by omega)
      have hil : i < x.size := by omega
      have hi1 : (i : Int) + 1 ≤ (x.size : Int) := by omega
      have hi0 : (0 : Int) ≤ (i : Int) + 1 := by omega
      have hi2 : i ≤ x.size := by omega
      have hit : ((i : Int) + 1).toNat = i + 1 := by omega
      have hi3 : i + 1 ≤ x.size := by omega
      have b1 : ¬ 9223372036854775807 < y.size + (x.extract i (i + 1)).size := by rw [ByteArray.size_extract]; omega
      have b2 : ¬ 9223372036854775807 < (x.extract 0 i).size + (x.extract (i + 1) x.size).size := by rw [ByteArray.size_extract, ByteArray.size_extract]; omega
      have hz1 : (y ++ x.extract i (i + 1)).size = y.size + 1 := by rw [ByteArray.size_append, ByteArray.size_extract]; omega
      have hz2 : (x.extract 0 i ++ x.extract (i + 1) x.size).size = m := by rw [ByteArray.size_append, ByteArray.size_extract, ByteArray.size_extract]; omega
      have Hz1 := Lib.hid hz1
      have Hz2 := Lib.hid hz2
      have HF := Lib.hid hf
      have HM := Lib.hid hm
      clear hid hrd hf hj hz1 hz2 hfm hm
      go_wp2_with (first | (go_at_call 61; refine (Hfm.out _).mono ?_; rintro e w' ⟨rfl, rfl⟩))
      go_big_quiet (fail)
      go_wp2_with fail
      refine ⟨⟨_, _, r, rfl, rfl, rfl, ?_, ?_, bw_dr hB _⟩, ?_⟩
      · rw [Hz1.out, Hz2.out]; have := HM.out; omega
      · rw [Hz2.out, ← HF.out]; exact hjf
      · show (x.extract 0 i ++ x.extract (i + 1) x.size).size < x.size
        rw [Hz2.out]; have := HM.out; omega
set_option maxHeartbeats 2000000 in
theorem drawRow_any (w : World) (C lim n : Nat) (h : Cur w C lim) (hl : lim ≤ 100000000) (h3 : 3 ≤ n) (h8 : n ≤ 8) : Calls Tryz.prog 71 #[.pointer (some ⟨C, 0, none⟩), .int .i64 n] w (DrewStr w C (lim + 2) fun s => s.size = n) := by
  have H := Lib.hid h
  clear h
  have hf : 1 ≤ fact8 n ∧ fact8 n ≤ 40320 := by
    have hn9 : n = 3 ∨ n = 4 ∨ n = 5 ∨ n = 6 ∨ n = 7 ∨ n = 8 := by omega
    rcases hn9 with rfl | rfl | rfl | rfl | rfl | rfl <;> decide
  go_enter Tryz.func71, Tryz.ntmps71
  go_wp2_with fail
  refine (l1FactX_any n _ h8).mono ?_; rintro e w1 ⟨rfl, rfl⟩
  go_wp2_with fail
  refine (pick_any w C lim (fact8 n) H.out (by omega) (by omega) (by omega)).mono ?_; rintro e w2 ⟨b, rfl, hb, hc2, hg2⟩
  obtain ⟨k, rfl⟩ : ∃ k : Nat, b = k := ⟨b.toNat, by omega⟩
  have Hc2 := Lib.hid hc2
  have Hg2 := Lib.hid hg2
  clear hc2 hg2
  go_wp2_with fail
  refine (RowOf_any n k w2 h3 h8 (by omega)).mono ?_; rintro e w3 ⟨r, rfl, hr, hb3⟩
  have Hc3 := Lib.hid (Hc2.out.to hb3)
  have Hg3 := Lib.hid (gb_to Hg2.out hb3)
  have Hr := Lib.hid hr
  clear hb3 hb hr
  go_wp2_with fail
  go_ret
  exact ⟨r, rfl, Hr.out, Hc3.out, Hg3.out⟩
end Go.Proofs.YtajffjkmmenaoaaGreat
