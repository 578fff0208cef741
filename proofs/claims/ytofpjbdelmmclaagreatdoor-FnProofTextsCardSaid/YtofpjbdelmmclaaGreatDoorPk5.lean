/- Plain facts on the lines of a proof. -/
import Derived.Test.YtofpjbdelmmclaaGreatDoorPk4
import Derived.Test.YtofpjbdelmmclaaGreatDoorPk1
import Derived.Test.YtofpjbdelmmclaaGreatDoorPk2
import Derived.Laws.IdiomStrings
namespace Go.Proofs.YtofpjbdelmmclaaGreatDoor
open Go Go.RowKit
set_option linter.unusedVariables false
set_option linter.unusedSimpArgs false

theorem sub_perm {α : Type} : ∀ {a b : List α}, a.Nodup → (∀ x, x ∈ a → x ∈ b) → ∃ c, b.Perm (a ++ c)
  | [], b, _, _ => ⟨b, List.Perm.refl _⟩
  | x :: a, b, hd, hs => by
    rw [List.nodup_cons] at hd
    obtain ⟨p, q, rfl⟩ := List.append_of_mem (hs x (List.mem_cons_self ..))
    have h1 : ∀ y, y ∈ a → y ∈ p ++ q := by
      intro y hy
      have h2 := hs y (List.mem_cons_of_mem _ hy)
      rw [List.mem_append, List.mem_cons] at h2
      rw [List.mem_append]
      rcases h2 with h2 | h2 | h2
      · exact .inl h2
      · subst h2; exact absurd hy hd.1
      · exact .inr h2
    obtain ⟨c, hc⟩ := sub_perm hd.2 h1
    exact ⟨c, List.perm_middle.trans (List.Perm.cons x hc)⟩
theorem sub_perm_len {α : Type} {a b : List α} (hd : a.Nodup) (hs : ∀ x, x ∈ a → x ∈ b) (hl : b.length ≤ a.length) : b.Perm a := by
  obtain ⟨c, hc⟩ := sub_perm hd hs
  have h := hc.length_eq
  rw [List.length_append] at h
  obtain rfl : c = [] := List.length_eq_zero_iff.1 (by omega)
  simpa using hc
/-- The first number below n that is not good. -/
def badAt (ok : Nat → Bool) (n : Nat) : Option Nat := (List.range n).find? (fun i => !ok i)
theorem badAt_none {ok : Nat → Bool} {n : Nat} (h : ∀ i, i < n → ok i = true) : badAt ok n = none := by
  unfold badAt
  rw [List.find?_eq_none]
  intro i hi
  rw [h i (List.mem_range.1 hi)]
  decide
theorem badAt_some {ok : Nat → Bool} {n j : Nat} (hj : j < n) (h : ∀ i, i < j → ok i = true) (hb : ok j = false) : badAt ok n = some j := by
  unfold badAt
  rw [List.find?_range_eq_some]
  refine ⟨by rw [hb]; rfl, List.mem_range.2 hj, fun i hi => by rw [h i hi]; rfl⟩
theorem badAt_all {ok : Nat → Bool} {n : Nat} (h : badAt ok n = none) : ∀ i, i < n → ok i = true := by
  unfold badAt at h
  rw [List.find?_eq_none] at h
  intro i hi
  have := h i (List.mem_range.2 hi)
  simpa using this
/-- A line of a proof: the row, the lead, the place in the lead. -/
structure Ln where
  row : ByteArray
  lead : Int
  at' : Int
/-- Is line i right: in a touch of T leads of N rows, its rows given? -/
def okLn (lt : ByteArray → ByteArray → Bool) (rows : List ByteArray) (N T : Nat) (ls : List Ln) (i : Nat) : Bool :=
  match ls[i]? with
  | none => false
  | some l => (i == 0 || (match ls[i - 1]? with | none => false | some p => lt p.row l.row)) && (decide (l.lead.toNat < T) && (decide (l.at'.toNat < N) && decide (rows[l.lead.toNat * N + l.at'.toNat]? = some l.row)))
structure OkLn (lt : ByteArray → ByteArray → Bool) (rows : List ByteArray) (N T : Nat) (ls : List Ln) (i : Nat) (l : Ln) : Prop where
  prev : 0 < i → ∀ p, ls[i - 1]? = some p → lt p.row l.row = true
  lead : l.lead.toNat < T
  place : l.at'.toNat < N
  row : rows[l.lead.toNat * N + l.at'.toNat]? = some l.row
theorem okLn_iff {lt : ByteArray → ByteArray → Bool} {rows : List ByteArray} {N T : Nat} {ls : List Ln} {i : Nat} {l : Ln} (hl : ls[i]? = some l) : okLn lt rows N T ls i = true ↔ OkLn lt rows N T ls i l := by
  unfold okLn
  rw [hl]
  simp only [Bool.and_eq_true, Bool.or_eq_true, decide_eq_true_eq, beq_iff_eq]
  constructor
  · rintro ⟨h1, h2, h3, h4⟩
    refine ⟨fun hi p hp => ?_, h2, h3, h4⟩
    rcases h1 with h1 | h1
    · omega
    · rw [hp] at h1; exact h1
  · rintro ⟨h1, h2, h3, h4⟩
    refine ⟨?_, h2, h3, h4⟩
    by_cases hi : i = 0
    · exact .inl hi
    · have hlt : i - 1 < ls.length := by have := (List.getElem?_eq_some_iff.1 hl).1; omega
      rw [List.getElem?_eq_getElem hlt]
      exact .inr (h1 (by omega) _ (List.getElem?_eq_getElem hlt))
theorem lt_all {lt : ByteArray → ByteArray → Bool} (htr : ∀ x y z, lt x y = true → lt y z = true → lt x z = true) {rs : List ByteArray} (hs : ∀ i (h : i + 1 < rs.length), lt rs[i] rs[i + 1] = true) : rs.Pairwise (fun a b => lt a b = true) := by
  rw [List.pairwise_iff_getElem]
  intro i j hi hj hij
  obtain ⟨d, rfl⟩ : ∃ d, j = i + 1 + d := ⟨j - i - 1, by omega⟩
  clear hij
  induction d with
  | zero => exact hs i hj
  | succ d ih => exact htr _ _ _ (ih (by omega)) (hs (i + 1 + d) hj)
/-- A proof whose lines are all right is the touch's: its rows are those of the touch, each once, in order. -/
theorem lines_right {lt : ByteArray → ByteArray → Bool} (hirr : ∀ x, lt x x = false) (htr : ∀ x y z, lt x y = true → lt y z = true → lt x z = true) {rows : List ByteArray} {N T : Nat} {ls : List Ln} (hl : ls.length = rows.length) (hok : ∀ i, i < ls.length → okLn lt rows N T ls i = true) :
    rows.Perm (ls.map Ln.row) ∧ rows.Nodup ∧ (ls.map Ln.row).Pairwise (fun a b => lt a b = true) := by
  have hp : (ls.map Ln.row).Pairwise (fun a b => lt a b = true) := by
    apply lt_all htr
    intro i hi
    rw [List.length_map] at hi
    have h1 := (okLn_iff (List.getElem?_eq_getElem hi)).1 (hok (i + 1) hi)
    rw [List.getElem_map, List.getElem_map]
    exact h1.prev (by omega) _ (List.getElem?_eq_getElem (by omega))
  have hd : (ls.map Ln.row).Nodup := hp.imp (fun {a b} h e => by subst e; rw [hirr] at h; cases h)
  have hs : ∀ x, x ∈ ls.map Ln.row → x ∈ rows := by
    intro x hx
    obtain ⟨l, hl, rfl⟩ := List.mem_map.1 hx
    obtain ⟨i, hi, rfl⟩ := List.mem_iff_getElem.1 hl
    exact List.mem_of_getElem? ((okLn_iff (List.getElem?_eq_getElem hi)).1 (hok i hi)).row
  have h := sub_perm_len hd hs (by rw [List.length_map]; omega)
  exact ⟨h, h.nodup_iff.2 hd, hp⟩
/-- A line whose place is moved within a touch of different rows is wrong. -/
theorem moved_bad {lt : ByteArray → ByteArray → Bool} {rows : List ByteArray} {N T : Nat} {ls ls' : List Ln} {i : Nat} {l : Ln} (hd : rows.Nodup) (hl : ls[i]? = some l) (hok : okLn lt rows N T ls i = true) {a : Int} (hl' : ls'[i]? = some ⟨l.row, l.lead, a⟩) (ha : a.toNat ≠ l.at'.toNat) : okLn lt rows N T ls' i = false := by
  have h := (okLn_iff hl).1 hok
  cases e : okLn lt rows N T ls' i with
  | false => rfl
  | true =>
    have h' := (okLn_iff hl').1 e
    have h1 := h.row
    have h2 := h'.row
    simp only at h2
    obtain ⟨g1, e1⟩ := List.getElem?_eq_some_iff.1 h1
    obtain ⟨g2, e2⟩ := List.getElem?_eq_some_iff.1 h2
    have := (List.getElem_inj hd).1 (e1.trans e2.symm)
    omega
/-- Lines ahead of a changed one stay right. -/
theorem kept_ok {lt : ByteArray → ByteArray → Bool} {rows : List ByteArray} {N T : Nat} {ls ls' : List Ln} {n : Nat} (h : ∀ i, i < n → ls'[i]? = ls[i]?) {i : Nat} (hi : i < n) : okLn lt rows N T ls' i = okLn lt rows N T ls i := by
  unfold okLn
  rw [h i hi, h (i - 1) (by omega)]
end Go.Proofs.YtofpjbdelmmclaaGreatDoor

/- Contracts: notes, calls, touches. -/
namespace Go.Proofs.YtofpjbdelmmclaaGreatDoor
open Go Go.RowKit
set_option linter.unusedVariables false
set_option linter.unusedSimpArgs false

def noteC (c : UInt8) : Bool := decide (97 ≤ (c.toNat : Int) ∧ (c.toNat : Int) ≤ 122) || decide (48 ≤ (c.toNat : Int) ∧ (c.toNat : Int) ≤ 57) || decide ((c.toNat : Int) = 46) || decide ((c.toNat : Int) = 45)
def noteB (l : List UInt8) : Bool := l.all noteC && decide (l.length ≤ 20)
theorem noteC_t {c : UInt8} (h : noteC c = true) : (97 ≤ (c.toNat : Int) ∧ (c.toNat : Int) ≤ 122) ∨ (48 ≤ (c.toNat : Int) ∧ (c.toNat : Int) ≤ 57) ∨ (c.toNat : Int) = 46 ∨ (c.toNat : Int) = 45 := by
  unfold noteC at h; simpa only [Bool.or_eq_true, decide_eq_true_eq, or_assoc] using h
theorem noteC_f {c : UInt8} (h : noteC c = false) : ¬ ((97 ≤ (c.toNat : Int) ∧ (c.toNat : Int) ≤ 122) ∨ (48 ≤ (c.toNat : Int) ∧ (c.toNat : Int) ≤ 57) ∨ (c.toNat : Int) = 46 ∨ (c.toNat : Int) = 45) := by
  intro k
  have : noteC c = true := by unfold noteC; simpa only [Bool.or_eq_true, decide_eq_true_eq, or_assoc] using k
  rw [h] at this; cases this
theorem note_no {l : List UInt8} {k : Nat} (hk : k < l.length) (h : noteC l[k] = false) : noteB l = false := by unfold noteB; rw [all_false hk h]; rfl
theorem note_end {s : ByteArray} {k : Nat} (hk : k ≤ s.size) (hn : ¬ k < s.size) (h : (s.data.toList.take k).all noteC = true) : decide ((s.size : Int) ≤ 20) = noteB s.data.toList := by
  unfold noteB
  rw [all_true (by simp; omega) h, bytes_len]
  simp only [Bool.true_and]
  congr 1
  apply propext
  omega
def callC (c : UInt8) : Bool := decide ((c.toNat : Int) = 112) || decide ((c.toNat : Int) = 98) || decide ((c.toNat : Int) = 115)
def callS (s : ByteArray) : Bool := (s.toList == [112]) || (s.toList == [98]) || (s.toList == [115])
def touchB (l : List UInt8) : Bool := l.all callC && decide (1 ≤ l.length ∧ l.length ≤ 60)
theorem ext_list (s : ByteArray) (i j : Nat) : (s.extract i j).data.toList = (s.data.toList.drop i).take (j - i) := by
  simp [ByteArray.data_extract, Array.toList_extract, List.extract_eq_take_drop, List.drop_take]
theorem ext_one {s : ByteArray} {k : Nat} (h : k < s.size) : (s.extract k (k + 1)).toList = [s[k]] := by
  rw [ByteArray.toList_eq, ext_list, Nat.add_sub_cancel_left, List.drop_eq_getElem_cons (by simpa using h)]
  rfl
theorem nat_u8 (c d : UInt8) : ([c] == [d]) = decide ((c.toNat : Int) = (d.toNat : Int)) := by
  rw [Bool.eq_iff_iff, decide_eq_true_eq, beq_iff_eq]
  constructor
  · intro h
    rw [(List.cons.inj h).1]
  · intro h
    have e : c = d := UInt8.toNat_inj.1 (by omega)
    rw [e]
theorem callS_def (s : ByteArray) : callS s = ((s.toList == [112]) || (s.toList == [98]) || (s.toList == [115])) := rfl
theorem callS_one {s : ByteArray} {k : Nat} (h : k < s.size) : callS (s.extract k (k + 1)) = callC s[k] := by
  unfold callS callC
  rw [ext_one h, nat_u8, nat_u8, nat_u8]
  rfl
theorem isCall_any (s : ByteArray) (w : World) : Calls Tryz.prog 194 #[.string s] w fun e w' => e = .returned (.bool (callS s)) ∧ w = w' := by
  cases e1 : (s.toList == [112]) <;> cases e2 : (s.toList == [98]) <;> cases e3 : (s.toList == [115])
  all_goals
    have h := callS_def s
    rw [e1, e2, e3] at h
    have H := Lib.hid h
    clear h
    go_enter Tryz.func194, Tryz.ntmps194
    go_wp2
    go_ret
    exact ⟨ret_bool (by rw [H.out]; rfl), rfl⟩
theorem l8Call_any (s : ByteArray) (w : World) : Calls Tryz.prog 164 #[.string s] w fun e w' => e = .returned (.bool (callS s)) ∧ w = w' := by
  cases e1 : (s.toList == [112]) <;> cases e2 : (s.toList == [98]) <;> cases e3 : (s.toList == [115])
  all_goals
    have h := callS_def s
    rw [e1, e2, e3] at h
    have H := Lib.hid h
    clear h
    go_enter Tryz.func164, Tryz.ntmps164
    go_wp2
    go_ret
    exact ⟨ret_bool (by rw [H.out]; rfl), rfl⟩
theorem areCalls_any (s : ByteArray) (w : World) (hs : s.size ≤ maxLen) : Calls Tryz.prog 159 #[.string s] w fun e w' => e = .returned (.bool (s.data.toList.all callC)) ∧ w = w' := by
  unfold maxLen at hs
  obtain ⟨q, hq⟩ : ∃ q, q = s.data.toList.all callC := ⟨_, rfl⟩
  rw [← hq]
  have Hq := Lib.hid hq
  clear hq
  go_enter Tryz.func159, Tryz.ntmps159
  go_wp2
  go_loop [6] (fun i => ∃ k : Nat, k ≤ s.size ∧ i = .int .i64 k ∧ (s.data.toList.take k).all callC = true) (fun i => s.size - (intOf i).toNat)
  case atStart => exact ⟨0, Nat.zero_le _, rfl, by simp⟩
  case round =>
    obtain ⟨k, hk, rfl, ha⟩ := hrel
    have Ha := Lib.hid ha
    clear ha
    by_cases hlt : k < s.size
    · have H1 := Lib.hid (callS_one hlt)
      cases hb : callC s[k]
      all_goals have Hb := Lib.hid hb; clear hb
      · go_wp2_with (go_at_call 194; refine (isCall_any _ _).mono ?_; rintro e w1 ⟨rfl, rfl⟩; rw [H1.out, Hb.out])
        go_ret
        exact ⟨ret_bool (by rw [Hq.out, all_false (k := k) (by simpa using hlt) Hb.out]), rfl⟩
      · go_wp2_with (go_at_call 194; refine (isCall_any _ _).mono ?_; rintro e w1 ⟨rfl, rfl⟩; rw [H1.out, Hb.out])
        exact ⟨⟨k + 1, by omega, by go_num, all_step (by simpa using hlt) Ha.out Hb.out⟩, by simp [intOf]; omega⟩
    · go_wp2
      go_ret
      exact ⟨ret_bool (by rw [Hq.out, all_true (by simp; omega) Ha.out]), rfl⟩
theorem touch_of {s : ByteArray} {b : Bool} (h : s.data.toList.all callC = b) {c : Bool} (hc : c = decide (1 ≤ (s.size : Int) ∧ (s.size : Int) ≤ 60)) : touchB s.data.toList = (c && b) := by
  unfold touchB
  rw [h, hc, bytes_len, Bool.and_comm]
  congr 2
  apply propext
  omega
theorem GoodTouch_any (s : ByteArray) (w : World) (hs : s.size ≤ maxLen) : Calls Tryz.prog 130 #[.string s] w fun e w' => e = .returned (.bool (touchB s.data.toList)) ∧ w = w' := by
  unfold maxLen at hs
  obtain ⟨b, hb⟩ : ∃ b, s.data.toList.all callC = b := ⟨_, rfl⟩
  have H := Lib.hid (touch_of hb rfl)
  have Hb := Lib.hid hb
  clear hb
  go_enter Tryz.func130, Tryz.ntmps130
  go_wp2_with (go_at_call 159; refine (areCalls_any _ _ (by unfold maxLen; omega)).mono ?_; rintro e w1 ⟨rfl, rfl⟩; rw [Hb.out])
  all_goals
    go_ret
    exact ⟨ret_bool (by rw [H.out]; simp [Bool.decide_and]; try omega), rfl⟩
theorem l9Good_any (s : ByteArray) (w : World) (hs : s.size ≤ maxLen) : Calls Tryz.prog 134 #[.string s] w fun e w' => e = .returned (.bool (touchB s.data.toList)) ∧ w = w' := by
  unfold maxLen at hs
  go_enter Tryz.func134, Tryz.ntmps134
  go_wp2
  go_loop [3] (fun i => ∃ k : Nat, k ≤ s.size ∧ i = .int .i64 k ∧ (s.data.toList.take k).all callC = true) (fun i => s.size - (intOf i).toNat)
  case atStart => exact ⟨0, Nat.zero_le _, rfl, by simp⟩
  case round =>
    obtain ⟨k, hk, rfl, ha⟩ := hrel
    have Ha := Lib.hid ha
    clear ha
    by_cases hlt : k < s.size
    · have H1 := Lib.hid (callS_one hlt)
      cases hb : callC s[k]
      all_goals have Hb := Lib.hid hb; clear hb
      · go_wp2_with (go_at_call 164; refine (l8Call_any _ _).mono ?_; rintro e w1 ⟨rfl, rfl⟩; rw [H1.out, Hb.out])
        go_ret
        exact ⟨ret_bool (by rw [touch_of (all_false (k := k) (by simpa using hlt) Hb.out) rfl]; simp), rfl⟩
      · go_wp2_with (go_at_call 164; refine (l8Call_any _ _).mono ?_; rintro e w1 ⟨rfl, rfl⟩; rw [H1.out, Hb.out])
        exact ⟨⟨k + 1, by omega, by go_num, all_step (by simpa using hlt) Ha.out Hb.out⟩, by simp [intOf]; omega⟩
    · go_wp2_with (go_at_call 68; refine (l1In_any _ _ _ _).mono ?_; rintro e w1 ⟨rfl, rfl⟩)
      go_ret
      exact ⟨ret_bool (by rw [touch_of (all_true (by simp; omega) Ha.out) rfl, Bool.and_true]; simp [Bool.decide_and]), rfl⟩
end Go.Proofs.YtofpjbdelmmclaaGreatDoor

/- Contracts: rounds, the product of rows. -/
namespace Go.Proofs.YtofpjbdelmmclaaGreatDoor
open Go Go.RowKit
set_option linter.unusedVariables false
set_option linter.unusedSimpArgs false

theorem ret_str {a b : ByteArray} (h : a = b) : Ending.returned (.string a) = .returned (.string b) := by rw [h]
theorem rounds_any (n : Nat) (w : World) (hn : n ≤ 8) : Calls Tryz.prog 162 #[.int .i64 n] w fun e w' => e = .returned (.string (roundsB n)) ∧ w = w' := by
  have he : (⟨#[49, 50, 51, 52, 53, 54, 55, 56]⟩ : ByteArray).size = 8 := rfl
  have hr : roundsB n = (⟨#[49, 50, 51, 52, 53, 54, 55, 56]⟩ : ByteArray).extract 0 n := rfl
  have Hr := Lib.hid hr
  clear hr
  go_enter Tryz.func162, Tryz.ntmps162
  go_wp2_with fail
  go_ret
  exact ⟨ret_str Hr.out.symm, rfl⟩
theorem l1Rounds_any (n : Nat) (w : World) (hn : n ≤ 8) : Calls Tryz.prog 109 #[.int .i64 n] w fun e w' => e = .returned (.string (roundsB n)) ∧ w = w' := by
  have he : (⟨#[49, 50, 51, 52, 53, 54, 55, 56]⟩ : ByteArray).size = 8 := rfl
  have hr : roundsB n = (⟨#[49, 50, 51, 52, 53, 54, 55, 56]⟩ : ByteArray).extract 0 n := rfl
  have Hr := Lib.hid hr
  clear hr
  go_enter Tryz.func109, Tryz.ntmps109
  go_wp2_with fail
  go_ret
  exact ⟨ret_str Hr.out.symm, rfl⟩
theorem l1At_any (s : ByteArray) (k : Nat) (w : World) (hs : s.size ≤ maxLen) (hk : k < s.size) (h0 : 48 ≤ (s[k].toNat : Int)) : Calls Tryz.prog 176 #[.string s, .int .i64 ((k : Int) + 1)] w fun e w' => e = .returned (.int .i64 ((s[k].toNat : Int) - 48)) ∧ w = w' := by
  unfold maxLen at hs
  have h1 := s[k].toNat_lt
  have h2 : (k : Int) + 1 - 1 = k := by omega
  go_enter Tryz.func176, Tryz.ntmps176
  go_wp2_with fail
  go_ret
  exact ⟨rfl, rfl⟩
theorem info_u8 : (Tryz.prog.info? 5).map (fun i => (i.zero, i.size, i.bytes)) = some (some (.int .u8 0), 1, 1) := by kernel_rfl
def u8v (c : UInt8) : Value := .int .u8 (c.toNat : Int)
theorem conv_back {P : Program} {src dst e : TypeId} (hs : P.underlying src = some (.slice e)) (he : P.underlying e = some (.int .u8)) (hd : P.underlying dst = some .string) {w : World} {base g n cap : Nat} {cs : List Value} {l : List UInt8}
    (h : w.ownsRow base e 1 (.slice (some ⟨g, 0, none⟩) n cap) n cs) (hc : cs = l.map u8v) (hl : l.length = n) : (convert src dst (.slice (some ⟨g, 0, none⟩) n cap)).run P w = .ok (.string (ofL l)) w := by
  subst hl hc
  refine run_convert_bytes_back w src dst e ⟨g, 0, none⟩ cap l hs he hd (fun j hj => ?_)
  rw [Addr.add_lit, Nat.zero_add, h.cellAt j (by omega)]
  simp [u8v, hj]
theorem timesL_len (a b : List UInt8) : (timesL a b).length = b.length := by simp [timesL]
theorem times_snoc {a b : ByteArray} {k : Nat} (hk : k < b.size) {m : Nat} (hm : m = b[k].toNat - 49) (hl : m < a.size) : timesL a.data.toList (b.data.toList.take (k + 1)) = timesL a.data.toList (b.data.toList.take k) ++ [a[m]] := by
  subst hm
  rw [timesL_take (by rw [bytes_len]; exact hk), List.getD_eq_getElem?_getD, bytes_get b k hk, List.getElem?_eq_getElem (by rw [bytes_len]; exact hl)]
  rfl
set_option maxHeartbeats 1000000 in
theorem times_any (a b : ByteArray) (w : World) (ha : a.size ≤ 1048576) (hb : b.size ≤ 1048576) (hin : ∀ i (h : i < b.size), 49 ≤ b[i].toNat ∧ b[i].toNat < 49 + a.size) :
    Calls Tryz.prog 163 #[.string a, .string b] w fun e w' => e = .returned (.string (timesB a b)) ∧ Below w.heap.size w w' := by
  obtain ⟨i0, hi0, hz0, hs0, hb0⟩ := info_parts info_u8
  have Hin := Lib.hid hin
  have HT := Lib.hid (show timesB a b = ofL (timesL a.data.toList b.data.toList) from rfl)
  clear hin
  go_enter Tryz.func163, Tryz.ntmps163
  go_wp2_with (at_make; refine wpList_make_full _ rfl _ _ _ rfl w.heap.size 5 i0 _ 1 Tryz.underlying22 hi0 hz0 hs0 _ _ _ _ b.size rfl rfl rfl rfl (by rw [hb0]; omega) (by unfold maxLen; omega) (Nat.le_refl _) ?_; intro w1 hown1 hgr1)
  have hB1 := bw_gr (Below.refl _ _) hgr1
  go_loopw [12] (fun i wr => ∃ k : Nat, k ≤ b.size ∧ i = .int .i64 k ∧ Below w.heap.size w wr ∧ ∃ cs : List Value, wr.ownsRow w.heap.size 5 1 (.slice (some ⟨w.heap.size, 0, none⟩) b.size b.size) b.size cs ∧ cs.take k = (timesL a.data.toList (b.data.toList.take k)).map u8v)
    (fun i _ => b.size - (intOf i).toNat)
  case atStart => exact ⟨0, by omega, rfl, hB1, _, hown1, by simp [timesL]⟩
  case round =>
    obtain ⟨k, hk, rfl, hB, cs, hown, hcs⟩ := hrel
    have Hcs := Lib.hid hcs
    clear hcs
    by_cases hlt : k < b.size
    · obtain ⟨y0, hy0⟩ := own_some hown (j := k) (by omega)
      have hf := hown.frozenAt k
      have hr := Hin.out k hlt
      obtain ⟨m, hm⟩ : ∃ m, m = b[k].toNat - 49 := ⟨_, rfl⟩
      have hml : m < a.size := by omega
      have hbm : (b[k].toNat : Int) = m + 49 := by omega
      have Hsn := Lib.hid (times_snoc hlt hm hml)
      have hlt8 := b[k].toNat_lt
      have hw8 : IntKind.u8.wrap ((m : Int) + 49 - 49) = m := by rw [IntWalk.u8_in _ ⟨by omega, by omega⟩]; omega
      have Hr := Lib.hid hr
      clear hm hr
      go_wp2_with fail
      refine ⟨⟨k + 1, by omega, by go_num, grow_set hB (Nat.le_refl _) _, _, own_set hown _ _, ?_⟩, by simp [intOf]; omega⟩
      rw [take_set_last (by rw [hown.1]; omega), Hcs.out, Hsn.out]
      simp [u8v]
    · obtain rfl : k = b.size := by omega
      rw [List.take_of_length_le (by rw [hown.1]; omega), List.take_of_length_le (by rw [bytes_len]; exact Nat.le_refl _)] at Hcs
      have hcv := conv_back Tryz.underlying22 Tryz.underlying5 Tryz.underlying9 hown Hcs.out (by rw [timesL_len, bytes_len])
      go_wp2_with fail
      go_ret
      exact ⟨ret_str HT.out.symm, hB⟩
theorem ext_app {a : ByteArray} {m : Nat} (h : m < a.size) (s : List UInt8) : ofL s ++ a.extract m (m + 1) = ofL (s ++ [a[m]]) := by
  apply bytes_ext
  rw [ofL_list, show (ofL s ++ a.extract m (m + 1)).data.toList = (ofL s).data.toList ++ (a.extract m (m + 1)).data.toList by simp [ByteArray.data_append], ofL_list, ← bytes_toList, ext_one h]
set_option maxHeartbeats 1000000 in
theorem l1Times_any (a b : ByteArray) (w : World) (ha : a.size ≤ 1048576) (hb : b.size ≤ 1048576) (hin : ∀ i (h : i < b.size), 49 ≤ b[i].toNat ∧ b[i].toNat < 49 + a.size) :
    Calls Tryz.prog 145 #[.string a, .string b] w fun e w' => e = .returned (.string (timesB a b)) ∧ w = w' := by
  have Hin := Lib.hid hin
  have HT := Lib.hid (show timesB a b = ofL (timesL a.data.toList b.data.toList) from rfl)
  have hz : (⟨#[]⟩ : ByteArray) = ofL (timesL a.data.toList (b.data.toList.take 0)) := rfl
  have Hz := Lib.hid hz
  clear hin hz
  go_enter Tryz.func145, Tryz.ntmps145
  go_wp2_with fail
  go_loop [5, 6] (fun o i => ∃ k : Nat, ∃ s : ByteArray, k ≤ b.size ∧ i = .int .i64 ((k : Int) + 1) ∧ o = .string s ∧ s.size = k ∧ s = ofL (timesL a.data.toList (b.data.toList.take k))) (fun _ i => b.size + 1 - (intOf i).toNat)
  case atStart => exact ⟨0, _, by omega, rfl, rfl, rfl, Hz.out⟩
  case round =>
    obtain ⟨k, s, hk, rfl, rfl, hsz, hs⟩ := hrel
    have Hs := Lib.hid hs
    clear hs
    by_cases hlt : k < b.size
    · have hr := Hin.out k hlt
      obtain ⟨m, hm⟩ : ∃ m, m = b[k].toNat - 49 := ⟨_, rfl⟩
      have hml : m < a.size := by omega
      have hat := Lib.hid (l1At_any b k w (by unfold maxLen; omega) hlt (by omega))
      have hbm : (b[k].toNat : Int) - 48 = m + 1 := by omega
      rw [hbm] at hat
      have Hsn := Lib.hid (times_snoc hlt hm hml)
      have Hap := Lib.hid (ext_app hml)
      have Hr := Lib.hid hr
      have Hsz := Lib.hid hsz
      have hsz' : s.size ≤ 1048576 := by omega
      have hex : (a.extract m (m + 1)).size = 1 := by rw [ByteArray.size_extract]; omega
      have Hex := Lib.hid hex
      have hex' : (a.extract m (m + 1)).size ≤ 1 := by omega
      clear hm hr hbm hsz hex
      go_wp2_with (go_at_call 176; refine (hat.out).mono ?_; rintro e w' ⟨rfl, rfl⟩)
      refine ⟨⟨k + 1, _, by omega, by go_num, rfl, ?_, ?_⟩, by simp [intOf]; omega⟩
      · rw [ByteArray.size_append, Hsz.out, Hex.out]
      · rw [Hs.out, Hap.out, Hsn.out]
    · obtain rfl : k = b.size := by omega
      go_wp2_with fail
      go_ret
      exact ⟨ret_str (by rw [HT.out, Hs.out, List.take_of_length_le (by rw [bytes_len]; exact Nat.le_refl _)]), rfl⟩
end Go.Proofs.YtofpjbdelmmclaaGreatDoor
