/- Contracts: the text of a study, both sides. -/
import Derived.Test.YtofpjbdelmmclaaGreatDoorPk21
import Derived.Test.YtofpjbdelmmclaaGreatDoorPk2
import Derived.Shelf.SlSortCmp.NoneTotal
import Derived.Test.YtofpjbdelmmclaaGreatDoorPk18
import Derived.Test.YtofpjbdelmmclaaGreatDoorPk14
import Derived.Test.YtofpjbdelmmclaaGreatDoorPk5
namespace Go.Proofs.YtofpjbdelmmclaaGreatDoor
open Go Go.RowKit
set_option linter.unusedVariables false
set_option linter.unusedSimpArgs false

def opt (c : Bool) (x t : ByteArray) : ByteArray := if c then t ++ x else t
def leadW : ByteArray := ⟨#[108, 101, 97, 100, 115, 32]⟩
def rowsW : ByteArray := ⟨#[44, 32, 114, 111, 119, 115, 32]⟩
def roundW : ByteArray := ⟨#[44, 32, 114, 111, 117, 110, 100]⟩
def trueW : ByteArray := ⟨#[44, 32, 116, 114, 117, 101]⟩
def evenW : ByteArray := ⟨#[44, 32, 101, 118, 101, 110]⟩
def scoreW : ByteArray := ⟨#[44, 32, 115, 99, 111, 114, 101, 32]⟩
def okS (a b s : Int) : Bool := decide (1 ≤ a ∧ a ≤ 60) && decide (1 ≤ b ∧ b ≤ 800) && decide (-1000000 ≤ s ∧ s ≤ 1000000)
def studyT (a b : Int) (p q r : Bool) (s : Int) : ByteArray := opt r evenW (opt q trueW (opt p roundW (leadW ++ numT a ++ rowsW ++ numT b))) ++ scoreW ++ numT s
def stT (a b : Int) (p q r : Bool) (s : Int) : ByteArray := if okS a b s then studyT a b p q r s else ⟨#[]⟩
theorem okS_no1 {a b s : Int} (h : ¬ (1 ≤ a ∧ a ≤ 60)) : okS a b s = false := by unfold okS; rw [decide_eq_false h]; rfl
theorem okS_no2 {a b s : Int} (h : ¬ (1 ≤ b ∧ b ≤ 800)) : okS a b s = false := by unfold okS; rw [decide_eq_false h, Bool.and_false]; rfl
theorem okS_no3 {a b s : Int} (h : ¬ (-1000000 ≤ s ∧ s ≤ 1000000)) : okS a b s = false := by unfold okS; rw [decide_eq_false h, Bool.and_false]
theorem okS_yes {a b s : Int} (h1 : 1 ≤ a ∧ a ≤ 60) (h2 : 1 ≤ b ∧ b ≤ 800) (h3 : -1000000 ≤ s ∧ s ≤ 1000000) : okS a b s = true := by unfold okS; rw [decide_eq_true h1, decide_eq_true h2, decide_eq_true h3]; rfl
theorem stT_no {a b s : Int} {p q r : Bool} (h : okS a b s = false) : stT a b p q r s = ⟨#[]⟩ := by unfold stT; rw [h]; rfl
theorem stT_yes {a b s : Int} {p q r : Bool} (h : okS a b s = true) : stT a b p q r s = studyT a b p q r s := by unfold stT; rw [h]; rfl
theorem l1Num_int (a : Int) (w : World) (h0 : 0 ≤ a) (h1 : a ≤ 1000000000000) : Calls Tryz.prog 63 #[.int .i64 a] w fun e w' => e = .returned (.string (numT a)) ∧ Below w.heap.size w w' := by
  obtain ⟨n, rfl⟩ : ∃ n : Nat, a = n := ⟨a.toNat, by omega⟩
  exact l1Num_any n w (by omega)
def zs (k : Nat) : ByteArray := ⟨(List.replicate k (48 : UInt8)).toArray⟩
theorem zs_size (k : Nat) : (zs k).size = k := by show (List.replicate k (48 : UInt8)).toArray.size = k; simp
theorem zs_one : numT 0 = zs 1 := (numT_small (n := 0) (by omega)).trans rfl
theorem zs_succ (k : Nat) : (⟨#[48]⟩ : ByteArray) ++ zs k = zs (k + 1) := by
  apply ByteArray.ext
  simp [zs, List.replicate_succ]
theorem mill : numT 1000000 = numT 1 ++ zs 6 := by
  have e1 : numT 1000000 = numT 100000 ++ digit 1000000 := numT_big (n := 1000000) (by omega)
  have e2 : numT 100000 = numT 10000 ++ digit 100000 := numT_big (n := 100000) (by omega)
  have e3 : numT 10000 = numT 1000 ++ digit 10000 := numT_big (n := 10000) (by omega)
  have e4 : numT 1000 = numT 100 ++ digit 1000 := numT_big (n := 1000) (by omega)
  have e5 : numT 100 = numT 10 ++ digit 100 := numT_big (n := 100) (by omega)
  have e6 : numT 10 = numT 1 ++ digit 10 := numT_big (n := 10) (by omega)
  rw [e1, e2, e3, e4, e5, e6]
  apply ByteArray.ext
  apply Array.toList_inj.1
  simp [zs, digit, List.replicate]
theorem numT_neg {n : Int} (h : n < 0) : numT n = (⟨#[45]⟩ : ByteArray) ++ numT (-n) := by
  unfold numT Lib.itoa
  rw [if_pos h, if_neg (by omega), show (-n).toNat = n.natAbs from by omega]
  apply ByteArray.ext
  simp
end Go.Proofs.YtofpjbdelmmclaaGreatDoor

/- Nothing is laid here. -/

/- The lines of a proof, sorted by their rows: slices.SortFunc at structs. -/
namespace Go.Proofs.YtofpjbdelmmclaaGreatDoor
open Go Go.RowKit Go.Sort Go.Lib
set_option linter.unusedVariables false
set_option linter.unusedSimpArgs false

/-- Where a row stands first. -/
def idxB (r : ByteArray) : List ByteArray → Nat
  | [] => 0
  | x :: l => if x = r then 0 else idxB r l + 1
theorem idxB_get : ∀ {l : List ByteArray}, l.Nodup → ∀ k (hk : k < l.length), idxB l[k] l = k
  | x :: l, h, 0, _ => by simp [idxB]
  | x :: l, h, k + 1, hk => by
    rw [List.nodup_cons] at h
    have hk' : k < l.length := by simpa using hk
    have hne : x ≠ l[k] := fun e => h.1 (by rw [e]; exact List.getElem_mem hk')
    rw [idxB]
    show (if x = l[k] then 0 else idxB l[k] l + 1) = k + 1
    rw [if_neg hne, idxB_get h.2 k hk']
/-- The cells of a row's line: the row, the lead, the place in the lead. -/
def encL (N : Nat) (rows : List ByteArray) (r : ByteArray) : List Value := [.string r, .int .i64 ((idxB r rows / N : Nat) : Int), .int .i64 ((idxB r rows % N : Nat) : Int)]
theorem encL_len (N : Nat) (rows : List ByteArray) (r : ByteArray) : (encL N rows r).length = 3 := rfl
theorem encL_one (N : Nat) (rows : List ByteArray) (r : ByteArray) : ∀ v ∈ encL N rows r, v.oneCell' = true := by
  intro v hv
  unfold encL at hv
  simp only [List.mem_cons, List.not_mem_nil, or_false] at hv
  rcases hv with rfl | rfl | rfl <;> rfl
def encU (N : Nat) (rows : List ByteArray) (l : List UInt8) : List Value := encL N rows (ofL l)
theorem cmp_neg : ∀ (x y : List UInt8), compareBytes x y < 0 ↔ x < y
  | [], [] => by simp [compareBytes]
  | [], _ :: _ => by simp [compareBytes]
  | _ :: _, [] => by simp [compareBytes]
  | a :: x, b :: y => by
    unfold compareBytes
    rw [List.cons_lt_cons_iff]
    by_cases h1 : a < b
    · rw [if_pos h1]; simp [h1]
    · rw [if_neg h1]
      by_cases h2 : b < a
      · rw [if_pos h2]
        have hne : a ≠ b := fun e => by rw [e] at h2; exact absurd h2 (UInt8.lt_irrefl b)
        simp [h1, hne]
      · rw [if_neg h2]
        have he : a = b := by
          have := UInt8.le_antisymm (UInt8.not_lt.1 h2) (UInt8.not_lt.1 h1)
          exact this
        rw [cmp_neg x y]
        simp [h1, he]
theorem lt_cmp (x y : List UInt8) : ltOf compareBytes x y = decide (x < y) := by
  unfold ltOf
  rw [Bool.eq_iff_iff, decide_eq_true_eq, decide_eq_true_eq]
  exact cmp_neg x y
theorem swo_cmp : SWO (ltOf compareBytes) where
  irrefl x := by rw [lt_cmp]; exact decide_eq_false (List.lt_irrefl x)
  trans x y z h1 h2 := by
    rw [lt_cmp] at *
    rw [decide_eq_true_eq] at *
    exact List.lt_trans h1 h2
  ntrans x y z h1 h2 := by
    rw [lt_cmp] at *
    rw [decide_eq_false_iff_not] at *
    rw [List.not_lt] at *
    exact List.le_trans h2 h1
theorem tot_cmp (x y : List UInt8) (h1 : ltOf compareBytes x y = false) (h2 : ltOf compareBytes y x = false) : x = y := by
  rw [lt_cmp, decide_eq_false_iff_not, List.not_lt] at h1 h2
  exact List.le_antisymm h2 h1
theorem le_cmp : (fun x y : List UInt8 => !ltOf compareBytes y x) = fun x y => decide (x ≤ y) := by
  funext x y
  rw [lt_cmp]
  by_cases h : y < x
  · rw [decide_eq_true h, decide_eq_false (List.not_le.2 h)]; rfl
  · rw [decide_eq_false h, decide_eq_true (List.not_lt.1 h)]; rfl
theorem heap_sortedK {w : World} {g n : Nat} {os : Array Obj} {cur : Array Value} {e : TypeId} {fr : Nat × Nat} (F : Array Value) (hb : w.heap[g]? = some (.cells cur e fr)) :
    (grow (putRow id (Sort.ahead w n) g 0 F) os).heap[g]? = some (.cells (putCells id 0 F cur) e fr) := by
  have hg : g < w.heap.size := (Array.getElem?_eq_some_iff.1 hb).1
  rw [heap_grow_old _ _ (by simpa using hg)]
  simp [putRow, mapBlock, Sort.ahead, Array.getElem?_modify, hb, onCells]
theorem grownBy_sortedK {w : World} {g n : Nat} {os : Array Obj} (F : Array Value) : w.grownBy (grow (putRow id (Sort.ahead w n) g 0 F) os) (some g) := by
  refine ⟨rfl, rfl, rfl, by simp, fun k hk hne => ?_⟩
  rw [heap_grow_old _ _ (by simpa using hk)]
  have : g ≠ k := fun e => hne (by rw [e])
  simp [putRow, mapBlock, Sort.ahead, Array.getElem?_modify, this]
theorem take_putCellsK (cur F : Array Value) (h : F.size ≤ cur.size) : (putCells id 0 F cur).toList.take F.size = F.toList := by
  apply List.ext_getElem?
  intro j
  by_cases hj : j < F.size
  · rw [List.getElem?_take_of_lt hj, Array.getElem?_toList]
    simp [putCells, hj, show j < cur.size by omega]
  · rw [List.getElem?_take_eq_none (by omega), List.getElem?_eq_none (by simp; omega)]
theorem flat_list {N : Nat} {rows l : List ByteArray} : (flatK (encU N rows) 3 (l.map (·.data.toList)).toArray).toList = l.flatMap (encL N rows) := by
  apply List.ext_getElem?
  intro t
  have hs : (flatK (encU N rows) 3 (l.map (·.data.toList)).toArray).toList.length = l.length * 3 := by simp
  have hs2 : (l.flatMap (encL N rows)).length = l.length * 3 := flat_length (C := encL N rows) (sz := 3) (fun x _ => encL_len N rows x)
  by_cases ht : t < l.length * 3
  · have hi : t / 3 < l.length := by omega
    have h1 := get_flatK (encU N rows) 3 (l.map (·.data.toList)).toArray t (by simpa using ht)
    have h2 := flat_get (C := encL N rows) (sz := 3) (fun x _ => encL_len N rows x) (List.getElem?_eq_getElem hi) (Nat.mod_lt t (by omega : 0 < 3))
    have e : t / 3 * 3 + t % 3 = t := by omega
    rw [e] at h2
    rw [h2, List.getElem?_eq_getElem (by rw [hs]; exact ht)]
    have h3 : t % 3 < (encL N rows l[t / 3]).length := by rw [encL_len]; omega
    rw [List.getElem?_eq_getElem h3]
    congr 1
    have h4 : (l.map (·.data.toList)).toArray[t / 3]! = l[t / 3].data.toList := by simp [hi]
    rw [h4] at h1
    have h5 : encU N rows l[t / 3].data.toList = encL N rows l[t / 3] := by unfold encU; rw [ofL_eq]
    rw [h5] at h1
    have h6 : (encL N rows l[t / 3])[t % 3]! = (encL N rows l[t / 3])[t % 3] := by rw [getElem!_pos]
    rw [h6] at h1
    rw [← h1]
    have h7 : t < (flatK (encU N rows) 3 (l.map (·.data.toList)).toArray).size := by simpa using ht
    rw [getElem!_pos _ t h7]
    rfl
  · rw [List.getElem?_eq_none (by rw [hs]; omega), List.getElem?_eq_none (by rw [hs2]; omega)]
end Go.Proofs.YtofpjbdelmmclaaGreatDoor

/- Contract: the making of a proof, the program's. -/
namespace Go.Proofs.YtofpjbdelmmclaaGreatDoor
open Go Go.RowKit
set_option linter.unusedVariables false
set_option linter.unusedSimpArgs false

/-- Is there a proof? -/
def proofB (m : Mt) (k : Cl) (t : ByteArray) : Bool := okT m k t && (decide (rowsT m k t).Nodup && decide (endT m k t = roundsB m.stage.toNat))
/-- The two slices of a proof. -/
def ProofAt (W : World) (base : Nat) (m : Mt) (k : Cl) (t : ByteArray) (hv lv : Value) : Prop :=
  if proofB m k t then W.ownsRow base 9 1 hv (t.size + 1) ((headsT m k t).map Value.string) ∧ W.ownsRow base 76 3 lv (rowsT m k t).length ((sortB (rowsT m k t)).flatMap (encL m.l.length (rowsT m k t)))
  else hv = .slice none 0 0 ∧ lv = .slice none 0 0
theorem sl_new3 (w : World) (a b c : Value) (e : TypeId) : Sl (w.alloc (.cells #[a, b, c] e)) 3 (.slice (some ⟨w.heap.size, 0, none⟩) 1 1) 1 [a, b, c] :=
  sl_of_own (own_of_heap (base := 0) (heap_new w _) (Nat.zero_le _) (by unfold maxLen; omega) rfl)
theorem rows_size {m : Mt} {k : Cl} {t : ByteArray} (h : okT m k t = true) : (rowsT m k t).length ≤ 800 := by
  unfold okT at h
  rw [Bool.and_eq_true, decide_eq_true_eq] at h
  rw [rowsT_len]; exact h.2
theorem rows_pos {m : Mt} {k : Cl} {t : ByteArray} {n : Nat} (hg : MGood m n) (ht : 1 ≤ t.size) : 1 ≤ (rowsT m k t).length := by
  rw [rowsT_len]; exact Nat.mul_pos ht hg.len.1
theorem rowsT_in {m : Mt} {k : Cl} {n : Nat} (h : MGood m n) (t : ByteArray) : ∀ x ∈ rowsT m k t, Inv n x := by
  intro x hx
  unfold rowsT rowsB at hx
  obtain ⟨y, hy, hx⟩ := List.mem_flatMap.1 hx
  exact lead_inv h.hi _ (headsT_inv h t y (List.mem_of_mem_take hy)) x hx
theorem info_line : (Tryz.prog.info? 76).map (fun i => (i.zero, i.size, i.bytes)) = some (some (.agg #[.string ⟨#[]⟩, .int .i64 0, .int .i64 0]), 3, 32) := by kernel_rfl
end Go.Proofs.YtofpjbdelmmclaaGreatDoor

/- Contracts: the making of a proof, the reference's. -/
namespace Go.Proofs.YtofpjbdelmmclaaGreatDoor
open Go Go.RowKit
set_option linter.unusedVariables false
set_option linter.unusedSimpArgs false

set_option maxHeartbeats 1000000 in
theorem specGoodCalls_any (m : Mt) (v : Value) (k : Cl) (w : World) (h : MethAt w m v) (hs : MtSmall m) (hk : ClSmall k) : Calls Tryz.prog 142 #[m.v v, k.v] w fun e w' => e = .returned (.bool (callsB m k)) ∧ Below w.heap.size w w' := by
  have HM := Lib.hid (fun W (hW : Below w.heap.size w W) => l8Good_any m v k W (h.to hW) hs hk)
  obtain ⟨A, q, hv⟩ := h.form
  subst hv
  obtain ⟨p, hp⟩ : ∃ p, p = callsB m k := ⟨_, rfl⟩
  rw [← hp] at HM ⊢
  clear h hp
  unfold Mt.v Cl.v at *
  go_enter Tryz.func142, Tryz.ntmps142
  go_wp2_with fail
  refine box2 (C := fun W => Calls _ _ _ W _) ?_
  intro wb hw k1 k2 hB0
  have R1 := boxRule k1
  have R2 := boxRule k2
  clear k1 k2
  refine (HM.out _ hw).mono ?_; rintro e w1 ⟨rfl, hb1⟩
  go_wp2_with fail
  go_ret
  exact ⟨rfl, bw_to hw hb1⟩
set_option maxHeartbeats 1000000 in
theorem specGoodTouch_any (s : ByteArray) (w : World) (hs : s.size ≤ maxLen) : Calls Tryz.prog 143 #[.string s] w fun e w' => e = .returned (.bool (touchB s.data.toList)) ∧ w = w' := by
  have H := Lib.hid (fun W => l9Good_any s W hs)
  obtain ⟨p, hp⟩ : ∃ p, p = touchB s.data.toList := ⟨_, rfl⟩
  simp only [← hp] at H ⊢
  clear hp
  go_enter Tryz.func143, Tryz.ntmps143
  go_wp2_with (go_at_call 134; refine (H.out _).mono ?_; rintro e w' ⟨rfl, rfl⟩)
  go_ret
  exact ⟨rfl, rfl⟩
theorem asked_and {m : Mt} {k : Cl} : (methB m && callsB m k) = callsB m k := by
  unfold callsB
  cases methB m <;> simp
set_option maxHeartbeats 2000000 in
theorem l20Asked_any (m : Mt) (v : Value) (k : Cl) (t : ByteArray) (w : World) (h : MethAt w m v) (hs : MtSmall m) (hk : ClSmall k) (ht : t.size ≤ maxLen) : Calls Tryz.prog 104 #[m.v v, k.v, .string t] w fun e w' => e = .returned (.bool (askT m k t)) ∧ Below w.heap.size w w' := by
  have HG := Lib.hid (fun W (hW : Below w.heap.size w W) => l4Good_any m v W (h.to hW) hs)
  have HM := Lib.hid (fun W (hW : Below w.heap.size w W) => specGoodCalls_any m v k W (h.to hW) hs hk)
  have HT := Lib.hid (fun W => specGoodTouch_any t W ht)
  have HD : Hid (askT m k t = ((methB m && callsB m k) && touchB t.data.toList)) := Lib.hid (by rw [asked_and]; rfl)
  obtain ⟨A, q, hv⟩ := h.form
  subst hv
  obtain ⟨p, hp⟩ : ∃ p, p = callsB m k := ⟨_, rfl⟩
  obtain ⟨o, ho⟩ : ∃ p, p = methB m := ⟨_, rfl⟩
  obtain ⟨u, hu⟩ : ∃ p, p = touchB t.data.toList := ⟨_, rfl⟩
  simp only [← hp, ← ho, ← hu] at HG HM HT HD
  rw [HD.out]
  clear h hp ho hu HD
  unfold Mt.v Cl.v at *
  go_enter Tryz.func104, Tryz.ntmps104
  go_wp2_with fail
  refine box2 (C := fun W => Calls _ _ _ W _) ?_
  intro wb hw k1 k2 hB0
  have R1 := boxRule k1
  have R2 := boxRule k2
  clear k1 k2
  refine (HG.out _ hw).mono ?_; rintro e w1 ⟨rfl, hb1⟩
  have hw1 := bw_to hw hb1
  cases o
  · go_wp2_with fail
    go_ret
    exact ⟨rfl, hw1⟩
  · go_wp2_with fail
    refine (HM.out _ hw1).mono ?_; rintro e w2 ⟨rfl, hb2⟩
    have hw2 := bw_to hw1 hb2
    cases p
    · go_wp2_with fail
      go_ret
      exact ⟨rfl, hw2⟩
    · go_wp2_with (go_at_call 143; refine (HT.out _).mono ?_; rintro e w' ⟨rfl, rfl⟩)
      go_ret
      exact ⟨by simp, hw2⟩
end Go.Proofs.YtofpjbdelmmclaaGreatDoor

/- The making of a proof, the reference's: plain facts, a row of numbers of the call's own. -/
namespace Go.Proofs.YtofpjbdelmmclaaGreatDoor
open Go Go.RowKit
set_option linter.unusedVariables false
set_option linter.unusedSimpArgs false

theorem scan_perm {n : Nat} (hn : n ≤ 8) : ∀ (cs : List ByteArray) {r : ByteArray}, RowIn n r → PermR n r → ∀ x ∈ scanB r cs, PermR n x
  | [], r, hi, hr, x, hx => by rw [List.mem_singleton.1 hx]; exact hr
  | c :: cs, r, hi, hr, x, hx => by
    rw [scanB] at hx
    rcases List.mem_cons.1 hx with rfl | hx
    · exact hr
    · exact scan_perm hn cs (apply_in hn hi c) (run_perm hn [c] hi hr) x hx
theorem lead_permL {n : Nat} (hn : n ≤ 8) (cs : List ByteArray) {r : ByteArray} (hi : RowIn n r) (hr : PermR n r) : ∀ x ∈ leadB r cs, PermR n x := fun x hx => scan_perm hn cs hi hr x (List.mem_of_mem_take hx)
theorem heads_perm {n : Nat} (hn : n ≤ 8) {f : UInt8 → ByteArray} (hf : ∀ c, PermR n (f c)) : ∀ (t : List UInt8) {h : ByteArray}, PermR n h → ∀ x ∈ headsB f h t, PermR n x
  | [], h, hh, x, hx => by rw [List.mem_singleton.1 hx]; exact hh
  | c :: t, h, hh, x, hx => by
    rw [headsB] at hx
    rcases List.mem_cons.1 hx with rfl | hx
    · exact hh
    · exact heads_perm hn hf t (PermR.times hn hh (hf c)) x hx
theorem headsT_perm {m : Mt} {k : Cl} {n : Nat} (h : MGood m n) (t : ByteArray) : ∀ x ∈ headsT m k t, PermR n x := by
  rw [headsT_n h.st]
  exact heads_perm h.hi (fun c => run_perm h.hi _ (rounds_in h.hi) (PermR.rounds h.hi)) _ (PermR.rounds h.hi)
theorem rowsT_perm {m : Mt} {k : Cl} {n : Nat} (h : MGood m n) (t : ByteArray) : ∀ x ∈ rowsT m k t, PermR n x := by
  intro x hx
  unfold rowsT rowsB at hx
  obtain ⟨y, hy, hx⟩ := List.mem_flatMap.1 hx
  have hy' := List.mem_of_mem_take hy
  exact lead_permL h.hi _ (headsT_in h t y hy') (headsT_perm h t y hy') x hx
theorem rows_get {l : List ByteArray} : ∀ (hs : List ByteArray) (i j : Nat) (hi : i < hs.length), j < l.length → (rowsB l hs)[i * l.length + j]? = (leadB hs[i] l)[j]?
  | h :: hs, 0, j, _, hj => by
    unfold rowsB
    rw [List.flatMap_cons, List.getElem?_append_left (by rw [lead_len]; omega)]
    simp
  | h :: hs, i + 1, j, hi, hj => by
    have ih := rows_get hs i j (by simpa using hi) hj
    unfold rowsB at ih ⊢
    rw [List.flatMap_cons, List.getElem?_append_right (by rw [lead_len, Nat.succ_mul]; omega), lead_len]
    have e : (i + 1) * l.length + j - l.length = i * l.length + j := by rw [Nat.succ_mul]; omega
    rw [e]
    exact ih
/-- A row of numbers of the call's own. -/
def SI (W : World) (base g N : Nat) (f : Nat → Int) : Prop := W.ownsRow base 3 1 (.slice (some ⟨g, 0, none⟩) N N) N ((List.range N).map fun i => Value.int .i64 (f i))
theorem SI.cell {W : World} {base g N : Nat} {f : Nat → Int} (h : SI W base g N f) {i : Nat} (hi : i < N) : W.cell? ⟨g, i, none⟩ = some (.int .i64 (f i)) := by
  rw [h.cellAt i (by omega), List.getElem?_map, List.getElem?_eq_getElem (by simpa using hi)]; simp
theorem SI.free {W : World} {base g N : Nat} {f : Nat → Int} (h : SI W base g N f) (i : Nat) : W.frozen? ⟨g, i, none⟩ = false := h.frozenAt i
theorem SI.to {W W' : World} {base g N : Nat} {f : Nat → Int} (h : SI W base g N f) (hb : Below W.heap.size W W') : SI W' base g N f := own_to h hb
theorem SI.low {W W' : World} {base g N B : Nat} {f : Nat → Int} (h : SI W base g N f) (hb : Below B W W') (hg : g < B) : SI W' base g N f := own_blk h (hb.block g hg)
theorem SB.low {W W' : World} {base g N B : Nat} {f : Nat → Bool} (h : SB W base g N f) (hb : Below B W W') (hg : g < B) : SB W' base g N f := own_blk h (hb.block g hg)
theorem SB.past {W : World} {base g N g' : Nat} {f : Nat → Bool} (h : SB W base g N f) (hne : g ≠ g') (j : Nat) (u : Value) : SB (W.setCell ⟨g', j, none⟩ u) base g N f := own_set_past' h (.inr (fun e => hne (by injection e))) j u
theorem SI.past {W : World} {base g N g' : Nat} {f : Nat → Int} (h : SI W base g N f) (hne : g ≠ g') (j : Nat) (u : Value) : SI (W.setCell ⟨g', j, none⟩ u) base g N f := own_set_past' h (.inr (fun e => hne (by injection e))) j u
theorem SI.set {W : World} {base g N : Nat} {f : Nat → Int} (h : SI W base g N f) {i : Nat} (hi : i < N) (v : Int) : SI (W.setCell ⟨g, i, none⟩ (.int .i64 v)) base g N (fun j => if j = i then v else f j) := by
  have h2 := own_set h i (.int .i64 v)
  unfold SI
  have e : ((List.range N).map fun j => Value.int .i64 (f j)).set i (.int .i64 v) = (List.range N).map fun j => Value.int .i64 (if j = i then v else f j) := by
    apply List.ext_getElem?
    intro j
    rw [List.getElem?_set, List.getElem?_map, List.getElem?_map]
    simp only [List.length_map, List.length_range]
    by_cases hij : i = j
    · subst hij
      rw [if_pos rfl, if_pos hi, List.getElem?_eq_getElem (by simpa using hi)]
      simp
    · rw [if_neg hij]
      by_cases hj : j < N
      · rw [List.getElem?_eq_getElem (by simpa using hj)]
        simp only [Option.map_some, List.getElem_range]
        rw [if_neg (fun e => hij e.symm)]
      · rw [List.getElem?_eq_none (by simpa using hj)]; rfl
  rw [← e]
  exact h2
/-- Each row met so far has its lead and its place laid down. -/
def LeadOf (N : Nat) (R : List ByteArray) (q : Nat) (f : Nat → Int) : Prop := ∀ p (hp : p < R.length), p < q → f (placeB R[p]) = ((p / N * 40 + p % N : Nat) : Int)
theorem LeadOf.zero (N : Nat) (R : List ByteArray) (f : Nat → Int) : LeadOf N R 0 f := fun p _ h => absurd h (Nat.not_lt_zero _)
theorem LeadOf.put {n N : Nat} {R : List ByteArray} {q : Nat} {f : Nat → Int} (h : LeadOf N R q f) (hR : ∀ x ∈ R, PermR n x) (hq : q < R.length) (hn : R[q] ∉ R.take q) : LeadOf N R (q + 1) (fun j => if j = placeB R[q] then ((q / N * 40 + q % N : Nat) : Int) else f j) := by
  intro p hp hpq
  by_cases e : p = q
  · subst e; simp
  · have hne : placeB R[p] ≠ placeB R[q] := fun he => by
      have h2 := place_inj (hR _ (List.getElem_mem hp)) (hR _ (List.getElem_mem hq)) he
      apply hn
      rw [← h2, List.mem_iff_getElem]
      exact ⟨p, by rw [List.length_take]; omega, by rw [List.getElem_take]⟩
    show (if placeB R[p] = placeB R[q] then _ else _) = _
    rw [if_neg hne]
    exact h p hp (by omega)
theorem idxB_mem : ∀ {l : List ByteArray} {r : ByteArray}, r ∈ l → ∃ h : idxB r l < l.length, l[idxB r l] = r
  | x :: l, r, h => by
    by_cases e : x = r
    · subst e; exact ⟨by simp [idxB], by simp [idxB]⟩
    · have hr : r ∈ l := by
        rcases List.mem_cons.1 h with h | h
        · exact absurd h.symm e
        · exact h
      obtain ⟨h1, h2⟩ := idxB_mem hr
      have e2 : idxB r (x :: l) = idxB r l + 1 := by rw [idxB, if_neg e]
      refine ⟨by rw [e2, List.length_cons]; omega, ?_⟩
      simp only [e2, List.getElem_cons_succ]
      exact h2
theorem info_int2 : (Tryz.prog.info? 3).map (fun i => (i.zero, i.size, i.bytes)) = some (some (.int .i64 0), 1, 8) := by kernel_rfl
theorem zeros_si (N : Nat) : (madeCells (Value.int .i64 0).cells N).toList = (List.range N).map fun _ => Value.int .i64 0 := by
  rw [show (Value.int .i64 0).cells = #[.int .i64 0] from rfl, made_rep]
  apply List.ext_getElem?
  intro i
  rw [List.getElem?_map]
  by_cases hi : i < N
  · rw [List.getElem?_eq_getElem (by simpa using hi), List.getElem?_eq_getElem (by simpa using hi)]; simp
  · rw [List.getElem?_eq_none (by simpa using hi), List.getElem?_eq_none (by simpa using hi)]; rfl
end Go.Proofs.YtofpjbdelmmclaaGreatDoor

/- The lines of the made proof are right, and no others are. -/
namespace Go.Proofs.YtofpjbdelmmclaaGreatDoor
open Go Go.RowKit
set_option linter.unusedVariables false
set_option linter.unusedSimpArgs false

/-- The line of a row of a touch whose leads have N rows. -/
def lnOf (N : Nat) (rows : List ByteArray) (r : ByteArray) : Ln := ⟨r, ((idxB r rows / N : Nat) : Int), ((idxB r rows % N : Nat) : Int)⟩
/-- The lines of the proof. -/
def lnsOf (N : Nat) (rows : List ByteArray) : List Ln := (sortB rows).map (lnOf N rows)
theorem lnsOf_len (N : Nat) (rows : List ByteArray) : (lnsOf N rows).length = rows.length := by unfold lnsOf; rw [List.length_map, sortB_len]
theorem sorted_lt {l : List ByteArray} (hs : SortedS l) (hd : l.Nodup) : l.Pairwise (fun a b => nmLt a b = true) := by
  refine (hs.and hd).imp ?_
  rintro a b ⟨h1, h2⟩
  cases e : nmLt a b with
  | true => rfl
  | false => exact absurd (sl_tot e h1) h2
/-- All lines of the made proof are right. -/
theorem lns_ok {N T : Nat} {rows : List ByteArray} (hd : rows.Nodup) (hN : 0 < N) (hT : rows.length = T * N) : ∀ i, i < (lnsOf N rows).length → okLn nmLt rows N T (lnsOf N rows) i = true := by
  intro i hi
  have hs := List.pairwise_iff_getElem.1 (sorted_lt (sortB_sorted rows) ((nodup_perm (sortB_perm rows)).2 hd))
  have hi2 : i < (sortB rows).length := by rw [lnsOf_len] at hi; rw [sortB_len]; exact hi
  have e : (lnsOf N rows)[i]? = some (lnOf N rows (sortB rows)[i]) := by
    unfold lnsOf
    rw [List.getElem?_map, List.getElem?_eq_getElem hi2]; rfl
  rw [okLn_iff e]
  have hm : (sortB rows)[i] ∈ rows := (sortB_perm rows).mem_iff.1 (List.getElem_mem hi2)
  obtain ⟨g1, g2⟩ := idxB_mem hm
  refine ⟨fun h0 p hp => ?_, ?_, ?_, ?_⟩
  · have hi3 : i - 1 < (sortB rows).length := by omega
    have e3 : (lnsOf N rows)[i - 1]? = some (lnOf N rows (sortB rows)[i - 1]) := by
      unfold lnsOf
      rw [List.getElem?_map, List.getElem?_eq_getElem hi3]; rfl
    rw [e3] at hp
    injection hp with hp
    subst hp
    exact hs (i - 1) i hi3 hi2 (by omega)
  · show (((idxB _ rows / N : Nat) : Int)).toNat < T
    rw [Int.toNat_natCast, Nat.div_lt_iff_lt_mul hN, ← hT]
    exact g1
  · show (((idxB _ rows % N : Nat) : Int)).toNat < N
    rw [Int.toNat_natCast]
    exact Nat.mod_lt _ hN
  · show rows[(((idxB _ rows / N : Nat) : Int)).toNat * N + (((idxB _ rows % N : Nat) : Int)).toNat]? = some _
    rw [Int.toNat_natCast, Int.toNat_natCast, Nat.mul_comm, Nat.div_add_mod, List.getElem?_eq_getElem g1, g2]
    rfl
/-- Lines that are all right are those of the made proof. -/
theorem lns_only {N T : Nat} {rows : List ByteArray} {ls : List Ln} (hl : ls.length = rows.length) (hpos : ∀ l ∈ ls, 0 ≤ l.lead ∧ 0 ≤ l.at') (hok : ∀ i, i < ls.length → okLn nmLt rows N T ls i = true) : rows.Nodup ∧ ls = lnsOf N rows := by
  obtain ⟨h1, h2, h3⟩ := lines_right sl_irr (fun x y z => sl_trans) hl hok
  refine ⟨h2, ?_⟩
  have hs : SortedS (ls.map Ln.row) := h3.imp (fun h => sl_asym h)
  have e : ls.map Ln.row = sortB rows := sorted_uniq h1.symm hs
  apply List.ext_getElem?
  intro i
  unfold lnsOf
  rw [← e, List.map_map, List.getElem?_map]
  by_cases hi : i < ls.length
  · rw [List.getElem?_eq_getElem hi]
    have g := (okLn_iff (List.getElem?_eq_getElem hi)).1 (hok i hi)
    obtain ⟨p1, p2⟩ := hpos _ (List.getElem_mem hi)
    obtain ⟨q1, q2⟩ := List.getElem?_eq_some_iff.1 g.row
    have hix := idxB_get h2 _ q1
    rw [q2] at hix
    obtain ⟨row, lead, at', hv⟩ : ∃ row lead at', ls[i] = ⟨row, lead, at'⟩ := ⟨_, _, _, rfl⟩
    rw [hv] at hix p1 p2 g ⊢
    have hp := g.place
    show some (Ln.mk row lead at') = some (lnOf N rows row)
    unfold lnOf
    rw [hix]
    simp only at p1 p2 hp ⊢
    have hN : 0 < N := by omega
    rw [Nat.add_comm, Nat.add_mul_div_right _ _ hN, Nat.div_eq_of_lt hp, Nat.add_mul_mod_self_right, Nat.mod_eq_of_lt hp, Nat.zero_add, Int.toNat_of_nonneg p1, Int.toNat_of_nonneg p2]
  · rw [List.getElem?_eq_none (by omega)]; rfl
end Go.Proofs.YtofpjbdelmmclaaGreatDoor
