/- Rows, changes, leads, touches: a plain account. -/
import Derived.Test.YtofpjbdelmmclaaGreatDoorPk3
namespace Go.Proofs.YtofpjbdelmmclaaGreatDoor
open Go Go.RowKit
set_option linter.unusedVariables false
set_option linter.unusedSimpArgs false

def ofL (l : List UInt8) : ByteArray := ⟨l.toArray⟩
theorem ofL_list (l : List UInt8) : (ofL l).data.toList = l := by simp [ofL]
theorem ofL_size (l : List UInt8) : (ofL l).size = l.length := by simp [ofL, ByteArray.size]
theorem ofL_eq (s : ByteArray) : ofL s.data.toList = s := by cases s; simp [ofL]
theorem bytes_ext {a b : ByteArray} (h : a.data.toList = b.data.toList) : a = b := by rw [← ofL_eq a, ← ofL_eq b, h]
def eight : ByteArray := ⟨#[49, 50, 51, 52, 53, 54, 55, 56]⟩
def roundsB (n : Nat) : ByteArray := eight.extract 0 n
def roundsL (n : Nat) : List UInt8 := (List.range n).map fun i => UInt8.ofNat (49 + i)
theorem rounds_list {n : Nat} (h : n ≤ 8) : (roundsB n).data.toList = roundsL n := by
  have : n = 0 ∨ n = 1 ∨ n = 2 ∨ n = 3 ∨ n = 4 ∨ n = 5 ∨ n = 6 ∨ n = 7 ∨ n = 8 := by omega
  rcases this with rfl | rfl | rfl | rfl | rfl | rfl | rfl | rfl | rfl <;> decide
theorem roundsL_len (n : Nat) : (roundsL n).length = n := by simp [roundsL]
theorem roundsL_get {n i : Nat} (h : i < n) : (roundsL n)[i]? = some (UInt8.ofNat (49 + i)) := by simp [roundsL, h]
theorem rounds_size {n : Nat} (h : n ≤ 8) : (roundsB n).size = n := by
  have := congrArg List.length (rounds_list h)
  simpa [roundsL_len] using this
/-- All bytes lie within a stage's bells. -/
def InL (n : Nat) (l : List UInt8) : Prop := ∀ b ∈ l, 49 ≤ b.toNat ∧ b.toNat < 49 + n
def RowIn (n : Nat) (s : ByteArray) : Prop := s.size = n ∧ InL n s.data.toList
theorem RowIn.len {n : Nat} {s : ByteArray} (h : RowIn n s) : s.data.toList.length = n := by rw [bytes_len]; exact h.1
theorem RowIn.at_ {n : Nat} {s : ByteArray} (h : RowIn n s) {i : Nat} (hi : i < s.size) : 49 ≤ (s[i].toNat : Int) ∧ (s[i].toNat : Int) < 49 + n := by
  have := h.2 s[i] (by rw [← bytes_get s i hi]; exact List.getElem_mem _)
  omega
theorem inL_rounds {n : Nat} (h : n ≤ 8) : InL n (roundsL n) := by
  intro b hb
  unfold roundsL at hb
  obtain ⟨i, hi, rfl⟩ := List.mem_map.1 hb
  have hi := List.mem_range.1 hi
  rw [UInt8.toNat_ofNat_of_lt' (by show 49 + i < 256; omega)]
  omega
theorem rounds_in {n : Nat} (h : n ≤ 8) : RowIn n (roundsB n) := ⟨rounds_size h, by rw [rounds_list h]; exact inL_rounds h⟩
def timesL (a b : List UInt8) : List UInt8 := b.map fun c => a.getD (c.toNat - 49) 0
def timesB (a b : ByteArray) : ByteArray := ofL (timesL a.data.toList b.data.toList)
theorem timesL_in {n m : Nat} {a b : List UInt8} (ha : InL n a) (hl : a.length = m) (hb : InL m b) : InL n (timesL a b) := by
  intro x hx
  unfold timesL at hx
  obtain ⟨c, hc, rfl⟩ := List.mem_map.1 hx
  have hc := hb c hc
  rw [List.getD_eq_getElem?_getD, List.getElem?_eq_getElem (by omega)]
  exact ha _ (List.getElem_mem _)
theorem times_in {n : Nat} {a b : ByteArray} (ha : RowIn n a) (hb : RowIn n b) : RowIn n (timesB a b) :=
  ⟨by unfold timesB; rw [ofL_size]; unfold timesL; rw [List.length_map]; exact hb.len, by unfold timesB; rw [ofL_list]; exact timesL_in ha.2 ha.len hb.2⟩
theorem timesL_take {a b : List UInt8} {k : Nat} (hk : k < b.length) : timesL a (b.take (k + 1)) = timesL a (b.take k) ++ [a.getD (b[k].toNat - 49) 0] := by
  unfold timesL; rw [map_take_succ hk]
/-- Does a change keep a place? -/
def stays (c : List UInt8) (p : Nat) : Bool := c.any fun b => decide (place b = (p : Int))
def swapsW (c : List UInt8) (n p : Nat) : List Nat := if p < n then (if stays c p then swapsW c n (p + 1) else p :: swapsW c n (p + 2)) else []
termination_by n - p
theorem swapsW_stay {c : List UInt8} {n p : Nat} (h : p < n) (hs : stays c p = true) : swapsW c n p = swapsW c n (p + 1) := by
  conv => lhs; rw [swapsW]
  rw [if_pos h, if_pos hs]
theorem swapsW_swap {c : List UInt8} {n p : Nat} (h : p < n) (hs : stays c p = false) : swapsW c n p = p :: swapsW c n (p + 2) := by
  conv => lhs; rw [swapsW]
  rw [if_pos h, if_neg (by simp [hs])]
theorem swapsW_end {c : List UInt8} {n p : Nat} (h : ¬ p < n) : swapsW c n p = [] := by rw [swapsW, if_neg h]
theorem swapsW_mem {c : List UInt8} {n : Nat} (f : Nat) : ∀ (p : Nat), n - p ≤ f → ∀ x ∈ swapsW c n p, p ≤ x ∧ x < n := by
  induction f with
  | zero => intro p hf x hx; rw [swapsW_end (by omega)] at hx; cases hx
  | succ f ih =>
    intro p hf x hx
    by_cases h : p < n
    · cases hs : stays c p
      · rw [swapsW_swap h hs] at hx
        rcases List.mem_cons.1 hx with e | hx
        · omega
        · have := ih (p + 2) (by omega) x hx; omega
      · rw [swapsW_stay h hs] at hx
        have := ih (p + 1) (by omega) x hx; omega
    · rw [swapsW_end h] at hx; cases hx
theorem swapsW_len {c : List UInt8} {n : Nat} (f : Nat) : ∀ (p : Nat), n - p ≤ f → (swapsW c n p).length ≤ f := by
  induction f with
  | zero => intro p hf; rw [swapsW_end (by omega)]; simp
  | succ f ih =>
    intro p hf
    by_cases h : p < n
    · cases hs : stays c p
      · rw [swapsW_swap h hs]
        have := ih (p + 2) (by omega); simp; omega
      · rw [swapsW_stay h hs]
        have := ih (p + 1) (by omega); omega
    · rw [swapsW_end h]; simp
def swapAt (b : List UInt8) (p : Nat) : List UInt8 := (b.set (p - 1) (b.getD p 0)).set p (b.getD (p - 1) 0)
theorem swapAt_len (b : List UInt8) (p : Nat) : (swapAt b p).length = b.length := by simp [swapAt]
theorem swapAt_in {n : Nat} {b : List UInt8} {p : Nat} (hb : InL n b) (hp : p < b.length) : InL n (swapAt b p) := by
  intro x hx
  unfold swapAt at hx
  rcases List.mem_or_eq_of_mem_set hx with hx | rfl
  · rcases List.mem_or_eq_of_mem_set hx with hx | rfl
    · exact hb x hx
    · rw [List.getD_eq_getElem?_getD, List.getElem?_eq_getElem hp]; exact hb _ (List.getElem_mem _)
  · rw [List.getD_eq_getElem?_getD, List.getElem?_eq_getElem (by omega)]; exact hb _ (List.getElem_mem _)
theorem foldSwap {n m : Nat} : ∀ (ps : List Nat) (b : List UInt8), b.length = m → (∀ p ∈ ps, p < m) → InL n b → (ps.foldl swapAt b).length = m ∧ InL n (ps.foldl swapAt b)
  | [], b, hl, _, hb => ⟨hl, hb⟩
  | p :: ps, b, hl, hp, hb => by
    rw [List.foldl_cons]
    exact foldSwap ps _ (by rw [swapAt_len]; exact hl) (fun q hq => hp q (List.mem_cons_of_mem _ hq)) (swapAt_in hb (by rw [hl]; exact hp p (List.mem_cons_self ..)))
def chL (n : Nat) (c : List UInt8) : List UInt8 := (swapsW c n 1).foldl swapAt (roundsL n)
def chB (n : Nat) (c : ByteArray) : ByteArray := ofL (chL n c.data.toList)
theorem chL_ok {n : Nat} (h : n ≤ 8) (c : List UInt8) : (chL n c).length = n ∧ InL n (chL n c) :=
  foldSwap _ _ (roundsL_len n) (fun p hp => (swapsW_mem (n - 1) 1 (by omega) p hp).2) (inL_rounds h)
theorem ch_in {n : Nat} (h : n ≤ 8) (c : ByteArray) : RowIn n (chB n c) := ⟨by unfold chB; rw [ofL_size]; exact (chL_ok h _).1, by unfold chB; rw [ofL_list]; exact (chL_ok h _).2⟩
def applyB (r c : ByteArray) : ByteArray := timesB r (chB r.size c)
theorem apply_in {n : Nat} {r : ByteArray} (h : n ≤ 8) (hr : RowIn n r) (c : ByteArray) : RowIn n (applyB r c) := by
  unfold applyB; rw [hr.1]; exact times_in hr (ch_in h c)
/-- Where some changes lead from a row, and the rows on the way. -/
def runB (r : ByteArray) (cs : List ByteArray) : ByteArray := cs.foldl applyB r
def scanB : ByteArray → List ByteArray → List ByteArray
  | r, [] => [r]
  | r, c :: cs => r :: scanB (applyB r c) cs
theorem run_snoc (r : ByteArray) (cs : List ByteArray) (c : ByteArray) : runB r (cs ++ [c]) = applyB (runB r cs) c := by simp [runB]
theorem run_take {r : ByteArray} {cs : List ByteArray} {k : Nat} (h : k < cs.length) : runB r (cs.take (k + 1)) = applyB (runB r (cs.take k)) cs[k] := by
  rw [List.take_succ_eq_append_getElem h, run_snoc]
theorem runB_in {n : Nat} (h : n ≤ 8) : ∀ (cs : List ByteArray) {r : ByteArray}, RowIn n r → RowIn n (runB r cs)
  | [], r, hr => hr
  | c :: cs, r, hr => runB_in h cs (apply_in h hr c)
theorem scan_len : ∀ (cs : List ByteArray) (r : ByteArray), (scanB r cs).length = cs.length + 1
  | [], r => rfl
  | c :: cs, r => by rw [scanB, List.length_cons, scan_len cs, List.length_cons]
theorem scan_snoc : ∀ (cs : List ByteArray) (r c : ByteArray), scanB r (cs ++ [c]) = scanB r cs ++ [runB r (cs ++ [c])]
  | [], r, c => rfl
  | d :: cs, r, c => by
    rw [List.cons_append, scanB, scanB, scan_snoc cs, List.cons_append]; rfl
theorem scan_take {r : ByteArray} {cs : List ByteArray} {k : Nat} (h : k < cs.length) : scanB r (cs.take (k + 1)) = scanB r (cs.take k) ++ [runB r (cs.take (k + 1))] := by
  rw [List.take_succ_eq_append_getElem h, scan_snoc]
theorem scan_last : ∀ (cs : List ByteArray) (r : ByteArray), (scanB r cs)[cs.length]? = some (runB r cs)
  | [], r => rfl
  | c :: cs, r => by rw [scanB, List.length_cons, List.getElem?_cons_succ, scan_last cs]; rfl
theorem scanB_in {n : Nat} (h : n ≤ 8) : ∀ (cs : List ByteArray) {r : ByteArray}, RowIn n r → ∀ x ∈ scanB r cs, RowIn n x
  | [], r, hr, x, hx => by rw [List.mem_singleton.1 hx]; exact hr
  | c :: cs, r, hr, x, hx => by
    rw [scanB] at hx
    rcases List.mem_cons.1 hx with rfl | hx
    · exact hr
    · exact scanB_in h cs (apply_in h hr c) x hx
/-- The rows of a lead. -/
def leadB (r : ByteArray) (cs : List ByteArray) : List ByteArray := (scanB r cs).take cs.length
theorem lead_len (r : ByteArray) (cs : List ByteArray) : (leadB r cs).length = cs.length := by unfold leadB; rw [List.length_take, scan_len]; omega
theorem scan_lead (r : ByteArray) (cs : List ByteArray) : scanB r cs = leadB r cs ++ [runB r cs] := by
  unfold leadB
  have h := scan_last cs r
  have hl := scan_len cs r
  conv => lhs; rw [← List.take_append_drop cs.length (scanB r cs)]
  congr 1
  obtain ⟨h1, h2⟩ := List.getElem?_eq_some_iff.1 h
  rw [List.drop_eq_getElem_cons h1, h2, List.drop_of_length_le (by omega)]
theorem lead_take {r : ByteArray} {cs : List ByteArray} {k : Nat} (h : k < cs.length) : leadB r (cs.take (k + 1)) = leadB r (cs.take k) ++ [runB r (cs.take k)] := by
  have e := scan_take (r := r) h
  rw [scan_lead, scan_lead r (cs.take k)] at e
  exact (List.append_inj' e rfl).1
theorem lead_in {n : Nat} (h : n ≤ 8) (cs : List ByteArray) {r : ByteArray} (hr : RowIn n r) : ∀ x ∈ leadB r cs, RowIn n x := fun x hx => scanB_in h cs hr x (List.mem_of_mem_take hx)
/-- The changes of a lead with a call. -/
def callCh (l : List ByteArray) (b s : ByteArray) (c : UInt8) : ByteArray := if c = 98 then b else if c = 115 then s else l.getLastD ⟨#[]⟩
def calledL (l : List ByteArray) (b s : ByteArray) (c : UInt8) : List ByteArray := l.take (l.length - 1) ++ [callCh l b s c]
theorem called_len {l : List ByteArray} (h : 0 < l.length) (b s : ByteArray) (c : UInt8) : (calledL l b s c).length = l.length := by simp [calledL]; omega
theorem take_last {l : List ByteArray} (h : 0 < l.length) : l.take (l.length - 1) ++ [l.getLastD ⟨#[]⟩] = l := by
  rw [List.getLastD_eq_getLast?, List.getLast?_eq_getElem?, List.getElem?_eq_getElem (by omega)]
  simp only [Option.getD_some]
  rw [← List.take_succ_eq_append_getElem (by omega), show l.length - 1 + 1 = l.length by omega, List.take_length]
theorem called_plain {l : List ByteArray} (h : 0 < l.length) (b s : ByteArray) {c : UInt8} (h1 : c ≠ 98) (h2 : c ≠ 115) : calledL l b s c = l := by
  unfold calledL callCh
  rw [if_neg h1, if_neg h2, take_last h]
theorem called_set {l : List ByteArray} (h : 0 < l.length) (x : ByteArray) : l.set (l.length - 1) x = l.take (l.length - 1) ++ [x] := by
  rw [List.set_eq_take_append_cons_drop, if_pos (by omega), show l.length - 1 + 1 = l.length by omega, List.drop_length]
def headB (n : Nat) (l : List ByteArray) (b s : ByteArray) (c : UInt8) : ByteArray := runB (roundsB n) (calledL l b s c)
theorem headB_last (n : Nat) (l : List ByteArray) (b s : ByteArray) (c : UInt8) : headB n l b s c = applyB (runB (roundsB n) (l.take (l.length - 1))) (callCh l b s c) := by
  unfold headB calledL; rw [run_snoc]
theorem head_in {n : Nat} (h : n ≤ 8) (l : List ByteArray) (b s : ByteArray) (c : UInt8) : RowIn n (headB n l b s c) := runB_in h _ (rounds_in h)
/-- The lead heads of a touch: one more than it has calls. -/
def headsB (f : UInt8 → ByteArray) : ByteArray → List UInt8 → List ByteArray
  | h, [] => [h]
  | h, c :: cs => h :: headsB f (timesB h (f c)) cs
def endB (f : UInt8 → ByteArray) (h : ByteArray) (t : List UInt8) : ByteArray := t.foldl (fun h c => timesB h (f c)) h
theorem end_snoc (f : UInt8 → ByteArray) (h : ByteArray) (t : List UInt8) (c : UInt8) : endB f h (t ++ [c]) = timesB (endB f h t) (f c) := by simp [endB]
theorem end_take {f : UInt8 → ByteArray} {h : ByteArray} {t : List UInt8} {k : Nat} (hk : k < t.length) : endB f h (t.take (k + 1)) = timesB (endB f h (t.take k)) (f t[k]) := by
  rw [List.take_succ_eq_append_getElem hk, end_snoc]
theorem heads_len (f : UInt8 → ByteArray) : ∀ (t : List UInt8) (h : ByteArray), (headsB f h t).length = t.length + 1
  | [], h => rfl
  | c :: t, h => by rw [headsB, List.length_cons, heads_len f t, List.length_cons]
theorem heads_snoc (f : UInt8 → ByteArray) : ∀ (t : List UInt8) (h : ByteArray) (c : UInt8), headsB f h (t ++ [c]) = headsB f h t ++ [endB f h (t ++ [c])]
  | [], h, c => rfl
  | d :: t, h, c => by rw [List.cons_append, headsB, headsB, heads_snoc f t, List.cons_append]; rfl
theorem heads_take {f : UInt8 → ByteArray} {h : ByteArray} {t : List UInt8} {k : Nat} (hk : k < t.length) : headsB f h (t.take (k + 1)) = headsB f h (t.take k) ++ [endB f h (t.take (k + 1))] := by
  rw [List.take_succ_eq_append_getElem hk, heads_snoc]
theorem heads_last (f : UInt8 → ByteArray) : ∀ (t : List UInt8) (h : ByteArray), (headsB f h t)[t.length]? = some (endB f h t)
  | [], h => rfl
  | c :: t, h => by rw [headsB, List.length_cons, List.getElem?_cons_succ, heads_last f t]; rfl
theorem end_in {n : Nat} {f : UInt8 → ByteArray} (hf : ∀ c, RowIn n (f c)) : ∀ (t : List UInt8) {h : ByteArray}, RowIn n h → RowIn n (endB f h t)
  | [], h, hh => hh
  | c :: t, h, hh => end_in hf t (times_in hh (hf c))
theorem heads_in {n : Nat} {f : UInt8 → ByteArray} (hf : ∀ c, RowIn n (f c)) : ∀ (t : List UInt8) {h : ByteArray}, RowIn n h → ∀ x ∈ headsB f h t, RowIn n x
  | [], h, hh, x, hx => by rw [List.mem_singleton.1 hx]; exact hh
  | c :: t, h, hh, x, hx => by
    rw [headsB] at hx
    rcases List.mem_cons.1 hx with rfl | hx
    · exact hh
    · exact heads_in hf t (times_in hh (hf c)) x hx
/-- The rows of the leads from some heads. -/
def rowsB (l : List ByteArray) (hs : List ByteArray) : List ByteArray := hs.flatMap fun h => leadB h l
theorem rows_len (l : List ByteArray) : ∀ hs : List ByteArray, (rowsB l hs).length = hs.length * l.length
  | [] => by simp [rowsB]
  | h :: hs => by
    have ih := rows_len l hs
    unfold rowsB at ih ⊢
    rw [List.flatMap_cons, List.length_append, lead_len, ih, List.length_cons, Nat.succ_mul, Nat.add_comm]
theorem rows_take {l hs : List ByteArray} {k : Nat} (hk : k < hs.length) : rowsB l (hs.take (k + 1)) = rowsB l (hs.take k) ++ leadB hs[k] l := by
  unfold rowsB; rw [List.take_succ_eq_append_getElem hk, List.flatMap_append]; simp
/-- The spec's way to a change's row: a step that swaps. -/
theorem spec_swap {n p : Nat} {b : List UInt8} (hb : b.length = n) (hp : 1 ≤ p) (hn : p < n) (h1 : b[p - 1]? = (roundsL n)[p - 1]?) (h2 : b[p]? = (roundsL n)[p]?) :
    swapAt b p = (b.set (p - 1) (UInt8.ofNat (49 + p))).set p (UInt8.ofNat (48 + p)) := by
  unfold swapAt
  rw [roundsL_get (by omega)] at h1 h2
  rw [List.getD_eq_getElem?_getD, List.getD_eq_getElem?_getD, h1, h2]
  simp only [Option.getD_some]
  rw [show 49 + (p - 1) = 48 + p by omega]
end Go.Proofs.YtofpjbdelmmclaaGreatDoor

/- Rows as permutations: a plain account of products, powers and orders. -/
namespace Go.Proofs.YtofpjbdelmmclaaGreatDoor
open Go Go.RowKit
set_option linter.unusedVariables false
set_option linter.unusedSimpArgs false

theorem timesL_assoc {n : Nat} (a : List UInt8) {b c : List UInt8} (hb : b.length = n) (hc : InL n c) : timesL (timesL a b) c = timesL a (timesL b c) := by
  unfold timesL
  rw [List.map_map]
  apply List.map_congr_left
  intro x hx
  have h := hc x hx
  have hj : x.toNat - 49 < b.length := by omega
  simp only [Function.comp, List.getD_eq_getElem?_getD, List.getElem?_map]
  rw [List.getElem?_eq_getElem hj]
  simp
theorem u8_49 {i : Nat} (h : i < 8) : (UInt8.ofNat (49 + i)).toNat = 49 + i := UInt8.toNat_ofNat_of_lt' (by show 49 + i < 256; omega)
theorem timesL_rounds {a : List UInt8} {n : Nat} (hn : n ≤ 8) (hl : a.length = n) : timesL a (roundsL n) = a := by
  apply List.ext_getElem?
  intro i
  unfold timesL
  rw [List.getElem?_map]
  by_cases hi : i < n
  · rw [roundsL_get hi, Option.map_some, u8_49 (by omega), List.getD_eq_getElem?_getD, show 49 + i - 49 = i by omega, List.getElem?_eq_getElem (by omega)]
    rfl
  · rw [List.getElem?_eq_none (by rw [roundsL_len]; omega), List.getElem?_eq_none (by omega)]
    rfl
theorem rounds_timesL {a : List UInt8} {n : Nat} (hn : n ≤ 8) (ha : InL n a) : timesL (roundsL n) a = a := by
  unfold timesL
  conv => rhs; rw [← List.map_id a]
  apply List.map_congr_left
  intro x hx
  have h := ha x hx
  rw [List.getD_eq_getElem?_getD, roundsL_get (by omega), Option.getD_some]
  apply UInt8.toNat_inj.1
  rw [u8_49 (by omega), id]
  omega
theorem times_assoc {n : Nat} (a : ByteArray) {b c : ByteArray} (hb : RowIn n b) (hc : RowIn n c) : timesB (timesB a b) c = timesB a (timesB b c) := by
  unfold timesB
  rw [ofL_list, ofL_list, timesL_assoc _ hb.len hc.2]
theorem times_rounds {n : Nat} {a : ByteArray} (hn : n ≤ 8) (ha : RowIn n a) : timesB a (roundsB n) = a := by
  unfold timesB
  rw [rounds_list hn, timesL_rounds hn ha.len, ofL_eq]
theorem rounds_times {n : Nat} {a : ByteArray} (hn : n ≤ 8) (ha : RowIn n a) : timesB (roundsB n) a = a := by
  unfold timesB
  rw [rounds_list hn, rounds_timesL hn ha.2, ofL_eq]
/-- A row that has an inverse. -/
def Inv (n : Nat) (a : ByteArray) : Prop := RowIn n a ∧ ∃ b, RowIn n b ∧ timesB a b = roundsB n ∧ timesB b a = roundsB n
theorem Inv.rounds {n : Nat} (hn : n ≤ 8) : Inv n (roundsB n) := ⟨rounds_in hn, _, rounds_in hn, times_rounds hn (rounds_in hn), times_rounds hn (rounds_in hn)⟩
theorem Inv.times {n : Nat} (hn : n ≤ 8) {a b : ByteArray} (ha : Inv n a) (hb : Inv n b) : Inv n (timesB a b) := by
  obtain ⟨ha, a', ha', h1, h2⟩ := ha
  obtain ⟨hb, b', hb', h3, h4⟩ := hb
  refine ⟨times_in ha hb, timesB b' a', times_in hb' ha', ?_, ?_⟩
  · rw [times_assoc a hb (times_in hb' ha'), ← times_assoc b hb' ha', h3, rounds_times hn ha', h1]
  · rw [times_assoc b' ha' (times_in ha hb), ← times_assoc a' ha hb, h2, rounds_times hn hb, h4]
theorem Inv.cancel {n : Nat} (hn : n ≤ 8) {a x y : ByteArray} (ha : Inv n a) (hx : RowIn n x) (hy : RowIn n y) (h : timesB x a = timesB y a) : x = y := by
  obtain ⟨ha, b, hb, h1, h2⟩ := ha
  have e : timesB (timesB x a) b = timesB (timesB y a) b := by rw [h]
  rw [times_assoc x ha hb, times_assoc y ha hb, h1, times_rounds hn hx, times_rounds hn hy] at e
  exact e
theorem Inv.cancel_left {n : Nat} (hn : n ≤ 8) {a x y : ByteArray} (ha : Inv n a) (hx : RowIn n x) (hy : RowIn n y) (h : timesB a x = timesB a y) : x = y := by
  obtain ⟨ha, b, hb, h1, h2⟩ := ha
  have e : timesB b (timesB a x) = timesB b (timesB a y) := by rw [h]
  rw [← times_assoc b ha hx, ← times_assoc b ha hy, h2, rounds_times hn hx, rounds_times hn hy] at e
  exact e
/-- Where a place goes under swaps. -/
def tau (ps : List Nat) (i : Nat) : Nat := if i + 1 ∈ ps then i + 1 else if i ∈ ps then i - 1 else i
theorem swapAt_get {b : List UInt8} {p i : Nat} (hp : 1 ≤ p) (hl : p < b.length) (hi : i < b.length) : (swapAt b p)[i]? = b[if i + 1 = p then i + 1 else if i = p then i - 1 else i]? := by
  unfold swapAt
  rw [List.getElem?_set, List.getElem?_set]
  simp only [List.length_set]
  by_cases h1 : p = i
  · subst h1
    rw [if_pos rfl, if_pos hi, if_neg (by omega), if_pos rfl, List.getD_eq_getElem?_getD, List.getElem?_eq_getElem (by omega)]
    rfl
  · rw [if_neg h1]
    by_cases h2 : p - 1 = i
    · rw [if_pos h2, if_pos (by omega), if_pos (by omega), List.getD_eq_getElem?_getD, show i + 1 = p by omega, List.getElem?_eq_getElem hl]
      rfl
    · rw [if_neg h2, if_neg (by omega), if_neg (by omega)]
theorem tau_no {ps : List Nat} {i : Nat} (h1 : i + 1 ∉ ps) (h2 : i ∉ ps) : tau ps i = i := by unfold tau; rw [if_neg h1, if_neg h2]
/-- Swaps that do not meet. -/
def Gap : Nat → List Nat → Prop
  | _, [] => True
  | lo, p :: ps => lo ≤ p ∧ Gap (p + 2) ps
theorem Gap.ge : ∀ {ps : List Nat} {lo : Nat}, Gap lo ps → ∀ p ∈ ps, lo ≤ p
  | p :: ps, lo, h, q, hq => by
    rcases List.mem_cons.1 hq with rfl | hq
    · exact h.1
    · have := Gap.ge h.2 q hq; have := h.1; omega
theorem foldSwap_get {m : Nat} : ∀ (ps : List Nat) (lo : Nat) (b : List UInt8), 1 ≤ lo → b.length = m → (∀ p ∈ ps, p < m) → Gap lo ps → ∀ i, i < m → (ps.foldl swapAt b)[i]? = b[tau ps i]?
  | [], lo, b, _, _, _, _, i, _ => by rw [tau_no (by simp) (by simp)]; rfl
  | p :: ps, lo, b, hlo, hl, hp, hg, i, hi => by
    have hpm := hp p (List.mem_cons_self ..)
    have hge := Gap.ge hg.2
    have hp1 : 1 ≤ p := by have := hg.1; omega
    have hrec := foldSwap_get ps (p + 2) (swapAt b p) (by omega) (by rw [swapAt_len]; exact hl) (fun q hq => hp q (List.mem_cons_of_mem _ hq)) hg.2 i hi
    rw [List.foldl_cons, hrec]
    have hn : ∀ j, j < p + 2 → j ∉ ps := fun j hj hm => by have := hge j hm; omega
    by_cases h1 : i + 1 = p
    · rw [tau_no (hn _ (by omega)) (hn _ (by omega)), swapAt_get hp1 (by omega) (by omega), if_pos h1]
      unfold tau
      rw [if_pos (by rw [h1]; exact List.mem_cons_self ..)]
    · by_cases h2 : i = p
      · rw [tau_no (hn _ (by omega)) (hn _ (by omega)), swapAt_get hp1 (by omega) (by omega), if_neg h1, if_pos h2]
        unfold tau
        rw [if_neg (fun hm => (List.mem_cons.1 hm).elim (fun h => by omega) (fun h => hn _ (by omega) h)), if_pos (by rw [h2]; exact List.mem_cons_self ..)]
      · have ht : tau (p :: ps) i = tau ps i := by
          unfold tau
          have e1 : (i + 1 ∈ p :: ps) ↔ (i + 1 ∈ ps) := by rw [List.mem_cons]; exact ⟨fun h => h.resolve_left h1, .inr⟩
          have e2 : (i ∈ p :: ps) ↔ (i ∈ ps) := by rw [List.mem_cons]; exact ⟨fun h => h.resolve_left h2, .inr⟩
          simp only [e1, e2]
        rw [ht]
        by_cases h3 : i + 1 ∈ ps
        · have hb := hp _ (List.mem_cons_of_mem _ h3)
          have := hge _ h3
          have e : tau ps i = i + 1 := by unfold tau; rw [if_pos h3]
          rw [e, swapAt_get hp1 (by omega) (by omega), if_neg (by omega), if_neg (by omega)]
        · by_cases h4 : i ∈ ps
          · have := hge _ h4
            have e : tau ps i = i - 1 := by unfold tau; rw [if_neg h3, if_pos h4]
            rw [e, swapAt_get hp1 (by omega) (by omega), if_neg (by omega), if_neg (by omega)]
          · rw [tau_no h3 h4, swapAt_get hp1 (by omega) (by omega), if_neg h1, if_neg h2]
theorem swapsW_gap {c : List UInt8} {n : Nat} (f : Nat) : ∀ (p : Nat), n - p ≤ f → Gap p (swapsW c n p) := by
  induction f with
  | zero => intro p hf; rw [swapsW_end (by omega)]; trivial
  | succ f ih =>
    intro p hf
    by_cases h : p < n
    · cases hs : stays c p
      · rw [swapsW_swap h hs]
        exact ⟨Nat.le_refl _, ih (p + 2) (by omega)⟩
      · rw [swapsW_stay h hs]
        have := ih (p + 1) (by omega)
        cases hl : swapsW c n (p + 1) with
        | nil => trivial
        | cons q t => rw [hl] at this; exact ⟨by have := this.1; omega, this.2⟩
    · rw [swapsW_end h]; trivial
theorem Gap.next : ∀ {ps : List Nat} {lo : Nat}, Gap lo ps → ∀ p ∈ ps, p + 1 ∉ ps
  | q :: ps, lo, h, p, hp => by
    intro hm
    rcases List.mem_cons.1 hp with rfl | hp
    · rcases List.mem_cons.1 hm with e | hm
      · omega
      · have := Gap.ge h.2 _ hm; omega
    · rcases List.mem_cons.1 hm with e | hm
      · have := Gap.ge h.2 _ hp; omega
      · exact Gap.next h.2 p hp hm
theorem tau_tau {ps : List Nat} {lo : Nat} (hlo : 1 ≤ lo) (h : Gap lo ps) (i : Nat) : tau ps (tau ps i) = i := by
  by_cases h1 : i + 1 ∈ ps
  · have e : tau ps i = i + 1 := by unfold tau; rw [if_pos h1]
    rw [e]; unfold tau
    rw [if_neg (h.next _ h1), if_pos h1, Nat.add_sub_cancel]
  · by_cases h2 : i ∈ ps
    · have := h.ge _ h2
      have e : tau ps i = i - 1 := by unfold tau; rw [if_neg h1, if_pos h2]
      rw [e]; unfold tau
      have e2 : i - 1 + 1 = i := by omega
      rw [e2, if_pos h2]
    · rw [tau_no h1 h2, tau_no h1 h2]
theorem tau_lt {ps : List Nat} {m i : Nat} (hp : ∀ p ∈ ps, p < m) (hi : i < m) : tau ps i < m := by
  unfold tau
  split
  · exact hp _ (by assumption)
  · split <;> omega
theorem chL_get {n : Nat} (hn : n ≤ 8) (c : List UInt8) {i : Nat} (hi : i < n) : (chL n c)[i]? = some (UInt8.ofNat (49 + tau (swapsW c n 1) i)) := by
  have hm := fun p hp => (swapsW_mem (c := c) (n := n) (n - 1) 1 (by omega) p hp).2
  unfold chL
  rw [foldSwap_get (m := n) _ 1 _ (by omega) (roundsL_len n) hm (swapsW_gap (n - 1) 1 (by omega)) i hi, roundsL_get (tau_lt hm hi)]
theorem ch_ch {n : Nat} (hn : n ≤ 8) (c : ByteArray) : timesB (chB n c) (chB n c) = roundsB n := by
  have hm := fun p hp => (swapsW_mem (c := c.data.toList) (n := n) (n - 1) 1 (by omega) p hp).2
  apply bytes_ext
  unfold timesB chB
  rw [ofL_list, ofL_list, rounds_list hn]
  apply List.ext_getElem?
  intro i
  unfold timesL
  rw [List.getElem?_map]
  by_cases hi : i < n
  · have ht := tau_lt hm hi
    rw [chL_get hn _ hi, Option.map_some, u8_49 (by omega), List.getD_eq_getElem?_getD, show 49 + tau (swapsW c.data.toList n 1) i - 49 = tau (swapsW c.data.toList n 1) i by omega, chL_get hn _ ht,
      tau_tau (by omega) (swapsW_gap (n - 1) 1 (by omega)), roundsL_get hi]
    rfl
  · rw [List.getElem?_eq_none (by rw [(chL_ok hn _).1]; omega), List.getElem?_eq_none (by rw [roundsL_len]; omega)]
    rfl
theorem ch_inv {n : Nat} (hn : n ≤ 8) (c : ByteArray) : Inv n (chB n c) := ⟨ch_in hn c, _, ch_in hn c, ch_ch hn c, ch_ch hn c⟩
theorem apply_inv {n : Nat} (hn : n ≤ 8) {r : ByteArray} (hr : Inv n r) (c : ByteArray) : Inv n (applyB r c) := by
  unfold applyB; rw [hr.1.1]; exact hr.times hn (ch_inv hn c)
theorem run_inv {n : Nat} (hn : n ≤ 8) : ∀ (cs : List ByteArray) {r : ByteArray}, Inv n r → Inv n (runB r cs)
  | [], r, hr => hr
  | c :: cs, r, hr => run_inv hn cs (apply_inv hn hr c)
theorem run_from {n : Nat} (hn : n ≤ 8) : ∀ (cs : List ByteArray) {r : ByteArray}, RowIn n r → runB r cs = timesB r (runB (roundsB n) cs)
  | [], r, hr => (times_rounds hn hr).symm
  | c :: cs, r, hr => by
    have hc := ch_in hn c
    have hR := runB_in hn cs (rounds_in hn)
    show runB (applyB r c) cs = timesB r (runB (applyB (roundsB n) c) cs)
    rw [run_from hn cs (apply_in hn hr c), run_from hn cs (apply_in hn (rounds_in hn) c)]
    unfold applyB
    rw [hr.1, rounds_size hn, rounds_times hn hc, times_assoc r hc hR]
theorem run_cons {n : Nat} (hn : n ≤ 8) (c : ByteArray) (cs : List ByteArray) : runB (roundsB n) (c :: cs) = timesB (chB n c) (runB (roundsB n) cs) := by
  show runB (applyB (roundsB n) c) cs = _
  rw [run_from hn cs (apply_in hn (rounds_in hn) c)]
  unfold applyB
  rw [rounds_size hn, rounds_times hn (ch_in hn c)]
theorem run_app {n : Nat} (hn : n ≤ 8) (xs ys : List ByteArray) : runB (roundsB n) (xs ++ ys) = timesB (runB (roundsB n) xs) (runB (roundsB n) ys) := by
  rw [show runB (roundsB n) (xs ++ ys) = runB (runB (roundsB n) xs) ys by simp [runB], run_from hn ys (runB_in hn xs (rounds_in hn))]
theorem run_back {n : Nat} (hn : n ≤ 8) : ∀ (cs : List ByteArray), timesB (runB (roundsB n) cs) (runB (roundsB n) cs.reverse) = roundsB n
  | [] => times_rounds hn (rounds_in hn)
  | c :: cs => by
    have hc := ch_in hn c
    have h1 := runB_in hn cs (rounds_in hn)
    have h2 := runB_in hn cs.reverse (rounds_in hn)
    have e : runB (roundsB n) [c] = chB n c := by
      show applyB (roundsB n) c = _
      unfold applyB
      rw [rounds_size hn, rounds_times hn hc]
    rw [List.reverse_cons, run_app hn, run_cons hn, e, times_assoc (chB n c) h1 (times_in h2 hc), ← times_assoc (runB (roundsB n) cs) h2 hc, run_back hn cs, rounds_times hn hc, ch_ch hn]
theorem scan_from {n : Nat} (hn : n ≤ 8) : ∀ (cs : List ByteArray) {r : ByteArray}, RowIn n r → scanB r cs = (scanB (roundsB n) cs).map (timesB r)
  | [], r, hr => by simp [scanB, times_rounds hn hr]
  | c :: cs, r, hr => by
    have hc := ch_in hn c
    rw [scanB, scanB, List.map_cons, times_rounds hn hr, scan_from hn cs (apply_in hn hr c), scan_from hn cs (apply_in hn (rounds_in hn) c), List.map_map]
    congr 1
    apply List.map_congr_left
    intro x hx
    have hx := scanB_in hn cs (rounds_in hn) x hx
    show timesB (applyB r c) x = timesB r (timesB (applyB (roundsB n) c) x)
    unfold applyB
    rw [hr.1, rounds_size hn, rounds_times hn hc, times_assoc r hc hx]
theorem lead_from {n : Nat} (hn : n ≤ 8) (cs : List ByteArray) {r : ByteArray} (hr : RowIn n r) : leadB r cs = (leadB (roundsB n) cs).map (timesB r) := by
  unfold leadB
  rw [scan_from hn cs hr, List.map_take]
/-- Powers of a row. -/
def powB (n : Nat) (a : ByteArray) : Nat → ByteArray
  | 0 => roundsB n
  | k + 1 => timesB (powB n a k) a
def powL (n : Nat) (a : ByteArray) (K : Nat) : List ByteArray := (List.range K).map (powB n a)
theorem powL_len (n : Nat) (a : ByteArray) (K : Nat) : (powL n a K).length = K := by simp [powL]
theorem powL_succ (n : Nat) (a : ByteArray) (K : Nat) : powL n a (K + 1) = powL n a K ++ [powB n a K] := by simp [powL, List.range_succ]
theorem pow_one {n : Nat} (hn : n ≤ 8) {a : ByteArray} (ha : RowIn n a) : powB n a 1 = a := rounds_times hn ha
theorem pow_in {n : Nat} (hn : n ≤ 8) {a : ByteArray} (ha : RowIn n a) : ∀ k, RowIn n (powB n a k)
  | 0 => rounds_in hn
  | k + 1 => times_in (pow_in hn ha k) ha
theorem pow_inv {n : Nat} (hn : n ≤ 8) {a : ByteArray} (ha : Inv n a) : ∀ k, Inv n (powB n a k)
  | 0 => Inv.rounds hn
  | k + 1 => (pow_inv hn ha k).times hn ha
theorem pow_add {n : Nat} (hn : n ≤ 8) {a : ByteArray} (ha : RowIn n a) (i : Nat) : ∀ j, powB n a (i + j) = timesB (powB n a i) (powB n a j)
  | 0 => (times_rounds hn (pow_in hn ha i)).symm
  | j + 1 => by
    show timesB (powB n a (i + j)) a = timesB (powB n a i) (timesB (powB n a j) a)
    rw [pow_add hn ha i j, times_assoc _ (pow_in hn ha j) ha]
/-- The order of a row. -/
def IsOrd (n : Nat) (a : ByteArray) (K : Nat) : Prop := 1 ≤ K ∧ powB n a K = roundsB n ∧ ∀ j, 1 ≤ j → j < K → powB n a j ≠ roundsB n
theorem IsOrd.uniq {n : Nat} {a : ByteArray} {K L : Nat} (h : IsOrd n a K) (h' : IsOrd n a L) : K = L := by
  rcases Nat.lt_trichotomy K L with hl | hl | hl
  · exact absurd h.2.1 (h'.2.2 K h.1 hl)
  · exact hl
  · exact absurd h'.2.1 (h.2.2 L h'.1 hl)
theorem pigeon : ∀ (N : Nat) (f : Nat → Nat), (∀ i, i ≤ N → f i < N) → ∃ i j, i < j ∧ j ≤ N ∧ f i = f j
  | 0, f, h => absurd (h 0 (Nat.le_refl _)) (by omega)
  | N + 1, f, h => by
    by_cases hc : ∃ i, i ≤ N ∧ f i = f (N + 1)
    · obtain ⟨i, hi, e⟩ := hc
      exact ⟨i, N + 1, by omega, Nat.le_refl _, e⟩
    · have hne : ∀ i, i ≤ N → f i ≠ f (N + 1) := fun i hi e => hc ⟨i, hi, e⟩
      have hv := h (N + 1) (Nat.le_refl _)
      obtain ⟨i, j, hij, hj, e⟩ := pigeon N (fun i => if f i < f (N + 1) then f i else f i - 1) (fun i hi => by
        have h1 := hne i hi
        have h2 := h i (by omega)
        show (if f i < f (N + 1) then f i else f i - 1) < N
        split <;> omega)
      refine ⟨i, j, hij, by omega, ?_⟩
      have h1 := hne i (by omega)
      have h2 := hne j (by omega)
      have e' : (if f i < f (N + 1) then f i else f i - 1) = (if f j < f (N + 1) then f j else f j - 1) := e
      split at e' <;> split at e' <;> omega
def codeL : List UInt8 → Nat
  | [] => 0
  | b :: t => (b.toNat - 49) + 8 * codeL t
theorem codeL_lt : ∀ (l : List UInt8), InL 8 l → codeL l < 8 ^ l.length
  | [], _ => by simp [codeL]
  | b :: t, h => by
    have h1 := h b (List.mem_cons_self ..)
    have h2 := codeL_lt t (fun x hx => h x (List.mem_cons_of_mem _ hx))
    rw [codeL, List.length_cons, Nat.pow_succ]
    omega
theorem codeL_inj : ∀ (l m : List UInt8), l.length = m.length → InL 8 l → InL 8 m → codeL l = codeL m → l = m
  | [], [], _, _, _, _ => rfl
  | [], _ :: _, h, _, _, _ => by simp at h
  | _ :: _, [], h, _, _, _ => by simp at h
  | a :: l, b :: m, hl, h1, h2, e => by
    have ha := h1 a (List.mem_cons_self ..)
    have hb := h2 b (List.mem_cons_self ..)
    rw [codeL, codeL] at e
    have e1 : a = b := UInt8.toNat_inj.1 (by omega)
    rw [e1, codeL_inj l m (by simpa using hl) (fun x hx => h1 x (List.mem_cons_of_mem _ hx)) (fun x hx => h2 x (List.mem_cons_of_mem _ hx)) (by omega)]
theorem RowIn.eight {n : Nat} (hn : n ≤ 8) {a : ByteArray} (ha : RowIn n a) : InL 8 a.data.toList := fun b hb => by have := ha.2 b hb; omega
theorem least_of {P : Nat → Prop} : ∀ k, P k → ∃ k', k' ≤ k ∧ P k' ∧ ∀ j, j < k' → ¬ P j := by
  intro k
  induction k using Nat.strongRecOn with
  | ind k ih =>
    intro hk
    by_cases h : ∃ j, j < k ∧ P j
    · obtain ⟨j, hj, hp⟩ := h
      obtain ⟨k', h1, h2⟩ := ih j hj hp
      exact ⟨k', by omega, h2⟩
    · exact ⟨k, Nat.le_refl _, hk, fun j hj hp => h ⟨j, hj, hp⟩⟩
theorem ord_ex {n : Nat} (hn : n ≤ 8) {a : ByteArray} (ha : Inv n a) : ∃ K, K ≤ 16777216 ∧ IsOrd n a K := by
  have h8 : 8 ^ n ≤ 16777216 := Nat.le_trans (Nat.pow_le_pow_right (by omega) hn) (by decide)
  obtain ⟨i, j, hij, hj, e⟩ := pigeon (8 ^ n) (fun k => codeL (powB n a k).data.toList) (fun k _ => by
    have h := codeL_lt _ ((pow_in hn ha.1 k).eight hn)
    rw [(pow_in hn ha.1 k).len] at h
    exact h)
  have hi := pow_in hn ha.1 i
  have hj' := pow_in hn ha.1 j
  have e2 := bytes_ext (codeL_inj _ _ (by rw [hi.len, hj'.len]) (hi.eight hn) (hj'.eight hn) e)
  have e3 : powB n a (j - i) = roundsB n := by
    rw [show j = (j - i) + i by omega, pow_add hn ha.1 (j - i) i] at e2
    apply (pow_inv hn ha i).cancel hn (pow_in hn ha.1 _) (rounds_in hn)
    rw [← e2, rounds_times hn hi]
  obtain ⟨K, h1, h2, h3⟩ := least_of (P := fun k => 1 ≤ k ∧ powB n a k = roundsB n) (j - i) ⟨by omega, e3⟩
  exact ⟨K, by omega, h2.1, h2.2, fun q hq hlt hp => h3 q hlt ⟨hq, hp⟩⟩
end Go.Proofs.YtofpjbdelmmclaaGreatDoor
