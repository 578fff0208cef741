/- A library read from its text, a plain account: one function of a notation for both sides; both readers answer the same. -/
import Derived.Test.YtenhnloljdfjhaaDoorPk27
import Derived.Test.YtenhnloljdfjhaaDoorPk28
namespace Go.Proofs.YtenhnloljdfjhaaDoor
open Go Go.RowKit
set_option linter.unusedVariables false
set_option linter.unusedSimpArgs false

/-- A change's word, and what is behind it. -/
def tokL : List UInt8 → List UInt8 × List UInt8
  | [] => ([], [])
  | c :: t => if c = 45 ∨ c = 120 then ([c], t) else ((c :: t).takeWhile digY, (c :: t).dropWhile digY)
/-- A change made whole. -/
def tidyC (n : Int) (l : List UInt8) : List (List UInt8) :=
  [l, l ++ [UInt8.ofNat (48 + n.toNat)], 49 :: l, 49 :: (l ++ [UInt8.ofNat (48 + n.toNat)])]
def tidyL (n : Int) (l : List UInt8) : Option (List UInt8) := (tidyC n (if l = [120] then [45] else l)).find? (changeB n)
def chgO (n : Int) (l : List UInt8) : Option (ByteArray × List UInt8) :=
  if (tokL l).1 = [] then none else match tidyL n (tokL l).1 with
    | none => none
    | some c => some (⟨c.toArray⟩, (tokL l).2)
/-- A block of changes, and what is behind it. -/
def blkO (n : Int) : Nat → List UInt8 → Option (List ByteArray × List UInt8)
  | 0, _ => none
  | f + 1, l => match chgO n l with
    | none => none
    | some (c, []) => some ([c], [])
    | some (c, b :: r) => if b = 44 then some ([c], b :: r) else match blkO n f (if b = 46 then r else b :: r) with
      | none => none
      | some (cs, r') => some (c :: cs, r')
/-- The blocks of a notation. -/
def ntO (n : Int) : Nat → List UInt8 → Option (List (List ByteArray))
  | 0, _ => none
  | f + 1, l => match blkO n (l.length + 1) l with
    | none => none
    | some (b, []) => some [b]
    | some (b, _ :: r) => match ntO n f r with
      | none => none
      | some bs => some (b :: bs)
def mirL (l : List ByteArray) : List ByteArray := l ++ l.dropLast.reverse
def outL : List (List ByteArray) → List ByteArray
  | [b] => b
  | bs => bs.flatMap mirL
/-- What a notation denotes. -/
def ntnO (n : Int) (s : ByteArray) : Option (List ByteArray) :=
  if (3 ≤ n ∧ n ≤ 8) ∧ 1 ≤ s.size ∧ s.size ≤ 200 then match ntO n (s.size + 1) s.data.toList with
    | none => none
    | some bs => if bs.length ≤ 4 ∧ (outL bs).length ≤ 40 then some (outL bs) else none
  else none
/-- A line as the program reads it, as the reference does. -/
def mtO (x : ByteArray) : Option Mt := match splitW 32 x with
  | [a, b, c] => if canB b.data.toList 1 then match ntnO (numV b.data.toList 1) c with
      | none => none
      | some l => some ⟨a, numV b.data.toList 1, l⟩
    else none
  | _ => none
def mtS (x : ByteArray) : Option Mt := match splitW 32 x with
  | [a, b, c] => some ⟨a, readV b.data.toList, (ntnO (readV b.data.toList) c).getD []⟩
  | _ => none
/-- Read line by line. -/
def rdM (f : ByteArray → Option Mt) : List ByteArray → List Mt → Option (List Mt)
  | [], acc => some acc
  | x :: t, acc => match f x with
    | none => none
    | some m => rdM f t (acc ++ [m])
theorem rdM_some {f : ByteArray → Option Mt} {x : ByteArray} {t : List ByteArray} {acc : List Mt} {m : Mt} (h : f x = some m) : rdM f (x :: t) acc = rdM f t (acc ++ [m]) := by rw [rdM, h]
theorem rdM_none {f : ByteArray → Option Mt} {x : ByteArray} {t : List ByteArray} {acc : List Mt} (h : f x = none) : rdM f (x :: t) acc = none := by rw [rdM, h]
theorem mt_OS {x : ByteArray} {m : Mt} (h : mtO x = some m) : mtS x = some m := by
  unfold mtO at h
  unfold mtS
  split at h
  · split at h
    · rename_i a b c e hc
      have hr : readV b.data.toList = numV b.data.toList 1 := by rw [readV_yes (can_mono hc (by omega)), numV_yes hc]
      split at h
      · cases h
      · rename_i l hl
        cases h
        rw [hr, hl]; rfl
    · cases h
  · cases h
theorem mt_SO {x : ByteArray} {m : Mt} (h : mtS x = some m) (hm : methB m = true) : mtO x = some m := by
  obtain ⟨_, h3, h4, _⟩ := meth_parts hm
  unfold mtS at h
  unfold mtO
  split at h
  · rename_i a b c e
    cases h
    try simp only at h3 h4 ⊢
    have hc : canB b.data.toList 1 = true := by
      cases hc : canB b.data.toList 1
      · rcases read_big hc (Nat.le_refl _) with h | h
        · rw [h] at h3; omega
        · have e1 : ((10 ^ 1 : Nat) : Int) = 10 := rfl
          rw [e1] at h; omega
      · rfl
    have hr : readV b.data.toList = numV b.data.toList 1 := by rw [readV_yes (can_mono hc (by omega)), numV_yes hc]
    rw [if_pos hc, ← hr]
    cases hn : ntnO (readV b.data.toList) c with
    | none => rw [hn] at h4; simp at h4
    | some l => rfl
  · cases h
theorem rd_OS : ∀ {L : List ByteArray} {acc ms : List Mt}, rdM mtO L acc = some ms → rdM mtS L acc = some ms
  | [], acc, ms, h => h
  | x :: t, acc, ms, h => by
    rw [rdM] at h
    split at h
    · cases h
    · rename_i m hm
      rw [rdM_some (mt_OS hm)]
      exact rd_OS h
theorem rd_acc {f : ByteArray → Option Mt} : ∀ {L : List ByteArray} {acc ms : List Mt}, rdM f L acc = some ms → ∀ m ∈ acc, m ∈ ms
  | [], acc, ms, h, m, hm => by cases h; exact hm
  | x :: t, acc, ms, h, m, hm => by
    rw [rdM] at h
    split at h
    · cases h
    · exact rd_acc h m (by simp [hm])
theorem rd_SO : ∀ {L : List ByteArray} {acc ms : List Mt}, rdM mtS L acc = some ms → (∀ m ∈ ms, methB m = true) → rdM mtO L acc = some ms
  | [], acc, ms, h, _ => h
  | x :: t, acc, ms, h, hg => by
    rw [rdM] at h
    split at h
    · cases h
    · rename_i m hm
      have hin := rd_acc h m (by simp)
      rw [rdM_some (mt_SO hm (hg m hin))]
      exact rd_SO h hg
/-- A library read from a text, the lines by f. -/
def lbG (f : ByteArray → Option Mt) (s : ByteArray) : Option (List Mt) := match rdM f (splitW 10 s).dropLast [] with
  | none => none
  | some ms => if libB ms && decide (libTo ms ms.length = s) then some ms else none
theorem lbG_ok {f : ByteArray → Option Mt} {s : ByteArray} {ms : List Mt} (h : lbG f s = some ms) : rdM f (splitW 10 s).dropLast [] = some ms ∧ libB ms = true ∧ libTo ms ms.length = s := by
  unfold lbG at h
  split at h
  · cases h
  · rename_i ms' hr
    split at h
    · rename_i hh
      cases h
      rw [Bool.and_eq_true, decide_eq_true_eq] at hh
      exact ⟨hr, hh⟩
    · cases h
theorem lbG_yes {f : ByteArray → Option Mt} {s : ByteArray} {ms : List Mt} (h1 : rdM f (splitW 10 s).dropLast [] = some ms) (h2 : libB ms = true) (h3 : libTo ms ms.length = s) : lbG f s = some ms := by
  unfold lbG
  rw [h1]
  simp only
  rw [h2, decide_eq_true h3]; rfl
theorem lbG_same (s : ByteArray) : lbG mtO s = lbG mtS s := by
  cases h1 : lbG mtO s with
  | some ms =>
    obtain ⟨a, b, c⟩ := lbG_ok h1
    exact (lbG_yes (rd_OS a) b c).symm
  | none =>
    cases h2 : lbG mtS s with
    | none => rfl
    | some ms =>
      obtain ⟨a, b, c⟩ := lbG_ok h2
      rw [lbG_yes (rd_SO a (lib_allN b).2) b c] at h1
      cases h1
/-- What both readers answer. -/
def lbR (s : ByteArray) : Option (List Mt) := if s.size ≤ 8000 then lbG mtS s else none
theorem lbR_big {s : ByteArray} (h : ¬ s.size ≤ 8000) : lbR s = none := by unfold lbR; rw [if_neg h]
theorem lbR_spec {s : ByteArray} (h : s.size ≤ 8000) : lbR s = lbG mtS s := by unfold lbR; rw [if_pos h]
theorem lbR_impl {s : ByteArray} (h : s.size ≤ 8000) : lbR s = lbG mtO s := by rw [lbR_spec h, lbG_same]
/-- The text of a library ends with a line's end. -/
theorem libTo_last (ms : List Mt) : ∀ k, (libTo ms k).data.toList = [] ∨ ∃ l, (libTo ms k).data.toList = l ++ [10]
  | 0 => .inl rfl
  | k + 1 => .inr ⟨(libTo ms k).data.toList ++ ((ms.getD k dM).name.data.toList ++ [32] ++ (numT (ms.getD k dM).stage).data.toList ++ [32] ++ (shortT (ms.getD k dM).l).data.toList), by
    rw [libTo]
    simp [lineT]⟩
theorem split_last (c : UInt8) : ∀ l : List UInt8, ∃ X, splitL c (l ++ [c]) = X ++ [[]]
  | [] => ⟨[[]], by simp [splitL]⟩
  | b :: l => by
    obtain ⟨X, hX⟩ := split_last c l
    rw [List.cons_append, splitL]
    split
    · exact ⟨[] :: X, by rw [hX]; rfl⟩
    · rw [hX]
      cases X with
      | nil =>
        exfalso
        have := congrArg List.length hX
        have hc : (splitL c (l ++ [c])).length ≥ 2 := by
          clear this hX
          induction l with
          | nil => simp [splitL]
          | cons d l ih =>
            rw [List.cons_append, splitL]
            split
            · simp only [List.length_cons]
              have : splitL c (l ++ [c]) ≠ [] := splitL_ne _ _
              have := List.length_pos_iff.2 this
              omega
            · cases he : splitL c (l ++ [c]) with
              | nil => rw [he] at ih; simp at ih
              | cons q r => rw [he] at ih; simpa [glue] using ih
        simp at this
        omega
      | cons q r => exact ⟨([b] ++ q) :: r, rfl⟩
/-- A text whose last line does not end is no library's. -/
theorem lbR_last {s : ByteArray} {X : List ByteArray} {x : ByteArray} (h : splitW 10 s = X ++ [x]) (hx : x.data.toList ≠ []) : lbR s = none := by
  by_cases hz : s.size ≤ 8000
  · rw [lbR_spec hz]
    cases hp : lbG mtS s with
    | none => rfl
    | some ms =>
      exfalso
      obtain ⟨_, _, ht⟩ := lbG_ok hp
      have hsl : ∃ Y, splitL 10 s.data.toList = Y ++ [[]] := by
        rcases libTo_last ms ms.length with h0 | ⟨l, h0⟩
        · rw [ht] at h0; rw [h0]; exact ⟨[], rfl⟩
        · rw [ht] at h0; rw [h0]; exact split_last 10 l
      obtain ⟨Y, hY⟩ := hsl
      unfold splitW at h
      rw [hY, List.map_append] at h
      have := (List.append_inj' h rfl).2
      injection this with this
      rw [← this] at hx
      exact hx rfl
  · exact lbR_big hz
end Go.Proofs.YtenhnloljdfjhaaDoor
