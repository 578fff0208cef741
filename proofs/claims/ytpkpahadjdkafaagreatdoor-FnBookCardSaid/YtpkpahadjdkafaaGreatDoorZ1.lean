/- Books read from their texts: a plain account; ReadBook, both sides. -/
import Derived.Test.YtpkpahadjdkafaaGreatDoorY4
import Derived.Test.YtpkpahadjdkafaaGreatDoorI1
import Derived.Test.YtpkpahadjdkafaaGreatDoorV3
import Derived.Lib.IndexLaws
namespace Go.Proofs.YtpkpahadjdkafaaGreatDoor
open Go Go.RowKit
set_option linter.unusedVariables false
set_option linter.unusedSimpArgs false

def nl : ByteArray := ⟨#[10]⟩
def bookOf : List ByteArray → List Rc → Nat → List Rc × Nat
  | [], acc, a => (acc, a)
  | l :: ls, acc, a => match readO (l ++ nl) with
    | some r => if bookB (acc ++ [r]) then bookOf ls (acc ++ [r]) (a + l.size + 1) else (acc, a)
    | none => (acc, a)
def linesL (l : List UInt8) : List ByteArray := ((splitL 10 l).map fun l => (⟨l.toArray⟩ : ByteArray)).dropLast
theorem book_none {l : ByteArray} {ls : List ByteArray} {acc : List Rc} {a : Nat} (h : readO (l ++ nl) = none) : bookOf (l :: ls) acc a = (acc, a) := by
  rw [bookOf, h]
theorem book_bad {l : ByteArray} {ls : List ByteArray} {acc : List Rc} {a : Nat} {r : Rc} (h : readO (l ++ nl) = some r) (hb : bookB (acc ++ [r]) = false) : bookOf (l :: ls) acc a = (acc, a) := by
  rw [bookOf, h]; simp [hb]
theorem book_more {l : ByteArray} {ls : List ByteArray} {acc : List Rc} {a : Nat} {r : Rc} (h : readO (l ++ nl) = some r) (hb : bookB (acc ++ [r]) = true) : bookOf (l :: ls) acc a = bookOf ls (acc ++ [r]) (a + l.size + 1) := by
  rw [bookOf, h]; simp [hb]
theorem split_hit (c : UInt8) : ∀ (l : List UInt8) (e : Nat), l[e]? = some c → (∀ k, k < e → l[k]? ≠ some c) → splitL c l = l.take e :: splitL c (l.drop (e + 1))
  | [], e, h, _ => by simp at h
  | b :: l, 0, h, _ => by
    simp at h
    subst h
    rw [splitL, if_pos rfl]; rfl
  | b :: l, e + 1, h, hn => by
    have hb : b ≠ c := by
      intro hb
      exact hn 0 (by omega) (by rw [hb]; rfl)
    rw [splitL, if_neg hb, split_hit c l e (by simpa using h) (fun k hk => by have := hn (k + 1) (by omega); simpa using this)]
    rfl
theorem split_miss (c : UInt8) : ∀ (l : List UInt8), (∀ k : Nat, l[k]? ≠ some c) → splitL c l = [l]
  | [], _ => rfl
  | b :: l, hn => by
    have hb : b ≠ c := fun hb => hn 0 (by rw [hb]; rfl)
    rw [splitL, if_neg hb, split_miss c l (fun k => by have := hn (k + 1); simpa using this)]
    rfl
theorem lines_miss {l : List UInt8} (h : Lib.indexByte l 10 = -1) : linesL l = [] := by
  unfold linesL
  rw [split_miss 10 l (fun k => Lib.indexByte_none h k)]
  rfl
theorem lines_hit {l : List UInt8} {e : Nat} (h : Lib.indexByte l 10 = (e : Int)) : e < l.length ∧ linesL l = (⟨(l.take e).toArray⟩ : ByteArray) :: linesL (l.drop (e + 1)) ∧ l.take (e + 1) = l.take e ++ [10] := by
  obtain ⟨h1, h2⟩ := Lib.indexByte_some h
  obtain ⟨h3, h4⟩ := List.getElem?_eq_some_iff.1 h1
  refine ⟨h3, ?_, by rw [List.take_succ_eq_append_getElem h3, h4]⟩
  unfold linesL
  rw [split_hit 10 l e h1 h2, List.map_cons, List.dropLast_cons_of_ne_nil]
  intro hn
  exact splitL_ne 10 _ (List.map_eq_nil_iff.1 hn)
theorem ext_all (s : ByteArray) (a : Nat) : (s.extract a s.size).data.toList = s.data.toList.drop a := by
  rw [ext_list, List.take_of_length_le]
  rw [List.length_drop, bytes_len]; omega
theorem ext_line {s : ByteArray} {a e : Nat} (h : Lib.indexByte (s.data.toList.drop a) 10 = (e : Int)) : s.extract a (a + e + 1) = (⟨((s.data.toList.drop a).take e).toArray⟩ : ByteArray) ++ nl := by
  have hx := (lines_hit h).2.2
  apply ByteArray.ext
  apply Array.toList_inj.1
  rw [ext_list, show a + e + 1 - a = e + 1 by omega, hx]
  simp [nl, ByteArray.data_append]
theorem recB_fit {r : Rc} (h : recB r = true) : RcFit r := by
  unfold recB wordB touchB noteB at h
  simp only [Bool.and_eq_true, decide_eq_true_eq, bytes_len] at h
  have h1 := h.2.1.2
  have h2 := h.2.2.1.2
  have h3 := h.2.2.2.2.2
  unfold RcFit maxLen
  refine ⟨by omega, by omega, by omega⟩
theorem readO_good {s : ByteArray} {r : Rc} (h : readO s = some r) : recB r = true := by
  unfold readO readW at h
  split at h
  · split at h
    · rename_i hh
      cases h
      exact (Bool.and_eq_true _ _ ▸ hh : _ ∧ _).1
    · cases h
  · cases h
end Go.Proofs.YtpkpahadjdkafaaGreatDoor
