/- Blocks of bytes, made of a text and read back; a text of one byte. -/
import Derived.Test.YtpkpahadjdkafaaGreatDoorM2
import Derived.Test.YtpkpahadjdkafaaGreatDoorA1
namespace Go.Proofs.YtpkpahadjdkafaaGreatDoor
open Go Go.RowKit
set_option linter.unusedVariables false
set_option linter.unusedSimpArgs false

def u8v (c : UInt8) : Value := .int .u8 (c.toNat : Int)
/-- Block g holds the bytes l, made of a text. -/
def BRow (w : World) (g n : Nat) (l : List UInt8) : Prop := l.length = n ∧ ∃ (cs : Array Value) (fr : Nat), w.heap[g]? = some (.cells cs 5 (fr, fr + 1)) ∧ n ≤ fr ∧ n ≤ cs.size ∧ cs.toList.take n = l.map u8v
theorem BRow.lt {w : World} {g n : Nat} {l : List UInt8} (h : BRow w g n l) : g < w.heap.size := by
  obtain ⟨_, cs, fr, hg, _⟩ := h
  exact (Array.getElem?_eq_some_iff.1 hg).1
theorem BRow.to {w w' : World} {g n : Nat} {l : List UInt8} (h : BRow w g n l) (hb : Below w.heap.size w w') : BRow w' g n l := by
  have hlt := h.lt
  obtain ⟨h1, cs, fr, hg, h2⟩ := h
  exact ⟨h1, cs, fr, (hb.block g hlt).trans hg, h2⟩
theorem BRow.cell {w : World} {g n : Nat} {l : List UInt8} (h : BRow w g n l) {j : Nat} (hj : j < l.length) : w.cell? ⟨g, j, none⟩ = some (u8v l[j]) := by
  obtain ⟨h1, cs, fr, hg, h2, h3, h4⟩ := h
  rw [cell_of_row w g j cs _ _ hg, ← Array.getElem?_toList]
  have e : (cs.toList.take n)[j]? = (l.map u8v)[j]? := by rw [h4]
  rw [List.getElem?_take_of_lt (by omega)] at e
  rw [e]; simp [hj]
theorem BRow.free {w : World} {g n : Nat} {l : List UInt8} (h : BRow w g n l) {j : Nat} (hj : j < n) : w.frozen? ⟨g, j, none⟩ = false := by
  obtain ⟨h1, cs, fr, hg, h2, h3, h4⟩ := h
  simp only [World.frozen?, hg]
  simp; omega
theorem BRow.set {w : World} {g n : Nat} {l : List UInt8} (h : BRow w g n l) {j : Nat} (hj : j < n) (b : UInt8) : BRow (w.setCell ⟨g, j, none⟩ (u8v b)) g n (l.set j b) := by
  obtain ⟨h1, cs, fr, hg, h2, h3, h4⟩ := h
  refine ⟨by simpa using h1, cs.setIfInBounds j (u8v b), fr, by simp [World.setCell, Array.getElem?_modify, hg], h2, by simpa using h3, ?_⟩
  rw [Array.toList_setIfInBounds, List.take_set, h4, List.map_set]
theorem BRow.conv {P : Program} {src dst e : TypeId} (hs : P.underlying src = some (.slice e)) (he : P.underlying e = some (.int .u8)) (hd : P.underlying dst = some .string) {w : World} {g n cap : Nat} {l : List UInt8} (h : BRow w g n l) :
    (convert src dst (.slice (some ⟨g, 0, none⟩) n cap)).run P w = .ok (.string ⟨l.toArray⟩) w := by
  have hl := h.1
  subst hl
  refine run_convert_bytes_back w src dst e ⟨g, 0, none⟩ cap l hs he hd (fun j hj => ?_)
  rw [Addr.add_lit, Nat.zero_add, h.cell hj]; rfl
/-- '[]byte(s)'. -/
theorem bytes_of (s : ByteArray) (n : Nat) (hn : s.size = n) (w : World) : ∃ (w' : World) (C : Nat), (convert 9 22 (.string s)).run Tryz.prog w = .ok (.slice (some ⟨w.heap.size, 0, none⟩) n C) w' ∧ BRow w' w.heap.size n s.data.toList ∧ Below w.heap.size w w' := by
  subst hn
  refine ⟨_, _, run_bytes_of_string w 9 22 5 s Tryz.underlying9 Tryz.underlying22 Tryz.underlying5, ⟨bytes_len s, bytesRow s (grownCap w s.size 0 5), _, heap_alloc_new _ _, ?_, ?_, ?_⟩, Below.alloc (Below.drew (Below.refl _ _)) (Nat.le_refl _) _⟩
  · unfold bytesRow; rw [Array.size_append, Array.size_map, Array.size_replicate]; show s.size ≤ s.size + _; omega
  · unfold bytesRow; rw [Array.size_append, Array.size_map, Array.size_replicate]; show s.size ≤ s.size + _; omega
  · simp only [bytesRow, Array.toList_append, Array.toList_map]
    rw [List.take_append_of_le_length (by simp), List.take_of_length_le (by simp)]
    rfl
theorem byte_one {P : Program} {src dst e : TypeId} (hs : P.underlying src = some (.slice e)) (he : P.underlying e = some (.int .u8)) (hd : P.underlying dst = some .string) (W : World) (g : Nat) (c : UInt8) (hg : W.heap[g]? = some (.cells #[.int .u8 (c.toNat : Int)] e (0, 0))) :
    (convert src dst (.slice (some ⟨g, 0, none⟩) 1 1)).run P W = .ok (.string ⟨#[c]⟩) W := by
  refine run_convert_bytes_back W src dst e ⟨g, 0, none⟩ 1 [c] hs he hd (fun j hj => ?_)
  have : j = 0 := by simpa using hj
  subst this
  rw [Addr.add_lit, heap_cell hg]
  simp
end Go.Proofs.YtpkpahadjdkafaaGreatDoor
