/- Pieces of a cut text are no longer than it; the library's own bound for short texts. (From Y3 and Y4, for seats without records.) -/
import Derived.Test.YtenhnloljdfjhaaDoorPk28
namespace Go.Proofs.YtenhnloljdfjhaaDoor
open Go Go.RowKit
set_option linter.unusedVariables false
set_option linter.unusedSimpArgs false

theorem splitL_size (c : UInt8) : ∀ (l : List UInt8), ∀ x ∈ splitL c l, x.length ≤ l.length
  | [], x, hx => by simp [splitL] at hx; subst hx; simp
  | b :: l, x, hx => by
    unfold splitL at hx
    split at hx
    · rcases List.mem_cons.1 hx with e | e
      · subst e; simp
      · have := splitL_size c l x e; simp; omega
    · have ih := splitL_size c l
      cases h : splitL c l with
      | nil => rw [h] at hx; simp [glue] at hx; subst hx; simp
      | cons q r =>
        rw [h] at hx ih
        simp only [glue] at hx
        rcases List.mem_cons.1 hx with e | e
        · subst e
          have := ih q (List.mem_cons_self ..)
          simp; omega
        · have := ih x (List.mem_cons_of_mem _ e); simp; omega
theorem splitW_size {c : UInt8} {s : ByteArray} : ∀ x ∈ splitW c s, x.size ≤ s.size := by
  intro x hx
  unfold splitW at hx
  obtain ⟨l, hl, rfl⟩ := List.mem_map.1 hx
  have := splitL_size c _ l hl
  rw [bytes_len] at this
  show l.toArray.size ≤ _
  rw [List.size_toArray]; exact this
/-- The library's own bound for short texts: some number. -/
def MaxOk (w : World) : Prop := ∀ w', Below w.heap.size w w' → ∃ m, w'.cell? ⟨0, 0, none⟩ = some (.int .i64 m)
theorem MaxOk.to {w w' : World} (h : MaxOk w) (hb : Below w.heap.size w w') : MaxOk w' := fun W hW => h W (bw_to hb hW)
end Go.Proofs.YtenhnloljdfjhaaDoor
