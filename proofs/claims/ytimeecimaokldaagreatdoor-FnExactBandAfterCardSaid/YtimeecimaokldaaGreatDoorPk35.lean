/- Rows of rows of texts of the call's own: how they lie, marked, found held, compared. -/
import Derived.Test.YtimeecimaokldaaGreatDoorPk34
import Derived.Test.YtimeecimaokldaaGreatDoorPk12
namespace Go.Proofs.YtimeecimaokldaaGreatDoor
open Go Go.RowKit
set_option linter.unusedVariables false
set_option linter.unusedSimpArgs false

/-- A row of rows of texts of the call's own, with the rows' values. -/
def OwnSV (w : World) (base : Nat) (v : Value) (L : List (List ByteArray)) (vs : List Value) : Prop :=
  w.ownsRow base 22 1 v L.length vs ∧ ∀ i (h : i < L.length) (h' : i < vs.length), w.ownsRow base 9 1 vs[i] L[i].length (L[i].map Value.string)
def ApartV (vs : List Value) : Prop := vs.Pairwise fun p q => p.ownBlock = none ∨ p.ownBlock ≠ q.ownBlock
def OwnSD (w : World) (base : Nat) (v : Value) (L : List (List ByteArray)) : Prop := ∃ vs, OwnSV w base v L vs ∧ ApartV vs
theorem OwnSV.len {w : World} {base : Nat} {v : Value} {L : List (List ByteArray)} {vs : List Value} (h : OwnSV w base v L vs) : vs.length = L.length := by have := h.1.1; simpa using this
theorem OwnSV.to {w w' : World} {base : Nat} {v : Value} {L : List (List ByteArray)} {vs : List Value} (h : OwnSV w base v L vs) (hb : Below w.heap.size w w') : OwnSV w' base v L vs := ⟨own_to h.1 hb, fun i h1 h2 => own_to (h.2 i h1 h2) hb⟩
theorem OwnSV.base {w : World} {base b2 : Nat} {v : Value} {L : List (List ByteArray)} {vs : List Value} (h : OwnSV w base v L vs) (hb : b2 ≤ base) : OwnSV w b2 v L vs := ⟨own_base h.1 hb, fun i h1 h2 => own_base (h.2 i h1 h2) hb⟩
theorem OwnSV.nil (w : World) (base : Nat) : OwnSV w base (.slice none 0 0) [] [] := ⟨World.ownsRow_nil _ _ _ _, fun i h => absurd h (Nat.not_lt_zero _)⟩
theorem OwnSV.form {w : World} {base : Nat} {v : Value} {L : List (List ByteArray)} {vs : List Value} (h : OwnSV w base v L vs) : ∃ A c, v = .slice A L.length c := by obtain ⟨A, c, e, _⟩ := sl_of_own h.1; exact ⟨A, c, e⟩
theorem OwnSV.kept {w w' : World} {base : Nat} {row : Option Nat} {v : Value} {L : List (List ByteArray)} {vs : List Value} (h : OwnSV w base v L vs) (hg : w.grownBy w' row) (hr : ∀ k, row = some k → k < base ∨ w.heap.size ≤ k) : OwnSV w' base v L vs := by
  have key : ∀ {e : TypeId} {s n : Nat} {u : Value} {xs : List Value}, w.ownsRow base e s u n xs → w'.ownsRow base e s u n xs := by
    intro e s n u xs ho
    refine ho.kept hg ?_
    cases hb : u.ownBlock with
    | none => exact .inl rfl
    | some b => exact .inr fun e => by have := hr b e.symm; have := ho.lt b hb; omega
  exact ⟨key h.1, fun i h1 h2 => key (h.2 i h1 h2)⟩
/-- Blocks below a bound are as they were, and so are rows that lie below it. -/
theorem own_low {w w' : World} {base B n : Nat} {e : TypeId} {size : Nat} {v : Value} {xs : List Value} (h : w.ownsRow base e size v n xs) (hb : Below B w w') (hn : ∀ k, v.ownBlock = some k → k < B) : w'.ownsRow base e size v n xs := by
  obtain ⟨h1, h2⟩ := h
  refine ⟨h1, ?_⟩
  rcases h2 with h2 | ⟨g, cap, cur, rfl, hbase, hg, r⟩
  · exact .inl h2
  · exact .inr ⟨g, cap, cur, rfl, hbase, (hb.block g (hn g rfl)).trans hg, r⟩
theorem OwnSV.low {w0 w w' : World} {base B : Nat} {v : Value} {L : List (List ByteArray)} {vs : List Value} (h0 : OwnSV w0 base v L vs) (h : OwnSV w base v L vs) (hb : Below B w w') (hB : w0.heap.size ≤ B) : OwnSV w' base v L vs :=
  ⟨own_low h.1 hb (fun k hk => Nat.lt_of_lt_of_le (h0.1.lt k hk).2 hB), fun i h1 h2 => own_low (h.2 i h1 h2) hb (fun k hk => Nat.lt_of_lt_of_le ((h0.2 i h1 h2).lt k hk).2 hB)⟩
theorem OwnSV.push {wA w3 : World} {base : Nat} {V V2 x : Value} {L : List (List ByteArray)} {l : List ByteArray} {vs : List Value} (h : OwnSV wA base V L vs) (hx : wA.ownsRow base 9 1 x l.length (l.map Value.string))
    (h3 : w3.ownsRow base 22 1 V2 (L.length + 1) (vs ++ [x])) (hg : wA.grownBy w3 V.ownBlock) : OwnSV w3 base V2 (L ++ [l]) (vs ++ [x]) := by
  have hl := h.len
  refine ⟨by rw [List.length_append]; exact h3, fun i h1 h2 => ?_⟩
  rw [List.length_append, List.length_singleton] at h1
  rcases Nat.lt_or_ge i L.length with hlt | hge
  · rw [List.getElem_append_left (by omega), List.getElem_append_left hlt]
    have ho := h.2 i hlt (by omega)
    exact ho.kept hg (own_kinds' ho h.1 (by decide))
  · obtain rfl : i = L.length := by omega
    have e1 : (vs ++ [x])[L.length] = x := by rw [List.getElem_append_right (by omega)]; simp [hl]
    have e2 : (L ++ [l])[L.length] = l := by rw [List.getElem_append_right (by omega)]; simp
    rw [e1, e2]
    exact hx.kept hg (own_kinds' hx h.1 (by decide))
theorem ApartV.snoc {w : World} {base : Nat} {v x : Value} {L : List (List ByteArray)} {vs : List Value} (hA : ApartV vs) (h : OwnSV w base v L vs) (hx : ∀ k, x.ownBlock = some k → w.heap.size ≤ k) : ApartV (vs ++ [x]) := by
  unfold ApartV at hA ⊢
  rw [List.pairwise_append]
  refine ⟨hA, List.pairwise_cons.2 ⟨fun _ h => (by cases h), List.Pairwise.nil⟩, ?_⟩
  intro p hp q hq
  rw [List.mem_singleton.1 hq]
  obtain ⟨i, hi, rfl⟩ := List.getElem_of_mem hp
  have hl := h.len
  cases hb : (vs[i]).ownBlock with
  | none => exact .inl rfl
  | some b => exact .inr fun e => by have := hx b e.symm; have := ((h.2 i (by omega) hi).lt b hb).2; omega
theorem ApartV.ne {vs : List Value} (h : ApartV vs) {i k : Nat} (hi : i < vs.length) (hk : k < vs.length) (hne : i ≠ k) : (vs[i]).ownBlock = none ∨ (vs[i]).ownBlock ≠ (vs[k]).ownBlock := by
  have hp := List.pairwise_iff_getElem.1 h
  rcases Nat.lt_or_ge i k with hlt | hge
  · exact hp i k hi hk hlt
  · rcases hp k i hk hi (by omega) with e | e
    · cases hb : (vs[i]).ownBlock with
      | none => exact .inl rfl
      | some b => exact .inr (by rw [e]; simp)
    · exact .inr (fun x => e x.symm)
def endSS : Nat → List (List ByteArray) → Nat
  | q, [] => q
  | q, l :: t => endSS (q + l.length) t
def marksSS : Nat → List (List ByteArray) → List (List ByteArray)
  | _, [] => []
  | q, l :: t => marksT q l.length :: marksSS (q + l.length) t
theorem marksSS_len : ∀ (q : Nat) (L : List (List ByteArray)), (marksSS q L).length = L.length
  | _, [] => rfl
  | q, l :: t => by rw [marksSS, List.length_cons, List.length_cons, marksSS_len]
theorem endSS_le {B : Nat} : ∀ (q : Nat) (L : List (List ByteArray)), (∀ l ∈ L, l.length ≤ B) → endSS q L ≤ q + B * L.length
  | _, [], _ => by simp [endSS]
  | q, l :: t, h => by
    have h1 := h l (by simp)
    have h2 := endSS_le (q + l.length) t (fun x hx => h x (by simp [hx]))
    rw [endSS, List.length_cons, Nat.mul_add]; omega
theorem endSS_step : ∀ (q : Nat) (L : List (List ByteArray)) (k : Nat) (h : k < L.length), endSS q (L.take (k + 1)) = endSS q (L.take k) + (L[k]'h).length
  | _, [], _, h => absurd h (Nat.not_lt_zero _)
  | q, l :: t, 0, _ => by simp [endSS]
  | q, l :: t, k + 1, h => by
    rw [List.take_succ_cons, List.take_succ_cons, endSS, endSS, endSS_step _ t k (by simpa using h)]; rfl
theorem marksSS_get : ∀ (q : Nat) (L : List (List ByteArray)) (k : Nat) (h : k < L.length), (marksSS q L)[k]'(by rw [marksSS_len]; exact h) = marksT (endSS q (L.take k)) (L[k]'h).length
  | _, [], _, h => absurd h (Nat.not_lt_zero _)
  | q, l :: t, 0, _ => by simp [marksSS, endSS]
  | q, l :: t, k + 1, h => by
    have ih := marksSS_get (q + l.length) t k (by simpa using h)
    rw [List.take_succ_cons, endSS]
    exact ih
/-- The first k rows are marked. -/
def partSS (q : Nat) (L : List (List ByteArray)) (k : Nat) : List (List ByteArray) := (marksSS q L).take k ++ L.drop k
theorem partSS_zero (q : Nat) (L : List (List ByteArray)) : partSS q L 0 = L := by simp [partSS]
theorem partSS_all (q : Nat) (L : List (List ByteArray)) : partSS q L L.length = marksSS q L := by
  unfold partSS
  rw [List.take_of_length_le (by rw [marksSS_len]; omega), List.drop_of_length_le (by omega), List.append_nil]
theorem partSS_len (q : Nat) (L : List (List ByteArray)) (k : Nat) (h : k ≤ L.length) : (partSS q L k).length = L.length := by
  unfold partSS; simp [marksSS_len]; omega
theorem partSS_get (q : Nat) (L : List (List ByteArray)) (k : Nat) (h : k < L.length) : (partSS q L k)[k]'(by rw [partSS_len q L k (by omega)]; exact h) = L[k] := by
  unfold partSS
  rw [List.getElem_append_right (by simp [marksSS_len]; omega)]
  simp [marksSS_len, Nat.min_eq_left (Nat.le_of_lt h)]
theorem partSS_step (q : Nat) (L : List (List ByteArray)) (k : Nat) (h : k < L.length) : (partSS q L k).set k (marksT (endSS q (L.take k)) (L[k]'h).length) = partSS q L (k + 1) := by
  unfold partSS
  have e1 : (marksSS q L).take (k + 1) = (marksSS q L).take k ++ [marksT (endSS q (L.take k)) (L[k]'h).length] := by
    rw [List.take_succ_eq_append_getElem (by rw [marksSS_len]; exact h), marksSS_get q L k h]
  have e2 : L.drop k = L[k] :: L.drop (k + 1) := List.drop_eq_getElem_cons h
  have hl : ((marksSS q L).take k).length = k := by simp [marksSS_len]; omega
  rw [e1, e2, List.set_append_right _ _ (by omega), hl, Nat.sub_self, List.set_cons_zero, List.append_assoc]
  rfl
/-- One inner row is written. -/
theorem OwnSV.put {w w' : World} {base : Nat} {v : Value} {M : List (List ByteArray)} {vs : List Value} {k : Nat} (h : OwnSV w base v M vs) (hA : ApartV vs) (hk : k < M.length) (hkv : k < vs.length) {l : List ByteArray} (hl : l.length = M[k].length)
    (h2 : w'.ownsRow base 9 1 vs[k] l.length (l.map Value.string)) (hg : w.grownBy w' (vs[k]).ownBlock) : OwnSV w' base v (M.set k l) vs := by
  have hlen := h.len
  refine ⟨by rw [List.length_set]; exact h.1.kept hg (own_kinds' h.1 (h.2 k hk hkv) (by decide)), fun i h1 h3 => ?_⟩
  rw [List.length_set] at h1
  by_cases e : i = k
  · subst e
    rw [List.getElem_set_self]
    exact h2
  · rw [List.getElem_set_ne (fun x => e x.symm)]
    exact (h.2 i h1 h3).kept hg (hA.ne h3 hkv e)
theorem OwnSV.at {w : World} {base g c : Nat} {L : List (List ByteArray)} {vs : List Value} (h : OwnSV w base (.slice (some ⟨g, 0, none⟩) L.length c) L vs) {k : Nat} (hk : k < L.length) (hkv : k < vs.length) : w.cell? ⟨g, k, none⟩ = some vs[k] := by
  rw [h.1.cellAt k (by omega), List.getElem?_eq_getElem hkv]
theorem OwnSV.row {w : World} {base : Nat} {v : Value} {L : List (List ByteArray)} {vs : List Value} (h : OwnSV w base v L vs) : v = .slice none 0 0 ∧ L = [] ∨ ∃ g c, v = .slice (some ⟨g, 0, none⟩) L.length c ∧ base ≤ g ∧ L.length ≤ maxLen := by
  rcases h.1.2 with ⟨rfl, h0⟩ | ⟨g, cap, cur, rfl, hb, hh, hnc, hcm, _⟩
  · exact .inl ⟨rfl, List.eq_nil_of_length_eq_zero h0⟩
  · exact .inr ⟨g, cap, rfl, hb, Nat.le_trans hnc hcm⟩
end Go.Proofs.YtimeecimaokldaaGreatDoor
