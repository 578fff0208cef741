/- Texts and methods marked; a variable that holds a method. -/
import Derived.Test.YtofpjbdelmmclaaGreatDoorPk3
import Derived.Test.YtofpjbdelmmclaaGreatDoorPk14
import Derived.Test.YtofpjbdelmmclaaGreatDoorPk28
import Derived.Test.YtofpjbdelmmclaaGreatDoorPk30
import Derived.Test.YtofpjbdelmmclaaGreatDoorPk33
import Derived.Test.YtofpjbdelmmclaaGreatDoorPk20
namespace Go.Proofs.YtofpjbdelmmclaaGreatDoor
open Go Go.RowKit
set_option linter.unusedVariables false
set_option linter.unusedSimpArgs false

def marksT (k n : Nat) : List ByteArray := (List.range n).map fun i => mText (k + i)
theorem marksT_length (k n : Nat) : (marksT k n).length = n := by simp [marksT]
theorem marksT_get {k n i : Nat} (h : i < (marksT k n).length) : (marksT k n)[i] = mText (k + i) := by simp [marksT]
theorem marksT_succ (k n : Nat) : marksT k (n + 1) = marksT k n ++ [mText (k + n)] := by simp [marksT, List.range_succ]
/-- A variable that holds a method. -/
def XBox (w : World) (G : Nat) (m : Mt) (r : Value) : Prop := w.ownsRow G 49 3 (.slice (some ⟨G, 0, none⟩) 1 1) 1 [.string m.name, .int .i64 m.stage, r]
theorem xbox_of {w : World} {G : Nat} {m : Mt} {r : Value} (h : w.heap[G]? = some (.cells #[.string m.name, .int .i64 m.stage, r] 49 (0, 0))) : XBox w G m r :=
  own_of_heap (base := G) (n := 1) (size := 3) h (Nat.le_refl _) (by unfold maxLen; omega) rfl
theorem xbox_c {w : World} {G : Nat} {m : Mt} {r : Value} (h : XBox w G m r) : w.cell? ⟨G, 0, none⟩ = some (.string m.name) ∧ w.cell? ⟨G, 1, none⟩ = some (.int .i64 m.stage) ∧ w.cell? ⟨G, 2, none⟩ = some r := by
  unfold XBox at h
  exact ⟨h.cellAt 0 (by omega), h.cellAt 1 (by omega), h.cellAt 2 (by omega)⟩
theorem xbox_f {w : World} {G : Nat} {m : Mt} {r : Value} (h : XBox w G m r) : w.frozen? ⟨G, 0, none⟩ = false ∧ w.frozen? ⟨G, 1, none⟩ = false ∧ w.frozen? ⟨G, 2, none⟩ = false := by
  unfold XBox at h
  exact ⟨h.frozenAt 0, h.frozenAt 1, h.frozenAt 2⟩
theorem xbox_to {w w' : World} {G : Nat} {m : Mt} {r : Value} (h : XBox w G m r) (hb : Below w.heap.size w w') : XBox w' G m r := own_to (by unfold XBox at h; exact h) hb
theorem xbox_row {w w' : World} {G : Nat} {m : Mt} {r v : Value} (h : XBox w G m r) (hg : w.grownBy w' v.ownBlock) (hne : v.ownBlock = none ∨ v.ownBlock ≠ some G) : XBox w' G m r := by
  refine World.ownsRow.kept (by unfold XBox at h; exact h) hg (.inr ?_)
  rcases hne with e | e
  · rw [e]; intro e'; cases e'
  · exact fun e' => e e'.symm
theorem strs_ownX {w : World} {base n : Nat} {e : TypeId} {v : Value} {zs : List ByteArray} (h : w.ownsRow base e 1 v n (zs.map Value.string)) : Strs w v zs := by
  have hl : zs.length = n := by have := h.1; simpa using this
  subst hl
  exact sl_of_own h
end Go.Proofs.YtofpjbdelmmclaaGreatDoor

/- Rows of rows of texts of the call's own: how they lie, marked, found held, compared. -/
namespace Go.Proofs.YtofpjbdelmmclaaGreatDoor
open Go Go.RowKit
set_option linter.unusedVariables false
set_option linter.unusedSimpArgs false

/-- A row of rows of texts of the call's own, with the rows' values. -/
def OwnSV (w : World) (base : Nat) (v : Value) (L : List (List ByteArray)) (vs : List Value) : Prop :=
  w.ownsRow base 24 1 v L.length vs ∧ ∀ i (h : i < L.length) (h' : i < vs.length), w.ownsRow base 9 1 vs[i] L[i].length (L[i].map Value.string)
def ApartV (vs : List Value) : Prop := vs.Pairwise fun p q => p.ownBlock = none ∨ p.ownBlock ≠ q.ownBlock
def OwnSD (w : World) (base : Nat) (v : Value) (L : List (List ByteArray)) : Prop := ∃ vs, OwnSV w base v L vs ∧ ApartV vs
theorem OwnSV.len {w : World} {base : Nat} {v : Value} {L : List (List ByteArray)} {vs : List Value} (h : OwnSV w base v L vs) : vs.length = L.length := by have := h.1.1; simpa using this
theorem OwnSV.to {w w' : World} {base : Nat} {v : Value} {L : List (List ByteArray)} {vs : List Value} (h : OwnSV w base v L vs) (hb : Below w.heap.size w w') : OwnSV w' base v L vs := ⟨own_to h.1 hb, fun i h1 h2 => own_to (h.2 i h1 h2) hb⟩
theorem OwnSV.base {w : World} {base b2 : Nat} {v : Value} {L : List (List ByteArray)} {vs : List Value} (h : OwnSV w base v L vs) (hb : b2 ≤ base) : OwnSV w b2 v L vs := ⟨own_base h.1 hb, fun i h1 h2 => own_base (h.2 i h1 h2) hb⟩
theorem OwnSV.nil (w : World) (base : Nat) : OwnSV w base (.slice none 0 0) [] [] := ⟨World.ownsRow_nil _ _ _ _, fun i h => absurd h (Nat.not_lt_zero _)⟩
theorem OwnSV.form {w : World} {base : Nat} {v : Value} {L : List (List ByteArray)} {vs : List Value} (h : OwnSV w base v L vs) : ∃ A c, v = .slice A L.length c := by obtain ⟨A, c, e, _⟩ := sl_of_own h.1; exact ⟨A, c, e⟩
theorem OwnSV.kept {w w' : World} {base : Nat} {row : Option Nat} {v : Value} {L : List (List ByteArray)} {vs : List Value} (h : OwnSV w base v L vs) (hg : w.grownBy w' row) (hr : ∀ k, row = some k → k < base ∨ w.heap.size ≤ k) : OwnSV w' base v L vs := by
  have key : ∀ {e : TypeId} {s n : Nat} {u : Value} {xs : List Value}, w.ownsRow base e s u n xs → w'.ownsRow base e s u n xs := by
    intro e s n u xs ho
    refine ho.kept hg ?_
    cases hb : u.ownBlock with
    | none => exact .inl rfl
    | some b => exact .inr fun e => by have := hr b e.symm; have := ho.lt b hb; omega
  exact ⟨key h.1, fun i h1 h2 => key (h.2 i h1 h2)⟩
/-- Blocks below a bound are as they were, and so are rows that lie below it. -/
theorem own_low {w w' : World} {base B n : Nat} {e : TypeId} {size : Nat} {v : Value} {xs : List Value} (h : w.ownsRow base e size v n xs) (hb : Below B w w') (hn : ∀ k, v.ownBlock = some k → k < B) : w'.ownsRow base e size v n xs := by
  obtain ⟨h1, h2⟩ := h
  refine ⟨h1, ?_⟩
  rcases h2 with h2 | ⟨g, cap, cur, rfl, hbase, hg, r⟩
  · exact .inl h2
  · exact .inr ⟨g, cap, cur, rfl, hbase, (hb.block g (hn g rfl)).trans hg, r⟩
theorem OwnSV.low {w0 w w' : World} {base B : Nat} {v : Value} {L : List (List ByteArray)} {vs : List Value} (h0 : OwnSV w0 base v L vs) (h : OwnSV w base v L vs) (hb : Below B w w') (hB : w0.heap.size ≤ B) : OwnSV w' base v L vs :=
  ⟨own_low h.1 hb (fun k hk => Nat.lt_of_lt_of_le (h0.1.lt k hk).2 hB), fun i h1 h2 => own_low (h.2 i h1 h2) hb (fun k hk => Nat.lt_of_lt_of_le ((h0.2 i h1 h2).lt k hk).2 hB)⟩
theorem OwnSV.push {wA w3 : World} {base : Nat} {V V2 x : Value} {L : List (List ByteArray)} {l : List ByteArray} {vs : List Value} (h : OwnSV wA base V L vs) (hx : wA.ownsRow base 9 1 x l.length (l.map Value.string))
    (h3 : w3.ownsRow base 24 1 V2 (L.length + 1) (vs ++ [x])) (hg : wA.grownBy w3 V.ownBlock) : OwnSV w3 base V2 (L ++ [l]) (vs ++ [x]) := by
  have hl := h.len
  refine ⟨by rw [List.length_append]; exact h3, fun i h1 h2 => ?_⟩
  rw [List.length_append, List.length_singleton] at h1
  rcases Nat.lt_or_ge i L.length with hlt | hge
  · rw [List.getElem_append_left (by omega), List.getElem_append_left hlt]
    have ho := h.2 i hlt (by omega)
    exact ho.kept hg (own_kinds' ho h.1 (by decide))
  · obtain rfl : i = L.length := by omega
    have e1 : (vs ++ [x])[L.length] = x := by rw [List.getElem_append_right (by omega)]; simp [hl]
    have e2 : (L ++ [l])[L.length] = l := by rw [List.getElem_append_right (by omega)]; simp
    rw [e1, e2]
    exact hx.kept hg (own_kinds' hx h.1 (by decide))
theorem ApartV.snoc {w : World} {base : Nat} {v x : Value} {L : List (List ByteArray)} {vs : List Value} (hA : ApartV vs) (h : OwnSV w base v L vs) (hx : ∀ k, x.ownBlock = some k → w.heap.size ≤ k) : ApartV (vs ++ [x]) := by
  unfold ApartV at hA ⊢
  rw [List.pairwise_append]
  refine ⟨hA, List.pairwise_cons.2 ⟨fun _ h => (by cases h), List.Pairwise.nil⟩, ?_⟩
  intro p hp q hq
  rw [List.mem_singleton.1 hq]
  obtain ⟨i, hi, rfl⟩ := List.getElem_of_mem hp
  have hl := h.len
  cases hb : (vs[i]).ownBlock with
  | none => exact .inl rfl
  | some b => exact .inr fun e => by have := hx b e.symm; have := ((h.2 i (by omega) hi).lt b hb).2; omega
theorem ApartV.ne {vs : List Value} (h : ApartV vs) {i k : Nat} (hi : i < vs.length) (hk : k < vs.length) (hne : i ≠ k) : (vs[i]).ownBlock = none ∨ (vs[i]).ownBlock ≠ (vs[k]).ownBlock := by
  have hp := List.pairwise_iff_getElem.1 h
  rcases Nat.lt_or_ge i k with hlt | hge
  · exact hp i k hi hk hlt
  · rcases hp k i hk hi (by omega) with e | e
    · cases hb : (vs[i]).ownBlock with
      | none => exact .inl rfl
      | some b => exact .inr (by rw [e]; simp)
    · exact .inr (fun x => e x.symm)
def endSS : Nat → List (List ByteArray) → Nat
  | q, [] => q
  | q, l :: t => endSS (q + l.length) t
def marksSS : Nat → List (List ByteArray) → List (List ByteArray)
  | _, [] => []
  | q, l :: t => marksT q l.length :: marksSS (q + l.length) t
theorem marksSS_len : ∀ (q : Nat) (L : List (List ByteArray)), (marksSS q L).length = L.length
  | _, [] => rfl
  | q, l :: t => by rw [marksSS, List.length_cons, List.length_cons, marksSS_len]
theorem endSS_le {B : Nat} : ∀ (q : Nat) (L : List (List ByteArray)), (∀ l ∈ L, l.length ≤ B) → endSS q L ≤ q + B * L.length
  | _, [], _ => by simp [endSS]
  | q, l :: t, h => by
    have h1 := h l (by simp)
    have h2 := endSS_le (q + l.length) t (fun x hx => h x (by simp [hx]))
    rw [endSS, List.length_cons, Nat.mul_add]; omega
theorem endSS_step : ∀ (q : Nat) (L : List (List ByteArray)) (k : Nat) (h : k < L.length), endSS q (L.take (k + 1)) = endSS q (L.take k) + (L[k]'h).length
  | _, [], _, h => absurd h (Nat.not_lt_zero _)
  | q, l :: t, 0, _ => by simp [endSS]
  | q, l :: t, k + 1, h => by
    rw [List.take_succ_cons, List.take_succ_cons, endSS, endSS, endSS_step _ t k (by simpa using h)]; rfl
theorem marksSS_get : ∀ (q : Nat) (L : List (List ByteArray)) (k : Nat) (h : k < L.length), (marksSS q L)[k]'(by rw [marksSS_len]; exact h) = marksT (endSS q (L.take k)) (L[k]'h).length
  | _, [], _, h => absurd h (Nat.not_lt_zero _)
  | q, l :: t, 0, _ => by simp [marksSS, endSS]
  | q, l :: t, k + 1, h => by
    have ih := marksSS_get (q + l.length) t k (by simpa using h)
    rw [List.take_succ_cons, endSS]
    exact ih
/-- The first k rows are marked. -/
def partSS (q : Nat) (L : List (List ByteArray)) (k : Nat) : List (List ByteArray) := (marksSS q L).take k ++ L.drop k
theorem partSS_zero (q : Nat) (L : List (List ByteArray)) : partSS q L 0 = L := by simp [partSS]
theorem partSS_all (q : Nat) (L : List (List ByteArray)) : partSS q L L.length = marksSS q L := by
  unfold partSS
  rw [List.take_of_length_le (by rw [marksSS_len]; omega), List.drop_of_length_le (by omega), List.append_nil]
theorem partSS_len (q : Nat) (L : List (List ByteArray)) (k : Nat) (h : k ≤ L.length) : (partSS q L k).length = L.length := by
  unfold partSS; simp [marksSS_len]; omega
theorem partSS_get (q : Nat) (L : List (List ByteArray)) (k : Nat) (h : k < L.length) : (partSS q L k)[k]'(by rw [partSS_len q L k (by omega)]; exact h) = L[k] := by
  unfold partSS
  rw [List.getElem_append_right (by simp [marksSS_len]; omega)]
  simp [marksSS_len, Nat.min_eq_left (Nat.le_of_lt h)]
theorem partSS_step (q : Nat) (L : List (List ByteArray)) (k : Nat) (h : k < L.length) : (partSS q L k).set k (marksT (endSS q (L.take k)) (L[k]'h).length) = partSS q L (k + 1) := by
  unfold partSS
  have e1 : (marksSS q L).take (k + 1) = (marksSS q L).take k ++ [marksT (endSS q (L.take k)) (L[k]'h).length] := by
    rw [List.take_succ_eq_append_getElem (by rw [marksSS_len]; exact h), marksSS_get q L k h]
  have e2 : L.drop k = L[k] :: L.drop (k + 1) := List.drop_eq_getElem_cons h
  have hl : ((marksSS q L).take k).length = k := by simp [marksSS_len]; omega
  rw [e1, e2, List.set_append_right _ _ (by omega), hl, Nat.sub_self, List.set_cons_zero, List.append_assoc]
  rfl
/-- One inner row is written. -/
theorem OwnSV.put {w w' : World} {base : Nat} {v : Value} {M : List (List ByteArray)} {vs : List Value} {k : Nat} (h : OwnSV w base v M vs) (hA : ApartV vs) (hk : k < M.length) (hkv : k < vs.length) {l : List ByteArray} (hl : l.length = M[k].length)
    (h2 : w'.ownsRow base 9 1 vs[k] l.length (l.map Value.string)) (hg : w.grownBy w' (vs[k]).ownBlock) : OwnSV w' base v (M.set k l) vs := by
  have hlen := h.len
  refine ⟨by rw [List.length_set]; exact h.1.kept hg (own_kinds' h.1 (h.2 k hk hkv) (by decide)), fun i h1 h3 => ?_⟩
  rw [List.length_set] at h1
  by_cases e : i = k
  · subst e
    rw [List.getElem_set_self]
    exact h2
  · rw [List.getElem_set_ne (fun x => e x.symm)]
    exact (h.2 i h1 h3).kept hg (hA.ne h3 hkv e)
theorem OwnSV.at {w : World} {base g c : Nat} {L : List (List ByteArray)} {vs : List Value} (h : OwnSV w base (.slice (some ⟨g, 0, none⟩) L.length c) L vs) {k : Nat} (hk : k < L.length) (hkv : k < vs.length) : w.cell? ⟨g, k, none⟩ = some vs[k] := by
  rw [h.1.cellAt k (by omega), List.getElem?_eq_getElem hkv]
theorem OwnSV.row {w : World} {base : Nat} {v : Value} {L : List (List ByteArray)} {vs : List Value} (h : OwnSV w base v L vs) : v = .slice none 0 0 ∧ L = [] ∨ ∃ g c, v = .slice (some ⟨g, 0, none⟩) L.length c ∧ base ≤ g ∧ L.length ≤ maxLen := by
  rcases h.1.2 with ⟨rfl, h0⟩ | ⟨g, cap, cur, rfl, hb, hh, hnc, hcm, _⟩
  · exact .inl ⟨rfl, List.eq_nil_of_length_eq_zero h0⟩
  · exact .inr ⟨g, cap, rfl, hb, Nat.le_trans hnc hcm⟩
end Go.Proofs.YtofpjbdelmmclaaGreatDoor

/- Contracts: the rings with their rows, both sides. (Turned from HI by a program.) -/
namespace Go.Proofs.YtofpjbdelmmclaaGreatDoor
open Go Go.RowKit
set_option linter.unusedVariables false
set_option linter.unusedSimpArgs false

end Go.Proofs.YtofpjbdelmmclaaGreatDoor

/- Contracts: goodBlocks, l17Bobs: the two answers; AddSet, RingsIn, JoinRings on both sides. (Printed by a program: tools/mkIJ.py.) -/
namespace Go.Proofs.YtofpjbdelmmclaaGreatDoor
open Go Go.RowKit
set_option linter.unusedVariables false
set_option linter.unusedSimpArgs false

theorem l17Bobs_bad (m : Mt) (v : Value) (k : Cl) (Vb : Value) (bobs : List ByteArray) (w : World) (hb : BadBob m k bobs) (h : MethAt w m v) (hs : MtSmall m) (hk : ClSmall k) (hV : Strs w Vb bobs) (hbl : bobs.length ≤ 100000000) : Calls Tryz.prog 168 #[m.v v, k.v, Vb] w fun e w' =>
    ∃ (a b d : ByteArray) (A : Option Addr) (l q : Nat), e = .returned (.tuple #[.agg #[.string a, .string b, .string d, .slice A l q], .bool false]) ∧ Below w.heap.size w w' := by
  rcases hb with hb | ⟨n, T, P, B, B', Q, hK, hF, hn⟩
  · exact l17Bobs_false m v k Vb w hb h hs hk
  · have hso := sortB_sorted (cloB n [P, B] T)
    have hGl : (sortB (cloB n [P, B] T)).length ≤ 130 := by rw [sortB_len]; exact hF
    have hnb : ∀ W, Below w.heap.size w W → Calls Tryz.prog 138 #[m.v v, k.v] W fun e w' => ∃ A q, e = .returned (.tuple #[.agg #[.string P, .string B, .string Q, .slice A (sortB (cloB n [P, B] T)).length q], .bool true]) ∧ w'.ownsRow W.heap.size 9 1 (.slice A (sortB (cloB n [P, B] T)).length q) (sortB (cloB n [P, B] T)).length ((sortB (cloB n [P, B] T)).map Value.string) ∧ Below W.heap.size W w' := fun W hW => by
      have hx := l17Of_yes m v k n T P B B' Q W hK (h.to hW) hs hk
      rw [grp8_yes (Nat.le_trans hF (by omega)), decide_eq_true hF] at hx
      exact hx
    by_cases hin : InG (sortB (cloB n [P, B] T)) bobs
    · have hq : decide (goodQ bobs Q) = false := decide_eq_false fun hq => hn ⟨hin, hq⟩
      obtain ⟨K, hKb, hO⟩ := ord_ex hK.hn hK.invQ
      have hr : ∀ x ∈ bobs, RowIn n x := fun x hx => (bk_all hK).1 x ((sortB_mem _ _).1 (hin.1 x hx))
      have hl := hin.len
      refine (l17Bobs_gtrue m v k Vb bobs (sortB (cloB n [P, B] T)) P B Q false w h hV hnb (fun A q W hG hV' => ?_) (fun A q W hG hV' => ?_)).mono ?_
      · have hx := rowsS_any P B Q (.slice A (sortB (cloB n [P, B] T)).length q) Vb (sortB (cloB n [P, B] T)) bobs W hG hV'
        rw [decide_eq_true hin] at hx
        exact hx
      · have hx := goodS_any n P B Q (.slice A (sortB (cloB n [P, B] T)).length q) Vb bobs W hK.hn hK.invQ ⟨_, _, _, rfl⟩ hV' hr
        rw [hq] at hx
        exact hx
      · rintro e w' ⟨A, q, rfl, _, hb'⟩
        exact ⟨P, B, Q, A, _, q, rfl, hb'⟩
    · refine (l17Bobs_gfalse m v k Vb bobs (sortB (cloB n [P, B] T)) P B Q false w h hV hnb (fun A q W hG hV' => ?_)).mono ?_
      · have hx := rowsS_any P B Q (.slice A (sortB (cloB n [P, B] T)).length q) Vb (sortB (cloB n [P, B] T)) bobs W hG hV'
        rw [decide_eq_false hin] at hx
        exact hx
      · rintro e w' ⟨A, q, rfl, _, hb'⟩
        exact ⟨P, B, Q, A, _, q, rfl, hb'⟩
theorem l17Bobs_yes (m : Mt) (v : Value) (k : Cl) (Vb : Value) (n T : Nat) (P B B' Q : ByteArray) (bobs : List ByteArray) (w : World) (hK : BK m k n T P B B' Q) (hF : (cloB n [P, B] T).length ≤ 130) (hbg : BG (sortB (cloB n [P, B] T)) bobs Q) (h : MethAt w m v) (hs : MtSmall m) (hk : ClSmall k) (hV : Strs w Vb bobs) : Calls Tryz.prog 168 #[m.v v, k.v, Vb] w fun e w' =>
    ∃ A q, e = .returned (.tuple #[.agg #[.string P, .string B, .string Q, .slice A (sortB (cloB n [P, B] T)).length q], .bool true]) ∧ w'.ownsRow w.heap.size 9 1 (.slice A (sortB (cloB n [P, B] T)).length q) (sortB (cloB n [P, B] T)).length ((sortB (cloB n [P, B] T)).map Value.string) ∧ Below w.heap.size w w' := by
  have hso := sortB_sorted (cloB n [P, B] T)
  have hGl : (sortB (cloB n [P, B] T)).length ≤ 130 := by rw [sortB_len]; exact hF
  have hnb : ∀ W, Below w.heap.size w W → Calls Tryz.prog 138 #[m.v v, k.v] W fun e w' => ∃ A q, e = .returned (.tuple #[.agg #[.string P, .string B, .string Q, .slice A (sortB (cloB n [P, B] T)).length q], .bool true]) ∧ w'.ownsRow W.heap.size 9 1 (.slice A (sortB (cloB n [P, B] T)).length q) (sortB (cloB n [P, B] T)).length ((sortB (cloB n [P, B] T)).map Value.string) ∧ Below W.heap.size W w' := fun W hW => by
    have hx := l17Of_yes m v k n T P B B' Q W hK (h.to hW) hs hk
    rw [grp8_yes (Nat.le_trans hF (by omega)), decide_eq_true hF] at hx
    exact hx
  obtain ⟨hin, hq⟩ := hbg
  obtain ⟨K, hKb, hO⟩ := ord_ex hK.hn hK.invQ
  have hr : ∀ x ∈ bobs, RowIn n x := fun x hx => (bk_all hK).1 x ((sortB_mem _ _).1 (hin.1 x hx))
  have hl := hin.len
  refine l17Bobs_gtrue m v k Vb bobs (sortB (cloB n [P, B] T)) P B Q true w h hV hnb (fun A q W hG hV' => ?_) (fun A q W hG hV' => ?_)
  · have hx := rowsS_any P B Q (.slice A (sortB (cloB n [P, B] T)).length q) Vb (sortB (cloB n [P, B] T)) bobs W hG hV'
    rw [decide_eq_true hin] at hx
    exact hx
  · have hx := goodS_any n P B Q (.slice A (sortB (cloB n [P, B] T)).length q) Vb bobs W hK.hn hK.invQ ⟨_, _, _, rfl⟩ hV' hr
    rw [decide_eq_true hq] at hx
    exact hx
end Go.Proofs.YtofpjbdelmmclaaGreatDoor

/- AddSet and RingsIn on both sides. (Printed by a program: tools/mkIQ.py.) -/
namespace Go.Proofs.YtofpjbdelmmclaaGreatDoor
open Go Go.RowKit
set_option linter.unusedVariables false
set_option linter.unusedSimpArgs false

/-- What AddSet answers. -/
def addO (n T K : Nat) (P B Q r : ByteArray) (bobs : List ByteArray) : List ByteArray := if r ∈ sortB (cloB n [P, B] T) then addS bobs (sortB (setB n Q r K)) else []
end Go.Proofs.YtofpjbdelmmclaaGreatDoor

/- Joining rings on both sides. (Printed by a program: tools/mkIQ.py.) -/
namespace Go.Proofs.YtofpjbdelmmclaaGreatDoor
open Go Go.RowKit
set_option linter.unusedVariables false
set_option linter.unusedSimpArgs false

/-- What a search for a joining set answers. -/
def JPost (w : World) (o : Option (List ByteArray)) (e : Ending) (w' : World) : Prop :=
  ∃ x : Value, e = .returned (.tuple #[x, .bool o.isSome]) ∧ (∀ m, o = some m → w'.ownsRow w.heap.size 9 1 x m.length (m.map Value.string)) ∧ Below w.heap.size w w'
/-- All that joining asks of a group. -/
structure JG (n K : Nat) (P B Q : ByteArray) (G : List ByteArray) (RR : List ByteArray → ByteArray → Nat) : Prop where
  hn : n ≤ 8
  hGs : SortedS G
  hGl : G.length ≤ 130
  hQ : Inv n Q
  hK : IsOrd n Q K
  hKb : K ≤ 16777216
  hI : ∀ x ∈ G, Inv n x
  hX : ∀ b, BG G b Q → CX n P B Q b G (RR b) K
  hA : ∀ b, BG G b Q → ∀ x ∈ G, BG G (addS b (sortB (setB n Q x K))) Q
def cntB (P B : ByteArray) (G : List ByteArray) (RR : List ByteArray → ByteArray → Nat) (b : List ByteArray) : Nat := (rgs (nxB b P B) (RR b) G []).length
def setF (n K : Nat) (Q x : ByteArray) : List ByteArray := sortB (setB n Q x K)
theorem jg_of {m : Mt} {k : Cl} {n T : Nat} {P B B' Q : ByteArray} (h : BK m k n T P B B' Q) (hF : (cloB n [P, B] T).length ≤ 130) : ∃ RR K, JG n K P B Q (sortB (cloB n [P, B] T)) RR := by
  obtain ⟨RR, K, hO, hKb, hX⟩ := cx_all h hF
  exact ⟨RR, K, h.hn, sortB_sorted _, by rw [sortB_len]; exact hF, h.invQ, hO, hKb, fun x hx => (bk_all h).2.2 x ((sortB_mem _ _).1 hx), fun b hb => hX b hb.2, fun b hb x hx => bg_add h hO hx hb⟩
/-- What JoinRings answers. -/
def joinO (n K : Nat) (P B Q : ByteArray) (G : List ByteArray) (RR : List ByteArray → ByteArray → Nat) : List ByteArray := joinL (cntB P B G RR) (setF n K Q) G (cntB P B G RR []) []
end Go.Proofs.YtofpjbdelmmclaaGreatDoor

/- Drawn bobs, a drawn head. -/
namespace Go.Proofs.YtofpjbdelmmclaaGreatDoor
open Go Go.RowKit
set_option linter.unusedVariables false
set_option linter.unusedSimpArgs false

/-- A row of texts of the call's own, or all of it but its first. -/
def BobV (w : World) (base : Nat) (V : Value) (l : List ByteArray) : Prop :=
  w.ownsRow base 9 1 V l.length (l.map Value.string) ∨ ∃ g q x, w.ownsRow base 9 1 (.slice (some ⟨g, 0, none⟩) (l.length + 1) q) (l.length + 1) ((x :: l).map Value.string) ∧ V = .slice (if q = 1 then some ⟨g, 0, none⟩ else some (Addr.add ⟨g, 0, none⟩ 1)) l.length (q - 1)
theorem BobV.to {w w' : World} {base : Nat} {V : Value} {l : List ByteArray} (h : BobV w base V l) (hb : Below w.heap.size w w') : BobV w' base V l := by
  rcases h with h | ⟨g, q, x, h, e⟩
  · exact .inl (own_to h hb)
  · exact .inr ⟨g, q, x, own_to h hb, e⟩
theorem BobV.base {w : World} {base base' : Nat} {V : Value} {l : List ByteArray} (h : BobV w base V l) (hb : base' ≤ base) : BobV w base' V l := by
  rcases h with h | ⟨g, q, x, h, e⟩
  · exact .inl (own_base h hb)
  · exact .inr ⟨g, q, x, own_base h hb, e⟩
theorem BobV.draw {w w' : World} {base C : Nat} {V : Value} {l : List ByteArray} (h : BobV w base V l) (hg : w.grownBy w' (some C)) (hC : C < base) : BobV w' base V l := by
  rcases h with h | ⟨g, q, x, h, e⟩
  · exact .inl (own_ltC h hg hC)
  · exact .inr ⟨g, q, x, own_ltC h hg hC, e⟩
theorem BobV.strs {w : World} {base : Nat} {V : Value} {l : List ByteArray} (h : BobV w base V l) : Strs w V l := by
  rcases h with h | ⟨g, q, x, h, rfl⟩
  · exact strs_own_v rfl h
  · have h1 := strs_fromG (k := 1) (strs_own_v (l := x :: l) rfl h) (by simp)
    simpa using h1
theorem BobV.nil {w : World} {base : Nat} {V : Value} {l : List ByteArray} (h : BobV w base V l) : NilOk V := by
  rcases h with h | ⟨g, q, x, h, rfl⟩
  · exact nilok_own h
  · intro n c e
    split at e <;> cases e
def DrewB (w : World) (C lim : Nat) (e : Ending) (w' : World) : Prop := ∃ V bobs, e = .returned V ∧ BobV w' w.heap.size V bobs ∧ bobs.length ≤ 130 ∧ Cur w' C lim ∧ w.grownBy w' (some C)
/-- The state of a draw beside the lead heads in box X. -/
structure BS (w : World) (C X : Nat) (P B Q : ByteArray) (gv : Value) (G : List ByteArray) (lim : Nat) (W : World) : Prop where
  cur : Cur W C lim
  gb : w.grownBy W (some C)
  box : W.ownsRow w.heap.size 146 4 (.slice (some ⟨X, 0, none⟩) 1 1) 1 [.string P, .string B, .string Q, gv]
  row : W.ownsRow w.heap.size 9 1 gv G.length (G.map Value.string)
  hC : C < w.heap.size
theorem BS.to {w : World} {C X : Nat} {P B Q : ByteArray} {gv : Value} {G : List ByteArray} {lim : Nat} {W W' : World} (h : BS w C X P B Q gv G lim W) (hb : Below W.heap.size W W') : BS w C X P B Q gv G lim W' := ⟨h.cur.to hb, gb_to h.gb hb, own_to h.box hb, own_to h.row hb, h.hC⟩
theorem BS.draw {w : World} {C X : Nat} {P B Q : ByteArray} {gv : Value} {G : List ByteArray} {lim lim' : Nat} {W W' : World} (h : BS w C X P B Q gv G lim W) (hc : Cur W' C lim') (hg : W.grownBy W' (some C)) : BS w C X P B Q gv G lim' W' := ⟨hc, gb_tr h.gb hg, own_ltC h.box hg h.hC, own_ltC h.row hg h.hC, h.hC⟩
theorem BS.more {w : World} {C X : Nat} {P B Q : ByteArray} {gv : Value} {G : List ByteArray} {lim lim' : Nat} {W : World} (h : BS w C X P B Q gv G lim W) (hl : lim ≤ lim') : BS w C X P B Q gv G lim' W := { h with cur := h.cur.more hl }
def BSx (w : World) (C X : Nat) (P B Q : ByteArray) (gv : Value) (G : List ByteArray) (L : Nat) (W : World) : Prop := ∃ l, l ≤ L ∧ BS w C X P B Q gv G l W
theorem BSx.all {w : World} {C X : Nat} {P B Q : ByteArray} {ga q : Nat} {G : List ByteArray} {L : Nat} {W : World} (h : BSx w C X P B Q (.slice (some ⟨ga, 0, none⟩) G.length q) G L W) :
    BSx w C X P B Q (.slice (some ⟨ga, 0, none⟩) G.length q) G L W ∧ W.cell? ⟨X, 0, none⟩ = some (.string P) ∧ W.cell? ⟨X, 1, none⟩ = some (.string B) ∧ W.cell? ⟨X, 2, none⟩ = some (.string Q) ∧ W.cell? ⟨X, 3, none⟩ = some (.slice (some ⟨ga, 0, none⟩) G.length q) ∧ ∀ i (hi : i < G.length), W.cell? ⟨ga, i, none⟩ = some (.string G[i]) :=
  ⟨h, let ⟨_, _, h⟩ := h; ⟨(h.box.cellAt 0 (by omega)).trans rfl, (h.box.cellAt 1 (by omega)).trans rfl, (h.box.cellAt 2 (by omega)).trans rfl, (h.box.cellAt 3 (by omega)).trans rfl, fun i hi => by rw [h.row.cellAt i (by omega)]; simp [hi]⟩⟩
theorem BS.x {w : World} {C X : Nat} {P B Q : ByteArray} {gv : Value} {G : List ByteArray} {lim L : Nat} {W : World} (h : BS w C X P B Q gv G lim W) (hl : lim ≤ L) : BSx w C X P B Q gv G L W := ⟨lim, hl, h⟩
end Go.Proofs.YtofpjbdelmmclaaGreatDoor
