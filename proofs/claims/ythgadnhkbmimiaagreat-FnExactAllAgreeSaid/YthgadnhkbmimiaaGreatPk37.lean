/- Rows of rows of texts of the call's own: how they lie, marked, found held, compared. -/
import Derived.Test.YthgadnhkbmimiaaGreatPk36
import Derived.Test.YthgadnhkbmimiaaGreatPk21
namespace Go.Proofs.YthgadnhkbmimiaaGreat
open Go Go.RowKit
set_option linter.unusedVariables false
set_option linter.unusedSimpArgs false

/-- A row of rows of texts of the call's own, with the rows' values. -/
def OwnSV (w : World) (base : Nat) (v : Value) (L : List (List ByteArray)) (vs : List Value) : Prop :=
  w.ownsRow base 22 1 v L.length vs ∧ ∀ i (h : i < L.length) (h' : i < vs.length), w.ownsRow base 9 1 vs[i] L[i].length (L[i].map Value.string)
def ApartV (vs : List Value) : Prop := vs.Pairwise fun p q => p.ownBlock = none ∨ p.ownBlock ≠ q.ownBlock
def OwnSD (w : World) (base : Nat) (v : Value) (L : List (List ByteArray)) : Prop := ∃ vs, OwnSV w base v L vs ∧ ApartV vs
theorem OwnSV.len {w : World} {base : Nat} {v : Value} {L : List (List ByteArray)} {vs : List Value} (h : OwnSV w base v L vs) : vs.length = L.length := by have := h.1.1; simpa using this
theorem OwnSV.to {w w' : World} {base : Nat} {v : Value} {L : List (List ByteArray)} {vs : List Value} (h : OwnSV w base v L vs) (hb : Below w.heap.size w w') : OwnSV w' base v L vs := ⟨own_to h.1 hb, fun i h1 h2 => own_to (h.2 i h1 h2) hb⟩
theorem OwnSV.base {w : World} {base b2 : Nat} {v : Value} {L : List (List ByteArray)} {vs : List Value} (h : OwnSV w base v L vs) (hb : b2 ≤ base) : OwnSV w b2 v L vs := ⟨own_base h.1 hb, fun i h1 h2 => own_base (h.2 i h1 h2) hb⟩
theorem OwnSV.nil (w : World) (base : Nat) : OwnSV w base (.slice none 0 0) [] [] := ⟨World.ownsRow_nil _ _ _ _, fun i h => absurd h (Nat.not_lt_zero _)⟩
theorem OwnSV.form {w : World} {base : Nat} {v : Value} {L : List (List ByteArray)} {vs : List Value} (h : OwnSV w base v L vs) : ∃ A c, v = .slice A L.length c := by obtain ⟨A, c, e, _⟩ := sl_of_own h.1; exact ⟨A, c, e⟩
theorem OwnSV.kept {w w' : World} {base : Nat} {row : Option Nat} {v : Value} {L : List (List ByteArray)} {vs : List Value} (h : OwnSV w base v L vs) (hg : w.grownBy w' row) (hr : ∀ k, row = some k → k < base ∨ w.heap.size ≤ k) : OwnSV w' base v L vs := by
  have key : ∀ {e : TypeId} {s n : Nat} {u : Value} {xs : List Value}, w.ownsRow base e s u n xs → w'.ownsRow base e s u n xs := by
    intro e s n u xs ho
    refine ho.kept hg ?_
    cases hb : u.ownBlock with
    | none => exact .inl rfl
    | some b => exact .inr fun e => by have := hr b e.symm; have := ho.lt b hb; omega
  exact ⟨key h.1, fun i h1 h2 => key (h.2 i h1 h2)⟩
/-- Blocks below a bound are as they were, and so are rows that lie below it. -/
theorem own_low {w w' : World} {base B n : Nat} {e : TypeId} {size : Nat} {v : Value} {xs : List Value} (h : w.ownsRow base e size v n xs) (hb : Below B w w') (hn : ∀ k, v.ownBlock = some k → k < B) : w'.ownsRow base e size v n xs := by
  obtain ⟨h1, h2⟩ := h
  refine ⟨h1, ?_⟩
  rcases h2 with h2 | ⟨g, cap, cur, rfl, hbase, hg, r⟩
  · exact .inl h2
  · exact .inr ⟨g, cap, cur, rfl, hbase, (hb.block g (hn g rfl)).trans hg, r⟩
theorem OwnSV.low {w0 w w' : World} {base B : Nat} {v : Value} {L : List (List ByteArray)} {vs : List Value} (h0 : OwnSV w0 base v L vs) (h : OwnSV w base v L vs) (hb : Below B w w') (hB : w0.heap.size ≤ B) : OwnSV w' base v L vs :=
  ⟨own_low h.1 hb (fun k hk => Nat.lt_of_lt_of_le (h0.1.lt k hk).2 hB), fun i h1 h2 => own_low (h.2 i h1 h2) hb (fun k hk => Nat.lt_of_lt_of_le ((h0.2 i h1 h2).lt k hk).2 hB)⟩
theorem OwnSV.push {wA w3 : World} {base : Nat} {V V2 x : Value} {L : List (List ByteArray)} {l : List ByteArray} {vs : List Value} (h : OwnSV wA base V L vs) (hx : wA.ownsRow base 9 1 x l.length (l.map Value.string))
    (h3 : w3.ownsRow base 22 1 V2 (L.length + 1) (vs ++ [x])) (hg : wA.grownBy w3 V.ownBlock) : OwnSV w3 base V2 (L ++ [l]) (vs ++ [x]) := by
  have hl := h.len
  refine ⟨by rw [List.length_append]; exact h3, fun i h1 h2 => ?_⟩
  rw [List.length_append, List.length_singleton] at h1
  rcases Nat.lt_or_ge i L.length with hlt | hge
  · rw [List.getElem_append_left (by omega), List.getElem_append_left hlt]
    have ho := h.2 i hlt (by omega)
    exact ho.kept hg (own_kinds' ho h.1 (by decide))
  · obtain rfl : i = L.length := by omega
    have e1 : (vs ++ [x])[L.length] = x := by rw [List.getElem_append_right (by omega)]; simp [hl]
    have e2 : (L ++ [l])[L.length] = l := by rw [List.getElem_append_right (by omega)]; simp
    rw [e1, e2]
    exact hx.kept hg (own_kinds' hx h.1 (by decide))
theorem ApartV.snoc {w : World} {base : Nat} {v x : Value} {L : List (List ByteArray)} {vs : List Value} (hA : ApartV vs) (h : OwnSV w base v L vs) (hx : ∀ k, x.ownBlock = some k → w.heap.size ≤ k) : ApartV (vs ++ [x]) := by
  unfold ApartV at hA ⊢
  rw [List.pairwise_append]
  refine ⟨hA, List.pairwise_cons.2 ⟨fun _ h => (by cases h), List.Pairwise.nil⟩, ?_⟩
  intro p hp q hq
  rw [List.mem_singleton.1 hq]
  obtain ⟨i, hi, rfl⟩ := List.getElem_of_mem hp
  have hl := h.len
  cases hb : (vs[i]).ownBlock with
  | none => exact .inl rfl
  | some b => exact .inr fun e => by have := hx b e.symm; have := ((h.2 i (by omega) hi).lt b hb).2; omega
theorem ApartV.ne {vs : List Value} (h : ApartV vs) {i k : Nat} (hi : i < vs.length) (hk : k < vs.length) (hne : i ≠ k) : (vs[i]).ownBlock = none ∨ (vs[i]).ownBlock ≠ (vs[k]).ownBlock := by
  have hp := List.pairwise_iff_getElem.1 h
  rcases Nat.lt_or_ge i k with hlt | hge
  · exact hp i k hi hk hlt
  · rcases hp k i hk hi (by omega) with e | e
    · cases hb : (vs[i]).ownBlock with
      | none => exact .inl rfl
      | some b => exact .inr (by rw [e]; simp)
    · exact .inr (fun x => e x.symm)
def endSS : Nat → List (List ByteArray) → Nat
  | q, [] => q
  | q, l :: t => endSS (q + l.length) t
def marksSS : Nat → List (List ByteArray) → List (List ByteArray)
  | _, [] => []
  | q, l :: t => marksT q l.length :: marksSS (q + l.length) t
theorem marksSS_len : ∀ (q : Nat) (L : List (List ByteArray)), (marksSS q L).length = L.length
  | _, [] => rfl
  | q, l :: t => by rw [marksSS, List.length_cons, List.length_cons, marksSS_len]
theorem endSS_le {B : Nat} : ∀ (q : Nat) (L : List (List ByteArray)), (∀ l ∈ L, l.length ≤ B) → endSS q L ≤ q + B * L.length
  | _, [], _ => by simp [endSS]
  | q, l :: t, h => by
    have h1 := h l (by simp)
    have h2 := endSS_le (q + l.length) t (fun x hx => h x (by simp [hx]))
    rw [endSS, List.length_cons, Nat.mul_add]; omega
theorem endSS_step : ∀ (q : Nat) (L : List (List ByteArray)) (k : Nat) (h : k < L.length), endSS q (L.take (k + 1)) = endSS q (L.take k) + (L[k]'h).length
  | _, [], _, h => absurd h (Nat.not_lt_zero _)
  | q, l :: t, 0, _ => by simp [endSS]
  | q, l :: t, k + 1, h => by
    rw [List.take_succ_cons, List.take_succ_cons, endSS, endSS, endSS_step _ t k (by simpa using h)]; rfl
theorem marksSS_get : ∀ (q : Nat) (L : List (List ByteArray)) (k : Nat) (h : k < L.length), (marksSS q L)[k]'(by rw [marksSS_len]; exact h) = marksT (endSS q (L.take k)) (L[k]'h).length
  | _, [], _, h => absurd h (Nat.not_lt_zero _)
  | q, l :: t, 0, _ => by simp [marksSS, endSS]
  | q, l :: t, k + 1, h => by
    have ih := marksSS_get (q + l.length) t k (by simpa using h)
    rw [List.take_succ_cons, endSS]
    exact ih
/-- The first k rows are marked. -/
def partSS (q : Nat) (L : List (List ByteArray)) (k : Nat) : List (List ByteArray) := (marksSS q L).take k ++ L.drop k
theorem partSS_zero (q : Nat) (L : List (List ByteArray)) : partSS q L 0 = L := by simp [partSS]
theorem partSS_all (q : Nat) (L : List (List ByteArray)) : partSS q L L.length = marksSS q L := by
  unfold partSS
  rw [List.take_of_length_le (by rw [marksSS_len]; omega), List.drop_of_length_le (by omega), List.append_nil]
theorem partSS_len (q : Nat) (L : List (List ByteArray)) (k : Nat) (h : k ≤ L.length) : (partSS q L k).length = L.length := by
  unfold partSS; simp [marksSS_len]; omega
theorem partSS_get (q : Nat) (L : List (List ByteArray)) (k : Nat) (h : k < L.length) : (partSS q L k)[k]'(by rw [partSS_len q L k (by omega)]; exact h) = L[k] := by
  unfold partSS
  rw [List.getElem_append_right (by simp [marksSS_len]; omega)]
  simp [marksSS_len, Nat.min_eq_left (Nat.le_of_lt h)]
theorem partSS_step (q : Nat) (L : List (List ByteArray)) (k : Nat) (h : k < L.length) : (partSS q L k).set k (marksT (endSS q (L.take k)) (L[k]'h).length) = partSS q L (k + 1) := by
  unfold partSS
  have e1 : (marksSS q L).take (k + 1) = (marksSS q L).take k ++ [marksT (endSS q (L.take k)) (L[k]'h).length] := by
    rw [List.take_succ_eq_append_getElem (by rw [marksSS_len]; exact h), marksSS_get q L k h]
  have e2 : L.drop k = L[k] :: L.drop (k + 1) := List.drop_eq_getElem_cons h
  have hl : ((marksSS q L).take k).length = k := by simp [marksSS_len]; omega
  rw [e1, e2, List.set_append_right _ _ (by omega), hl, Nat.sub_self, List.set_cons_zero, List.append_assoc]
  rfl
/-- One inner row is written. -/
theorem OwnSV.put {w w' : World} {base : Nat} {v : Value} {M : List (List ByteArray)} {vs : List Value} {k : Nat} (h : OwnSV w base v M vs) (hA : ApartV vs) (hk : k < M.length) (hkv : k < vs.length) {l : List ByteArray} (hl : l.length = M[k].length)
    (h2 : w'.ownsRow base 9 1 vs[k] l.length (l.map Value.string)) (hg : w.grownBy w' (vs[k]).ownBlock) : OwnSV w' base v (M.set k l) vs := by
  have hlen := h.len
  refine ⟨by rw [List.length_set]; exact h.1.kept hg (own_kinds' h.1 (h.2 k hk hkv) (by decide)), fun i h1 h3 => ?_⟩
  rw [List.length_set] at h1
  by_cases e : i = k
  · subst e
    rw [List.getElem_set_self]
    exact h2
  · rw [List.getElem_set_ne (fun x => e x.symm)]
    exact (h.2 i h1 h3).kept hg (hA.ne h3 hkv e)
theorem OwnSV.at {w : World} {base g c : Nat} {L : List (List ByteArray)} {vs : List Value} (h : OwnSV w base (.slice (some ⟨g, 0, none⟩) L.length c) L vs) {k : Nat} (hk : k < L.length) (hkv : k < vs.length) : w.cell? ⟨g, k, none⟩ = some vs[k] := by
  rw [h.1.cellAt k (by omega), List.getElem?_eq_getElem hkv]
theorem OwnSV.row {w : World} {base : Nat} {v : Value} {L : List (List ByteArray)} {vs : List Value} (h : OwnSV w base v L vs) : v = .slice none 0 0 ∧ L = [] ∨ ∃ g c, v = .slice (some ⟨g, 0, none⟩) L.length c ∧ base ≤ g ∧ L.length ≤ maxLen := by
  rcases h.1.2 with ⟨rfl, h0⟩ | ⟨g, cap, cur, rfl, hb, hh, hnc, hcm, _⟩
  · exact .inl ⟨rfl, List.eq_nil_of_length_eq_zero h0⟩
  · exact .inr ⟨g, cap, rfl, hb, Nat.le_trans hnc hcm⟩
set_option maxRecDepth 100000 in
set_option maxHeartbeats 2000000 in
theorem markStringSS_any (V : Value) (L : List (List ByteArray)) (vs : List Value) (base q0 : Nat) (w : World) (h : OwnSV w base V L vs) (hA : ApartV vs) (hlen : L.length ≤ 1000) (hl : ∀ l ∈ L, l.length ≤ 1000) (hq0 : q0 ≤ 1000) (hbw : base ≤ w.heap.size) : Calls Tryz.prog 31 #[V, .int .i64 q0] w fun e w' =>
    e = .returned (.int .i64 (endSS q0 L : Nat)) ∧ OwnSV w' base V (marksSS q0 L) vs ∧ Below base w w' := by
  have hvl := h.len
  rcases h.row with ⟨rfl, rfl⟩ | ⟨g, cap, rfl, hbg, hcm⟩
  · go_enter Tryz.func31, Tryz.ntmps31
    go_wp2_with fail
    go_loopw [1, 5] (fun q i wr => q = .int .i64 q0 ∧ i = .int .i64 0 ∧ wr = w) (fun _ _ _ => 0)
    case atStart => exact ⟨rfl, rfl, rfl⟩
    case round =>
      obtain ⟨rfl, rfl, rfl⟩ := hrel
      go_wp2_with fail
      go_ret
      exact ⟨rfl, h, Below.refl _ _⟩
  · have HA := Lib.hid hA
    have HO := Lib.hid h
    have Hl := Lib.hid hl
    clear h hA hl
    go_enter Tryz.func31, Tryz.ntmps31
    go_wp2_with fail
    go_loopw [1, 5] (fun z i wr => ∃ k : Nat, k ≤ L.length ∧ i = .int .i64 k ∧ z = .int .i64 (endSS q0 (L.take k) : Nat) ∧ OwnSV wr base (.slice (some ⟨g, 0, none⟩) L.length cap) (partSS q0 L k) vs ∧ Below base w wr) (fun _ i _ => L.length - (intOf i).toNat)
    case atStart => exact ⟨0, by omega, rfl, rfl, by rw [partSS_zero]; exact HO.out, Below.refl _ _⟩
    case round =>
      obtain ⟨k, hk, rfl, rfl, hO, hB⟩ := hrel
      by_cases hlt : k < L.length
      · have hkv : k < vs.length := by omega
        have hpl := partSS_len q0 L k hk
        have hek := endSS_le (B := 1000) q0 (L.take k) (fun x hx => Hl.out x (List.mem_of_mem_take hx))
        have hkl : (L.take k).length ≤ 1000 := by rw [List.length_take]; omega
        have hek2 : endSS q0 (L.take k) ≤ 1000 + 1000 * 1000 := Nat.le_trans hek (by have := Nat.mul_le_mul_left 1000 hkl; omega)
        have Hes := Lib.hid (endSS_step q0 L k hlt)
        have Hst := Lib.hid (partSS_step q0 L k hlt)
        have Hge := Lib.hid (partSS_get q0 L k hlt)
        have hyl := Hl.out _ (List.getElem_mem hlt)
        obtain ⟨M, hM⟩ : ∃ M, M = partSS q0 L k := ⟨_, rfl⟩
        have hML : M.length = L.length := by rw [hM]; exact hpl
        have hge : M[k]'(by rw [hML]; exact hlt) = L[k] := by simp only [hM]; exact Hge.out
        rw [← hM] at hO Hst
        clear Hge hpl hek hkl
        obtain ⟨q, hq⟩ : ∃ q, q = endSS q0 (L.take k) := ⟨_, rfl⟩
        rw [← hq] at hek2 Hes Hst ⊢
        obtain ⟨y, hy⟩ : ∃ y, y = L[k] := ⟨_, rfl⟩
        rw [← hy] at Hes Hst hyl hge
        have hrow := hO.2 k (by omega) hkv
        have hO' := hO
        rw [← hML] at hO'
        have hcell := hO'.at (by omega) hkv
        clear hO'
        have Hrow := Lib.hid hrow
        have HOk := Lib.hid hO
        obtain ⟨Av, cv, ev, _⟩ := sl_of_own hrow
        obtain ⟨x, hx⟩ : ∃ x, x = vs[k] := ⟨_, rfl⟩
        rw [← hx] at hcell Hrow ev
        have Hx := Lib.hid hx
        rw [hge] at ev Hrow
        subst ev
        have hk0 : (0 : Int) ≤ (k : Int) := by omega
        clear hrow hO hx hy hM hq
        go_wp2_with fail
        refine (markStringS_any _ y.length q _ base _ Hrow.out (by omega) (by omega)).mono ?_
        rintro e w3 ⟨rfl, hown3, hg3⟩
        have hb3 : Below base w w3 := hB.grown hg3 (Nat.le_trans hbw hB.size) (fun b hb => (Hrow.out.lt b hb).1)
        have h3 := HOk.out.put HA.out (by omega) hkv (l := marksT q y.length) (by rw [marksT_length, hge]) (by rw [← Hx.out, marksT_length]; exact hown3) (by rw [← Hx.out]; exact hg3)
        rw [Hst.out] at h3
        have H3 := Lib.hid h3
        have HB3 := Lib.hid hb3
        clear h3 hb3 hown3 hg3
        go_wp2_with fail
        exact ⟨⟨k + 1, by omega, by go_num, congrArg (Value.int .i64) (by rw [Hes.out]; omega), H3.out, HB3.out⟩, by simp [intOf]; omega⟩
      · obtain rfl : k = L.length := by omega
        rw [List.take_length]
        rw [partSS_all] at hO
        have HOk := Lib.hid hO
        clear hO
        go_wp2_with fail
        go_ret
        exact ⟨rfl, HOk.out, hB⟩
set_option maxRecDepth 100000 in
set_option maxHeartbeats 2000000 in
theorem heldStringSS_any (V : Value) (L : List (List ByteArray)) (vs : List Value) (base q0 : Nat) (w : World) (h : OwnSV w base V (marksSS q0 L) vs) (hlen : L.length ≤ 1000) (hl : ∀ l ∈ L, l.length ≤ 1000) (hq0 : q0 ≤ 1000) : Calls Tryz.prog 32 #[V, .int .i64 q0] w fun e w' =>
    e = .returned (.int .i64 (endSS q0 L : Nat)) ∧ Below w.heap.size w w' := by
  have hvl := h.len
  have hML := marksSS_len q0 L
  rcases h.row with ⟨rfl, hnil⟩ | ⟨g, cap, rfl, hbg, hcm⟩
  · obtain rfl : L = [] := List.eq_nil_of_length_eq_zero (by rw [← hML, hnil]; rfl)
    go_enter Tryz.func32, Tryz.ntmps32
    go_wp2_with fail
    go_loopw [1, 5] (fun q i wr => q = .int .i64 q0 ∧ i = .int .i64 0 ∧ wr = w) (fun _ _ _ => 0)
    case atStart => exact ⟨rfl, rfl, rfl⟩
    case round =>
      obtain ⟨rfl, rfl, rfl⟩ := hrel
      go_wp2_with fail
      go_ret
      exact ⟨rfl, Below.refl _ _⟩
  · have HO := Lib.hid h
    have Hl := Lib.hid hl
    rw [hML] at hvl ⊢
    clear h hl
    go_enter Tryz.func32, Tryz.ntmps32
    go_wp2_with fail
    go_loopw [1, 5] (fun z i wr => ∃ k : Nat, k ≤ L.length ∧ i = .int .i64 k ∧ z = .int .i64 (endSS q0 (L.take k) : Nat) ∧ Below w.heap.size w wr) (fun _ i _ => L.length - (intOf i).toNat)
    case atStart => exact ⟨0, by omega, rfl, rfl, Below.refl _ _⟩
    case round =>
      obtain ⟨k, hk, rfl, rfl, hB⟩ := hrel
      by_cases hlt : k < L.length
      · have hkv : k < vs.length := by omega
        have hek := endSS_le (B := 1000) q0 (L.take k) (fun x hx => Hl.out x (List.mem_of_mem_take hx))
        have hkl : (L.take k).length ≤ 1000 := by rw [List.length_take]; omega
        have hek2 : endSS q0 (L.take k) ≤ 1000 + 1000 * 1000 := Nat.le_trans hek (by have := Nat.mul_le_mul_left 1000 hkl; omega)
        have Hes := Lib.hid (endSS_step q0 L k hlt)
        have hge := marksSS_get q0 L k hlt
        have hyl := Hl.out _ (List.getElem_mem hlt)
        have hO := HO.out.to hB
        have hrow := hO.2 k (by omega) hkv
        have hcell := hO.at (by omega) hkv
        rw [hge] at hrow
        clear hek hkl hge hO
        obtain ⟨q, hq⟩ : ∃ q, q = endSS q0 (L.take k) := ⟨_, rfl⟩
        rw [← hq] at hek2 Hes hrow ⊢
        obtain ⟨y, hy⟩ : ∃ y, y = L[k] := ⟨_, rfl⟩
        rw [← hy] at Hes hyl hrow
        obtain ⟨Av, cv, ev, _⟩ := sl_of_own hrow
        obtain ⟨x, hx⟩ : ∃ x, x = vs[k] := ⟨_, rfl⟩
        rw [← hx] at hcell hrow ev
        have Hrow := Lib.hid hrow
        rw [marksT_length] at ev
        subst ev
        have hk0 : (0 : Int) ≤ (k : Int) := by omega
        clear hrow hx hy hq
        go_wp2_with fail
        refine (heldStringS_any _ y.length q _ (strs_ownX Hrow.out) (by omega) (by omega)).mono ?_
        rintro e w3 ⟨rfl, hb3⟩
        have hnn : ¬ ((q + y.length : Nat) : Int) < 0 := by omega
        have hB3 := bw_to hB hb3
        go_wp2_with fail
        exact ⟨⟨k + 1, by omega, by go_num, congrArg (Value.int .i64) (by rw [Hes.out]; omega), hB3⟩, by simp [intOf]; omega⟩
      · obtain rfl : k = L.length := by omega
        rw [List.take_length]
        go_wp2_with fail
        go_ret
        exact ⟨rfl, hB⟩
set_option maxRecDepth 100000 in
set_option maxHeartbeats 2000000 in
theorem eqStringSS_same (V V2 : Value) (L : List (List ByteArray)) (vs vs2 : List Value) (base base2 : Nat) (w : World) (h : OwnSV w base V L vs) (h2 : OwnSV w base2 V2 L vs2) : Calls Tryz.prog 30 #[V, V2] w fun e w' =>
    e = .returned (.bool true) ∧ Below w.heap.size w w' := by
  have hvl := h.len
  have hvl2 := h2.len
  obtain ⟨A, c, e1⟩ := h.form
  obtain ⟨A2, c2, e2⟩ := h2.form
  have hL : L.length ≤ maxLen := by
    rcases h.row with ⟨_, rfl⟩ | ⟨g, cap, _, _, hcm⟩
    · simp
    · exact hcm
  unfold maxLen at hL
  have HO := Lib.hid h
  have HO2 := Lib.hid h2
  have Hrow := Lib.hid h.row
  have Hrow2 := Lib.hid h2.row
  clear h h2
  subst e1 e2
  go_enter Tryz.func30, Tryz.ntmps30
  go_wp2_with fail
  go_loopw [5] (fun i wr => ∃ k : Nat, k ≤ L.length ∧ i = .int .i64 k ∧ Below w.heap.size w wr) (fun i _ => L.length - (intOf i).toNat)
  case atStart => exact ⟨0, by omega, rfl, Below.refl _ _⟩
  case round =>
    obtain ⟨k, hk, rfl, hB⟩ := hrel
    by_cases hlt : k < L.length
    · have hkv : k < vs.length := by omega
      have hkv2 : k < vs2.length := by omega
      rcases Hrow.out with ⟨_, e⟩ | ⟨g, cap, e, _⟩
      · rw [e] at hlt; simp at hlt
      rcases Hrow2.out with ⟨_, e'⟩ | ⟨g2, cap2, e', _⟩
      · rw [e'] at hlt; simp at hlt
      injection e with ea eb ec
      injection e' with ea' eb' ec'
      subst ea ec ea' ec'
      have hO := HO.out.to hB
      have hO2 := HO2.out.to hB
      have Hr := Lib.hid (hO.2 k hlt hkv)
      have Hr2 := Lib.hid (hO2.2 k hlt hkv2)
      have HA := Lib.hid hO
      have HA2 := Lib.hid hO2
      have hc := fun W (hb : Below wr.heap.size wr W) => (HA.out.to hb).at hlt hkv
      have hc2 := fun W (hb : Below wr.heap.size wr W) => (HA2.out.to hb).at hlt hkv2
      obtain ⟨x, hx⟩ : ∃ x, x = vs[k] := ⟨_, rfl⟩
      obtain ⟨x2, hx2⟩ : ∃ x, x = vs2[k] := ⟨_, rfl⟩
      obtain ⟨y, hy⟩ : ∃ y, y = L[k] := ⟨_, rfl⟩
      rw [← hx] at hc Hr
      rw [← hx2] at hc2 Hr2
      rw [← hy] at Hr Hr2
      have hk0 : (0 : Int) ≤ (k : Int) := by omega
      have hk1 : (k : Int) < (L.length : Int) := by omega
      have hst := Below.refl wr.heap.size wr
      have hdr : Below wr.heap.size wr wr.drew := Below.drew (Below.refl _ _)
      clear hx hx2 hy hO hO2
      go_wp2_with fail
      go_region_held3 (fun W => Below wr.heap.size wr W) (first | with_reducible assumption | exact Below.drew (by assumption) | exact bw_to (by assumption) hb')
        ((go_at_call 25; refine (eqStringS_same _ _ y _ (Strs.to (strs_ownX Hr.out) (by assumption)) (Strs.to (strs_ownX Hr2.out) (by assumption))).mono ?_; rintro e w3 ⟨rfl, hb'⟩))
      all_goals
        have hB3 : Below w.heap.size w w3 := bw_to hB (by assumption)
        clear hc hc2
        go_wp2_with fail
        exact ⟨⟨k + 1, by omega, by go_num, hB3⟩, by simp [intOf]; omega⟩
    · obtain rfl : k = L.length := by omega
      go_wp2_with fail
      go_ret
      exact ⟨rfl, hB⟩
end Go.Proofs.YthgadnhkbmimiaaGreat
