/- Where a proof lies: the walk along its lines, both sides. (Printed by a program: tools/mkLC.py.) -/
import Derived.Test.YtbdioapgekaejaaGreatPk42
namespace Go.Proofs.YtbdioapgekaejaaGreat
open Go Go.RowKit
set_option linter.unusedVariables false
set_option linter.unusedSimpArgs false

theorem scan_get : ∀ (cs : List ByteArray) (r : ByteArray) (j : Nat), j ≤ cs.length → (scanB r cs)[j]? = some (runB r (cs.take j))
  | [], r, j, h => by obtain rfl : j = 0 := by simpa using h
                      rfl
  | c :: cs, r, 0, _ => rfl
  | c :: cs, r, j + 1, h => by
    rw [scanB, List.getElem?_cons_succ, scan_get cs (applyB r c) j (by simpa using h)]; rfl
theorem lead_get {r : ByteArray} {cs : List ByteArray} {j : Nat} (h : j < cs.length) : (leadB r cs)[j]? = some (runB r (cs.take j)) := by
  unfold leadB
  rw [List.getElem?_take_of_lt h, scan_get cs r j (by omega)]
/-- The row at a place of a touch. -/
theorem row_at {m : Mt} {k : Cl} {t : ByteArray} {x y : Nat} {h : ByteArray} (hx : x < t.size) (hy : y < m.l.length) (hh : (headsT m k t)[x]? = some h) : (rowsT m k t)[x * m.l.length + y]? = some (runB h (m.l.take y)) := by
  have hx2 : x < ((headsT m k t).take t.size).length := by rw [List.length_take, headsT_len]; omega
  unfold rowsT
  obtain ⟨hl, he⟩ := List.getElem?_eq_some_iff.1 hh
  rw [rows_get _ x y hx2 hy, List.getElem_take, he, lead_get hy]
theorem ok_order {rows : List ByteArray} {N T' : Nat} {ls : List Ln} {i : Nat} (h0 : 0 < i) (hi : i < ls.length) (h : nmLt (ls[i - 1]'(by omega)).row ls[i].row = false) : okLn nmLt rows N T' ls i = false := by
  cases e : okLn nmLt rows N T' ls i with
  | false => rfl
  | true =>
    have h2 := ((okLn_iff (List.getElem?_eq_getElem hi)).1 e).prev h0 _ (List.getElem?_eq_getElem (by omega))
    rw [h] at h2; cases h2
theorem ok_lead {rows : List ByteArray} {N T' : Nat} {ls : List Ln} {i : Nat} (hi : i < ls.length) (h : ¬ ls[i].lead.toNat < T') : okLn nmLt rows N T' ls i = false := by
  cases e : okLn nmLt rows N T' ls i with
  | false => rfl
  | true => exact absurd ((okLn_iff (List.getElem?_eq_getElem hi)).1 e).lead h
theorem ok_place {rows : List ByteArray} {N T' : Nat} {ls : List Ln} {i : Nat} (hi : i < ls.length) (h : ¬ ls[i].at'.toNat < N) : okLn nmLt rows N T' ls i = false := by
  cases e : okLn nmLt rows N T' ls i with
  | false => rfl
  | true => exact absurd ((okLn_iff (List.getElem?_eq_getElem hi)).1 e).place h
theorem ok_row {rows : List ByteArray} {N T' : Nat} {ls : List Ln} {i : Nat} {r : ByteArray} (hi : i < ls.length) (hr : rows[ls[i].lead.toNat * N + ls[i].at'.toNat]? = some r) (h : ls[i].row ≠ r) : okLn nmLt rows N T' ls i = false := by
  cases e : okLn nmLt rows N T' ls i with
  | false => rfl
  | true =>
    have h2 := ((okLn_iff (List.getElem?_eq_getElem hi)).1 e).row
    rw [hr] at h2
    injection h2 with h2
    exact absurd h2.symm h
theorem ok_all {rows : List ByteArray} {N T' : Nat} {ls : List Ln} {i : Nat} {r : ByteArray} (hi : i < ls.length) (h0 : 0 < i → nmLt (ls[i - 1]'(by omega)).row ls[i].row = true) (h1 : ls[i].lead.toNat < T') (h2 : ls[i].at'.toNat < N) (hr : rows[ls[i].lead.toNat * N + ls[i].at'.toNat]? = some r) (h : ls[i].row = r) : okLn nmLt rows N T' ls i = true := by
  refine (okLn_iff (List.getElem?_eq_getElem hi)).2 ⟨fun hp p e => ?_, h1, h2, by rw [hr, h]⟩
  rw [List.getElem?_eq_getElem (by omega)] at e
  injection e with e
  subst e
  exact h0 hp
theorem lnB_pos {l : Ln} (h : lnB l = true) : 0 ≤ l.lead ∧ 0 ≤ l.at' := by
  unfold lnB at h
  rw [Bool.and_eq_true, Bool.and_eq_true, decide_eq_true_eq, decide_eq_true_eq] at h
  exact ⟨h.2.1.1, h.2.2.1⟩
theorem shape_pos {hs : List ByteArray} {ls : List Ln} (h : shapeB hs ls = true) : (∀ l ∈ ls, 0 ≤ l.lead ∧ 0 ≤ l.at') ∧ ls.length ≤ 800 ∧ hs.length ≤ 61 := by
  unfold shapeB at h
  rw [Bool.and_eq_true, Bool.and_eq_true, Bool.and_eq_true, decide_eq_true_eq, decide_eq_true_eq] at h
  exact ⟨fun l hl => lnB_pos (List.all_eq_true.1 h.2.2 l hl), h.1.2, h.1.1⟩
/-- The first line that is wrong: its number, or -1. -/
def lieN (rows : List ByteArray) (N T' : Nat) (ls : List Ln) : Int := match badAt (okLn nmLt rows N T' ls) ls.length with | none => -1 | some i => (i : Int)
theorem lieN_at {rows : List ByteArray} {N T' : Nat} {ls : List Ln} {i : Nat} (hi : i < ls.length) (ha : ∀ j, j < i → okLn nmLt rows N T' ls j = true) (hb : okLn nmLt rows N T' ls i = false) : lieN rows N T' ls = (i : Int) := by
  unfold lieN; rw [badAt_some hi ha hb]
theorem lieN_no {rows : List ByteArray} {N T' : Nat} {ls : List Ln} (ha : ∀ j, j < ls.length → okLn nmLt rows N T' ls j = true) : lieN rows N T' ls = -1 := by
  unfold lieN; rw [badAt_none ha]
theorem lieZ_heads {m : Mt} {k : Cl} {t : ByteArray} {hs : List ByteArray} {ls : List Ln} (h : headsOk m k t hs = false) : lieZ m k t hs ls = 0 := by unfold lieZ; rw [h]; rfl
theorem lieZ_count {m : Mt} {k : Cl} {t : ByteArray} {hs : List ByteArray} {ls : List Ln} (h : headsOk m k t hs = true) (hc : ¬ ls.length = t.size * m.l.length) : lieZ m k t hs ls = 1 := by unfold lieZ; rw [h, if_pos rfl, if_neg hc]
theorem lieZ_lines {m : Mt} {k : Cl} {t : ByteArray} {hs : List ByteArray} {ls : List Ln} (h : headsOk m k t hs = true) (hc : ls.length = t.size * m.l.length) : lieZ m k t hs ls = if lieN (rowsT m k t) m.l.length t.size ls < 0 then -1 else lieN (rowsT m k t) m.l.length t.size ls + 2 := by
  unfold lieZ lieN
  rw [h, if_pos rfl, if_pos hc]
  cases badAt (okLn nmLt (rowsT m k t) m.l.length t.size ls) ls.length with
  | none => rfl
  | some i =>
    show _ = if (i : Int) < 0 then _ else _
    rw [if_neg (by omega)]
end Go.Proofs.YtbdioapgekaejaaGreat
