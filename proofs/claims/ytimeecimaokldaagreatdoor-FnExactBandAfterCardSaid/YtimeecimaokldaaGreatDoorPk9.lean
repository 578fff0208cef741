/- Plain facts on the best choice; no program. -/
import Derived.Test.YtimeecimaokldaaGreatDoorPk8
import Derived.Test.YtimeecimaokldaaGreatDoorPk1
import Derived.Lib.AppendZeros
namespace Go.Proofs.YtimeecimaokldaaGreatDoor
open Go Go.RowKit
set_option linter.unusedVariables false
set_option linter.unusedSimpArgs false

def maskL (n mask : Nat) : List Int := ((List.range n).filter fun k => mask.testBit k).map fun (k : Nat) => (k : Int)
theorem maskL_zero (mask : Nat) : maskL 0 mask = [] := rfl
theorem maskL_succ (n mask : Nat) : maskL (n + 1) mask = maskL n mask ++ if mask.testBit n then [(n : Int)] else [] := by
  unfold maskL
  rw [List.range_succ, List.filter_append, List.map_append]
  cases h : mask.testBit n <;> simp [h]
theorem maskL_more {n mask : Nat} (h : mask < 2 ^ n) : ∀ m, n ≤ m → maskL m mask = maskL n mask := by
  intro m hm
  induction m with
  | zero => have : n = 0 := by omega
            subst this; rfl
  | succ m ih =>
    rcases Nat.lt_or_ge m n with hlt | hge
    · have : n = m + 1 := by omega
      subst this; rfl
    · rw [maskL_succ, ih hge, Nat.testBit_lt_two_pow (Nat.lt_of_lt_of_le h (Nat.pow_le_pow_right (by omega) hge))]
      simp
theorem maskL_length (n mask : Nat) : (maskL n mask).length ≤ n := by
  unfold maskL
  rw [List.length_map]
  exact Nat.le_trans (List.length_filter_le _ _) (by simp)
theorem maskL_null (n : Nat) : maskL n 0 = [] := by unfold maskL; simp

def worthS (xs : List It) (ch : List Int) : Int := (ch.map fun k => worthAt xs k.toNat).sum
theorem worthS_nil (xs : List It) : worthS xs [] = 0 := rfl
theorem worthS_snoc (xs : List It) (ch : List Int) (n : Nat) (h : n < xs.length) : worthS xs (ch ++ [(n : Int)]) = worthS xs ch + xs[n].worth := by
  unfold worthS
  rw [List.map_append, List.sum_append]
  simp [worthAt_get h]

def lexLt : List Int → List Int → Bool
  | _, [] => false
  | [], _ :: _ => true
  | a :: r, b :: s => decide (a < b) || (decide (a = b) && lexLt r s)
theorem lexLt_pre (p x y : List Int) : lexLt (p ++ x) (p ++ y) = lexLt x y := by
  induction p with
  | nil => rfl
  | cons a p ih => simp [lexLt, ih]
theorem lexLt_nil (x : List Int) : lexLt x [] = false := by cases x <;> rfl
theorem split_at {x y : List Int} {k : Nat} (h : x.take k = y.take k) : x = y.take k ++ x.drop k := by rw [← h, List.take_append_drop]
theorem lexLt_drop {x y : List Int} {k : Nat} (h : x.take k = y.take k) : lexLt x y = lexLt (x.drop k) (y.drop k) := by
  have e1 := split_at h
  have e2 : y = y.take k ++ y.drop k := (List.take_append_drop k y).symm
  have e3 : lexLt x y = lexLt (y.take k ++ x.drop k) (y.take k ++ y.drop k) := by rw [← e1, ← e2]
  rw [e3, lexLt_pre]
theorem lexLt_ne {x y : List Int} {k : Nat} (h : x.take k = y.take k) (hx : k < x.length) (hy : k < y.length) (hne : x[k] ≠ y[k]) : lexLt x y = decide (x[k] < y[k]) := by
  rw [lexLt_drop h, List.drop_eq_getElem_cons hx, List.drop_eq_getElem_cons hy]
  simp [lexLt, hne]
theorem lexLt_end1 {x y : List Int} {k : Nat} (h : x.take k = y.take k) (hy : ¬ k < y.length) : lexLt x y = false := by
  rw [lexLt_drop h, List.drop_of_length_le (l := y) (by omega), lexLt_nil]
theorem lexLt_end2 {x y : List Int} {k : Nat} (h : x.take k = y.take k) (hx : ¬ k < x.length) (hy : k < y.length) : lexLt x y = true := by
  rw [lexLt_drop h, List.drop_of_length_le (l := x) (by omega), List.drop_eq_getElem_cons hy]
  rfl
theorem take_eq_step {x y : List Int} {k : Nat} (h : x.take k = y.take k) (hx : k < x.length) (hy : k < y.length) (he : x[k] = y[k]) : x.take (k + 1) = y.take (k + 1) := by
  rw [List.take_succ_eq_append_getElem hx, List.take_succ_eq_append_getElem hy, h, he]

def betterB (b d : Int) (xs : List It) (p q : List Int) : Bool :=
  if worthS xs p = worthS xs q then (if timeS b d xs p = timeS b d xs q then lexLt p q else decide (timeS b d xs p < timeS b d xs q)) else decide (worthS xs q < worthS xs p)
def fitsB (a b c d : Int) (xs : List It) (ch : List Int) : Bool := choiceB a xs ch && decide (timeS b d xs ch ≤ c)
def stepBest (a b c d : Int) (xs : List It) (best : List Int) (mask : Nat) : List Int :=
  if fitsB a b c d xs (maskL xs.length mask) && betterB b d xs (maskL xs.length mask) best then maskL xs.length mask else best
def bestTo (a b c d : Int) (xs : List It) (n : Nat) : List Int := (List.range n).foldl (stepBest a b c d xs) []
theorem bestTo_succ (a b c d : Int) (xs : List It) (n : Nat) : bestTo a b c d xs (n + 1) = stepBest a b c d xs (bestTo a b c d xs n) n := by
  unfold bestTo; rw [List.range_succ, List.foldl_append]; rfl
theorem bestTo_one (a b c d : Int) (xs : List It) : bestTo a b c d xs 1 = [] := by
  show stepBest a b c d xs [] 0 = []
  unfold stepBest
  rw [maskL_null]
  split <;> rfl
theorem choice_nil (a : Int) (xs : List It) : choiceB a xs [] = true := rfl
theorem best_ok (a b c d : Int) (xs : List It) : ∀ n, choiceB a xs (bestTo a b c d xs n) = true := by
  intro n
  induction n with
  | zero => rfl
  | succ n ih =>
    rw [bestTo_succ]
    unfold stepBest
    split
    · rename_i h; simp only [fitsB, Bool.and_eq_true] at h; exact h.1.1
    · exact ih
end Go.Proofs.YtimeecimaokldaaGreatDoor

/- Contracts: slices of numbers compared. -/
namespace Go.Proofs.YtimeecimaokldaaGreatDoor
open Go Go.RowKit
set_option linter.unusedVariables false
set_option linter.unusedSimpArgs false

theorem eq_no_len {α : Type} [DecidableEq α] {x y : List α} (h : x.length ≠ y.length) : decide (x = y) = false := by
  rw [decide_eq_false_iff_not]; rintro rfl; exact h rfl
theorem eq_no_at {α : Type} [DecidableEq α] {x y : List α} {k : Nat} (hx : k < x.length) (hy : k < y.length) (h : x[k] ≠ y[k]) : decide (x = y) = false := by
  rw [decide_eq_false_iff_not]; rintro rfl; exact h rfl
theorem eq_yes {α : Type} [DecidableEq α] {x y : List α} {k : Nat} (h : x.take k = y.take k) (hx : ¬ k < x.length) (hl : x.length = y.length) : decide (x = y) = true := by
  rw [decide_eq_true_eq]
  rwa [List.take_of_length_le (by omega), List.take_of_length_le (by omega)] at h
theorem takes_step {α : Type} {x y : List α} {k : Nat} (h : x.take k = y.take k) (hx : k < x.length) (hy : k < y.length) (he : x[k] = y[k]) : x.take (k + 1) = y.take (k + 1) := by
  rw [List.take_succ_eq_append_getElem hx, List.take_succ_eq_append_getElem hy, h, he]

def cmpI (a b : Int) : Int := if a < b then -1 else if b < a then 1 else 0
end Go.Proofs.YtimeecimaokldaaGreatDoor

/- Contracts: slices of strings compared. -/
namespace Go.Proofs.YtimeecimaokldaaGreatDoor
open Go Go.RowKit
set_option linter.unusedVariables false
set_option linter.unusedSimpArgs false

theorem str_ne {a b : ByteArray} (h : a ≠ b) : (a.toList == b.toList) = false := by
  rw [beq_eq_false_iff_ne]
  intro e
  rw [bytes_toList, bytes_toList] at e
  exact h (by cases a; cases b; simp only [ByteArray.mk.injEq]; exact Array.toList_inj.1 e)
set_option maxHeartbeats 1000000 in
theorem l1SameS_any (u v : Value) (xs ys : List ByteArray) (w : World) (hu : Strs w u xs) (hv : Strs w v ys) : Calls Tryz.prog 112 #[u, v] w fun e w' => e = .returned (.bool (decide (xs = ys))) ∧ Below w.heap.size w w' := by
  obtain ⟨A, c, rfl, h1, h2, hr⟩ := hu
  obtain ⟨A', c', rfl, h1', h2', hr'⟩ := hv
  unfold maxLen at h2 h2'
  by_cases hl : xs.length = ys.length
  · have hle : ((xs.length : Int) == ys.length) = true := by rw [hl]; simp
    have hne : ((xs.length : Int) != ys.length) = false := by rw [hl]; simp
    have Hl := Lib.hid hl
    clear hl
    go_enter Tryz.func112, Tryz.ntmps112
    go_wp2_with fail
    go_loopw [13] (fun i wr => ∃ k : Nat, k ≤ xs.length ∧ i = .int .i64 k ∧ Below w.heap.size w wr ∧ xs.take k = ys.take k) (fun i _ => xs.length - (intOf i).toNat)
    case atStart => exact ⟨0, by omega, rfl, Below.refl _ _, by simp⟩
    case round =>
      obtain ⟨k, hk, rfl, hB, ht⟩ := hrel
      have Ht := Lib.hid ht
      clear ht
      by_cases hlt : k < xs.length
      · have hlt' : k < ys.length := by have := Hl.out; omega
        obtain ⟨ad, rfl, hC⟩ := strs_el hr hlt
        obtain ⟨ad', rfl, hC'⟩ := strs_el hr' hlt'
        by_cases he : xs[k] = ys[k]
        · have He := Lib.hid (takes_step Ht.out hlt hlt' he)
          have hb : (xs[k].toList == ys[k].toList) = true := by rw [he]; exact beq_self_eq_true _
          clear he
          go_wp2_with fail
          go_big_quiet (fail)
          go_wp2_with fail
          exact ⟨⟨k + 1, by omega, by go_num, bw_dr hB _, He.out⟩, by simp [intOf]; omega⟩
        · have He := Lib.hid (eq_no_at hlt hlt' he)
          have hb : (xs[k].toList == ys[k].toList) = false := str_ne he
          clear he
          go_wp2_with fail
          go_big_quiet (fail)
          go_wp2_with fail
          go_ret
          exact ⟨ret_bool He.out.symm, bw_dr hB _⟩
      · have He := Lib.hid (eq_yes Ht.out hlt Hl.out)
        go_wp2_with fail
        go_ret
        exact ⟨ret_bool He.out.symm, hB⟩
  · have He := Lib.hid (eq_no_len hl)
    have hle : ((xs.length : Int) == ys.length) = false := by simp; omega
    have hne : ((xs.length : Int) != ys.length) = true := by simp; omega
    clear hl
    go_enter Tryz.func112, Tryz.ntmps112
    go_wp2_with fail
    go_ret
    exact ⟨ret_bool He.out.symm, Below.refl _ _⟩
def cmpB (a b : ByteArray) : Int := if nmLt a b then -1 else if (a.toList == b.toList) then 0 else 1
def cmpSS : List ByteArray → List ByteArray → Int
  | [], [] => 0
  | [], _ :: _ => -1
  | _ :: _, [] => 1
  | a :: r, b :: s => if cmpB a b = 0 then cmpSS r s else cmpB a b
def lessS : List ByteArray → List ByteArray → Bool
  | a :: r, b :: s => if (a.toList == b.toList) then lessS r s else nmLt a b
  | _, _ => false
theorem less_irr (x : List UInt8) : Op.bytesLess x x = false := by
  have h := less_tot x x
  cases e : Op.bytesLess x x
  · rfl
  · rw [e] at h; simp at h
theorem cmpB_zero (a b : ByteArray) : cmpB a b = 0 ↔ (a.toList == b.toList) = true := by
  unfold cmpB nmLt
  cases e : (a.toList == b.toList)
  · cases Op.bytesLess a.toList b.toList <;> simp
  · rw [eq_of_beq e, less_irr]; simp
theorem less_cmp : ∀ {xs ys : List ByteArray}, xs.length = ys.length → lessS xs ys = decide (cmpSS xs ys < 0)
  | [], [], _ => rfl
  | [], _ :: _, h => by simp at h
  | _ :: _, [], h => by simp at h
  | a :: r, b :: s, h => by
    rw [lessS, cmpSS]
    have hz := cmpB_zero a b
    cases e : (a.toList == b.toList)
    · rw [e] at hz
      rw [if_neg (by simp), if_neg (by simp [hz])]
      unfold cmpB
      rw [e]
      cases nmLt a b <;> rfl
    · rw [if_pos rfl, if_pos (hz.2 e)]
      exact less_cmp (by simpa using h)
theorem cmp_step {xs ys : List ByteArray} {k : Nat} {r : Int} (hx : k < xs.length) (hy : k < ys.length) (h : cmpSS (xs.drop k) (ys.drop k) = r) (hz : cmpB xs[k] ys[k] = 0) : cmpSS (xs.drop (k + 1)) (ys.drop (k + 1)) = r := by
  rw [List.drop_eq_getElem_cons hx, List.drop_eq_getElem_cons hy, cmpSS, if_pos hz] at h; exact h
theorem cmp_at {xs ys : List ByteArray} {k : Nat} {r : Int} (hx : k < xs.length) (hy : k < ys.length) (h : cmpSS (xs.drop k) (ys.drop k) = r) (hz : ¬ cmpB xs[k] ys[k] = 0) : r = cmpB xs[k] ys[k] := by
  rw [List.drop_eq_getElem_cons hx, List.drop_eq_getElem_cons hy, cmpSS, if_neg hz] at h; exact h.symm
theorem cmp_end {xs ys : List ByteArray} {k : Nat} {r : Int} (hx : xs.length ≤ k) (hy : ys.length ≤ k) (h : cmpSS (xs.drop k) (ys.drop k) = r) : r = 0 := by
  rw [List.drop_of_length_le hx, List.drop_of_length_le hy] at h; exact h.symm
end Go.Proofs.YtimeecimaokldaaGreatDoor

/- Contracts: slices of strings: less, reversed. -/
namespace Go.Proofs.YtimeecimaokldaaGreatDoor
open Go Go.RowKit
set_option linter.unusedVariables false
set_option linter.unusedSimpArgs false

theorem lessS_step {xs ys : List ByteArray} {k : Nat} {r : Bool} (hx : k < xs.length) (hy : k < ys.length) (h : lessS (xs.drop k) (ys.drop k) = r) (hz : (xs[k].toList == ys[k].toList) = true) : lessS (xs.drop (k + 1)) (ys.drop (k + 1)) = r := by
  rw [List.drop_eq_getElem_cons hx, List.drop_eq_getElem_cons hy, lessS, if_pos hz] at h; exact h
theorem lessS_at {xs ys : List ByteArray} {k : Nat} {r : Bool} (hx : k < xs.length) (hy : k < ys.length) (h : lessS (xs.drop k) (ys.drop k) = r) (hz : (xs[k].toList == ys[k].toList) = false) : r = Op.bytesLess xs[k].toList ys[k].toList := by
  rw [List.drop_eq_getElem_cons hx, List.drop_eq_getElem_cons hy, lessS, if_neg (by rw [hz]; decide)] at h; exact h.symm
theorem lessS_end {xs ys : List ByteArray} {k : Nat} {r : Bool} (hx : xs.length ≤ k) (h : lessS (xs.drop k) (ys.drop k) = r) : r = false := by
  rw [List.drop_of_length_le hx] at h
  rw [← h]; rfl
/-- The list xs, its first k and its last k elements changed about. -/
def Turned {α : Type} (xs cs : List α) (k : Nat) : Prop := cs.length = xs.length ∧ ∀ t, t < xs.length → cs[t]? = if t < k ∨ xs.length - k ≤ t then xs[xs.length - 1 - t]? else xs[t]?
theorem turned_zero {α : Type} (xs : List α) : Turned xs xs 0 := ⟨rfl, fun t ht => by rw [if_neg (by omega)]⟩
theorem turned_end {α : Type} {xs cs : List α} {k : Nat} (h : Turned xs cs k) (hk : xs.length ≤ 2 * k + 1) : cs = xs.reverse := by
  apply List.ext_getElem?
  intro t
  by_cases ht : t < xs.length
  · rw [h.2 t ht, List.getElem?_reverse ht]
    split
    · rfl
    · rw [show xs.length - 1 - t = t from by omega]
  · rw [List.getElem?_eq_none (by have := h.1; omega), List.getElem?_eq_none (by simp; omega)]
theorem turned_step {α : Type} {xs cs : List α} {k j : Nat} (h : Turned xs cs k) (hk : 2 * k + 1 < xs.length) (hj : j = xs.length - 1 - k) {a b : α} (ha : cs[k]? = some a) (hb : cs[j]? = some b) : Turned xs ((cs.set k b).set j a) (k + 1) := by
  have hka := h.2 k (by omega)
  have hjb := h.2 j (by omega)
  rw [if_neg (by omega)] at hka hjb
  refine ⟨by simp [h.1], fun t ht => ?_⟩
  by_cases e1 : t = j
  · subst e1
    rw [List.getElem?_set_self (by simp; have := h.1; omega), if_pos (by omega), show xs.length - 1 - t = k from by omega, ← hka, ha]
  · rw [List.getElem?_set_ne (by omega)]
    by_cases e2 : t = k
    · subst e2
      rw [List.getElem?_set_self (by have := h.1; omega), if_pos (by omega), show xs.length - 1 - t = j from by omega, ← hjb, hb]
    · rw [List.getElem?_set_ne (by omega), h.2 t ht]
      by_cases e3 : t < k ∨ xs.length - k ≤ t
      · rw [if_pos e3, if_pos (by omega)]
      · rw [if_neg e3, if_neg (by omega)]
end Go.Proofs.YtimeecimaokldaaGreatDoor

/- Contracts: room for a slice of strings; two slices joined. -/
namespace Go.Proofs.YtimeecimaokldaaGreatDoor
open Go Go.RowKit
set_option linter.unusedVariables false
set_option linter.unusedSimpArgs false

end Go.Proofs.YtimeecimaokldaaGreatDoor

/- Contracts: a list that begins with its element k. -/
namespace Go.Proofs.YtimeecimaokldaaGreatDoor
open Go Go.RowKit
set_option linter.unusedVariables false
set_option linter.unusedSimpArgs false

theorem strs_from {w : World} {ad : Addr} {c k : Nat} {ss : List ByteArray} (h : Strs w (.slice (some ad) ss.length c) ss) (hk : k < ss.length) : Strs w (.slice (some (ad.add k)) (ss.length - k) (c - k)) (ss.drop k) := by
  obtain ⟨A', c', hA, h1, h2, hr⟩ := h
  cases hA
  have hc := hr.cut (k := k) (cap := c) (by omega) h1
  rw [if_neg (by omega)] at hc
  simp only [Option.map_some, Nat.mul_one] at hc
  refine ⟨some (ad.add k), c - k, by rw [List.length_drop], by rw [List.length_drop]; omega, by omega, ?_⟩
  rw [List.length_drop, List.map_drop]
  exact hc
theorem strs_upto {w : World} {ad : Addr} {c k : Nat} {ss : List ByteArray} (h : Strs w (.slice (some ad) ss.length c) ss) (hk : k < ss.length) : Strs w (.slice (some ad) k c) (ss.take k) := by
  obtain ⟨A', c', hA, h1, h2, hr⟩ := h
  cases hA
  have hl : (ss.take k).length = k := by rw [List.length_take]; omega
  refine ⟨some ad, c, by rw [hl], by rw [hl]; omega, h2, ?_⟩
  rw [hl]
  refine ⟨by simp; omega, fun h0 => ?_⟩
  obtain ⟨ad', e, hb, hc⟩ := hr.2 (by omega)
  refine ⟨ad', e, hb, fun j u hu => hc j u ?_⟩
  rw [List.map_take] at hu
  have hj : j < k := by have := (List.getElem?_eq_some_iff.1 hu).1; simp at this; omega
  rwa [List.getElem?_take_of_lt hj] at hu
theorem nilok_some (a : Addr) (n c : Nat) : NilOk (.slice (some a) n c) := by intro n' c' h; cases h
end Go.Proofs.YtimeecimaokldaaGreatDoor

/- Contracts: a method with other changes; a method's copy of the reference. -/
namespace Go.Proofs.YtimeecimaokldaaGreatDoor
open Go Go.RowKit
set_option linter.unusedVariables false
set_option linter.unusedSimpArgs false

set_option maxHeartbeats 1000000 in
theorem withChanges_any (m : Mt) (v : Value) (A : Option Addr) (n c : Nat) (w : World) : Calls Tryz.prog 102 #[m.v v, .slice A n c] w fun e w' => e = .returned (m.v (.slice A n c)) ∧ Below w.heap.size w w' := by
  unfold Mt.v
  go_enter Tryz.func102, Tryz.ntmps102
  go_wp2
  refine bodyPost_ret (v := .agg #[.string m.name, .int .i64 m.stage, .slice A n c]) (by simp [results, go_sem]) rfl ⟨rfl, ?_⟩
  exact bw_al (bw_al (Below.refl _ _) _) _
theorem blk_lt {w : World} {g : Nat} {o : Obj} (h : w.heap[g]? = some o) : g < w.heap.size := by
  rcases Nat.lt_or_ge g w.heap.size with hlt | hge
  · exact hlt
  · rw [Array.getElem?_eq_none hge] at h; cases h
theorem boxRuleB {wb : World} {g B : Nat} {cs : Array Value} {t : TypeId} (h : wb.heap[g]? = some (.cells cs t (0, 0))) (hB : g < B) : ∀ (w' : World) (i : Nat), Below B wb w' → w'.cell? ⟨g, i, none⟩ = cs[i]? := by
  intro w' i hb
  exact cell_of_row w' g i cs t (0, 0) ((hb.block g hB).trans h)
theorem set3_low {a w : World} {B g : Nat} {p q r : Nat} {x y z : Value} (h : Below B a w) (hg : B ≤ g) : Below B a (((w.setCell ⟨g, p, none⟩ x).setCell ⟨g, q, none⟩ y).setCell ⟨g, r, none⟩ z) :=
  ((h.setCell (p := ⟨g, p, none⟩) hg x).setCell (p := ⟨g, q, none⟩) hg y).setCell (p := ⟨g, r, none⟩) hg z
set_option maxHeartbeats 1000000 in
theorem l4Own_any (m : Mt) (v : Value) (w : World) (h : Strs w v m.l) (hn : NilOk v) (hlen : m.l.length ≤ 10000000) : Calls Tryz.prog 95 #[m.v v] w fun e w' =>
    ∃ r : Value, e = .returned (m.v r) ∧ w'.ownsRow w.heap.size 9 1 r m.l.length (m.l.map Value.string) ∧ Below w.heap.size w w' := by
  unfold Mt.v
  go_enter Tryz.func95, Tryz.ntmps95
  go_wp2_with fail
  refine box2 (C := fun W => Code.wp _ _ _ _ W) ?_
  intro wb hw k1 k2 hB0
  have R1 := boxRule k1
  have R2 := boxRule k2
  have hds : ∀ w', Below wb.drew.heap.size wb.drew w' → Below wb.heap.size wb w' := fun w' hb => bw_to (Below.drew (Below.refl _ _)) hb
  have F2 := fun (j : Nat) w' hb => frozen_of_heap k2 j (w' := w') hb
  have Hh := Lib.hid h
  have hdr : Below wb.heap.size wb wb.drew := Below.drew (Below.refl _ _)
  have hlt2 : w.heap.size + 1 < wb.heap.size := blk_lt k2
  have R1' := fun w' i hb => boxRuleB k1 (Nat.lt_succ_self _) w' i hb
  have Hs := Lib.hid (Nat.le_of_lt hlt2)
  have hst := Below.refl (w.heap.size + 1) wb
  clear k1 k2 h R1
  go_region_held3 (fun w' => Below (w.heap.size + 1) wb w') (first | exact Below.drew (by assumption) | exact (hds _ hb').mono Hs.out | exact set3_low (by assumption) (Nat.le_refl _))
    (first | (go_at_call 135; refine (l1OwnS_any v m.l _ (Hh.out.to (bw_to hw hdr)) hn (by omega)).mono ?_; rintro e w' ⟨r, rfl, hown, hb'⟩; (obtain ⟨A, c, hrs, _⟩ := sl_of_own hown); subst hrs; (have hBn := hds _ hb'); (have c0 := R2 w' 0 hBn); (have c1 := R2 w' 1 hBn); (have c2 := R2 w' 2 hBn); (have f0 := F2 0 w' hBn); (have f1 := F2 1 w' hBn); (have f2 := F2 2 w' hBn)))
  go_wp2_with fail
  refine bodyPost_ret (v := .agg #[.string m.name, .int .i64 m.stage, .slice A m.l.length c]) ?hr rfl ⟨_, rfl, ?ho, ?hb⟩
  case ho => exact own_base (own_past (own_past (own_past hown hlt2 _ _) hlt2 _ _) hlt2 _ _) hw.size
  case hb => exact grow_set (grow_set (grow_set (bw_to hw hBn) (Nat.le_succ _) _) (Nat.le_succ _) _) (Nat.le_succ _) _
  case hr => simp [results, go_sem, c0, c1, c2]
end Go.Proofs.YtimeecimaokldaaGreatDoor

/- Contracts: a method that begins with its change k; a method turned. -/
namespace Go.Proofs.YtimeecimaokldaaGreatDoor
open Go Go.RowKit
set_option linter.unusedVariables false
set_option linter.unusedSimpArgs false

end Go.Proofs.YtimeecimaokldaaGreatDoor
