/- Contracts: slices of strings: less, reversed. -/
import Derived.Test.YtpkpahadjdkafaaPk15
import Derived.Lib.AppendZeros
namespace Go.Proofs.Ytpkpahadjdkafaa
open Go Go.RowKit
set_option linter.unusedVariables false
set_option linter.unusedSimpArgs false

theorem lessS_step {xs ys : List ByteArray} {k : Nat} {r : Bool} (hx : k < xs.length) (hy : k < ys.length) (h : lessS (xs.drop k) (ys.drop k) = r) (hz : (xs[k].toList == ys[k].toList) = true) : lessS (xs.drop (k + 1)) (ys.drop (k + 1)) = r := by
  rw [List.drop_eq_getElem_cons hx, List.drop_eq_getElem_cons hy, lessS, if_pos hz] at h; exact h
theorem lessS_at {xs ys : List ByteArray} {k : Nat} {r : Bool} (hx : k < xs.length) (hy : k < ys.length) (h : lessS (xs.drop k) (ys.drop k) = r) (hz : (xs[k].toList == ys[k].toList) = false) : r = Op.bytesLess xs[k].toList ys[k].toList := by
  rw [List.drop_eq_getElem_cons hx, List.drop_eq_getElem_cons hy, lessS, if_neg (by rw [hz]; decide)] at h; exact h.symm
theorem lessS_end {xs ys : List ByteArray} {k : Nat} {r : Bool} (hx : xs.length ≤ k) (h : lessS (xs.drop k) (ys.drop k) = r) : r = false := by
  rw [List.drop_of_length_le hx] at h
  rw [← h]; rfl
/-- The list xs, its first k and its last k elements changed about. -/
def Turned {α : Type} (xs cs : List α) (k : Nat) : Prop := cs.length = xs.length ∧ ∀ t, t < xs.length → cs[t]? = if t < k ∨ xs.length - k ≤ t then xs[xs.length - 1 - t]? else xs[t]?
theorem turned_zero {α : Type} (xs : List α) : Turned xs xs 0 := ⟨rfl, fun t ht => by rw [if_neg (by omega)]⟩
theorem turned_end {α : Type} {xs cs : List α} {k : Nat} (h : Turned xs cs k) (hk : xs.length ≤ 2 * k + 1) : cs = xs.reverse := by
  apply List.ext_getElem?
  intro t
  by_cases ht : t < xs.length
  · rw [h.2 t ht, List.getElem?_reverse ht]
    split
    · rfl
    · rw [show xs.length - 1 - t = t from by omega]
  · rw [List.getElem?_eq_none (by have := h.1; omega), List.getElem?_eq_none (by simp; omega)]
theorem turned_step {α : Type} {xs cs : List α} {k j : Nat} (h : Turned xs cs k) (hk : 2 * k + 1 < xs.length) (hj : j = xs.length - 1 - k) {a b : α} (ha : cs[k]? = some a) (hb : cs[j]? = some b) : Turned xs ((cs.set k b).set j a) (k + 1) := by
  have hka := h.2 k (by omega)
  have hjb := h.2 j (by omega)
  rw [if_neg (by omega)] at hka hjb
  refine ⟨by simp [h.1], fun t ht => ?_⟩
  by_cases e1 : t = j
  · subst e1
    rw [List.getElem?_set_self (by simp; have := h.1; omega), if_pos (by omega), show xs.length - 1 - t = k from by omega, ← hka, ha]
  · rw [List.getElem?_set_ne (by omega)]
    by_cases e2 : t = k
    · subst e2
      rw [List.getElem?_set_self (by have := h.1; omega), if_pos (by omega), show xs.length - 1 - t = j from by omega, ← hjb, hb]
    · rw [List.getElem?_set_ne (by omega), h.2 t ht]
      by_cases e3 : t < k ∨ xs.length - k ≤ t
      · rw [if_pos e3, if_pos (by omega)]
      · rw [if_neg e3, if_neg (by omega)]
set_option maxHeartbeats 2000000 in
theorem reverseStr_any (v : Value) (n base : Nat) (xs : List ByteArray) (w : World) (h : w.ownsRow base 9 1 v n (xs.map Value.string)) (hn : n ≤ 100000000) (hb : base ≤ w.heap.size) : Calls Try.prog 101 #[v] w fun e w' => e = .returned (.tuple #[]) ∧ w'.ownsRow base 9 1 v n (xs.reverse.map Value.string) ∧ Below base w w' := by
  rcases Nat.eq_zero_or_pos n with h0 | hpos
  · subst h0
    obtain ⟨A, c, rfl, _⟩ := sl_of_own h
    have hx : xs = [] := List.eq_nil_of_length_eq_zero (by have := h.1; simpa using this)
    subst hx
    go_enter Try.func101, Try.ntmps101
    go_wp2_with fail
    go_loopw [2, 3] (fun i j wr => i = .int .i64 0 ∧ j = .int .i64 (-1) ∧ wr = w) (fun i _ _ => 0)
    case atStart => exact ⟨rfl, rfl, rfl⟩
    case round =>
      obtain ⟨rfl, rfl, rfl⟩ := hrel
      go_wp2_with fail
      go_end0
      exact ⟨rfl, by simpa using h, Below.refl _ _⟩
  · obtain ⟨g, cap, hv, hg, hlt⟩ := h.form hpos
    subst hv
    have hlen : xs.length = n := by have := h.1; simpa using this
    go_enter Try.func101, Try.ntmps101
    go_wp2_with fail
    go_loopw [2, 3] (fun i j wr => ∃ k q : Nat, ∃ cs : List ByteArray, k + q + 1 = n ∧ k ≤ q + 1 ∧ i = .int .i64 k ∧ j = .int .i64 q ∧ wr.ownsRow base 9 1 (.slice (some ⟨g, 0, none⟩) n cap) n (cs.map Value.string) ∧ Turned xs cs k ∧ Below base w wr) (fun i _ _ => n - (intOf i).toNat)
    case atStart => exact ⟨0, n - 1, xs, by omega, by omega, rfl, by simp; omega, h, turned_zero xs, Below.refl _ _⟩
    case round =>
      obtain ⟨k, q, cs, hkq, hk, rfl, rfl, hown, ht, hB⟩ := hrel
      have Ht := Lib.hid ht
      clear ht
      by_cases hm : k < q
      · have hlc : cs.length = n := by have := hown.1; simpa using this
        obtain ⟨a, ha⟩ : ∃ a, cs[k]? = some a := ⟨_, List.getElem?_eq_getElem (by omega)⟩
        obtain ⟨b, hb'⟩ : ∃ b, cs[q]? = some b := ⟨_, List.getElem?_eq_getElem (by omega)⟩
        have c1 : wr.cell? ⟨g, k, none⟩ = some (.string a) := (hown.cellAt k (by omega)).trans (by rw [List.getElem?_map, ha]; rfl)
        have c2 : wr.cell? ⟨g, q, none⟩ = some (.string b) := (hown.cellAt q (by omega)).trans (by rw [List.getElem?_map, hb']; rfl)
        have f1 := hown.frozenAt k
        have f2 := hown.frozenAt q
        have Hs := Lib.hid (turned_step Ht.out (by omega) (j := q) (by omega) ha hb')
        clear ha hb'
        obtain ⟨cs', hcs'⟩ : ∃ cs', cs' = (cs.set k b).set q a := ⟨_, rfl⟩
        rw [← hcs'] at Hs
        have Hcs' := Lib.hid hcs'
        clear hcs'
        have hkn : k < n := by omega
        have hqn : q < n := by omega
        go_wp2_with fail
        go_region
        go_wp2_with fail
        refine ⟨⟨k + 1, q - 1, cs', by omega, by omega, by go_num, ?_, ?_, Hs.out, ?_⟩, by simp [intOf]; omega⟩
        · congr 1; omega
        · rw [Hcs'.out, List.map_set, List.map_set]
          exact World.ownsRow.drew (own_set (own_set hown _ _) _ _)
        · exact Below.drew (Below.setCell (p := ⟨g, q, none⟩) (Below.setCell (p := ⟨g, k, none⟩) hB hg _) hg _)
      · have Hr := Lib.hid (turned_end Ht.out (by omega))
        go_wp2_with fail
        go_end0
        exact ⟨rfl, by rw [← Hr.out]; exact hown, hB⟩
set_option maxHeartbeats 1000000 in
theorem reversed_any (v : Value) (ss : List ByteArray) (w : World) (h : Strs w v ss) (hn : NilOk v) (hlen : ss.length ≤ 10000000) : Calls Try.prog 64 #[v] w fun e w' =>
    ∃ r : Value, e = .returned r ∧ w'.ownsRow w.heap.size 9 1 r ss.length (ss.reverse.map Value.string) ∧ Below w.heap.size w w' := by
  go_enter Try.func64, Try.ntmps64
  go_wp2_with fail
  refine (cloneStr_any _ _ _ h hn (by omega)).mono ?_; rintro e w1 ⟨r, rfl, hown, hb1⟩
  go_wp2_with fail
  refine (reverseStr_any _ _ _ _ _ hown (by omega) hb1.size).mono ?_; rintro e w2 ⟨rfl, hown2, hb2⟩
  go_wp2_with fail
  go_ret
  exact ⟨_, rfl, hown2, hb1.trans hb2⟩
end Go.Proofs.Ytpkpahadjdkafaa

/- Contracts: room for a slice of strings; two slices joined. -/
namespace Go.Proofs.Ytpkpahadjdkafaa
open Go Go.RowKit
set_option linter.unusedVariables false
set_option linter.unusedSimpArgs false

end Go.Proofs.Ytpkpahadjdkafaa

/- Contracts: a list that begins with its element k. -/
namespace Go.Proofs.Ytpkpahadjdkafaa
open Go Go.RowKit
set_option linter.unusedVariables false
set_option linter.unusedSimpArgs false

theorem strs_from {w : World} {ad : Addr} {c k : Nat} {ss : List ByteArray} (h : Strs w (.slice (some ad) ss.length c) ss) (hk : k < ss.length) : Strs w (.slice (some (ad.add k)) (ss.length - k) (c - k)) (ss.drop k) := by
  obtain ⟨A', c', hA, h1, h2, hr⟩ := h
  cases hA
  have hc := hr.cut (k := k) (cap := c) (by omega) h1
  rw [if_neg (by omega)] at hc
  simp only [Option.map_some, Nat.mul_one] at hc
  refine ⟨some (ad.add k), c - k, by rw [List.length_drop], by rw [List.length_drop]; omega, by omega, ?_⟩
  rw [List.length_drop, List.map_drop]
  exact hc
theorem strs_upto {w : World} {ad : Addr} {c k : Nat} {ss : List ByteArray} (h : Strs w (.slice (some ad) ss.length c) ss) (hk : k < ss.length) : Strs w (.slice (some ad) k c) (ss.take k) := by
  obtain ⟨A', c', hA, h1, h2, hr⟩ := h
  cases hA
  have hl : (ss.take k).length = k := by rw [List.length_take]; omega
  refine ⟨some ad, c, by rw [hl], by rw [hl]; omega, h2, ?_⟩
  rw [hl]
  refine ⟨by simp; omega, fun h0 => ?_⟩
  obtain ⟨ad', e, hb, hc⟩ := hr.2 (by omega)
  refine ⟨ad', e, hb, fun j u hu => hc j u ?_⟩
  rw [List.map_take] at hu
  have hj : j < k := by have := (List.getElem?_eq_some_iff.1 hu).1; simp at this; omega
  rwa [List.getElem?_take_of_lt hj] at hu
theorem nilok_some (a : Addr) (n c : Nat) : NilOk (.slice (some a) n c) := by intro n' c' h; cases h
end Go.Proofs.Ytpkpahadjdkafaa

/- Contracts: a method with other changes; a method's copy of the reference. -/
namespace Go.Proofs.Ytpkpahadjdkafaa
open Go Go.RowKit
set_option linter.unusedVariables false
set_option linter.unusedSimpArgs false

set_option maxHeartbeats 1000000 in
theorem withChanges_any (m : Mt) (v : Value) (A : Option Addr) (n c : Nat) (w : World) : Calls Try.prog 63 #[m.v v, .slice A n c] w fun e w' => e = .returned (m.v (.slice A n c)) ∧ Below w.heap.size w w' := by
  unfold Mt.v
  go_enter Try.func63, Try.ntmps63
  go_wp2
  refine bodyPost_ret (v := .agg #[.string m.name, .int .i64 m.stage, .slice A n c]) (by simp [results, go_sem]) rfl ⟨rfl, ?_⟩
  exact bw_al (bw_al (Below.refl _ _) _) _
theorem blk_lt {w : World} {g : Nat} {o : Obj} (h : w.heap[g]? = some o) : g < w.heap.size := by
  rcases Nat.lt_or_ge g w.heap.size with hlt | hge
  · exact hlt
  · rw [Array.getElem?_eq_none hge] at h; cases h
theorem boxRuleB {wb : World} {g B : Nat} {cs : Array Value} {t : TypeId} (h : wb.heap[g]? = some (.cells cs t (0, 0))) (hB : g < B) : ∀ (w' : World) (i : Nat), Below B wb w' → w'.cell? ⟨g, i, none⟩ = cs[i]? := by
  intro w' i hb
  exact cell_of_row w' g i cs t (0, 0) ((hb.block g hB).trans h)
theorem set3_low {a w : World} {B g : Nat} {p q r : Nat} {x y z : Value} (h : Below B a w) (hg : B ≤ g) : Below B a (((w.setCell ⟨g, p, none⟩ x).setCell ⟨g, q, none⟩ y).setCell ⟨g, r, none⟩ z) :=
  ((h.setCell (p := ⟨g, p, none⟩) hg x).setCell (p := ⟨g, q, none⟩) hg y).setCell (p := ⟨g, r, none⟩) hg z
end Go.Proofs.Ytpkpahadjdkafaa

/- Contracts: a method that begins with its change k; a method turned. -/
namespace Go.Proofs.Ytpkpahadjdkafaa
open Go Go.RowKit
set_option linter.unusedVariables false
set_option linter.unusedSimpArgs false

end Go.Proofs.Ytpkpahadjdkafaa
