/- Contracts: slices of strings compared. -/
import Derived.Test.YtofpjbdelmmclaaGreatDoorPk14
import Derived.Test.YtofpjbdelmmclaaGreatDoorPk7
import Derived.Lib.AppendZeros
import Derived.Test.YtofpjbdelmmclaaGreatDoorPk17
namespace Go.Proofs.YtofpjbdelmmclaaGreatDoor
open Go Go.RowKit
set_option linter.unusedVariables false
set_option linter.unusedSimpArgs false

theorem str_ne {a b : ByteArray} (h : a ≠ b) : (a.toList == b.toList) = false := by
  rw [beq_eq_false_iff_ne]
  intro e
  rw [bytes_toList, bytes_toList] at e
  exact h (by cases a; cases b; simp only [ByteArray.mk.injEq]; exact Array.toList_inj.1 e)
set_option maxHeartbeats 1000000 in
theorem l1SameS_any (u v : Value) (xs ys : List ByteArray) (w : World) (hu : Strs w u xs) (hv : Strs w v ys) : Calls Tryz.prog 45 #[u, v] w fun e w' => e = .returned (.bool (decide (xs = ys))) ∧ Below w.heap.size w w' := by
  obtain ⟨A, c, rfl, h1, h2, hr⟩ := hu
  obtain ⟨A', c', rfl, h1', h2', hr'⟩ := hv
  unfold maxLen at h2 h2'
  by_cases hl : xs.length = ys.length
  · have hle : ((xs.length : Int) == ys.length) = true := by rw [hl]; simp
    have hne : ((xs.length : Int) != ys.length) = false := by rw [hl]; simp
    have Hl := Lib.hid hl
    clear hl
    go_enter Tryz.func45, Tryz.ntmps45
    go_wp2_with fail
    go_loopw [13] (fun i wr => ∃ k : Nat, k ≤ xs.length ∧ i = .int .i64 k ∧ Below w.heap.size w wr ∧ xs.take k = ys.take k) (fun i _ => xs.length - (intOf i).toNat)
    case atStart => exact ⟨0, by omega, rfl, Below.refl _ _, by simp⟩
    case round =>
      obtain ⟨k, hk, rfl, hB, ht⟩ := hrel
      have Ht := Lib.hid ht
      clear ht
      by_cases hlt : k < xs.length
      · have hlt' : k < ys.length := by have := Hl.out; omega
        obtain ⟨ad, rfl, hC⟩ := strs_el hr hlt
        obtain ⟨ad', rfl, hC'⟩ := strs_el hr' hlt'
        by_cases he : xs[k] = ys[k]
        · have He := Lib.hid (takes_step Ht.out hlt hlt' he)
          have hb : (xs[k].toList == ys[k].toList) = true := by rw [he]; exact beq_self_eq_true _
          clear he
          go_wp2_with fail
          go_big_quiet (fail)
          go_wp2_with fail
          exact ⟨⟨k + 1, by omega, by go_num, bw_dr hB _, He.out⟩, by simp [intOf]; omega⟩
        · have He := Lib.hid (eq_no_at hlt hlt' he)
          have hb : (xs[k].toList == ys[k].toList) = false := str_ne he
          clear he
          go_wp2_with fail
          go_big_quiet (fail)
          go_wp2_with fail
          go_ret
          exact ⟨ret_bool He.out.symm, bw_dr hB _⟩
      · have He := Lib.hid (eq_yes Ht.out hlt Hl.out)
        go_wp2_with fail
        go_ret
        exact ⟨ret_bool He.out.symm, hB⟩
  · have He := Lib.hid (eq_no_len hl)
    have hle : ((xs.length : Int) == ys.length) = false := by simp; omega
    have hne : ((xs.length : Int) != ys.length) = true := by simp; omega
    clear hl
    go_enter Tryz.func45, Tryz.ntmps45
    go_wp2_with fail
    go_ret
    exact ⟨ret_bool He.out.symm, Below.refl _ _⟩
def cmpB (a b : ByteArray) : Int := if nmLt a b then -1 else if (a.toList == b.toList) then 0 else 1
def cmpSS : List ByteArray → List ByteArray → Int
  | [], [] => 0
  | [], _ :: _ => -1
  | _ :: _, [] => 1
  | a :: r, b :: s => if cmpB a b = 0 then cmpSS r s else cmpB a b
def lessS : List ByteArray → List ByteArray → Bool
  | a :: r, b :: s => if (a.toList == b.toList) then lessS r s else nmLt a b
  | _, _ => false
theorem less_irr (x : List UInt8) : Op.bytesLess x x = false := by
  have h := less_tot x x
  cases e : Op.bytesLess x x
  · rfl
  · rw [e] at h; simp at h
theorem cmpB_zero (a b : ByteArray) : cmpB a b = 0 ↔ (a.toList == b.toList) = true := by
  unfold cmpB nmLt
  cases e : (a.toList == b.toList)
  · cases Op.bytesLess a.toList b.toList <;> simp
  · rw [eq_of_beq e, less_irr]; simp
theorem less_cmp : ∀ {xs ys : List ByteArray}, xs.length = ys.length → lessS xs ys = decide (cmpSS xs ys < 0)
  | [], [], _ => rfl
  | [], _ :: _, h => by simp at h
  | _ :: _, [], h => by simp at h
  | a :: r, b :: s, h => by
    rw [lessS, cmpSS]
    have hz := cmpB_zero a b
    cases e : (a.toList == b.toList)
    · rw [e] at hz
      rw [if_neg (by simp), if_neg (by simp [hz])]
      unfold cmpB
      rw [e]
      cases nmLt a b <;> rfl
    · rw [if_pos rfl, if_pos (hz.2 e)]
      exact less_cmp (by simpa using h)
theorem cmp_step {xs ys : List ByteArray} {k : Nat} {r : Int} (hx : k < xs.length) (hy : k < ys.length) (h : cmpSS (xs.drop k) (ys.drop k) = r) (hz : cmpB xs[k] ys[k] = 0) : cmpSS (xs.drop (k + 1)) (ys.drop (k + 1)) = r := by
  rw [List.drop_eq_getElem_cons hx, List.drop_eq_getElem_cons hy, cmpSS, if_pos hz] at h; exact h
theorem cmp_at {xs ys : List ByteArray} {k : Nat} {r : Int} (hx : k < xs.length) (hy : k < ys.length) (h : cmpSS (xs.drop k) (ys.drop k) = r) (hz : ¬ cmpB xs[k] ys[k] = 0) : r = cmpB xs[k] ys[k] := by
  rw [List.drop_eq_getElem_cons hx, List.drop_eq_getElem_cons hy, cmpSS, if_neg hz] at h; exact h.symm
theorem cmp_end {xs ys : List ByteArray} {k : Nat} {r : Int} (hx : xs.length ≤ k) (hy : ys.length ≤ k) (h : cmpSS (xs.drop k) (ys.drop k) = r) : r = 0 := by
  rw [List.drop_of_length_le hx, List.drop_of_length_le hy] at h; exact h.symm
end Go.Proofs.YtofpjbdelmmclaaGreatDoor

/- Contracts: slices of strings: less, reversed. -/
namespace Go.Proofs.YtofpjbdelmmclaaGreatDoor
open Go Go.RowKit
set_option linter.unusedVariables false
set_option linter.unusedSimpArgs false

theorem lessS_step {xs ys : List ByteArray} {k : Nat} {r : Bool} (hx : k < xs.length) (hy : k < ys.length) (h : lessS (xs.drop k) (ys.drop k) = r) (hz : (xs[k].toList == ys[k].toList) = true) : lessS (xs.drop (k + 1)) (ys.drop (k + 1)) = r := by
  rw [List.drop_eq_getElem_cons hx, List.drop_eq_getElem_cons hy, lessS, if_pos hz] at h; exact h
theorem lessS_at {xs ys : List ByteArray} {k : Nat} {r : Bool} (hx : k < xs.length) (hy : k < ys.length) (h : lessS (xs.drop k) (ys.drop k) = r) (hz : (xs[k].toList == ys[k].toList) = false) : r = Op.bytesLess xs[k].toList ys[k].toList := by
  rw [List.drop_eq_getElem_cons hx, List.drop_eq_getElem_cons hy, lessS, if_neg (by rw [hz]; decide)] at h; exact h.symm
theorem lessS_end {xs ys : List ByteArray} {k : Nat} {r : Bool} (hx : xs.length ≤ k) (h : lessS (xs.drop k) (ys.drop k) = r) : r = false := by
  rw [List.drop_of_length_le hx] at h
  rw [← h]; rfl
/-- The list xs, its first k and its last k elements changed about. -/
def Turned {α : Type} (xs cs : List α) (k : Nat) : Prop := cs.length = xs.length ∧ ∀ t, t < xs.length → cs[t]? = if t < k ∨ xs.length - k ≤ t then xs[xs.length - 1 - t]? else xs[t]?
theorem turned_zero {α : Type} (xs : List α) : Turned xs xs 0 := ⟨rfl, fun t ht => by rw [if_neg (by omega)]⟩
theorem turned_end {α : Type} {xs cs : List α} {k : Nat} (h : Turned xs cs k) (hk : xs.length ≤ 2 * k + 1) : cs = xs.reverse := by
  apply List.ext_getElem?
  intro t
  by_cases ht : t < xs.length
  · rw [h.2 t ht, List.getElem?_reverse ht]
    split
    · rfl
    · rw [show xs.length - 1 - t = t from by omega]
  · rw [List.getElem?_eq_none (by have := h.1; omega), List.getElem?_eq_none (by simp; omega)]
theorem turned_step {α : Type} {xs cs : List α} {k j : Nat} (h : Turned xs cs k) (hk : 2 * k + 1 < xs.length) (hj : j = xs.length - 1 - k) {a b : α} (ha : cs[k]? = some a) (hb : cs[j]? = some b) : Turned xs ((cs.set k b).set j a) (k + 1) := by
  have hka := h.2 k (by omega)
  have hjb := h.2 j (by omega)
  rw [if_neg (by omega)] at hka hjb
  refine ⟨by simp [h.1], fun t ht => ?_⟩
  by_cases e1 : t = j
  · subst e1
    rw [List.getElem?_set_self (by simp; have := h.1; omega), if_pos (by omega), show xs.length - 1 - t = k from by omega, ← hka, ha]
  · rw [List.getElem?_set_ne (by omega)]
    by_cases e2 : t = k
    · subst e2
      rw [List.getElem?_set_self (by have := h.1; omega), if_pos (by omega), show xs.length - 1 - t = j from by omega, ← hjb, hb]
    · rw [List.getElem?_set_ne (by omega), h.2 t ht]
      by_cases e3 : t < k ∨ xs.length - k ≤ t
      · rw [if_pos e3, if_pos (by omega)]
      · rw [if_neg e3, if_neg (by omega)]
end Go.Proofs.YtofpjbdelmmclaaGreatDoor

/- Contracts: room for a slice of strings; two slices joined. -/
namespace Go.Proofs.YtofpjbdelmmclaaGreatDoor
open Go Go.RowKit
set_option linter.unusedVariables false
set_option linter.unusedSimpArgs false

end Go.Proofs.YtofpjbdelmmclaaGreatDoor

/- Contracts: a list that begins with its element k. -/
namespace Go.Proofs.YtofpjbdelmmclaaGreatDoor
open Go Go.RowKit
set_option linter.unusedVariables false
set_option linter.unusedSimpArgs false

theorem strs_from {w : World} {ad : Addr} {c k : Nat} {ss : List ByteArray} (h : Strs w (.slice (some ad) ss.length c) ss) (hk : k < ss.length) : Strs w (.slice (some (ad.add k)) (ss.length - k) (c - k)) (ss.drop k) := by
  obtain ⟨A', c', hA, h1, h2, hr⟩ := h
  cases hA
  have hc := hr.cut (k := k) (cap := c) (by omega) h1
  rw [if_neg (by omega)] at hc
  simp only [Option.map_some, Nat.mul_one] at hc
  refine ⟨some (ad.add k), c - k, by rw [List.length_drop], by rw [List.length_drop]; omega, by omega, ?_⟩
  rw [List.length_drop, List.map_drop]
  exact hc
theorem strs_upto {w : World} {ad : Addr} {c k : Nat} {ss : List ByteArray} (h : Strs w (.slice (some ad) ss.length c) ss) (hk : k < ss.length) : Strs w (.slice (some ad) k c) (ss.take k) := by
  obtain ⟨A', c', hA, h1, h2, hr⟩ := h
  cases hA
  have hl : (ss.take k).length = k := by rw [List.length_take]; omega
  refine ⟨some ad, c, by rw [hl], by rw [hl]; omega, h2, ?_⟩
  rw [hl]
  refine ⟨by simp; omega, fun h0 => ?_⟩
  obtain ⟨ad', e, hb, hc⟩ := hr.2 (by omega)
  refine ⟨ad', e, hb, fun j u hu => hc j u ?_⟩
  rw [List.map_take] at hu
  have hj : j < k := by have := (List.getElem?_eq_some_iff.1 hu).1; simp at this; omega
  rwa [List.getElem?_take_of_lt hj] at hu
theorem nilok_some (a : Addr) (n c : Nat) : NilOk (.slice (some a) n c) := by intro n' c' h; cases h
end Go.Proofs.YtofpjbdelmmclaaGreatDoor

/- Contracts: a method with other changes; a method's copy of the reference. -/
namespace Go.Proofs.YtofpjbdelmmclaaGreatDoor
open Go Go.RowKit
set_option linter.unusedVariables false
set_option linter.unusedSimpArgs false

set_option maxHeartbeats 1000000 in
theorem withChanges_any (m : Mt) (v : Value) (A : Option Addr) (n c : Nat) (w : World) : Calls Tryz.prog 211 #[m.v v, .slice A n c] w fun e w' => e = .returned (m.v (.slice A n c)) ∧ Below w.heap.size w w' := by
  unfold Mt.v
  go_enter Tryz.func211, Tryz.ntmps211
  go_wp2
  refine bodyPost_ret (v := .agg #[.string m.name, .int .i64 m.stage, .slice A n c]) (by simp [results, go_sem]) rfl ⟨rfl, ?_⟩
  exact bw_al (bw_al (Below.refl _ _) _) _
theorem blk_lt {w : World} {g : Nat} {o : Obj} (h : w.heap[g]? = some o) : g < w.heap.size := by
  rcases Nat.lt_or_ge g w.heap.size with hlt | hge
  · exact hlt
  · rw [Array.getElem?_eq_none hge] at h; cases h
theorem boxRuleB {wb : World} {g B : Nat} {cs : Array Value} {t : TypeId} (h : wb.heap[g]? = some (.cells cs t (0, 0))) (hB : g < B) : ∀ (w' : World) (i : Nat), Below B wb w' → w'.cell? ⟨g, i, none⟩ = cs[i]? := by
  intro w' i hb
  exact cell_of_row w' g i cs t (0, 0) ((hb.block g hB).trans h)
theorem set3_low {a w : World} {B g : Nat} {p q r : Nat} {x y z : Value} (h : Below B a w) (hg : B ≤ g) : Below B a (((w.setCell ⟨g, p, none⟩ x).setCell ⟨g, q, none⟩ y).setCell ⟨g, r, none⟩ z) :=
  ((h.setCell (p := ⟨g, p, none⟩) hg x).setCell (p := ⟨g, q, none⟩) hg y).setCell (p := ⟨g, r, none⟩) hg z
end Go.Proofs.YtofpjbdelmmclaaGreatDoor

/- Contracts: a method that begins with its change k; a method turned. -/
namespace Go.Proofs.YtofpjbdelmmclaaGreatDoor
open Go Go.RowKit
set_option linter.unusedVariables false
set_option linter.unusedSimpArgs false

end Go.Proofs.YtofpjbdelmmclaaGreatDoor

/- Contracts: the rows of a lead, a lead head, both sides. -/
namespace Go.Proofs.YtofpjbdelmmclaaGreatDoor
open Go Go.RowKit
set_option linter.unusedVariables false
set_option linter.unusedSimpArgs false

/-- Changes that can be applied. -/
def ChsOk (l : List ByteArray) : Prop := ∀ c ∈ l, c.size ≤ 1048576 ∧ chOk c.data.toList
theorem ChsOk.sub {l l' : List ByteArray} (h : ChsOk l) (hs : ∀ c ∈ l', c ∈ l) : ChsOk l' := fun c hc => h c (hs c hc)
theorem own_upto {w : World} {base : Nat} {e : TypeId} {A : Option Addr} {n c k : Nat} {xs : List Value} (h : w.ownsRow base e 1 (.slice A n c) n xs) (hk : k ≤ n) : w.ownsRow base e 1 (.slice A k c) k (xs.take k) := by
  obtain ⟨h1, h2⟩ := h
  refine ⟨by rw [List.length_take]; omega, ?_⟩
  rcases h2 with ⟨h2, h3⟩ | ⟨g, cap, cur, hv, hg, hh, hn, hm, hs, ht⟩
  · cases h2
    have : k = 0 := by omega
    subst this
    exact .inl ⟨rfl, by simp⟩
  · cases hv
    refine .inr ⟨g, c, cur, rfl, hg, hh, by omega, hm, hs, ?_⟩
    rw [← ht, List.take_take]; congr 1; omega
theorem sl_cap {w : World} {base : Nat} {e : TypeId} {A : Option Addr} {n c : Nat} {xs : List Value} (h : w.ownsRow base e 1 (.slice A n c) n xs) : n ≤ c := by
  obtain ⟨A', c', e', h1, _⟩ := sl_of_own h
  cases e'; exact h1
theorem str_snoc {l l' : List ByteArray} {x : ByteArray} (h : l' = l ++ [x]) : l.map Value.string ++ [.string x] = l'.map Value.string := by rw [h]; simp
set_option maxRecDepth 10000 in
set_option maxHeartbeats 2000000 in
theorem rowsUnder_any (r : ByteArray) (v : Value) (l : List ByteArray) (n : Nat) (w : World) (hn : n ≤ 8) (hr : RowIn n r) (hv : Strs w v l) (hl : l.length ≤ 1000000) (hok : ChsOk l) : Calls Tryz.prog 195 #[.string r, v] w fun e w' =>
    ∃ A q, e = .returned (.slice A (l.length + 1) q) ∧ w'.ownsRow w.heap.size 9 1 (.slice A (l.length + 1) q) (l.length + 1) ((scanB r l).map Value.string) ∧ Below w.heap.size w w' := by
  obtain ⟨A, c, rfl, h1, h2, hrd⟩ := hv
  unfold maxLen at h2
  have Hok := Lib.hid hok
  clear hok
  go_enter Tryz.func195, Tryz.ntmps195
  go_wp2_with fail
  refine box1 (C := fun W => Code.wp _ _ _ _ W) ?_
  intro wb hw k1 hB0
  have hown0 : wb.ownsRow w.heap.size 9 1 (.slice (some ⟨w.heap.size, 0, none⟩) 1 1) 1 [.string r] := own_of_heap k1 (Nat.le_refl _) (by unfold maxLen; omega) rfl
  clear k1
  go_loopw [0, 5, 12] (fun f o i wr => ∃ (k : Nat) (x : ByteArray) (A' : Option Addr) (q : Nat), k ≤ l.length ∧ i = .int .i64 k ∧ f = .string x ∧ x = runB r (l.take k) ∧ o = .slice A' (k + 1) q ∧ wr.ownsRow w.heap.size 9 1 (.slice A' (k + 1) q) (k + 1) ((scanB r (l.take k)).map Value.string) ∧ Below w.heap.size w wr) (fun _ _ i _ => l.length - (intOf i).toNat)
  case atStart => exact ⟨0, r, _, 1, by omega, rfl, rfl, rfl, rfl, hown0, hw⟩
  case round =>
    obtain ⟨k, x, A', q, hk, rfl, rfl, hx, rfl, hown, hB⟩ := hrel
    by_cases hlt : k < l.length
    · obtain ⟨ad, rfl, hC⟩ := strs_el hrd hlt
      have hC0 := hC wr hB
      have hxin : RowIn n x := by rw [hx]; exact runB_in hn _ hr
      have ho := Hok.out _ (List.getElem_mem hlt)
      have Hx : Hid (applyB x l[k] = runB r (l.take (k + 1))) := Lib.hid (by rw [run_take hlt, hx])
      have Hs : Hid (scanB r (l.take (k + 1)) = scanB r (l.take k) ++ [applyB x l[k]]) := Lib.hid (by rw [scan_take hlt, Hx.out])
      have Hap := Lib.hid (fun W => apply_any x l[k] W (by rw [hxin.1]; exact hn) ho.1 ho.2)
      obtain ⟨c', hc'⟩ : ∃ c, c = l[k] := ⟨_, rfl⟩
      rw [← hc'] at hC0 Hx Hs Hap
      clear hC hc' ho hxin hx
      go_wp2_with fail
      refine (Hap.out _).mono ?_; rintro e w2 ⟨rfl, hb2⟩
      have hown2 := own_to hown hb2
      have hB2 := bw_to hB hb2
      obtain ⟨y, hy⟩ : ∃ y, y = applyB x c' := ⟨_, rfl⟩
      rw [← hy] at Hx Hs ⊢
      clear hy
      go_wp2_with (at_builtin; go_must (refine wpList_app _ rfl _ _ _ rfl w.heap.size 9 _ 1 16 Tryz.underlying24 info_str rfl (by omega) hown2 [.string y] rfl rfl rfl (one_mem rfl) (by omega) (by omega) hB2.size ?_); intro v2 w3 hown3 hb3 hg3 _)
      obtain ⟨A2, q2, e2, _⟩ := sl_of_own hown3
      subst e2
      refine ⟨⟨k + 1, y, A2, q2, by omega, by go_num, rfl, Hx.out, rfl, ?_, hB2.trans hb3⟩, by simp [intOf]; omega⟩
      rw [← str_snoc Hs.out]
      exact hown3
    · obtain rfl : k = l.length := by omega
      rw [List.take_length] at hown
      clear hx
      go_wp2_with fail
      go_ret
      exact ⟨_, _, rfl, hown, hB⟩
set_option maxRecDepth 10000 in
set_option maxHeartbeats 2000000 in
theorem leadRows_any (m : Mt) (v : Value) (r : ByteArray) (n : Nat) (w : World) (hn : n ≤ 8) (hr : RowIn n r) (hv : Strs w v m.l) (hl : m.l.length ≤ 1000000) (hok : ChsOk m.l) : Calls Tryz.prog 160 #[m.v v, .string r] w fun e w' =>
    ∃ A q, e = .returned (.slice A m.l.length q) ∧ w'.ownsRow w.heap.size 9 1 (.slice A m.l.length q) m.l.length ((leadB r m.l).map Value.string) ∧ Below w.heap.size w w' := by
  have Hv := Lib.hid hv
  obtain ⟨A, c, rfl, h1, h2, hrd⟩ := hv
  unfold maxLen at h2
  unfold Mt.v
  clear hrd
  go_enter Tryz.func160, Tryz.ntmps160
  go_wp2_with fail
  refine box1 (C := fun W => Code.wp _ _ _ _ W) ?_
  intro wb hw k1 hB0
  have R1 := boxRule k1
  have Hru := Lib.hid (fun W hW => rowsUnder_any r (.slice A m.l.length c) m.l n W hn hr (Hv.out.to (bw_to hw hW)) hl hok)
  have hdr : Below wb.heap.size wb wb.drew := Below.drew (Below.refl _ _)
  clear k1 hok hr
  go_region_held3 (fun W => Below wb.heap.size wb W) (first | exact Below.drew (by assumption) | exact bw_to (by assumption) hb')
    (first | (go_at_call 195; refine (Hru.out _ (by assumption)).mono ?_; rintro e w' ⟨A1, q1, rfl, hown, hb'⟩; (have hq1 : m.l.length + 1 ≤ q1 := (sl_cap hown)); (have hq2 : (m.l.length : Int) ≤ (q1 : Int) := by omega); (have hq3 : (0 : Int) ≤ (m.l.length : Int) := by omega)))
  all_goals
    go_wp2_with fail
    go_ret
    refine ⟨_, _, rfl, ?_, bw_to hw (by assumption)⟩
    have h := own_upto (own_base hown hw.size) (Nat.le_succ m.l.length)
    rw [← List.map_take] at h
    exact own_to h (by first | exact Below.refl _ _ | exact Below.drew (Below.refl _ _))
structure MGood (m : Mt) (n : Nat) : Prop where
  st : m.stage = (n : Int)
  lo : 3 ≤ n
  hi : n ≤ 8
  len : 1 ≤ m.l.length ∧ m.l.length ≤ 40
  ok : ChsOk m.l
theorem changeB_size {n : Int} {l : List UInt8} (h : changeB n l = true) : l.length ≤ 6 := by
  unfold changeB at h
  rw [Bool.and_eq_true, Bool.and_eq_true] at h
  have h1 := of_decide_eq_true h.1
  have h2 := of_decide_eq_true h.2.1
  omega
theorem mgood_of {m : Mt} (h : methB m = true) : ∃ n, MGood m n := by
  unfold methB at h
  rw [Bool.and_eq_true, Bool.and_eq_true, Bool.and_eq_true] at h
  have h1 := of_decide_eq_true h.2.1
  have h2 := of_decide_eq_true h.2.2.1
  have h3 := h.2.2.2
  unfold chgs at h3
  rw [List.all_eq_true] at h3
  refine ⟨m.stage.toNat, by omega, by omega, by omega, h2, fun c hc => ⟨?_, chOk_of (h3 c hc)⟩⟩
  have := changeB_size (h3 c hc)
  rw [bytes_len] at this
  omega
theorem strs_some {w : World} {v : Value} {l : List ByteArray} (h : Strs w v l) (hl : 1 ≤ l.length) : ∃ ad c, v = .slice (some ad) l.length c := by
  obtain ⟨A, c, rfl, _, _, hr⟩ := h
  obtain ⟨ad, rfl, _⟩ := hr.2 (by omega)
  exact ⟨ad, c, rfl⟩
set_option maxRecDepth 10000 in
set_option maxHeartbeats 2000000 in
theorem leadHead_any (m : Mt) (v : Value) (n : Nat) (w : World) (hg : MGood m n) (hv : Strs w v m.l) : Calls Tryz.prog 196 #[m.v v] w fun e w' => e = .returned (.string (runB (roundsB n) m.l)) ∧ Below w.heap.size w w' := by
  have Hv := Lib.hid hv
  have hst := hg.st
  have hn := hg.hi
  have hl := hg.len
  have hsl := Lib.hid (scan_len m.l (roundsB n))
  have hlast := Lib.hid (scan_last m.l (roundsB n))
  have Hg := Lib.hid hg
  obtain ⟨A, c, rfl, h1, h2, hrd⟩ := hv
  unfold maxLen at h2
  unfold Mt.v
  rw [hst]
  clear hrd hst hg
  go_enter Tryz.func196, Tryz.ntmps196
  go_wp2_with fail
  refine box1 (C := fun W => Code.wp _ _ _ _ W) ?_
  intro wb hw k1 hB0
  have R1 := boxRule k1
  have Hru := Lib.hid (fun W hW => rowsUnder_any (roundsB n) (.slice A m.l.length c) m.l n W hn (rounds_in hn) (Hv.out.to (bw_to hw hW)) (by omega) Hg.out.ok)
  have hdr : Below wb.heap.size wb wb.drew := Below.drew (Below.refl _ _)
  clear k1
  go_region_held3 (fun W => Below wb.heap.size wb W) (first | exact Below.drew (by assumption) | exact bw_to (by assumption) hb')
    (first | (go_at_call 162; refine (rounds_any n _ hn).mono ?_; rintro e w' ⟨rfl, rfl⟩) | (go_at_call 195; refine (Hru.out _ (by assumption)).mono ?_; rintro e w' ⟨A1, q1, rfl, hown, hb'⟩; (have hq1 : m.l.length + 1 ≤ q1 := (sl_cap hown))))
  all_goals
    have hown1 := own_to hown (by first | exact Below.refl _ _ | exact Below.drew (Below.refl _ _))
    obtain ⟨A', c', e', _, _, hrd⟩ := sl_of_own hown1
    cases e'
    rw [← hsl.out] at hrd
    obtain ⟨ad, rfl, hC⟩ := strs_el (k := m.l.length) hrd (by rw [hsl.out]; omega)
    have hC0 := hC _ (Below.refl _ _)
    have he : (scanB (roundsB n) m.l)[m.l.length]'(by rw [hsl.out]; omega) = runB (roundsB n) m.l := by
      obtain ⟨h1, h2⟩ := List.getElem?_eq_some_iff.1 hlast.out
      exact h2
    rw [he] at hC0
    clear hC he hrd hown1 hown
    go_wp2_with fail
    go_ret
    exact ⟨rfl, bw_to hw (by assumption)⟩
set_option maxRecDepth 10000 in
set_option maxHeartbeats 2000000 in
theorem l4Lead_any (r : ByteArray) (v : Value) (l : List ByteArray) (n : Nat) (w : World) (hn : n ≤ 8) (hr : RowIn n r) (hv : Strs w v l) (hl : l.length ≤ 1000000) (hok : ChsOk l) : Calls Tryz.prog 107 #[v, .string r] w fun e w' =>
    ∃ A q, e = .returned (.tuple #[.slice A l.length q, .string (runB r l)]) ∧ w'.ownsRow w.heap.size 9 1 (.slice A l.length q) l.length ((leadB r l).map Value.string) ∧ Below w.heap.size w w' := by
  obtain ⟨A, c, rfl, h1, h2, hrd⟩ := hv
  unfold maxLen at h2
  have Hok := Lib.hid hok
  clear hok
  go_enter Tryz.func107, Tryz.ntmps107
  go_wp2_with fail
  go_loopw [6, 7, 13] (fun o f i wr => ∃ (k : Nat) (x : ByteArray) (A' : Option Addr) (q : Nat), k ≤ l.length ∧ i = .int .i64 k ∧ f = .string x ∧ x = runB r (l.take k) ∧ o = .slice A' k q ∧ wr.ownsRow w.heap.size 9 1 (.slice A' k q) k ((leadB r (l.take k)).map Value.string) ∧ Below w.heap.size w wr) (fun _ _ i _ => l.length - (intOf i).toNat)
  case atStart => exact ⟨0, r, none, 0, by omega, rfl, rfl, rfl, rfl, World.ownsRow_nil _ _ _ _, Below.refl _ _⟩
  case round =>
    obtain ⟨k, x, A', q, hk, rfl, rfl, hx, rfl, hown, hB⟩ := hrel
    by_cases hlt : k < l.length
    · obtain ⟨ad, rfl, hC⟩ := strs_el hrd hlt
      have hC0 := hC wr hB
      have hxin : RowIn n x := by rw [hx]; exact runB_in hn _ hr
      have ho := Hok.out _ (List.getElem_mem hlt)
      have Hx : Hid (applyB x l[k] = runB r (l.take (k + 1))) := Lib.hid (by rw [run_take hlt, hx])
      have Hs : Hid (leadB r (l.take (k + 1)) = leadB r (l.take k) ++ [x]) := Lib.hid (by rw [lead_take hlt, hx])
      have Hap := Lib.hid (fun W => l2Apply_any x l[k] W (by rw [hxin.1]; exact hn) ho.1)
      obtain ⟨c', hc'⟩ : ∃ c, c = l[k] := ⟨_, rfl⟩
      rw [← hc'] at Hx Hap
      have hCN : ∀ W, Below wr.heap.size wr W → W.cell? (ad.add k) = some (.string c') := fun W hW => by rw [hc']; exact hC W (bw_to hB hW)
      rw [← hc'] at hC0
      clear hC hc' ho hxin hx hCN
      go_wp2_with (at_builtin; go_must (refine wpList_app _ rfl _ _ _ rfl w.heap.size 9 _ 1 16 Tryz.underlying24 info_str rfl (by omega) hown [.string x] rfl rfl rfl (one_mem rfl) (by omega) (by omega) hB.size ?_); intro v2 w3 hown3 hb3 hg3 _)
      refine (Hap.out _).mono ?_; rintro e w2 ⟨rfl, hb2⟩
      have hown4 := own_to hown3 hb2
      obtain ⟨A2, q2, e2, _⟩ := sl_of_own hown4
      subst e2
      have hB2 := bw_to (hB.trans hb3) hb2
      rw [str_snoc Hs.out] at hown4
      obtain ⟨y, hy⟩ : ∃ y, y = applyB x c' := ⟨_, rfl⟩
      rw [← hy] at Hx ⊢
      clear hy hown hown3
      go_wp2_with fail
      exact ⟨⟨k + 1, y, A2, q2, by omega, by go_num, rfl, Hx.out, rfl, hown4, hB2⟩, by simp [intOf]; omega⟩
    · obtain rfl : k = l.length := by omega
      rw [List.take_length] at hown hx
      have Hx := Lib.hid hx
      clear hx
      go_wp2_with fail
      go_ret2
      exact ⟨A', q, by have := Hx.out; subst this; rfl, hown, hB⟩
set_option maxRecDepth 10000 in
set_option maxHeartbeats 2000000 in
theorem l4Head_any (m : Mt) (v : Value) (n : Nat) (w : World) (hg : MGood m n) (hv : Strs w v m.l) : Calls Tryz.prog 174 #[m.v v] w fun e w' => e = .returned (.string (runB (roundsB n) m.l)) ∧ Below w.heap.size w w' := by
  have Hv := Lib.hid hv
  have hst := hg.st
  have hn := hg.hi
  have hl := hg.len
  have Hg := Lib.hid hg
  obtain ⟨A, c, rfl, h1, h2, hrd⟩ := hv
  unfold maxLen at h2
  unfold Mt.v
  rw [hst]
  clear hrd hst hg
  go_enter Tryz.func174, Tryz.ntmps174
  go_wp2_with fail
  refine box1 (C := fun W => Code.wp _ _ _ _ W) ?_
  intro wb hw k1 hB0
  have R1 := boxRule k1
  have Hru := Lib.hid (fun W hW => l4Lead_any (roundsB n) (.slice A m.l.length c) m.l n W hn (rounds_in hn) (Hv.out.to (bw_to hw hW)) (by omega) Hg.out.ok)
  have hdr : Below wb.heap.size wb wb.drew := Below.drew (Below.refl _ _)
  clear k1
  go_region_held3 (fun W => Below wb.heap.size wb W) (first | exact Below.drew (by assumption) | exact bw_to (by assumption) hb')
    (first | (go_at_call 109; refine (l1Rounds_any n _ hn).mono ?_; rintro e w' ⟨rfl, rfl⟩) | (go_at_call 107; refine (Hru.out _ (by assumption)).mono ?_; rintro e w' ⟨A1, q1, rfl, hown, hb'⟩))
  all_goals
    clear hown
    go_wp2_with fail
    go_ret
    exact ⟨rfl, bw_to hw (by assumption)⟩
end Go.Proofs.YtofpjbdelmmclaaGreatDoor
