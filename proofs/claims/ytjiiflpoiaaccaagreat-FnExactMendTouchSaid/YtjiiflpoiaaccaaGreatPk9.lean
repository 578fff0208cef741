/- Contracts: slices of strings: less, reversed. -/
import Derived.Test.YtjiiflpoiaaccaaGreatPk8
import Derived.Lib.AppendZeros
import Derived.Test.YtjiiflpoiaaccaaGreatPk6
namespace Go.Proofs.YtjiiflpoiaaccaaGreat
open Go Go.RowKit
set_option linter.unusedVariables false
set_option linter.unusedSimpArgs false

theorem lessS_step {xs ys : List ByteArray} {k : Nat} {r : Bool} (hx : k < xs.length) (hy : k < ys.length) (h : lessS (xs.drop k) (ys.drop k) = r) (hz : (xs[k].toList == ys[k].toList) = true) : lessS (xs.drop (k + 1)) (ys.drop (k + 1)) = r := by
  rw [List.drop_eq_getElem_cons hx, List.drop_eq_getElem_cons hy, lessS, if_pos hz] at h; exact h
theorem lessS_at {xs ys : List ByteArray} {k : Nat} {r : Bool} (hx : k < xs.length) (hy : k < ys.length) (h : lessS (xs.drop k) (ys.drop k) = r) (hz : (xs[k].toList == ys[k].toList) = false) : r = Op.bytesLess xs[k].toList ys[k].toList := by
  rw [List.drop_eq_getElem_cons hx, List.drop_eq_getElem_cons hy, lessS, if_neg (by rw [hz]; decide)] at h; exact h.symm
theorem lessS_end {xs ys : List ByteArray} {k : Nat} {r : Bool} (hx : xs.length ≤ k) (h : lessS (xs.drop k) (ys.drop k) = r) : r = false := by
  rw [List.drop_of_length_le hx] at h
  rw [← h]; rfl
/-- The list xs, its first k and its last k elements changed about. -/
def Turned {α : Type} (xs cs : List α) (k : Nat) : Prop := cs.length = xs.length ∧ ∀ t, t < xs.length → cs[t]? = if t < k ∨ xs.length - k ≤ t then xs[xs.length - 1 - t]? else xs[t]?
theorem turned_zero {α : Type} (xs : List α) : Turned xs xs 0 := ⟨rfl, fun t ht => by rw [if_neg (by omega)]⟩
theorem turned_end {α : Type} {xs cs : List α} {k : Nat} (h : Turned xs cs k) (hk : xs.length ≤ 2 * k + 1) : cs = xs.reverse := by
  apply List.ext_getElem?
  intro t
  by_cases ht : t < xs.length
  · rw [h.2 t ht, List.getElem?_reverse ht]
    split
    · rfl
    · rw [show xs.length - 1 - t = t from by omega]
  · rw [List.getElem?_eq_none (by have := h.1; omega), List.getElem?_eq_none (by simp; omega)]
theorem turned_step {α : Type} {xs cs : List α} {k j : Nat} (h : Turned xs cs k) (hk : 2 * k + 1 < xs.length) (hj : j = xs.length - 1 - k) {a b : α} (ha : cs[k]? = some a) (hb : cs[j]? = some b) : Turned xs ((cs.set k b).set j a) (k + 1) := by
  have hka := h.2 k (by omega)
  have hjb := h.2 j (by omega)
  rw [if_neg (by omega)] at hka hjb
  refine ⟨by simp [h.1], fun t ht => ?_⟩
  by_cases e1 : t = j
  · subst e1
    rw [List.getElem?_set_self (by simp; have := h.1; omega), if_pos (by omega), show xs.length - 1 - t = k from by omega, ← hka, ha]
  · rw [List.getElem?_set_ne (by omega)]
    by_cases e2 : t = k
    · subst e2
      rw [List.getElem?_set_self (by have := h.1; omega), if_pos (by omega), show xs.length - 1 - t = j from by omega, ← hjb, hb]
    · rw [List.getElem?_set_ne (by omega), h.2 t ht]
      by_cases e3 : t < k ∨ xs.length - k ≤ t
      · rw [if_pos e3, if_pos (by omega)]
      · rw [if_neg e3, if_neg (by omega)]
end Go.Proofs.YtjiiflpoiaaccaaGreat

/- Contracts: room for a slice of strings; two slices joined. -/
namespace Go.Proofs.YtjiiflpoiaaccaaGreat
open Go Go.RowKit
set_option linter.unusedVariables false
set_option linter.unusedSimpArgs false

set_option maxRecDepth 100000 in
set_option maxHeartbeats 1000000 in
theorem growStr_any (n : Nat) (w : World) (h0 : 0 < n) (hn : n ≤ 20000000) : Calls Tryz.prog 311 #[.slice none 0 0, .int .i64 n] w fun e w' =>
    ∃ r : Value, e = .returned r ∧ w'.ownsRow w.heap.size 9 1 r 0 [] ∧ Below w.heap.size w w' := by
  obtain ⟨i0, hi, hz, hsi, hbi⟩ := info_parts info_str
  have hrun := Lib.run_append_nil_zeros (P := Tryz.prog) w 22 3 22 9 i0 (.string ⟨#[]⟩) .i64 .i64 Tryz.underlying22 Tryz.underlying3 hi hz n h0 (by omega) (by omega) (by rw [hbi]; omega)
  have hge := grownCap_ge w n 0 9
  have hcm := grownCap_le_maxLen w n 0 9 (by unfold maxLen; omega)
  go_enter Tryz.func311, Tryz.ntmps311
  go_wp2_with (at_builtin; go_must (refine Lib.wpList_append_run w rfl _ _ _ _ rfl _ _ rfl rfl _ _ hrun ?_))
  go_ret
  refine ⟨_, rfl, ⟨rfl, .inr ⟨w.heap.size, _, _, rfl, Nat.le_refl _, heap_alloc_new w.drew _, by omega, hcm, ?_, by simp⟩⟩, bw_al (Below.drew (Below.refl _ _)) _⟩
  simp only [Array.size_append, size_zeroCells]
  show n * 1 + (grownCap w n 0 9 - n) * 1 = grownCap w n 0 9 * 1
  omega
set_option maxRecDepth 100000 in
set_option maxHeartbeats 2000000 in
theorem concatStr2_any (g : Nat) (u v : Value) (xs ys : List ByteArray) (w : World) (hg : ∀ w', Below w.heap.size w w' → w'.cell? ⟨g, 0, none⟩ = some u) (hg1 : ∀ w', Below w.heap.size w w' → w'.cell? ⟨g, 1, none⟩ = some v)
    (hu : Strs w u xs) (hv : Strs w v ys) (hnu : NilOk u) (hnv : NilOk v) (hlen : 0 < xs.length + ys.length) (hmax : xs.length + ys.length ≤ 20000000) : Calls Tryz.prog 254 #[.slice (some ⟨g, 0, none⟩) 2 2] w fun e w' =>
    ∃ r : Value, e = .returned r ∧ w'.ownsRow w.heap.size 9 1 r (xs.length + ys.length) ((xs ++ ys).map Value.string) ∧ Below w.heap.size w w' := by
  have hu0 := hu
  have hv0 := hv
  obtain ⟨A, c, hA, h1, h2, hr⟩ := hu
  obtain ⟨A', c', hA', h1', h2', hr'⟩ := hv
  unfold maxLen at h2 h2'
  have hBr := Below.refl w.heap.size w
  go_enter Tryz.func254, Tryz.ntmps254
  go_wp2_with fail
  go_loop [3, 11] (fun z i => ∃ k : Nat, k ≤ 2 ∧ i = .int .i64 k ∧ z = .int .i64 (if k = 0 then 0 else if k = 1 then (xs.length : Int) else ((xs.length + ys.length : Nat) : Int))) (fun _ i => 2 - (intOf i).toNat)
  case atStart => exact ⟨0, by omega, rfl, rfl⟩
  case round =>
    obtain ⟨k, hk, rfl, rfl⟩ := hrel
    obtain rfl | rfl | rfl : k = 0 ∨ k = 1 ∨ k = 2 := by omega
    · subst hA
      go_wp2_with fail
      exact ⟨⟨1, by omega, rfl, rfl⟩, by simp [intOf]⟩
    · subst hA'
      go_wp2_with fail
      exact ⟨⟨2, by omega, rfl, by simp⟩, by simp [intOf]⟩
    · go_wp2_with fail
      refine (growStr_any (xs.length + ys.length) w hlen (by omega)).mono ?_; rintro e w1 ⟨r, rfl, hown, hb1⟩
      go_wp2_with fail
      go_loopw [6, 27] (fun z i wr => ∃ k : Nat, k ≤ 2 ∧ i = .int .i64 k ∧ Below w.heap.size w wr ∧ ((k = 0 ∧ wr.ownsRow w.heap.size 9 1 z 0 []) ∨ (k = 1 ∧ wr.ownsRow w.heap.size 9 1 z xs.length (xs.map Value.string)) ∨ (k = 2 ∧ wr.ownsRow w.heap.size 9 1 z (xs.length + ys.length) ((xs ++ ys).map Value.string)))) (fun _ i _ => 2 - (intOf i).toNat)
      case atStart => exact ⟨0, by omega, rfl, hb1, .inl ⟨rfl, hown⟩⟩
      case round =>
        obtain ⟨k, hk, rfl, hB, hk3⟩ := hrel
        rcases hk3 with ⟨rfl, ho⟩ | ⟨rfl, ho⟩ | ⟨rfl, ho⟩
        · go_wp2_with (at_builtin; go_must (refine wpList_app_sl _ rfl _ _ _ rfl w.heap.size 9 _ 1 16 Tryz.underlying22 info_str rfl (by omega) ho rfl (hu0.to hB) hnu hA.symm (strs_one xs) (by omega) (by omega) hB.size ?_); intro v2 w2 hown2 hb2 _ _)
          exact ⟨⟨1, by omega, rfl, hB.trans hb2, .inr (.inl ⟨rfl, by simpa using hown2⟩)⟩, by simp [intOf]⟩
        · go_wp2_with (at_builtin; go_must (refine wpList_app_sl _ rfl _ _ _ rfl w.heap.size 9 _ 1 16 Tryz.underlying22 info_str rfl (by omega) ho rfl (hv0.to hB) hnv hA'.symm (strs_one ys) (by omega) (by omega) hB.size ?_); intro v2 w2 hown2 hb2 _ _)
          exact ⟨⟨2, by omega, rfl, hB.trans hb2, .inr (.inr ⟨rfl, by rw [List.map_append]; exact hown2⟩)⟩, by simp [intOf]⟩
        · go_wp2_with fail
          go_ret
          exact ⟨_, rfl, ho, hB⟩
end Go.Proofs.YtjiiflpoiaaccaaGreat

/- Contracts: a list that begins with its element k. -/
namespace Go.Proofs.YtjiiflpoiaaccaaGreat
open Go Go.RowKit
set_option linter.unusedVariables false
set_option linter.unusedSimpArgs false

theorem strs_from {w : World} {ad : Addr} {c k : Nat} {ss : List ByteArray} (h : Strs w (.slice (some ad) ss.length c) ss) (hk : k < ss.length) : Strs w (.slice (some (ad.add k)) (ss.length - k) (c - k)) (ss.drop k) := by
  obtain ⟨A', c', hA, h1, h2, hr⟩ := h
  cases hA
  have hc := hr.cut (k := k) (cap := c) (by omega) h1
  rw [if_neg (by omega)] at hc
  simp only [Option.map_some, Nat.mul_one] at hc
  refine ⟨some (ad.add k), c - k, by rw [List.length_drop], by rw [List.length_drop]; omega, by omega, ?_⟩
  rw [List.length_drop, List.map_drop]
  exact hc
theorem strs_upto {w : World} {ad : Addr} {c k : Nat} {ss : List ByteArray} (h : Strs w (.slice (some ad) ss.length c) ss) (hk : k < ss.length) : Strs w (.slice (some ad) k c) (ss.take k) := by
  obtain ⟨A', c', hA, h1, h2, hr⟩ := h
  cases hA
  have hl : (ss.take k).length = k := by rw [List.length_take]; omega
  refine ⟨some ad, c, by rw [hl], by rw [hl]; omega, h2, ?_⟩
  rw [hl]
  refine ⟨by simp; omega, fun h0 => ?_⟩
  obtain ⟨ad', e, hb, hc⟩ := hr.2 (by omega)
  refine ⟨ad', e, hb, fun j u hu => hc j u ?_⟩
  rw [List.map_take] at hu
  have hj : j < k := by have := (List.getElem?_eq_some_iff.1 hu).1; simp at this; omega
  rwa [List.getElem?_take_of_lt hj] at hu
theorem nilok_some (a : Addr) (n c : Nat) : NilOk (.slice (some a) n c) := by intro n' c' h; cases h
end Go.Proofs.YtjiiflpoiaaccaaGreat

/- Contracts: a method with other changes; a method's copy of the reference. -/
namespace Go.Proofs.YtjiiflpoiaaccaaGreat
open Go Go.RowKit
set_option linter.unusedVariables false
set_option linter.unusedSimpArgs false

set_option maxHeartbeats 1000000 in
theorem withChanges_any (m : Mt) (v : Value) (A : Option Addr) (n c : Nat) (w : World) : Calls Tryz.prog 317 #[m.v v, .slice A n c] w fun e w' => e = .returned (m.v (.slice A n c)) ∧ Below w.heap.size w w' := by
  unfold Mt.v
  go_enter Tryz.func317, Tryz.ntmps317
  go_wp2
  refine bodyPost_ret (v := .agg #[.string m.name, .int .i64 m.stage, .slice A n c]) (by simp [results, go_sem]) rfl ⟨rfl, ?_⟩
  exact bw_al (bw_al (Below.refl _ _) _) _
theorem blk_lt {w : World} {g : Nat} {o : Obj} (h : w.heap[g]? = some o) : g < w.heap.size := by
  rcases Nat.lt_or_ge g w.heap.size with hlt | hge
  · exact hlt
  · rw [Array.getElem?_eq_none hge] at h; cases h
theorem boxRuleB {wb : World} {g B : Nat} {cs : Array Value} {t : TypeId} (h : wb.heap[g]? = some (.cells cs t (0, 0))) (hB : g < B) : ∀ (w' : World) (i : Nat), Below B wb w' → w'.cell? ⟨g, i, none⟩ = cs[i]? := by
  intro w' i hb
  exact cell_of_row w' g i cs t (0, 0) ((hb.block g hB).trans h)
theorem set3_low {a w : World} {B g : Nat} {p q r : Nat} {x y z : Value} (h : Below B a w) (hg : B ≤ g) : Below B a (((w.setCell ⟨g, p, none⟩ x).setCell ⟨g, q, none⟩ y).setCell ⟨g, r, none⟩ z) :=
  ((h.setCell (p := ⟨g, p, none⟩) hg x).setCell (p := ⟨g, q, none⟩) hg y).setCell (p := ⟨g, r, none⟩) hg z
end Go.Proofs.YtjiiflpoiaaccaaGreat

/- Contracts: a method that begins with its change k; a method turned. -/
namespace Go.Proofs.YtjiiflpoiaaccaaGreat
open Go Go.RowKit
set_option linter.unusedVariables false
set_option linter.unusedSimpArgs false

end Go.Proofs.YtjiiflpoiaaccaaGreat

/- Contracts: the rows of a lead, a lead head, both sides. -/
namespace Go.Proofs.YtjiiflpoiaaccaaGreat
open Go Go.RowKit
set_option linter.unusedVariables false
set_option linter.unusedSimpArgs false

/-- Changes that can be applied. -/
def ChsOk (l : List ByteArray) : Prop := ∀ c ∈ l, c.size ≤ 1048576 ∧ chOk c.data.toList
theorem ChsOk.sub {l l' : List ByteArray} (h : ChsOk l) (hs : ∀ c ∈ l', c ∈ l) : ChsOk l' := fun c hc => h c (hs c hc)
theorem own_upto {w : World} {base : Nat} {e : TypeId} {A : Option Addr} {n c k : Nat} {xs : List Value} (h : w.ownsRow base e 1 (.slice A n c) n xs) (hk : k ≤ n) : w.ownsRow base e 1 (.slice A k c) k (xs.take k) := by
  obtain ⟨h1, h2⟩ := h
  refine ⟨by rw [List.length_take]; omega, ?_⟩
  rcases h2 with ⟨h2, h3⟩ | ⟨g, cap, cur, hv, hg, hh, hn, hm, hs, ht⟩
  · cases h2
    have : k = 0 := by omega
    subst this
    exact .inl ⟨rfl, by simp⟩
  · cases hv
    refine .inr ⟨g, c, cur, rfl, hg, hh, by omega, hm, hs, ?_⟩
    rw [← ht, List.take_take]; congr 1; omega
theorem sl_cap {w : World} {base : Nat} {e : TypeId} {A : Option Addr} {n c : Nat} {xs : List Value} (h : w.ownsRow base e 1 (.slice A n c) n xs) : n ≤ c := by
  obtain ⟨A', c', e', h1, _⟩ := sl_of_own h
  cases e'; exact h1
theorem str_snoc {l l' : List ByteArray} {x : ByteArray} (h : l' = l ++ [x]) : l.map Value.string ++ [.string x] = l'.map Value.string := by rw [h]; simp
set_option maxRecDepth 10000 in
set_option maxHeartbeats 2000000 in
theorem rowsUnder_any (r : ByteArray) (v : Value) (l : List ByteArray) (n : Nat) (w : World) (hn : n ≤ 8) (hr : RowIn n r) (hv : Strs w v l) (hl : l.length ≤ 1000000) (hok : ChsOk l) : Calls Tryz.prog 236 #[.string r, v] w fun e w' =>
    ∃ A q, e = .returned (.slice A (l.length + 1) q) ∧ w'.ownsRow w.heap.size 9 1 (.slice A (l.length + 1) q) (l.length + 1) ((scanB r l).map Value.string) ∧ Below w.heap.size w w' := by
  obtain ⟨A, c, rfl, h1, h2, hrd⟩ := hv
  unfold maxLen at h2
  have Hok := Lib.hid hok
  clear hok
  go_enter Tryz.func236, Tryz.ntmps236
  go_wp2_with fail
  refine box1 (C := fun W => Code.wp _ _ _ _ W) ?_
  intro wb hw k1 hB0
  have hown0 : wb.ownsRow w.heap.size 9 1 (.slice (some ⟨w.heap.size, 0, none⟩) 1 1) 1 [.string r] := own_of_heap k1 (Nat.le_refl _) (by unfold maxLen; omega) rfl
  clear k1
  go_loopw [0, 5, 12] (fun f o i wr => ∃ (k : Nat) (x : ByteArray) (A' : Option Addr) (q : Nat), k ≤ l.length ∧ i = .int .i64 k ∧ f = .string x ∧ x = runB r (l.take k) ∧ o = .slice A' (k + 1) q ∧ wr.ownsRow w.heap.size 9 1 (.slice A' (k + 1) q) (k + 1) ((scanB r (l.take k)).map Value.string) ∧ Below w.heap.size w wr) (fun _ _ i _ => l.length - (intOf i).toNat)
  case atStart => exact ⟨0, r, _, 1, by omega, rfl, rfl, rfl, rfl, hown0, hw⟩
  case round =>
    obtain ⟨k, x, A', q, hk, rfl, rfl, hx, rfl, hown, hB⟩ := hrel
    by_cases hlt : k < l.length
    · obtain ⟨ad, rfl, hC⟩ := strs_el hrd hlt
      have hC0 := hC wr hB
      have hxin : RowIn n x := by rw [hx]; exact runB_in hn _ hr
      have ho := Hok.out _ (List.getElem_mem hlt)
      have Hx : Hid (applyB x l[k] = runB r (l.take (k + 1))) := Lib.hid (by rw [run_take hlt, hx])
      have Hs : Hid (scanB r (l.take (k + 1)) = scanB r (l.take k) ++ [applyB x l[k]]) := Lib.hid (by rw [scan_take hlt, Hx.out])
      have Hap := Lib.hid (fun W => apply_any x l[k] W (by rw [hxin.1]; exact hn) ho.1 ho.2)
      obtain ⟨c', hc'⟩ : ∃ c, c = l[k] := ⟨_, rfl⟩
      rw [← hc'] at hC0 Hx Hs Hap
      clear hC hc' ho hxin hx
      go_wp2_with fail
      refine (Hap.out _).mono ?_; rintro e w2 ⟨rfl, hb2⟩
      have hown2 := own_to hown hb2
      have hB2 := bw_to hB hb2
      obtain ⟨y, hy⟩ : ∃ y, y = applyB x c' := ⟨_, rfl⟩
      rw [← hy] at Hx Hs ⊢
      clear hy
      go_wp2_with (at_builtin; go_must (refine wpList_app _ rfl _ _ _ rfl w.heap.size 9 _ 1 16 Tryz.underlying22 info_str rfl (by omega) hown2 [.string y] rfl rfl rfl (one_mem rfl) (by omega) (by omega) hB2.size ?_); intro v2 w3 hown3 hb3 hg3 _)
      obtain ⟨A2, q2, e2, _⟩ := sl_of_own hown3
      subst e2
      refine ⟨⟨k + 1, y, A2, q2, by omega, by go_num, rfl, Hx.out, rfl, ?_, hB2.trans hb3⟩, by simp [intOf]; omega⟩
      rw [← str_snoc Hs.out]
      exact hown3
    · obtain rfl : k = l.length := by omega
      rw [List.take_length] at hown
      clear hx
      go_wp2_with fail
      go_ret
      exact ⟨_, _, rfl, hown, hB⟩
set_option maxRecDepth 10000 in
set_option maxHeartbeats 2000000 in
theorem leadRows_any (m : Mt) (v : Value) (r : ByteArray) (n : Nat) (w : World) (hn : n ≤ 8) (hr : RowIn n r) (hv : Strs w v m.l) (hl : m.l.length ≤ 1000000) (hok : ChsOk m.l) : Calls Tryz.prog 268 #[m.v v, .string r] w fun e w' =>
    ∃ A q, e = .returned (.slice A m.l.length q) ∧ w'.ownsRow w.heap.size 9 1 (.slice A m.l.length q) m.l.length ((leadB r m.l).map Value.string) ∧ Below w.heap.size w w' := by
  have Hv := Lib.hid hv
  obtain ⟨A, c, rfl, h1, h2, hrd⟩ := hv
  unfold maxLen at h2
  unfold Mt.v
  clear hrd
  go_enter Tryz.func268, Tryz.ntmps268
  go_wp2_with fail
  refine box1 (C := fun W => Code.wp _ _ _ _ W) ?_
  intro wb hw k1 hB0
  have R1 := boxRule k1
  have Hru := Lib.hid (fun W hW => rowsUnder_any r (.slice A m.l.length c) m.l n W hn hr (Hv.out.to (bw_to hw hW)) hl hok)
  have hdr : Below wb.heap.size wb wb.drew := Below.drew (Below.refl _ _)
  clear k1 hok hr
  go_region_held3 (fun W => Below wb.heap.size wb W) (first | exact Below.drew (by assumption) | exact bw_to (by assumption) hb')
    (first | (go_at_call 236; refine (Hru.out _ (by assumption)).mono ?_; rintro e w' ⟨A1, q1, rfl, hown, hb'⟩; (have hq1 : m.l.length + 1 ≤ q1 := (sl_cap hown)); (have hq2 : (m.l.length : Int) ≤ (q1 : Int) := by omega); (have hq3 : (0 : Int) ≤ (m.l.length : Int) := by omega)))
  all_goals
    go_wp2_with fail
    go_ret
    refine ⟨_, _, rfl, ?_, bw_to hw (by assumption)⟩
    have h := own_upto (own_base hown hw.size) (Nat.le_succ m.l.length)
    rw [← List.map_take] at h
    exact own_to h (by first | exact Below.refl _ _ | exact Below.drew (Below.refl _ _))
structure MGood (m : Mt) (n : Nat) : Prop where
  st : m.stage = (n : Int)
  lo : 3 ≤ n
  hi : n ≤ 8
  len : 1 ≤ m.l.length ∧ m.l.length ≤ 40
  ok : ChsOk m.l
theorem changeB_size {n : Int} {l : List UInt8} (h : changeB n l = true) : l.length ≤ 6 := by
  unfold changeB at h
  rw [Bool.and_eq_true, Bool.and_eq_true] at h
  have h1 := of_decide_eq_true h.1
  have h2 := of_decide_eq_true h.2.1
  omega
theorem mgood_of {m : Mt} (h : methB m = true) : ∃ n, MGood m n := by
  unfold methB at h
  rw [Bool.and_eq_true, Bool.and_eq_true, Bool.and_eq_true] at h
  have h1 := of_decide_eq_true h.2.1
  have h2 := of_decide_eq_true h.2.2.1
  have h3 := h.2.2.2
  unfold chgs at h3
  rw [List.all_eq_true] at h3
  refine ⟨m.stage.toNat, by omega, by omega, by omega, h2, fun c hc => ⟨?_, chOk_of (h3 c hc)⟩⟩
  have := changeB_size (h3 c hc)
  rw [bytes_len] at this
  omega
theorem strs_some {w : World} {v : Value} {l : List ByteArray} (h : Strs w v l) (hl : 1 ≤ l.length) : ∃ ad c, v = .slice (some ad) l.length c := by
  obtain ⟨A, c, rfl, _, _, hr⟩ := h
  obtain ⟨ad, rfl, _⟩ := hr.2 (by omega)
  exact ⟨ad, c, rfl⟩
set_option maxRecDepth 10000 in
set_option maxHeartbeats 2000000 in
theorem leadHead_any (m : Mt) (v : Value) (n : Nat) (w : World) (hg : MGood m n) (hv : Strs w v m.l) : Calls Tryz.prog 264 #[m.v v] w fun e w' => e = .returned (.string (runB (roundsB n) m.l)) ∧ Below w.heap.size w w' := by
  have Hv := Lib.hid hv
  have hst := hg.st
  have hn := hg.hi
  have hl := hg.len
  have hsl := Lib.hid (scan_len m.l (roundsB n))
  have hlast := Lib.hid (scan_last m.l (roundsB n))
  have Hg := Lib.hid hg
  obtain ⟨A, c, rfl, h1, h2, hrd⟩ := hv
  unfold maxLen at h2
  unfold Mt.v
  rw [hst]
  clear hrd hst hg
  go_enter Tryz.func264, Tryz.ntmps264
  go_wp2_with fail
  refine box1 (C := fun W => Code.wp _ _ _ _ W) ?_
  intro wb hw k1 hB0
  have R1 := boxRule k1
  have Hru := Lib.hid (fun W hW => rowsUnder_any (roundsB n) (.slice A m.l.length c) m.l n W hn (rounds_in hn) (Hv.out.to (bw_to hw hW)) (by omega) Hg.out.ok)
  have hdr : Below wb.heap.size wb wb.drew := Below.drew (Below.refl _ _)
  clear k1
  go_region_held3 (fun W => Below wb.heap.size wb W) (first | exact Below.drew (by assumption) | exact bw_to (by assumption) hb')
    (first | (go_at_call 195; refine (rounds_any n _ hn).mono ?_; rintro e w' ⟨rfl, rfl⟩) | (go_at_call 236; refine (Hru.out _ (by assumption)).mono ?_; rintro e w' ⟨A1, q1, rfl, hown, hb'⟩; (have hq1 : m.l.length + 1 ≤ q1 := (sl_cap hown))))
  all_goals
    have hown1 := own_to hown (by first | exact Below.refl _ _ | exact Below.drew (Below.refl _ _))
    obtain ⟨A', c', e', _, _, hrd⟩ := sl_of_own hown1
    cases e'
    rw [← hsl.out] at hrd
    obtain ⟨ad, rfl, hC⟩ := strs_el (k := m.l.length) hrd (by rw [hsl.out]; omega)
    have hC0 := hC _ (Below.refl _ _)
    have he : (scanB (roundsB n) m.l)[m.l.length]'(by rw [hsl.out]; omega) = runB (roundsB n) m.l := by
      obtain ⟨h1, h2⟩ := List.getElem?_eq_some_iff.1 hlast.out
      exact h2
    rw [he] at hC0
    clear hC he hrd hown1 hown
    go_wp2_with fail
    go_ret
    exact ⟨rfl, bw_to hw (by assumption)⟩
set_option maxRecDepth 10000 in
set_option maxHeartbeats 2000000 in
theorem l4Lead_any (r : ByteArray) (v : Value) (l : List ByteArray) (n : Nat) (w : World) (hn : n ≤ 8) (hr : RowIn n r) (hv : Strs w v l) (hl : l.length ≤ 1000000) (hok : ChsOk l) : Calls Tryz.prog 137 #[v, .string r] w fun e w' =>
    ∃ A q, e = .returned (.tuple #[.slice A l.length q, .string (runB r l)]) ∧ w'.ownsRow w.heap.size 9 1 (.slice A l.length q) l.length ((leadB r l).map Value.string) ∧ Below w.heap.size w w' := by
  obtain ⟨A, c, rfl, h1, h2, hrd⟩ := hv
  unfold maxLen at h2
  have Hok := Lib.hid hok
  clear hok
  go_enter Tryz.func137, Tryz.ntmps137
  go_wp2_with fail
  go_loopw [6, 7, 13] (fun o f i wr => ∃ (k : Nat) (x : ByteArray) (A' : Option Addr) (q : Nat), k ≤ l.length ∧ i = .int .i64 k ∧ f = .string x ∧ x = runB r (l.take k) ∧ o = .slice A' k q ∧ wr.ownsRow w.heap.size 9 1 (.slice A' k q) k ((leadB r (l.take k)).map Value.string) ∧ Below w.heap.size w wr) (fun _ _ i _ => l.length - (intOf i).toNat)
  case atStart => exact ⟨0, r, none, 0, by omega, rfl, rfl, rfl, rfl, World.ownsRow_nil _ _ _ _, Below.refl _ _⟩
  case round =>
    obtain ⟨k, x, A', q, hk, rfl, rfl, hx, rfl, hown, hB⟩ := hrel
    by_cases hlt : k < l.length
    · obtain ⟨ad, rfl, hC⟩ := strs_el hrd hlt
      have hC0 := hC wr hB
      have hxin : RowIn n x := by rw [hx]; exact runB_in hn _ hr
      have ho := Hok.out _ (List.getElem_mem hlt)
      have Hx : Hid (applyB x l[k] = runB r (l.take (k + 1))) := Lib.hid (by rw [run_take hlt, hx])
      have Hs : Hid (leadB r (l.take (k + 1)) = leadB r (l.take k) ++ [x]) := Lib.hid (by rw [lead_take hlt, hx])
      have Hap := Lib.hid (fun W => l2Apply_any x l[k] W (by rw [hxin.1]; exact hn) ho.1)
      obtain ⟨c', hc'⟩ : ∃ c, c = l[k] := ⟨_, rfl⟩
      rw [← hc'] at Hx Hap
      have hCN : ∀ W, Below wr.heap.size wr W → W.cell? (ad.add k) = some (.string c') := fun W hW => by rw [hc']; exact hC W (bw_to hB hW)
      rw [← hc'] at hC0
      clear hC hc' ho hxin hx hCN
      go_wp2_with (at_builtin; go_must (refine wpList_app _ rfl _ _ _ rfl w.heap.size 9 _ 1 16 Tryz.underlying22 info_str rfl (by omega) hown [.string x] rfl rfl rfl (one_mem rfl) (by omega) (by omega) hB.size ?_); intro v2 w3 hown3 hb3 hg3 _)
      refine (Hap.out _).mono ?_; rintro e w2 ⟨rfl, hb2⟩
      have hown4 := own_to hown3 hb2
      obtain ⟨A2, q2, e2, _⟩ := sl_of_own hown4
      subst e2
      have hB2 := bw_to (hB.trans hb3) hb2
      rw [str_snoc Hs.out] at hown4
      obtain ⟨y, hy⟩ : ∃ y, y = applyB x c' := ⟨_, rfl⟩
      rw [← hy] at Hx ⊢
      clear hy hown hown3
      go_wp2_with fail
      exact ⟨⟨k + 1, y, A2, q2, by omega, by go_num, rfl, Hx.out, rfl, hown4, hB2⟩, by simp [intOf]; omega⟩
    · obtain rfl : k = l.length := by omega
      rw [List.take_length] at hown hx
      have Hx := Lib.hid hx
      clear hx
      go_wp2_with fail
      go_ret2
      exact ⟨A', q, by have := Hx.out; subst this; rfl, hown, hB⟩
set_option maxRecDepth 10000 in
set_option maxHeartbeats 2000000 in
theorem l4Head_any (m : Mt) (v : Value) (n : Nat) (w : World) (hg : MGood m n) (hv : Strs w v m.l) : Calls Tryz.prog 320 #[m.v v] w fun e w' => e = .returned (.string (runB (roundsB n) m.l)) ∧ Below w.heap.size w w' := by
  have Hv := Lib.hid hv
  have hst := hg.st
  have hn := hg.hi
  have hl := hg.len
  have Hg := Lib.hid hg
  obtain ⟨A, c, rfl, h1, h2, hrd⟩ := hv
  unfold maxLen at h2
  unfold Mt.v
  rw [hst]
  clear hrd hst hg
  go_enter Tryz.func320, Tryz.ntmps320
  go_wp2_with fail
  refine box1 (C := fun W => Code.wp _ _ _ _ W) ?_
  intro wb hw k1 hB0
  have R1 := boxRule k1
  have Hru := Lib.hid (fun W hW => l4Lead_any (roundsB n) (.slice A m.l.length c) m.l n W hn (rounds_in hn) (Hv.out.to (bw_to hw hW)) (by omega) Hg.out.ok)
  have hdr : Below wb.heap.size wb wb.drew := Below.drew (Below.refl _ _)
  clear k1
  go_region_held3 (fun W => Below wb.heap.size wb W) (first | exact Below.drew (by assumption) | exact bw_to (by assumption) hb')
    (first | (go_at_call 139; refine (l1Rounds_any n _ hn).mono ?_; rintro e w' ⟨rfl, rfl⟩) | (go_at_call 137; refine (Hru.out _ (by assumption)).mono ?_; rintro e w' ⟨A1, q1, rfl, hown, hb'⟩))
  all_goals
    clear hown
    go_wp2_with fail
    go_ret
    exact ⟨rfl, bw_to hw (by assumption)⟩
end Go.Proofs.YtjiiflpoiaaccaaGreat
