/- Where a proof lies: the walk along its lines, both sides. (Printed by a program: tools/mkLC.py.) -/
import Derived.Test.YtofpjbdelmmclaaGreatDoorPk26
import Derived.Test.YtofpjbdelmmclaaGreatDoorPk30
import Derived.Test.YtofpjbdelmmclaaGreatDoorPk41
import Derived.Laws.StructEq
namespace Go.Proofs.YtofpjbdelmmclaaGreatDoor
open Go Go.RowKit
set_option linter.unusedVariables false
set_option linter.unusedSimpArgs false

theorem scan_get : ∀ (cs : List ByteArray) (r : ByteArray) (j : Nat), j ≤ cs.length → (scanB r cs)[j]? = some (runB r (cs.take j))
  | [], r, j, h => by obtain rfl : j = 0 := by simpa using h
                      rfl
  | c :: cs, r, 0, _ => rfl
  | c :: cs, r, j + 1, h => by
    rw [scanB, List.getElem?_cons_succ, scan_get cs (applyB r c) j (by simpa using h)]; rfl
theorem lead_get {r : ByteArray} {cs : List ByteArray} {j : Nat} (h : j < cs.length) : (leadB r cs)[j]? = some (runB r (cs.take j)) := by
  unfold leadB
  rw [List.getElem?_take_of_lt h, scan_get cs r j (by omega)]
/-- The row at a place of a touch. -/
theorem row_at {m : Mt} {k : Cl} {t : ByteArray} {x y : Nat} {h : ByteArray} (hx : x < t.size) (hy : y < m.l.length) (hh : (headsT m k t)[x]? = some h) : (rowsT m k t)[x * m.l.length + y]? = some (runB h (m.l.take y)) := by
  have hx2 : x < ((headsT m k t).take t.size).length := by rw [List.length_take, headsT_len]; omega
  unfold rowsT
  obtain ⟨hl, he⟩ := List.getElem?_eq_some_iff.1 hh
  rw [rows_get _ x y hx2 hy, List.getElem_take, he, lead_get hy]
theorem ok_order {rows : List ByteArray} {N T' : Nat} {ls : List Ln} {i : Nat} (h0 : 0 < i) (hi : i < ls.length) (h : nmLt (ls[i - 1]'(by omega)).row ls[i].row = false) : okLn nmLt rows N T' ls i = false := by
  cases e : okLn nmLt rows N T' ls i with
  | false => rfl
  | true =>
    have h2 := ((okLn_iff (List.getElem?_eq_getElem hi)).1 e).prev h0 _ (List.getElem?_eq_getElem (by omega))
    rw [h] at h2; cases h2
theorem ok_lead {rows : List ByteArray} {N T' : Nat} {ls : List Ln} {i : Nat} (hi : i < ls.length) (h : ¬ ls[i].lead.toNat < T') : okLn nmLt rows N T' ls i = false := by
  cases e : okLn nmLt rows N T' ls i with
  | false => rfl
  | true => exact absurd ((okLn_iff (List.getElem?_eq_getElem hi)).1 e).lead h
theorem ok_place {rows : List ByteArray} {N T' : Nat} {ls : List Ln} {i : Nat} (hi : i < ls.length) (h : ¬ ls[i].at'.toNat < N) : okLn nmLt rows N T' ls i = false := by
  cases e : okLn nmLt rows N T' ls i with
  | false => rfl
  | true => exact absurd ((okLn_iff (List.getElem?_eq_getElem hi)).1 e).place h
theorem ok_row {rows : List ByteArray} {N T' : Nat} {ls : List Ln} {i : Nat} {r : ByteArray} (hi : i < ls.length) (hr : rows[ls[i].lead.toNat * N + ls[i].at'.toNat]? = some r) (h : ls[i].row ≠ r) : okLn nmLt rows N T' ls i = false := by
  cases e : okLn nmLt rows N T' ls i with
  | false => rfl
  | true =>
    have h2 := ((okLn_iff (List.getElem?_eq_getElem hi)).1 e).row
    rw [hr] at h2
    injection h2 with h2
    exact absurd h2.symm h
theorem ok_all {rows : List ByteArray} {N T' : Nat} {ls : List Ln} {i : Nat} {r : ByteArray} (hi : i < ls.length) (h0 : 0 < i → nmLt (ls[i - 1]'(by omega)).row ls[i].row = true) (h1 : ls[i].lead.toNat < T') (h2 : ls[i].at'.toNat < N) (hr : rows[ls[i].lead.toNat * N + ls[i].at'.toNat]? = some r) (h : ls[i].row = r) : okLn nmLt rows N T' ls i = true := by
  refine (okLn_iff (List.getElem?_eq_getElem hi)).2 ⟨fun hp p e => ?_, h1, h2, by rw [hr, h]⟩
  rw [List.getElem?_eq_getElem (by omega)] at e
  injection e with e
  subst e
  exact h0 hp
theorem lnB_pos {l : Ln} (h : lnB l = true) : 0 ≤ l.lead ∧ 0 ≤ l.at' := by
  unfold lnB at h
  rw [Bool.and_eq_true, Bool.and_eq_true, decide_eq_true_eq, decide_eq_true_eq] at h
  exact ⟨h.2.1.1, h.2.2.1⟩
theorem shape_pos {hs : List ByteArray} {ls : List Ln} (h : shapeB hs ls = true) : (∀ l ∈ ls, 0 ≤ l.lead ∧ 0 ≤ l.at') ∧ ls.length ≤ 800 ∧ hs.length ≤ 61 := by
  unfold shapeB at h
  rw [Bool.and_eq_true, Bool.and_eq_true, Bool.and_eq_true, decide_eq_true_eq, decide_eq_true_eq] at h
  exact ⟨fun l hl => lnB_pos (List.all_eq_true.1 h.2.2 l hl), h.1.2, h.1.1⟩
/-- The first line that is wrong: its number, or -1. -/
def lieN (rows : List ByteArray) (N T' : Nat) (ls : List Ln) : Int := match badAt (okLn nmLt rows N T' ls) ls.length with | none => -1 | some i => (i : Int)
theorem lieN_at {rows : List ByteArray} {N T' : Nat} {ls : List Ln} {i : Nat} (hi : i < ls.length) (ha : ∀ j, j < i → okLn nmLt rows N T' ls j = true) (hb : okLn nmLt rows N T' ls i = false) : lieN rows N T' ls = (i : Int) := by
  unfold lieN; rw [badAt_some hi ha hb]
theorem lieN_no {rows : List ByteArray} {N T' : Nat} {ls : List Ln} (ha : ∀ j, j < ls.length → okLn nmLt rows N T' ls j = true) : lieN rows N T' ls = -1 := by
  unfold lieN; rw [badAt_none ha]
theorem lieZ_heads {m : Mt} {k : Cl} {t : ByteArray} {hs : List ByteArray} {ls : List Ln} (h : headsOk m k t hs = false) : lieZ m k t hs ls = 0 := by unfold lieZ; rw [h]; rfl
theorem lieZ_count {m : Mt} {k : Cl} {t : ByteArray} {hs : List ByteArray} {ls : List Ln} (h : headsOk m k t hs = true) (hc : ¬ ls.length = t.size * m.l.length) : lieZ m k t hs ls = 1 := by unfold lieZ; rw [h, if_pos rfl, if_neg hc]
theorem lieZ_lines {m : Mt} {k : Cl} {t : ByteArray} {hs : List ByteArray} {ls : List Ln} (h : headsOk m k t hs = true) (hc : ls.length = t.size * m.l.length) : lieZ m k t hs ls = if lieN (rowsT m k t) m.l.length t.size ls < 0 then -1 else lieN (rowsT m k t) m.l.length t.size ls + 2 := by
  unfold lieZ lieN
  rw [h, if_pos rfl, if_pos hc]
  cases badAt (okLn nmLt (rowsT m k t) m.l.length t.size ls) ls.length with
  | none => rfl
  | some i =>
    show _ = if (i : Int) < 0 then _ else _
    rw [if_neg (by omega)]
end Go.Proofs.YtofpjbdelmmclaaGreatDoor

/- The walk along a proof's lines, both sides. (Printed by a program: tools/mkLD.py.) -/
namespace Go.Proofs.YtofpjbdelmmclaaGreatDoor
open Go Go.RowKit
set_option linter.unusedVariables false
set_option linter.unusedSimpArgs false

theorem strs_up {w : World} {A : Option Addr} {c k n : Nat} {ss : List ByteArray} (h : Strs w (.slice A n c) ss) (hk : k ≤ n) (hn : 1 ≤ n) : ∃ ad, A = some ad ∧ n ≤ c ∧ c ≤ maxLen ∧ Strs w (.slice (some ad) k c) (ss.take k) := by
  have hl := strs_len h
  obtain ⟨A', c', e, h1, h2, hr⟩ := h
  cases e
  obtain ⟨ad, hA, _⟩ := strs_el (k := 0) hr (by omega)
  subst hA
  exact ⟨ad, rfl, by omega, h2, strs_uptoG ⟨_, _, by rw [hl], h1, h2, hr⟩ hk⟩
end Go.Proofs.YtofpjbdelmmclaaGreatDoor

/- The checking of a proof and its first lie: both sides. (Printed by a program: tools/mkLE.py.) -/
namespace Go.Proofs.YtofpjbdelmmclaaGreatDoor
open Go Go.RowKit
set_option linter.unusedVariables false
set_option linter.unusedSimpArgs false

theorem lieN_bd {rows : List ByteArray} {N T' : Nat} {ls : List Ln} : -1 ≤ lieN rows N T' ls ∧ lieN rows N T' ls ≤ (ls.length : Int) := by
  unfold lieN
  cases h : badAt (okLn nmLt rows N T' ls) ls.length with
  | none => exact ⟨by show (-1 : Int) ≤ -1; omega, by show (-1 : Int) ≤ _; omega⟩
  | some i =>
    have : i < ls.length := by unfold badAt at h; exact List.mem_range.1 (List.mem_of_find?_eq_some h)
    exact ⟨by show (-1 : Int) ≤ (i : Int); omega, by show (i : Int) ≤ _; omega⟩
def lieAns (b : Bool) (Z : Int) : Int := cond b Z 0
end Go.Proofs.YtofpjbdelmmclaaGreatDoor

/- The drawers of a touch with its proof; the sameness of proofs. -/
namespace Go.Proofs.YtofpjbdelmmclaaGreatDoor
open Go Go.RowKit
set_option linter.unusedVariables false
set_option linter.unusedSimpArgs false

/-- What a drawer of a touch with its proof leaves. -/
def PostP (w : World) (e : Ending) (w' : World) : Prop := ∃ (m : Mt) (v : Value) (k : Cl) (t : ByteArray) (hv lv : Value) (hs : List ByteArray) (ls : List Ln), e = .returned (.tuple #[m.v v, k.v, .string t, .agg #[hv, lv]]) ∧ PMK w w' m v k ∧ t.size ≤ 60 ∧
  w'.ownsRow w.heap.size 9 1 hv hs.length (hs.map Value.string) ∧ LinV w' w.heap.size lv ls ∧ FitS hs ∧ FitL ls
theorem linV_lns {W : World} {base : Nat} {lv : Value} {ls : List Ln} (h : LinV W base lv ls) : Lns W lv ls := by
  rcases h with h | ⟨g, q, x, h, rfl⟩
  · exact lns_of_own h
  · have h1 := lns_fromG (k := 1) (lns_own_v (by rw [List.length_cons]) h) (by rw [List.length_cons]) (by omega)
    simpa [Nat.add_sub_cancel] using h1
theorem blk_ltP {w : World} {p : Addr} {v : Value} (h : w.cell? p = some v) : p.block < w.heap.size := by
  rcases Nat.lt_or_ge p.block w.heap.size with h1 | h1
  · exact h1
  · unfold World.cell? at h
    rw [Array.getElem?_eq_none h1] at h
    simp at h
theorem seven_fin {w wb w1 : World} {R K F : Nat} {xs ys zs : List Value} (hw : Below w.heap.size w wb) (hb : Below wb.heap.size wb w1) (hx : w1.ownsRow w.heap.size 49 3 (.slice (some ⟨R, 0, none⟩) 1 1) 1 xs) (hy : w1.ownsRow w.heap.size 51 2 (.slice (some ⟨K, 0, none⟩) 1 1) 1 ys) (hz : w1.ownsRow w.heap.size 27 2 (.slice (some ⟨F, 0, none⟩) 1 1) 1 zs) (a0 a1 a2 a3 a4 a5 a6 : Value) :
    ∃ W', W' = ((((((w1.setCell ⟨R, 0, none⟩ a0).setCell ⟨R, 1, none⟩ a1).setCell ⟨R, 2, none⟩ a2).setCell ⟨K, 0, none⟩ a3).setCell ⟨K, 1, none⟩ a4).setCell ⟨F, 0, none⟩ a5).setCell ⟨F, 1, none⟩ a6 ∧ Below w.heap.size w W' ∧
      (W'.cell? ⟨R, 0, none⟩ = some a0 ∧ W'.cell? ⟨R, 1, none⟩ = some a1 ∧ W'.cell? ⟨R, 2, none⟩ = some a2) ∧ (W'.cell? ⟨K, 0, none⟩ = some a3 ∧ W'.cell? ⟨K, 1, none⟩ = some a4) ∧ (W'.cell? ⟨F, 0, none⟩ = some a5 ∧ W'.cell? ⟨F, 1, none⟩ = some a6) ∧
      (∀ base (e : TypeId) (s n : Nat) v zs, w1.ownsRow base e s v n zs → e ≠ 49 → e ≠ 51 → e ≠ 27 → W'.ownsRow base e s v n zs) := by
  have nRF := own_blk_ne hx hz (by decide)
  have nKF := own_blk_ne hy hz (by decide)
  have hl : zs.length = 2 := hz.1
  have hF := (hz.lt F rfl).1
  obtain ⟨W5, e5, b5, ⟨c0, c1, c2⟩, ⟨d0, d1⟩, hro, _⟩ := five_fin hw hb hx hy a0 a1 a2 a3 a4
  have z5 := hro _ _ _ _ _ _ hz (by decide) (by decide)
  have z6 := own_set z5 0 a5
  have z7 := own_set z6 1 a6
  have ot : ∀ (p : Addr) (x : Value), p.block ≠ F → W5.cell? p = some x → ((W5.setCell ⟨F, 0, none⟩ a5).setCell ⟨F, 1, none⟩ a6).cell? p = some x := by
    intro p x hp h
    rw [gb_cellG (gb_set (gb_set (gb_refl W5 F) 0 a5) 1 a6) (blk_ltP h) hp]; exact h
  refine ⟨(W5.setCell ⟨F, 0, none⟩ a5).setCell ⟨F, 1, none⟩ a6, by rw [e5], grow_setB9 (grow_setB9 b5 hF a5) hF a6, ⟨ot _ _ nRF c0, ot _ _ nRF c1, ot _ _ nRF c2⟩, ⟨ot _ _ nKF d0, ot _ _ nKF d1⟩, ⟨?_, ?_⟩, ?_⟩
  · rw [z7.cellAt 0 (by omega)]; simp [hl]
  · rw [z7.cellAt 1 (by omega)]; simp [hl]
  · intro base e s n v xs h h1 h2 h3
    have g5 := hro _ _ _ _ _ _ h h1 h2
    exact own_oth (own_oth g5 z5 h3 0 a5) z6 h3 1 a6
set_option maxRecDepth 20000 in
set_option maxHeartbeats 4000000 in
theorem specSameProof_same (hv lv hv' lv' : Value) (hs : List ByteArray) (ls : List Ln) (w : World) (h1 : Strs w hv hs) (h2 : Lns w lv ls) (h1' : Strs w hv' hs) (h2' : Lns w lv' ls) : Calls Tryz.prog 10 #[.agg #[hv, lv], .agg #[hv', lv']] w fun e w' => e = .returned (.bool true) ∧ Below w.heap.size w w' := by
  have HQ := Lib.hid (fun W (hW : Below w.heap.size w W) => l1SameS_any hv hv' hs hs W (h1.to hW) (h1'.to hW))
  simp only [decide_true] at HQ
  obtain ⟨A1, c1, rfl, _⟩ := h1
  obtain ⟨A3, c3, rfl, _⟩ := h1'
  obtain ⟨A2, c2, rfl, g1, g2, hr⟩ := h2
  obtain ⟨A4, c4, rfl, g1', g2', hr'⟩ := h2'
  unfold maxLen at g2 g2'
  go_enter Tryz.func10, Tryz.ntmps10
  go_wp2_with fail
  refine box2 (C := fun W => Calls _ _ _ W _) ?_
  intro wb hw k1 k2 hB0
  have R1 := boxRule k1
  have R2 := boxRule k2
  refine (HQ.out wb hw).mono ?_; rintro e w1 ⟨rfl, hb1⟩
  have hB1 := bw_to hw hb1
  have a1 := R1 w1 1 hb1
  have b1 := R2 w1 1 hb1
  go_wp2_with fail
  go_loopw [24] (fun i wr => ∃ k : Nat, k ≤ ls.length ∧ i = .int .i64 k ∧ Below w.heap.size w wr ∧ Below wb.heap.size wb wr) (fun i _ => ls.length - (intOf i).toNat)
  case atStart => exact ⟨0, by omega, rfl, hB1, hb1⟩
  case round =>
    obtain ⟨k, hk, rfl, hB, hBb⟩ := hrel
    by_cases hlt : k < ls.length
    · obtain ⟨ad, rfl, hC⟩ := lns_el hr rfl hlt
      obtain ⟨ad', rfl, hC'⟩ := lns_el hr' rfl hlt
      have a1 := R1 wr 1 hBb
      have b1 := R2 wr 1 hBb
      obtain ⟨x0, x1, x2⟩ := hC wr hB
      obtain ⟨y0, y1, y2⟩ := hC' wr hB
      clear hC hC' R1 R2
      have hki : (k : Int) < (ls.length : Int) := by omega
      go_wp2_with fail
      go_big_quiet (fail)
      go_wp2_with fail
      exact ⟨⟨k + 1, by omega, by go_num, bw_dr hB _, bw_dr hBb _⟩, by simp [intOf]; omega⟩
    · have hki : ¬ (k : Int) < (ls.length : Int) := by omega
      go_wp2_with fail
      go_ret
      exact ⟨rfl, hB⟩
end Go.Proofs.YtofpjbdelmmclaaGreatDoor

/- A drawn proof for its text: at most twelve lines, the first line's lead otherwise at times. -/
namespace Go.Proofs.YtofpjbdelmmclaaGreatDoor
open Go Go.RowKit
set_option linter.unusedVariables false
set_option linter.unusedSimpArgs false

theorem own_uptoN {w : World} {base : Nat} {e : TypeId} {A : Option Addr} {n c k sz : Nat} {xs : List Value} (h : w.ownsRow base e sz (.slice A n c) n xs) (hk : k ≤ n) : w.ownsRow base e sz (.slice A k c) k (xs.take (k * sz)) := by
  obtain ⟨h1, h2⟩ := h
  have hks : k * sz ≤ n * sz := Nat.mul_le_mul_right _ hk
  refine ⟨by rw [List.length_take]; omega, ?_⟩
  rcases h2 with ⟨h2, h3⟩ | ⟨g, cap, cur, hv, hg, hh, hn, hm, hs, ht⟩
  · cases h2
    have : k = 0 := by omega
    subst this
    exact .inl ⟨rfl, by simp⟩
  · cases hv
    refine .inr ⟨g, c, cur, rfl, hg, hh, by omega, hm, hs, ?_⟩
    rw [← ht, List.take_take]; congr 1; omega
theorem flat_upto (ls : List Ln) (k : Nat) (hk : k ≤ ls.length) : (ls.flatMap lnC).take (k * 3) = (ls.take k).flatMap lnC := by
  conv => lhs; rw [← List.take_append_drop k ls]
  have hlt : ((ls.take k).flatMap lnC).length = k * 3 := by rw [flat_length (C := lnC) (sz := 3) (fun _ _ => rfl), List.length_take]; congr 1; omega
  rw [List.flatMap_append, ← hlt, List.take_left]
theorem LinV.upto {W : World} {base : Nat} {A : Option Addr} {n q k : Nat} {ls : List Ln} (h : LinV W base (.slice A n q) ls) (hn : ls.length = n) (hk : k ≤ n) : LinV W base (.slice A k q) (ls.take k) := by
  subst hn
  have hl : (ls.take k).length = k := by rw [List.length_take]; omega
  rcases h with h | ⟨g, q', x, h, e⟩
  · refine .inl ?_
    rw [hl, ← flat_upto _ _ hk]
    exact own_uptoN h hk
  · injection e with e1 e2 e3
    refine .inr ⟨g, q', x, ?_, ?_⟩
    · rw [hl]
      have h2 := own_uptoN h (show k + 1 ≤ ls.length + 1 by omega)
      rw [flat_upto (x :: ls) (k + 1) (by rw [List.length_cons]; omega), List.take_succ_cons] at h2
      exact h2
    · rw [hl, e1, e3]
/-- The lead of the first line anew. -/
theorem LinV.put {W : World} {base : Nat} {lv : Value} {ls : List Ln} (h : LinV W base lv ls) (h0 : 0 < ls.length) :
    ∃ g o q, lv = .slice (some ⟨g, o, none⟩) ls.length q ∧ (o = 0 ∨ o = 3) ∧ base ≤ g ∧ g < W.heap.size ∧ (∃ x : Int, W.cell? ⟨g, o + 1, none⟩ = some (.int .i64 x)) ∧ W.frozen? ⟨g, o + 1, none⟩ = false ∧
      (∀ b2 e2 s2 n2 v2 x2, W.ownsRow b2 e2 s2 v2 n2 x2 → e2 ≠ 76 → ∀ u, (W.setCell ⟨g, o + 1, none⟩ u).ownsRow b2 e2 s2 v2 n2 x2) ∧ ∀ z : Int, LinV (W.setCell ⟨g, o + 1, none⟩ (.int .i64 z)) base lv (ls.set 0 ⟨ls[0].row, z, ls[0].at'⟩) := by
  rcases h with h | ⟨g, q, x, h, rfl⟩
  · obtain ⟨A', q, e, _⟩ := sl_of_own h
    subst e
    obtain ⟨g, rfl, _, _⟩ := own_addr h h0
    have hb := h.lt g rfl
    have hc : W.cell? ⟨g, 1, none⟩ = some (.int .i64 ls[0].lead) := by
      rw [h.cellAt 1 (by omega)]
      exact flat_get (C := lnC) (sz := 3) (i := 0) (j := 1) (fun _ _ => rfl) (List.getElem?_eq_getElem h0) (by omega)
    refine ⟨g, 0, q, rfl, .inl rfl, hb.1, hb.2, ⟨_, hc⟩, h.frozenAt 1, fun b2 e2 s2 n2 v2 x2 h2 he u => own_oth h2 h he 1 u, fun z => .inl ?_⟩
    have h3 := own_set h 1 (.int .i64 z)
    have e3 := flat_set3 (i := 0) h0 ⟨ls[0].row, z, ls[0].at'⟩ (j := 1) (u := .int .i64 z) (by omega) rfl
    rw [show 0 * 3 + 1 = 1 from rfl] at e3
    rw [e3] at h3
    rw [List.length_set]
    exact h3
  · have hb := h.lt g rfl
    have hq : ls.length + 1 ≤ q := by obtain ⟨_, _, e, h1, _⟩ := sl_of_own h; cases e; exact h1
    have hc : W.cell? ⟨g, 4, none⟩ = some (.int .i64 ls[0].lead) := by
      rw [h.cellAt 4 (by omega)]
      exact flat_get (C := lnC) (sz := 3) (i := 1) (j := 1) (xs := x :: ls) (fun _ _ => rfl) (by rw [List.getElem?_cons_succ]; exact List.getElem?_eq_getElem h0) (by omega)
    refine ⟨g, 3, q - 1, by rw [if_neg (by omega)]; simp [Addr.add], .inr rfl, hb.1, hb.2, ⟨_, hc⟩, h.frozenAt 4, fun b2 e2 s2 n2 v2 x2 h2 he u => own_oth h2 h he 4 u, fun z => .inr ⟨g, q, x, ?_, by rw [List.length_set]⟩⟩
    have h3 := own_set h 4 (.int .i64 z)
    have e3 := flat_set3 (ls := x :: ls) (i := 1) (by rw [List.length_cons]; omega) ⟨ls[0].row, z, ls[0].at'⟩ (j := 1) (u := .int .i64 z) (by omega) rfl
    rw [show 1 * 3 + 1 = 4 from rfl, List.set_cons_succ] at e3
    rw [e3] at h3
    rw [List.length_set]
    exact h3
theorem LinV.draw {W W' : World} {base C : Nat} {lv : Value} {ls : List Ln} (h : LinV W base lv ls) (hg : W.grownBy W' (some C)) (hC : C < base) : LinV W' base lv ls := by
  rcases h with h | ⟨g, q, x, h, e⟩
  · exact .inl (own_ltC h hg hC)
  · exact .inr ⟨g, q, x, own_ltC h hg hC, e⟩
/-- A proof in its box X, the result's block F, the cursor C. -/
structure PW (w : World) (B C F X lim : Nat) (hv lv : Value) (hs : List ByteArray) (ls : List Ln) (W : World) : Prop where
  cur : Cur W C lim
  bw : Below w.heap.size w W
  rf : ∃ zs, W.ownsRow w.heap.size 27 2 (.slice (some ⟨F, 0, none⟩) 1 1) 1 zs
  xb : W.ownsRow B 27 2 (.slice (some ⟨X, 0, none⟩) 1 1) 1 [hv, lv]
  hr : W.ownsRow B 9 1 hv hs.length (hs.map Value.string)
  lr : LinV W B lv ls
  nf : F ≠ X
  hC : C < B
  hF : F < C
  hB : w.heap.size ≤ B
theorem PW.to {w : World} {B C F X lim : Nat} {hv lv : Value} {hs : List ByteArray} {ls : List Ln} {W W' : World} (h : PW w B C F X lim hv lv hs ls W) (hb : Below W.heap.size W W') : PW w B C F X lim hv lv hs ls W' := { h with cur := h.cur.to hb, bw := bw_to h.bw hb, rf := let ⟨zs, hz⟩ := h.rf; ⟨zs, own_to hz hb⟩, xb := own_to h.xb hb, hr := own_to h.hr hb, lr := h.lr.to hb }
theorem PW.drew {w : World} {B C F X lim : Nat} {hv lv : Value} {hs : List ByteArray} {ls : List Ln} {W : World} (h : PW w B C F X lim hv lv hs ls W) : PW w B C F X lim hv lv hs ls W.drew := h.to (Below.drew (Below.refl _ _))
theorem PW.draw {w : World} {B C F X lim : Nat} {hv lv : Value} {hs : List ByteArray} {ls : List Ln} {lim' : Nat} {W W' : World} (h : PW w B C F X lim hv lv hs ls W) (hw : w.heap.size ≤ C) (hc : Cur W' C lim') (hg : W.grownBy W' (some C)) : PW w B C F X lim' hv lv hs ls W' :=
  { h with cur := hc, bw := gb_below h.bw hg hw, rf := let ⟨zs, hz⟩ := h.rf; ⟨zs, own_noC hz h.cur (by decide) hg⟩, xb := own_ltC h.xb hg h.hC, hr := own_ltC h.hr hg h.hC, lr := h.lr.draw hg h.hC }
theorem PW.more {w : World} {B C F X lim : Nat} {hv lv : Value} {hs : List ByteArray} {ls : List Ln} {lim' : Nat} {W : World} (h : PW w B C F X lim hv lv hs ls W) (hl : lim ≤ lim') : PW w B C F X lim' hv lv hs ls W := { h with cur := h.cur.more hl }
/-- The lines' cell of the box anew. -/
theorem PW.setX {w : World} {B C F X lim : Nat} {hv lv : Value} {hs : List ByteArray} {ls : List Ln} {W : World} (h : PW w B C F X lim hv lv hs ls W) (lv' : Value) (ls' : List Ln) (hl : LinV W B lv' ls') : PW w B C F X lim hv lv' hs ls' (W.setCell ⟨X, 1, none⟩ lv') := by
  obtain ⟨zs, hz⟩ := h.rf
  have hX := (h.xb.lt X rfl)
  have hC := h.hC
  have hB := h.hB
  refine { cur := h.cur.setC (by omega) 1 lv', bw := grow_set h.bw (by omega) lv', rf := ⟨zs, own_ne1 hz h.nf 1 lv'⟩, xb := ?_, hr := own_oth h.hr h.xb (by decide) 1 lv', lr := hl.oth h.xb (by decide) 1 lv', nf := h.nf, hC := hC, hF := h.hF, hB := hB }
  exact own_set h.xb 1 lv'
theorem PW.cells {w : World} {B C F X lim : Nat} {hv lv : Value} {hs : List ByteArray} {ls : List Ln} {W : World} (h : PW w B C F X lim hv lv hs ls W) : W.cell? ⟨X, 0, none⟩ = some hv ∧ W.cell? ⟨X, 1, none⟩ = some lv ∧ W.frozen? ⟨X, 1, none⟩ = false ∧ W.cell? ⟨F, 0, none⟩ = some (oldC F 0 W) ∧ W.cell? ⟨F, 1, none⟩ = some (oldC F 1 W) ∧ W.frozen? ⟨F, 0, none⟩ = false ∧ W.frozen? ⟨F, 1, none⟩ = false := by
  obtain ⟨zs, hz⟩ := h.rf
  have hl3 : zs.length = 2 := hz.1
  refine ⟨(h.xb.cellAt 0 (by omega)).trans rfl, (h.xb.cellAt 1 (by omega)).trans rfl, h.xb.frozenAt 1, ?_, ?_, hz.frozenAt _, hz.frozenAt _⟩
  · exact oldC_of (x := zs[0]) (by rw [hz.cellAt 0 (by omega)]; simp [hl3])
  · exact oldC_of (x := zs[1]) (by rw [hz.cellAt 1 (by omega)]; simp [hl3])
/-- The state ahead of the store: the lines are some lines. -/
def PX (w : World) (B C F X L n : Nat) (hv lv : Value) (hs : List ByteArray) (W : World) : Prop := ∃ l ls', l ≤ L ∧ ls'.length = n ∧ (∀ x ∈ ls', x.row.size ≤ 8) ∧ PW w B C F X l hv lv hs ls' W
theorem PX.to {w : World} {B C F X L n : Nat} {hv lv : Value} {hs : List ByteArray} {W W' : World} (h : PX w B C F X L n hv lv hs W) (hb : Below W.heap.size W W') : PX w B C F X L n hv lv hs W' := let ⟨l, ls', h1, h2, h3, h4⟩ := h; ⟨l, ls', h1, h2, h3, h4.to hb⟩
theorem PX.all {w : World} {B C F X L n : Nat} {hv : Value} {hs : List ByteArray} {g o p q : Nat} {W : World} (h : PX w B C F X L n hv (.slice (some ⟨g, o, none⟩) n q) hs W) (h0 : 0 < n) (hp : p = o + 1) : PX w B C F X L n hv (.slice (some ⟨g, o, none⟩) n q) hs W ∧ W.cell? ⟨X, 1, none⟩ = some (.slice (some ⟨g, o, none⟩) n q) ∧ W.cell? ⟨g, p, none⟩ = some (oldC g p W) ∧ W.frozen? ⟨g, p, none⟩ = false := by
  subst hp
  refine ⟨h, ?_⟩
  obtain ⟨l, ls', h1, rfl, h3, h4⟩ := h
  obtain ⟨g', o', q', e', ho', hg, hg2, ⟨x, hc⟩, hf, hot, hpp⟩ := h4.lr.put h0
  injection e' with e1 e2 e3
  injection e1 with e1
  injection e1 with e1 e4
  subst e1 e4
  exact ⟨h4.cells.2.1, oldC_of hc, hf⟩
theorem PX.put {w : World} {B C F X L n : Nat} {hv : Value} {hs : List ByteArray} {g o p q : Nat} {W : World} (h : PX w B C F X L n hv (.slice (some ⟨g, o, none⟩) n q) hs W) (h0 : 0 < n) (hp : p = o + 1) (z : Int) : PX w B C F X L n hv (.slice (some ⟨g, o, none⟩) n q) hs (W.setCell ⟨g, p, none⟩ (.int .i64 z)) := by
  subst hp
  obtain ⟨l, ls', h1, rfl, h3, h4⟩ := h
  obtain ⟨g', o', q', e', ho', hg, hg2, ⟨x, hc⟩, hf, hot, hpp⟩ := h4.lr.put h0
  injection e' with e1 e2 e3
  injection e1 with e1
  injection e1 with e1 e4
  subst e1 e4
  have hC := h4.hC
  have hB := h4.hB
  obtain ⟨zs, hz⟩ := h4.rf
  refine ⟨l, ls'.set 0 ⟨ls'[0].row, z, ls'[0].at'⟩, h1, List.length_set, fun x hx => ?_, ?_⟩
  · rcases List.mem_or_eq_of_mem_set hx with hx | rfl
    · exact h3 x hx
    · exact h3 ls'[0] (List.getElem_mem h0)
  · exact { cur := h4.cur.setC (by omega) _ _, bw := grow_set h4.bw (by omega) _, rf := ⟨zs, hot _ _ _ _ _ _ hz (by decide) _⟩, xb := hot _ _ _ _ _ _ h4.xb (by decide) _, hr := hot _ _ _ _ _ _ h4.hr (by decide) _, lr := hpp z, nf := h4.nf, hC := hC, hF := h4.hF, hB := hB }
theorem PX.allA {w : World} {B C F X L n : Nat} {hv : Value} {hs : List ByteArray} {g o p q : Nat} {W : World} {ob : Obj} (h : PX w B C F X L n hv (.slice (some ⟨g, o, none⟩) n q) hs W ∧ W.cell? ⟨X, 1, none⟩ = some (.slice (some ⟨g, o, none⟩) n q) ∧ W.cell? ⟨g, p, none⟩ = some (oldC g p W) ∧ W.frozen? ⟨g, p, none⟩ = false) (h0 : 0 < n) (hp : p = o + 1) : PX w B C F X L n hv (.slice (some ⟨g, o, none⟩) n q) hs (W.alloc ob) ∧ (W.alloc ob).cell? ⟨X, 1, none⟩ = some (.slice (some ⟨g, o, none⟩) n q) ∧ (W.alloc ob).cell? ⟨g, p, none⟩ = some (oldC g p (W.alloc ob)) ∧ (W.alloc ob).frozen? ⟨g, p, none⟩ = false := (h.1.to (bw_al (Below.refl _ _) _)).all h0 hp
theorem PX.allAd {w : World} {B C F X L n : Nat} {hv : Value} {hs : List ByteArray} {g o p q : Nat} {W : World} {ob : Obj} (h : PX w B C F X L n hv (.slice (some ⟨g, o, none⟩) n q) hs W.drew ∧ W.drew.cell? ⟨X, 1, none⟩ = some (.slice (some ⟨g, o, none⟩) n q) ∧ W.drew.cell? ⟨g, p, none⟩ = some (oldC g p W.drew) ∧ W.drew.frozen? ⟨g, p, none⟩ = false) (h0 : 0 < n) (hp : p = o + 1) : PX w B C F X L n hv (.slice (some ⟨g, o, none⟩) n q) hs (W.alloc ob).drew ∧ (W.alloc ob).drew.cell? ⟨X, 1, none⟩ = some (.slice (some ⟨g, o, none⟩) n q) ∧ (W.alloc ob).drew.cell? ⟨g, p, none⟩ = some (oldC g p (W.alloc ob).drew) ∧ (W.alloc ob).drew.frozen? ⟨g, p, none⟩ = false := by
  have h2 : PX w B C F X L n hv (.slice (some ⟨g, o, none⟩) n q) hs (W.alloc ob).drew := h.1.to (bw_al (Below.refl _ _) ob)
  exact h2.all h0 hp
theorem PX.allS {w : World} {B C F X L n : Nat} {hv : Value} {hs : List ByteArray} {g o p q : Nat} {W : World} {z : Int} (h : PX w B C F X L n hv (.slice (some ⟨g, o, none⟩) n q) hs W ∧ W.cell? ⟨X, 1, none⟩ = some (.slice (some ⟨g, o, none⟩) n q) ∧ W.cell? ⟨g, p, none⟩ = some (oldC g p W) ∧ W.frozen? ⟨g, p, none⟩ = false) (h0 : 0 < n) (hp : p = o + 1) : PX w B C F X L n hv (.slice (some ⟨g, o, none⟩) n q) hs (W.setCell ⟨g, p, none⟩ (.int .i64 z)) ∧ (W.setCell ⟨g, p, none⟩ (.int .i64 z)).cell? ⟨X, 1, none⟩ = some (.slice (some ⟨g, o, none⟩) n q) ∧ (W.setCell ⟨g, p, none⟩ (.int .i64 z)).cell? ⟨g, p, none⟩ = some (oldC g p (W.setCell ⟨g, p, none⟩ (.int .i64 z))) ∧ (W.setCell ⟨g, p, none⟩ (.int .i64 z)).frozen? ⟨g, p, none⟩ = false := (h.1.put h0 hp z).all h0 hp
/-- The result's two cells, written. -/
theorem PW.fin {w : World} {B C F X lim : Nat} {hv lv : Value} {hs : List ByteArray} {ls : List Ln} {W : World} (h : PW w B C F X lim hv lv hs ls W) (a0 a1 : Value) : ∃ W', W' = (W.setCell ⟨F, 0, none⟩ a0).setCell ⟨F, 1, none⟩ a1 ∧ Below w.heap.size w W' ∧ W'.cell? ⟨F, 0, none⟩ = some a0 ∧ W'.cell? ⟨F, 1, none⟩ = some a1 ∧
    W'.ownsRow w.heap.size 9 1 hv hs.length (hs.map Value.string) ∧ LinV W' w.heap.size lv ls := by
  obtain ⟨zs, hz⟩ := h.rf
  have hl : zs.length = 2 := hz.1
  have hF := (hz.lt F rfl).1
  have z0 := own_set hz 0 a0
  have z1 := own_set z0 1 a1
  refine ⟨_, rfl, grow_set (grow_set h.bw hF a0) hF a1, ?_, ?_, own_base (own_oth (own_oth h.hr hz (by decide) 0 a0) z0 (by decide) 1 a1) h.hB, ((h.lr.oth hz (by decide) 0 a0).oth z0 (by decide) 1 a1).base h.hB⟩
  · rw [z1.cellAt 0 (by omega)]; simp [hl]
  · rw [z1.cellAt 1 (by omega)]; simp [hl]
/-- What a draw of a proof leaves. -/
def PostQ (w : World) (e : Ending) (w' : World) : Prop := ∃ (hv lv : Value) (hs : List ByteArray) (ls : List Ln), e = .returned (.agg #[hv, lv]) ∧ w'.ownsRow w.heap.size 9 1 hv hs.length (hs.map Value.string) ∧ LinV w' w.heap.size lv ls ∧ (∀ s ∈ hs, s.size ≤ 8) ∧ (∀ l ∈ ls, l.row.size ≤ 8) ∧ hs.length ≤ 61 ∧ ls.length ≤ 12 ∧ Below w.heap.size w w'
theorem LinV.nilok {W : World} {base : Nat} {lv : Value} {ls : List Ln} (h : LinV W base lv ls) : NilOk lv := by
  rcases h with h | ⟨g, q, x, h, rfl⟩
  · exact nilok_own h
  · intro n c e
    injection e with e1 e2 e3
    by_cases hq : q = 1
    · rw [if_pos hq] at e1; cases e1
    · rw [if_neg hq] at e1; cases e1
set_option maxRecDepth 100000 in
set_option maxHeartbeats 4000000 in
theorem drawProofText_any (V : Value) (w : World) (h : BytesAt w w.heap.size V) : Calls Tryz.prog 6 #[V] w (PostQ w) := by
  have H := Lib.hid h
  obtain ⟨A0, n0, c0, zs0, rfl, _⟩ := h
  go_enter Tryz.func6, Tryz.ntmps6
  go_wp2_with fail
  refine box2 (C := fun W => Calls _ _ _ W _) ?_
  intro wb hw k0 k1 hB0
  have C0 := Lib.hid (cur_box H.out hw (by omega) k1)
  have hCw : w.heap.size + 1 < wb.heap.size := (Array.getElem?_eq_some_iff.1 k1).1
  have Hw := Lib.hid hw
  have K0 := Lib.hid (own_of_heap (base := w.heap.size) (n := 1) (size := 2) k0 (Nat.le_refl _) (by unfold maxLen; omega) rfl)
  clear k0 k1 hw
  refine (proved_any wb (w.heap.size + 1) 0 C0.out (by omega)).mono ?_; rintro e w1 ⟨m, v, k, t, hv, lv, hs, ls, rfl, hz, hl, hsm, hst, ⟨hkb, hks⟩, ht, ho, hh, hlv, hh8, hl8, hn1, hn2, hc, hg⟩
  have B1 := Lib.hid (gb_below Hw.out hg (by omega))
  have R0 := Lib.hid (own_noC K0.out C0.out (by decide) hg)
  have Hh := Lib.hid hh
  have Hl := Lib.hid hlv
  have C1 := Lib.hid hc
  have Hh8 := Lib.hid hh8
  have Hl8 := Lib.hid hl8
  have Hn := Lib.hid (And.intro hn1 hn2)
  have hnh := nilok_own hh
  have hsz1 : wb.heap.size ≤ w1.heap.size := hg.size
  obtain ⟨A1, q1, ev, _⟩ := sl_of_own ho
  subst ev
  obtain ⟨A2, q2, ev, _⟩ := sl_of_own hh
  subst ev
  obtain ⟨A3, q3, ev, hq3, hq3'⟩ := lns_form (linV_lns hlv)
  subst ev
  unfold maxLen at hq3'
  obtain ⟨nm, n, ss⟩ := m
  obtain ⟨kb, ks⟩ := k
  unfold Mt.v Cl.v
  simp only
  clear hz hl hsm hst hkb hks ht ho hh hlv hh8 hl8 hn1 hn2 hc hg K0 C0 hB0 H
  go_upto_region 3 with fail
  refine box3 (C := fun W => Code.wp _ _ _ _ W) ?_
  intro w2 hw2 k2 k3 k4 hB2
  have P2 := Lib.hid (show PW w wb.heap.size (w.heap.size + 1) w.heap.size (w1.heap.size + 2) 260 (.slice A2 hs.length q2) (.slice A3 ls.length q3) hs ls w2 from
    { cur := C1.out.to hw2, bw := bw_to B1.out hw2, rf := ⟨_, own_to R0.out hw2⟩, xb := own_of_heap (n := 1) (size := 2) k4 (by omega) (by unfold maxLen; omega) rfl, hr := own_to Hh.out hw2, lr := Hl.out.to hw2, nf := by omega, hC := hCw, hF := by omega, hB := by omega })
  obtain ⟨X, hX⟩ : ∃ X, X = w1.heap.size + 2 := ⟨_, rfl⟩
  obtain ⟨C, hC⟩ : ∃ X, X = w.heap.size + 1 := ⟨_, rfl⟩
  obtain ⟨F, hF⟩ : ∃ X, X = w.heap.size := ⟨_, rfl⟩
  obtain ⟨B, hB⟩ : ∃ X, X = wb.heap.size := ⟨_, rfl⟩
  rw [← hX, ← hC, ← hB] at P2
  have hwC : w.heap.size ≤ C := by omega
  have nFX : F ≠ X := by rw [hF]; exact P2.out.nf
  have nXF := nFX.symm
  have hFw : F = w.heap.size := hF
  have P2 := Lib.hid (show PW w B C F X 260 (.slice A2 hs.length q2) (.slice A3 ls.length q3) hs ls w2 from by rw [hF]; exact P2.out)
  rw [← hX, ← hC, ← hF]
  have HF := Lib.hid hF
  clear hX hC hF hB k2 k3 k4 hw2 hB2 R0 Hh Hl C1 B1 Hw hsz1 hCw hFw
  obtain ⟨x0, x1, fx, _⟩ := P2.out.cells
  go_upto_if 21 with fail
  go_cut [7] (fun s7 wx => s7 = .pointer (some ⟨X, 0, none⟩) ∧ ∃ A q n ls', ls'.length = n ∧ n ≤ 12 ∧ n ≤ q ∧ (∀ l ∈ ls', l.row.size ≤ 8) ∧ PW w B C F X 260 (.slice A2 hs.length q2) (.slice A n q) hs ls' wx)
  case first =>
    by_cases h12 : 12 < ls.length
    · have gl : decide ((12 : Int) < (ls.length : Int)) = true := by simp; omega
      have h12i : (12 : Int) ≤ (q3 : Int) := by omega
      have hlen : (ls.take 12).length = 12 := by rw [List.length_take]; omega
      have hE := Lib.hid (P2.out.setX (.slice A3 12 q3) (ls.take 12) (P2.out.lr.upto rfl (by omega)))
      go_wp2_with fail
      go_meet
      exact ⟨rfl, A3, q3, 12, ls.take 12, hlen, by omega, by omega, fun l hl => Hl8.out l (List.mem_of_mem_take hl), hE.out⟩
    · have gl : decide ((12 : Int) < (ls.length : Int)) = false := by simp; omega
      go_wp2_with fail
      go_meet
      exact ⟨rfl, A3, q3, ls.length, ls, rfl, by omega, by omega, Hl8.out, P2.out⟩
  case rest =>
    obtain ⟨rfl, A, q, n, ls', hn, hn12, hnq, hsm, hP⟩ := hcut
    have Pc := Lib.hid hP
    have Hsm := Lib.hid hsm
    clear hP hsm P2 Hl8 hq3 hq3'
    obtain ⟨x0, x1, fx, _⟩ := Pc.out.cells
    by_cases h0 : 0 < n
    · have gl : decide ((0 : Int) < (n : Int)) = true := by simp; omega
      go_wp2_with fail
      refine (one_any wc C _ 20 Pc.out.cur (by omega) (by omega) (by omega)).mono ?_; rintro e w5 ⟨b, rfl, hc5, hg5⟩
      have P5 := Lib.hid (Pc.out.draw hwC hc5 hg5)
      clear hc5 hg5 x0 x1 fx Pc
      cases b
      · skip
        obtain ⟨y0, y1, _, u0, u1, t0, t1⟩ := P5.out.cells
        go_wp2_with fail
        obtain ⟨W', eW, hb', e0, e1, hr', hl'⟩ := P5.out.fin (.slice A2 hs.length q2) (.slice A n q)
        rw [← eW]
        refine bodyPost_ret (v := .agg #[.slice A2 hs.length q2, .slice A n q]) (by simp [results, go_sem, e0, e1]) rfl ?_
        exact ⟨_, _, hs, ls', rfl, hr', hl', Hh8.out, Hsm.out, Hn.out.1, by omega, hb'⟩
      · obtain ⟨g, o, qq, ev, ho, _⟩ := P5.out.lr.put (by omega)
        rw [hn] at ev
        injection ev with ev1 ev2 ev3
        subst ev1 ev3
        have h0i : (0 : Int) < (n : Int) := by omega
        rcases ho with rfl | rfl
        · have C5 := Lib.hid (P5.out.cur.to (Below.drew (Below.refl _ _)))
          have y5 : PX w B C F X 266 n (.slice A2 hs.length q2) (.slice (some ⟨g, 0, none⟩) n q) hs w5.drew := ⟨_, ls', by omega, hn, Hsm.out, P5.out.drew⟩
          have Y5 := Lib.hid y5
          obtain ⟨_, s1, s2, s3⟩ := PX.all (p := 1) (show PX w B C F X 266 n (.slice A2 hs.length q2) (.slice (some ⟨g, 0, none⟩) n q) hs w5 from ⟨_, ls', by omega, hn, Hsm.out, P5.out⟩) h0 rfl
          go_upto_region 6 with fail
          go_region_held3 (fun W => PX w B C F X 266 n (.slice A2 hs.length q2) (.slice (some ⟨g, 0, none⟩) n q) hs W ∧ W.cell? ⟨X, 1, none⟩ = some (.slice (some ⟨g, 0, none⟩) n q) ∧ W.cell? ⟨g, 1, none⟩ = some (oldC g 1 W) ∧ W.frozen? ⟨g, 1, none⟩ = false) (first | with_reducible assumption | with_reducible exact PX.all (by assumption) h0 (by rfl) | with_reducible exact PX.allA (by assumption) h0 (by rfl) | with_reducible exact PX.allAd (by assumption) h0 (by rfl) | with_reducible exact PX.allS (by assumption) h0 (by rfl)) (first | (go_at_call 37; refine (among_at w5.drew C _ 3 _ [-1, 61, 60] (by simp) C5.out (by omega) rfl (by omega) (by omega)).mono ?_; rintro e w6 ⟨z, rfl, hzm, hc6, hg6⟩; (have y6 : PX w B C F X 266 n (.slice A2 hs.length q2) (.slice (some ⟨g, 0, none⟩) n q) hs w6 := ⟨_, ls', by omega, hn, Hsm.out, P5.out.drew.draw hwC hc6 hg6⟩); (have Y6 := Lib.hid y6); clear hc6 hg6 hzm))
          obtain ⟨l7, ls7, hl7, hn7, hsm7, hP7⟩ := Y6.out.put (p := 1) h0 rfl z
          have P7 := Lib.hid hP7
          clear hP7
          obtain ⟨y0, y1, _, u0, u1, t0, t1⟩ := P7.out.cells
          go_wp2_with fail
          obtain ⟨W', eW, hb', e0, e1, hr', hl'⟩ := P7.out.fin (.slice A2 hs.length q2) (.slice (some ⟨g, 0, none⟩) n q)
          rw [← eW]
          refine bodyPost_ret (v := .agg #[.slice A2 hs.length q2, .slice (some ⟨g, 0, none⟩) n q]) (by simp [results, go_sem, e0, e1]) rfl ?_
          exact ⟨_, _, hs, ls7, rfl, hr', hl', Hh8.out, hsm7, Hn.out.1, by omega, hb'⟩
        · have C5 := Lib.hid (P5.out.cur.to (Below.drew (Below.refl _ _)))
          have y5 : PX w B C F X 266 n (.slice A2 hs.length q2) (.slice (some ⟨g, 3, none⟩) n q) hs w5.drew := ⟨_, ls', by omega, hn, Hsm.out, P5.out.drew⟩
          have Y5 := Lib.hid y5
          obtain ⟨_, s1, s2, s3⟩ := PX.all (p := 4) (show PX w B C F X 266 n (.slice A2 hs.length q2) (.slice (some ⟨g, 3, none⟩) n q) hs w5 from ⟨_, ls', by omega, hn, Hsm.out, P5.out⟩) h0 rfl
          go_upto_region 6 with fail
          go_region_held3 (fun W => PX w B C F X 266 n (.slice A2 hs.length q2) (.slice (some ⟨g, 3, none⟩) n q) hs W ∧ W.cell? ⟨X, 1, none⟩ = some (.slice (some ⟨g, 3, none⟩) n q) ∧ W.cell? ⟨g, 4, none⟩ = some (oldC g 4 W) ∧ W.frozen? ⟨g, 4, none⟩ = false) (first | with_reducible assumption | with_reducible exact PX.all (by assumption) h0 (by rfl) | with_reducible exact PX.allA (by assumption) h0 (by rfl) | with_reducible exact PX.allAd (by assumption) h0 (by rfl) | with_reducible exact PX.allS (by assumption) h0 (by rfl)) (first | (go_at_call 37; refine (among_at w5.drew C _ 3 _ [-1, 61, 60] (by simp) C5.out (by omega) rfl (by omega) (by omega)).mono ?_; rintro e w6 ⟨z, rfl, hzm, hc6, hg6⟩; (have y6 : PX w B C F X 266 n (.slice A2 hs.length q2) (.slice (some ⟨g, 3, none⟩) n q) hs w6 := ⟨_, ls', by omega, hn, Hsm.out, P5.out.drew.draw hwC hc6 hg6⟩); (have Y6 := Lib.hid y6); clear hc6 hg6 hzm))
          obtain ⟨l7, ls7, hl7, hn7, hsm7, hP7⟩ := Y6.out.put (p := 4) h0 rfl z
          have P7 := Lib.hid hP7
          clear hP7
          obtain ⟨y0, y1, _, u0, u1, t0, t1⟩ := P7.out.cells
          go_wp2_with fail
          obtain ⟨W', eW, hb', e0, e1, hr', hl'⟩ := P7.out.fin (.slice A2 hs.length q2) (.slice (some ⟨g, 3, none⟩) n q)
          rw [← eW]
          refine bodyPost_ret (v := .agg #[.slice A2 hs.length q2, .slice (some ⟨g, 3, none⟩) n q]) (by simp [results, go_sem, e0, e1]) rfl ?_
          exact ⟨_, _, hs, ls7, rfl, hr', hl', Hh8.out, hsm7, Hn.out.1, by omega, hb'⟩
    · have gl : decide ((0 : Int) < (n : Int)) = false := by simp; omega
      obtain ⟨y0, y1, _, u0, u1, t0, t1⟩ := Pc.out.cells
      go_wp2_with fail
      obtain ⟨W', eW, hb', e0, e1, hr', hl'⟩ := Pc.out.fin (.slice A2 hs.length q2) (.slice A n q)
      rw [← eW]
      refine bodyPost_ret (v := .agg #[.slice A2 hs.length q2, .slice A n q]) (by simp [results, go_sem, e0, e1]) rfl ?_
      exact ⟨_, _, hs, ls', rfl, hr', hl', Hh8.out, Hsm.out, Hn.out.1, by omega, hb'⟩
end Go.Proofs.YtofpjbdelmmclaaGreatDoor
