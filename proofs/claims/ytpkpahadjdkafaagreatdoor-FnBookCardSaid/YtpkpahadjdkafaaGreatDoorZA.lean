/- Contracts: the records rung on a day, both sides; drawn books' texts. -/
import Derived.Test.YtpkpahadjdkafaaGreatDoorZ5
import Derived.Test.YtpkpahadjdkafaaGreatDoorZ8
import Derived.Test.YtpkpahadjdkafaaGreatDoorX4
namespace Go.Proofs.YtpkpahadjdkafaaGreatDoor
open Go Go.RowKit
set_option linter.unusedVariables false
set_option linter.unusedSimpArgs false

def rungL (xs : List Rc) (d : Int) : List Rc := xs.filter fun x => decide (x.day = d)
def rungO (xs : List Rc) (d : Int) : List Rc := if bookB xs then rungL xs d else []
theorem rung_step {xs : List Rc} {d : Int} {k : Nat} (hk : k < xs.length) : rungL (xs.take (k + 1)) d = rungL (xs.take k) d ++ (if xs[k].day = d then [xs[k]] else []) := by
  unfold rungL
  rw [List.take_succ_eq_append_getElem hk, List.filter_append]
  congr 1
  by_cases h : xs[k].day = d <;> simp [h]
theorem rungO_no {xs : List Rc} {d : Int} (h : bookB xs = false) : rungO xs d = [] := by unfold rungO; rw [h]; rfl
theorem rungO_yes {xs : List Rc} {d : Int} (h : bookB xs = true) : rungO xs d = rungL xs d := by unfold rungO; rw [if_pos h]
theorem ret_vbA {v : Value} {p q : Bool} (k : q = p) : Ending.returned (.tuple #[v, .bool p]) = .returned (.tuple #[v, .bool q]) := by rw [k]
def RungPost (w : World) (xs : List Rc) (d : Int) (e : Ending) (w' : World) : Prop := ∃ r, e = .returned (.tuple #[r, .bool (bookB xs)]) ∧ w'.ownsRow w.heap.size 39 5 r (rungO xs d).length ((rungO xs d).flatMap Rc.cells) ∧ Below w.heap.size w w'
set_option maxRecDepth 100000 in
set_option maxHeartbeats 2000000 in
theorem implRungOn_any (V : Value) (xs : List Rc) (d : Int) (w : World) (h : Recs w V xs) (hs : AllFit xs) : Calls Tryz.prog 11 #[V, .int .i64 d] w (RungPost w xs d) := by
  have h0 := h
  obtain ⟨A, c, rfl, h1, h2, hrd⟩ := h
  unfold maxLen at h2
  unfold RungPost
  go_enter Tryz.func11, Tryz.ntmps11
  go_wp2_with fail
  refine (implGoodBook_any _ xs _ h0 hs).mono ?_; rintro e w1 ⟨rfl, hb1⟩
  cases hb : bookB xs
  · have Hx := Lib.hid (rungO_no (d := d) hb)
    have Hb := Lib.hid hb
    clear hb
    go_wp2_with fail
    go_ret2
    exact ⟨_, ret_vbA Hb.out, by rw [Hx.out]; exact World.ownsRow_nil _ _ _ _, hb1⟩
  have hlen := ((bookB_iff xs).1 hb).1
  have Hx := Lib.hid (rungO_yes (d := d) hb)
  have Hb := Lib.hid hb
  clear hb
  have hB1 := bw_al hb1 (.cells #[] 39)
  have HO0 := Lib.hid (own_of_heap (base := w.heap.size) (size := 5) (n := 0) (cs := #[]) (heap_new w1 (.cells #[] 39)) hb1.size (by unfold maxLen; omega) rfl)
  go_wp2_with fail
  go_loopw [6, 15] (fun o i wr => ∃ k : Nat, k ≤ xs.length ∧ i = .int .i64 k ∧ wr.ownsRow w.heap.size 39 5 o (rungL (xs.take k) d).length ((rungL (xs.take k) d).flatMap Rc.cells) ∧ Below w.heap.size w wr) (fun _ i _ => xs.length - (intOf i).toNat)
  case atStart => exact ⟨0, by omega, rfl, HO0.out, hB1⟩
  case round =>
    obtain ⟨k, hk, rfl, hO, hB⟩ := hrel
    obtain ⟨Ao, co, e0, _⟩ := sl_of_own hO
    subst e0
    have hll : (rungL (xs.take k) d).length ≤ k := Nat.le_trans (List.length_filter_le _ _) (by simp; omega)
    by_cases hlt : k < xs.length
    · obtain ⟨ad, rfl, hC⟩ := recs_el hrd rfl hlt
      have hc0 := hC wr hB
      have hst := rung_step (d := d) hlt
      obtain ⟨x, ex⟩ : ∃ x, x = xs[k] := ⟨_, rfl⟩
      obtain ⟨R, hR⟩ : ∃ R, R = rungL (xs.take k) d := ⟨_, rfl⟩
      rw [← ex] at hc0 hst
      rw [← hR] at hst hO hll ⊢
      have Hst := Lib.hid hst
      clear hC ex hst hR
      by_cases hd : x.day = d
      · subst hd
        rw [if_pos rfl] at Hst
        have hbx := bw_al hB (.cells #[.int .i64 x.day, .string x.meth, .string x.touch, .int .i64 x.rows, .string x.note] 39)
        have hby := bw_al hbx (.cells #[.int .i64 x.day, .string x.meth, .string x.touch, .int .i64 x.rows, .string x.note] 39)
        have hrow := own_to hO (bw_al (bw_al (Below.refl _ wr) (.cells #[.int .i64 x.day, .string x.meth, .string x.touch, .int .i64 x.rows, .string x.note] 39)) (.cells #[.int .i64 x.day, .string x.meth, .string x.touch, .int .i64 x.rows, .string x.note] 39))
        have hnew : (((wr.alloc (.cells #[.int .i64 x.day, .string x.meth, .string x.touch, .int .i64 x.rows, .string x.note] 39))).alloc (.cells #[.int .i64 x.day, .string x.meth, .string x.touch, .int .i64 x.rows, .string x.note] 39)).ownsRow 0 39 5 (.slice (some ⟨(wr.alloc (.cells #[.int .i64 x.day, .string x.meth, .string x.touch, .int .i64 x.rows, .string x.note] 39)).heap.size, 0, none⟩) 1 1) 1 [.int .i64 x.day, .string x.meth, .string x.touch, .int .i64 x.rows, .string x.note] := own_of_heap (heap_new _ _) (Nat.zero_le _) (by unfold maxLen; omega) rfl
        have hz : (wr.alloc (.cells #[.int .i64 x.day, .string x.meth, .string x.touch, .int .i64 x.rows, .string x.note] 39)).heap.size = wr.heap.size + 1 := by simp
        rw [hz] at hnew
        have hsl := sl_of_own hnew
        have hnl := nilok_own hnew
        have hsz := hby.size
        have Hby := Lib.hid hby
        clear hbx hnew hO hby hz
        go_wp2_with (at_builtin; go_must (refine wpList_app_sl _ rfl _ _ _ rfl w.heap.size 39 _ 5 64 Tryz.underlying23 info_Rc rfl (by omega) hrow rfl hsl hnl rfl (by simp [Value.oneCell']) (by omega) (by omega) hsz ?_); intro v2 w4 hown3 hb3 hg3 _)
        obtain ⟨A2, c2, e2, _⟩ := sl_of_own hown3
        subst e2
        refine ⟨⟨k + 1, by omega, by go_num, ?_, Hby.out.trans hb3⟩, by simp [intOf]; omega⟩
        rw [Hst.out, List.length_append, List.flatMap_append]
        exact hown3
      · have hd' : (x.day == d) = false := by simp [hd]
        rw [if_neg hd, List.append_nil] at Hst
        have hrow := own_to hO (bw_al (Below.refl _ wr) (.cells #[.int .i64 x.day, .string x.meth, .string x.touch, .int .i64 x.rows, .string x.note] 39))
        have Hrow := Lib.hid hrow
        clear hrow hO
        go_wp2_with fail
        exact ⟨⟨k + 1, by omega, by go_num, by rw [Hst.out]; exact Hrow.out, bw_al hB _⟩, by simp [intOf]; omega⟩
    · have he : rungL (xs.take k) d = rungL xs d := by rw [List.take_of_length_le (by omega)]
      go_wp2_with fail
      go_ret2
      exact ⟨_, ret_vbA Hb.out, by rw [Hx.out, ← he]; exact hO, hB⟩
set_option maxRecDepth 100000 in
set_option maxHeartbeats 2000000 in
theorem specRungOn_any (V : Value) (xs : List Rc) (d : Int) (w : World) (h : Recs w V xs) (hs : AllFit xs) : Calls Tryz.prog 12 #[V, .int .i64 d] w (RungPost w xs d) := by
  have h0 := h
  obtain ⟨A, c, rfl, h1, h2, hrd⟩ := h
  unfold maxLen at h2
  unfold RungPost
  go_enter Tryz.func12, Tryz.ntmps12
  go_wp2_with fail
  refine (l28Book_any _ xs _ h0 hs).mono ?_; rintro e w1 ⟨rfl, hb1⟩
  cases hb : bookB xs
  · have Hx := Lib.hid (rungO_no (d := d) hb)
    have Hb := Lib.hid hb
    clear hb
    go_wp2_with fail
    go_ret2
    exact ⟨_, ret_vbA Hb.out, by rw [Hx.out]; exact World.ownsRow_nil _ _ _ _, hb1⟩
  have hlen := ((bookB_iff xs).1 hb).1
  have Hx := Lib.hid (rungO_yes (d := d) hb)
  have Hb := Lib.hid hb
  clear hb
  go_wp2_with fail
  go_loopw [6, 14] (fun o i wr => ∃ k : Nat, k ≤ xs.length ∧ i = .int .i64 k ∧ wr.ownsRow w.heap.size 39 5 o (rungL (xs.take k) d).length ((rungL (xs.take k) d).flatMap Rc.cells) ∧ Below w.heap.size w wr) (fun _ i _ => xs.length - (intOf i).toNat)
  case atStart => exact ⟨0, by omega, rfl, World.ownsRow_nil _ _ _ _, hb1⟩
  case round =>
    obtain ⟨k, hk, rfl, hO, hB⟩ := hrel
    obtain ⟨Ao, co, e0, _⟩ := sl_of_own hO
    subst e0
    have hll : (rungL (xs.take k) d).length ≤ k := Nat.le_trans (List.length_filter_le _ _) (by simp; omega)
    by_cases hlt : k < xs.length
    · obtain ⟨ad, rfl, hC⟩ := recs_el hrd rfl hlt
      have hc0 := hC wr hB
      have hst := rung_step (d := d) hlt
      obtain ⟨x, ex⟩ : ∃ x, x = xs[k] := ⟨_, rfl⟩
      obtain ⟨R, hR⟩ : ∃ R, R = rungL (xs.take k) d := ⟨_, rfl⟩
      rw [← ex] at hc0 hst
      rw [← hR] at hst hO hll ⊢
      have Hst := Lib.hid hst
      clear hC ex hst hR
      by_cases hd : x.day = d
      · subst hd
        rw [if_pos rfl] at Hst
        have hbx := bw_al hB (.cells #[.int .i64 x.day, .string x.meth, .string x.touch, .int .i64 x.rows, .string x.note] 39)
        have hby := bw_al hbx (.cells #[.int .i64 x.day, .string x.meth, .string x.touch, .int .i64 x.rows, .string x.note] 39)
        have hrow := own_to hO (bw_al (bw_al (Below.refl _ wr) (.cells #[.int .i64 x.day, .string x.meth, .string x.touch, .int .i64 x.rows, .string x.note] 39)) (.cells #[.int .i64 x.day, .string x.meth, .string x.touch, .int .i64 x.rows, .string x.note] 39))
        have hnew : (((wr.alloc (.cells #[.int .i64 x.day, .string x.meth, .string x.touch, .int .i64 x.rows, .string x.note] 39))).alloc (.cells #[.int .i64 x.day, .string x.meth, .string x.touch, .int .i64 x.rows, .string x.note] 39)).ownsRow 0 39 5 (.slice (some ⟨(wr.alloc (.cells #[.int .i64 x.day, .string x.meth, .string x.touch, .int .i64 x.rows, .string x.note] 39)).heap.size, 0, none⟩) 1 1) 1 [.int .i64 x.day, .string x.meth, .string x.touch, .int .i64 x.rows, .string x.note] := own_of_heap (heap_new _ _) (Nat.zero_le _) (by unfold maxLen; omega) rfl
        have hz : (wr.alloc (.cells #[.int .i64 x.day, .string x.meth, .string x.touch, .int .i64 x.rows, .string x.note] 39)).heap.size = wr.heap.size + 1 := by simp
        rw [hz] at hnew
        have hsl := sl_of_own hnew
        have hnl := nilok_own hnew
        have hsz := hby.size
        have Hby := Lib.hid hby
        clear hbx hnew hO hby hz
        go_wp2_with (at_builtin; go_must (refine wpList_app_sl _ rfl _ _ _ rfl w.heap.size 39 _ 5 64 Tryz.underlying23 info_Rc rfl (by omega) hrow rfl hsl hnl rfl (by simp [Value.oneCell']) (by omega) (by omega) hsz ?_); intro v2 w4 hown3 hb3 hg3 _)
        obtain ⟨A2, c2, e2, _⟩ := sl_of_own hown3
        subst e2
        refine ⟨⟨k + 1, by omega, by go_num, ?_, Hby.out.trans hb3⟩, by simp [intOf]; omega⟩
        rw [Hst.out, List.length_append, List.flatMap_append]
        exact hown3
      · have hd' : (x.day == d) = false := by simp [hd]
        rw [if_neg hd, List.append_nil] at Hst
        have hrow := own_to hO (bw_al (Below.refl _ wr) (.cells #[.int .i64 x.day, .string x.meth, .string x.touch, .int .i64 x.rows, .string x.note] 39))
        have Hrow := Lib.hid hrow
        clear hrow hO
        go_wp2_with fail
        exact ⟨⟨k + 1, by omega, by go_num, by rw [Hst.out]; exact Hrow.out, bw_al hB _⟩, by simp [intOf]; omega⟩
    · have he : rungL (xs.take k) d = rungL xs d := by rw [List.take_of_length_le (by omega)]
      go_wp2_with fail
      go_ret2
      exact ⟨_, ret_vbA Hb.out, by rw [Hx.out, ← he]; exact hO, hB⟩
set_option maxRecDepth 10000 in
set_option maxHeartbeats 2000000 in
theorem drawRungOn_any (V : Value) (w : World) (h : BytesAt w w.heap.size V) : Calls Tryz.prog 10 #[V] w fun e w' =>
    ∃ u, ∃ xs : List Rc, ∃ d : Int, e = .returned (.tuple #[u, .int .i64 d]) ∧ w'.ownsRow w.heap.size 39 5 u xs.length (xs.flatMap Rc.cells) ∧ AllSm xs ∧ xs.length ≤ 21 ∧ Below w.heap.size w w' := by
  have H := Lib.hid h
  obtain ⟨A0, n0, c0, zs0, rfl, _⟩ := h
  go_enter Tryz.func10, Tryz.ntmps10
  go_wp2_with fail
  refine box1 (C := fun W => Calls _ _ _ W _) ?_
  intro wb hw k1 hB0
  have C0 := Lib.hid (cur_newZ H.out hw (Nat.le_refl _) k1)
  have hCw : w.heap.size < wb.heap.size := (Array.getElem?_eq_some_iff.1 k1).1
  have Hw := Lib.hid hw
  clear k1 hw
  refine (drawAnyBook_any wb w.heap.size 0 C0.out (by omega)).mono ?_; rintro e w1 ⟨u, xs, rfl, ho1, hs1, hn1, hc1, hg1⟩
  have O1 := Lib.hid (own_base ho1 (show w.heap.size + 1 ≤ _ by omega))
  have S1 := Lib.hid hs1
  have C1 := Lib.hid hc1
  have G1 := Lib.hid (gb_below Hw.out hg1 (Nat.le_refl _))
  clear ho1 hs1 hc1 hg1 C0
  go_wp2_with fail
  refine (among_at _ w.heap.size _ 4 _ [0, 1, 5, 99999] (by simp) C1.out (by omega) rfl (by omega) (by omega)).mono ?_; rintro e w2 ⟨d, rfl, hd, hc2, hg2⟩
  have O2 := own_cur O1.out hg2 (by omega)
  have G2 := gb_below G1.out hg2 (Nat.le_refl _)
  go_wp2_with fail
  go_ret2
  exact ⟨u, xs, d, rfl, own_base O2 (by omega), S1.out, hn1, G2⟩
theorem bookT_size (xs : List Rc) : (bookT xs).size ≤ 3000 := by
  unfold bookT
  split
  · rename_i h
    obtain ⟨h1, h2⟩ := (bookB_iff xs).1 h
    have := booksT_size h2.1 xs.length (Nat.le_refl _)
    omega
  · decide
theorem linO_size (r : Rc) : (linO r).size ≤ 150 := by
  unfold linO
  split
  · rename_i h; exact lineT_size h
  · decide
theorem specRecordLine_agg (r : Rc) (w : World) (hs : RcFit r) : Calls Tryz.prog 22 #[.agg #[.int .i64 r.day, .string r.meth, .string r.touch, .int .i64 r.rows, .string r.note]] w fun e w' => e = .returned (.tuple #[.string (linO r), .bool (recB r)]) ∧ Below w.heap.size w w' := specRecordLine_any r w hs
def sz7b : ByteArray := ⟨#[48, 32, 49, 112, 98, 97, 10]⟩
theorem info_u8z : (Tryz.prog.info? 5).map (fun i => (i.zero, i.size, i.bytes)) = some (some (.int .u8 0), 1, 1) := by kernel_rfl
theorem conv_zero {w : World} {base g n : Nat} (h : w.ownsRow base 5 1 (.slice (some ⟨g, 0, none⟩) n n) n (madeCells (Value.int .u8 0).cells (n * 1)).toList) : ∃ u : ByteArray, u.size = n ∧ (convert 22 9 (.slice (some ⟨g, 0, none⟩) n n)).run Tryz.prog w = .ok (.string u) w := by
  refine ⟨⟨(List.replicate n (0 : UInt8)).toArray⟩, by show (List.replicate n (0 : UInt8)).toArray.size = n; simp, ?_⟩
  have hl : (List.replicate n (0 : UInt8)).length = n := by simp
  have e := run_convert_bytes_back (P := Tryz.prog) w 22 9 5 ⟨g, 0, none⟩ n (List.replicate n (0 : UInt8)) Tryz.underlying22 Tryz.underlying5 Tryz.underlying9 (fun j hj => by
    rw [hl] at hj
    rw [Addr.add_lit, Nat.zero_add, h.cellAt j (by omega)]
    simp [madeCells, Value.cells, hj, Nat.mod_one])
  rw [hl] at e
  exact e
set_option maxRecDepth 10000 in
set_option maxHeartbeats 2000000 in
theorem drawReadBook_any (V : Value) (w : World) (h : BytesAt w w.heap.size V) : Calls Tryz.prog 7 #[V] w fun e w' => ∃ u : ByteArray, e = .returned (.string u) ∧ u.size ≤ 10000 ∧ Below w.heap.size w w' := by
  have H := Lib.hid h
  obtain ⟨A0, n0, c0, zs0, rfl, _⟩ := h
  obtain ⟨i0, hi0, hz0, hs0, hb0⟩ := info_parts info_u8z
  go_enter Tryz.func7, Tryz.ntmps7
  go_wp2_with fail
  refine box1 (C := fun W => Calls _ _ _ W _) ?_
  intro wb hw k1 hB0
  have C0 := Lib.hid (cur_newZ H.out hw (Nat.le_refl _) k1)
  have hCw : w.heap.size < wb.heap.size := (Array.getElem?_eq_some_iff.1 k1).1
  have Hw := Lib.hid hw
  clear k1 hw
  refine (drawBook_any wb w.heap.size 0 C0.out (by omega)).mono ?_; rintro e w1 ⟨u, xs, rfl, ho1, hs1, hn1, hc1, hg1⟩
  have C1 := Lib.hid hc1
  have G1 := Lib.hid (gb_below Hw.out hg1 (Nat.le_refl _))
  have Hbt := Lib.hid (specBookText_any u xs w1 (recs_of_own ho1) hs1.fit)
  have hbs := bookT_size xs
  obtain ⟨s0, hs0'⟩ : ∃ s, s = bookT xs := ⟨_, rfl⟩
  rw [← hs0'] at Hbt hbs
  clear ho1 hs1 hc1 hg1 C0 hs0'
  go_wp2_with fail
  refine Hbt.out.mono ?_; rintro e w2 ⟨rfl, hb2⟩
  have C2 := Lib.hid (C1.out.to hb2)
  have G2 := Lib.hid (bw_to G1.out hb2)
  clear hb2 Hbt C1 G1
  go_wp2_with fail
  refine (one_any _ w.heap.size _ 4 C2.out (by omega) (by omega) (by omega)).mono ?_; rintro e w3 ⟨y, rfl, hc3, hg3⟩
  have C3 := Lib.hid (hc3.more (show _ ≤ 2000 by omega))
  have G3 := Lib.hid (gb_below G2.out hg3 (Nat.le_refl _))
  clear hc3 hg3 C2 G2
  cases y
  · have hs : s0.size ≤ 3200 := by omega
    obtain ⟨s, es⟩ : ∃ s, s = s0 := ⟨_, rfl⟩
    rw [← es] at hs ⊢
    clear es hbs
    have CC := C3
    have GG := G3
    clear C3 G3
    go_wp2_with fail
    refine (one_any _ w.heap.size _ 2 CC.out (by omega) (by omega) (by omega)).mono ?_; rintro e W4 ⟨y, rfl, hc4, hg4⟩
    have C4 := Lib.hid (hc4.more (show _ ≤ 3000 by omega))
    have G4 := Lib.hid (gb_below GG.out hg4 (Nat.le_refl _))
    clear hc4 hg4 CC GG
    cases y
    · go_wp2_with fail
      refine (one_any _ w.heap.size _ 40 C4.out (by omega) (by omega) (by omega)).mono ?_; rintro e W5 ⟨y, rfl, hc5, hg5⟩
      have C5 := Lib.hid (hc5.more (show _ ≤ 4000 by omega))
      have G5 := Lib.hid (gb_below G4.out hg5 (Nat.le_refl _))
      have hs5 : s.size ≤ 3300 := by omega
      clear hc5 hg5 C4 G4
      cases y
      · go_wp2_with fail
        go_ret
        exact ⟨_, rfl, by omega, G5.out⟩
      · go_wp2_with fail
        refine (pick_any _ w.heap.size _ 2 C5.out (by omega) (by omega) (by omega)).mono ?_; rintro e W7 ⟨z, rfl, hz, hc7, hg7⟩
        have G7 := gb_below G5.out hg7 (Nat.le_refl _)
        have hwz : IntKind.i64.wrap (4000 + z) = 4000 + z := IntWalk.i64_in _ (by omega)
        obtain ⟨n, hn⟩ : ∃ n : Nat, (n : Int) = 4000 + z := ⟨(4000 + z).toNat, by omega⟩
        have hn2 : n ≤ 4002 := by omega
        rw [← hn] at hwz
        go_wp2_with (at_make; refine wpList_make_full _ rfl _ _ _ rfl W7.heap.size 5 i0 _ 1 Tryz.underlying22 hi0 hz0 hs0 _ _ _ _ n rfl rfl (by omega) (by omega) (by rw [hb0]; omega) (by unfold maxLen; omega) (Nat.le_refl _) ?_; intro W8 hown8 hgr8; obtain ⟨uz, huz, hcv⟩ := conv_zero hown8)
        go_ret
        exact ⟨_, rfl, by omega, bw_gr G7 hgr8⟩
    · go_wp2_with fail
      refine (spoilt_any _ w.heap.size _ s sz7b C4.out (by omega) (by omega) (by decide) (by decide)).mono ?_; rintro e W6 ⟨u', rfl, hu, hc6, hg6⟩
      have C6 := Lib.hid hc6
      have G6 := Lib.hid (gb_below G4.out hg6 (Nat.le_refl _))
      have hs5 : u'.size ≤ 3300 := by omega
      clear hc6 hg6 C4 G4 hu
      go_wp2_with fail
      refine (one_any _ w.heap.size _ 40 C6.out (by omega) (by omega) (by omega)).mono ?_; rintro e W5 ⟨y, rfl, hc5, hg5⟩
      have C5 := Lib.hid (hc5.more (show _ ≤ 4000 by omega))
      have G5 := Lib.hid (gb_below G6.out hg5 (Nat.le_refl _))
      clear hc5 hg5 C6 G6
      cases y
      · go_wp2_with fail
        go_ret
        exact ⟨_, rfl, by omega, G5.out⟩
      · go_wp2_with fail
        refine (pick_any _ w.heap.size _ 2 C5.out (by omega) (by omega) (by omega)).mono ?_; rintro e W7 ⟨z, rfl, hz, hc7, hg7⟩
        have G7 := gb_below G5.out hg7 (Nat.le_refl _)
        have hwz : IntKind.i64.wrap (4000 + z) = 4000 + z := IntWalk.i64_in _ (by omega)
        obtain ⟨n, hn⟩ : ∃ n : Nat, (n : Int) = 4000 + z := ⟨(4000 + z).toNat, by omega⟩
        have hn2 : n ≤ 4002 := by omega
        rw [← hn] at hwz
        go_wp2_with (at_make; refine wpList_make_full _ rfl _ _ _ rfl W7.heap.size 5 i0 _ 1 Tryz.underlying22 hi0 hz0 hs0 _ _ _ _ n rfl rfl (by omega) (by omega) (by rw [hb0]; omega) (by unfold maxLen; omega) (Nat.le_refl _) ?_; intro W8 hown8 hgr8; obtain ⟨uz, huz, hcv⟩ := conv_zero hown8)
        go_ret
        exact ⟨_, rfl, by omega, bw_gr G7 hgr8⟩
  · go_wp2_with fail
    refine (drawRecord_any w3 w.heap.size _ C3.out (by omega)).mono ?_; rintro e w4 ⟨r, rfl, hr, hc4, hg4⟩
    have C4' := Lib.hid hc4
    have G4' := Lib.hid (gb_below G3.out hg4 (Nat.le_refl _))
    have Hrl := Lib.hid (fun W => specRecordLine_agg r W hr.fit)
    have hls := linO_size r
    obtain ⟨l, hl⟩ : ∃ l, l = linO r := ⟨_, rfl⟩
    rw [← hl] at Hrl hls
    clear hl hc4 hg4 C3 G3 hr
    unfold Rc.v
    go_wp2_with fail
    refine (Hrl.out _).mono ?_; rintro e w5 ⟨rfl, hb5⟩
    have CC := Lib.hid ((C4'.out.to hb5).more (show _ ≤ 2200 by omega))
    have GG := Lib.hid (bw_to G4'.out hb5)
    have hbig : ¬ 9223372036854775807 < s0.size + l.size := by omega
    have hsz : (s0 ++ l).size ≤ 3200 := by rw [ByteArray.size_append]; omega
    clear hb5 C4' G4' Hrl
    go_wp2_with fail
    obtain ⟨s, es⟩ : ∃ s, s = s0 ++ l := ⟨_, rfl⟩
    rw [← es] at hsz ⊢
    have hs : s.size ≤ 3200 := hsz
    clear es hbig hsz hls hbs
    refine (one_any _ w.heap.size _ 2 CC.out (by omega) (by omega) (by omega)).mono ?_; rintro e W4 ⟨y, rfl, hc4, hg4⟩
    have C4 := Lib.hid (hc4.more (show _ ≤ 3000 by omega))
    have G4 := Lib.hid (gb_below GG.out hg4 (Nat.le_refl _))
    clear hc4 hg4 CC GG
    cases y
    · go_wp2_with fail
      refine (one_any _ w.heap.size _ 40 C4.out (by omega) (by omega) (by omega)).mono ?_; rintro e W5 ⟨y, rfl, hc5, hg5⟩
      have C5 := Lib.hid (hc5.more (show _ ≤ 4000 by omega))
      have G5 := Lib.hid (gb_below G4.out hg5 (Nat.le_refl _))
      have hs5 : s.size ≤ 3300 := by omega
      clear hc5 hg5 C4 G4
      cases y
      · go_wp2_with fail
        go_ret
        exact ⟨_, rfl, by omega, G5.out⟩
      · go_wp2_with fail
        refine (pick_any _ w.heap.size _ 2 C5.out (by omega) (by omega) (by omega)).mono ?_; rintro e W7 ⟨z, rfl, hz, hc7, hg7⟩
        have G7 := gb_below G5.out hg7 (Nat.le_refl _)
        have hwz : IntKind.i64.wrap (4000 + z) = 4000 + z := IntWalk.i64_in _ (by omega)
        obtain ⟨n, hn⟩ : ∃ n : Nat, (n : Int) = 4000 + z := ⟨(4000 + z).toNat, by omega⟩
        have hn2 : n ≤ 4002 := by omega
        rw [← hn] at hwz
        go_wp2_with (at_make; refine wpList_make_full _ rfl _ _ _ rfl W7.heap.size 5 i0 _ 1 Tryz.underlying22 hi0 hz0 hs0 _ _ _ _ n rfl rfl (by omega) (by omega) (by rw [hb0]; omega) (by unfold maxLen; omega) (Nat.le_refl _) ?_; intro W8 hown8 hgr8; obtain ⟨uz, huz, hcv⟩ := conv_zero hown8)
        go_ret
        exact ⟨_, rfl, by omega, bw_gr G7 hgr8⟩
    · go_wp2_with fail
      refine (spoilt_any _ w.heap.size _ s sz7b C4.out (by omega) (by omega) (by decide) (by decide)).mono ?_; rintro e W6 ⟨u', rfl, hu, hc6, hg6⟩
      have C6 := Lib.hid hc6
      have G6 := Lib.hid (gb_below G4.out hg6 (Nat.le_refl _))
      have hs5 : u'.size ≤ 3300 := by omega
      clear hc6 hg6 C4 G4 hu
      go_wp2_with fail
      refine (one_any _ w.heap.size _ 40 C6.out (by omega) (by omega) (by omega)).mono ?_; rintro e W5 ⟨y, rfl, hc5, hg5⟩
      have C5 := Lib.hid (hc5.more (show _ ≤ 4000 by omega))
      have G5 := Lib.hid (gb_below G6.out hg5 (Nat.le_refl _))
      clear hc5 hg5 C6 G6
      cases y
      · go_wp2_with fail
        go_ret
        exact ⟨_, rfl, by omega, G5.out⟩
      · go_wp2_with fail
        refine (pick_any _ w.heap.size _ 2 C5.out (by omega) (by omega) (by omega)).mono ?_; rintro e W7 ⟨z, rfl, hz, hc7, hg7⟩
        have G7 := gb_below G5.out hg7 (Nat.le_refl _)
        have hwz : IntKind.i64.wrap (4000 + z) = 4000 + z := IntWalk.i64_in _ (by omega)
        obtain ⟨n, hn⟩ : ∃ n : Nat, (n : Int) = 4000 + z := ⟨(4000 + z).toNat, by omega⟩
        have hn2 : n ≤ 4002 := by omega
        rw [← hn] at hwz
        go_wp2_with (at_make; refine wpList_make_full _ rfl _ _ _ rfl W7.heap.size 5 i0 _ 1 Tryz.underlying22 hi0 hz0 hs0 _ _ _ _ n rfl rfl (by omega) (by omega) (by rw [hb0]; omega) (by unfold maxLen; omega) (Nat.le_refl _) ?_; intro W8 hown8 hgr8; obtain ⟨uz, huz, hcv⟩ := conv_zero hown8)
        go_ret
        exact ⟨_, rfl, by omega, bw_gr G7 hgr8⟩
end Go.Proofs.YtpkpahadjdkafaaGreatDoor
