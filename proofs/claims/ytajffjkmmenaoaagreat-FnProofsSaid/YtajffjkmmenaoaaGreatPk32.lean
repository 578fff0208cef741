/- A method with calls and a touch drawn. (Printed by a program: tools/mkXK.py.) -/
import Derived.Test.YtajffjkmmenaoaaGreatPk31
import Derived.Shelf.Small.Bits
import Derived.Shelf.Small.Strs
import Derived.Shelf.Strconv.Itoa0
import Derived.Shelf.Slices.Turned
import Derived.Shelf.SlSortCmp.WholeK
import Derived.Shelf.SlSortCmp.NoneTotal
import Derived.Ground.SlsfProg
import Derived.Test.YtajffjkmmenaoaaGreatProg
import Derived.Test.YtajffjkmmenaoaaGreatPk3
import Derived.Test.YtajffjkmmenaoaaGreatPk17
namespace Go.Proofs.YtajffjkmmenaoaaGreat
open Go Go.RowKit
set_option linter.unusedVariables false
set_option linter.unusedSimpArgs false

/-- What a draw of a method with its calls and a touch leaves. -/
def DrewT (w : World) (C lim : Nat) (e : Ending) (w' : World) : Prop := ∃ (m : Mt) (v : Value) (k : Cl) (t : ByteArray), e = .returned (.tuple #[m.v v, k.v, .string t]) ∧ m.name.size ≤ 20 ∧ m.l.length ≤ 60 ∧ (∀ s ∈ m.l, s.size ≤ 20) ∧ StageM m ∧ (k.bob.size ≤ 20 ∧ k.single.size ≤ 20) ∧ t.size ≤ 60 ∧ w'.ownsRow w.heap.size 9 1 v m.l.length (m.l.map Value.string) ∧ Cur w' C lim ∧ w.grownBy w' (some C)
theorem HB.more {w : World} {C R K G D : Nat} {nm : ByteArray} {n : Int} {v : Value} {ss : List ByteArray} {b s : ByteArray} {lim lim' : Nat} {W : World} (h : HB w C R K G D nm n v ss b s lim W) (hl : lim ≤ lim') : HB w C R K G D nm n v ss b s lim' W := { h with hc := h.hc.more hl }
set_option maxRecDepth 100000 in
set_option maxHeartbeats 8000000 in
theorem touched_any (w : World) (C lim : Nat) (h : Cur w C lim) (hl : lim ≤ 8000000) : Calls Tryz.prog 18 #[.pointer (some ⟨C, 0, none⟩)] w (DrewT w C (lim + 250)) := by
  have H := Lib.hid h
  have hCl := h.lt
  clear h
  go_enter Tryz.func18, Tryz.ntmps18
  go_wp2_with fail
  refine box2 (C := fun W => Calls _ _ _ W _) ?_
  intro wb hw k0 k1 hB0
  have hbz : w.heap.size + 1 < wb.heap.size := (Array.getElem?_eq_some_iff.1 k1).1
  refine (hunted_any wb C lim (H.out.to hw) (by omega)).mono ?_; rintro e w1 ⟨m, v, k, rfl, hz, hl60, hsm, hst, ⟨hkb, hks⟩, ho, hc1, hg1⟩
  have H1 := Lib.hid (show FK w C w.heap.size (w.heap.size + 1) v m.l (lim + 220) w1 from
    ⟨hc1, gb_tr (gb_to (gb_refl w C) hw) hg1, ⟨_, own_ltC (own_of_heap (base := w.heap.size) (n := 1) (size := 3) k0 (Nat.le_refl _) (by unfold maxLen; omega) rfl) hg1 hCl⟩,
      ⟨_, own_ltC (own_of_heap (base := w.heap.size) (n := 1) (size := 2) k1 (Nat.le_succ _) (by unfold maxLen; omega) rfl) hg1 hCl⟩, own_base (base' := w.heap.size) ho (by omega), hCl⟩)
  have hz1 : w.heap.size + 1 < w1.heap.size := Nat.lt_of_lt_of_le hbz hg1.size
  have Hs := Lib.hid hsm
  have Hst := Lib.hid hst
  clear hc1 hg1 k0 k1 hw hB0 ho hsm hst H
  obtain ⟨nm, n, ss⟩ := m
  obtain ⟨kb, ks⟩ := k
  obtain ⟨A1, q1, ev, _⟩ := sl_of_own H1.out.row
  subst ev
  simp only at hz hl60 hkb hks
  have HP := Lib.hid (show nm.size ≤ 20 ∧ ss.length ≤ 60 ∧ kb.size ≤ 20 ∧ ks.size ≤ 20 from ⟨hz, hl60, hkb, hks⟩)
  unfold Mt.v Cl.v
  simp only
  obtain ⟨R, hR⟩ : ∃ R, R = w.heap.size := ⟨_, rfl⟩
  obtain ⟨K, hK⟩ : ∃ K, K = w.heap.size + 1 := ⟨_, rfl⟩
  have hRz : R < w1.heap.size := by omega
  have hKz : K < w1.heap.size := by omega
  rw [← hK, ← hR] at H1
  rw [← hK, ← hR]
  clear hR hK hz hl60 hkb hks
  go_upto_region 2 with fail
  refine box2 (C := fun W => Code.wp _ _ _ _ W) ?_
  intro w3 hw3 k3 k4 hB3
  have N3 := Lib.hid (show HB w C R K w1.heap.size (w1.heap.size + 1) nm n (.slice A1 ss.length q1) ss kb ks (lim + 220) w3 from ⟨⟨H1.out.to hw3, own_of_heap (n := 1) (size := 3) k3 (by omega) (by unfold maxLen; omega) rfl, by omega⟩, own_of_heap (n := 1) (size := 2) k4 (by omega) (by unfold maxLen; omega) rfl, by omega⟩)
  obtain ⟨G, hG⟩ : ∃ G, G = w1.heap.size := ⟨_, rfl⟩
  obtain ⟨D, hD⟩ : ∃ D, D = w1.heap.size + 1 := ⟨_, rfl⟩
  rw [← hD, ← hG] at N3
  rw [← hD, ← hG]
  clear k3 k4 hw3 hB3 hG hD H1
  have N3d := Lib.hid N3.out.drew
  have y3 : HB w C R K G D nm n (.slice A1 ss.length q1) ss kb ks (lim + 250) w3.drew := N3d.out.more (by omega)
  have hRK : R ≠ K := N3.out.hc.st.ne.1
  have hKR : K ≠ R := fun e => hRK e.symm
  obtain ⟨_, _, _, _, _, _, r0, r1, r2, p0, p1, f0, f1, f2, g0, g1⟩ := N3.out.all
  go_region_held3 (fun W => HB w C R K G D nm n (.slice A1 ss.length q1) ss kb ks (lim + 250) W ∧ W.cell? ⟨G, 0, none⟩ = some (.string nm) ∧ W.cell? ⟨G, 1, none⟩ = some (.int .i64 n) ∧ W.cell? ⟨G, 2, none⟩ = some (.slice A1 ss.length q1) ∧ W.cell? ⟨D, 0, none⟩ = some (.string kb) ∧ W.cell? ⟨D, 1, none⟩ = some (.string ks) ∧ W.cell? ⟨R, 0, none⟩ = some (oldC R 0 W) ∧ W.cell? ⟨R, 1, none⟩ = some (oldC R 1 W) ∧ W.cell? ⟨R, 2, none⟩ = some (oldC R 2 W) ∧ W.cell? ⟨K, 0, none⟩ = some (oldC K 0 W) ∧ W.cell? ⟨K, 1, none⟩ = some (oldC K 1 W) ∧ W.frozen? ⟨R, 0, none⟩ = false ∧ W.frozen? ⟨R, 1, none⟩ = false ∧ W.frozen? ⟨R, 2, none⟩ = false ∧ W.frozen? ⟨K, 0, none⟩ = false ∧ W.frozen? ⟨K, 1, none⟩ = false) (first | with_reducible assumption | with_reducible exact HB.all (by assumption) | with_reducible exact HB.allR (by assumption) | with_reducible exact HB.allK (by assumption) | with_reducible exact HB.allRd (by assumption) | with_reducible exact HB.allKd (by assumption)) (first | (go_at_call 48; refine (touchOf_any nm n ss kb ks (.slice A1 ss.length q1) _ w.heap.size C _ N3d.out.hc.st.cur (by omega) N3d.out.hc.st.row HP.out.1 HP.out.2.1 Hs.out ⟨HP.out.2.2.1, HP.out.2.2.2⟩).mono ?_; rintro e w4 ⟨t, rfl, hts, hc4, hg4⟩; (have N4 := Lib.hid (N3d.out.draw hc4 hg4)); (have y4 : HB w C R K G D nm n (.slice A1 ss.length q1) ss kb ks (lim + 250) w4 := N4.out); clear hc4 hg4))
  go_wp2_with fail
  obtain ⟨W', eW, F', ⟨e0, e1, e2⟩, d0, d1⟩ := N4.out.hc.st.fin (.string nm) (.int .i64 n) (.slice A1 ss.length q1) (.string kb) (.string ks)
  rw [← eW]
  refine bodyPost_ret (v := .tuple #[.agg #[.string nm, .int .i64 n, .slice A1 ss.length q1], .agg #[.string kb, .string ks], .string t]) (by simp [results, go_sem, e0, e1, e2, d0, d1]) rfl ?_
  exact ⟨⟨nm, n, ss⟩, .slice A1 ss.length q1, ⟨kb, ks⟩, t, rfl, HP.out.1, HP.out.2.1, Hs.out, Hst.out, ⟨HP.out.2.2.1, HP.out.2.2.2⟩, hts, F'.row, F'.cur, F'.gb⟩
end Go.Proofs.YtajffjkmmenaoaaGreat

/- The drawers of a method with calls and a touch. -/
namespace Go.Proofs.YtajffjkmmenaoaaGreat
open Go Go.RowKit
set_option linter.unusedVariables false
set_option linter.unusedSimpArgs false

def PostT (w : World) (e : Ending) (w' : World) : Prop := ∃ m v k t, e = .returned (.tuple #[m.v v, k.v, .string t]) ∧ PMK w w' m v k ∧ t.size ≤ 60
set_option maxRecDepth 100000 in
set_option maxHeartbeats 4000000 in
theorem drawMakeProof_any (V : Value) (w : World) (h : BytesAt w w.heap.size V) : Calls Tryz.prog 5 #[V] w (PostT w) := by
  have H := Lib.hid h
  obtain ⟨A0, n0, c0, zs0, rfl, _⟩ := h
  go_enter Tryz.func5, Tryz.ntmps5
  go_wp2_with fail
  refine box3 (C := fun W => Calls _ _ _ W _) ?_
  intro wb hw k0 k1 k2 hB0
  have C0 := Lib.hid (cur_box H.out hw (by omega) k2)
  have Hw := Lib.hid hw
  have K0 := Lib.hid (own_of_heap (base := w.heap.size) (n := 1) (size := 3) k0 (Nat.le_refl _) (by unfold maxLen; omega) rfl)
  have K1 := Lib.hid (own_of_heap (base := w.heap.size) (n := 1) (size := 2) k1 (by omega) (by unfold maxLen; omega) rfl)
  clear k0 k1 k2 hw
  refine (touched_any wb (w.heap.size + 2) 0 C0.out (by omega)).mono ?_; rintro e w1 ⟨m, v, k, t, rfl, hz, hl, hs, hst, ⟨hkb, hks⟩, ht, ho, hc, hg⟩
  have B1 := Lib.hid (gb_below Hw.out hg (by omega))
  have R0 := Lib.hid (own_noC K0.out C0.out (by decide) hg)
  have R1 := Lib.hid (own_noC K1.out C0.out (by decide) hg)
  have O1 := Lib.hid (own_base (base' := w.heap.size) ho Hw.out.size)
  have HP := Lib.hid (show PMK w w1 m v k from ⟨hz, hl, hs, hst, hkb, hks, O1.out, B1.out⟩)
  obtain ⟨A1, q1, ev, _⟩ := sl_of_own ho
  subst ev
  obtain ⟨nm, n, ss⟩ := m
  obtain ⟨kb, ks⟩ := k
  have r0 := (R0.out.cellAt 0 (by omega)).trans rfl
  have r1 := (R0.out.cellAt 1 (by omega)).trans rfl
  have r2 := (R0.out.cellAt 2 (by omega)).trans rfl
  have p0 := (R1.out.cellAt 0 (by omega)).trans rfl
  have p1 := (R1.out.cellAt 1 (by omega)).trans rfl
  have f0 := R0.out.frozenAt 0
  have f1 := R0.out.frozenAt 1
  have f2 := R0.out.frozenAt 2
  have g0 := R1.out.frozenAt 0
  have g1 := R1.out.frozenAt 1
  clear hz hl hs hst hkb hks ho hc hg K0 K1 C0 hB0
  unfold Mt.v Cl.v
  simp only
  go_wp2_with fail
  obtain ⟨W', eW, hb', ⟨e0, e1, e2⟩, ⟨d0, d1⟩, hro, hbo⟩ := five_fin (Below.refl w.heap.size w) B1.out R0.out R1.out (.string nm) (.int .i64 n) (.slice A1 ss.length q1) (.string kb) (.string ks)
  rw [← eW]
  refine bodyPost_ret (v := .tuple #[.agg #[.string nm, .int .i64 n, .slice A1 ss.length q1], .agg #[.string kb, .string ks], .string t]) (by simp [results, go_sem, e0, e1, e2, d0, d1]) rfl ?_
  exact ⟨⟨nm, n, ss⟩, .slice A1 ss.length q1, ⟨kb, ks⟩, t, rfl, { HP.out with row := hro _ _ _ _ _ _ HP.out.row (by decide) (by decide), bw := hb' }, ht⟩
end Go.Proofs.YtajffjkmmenaoaaGreat

/- The contract of slices.SortFunc at lines, laid at this program (the kit's shelf, its plain mode). -/
namespace Go.Proofs
open Go.Shelf
def Tryz.sortL_ren : Go.Shelf.Ren := ⟨fun | 6 => 22 | 15 => 54 | 14 => 53 | 28 => 95 | 29 => 96 | 20 => 87 | 21 => 88 | 22 => 89 | 23 => 90 | 24 => 91 | 25 => 92 | 26 => 93 | 27 => 94 | 46 => 125 | 47 => 126 | 48 => 127 | 49 => 128 | 50 => 129 | 57 => 144 | n => n, fun | 22 => 31 | 24 => 58 | 25 => 61 | 3 => 3 | 39 => 88 | 0 => 0 | 53 => 121 | 55 => 50 | 4 => 4 | 46 => 115 | 45 => 114 | 50 => 43 | 5 => 5 | 9 => 9 | 66 => 134 | 70 => 138 | 76 => 147 | 77 => 148 | n => n, fun | n => n⟩
theorem Tryz.sortL : Go.Proofs.SlLaysF0.n6 Tryz.prog Tryz.sortL_ren := {
  mixed := by kernel_rfl
  f6 := ⟨Tryz.f22.name, by decide, Tryz.func22.trans (congrArg some (by kernel_rfl))⟩
  f14 := ⟨Tryz.f53.name, by decide, Tryz.func53.trans (congrArg some (by kernel_rfl))⟩
  f15 := Tryz.func54.trans (congrArg some (by kernel_rfl))
  f20 := ⟨Tryz.f87.name, by decide, Tryz.func87.trans (congrArg some (by kernel_rfl))⟩
  f21 := ⟨Tryz.f88.name, by decide, Tryz.func88.trans (congrArg some (by kernel_rfl))⟩
  f22 := ⟨Tryz.f89.name, by decide, Tryz.func89.trans (congrArg some (by kernel_rfl))⟩
  f23 := ⟨Tryz.f90.name, by decide, Tryz.func90.trans (congrArg some (by kernel_rfl))⟩
  f24 := ⟨Tryz.f91.name, by decide, Tryz.func91.trans (congrArg some (by kernel_rfl))⟩
  f25 := ⟨Tryz.f92.name, by decide, Tryz.func92.trans (congrArg some (by kernel_rfl))⟩
  f26 := ⟨Tryz.f93.name, by decide, Tryz.func93.trans (congrArg some (by kernel_rfl))⟩
  f27 := ⟨Tryz.f94.name, by decide, Tryz.func94.trans (congrArg some (by kernel_rfl))⟩
  f28 := Tryz.func95.trans (congrArg some (by kernel_rfl))
  f29 := Tryz.func96.trans (congrArg some (by kernel_rfl))
  f46 := ⟨Tryz.f125.name, by decide, Tryz.func125.trans (congrArg some (by kernel_rfl))⟩
  f47 := Tryz.func126.trans (congrArg some (by kernel_rfl))
  f48 := Tryz.func127.trans (congrArg some (by kernel_rfl))
  f49 := ⟨Tryz.f128.name, by decide, Tryz.func128.trans (congrArg some (by kernel_rfl))⟩
  f50 := ⟨Tryz.f129.name, by decide, Tryz.func129.trans (congrArg some (by kernel_rfl))⟩
  f57 := ⟨Tryz.f144.name, by decide, Tryz.func144.trans (congrArg some (by kernel_rfl))⟩
  t0 := Tryz.underlying0
  a0 := Tryz.isAgg0
  z0 := Tryz.sizeOf0
  v0 := Tryz.zeroValue0
  t3 := Tryz.underlying3
  a3 := Tryz.isAgg3
  z3 := Tryz.sizeOf3
  v3 := Tryz.zeroValue3
  t4 := Tryz.underlying4
  a4 := Tryz.isAgg4
  z4 := Tryz.sizeOf4
  v4 := Tryz.zeroValue4
  t5 := Tryz.underlying5
  a5 := Tryz.isAgg5
  z5 := Tryz.sizeOf5
  v5 := Tryz.zeroValue5
  t9 := Tryz.underlying9
  a9 := Tryz.isAgg9
  z9 := Tryz.sizeOf9
  v9 := Tryz.zeroValue9
  t22 := Tryz.underlying31
  a22 := Tryz.isAgg31
  z22 := Tryz.sizeOf31
  v22 := Tryz.zeroValue31
  t25 := Tryz.underlying61
  a25 := Tryz.isAgg61
  z25 := Tryz.sizeOf61
  v25 := Tryz.zeroValue61
  t39 := Tryz.underlying88
  a39 := Tryz.isAgg88
  z39 := Tryz.sizeOf88
  v39 := Tryz.zeroValue88
  t45 := Tryz.underlying114
  a45 := Tryz.isAgg114
  z45 := Tryz.sizeOf114
  v45 := Tryz.zeroValue114
  t46 := Tryz.underlying115
  a46 := Tryz.isAgg115
  z46 := Tryz.sizeOf115
  v46 := Tryz.zeroValue115
  t50 := Tryz.underlying43
  a50 := Tryz.isAgg43
  z50 := Tryz.sizeOf43
  v50 := Tryz.zeroValue43
  t53 := Tryz.underlying121
  a53 := Tryz.isAgg121
  z53 := Tryz.sizeOf121
  v53 := Tryz.zeroValue121
  t55 := Tryz.underlying50
  a55 := Tryz.isAgg50
  z55 := Tryz.sizeOf50
  v55 := Tryz.zeroValue50
  t66 := Tryz.underlying134
  a66 := Tryz.isAgg134
  z66 := Tryz.sizeOf134
  v66 := Tryz.zeroValue134
  t70 := Tryz.underlying138
  a70 := Tryz.isAgg138
  z70 := Tryz.sizeOf138
  v70 := Tryz.zeroValue138
  t76 := Tryz.underlying147
  a76 := Tryz.isAgg147
  z76 := Tryz.sizeOf147
  v76 := Tryz.zeroValue147
  t77 := Tryz.underlying148
  a77 := Tryz.isAgg148
  z77 := Tryz.sizeOf148
  v77 := Tryz.zeroValue148 }
end Go.Proofs

/- The lines of a proof, sorted by their rows: slices.SortFunc at structs. -/
namespace Go.Proofs.YtajffjkmmenaoaaGreat
open Go Go.RowKit Go.Sort Go.Lib
set_option linter.unusedVariables false
set_option linter.unusedSimpArgs false

/-- Where a row stands first. -/
def idxB (r : ByteArray) : List ByteArray → Nat
  | [] => 0
  | x :: l => if x = r then 0 else idxB r l + 1
theorem idxB_get : ∀ {l : List ByteArray}, l.Nodup → ∀ k (hk : k < l.length), idxB l[k] l = k
  | x :: l, h, 0, _ => by simp [idxB]
  | x :: l, h, k + 1, hk => by
    rw [List.nodup_cons] at h
    have hk' : k < l.length := by simpa using hk
    have hne : x ≠ l[k] := fun e => h.1 (by rw [e]; exact List.getElem_mem hk')
    rw [idxB]
    show (if x = l[k] then 0 else idxB l[k] l + 1) = k + 1
    rw [if_neg hne, idxB_get h.2 k hk']
/-- The cells of a row's line: the row, the lead, the place in the lead. -/
def encL (N : Nat) (rows : List ByteArray) (r : ByteArray) : List Value := [.string r, .int .i64 ((idxB r rows / N : Nat) : Int), .int .i64 ((idxB r rows % N : Nat) : Int)]
theorem encL_len (N : Nat) (rows : List ByteArray) (r : ByteArray) : (encL N rows r).length = 3 := rfl
theorem encL_one (N : Nat) (rows : List ByteArray) (r : ByteArray) : ∀ v ∈ encL N rows r, v.oneCell' = true := by
  intro v hv
  unfold encL at hv
  simp only [List.mem_cons, List.not_mem_nil, or_false] at hv
  rcases hv with rfl | rfl | rfl <;> rfl
def encU (N : Nat) (rows : List ByteArray) (l : List UInt8) : List Value := encL N rows (ofL l)
theorem cmp_neg : ∀ (x y : List UInt8), compareBytes x y < 0 ↔ x < y
  | [], [] => by simp [compareBytes]
  | [], _ :: _ => by simp [compareBytes]
  | _ :: _, [] => by simp [compareBytes]
  | a :: x, b :: y => by
    unfold compareBytes
    rw [List.cons_lt_cons_iff]
    by_cases h1 : a < b
    · rw [if_pos h1]; simp [h1]
    · rw [if_neg h1]
      by_cases h2 : b < a
      · rw [if_pos h2]
        have hne : a ≠ b := fun e => by rw [e] at h2; exact absurd h2 (UInt8.lt_irrefl b)
        simp [h1, hne]
      · rw [if_neg h2]
        have he : a = b := by
          have := UInt8.le_antisymm (UInt8.not_lt.1 h2) (UInt8.not_lt.1 h1)
          exact this
        rw [cmp_neg x y]
        simp [h1, he]
theorem lt_cmp (x y : List UInt8) : ltOf compareBytes x y = decide (x < y) := by
  unfold ltOf
  rw [Bool.eq_iff_iff, decide_eq_true_eq, decide_eq_true_eq]
  exact cmp_neg x y
theorem swo_cmp : SWO (ltOf compareBytes) where
  irrefl x := by rw [lt_cmp]; exact decide_eq_false (List.lt_irrefl x)
  trans x y z h1 h2 := by
    rw [lt_cmp] at *
    rw [decide_eq_true_eq] at *
    exact List.lt_trans h1 h2
  ntrans x y z h1 h2 := by
    rw [lt_cmp] at *
    rw [decide_eq_false_iff_not] at *
    rw [List.not_lt] at *
    exact List.le_trans h2 h1
theorem tot_cmp (x y : List UInt8) (h1 : ltOf compareBytes x y = false) (h2 : ltOf compareBytes y x = false) : x = y := by
  rw [lt_cmp, decide_eq_false_iff_not, List.not_lt] at h1 h2
  exact List.le_antisymm h2 h1
theorem le_cmp : (fun x y : List UInt8 => !ltOf compareBytes y x) = fun x y => decide (x ≤ y) := by
  funext x y
  rw [lt_cmp]
  by_cases h : y < x
  · rw [decide_eq_true h, decide_eq_false (List.not_le.2 h)]; rfl
  · rw [decide_eq_false h, decide_eq_true (List.not_lt.1 h)]; rfl
theorem heap_sortedK {w : World} {g n : Nat} {os : Array Obj} {cur : Array Value} {e : TypeId} {fr : Nat × Nat} (F : Array Value) (hb : w.heap[g]? = some (.cells cur e fr)) :
    (grow (putRow id (Sort.ahead w n) g 0 F) os).heap[g]? = some (.cells (putCells id 0 F cur) e fr) := by
  have hg : g < w.heap.size := (Array.getElem?_eq_some_iff.1 hb).1
  rw [heap_grow_old _ _ (by simpa using hg)]
  simp [putRow, mapBlock, Sort.ahead, Array.getElem?_modify, hb, onCells]
theorem grownBy_sortedK {w : World} {g n : Nat} {os : Array Obj} (F : Array Value) : w.grownBy (grow (putRow id (Sort.ahead w n) g 0 F) os) (some g) := by
  refine ⟨rfl, rfl, rfl, by simp, fun k hk hne => ?_⟩
  rw [heap_grow_old _ _ (by simpa using hk)]
  have : g ≠ k := fun e => hne (by rw [e])
  simp [putRow, mapBlock, Sort.ahead, Array.getElem?_modify, this]
theorem take_putCellsK (cur F : Array Value) (h : F.size ≤ cur.size) : (putCells id 0 F cur).toList.take F.size = F.toList := by
  apply List.ext_getElem?
  intro j
  by_cases hj : j < F.size
  · rw [List.getElem?_take_of_lt hj, Array.getElem?_toList]
    simp [putCells, hj, show j < cur.size by omega]
  · rw [List.getElem?_take_eq_none (by omega), List.getElem?_eq_none (by simp; omega)]
theorem flat_list {N : Nat} {rows l : List ByteArray} : (flatK (encU N rows) 3 (l.map (·.data.toList)).toArray).toList = l.flatMap (encL N rows) := by
  apply List.ext_getElem?
  intro t
  have hs : (flatK (encU N rows) 3 (l.map (·.data.toList)).toArray).toList.length = l.length * 3 := by simp
  have hs2 : (l.flatMap (encL N rows)).length = l.length * 3 := flat_length (C := encL N rows) (sz := 3) (fun x _ => encL_len N rows x)
  by_cases ht : t < l.length * 3
  · have hi : t / 3 < l.length := by omega
    have h1 := get_flatK (encU N rows) 3 (l.map (·.data.toList)).toArray t (by simpa using ht)
    have h2 := flat_get (C := encL N rows) (sz := 3) (fun x _ => encL_len N rows x) (List.getElem?_eq_getElem hi) (Nat.mod_lt t (by omega : 0 < 3))
    have e : t / 3 * 3 + t % 3 = t := by omega
    rw [e] at h2
    rw [h2, List.getElem?_eq_getElem (by rw [hs]; exact ht)]
    have h3 : t % 3 < (encL N rows l[t / 3]).length := by rw [encL_len]; omega
    rw [List.getElem?_eq_getElem h3]
    congr 1
    have h4 : (l.map (·.data.toList)).toArray[t / 3]! = l[t / 3].data.toList := by simp [hi]
    rw [h4] at h1
    have h5 : encU N rows l[t / 3].data.toList = encL N rows l[t / 3] := by unfold encU; rw [ofL_eq]
    rw [h5] at h1
    have h6 : (encL N rows l[t / 3])[t % 3]! = (encL N rows l[t / 3])[t % 3] := by rw [getElem!_pos]
    rw [h6] at h1
    rw [← h1]
    have h7 : t < (flatK (encU N rows) 3 (l.map (·.data.toList)).toArray).size := by simpa using ht
    rw [getElem!_pos _ t h7]
    rfl
  · rw [List.getElem?_eq_none (by rw [hs]; omega), List.getElem?_eq_none (by rw [hs2]; omega)]
set_option maxHeartbeats 1000000 in
theorem lineCmp_any (x y : ByteArray) (a b c d : Int) (W : World) : Calls Tryz.prog 23 #[.agg #[.string x, .int .i64 a, .int .i64 b], .agg #[.string y, .int .i64 c, .int .i64 d]] W fun e w' => e = .returned (.int .i64 (compareBytes x.data.toList y.data.toList)) ∧ ∃ q os', w' = grow (W.drewN q) os' := by
  have hcon := fun W' => Tryz.strings_Compare x y W'
  generalize compareBytes x.data.toList y.data.toList = r at hcon ⊢
  go_enter Tryz.func23, Tryz.ntmps23
  go_wp2_with (go_at_call 24; refine (hcon _).mono ?_; rintro e w' ⟨rfl, rfl⟩)
  go_ret
  exact ⟨rfl, 0, _, by rw [alloc_eq_grow, alloc_eq_grow, grow_grow]; rfl⟩
theorem cmpLays_line (N : Nat) (rows : List ByteArray) (blk off size : Nat) (w : World) : CmpLays Tryz.prog 23 #[] (encU N rows) 3 compareBytes blk off size w :=
  fun _ _ _ _ x y => by
    have h := lineCmp_any (ofL x) (ofL y) ((idxB (ofL x) rows / N : Nat) : Int) ((idxB (ofL x) rows % N : Nat) : Int) ((idxB (ofL y) rows / N : Nat) : Int) ((idxB (ofL y) rows % N : Nat) : Int)
    simp only [ofL_list] at h
    exact h _
set_option maxHeartbeats 2000000 in
theorem sortLn_any (N g n c base : Nat) (rows : List ByteArray) (w : World) (h : w.ownsRow base 58 3 (.slice (some ⟨g, 0, none⟩) n c) n (rows.flatMap (encL N rows))) (hl : n ≤ 100000000) : Calls Tryz.prog 22 #[.slice (some ⟨g, 0, none⟩) n c, .func (.func 23) #[] #[]] w fun e w' =>
    e = .returned (.tuple #[]) ∧ w'.ownsRow base 58 3 (.slice (some ⟨g, 0, none⟩) n c) n ((sortB rows).flatMap (encL N rows)) ∧ Below base w w' ∧ w.grownBy w' (some g) := by
  have eg : ∀ args w, (callFunc 23 args).run Tryz.prog w = .ok (.enter 23 args) w := enters_of Tryz.func23 (by kernel_rfl) rfl
  have hlen : rows.length = n := by
    have h1 := h.1
    rw [flat_length (C := encL N rows) (sz := 3) (fun x _ => encL_len N rows x)] at h1
    omega
  subst hlen
  rcases h.2 with ⟨hnil, _⟩ | ⟨g', cap, cur, hv, hbase, hb, h1, h2, h3, h4⟩
  · cases hnil
  · injection hv with ha hn hc
    injection ha with ha
    injection ha with ha
    subst ha hc
    have hsz : (rows.map (·.data.toList)).toArray.size = rows.length := by simp
    have hfl : (flatK (encU N rows) 3 (rows.map (·.data.toList)).toArray).size = rows.length * 3 := by simp
    have hH : HoldsK (encU N rows) 3 w g 0 (rows.map (·.data.toList)).toArray := by
      intro j hj
      rw [hfl] at hj
      have hfz := h.frozenAt j
      have hc := h.cellAt j hj
      rw [Nat.zero_add]
      refine ⟨?_, hfz⟩
      rw [hc, ← flat_list, Array.getElem?_toList, getElem!_pos _ j (by rw [hfl]; exact hj), Array.getElem?_eq_getElem (by rw [hfl]; exact hj)]
      rfl
    have hS := AnyQ.slices_SortFunc_total Tryz.sortL 3 Tryz.isAgg58 Tryz.sizeOf58 (encU N rows) (fun _ => rfl) (fun x => encL_one N rows _) compareBytes swo_cmp 23 #[] g 0 c (rows.map (·.data.toList)).toArray w eg (cmpLays_line N rows g 0 _ w) hH (Array.getElem?_eq_some_iff.1 hb).1 (by rw [hsz]; omega) tot_cmp
    rw [hsz, le_cmp] at hS
    have hperm : ((rows.map (·.data.toList)).toArray.toList.mergeSort fun x y => decide (x ≤ y)) = (sortB rows).map (·.data.toList) := by
      rw [← merge_sortB rows, List.map_map]
      conv => lhs; rw [← List.map_id ((rows.map (·.data.toList)).toArray.toList.mergeSort fun x y => decide (x ≤ y))]
      apply List.map_congr_left
      intro x _
      exact (ofL_list x).symm
    rw [hperm] at hS
    change Calls Tryz.prog 22 _ _ _ at hS
    refine hS.mono ?_
    rintro e w' ⟨rfl, k, os, rfl⟩
    have hg := grownBy_sortedK (w := w) (g := g) (n := k) (os := os) (flatK (encU N rows) 3 ((sortB rows).map (·.data.toList)).toArray)
    have hsl : (flatK (encU N rows) 3 ((sortB rows).map (·.data.toList)).toArray).size = rows.length * 3 := by simp [sortB_len]
    refine ⟨rfl, ⟨?_, .inr ⟨g, c, _, rfl, hbase, heap_sortedK _ hb, h1, h2, by simp [putCells, h3], ?_⟩⟩, (Below.refl _ _).grown hg (by have := (Array.getElem?_eq_some_iff.1 hb).1; omega) (fun k hk => by cases hk; exact hbase), hg⟩
    · rw [flat_length (C := encL N rows) (sz := 3) (fun x _ => encL_len N rows x), sortB_len]
    · rw [← flat_list, ← hsl]
      exact take_putCellsK cur _ (by rw [hsl, h3]; exact Nat.mul_le_mul_right _ h1)
end Go.Proofs.YtajffjkmmenaoaaGreat
