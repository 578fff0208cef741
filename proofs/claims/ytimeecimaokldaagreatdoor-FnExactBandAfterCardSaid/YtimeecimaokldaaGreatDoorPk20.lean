/- Contracts: a band anew; both sides. -/
import Derived.Test.YtimeecimaokldaaGreatDoorPk19
namespace Go.Proofs.YtimeecimaokldaaGreatDoor
open Go Go.RowKit
set_option linter.unusedVariables false
set_option linter.unusedSimpArgs false

theorem rs_one (xs : List (Nat × Bool)) : ∀ u ∈ xs.flatMap rsC, u.oneCell' = true := by
  intro u hu
  obtain ⟨x, _, hx⟩ := List.mem_flatMap.1 hu
  simp [rsC] at hx
  rcases hx with rfl | rfl <;> rfl
theorem rs_len (xs : List (Nat × Bool)) : (xs.flatMap rsC).length = xs.length * 2 := flat_length (fun _ _ => rfl)
theorem info_Rg : (Tryz.prog.info? 104).map (fun i => (i.zero, i.size, i.bytes)) = some (some (.agg #[.int .i64 0, .bool false]), 2, 16) := by kernel_rfl
/-- A block of cells of the call's own. -/
def Bc (W : World) (B : Nat) (cs : List Value) (t : TypeId) : Prop := W.heap[B]? = some (.cells cs.toArray t (0, 0))
theorem Bc.at_ {W : World} {B : Nat} {cs : List Value} {t : TypeId} (h : Bc W B cs t) (j : Nat) {x : Value} (hx : cs[j]? = some x) : W.cell? ⟨B, j, none⟩ = some x := by
  rw [heap_cell h j]; simpa using hx
theorem Bc.frz {W : World} {B : Nat} {cs : List Value} {t : TypeId} (h : Bc W B cs t) (j : Nat) : W.frozen? ⟨B, j, none⟩ = false := by
  unfold Bc at h
  simp [World.frozen?, h]
theorem Bc.set {W : World} {B : Nat} {cs : List Value} {t : TypeId} (h : Bc W B cs t) (j : Nat) (x : Value) : Bc (W.setCell ⟨B, j, none⟩ x) B (cs.set j x) t := by
  unfold Bc at *
  simp only [World.setCell, Array.getElem?_modify, h]
  simp
theorem Bc.to {W W' : World} {B C : Nat} {cs : List Value} {t : TypeId} (h : Bc W B cs t) (hb : Below C W W') (hB : B < C) : Bc W' B cs t := (hb.block B hB).trans h
theorem Bc.same {W W' : World} {B : Nat} {cs : List Value} {t : TypeId} (h : Bc W B cs t) (hb : W'.heap[B]? = W.heap[B]?) : Bc W' B cs t := hb.trans h
theorem Bc.blk {W : World} {B : Nat} {cs : List Value} {t : TypeId} (h : Bc W B cs t) : B < W.heap.size := blk_lt h
/-- A band's box. -/
def bdL (m : Mt) (k : Cl) (b : Bd) (v r : Value) : List Value := [.string m.name, .int .i64 m.stage, v, .string k.bob, .string k.single, .int .i64 b.st, .string b.call, .string b.tr, r]
theorem own9 {W : World} {base B : Nat} {e : TypeId} {size n : Nat} {v : Value} {xs : List Value} {x0 x1 x2 x3 x4 x5 x6 x7 x8 : Value} (h : W.ownsRow base e size v n xs) (hg : B < base) : (((((((((W.setCell ⟨B, 0, none⟩ x0).setCell ⟨B, 1, none⟩ x1).setCell ⟨B, 2, none⟩ x2).setCell ⟨B, 3, none⟩ x3).setCell ⟨B, 4, none⟩ x4).setCell ⟨B, 5, none⟩ x5).setCell ⟨B, 6, none⟩ x6).setCell ⟨B, 7, none⟩ x7).setCell ⟨B, 8, none⟩ x8).ownsRow base e size v n xs :=
  own_past (own_past (own_past (own_past (own_past (own_past (own_past (own_past (own_past h hg 0 x0) hg 1 x1) hg 2 x2) hg 3 x3) hg 4 x4) hg 5 x5) hg 6 x6) hg 7 x7) hg 8 x8
theorem bw9 {a W : World} {C B : Nat} {x0 x1 x2 x3 x4 x5 x6 x7 x8 : Value} (h : Below C a W) (hg : C ≤ B) : Below C a (((((((((W.setCell ⟨B, 0, none⟩ x0).setCell ⟨B, 1, none⟩ x1).setCell ⟨B, 2, none⟩ x2).setCell ⟨B, 3, none⟩ x3).setCell ⟨B, 4, none⟩ x4).setCell ⟨B, 5, none⟩ x5).setCell ⟨B, 6, none⟩ x6).setCell ⟨B, 7, none⟩ x7).setCell ⟨B, 8, none⟩ x8) :=
  (((((((((h.setCell (p := ⟨B, 0, none⟩) hg x0).setCell (p := ⟨B, 1, none⟩) hg x1).setCell (p := ⟨B, 2, none⟩) hg x2).setCell (p := ⟨B, 3, none⟩) hg x3).setCell (p := ⟨B, 4, none⟩) hg x4).setCell (p := ⟨B, 5, none⟩) hg x5).setCell (p := ⟨B, 6, none⟩) hg x6).setCell (p := ⟨B, 7, none⟩) hg x7).setCell (p := ⟨B, 8, none⟩) hg x8)
theorem Bc.e9 {W : World} {B : Nat} {c0 c1 c2 c3 c4 c5 c6 c7 c8 : Value} {t : TypeId} (h : Bc W B [c0, c1, c2, c3, c4, c5, c6, c7, c8] t) (x0 x1 x2 x3 x4 x5 x6 x7 x8 : Value) :
    (W.setCell ⟨B, 0, none⟩ x0).cell? ⟨B, 0, none⟩ = some x0 ∧ ((W.setCell ⟨B, 0, none⟩ x0).setCell ⟨B, 1, none⟩ x1).cell? ⟨B, 1, none⟩ = some x1 ∧ (((W.setCell ⟨B, 0, none⟩ x0).setCell ⟨B, 1, none⟩ x1).setCell ⟨B, 2, none⟩ x2).cell? ⟨B, 2, none⟩ = some x2 ∧ ((((W.setCell ⟨B, 0, none⟩ x0).setCell ⟨B, 1, none⟩ x1).setCell ⟨B, 2, none⟩ x2).setCell ⟨B, 3, none⟩ x3).cell? ⟨B, 3, none⟩ = some x3 ∧ (((((W.setCell ⟨B, 0, none⟩ x0).setCell ⟨B, 1, none⟩ x1).setCell ⟨B, 2, none⟩ x2).setCell ⟨B, 3, none⟩ x3).setCell ⟨B, 4, none⟩ x4).cell? ⟨B, 4, none⟩ = some x4 ∧ ((((((W.setCell ⟨B, 0, none⟩ x0).setCell ⟨B, 1, none⟩ x1).setCell ⟨B, 2, none⟩ x2).setCell ⟨B, 3, none⟩ x3).setCell ⟨B, 4, none⟩ x4).setCell ⟨B, 5, none⟩ x5).cell? ⟨B, 5, none⟩ = some x5 ∧ (((((((W.setCell ⟨B, 0, none⟩ x0).setCell ⟨B, 1, none⟩ x1).setCell ⟨B, 2, none⟩ x2).setCell ⟨B, 3, none⟩ x3).setCell ⟨B, 4, none⟩ x4).setCell ⟨B, 5, none⟩ x5).setCell ⟨B, 6, none⟩ x6).cell? ⟨B, 6, none⟩ = some x6 ∧ ((((((((W.setCell ⟨B, 0, none⟩ x0).setCell ⟨B, 1, none⟩ x1).setCell ⟨B, 2, none⟩ x2).setCell ⟨B, 3, none⟩ x3).setCell ⟨B, 4, none⟩ x4).setCell ⟨B, 5, none⟩ x5).setCell ⟨B, 6, none⟩ x6).setCell ⟨B, 7, none⟩ x7).cell? ⟨B, 7, none⟩ = some x7 ∧ (((((((((W.setCell ⟨B, 0, none⟩ x0).setCell ⟨B, 1, none⟩ x1).setCell ⟨B, 2, none⟩ x2).setCell ⟨B, 3, none⟩ x3).setCell ⟨B, 4, none⟩ x4).setCell ⟨B, 5, none⟩ x5).setCell ⟨B, 6, none⟩ x6).setCell ⟨B, 7, none⟩ x7).setCell ⟨B, 8, none⟩ x8).cell? ⟨B, 8, none⟩ = some x8 := by
  have s0 := h.set 0 x0
  have s1 := s0.set 1 x1
  have s2 := s1.set 2 x2
  have s3 := s2.set 3 x3
  have s4 := s3.set 4 x4
  have s5 := s4.set 5 x5
  have s6 := s5.set 6 x6
  have s7 := s6.set 7 x7
  have s8 := s7.set 8 x8
  exact ⟨s0.at_ 0 rfl, s1.at_ 1 rfl, s2.at_ 2 rfl, s3.at_ 3 rfl, s4.at_ 4 rfl, s5.at_ 5 rfl, s6.at_ 6 rfl, s7.at_ 7 rfl, s8.at_ 8 rfl⟩
theorem Bc.all9 {W : World} {B : Nat} {c0 c1 c2 c3 c4 c5 c6 c7 c8 : Value} {t : TypeId} (h : Bc W B [c0, c1, c2, c3, c4, c5, c6, c7, c8] t) :
    (W.cell? ⟨B, 0, none⟩ = some c0 ∧ W.cell? ⟨B, 1, none⟩ = some c1 ∧ W.cell? ⟨B, 2, none⟩ = some c2 ∧ W.cell? ⟨B, 3, none⟩ = some c3 ∧ W.cell? ⟨B, 4, none⟩ = some c4 ∧ W.cell? ⟨B, 5, none⟩ = some c5 ∧ W.cell? ⟨B, 6, none⟩ = some c6 ∧ W.cell? ⟨B, 7, none⟩ = some c7 ∧ W.cell? ⟨B, 8, none⟩ = some c8) ∧
    (W.frozen? ⟨B, 0, none⟩ = false ∧ W.frozen? ⟨B, 1, none⟩ = false ∧ W.frozen? ⟨B, 2, none⟩ = false ∧ W.frozen? ⟨B, 3, none⟩ = false ∧ W.frozen? ⟨B, 4, none⟩ = false ∧ W.frozen? ⟨B, 5, none⟩ = false ∧ W.frozen? ⟨B, 6, none⟩ = false ∧ W.frozen? ⟨B, 7, none⟩ = false ∧ W.frozen? ⟨B, 8, none⟩ = false) :=
  ⟨⟨h.at_ 0 rfl, h.at_ 1 rfl, h.at_ 2 rfl, h.at_ 3 rfl, h.at_ 4 rfl, h.at_ 5 rfl, h.at_ 6 rfl, h.at_ 7 rfl, h.at_ 8 rfl⟩, h.frz 0, h.frz 1, h.frz 2, h.frz 3, h.frz 4, h.frz 5, h.frz 6, h.frz 7, h.frz 8⟩
/-- What a function that makes a band leaves. -/
def BdPost (w : World) (m : Mt) (k : Cl) (b : Bd) (e : Ending) (w' : World) : Prop :=
  ∃ A1 c1 A2 c2, e = .returned (b.v m k (.slice A1 m.l.length c1) (.slice A2 b.rs.length c2)) ∧ w'.ownsRow w.heap.size 9 1 (.slice A1 m.l.length c1) m.l.length (m.l.map Value.string) ∧ w'.ownsRow w.heap.size 104 2 (.slice A2 b.rs.length c2) b.rs.length (b.rs.flatMap rsC) ∧ Below w.heap.size w w'
theorem bwl {wb W w' : World} {B : Nat} (h : Below B wb W) (hB : B ≤ wb.heap.size) (hb : Below W.heap.size W w') : Below B wb w' := h.trans (hb.mono (Nat.le_trans hB h.size))
theorem nb_slE {w : World} {base : Nat} {e : TypeId} {size n : Nat} {v : Value} {cs : List Value} (h : w.ownsRow base e size v n cs) : ∃ A c, v = .slice A n c := by
  rcases h.2 with ⟨rfl, rfl⟩ | ⟨g, cap, _, rfl, _⟩
  · exact ⟨_, _, rfl⟩
  · exact ⟨_, _, rfl⟩
theorem set_othB {w : World} {b c j : Nat} {u : Value} (h : b ≠ c) : (w.setCell ⟨c, j, none⟩ u).heap[b]? = w.heap[b]? := Below.heap_setCell w ⟨c, j, none⟩ u b h
set_option maxHeartbeats 1000000 in
set_option maxRecDepth 100000 in
theorem cloneRg_any (v : Value) (xs : List (Nat × Bool)) (w : World) (h : Sl w 2 v xs.length (xs.flatMap rsC)) (hn : NilOk v) (hlen : xs.length ≤ 10000000) : Calls Tryz.prog 139 #[v] w fun e w' =>
    ∃ A c, e = .returned (.slice A xs.length c) ∧ w'.ownsRow w.heap.size 104 2 (.slice A xs.length c) xs.length (xs.flatMap rsC) ∧ Below w.heap.size w w' := by
  have h0 := h
  obtain ⟨A, c, rfl, h1, h2, hr⟩ := h
  unfold maxLen at h2
  cases A with
  | none =>
    obtain ⟨hl, rfl⟩ := hn _ _ rfl
    obtain rfl := List.eq_nil_of_length_eq_zero hl
    have hrun := fun W : World => Lib.run_eql_slice_nil (P := Tryz.prog) W 31 104 none 0 0 0 0 Tryz.underlying31
    simp only [Option.isNone_none] at hrun
    go_enter Tryz.func139, Tryz.ntmps139
    go_wp2_with fail
    go_ret
    exact ⟨none, 0, rfl, World.ownsRow_nil _ _ _ _, Below.refl _ _⟩
  | some ad =>
    have hrun := fun W : World => Lib.run_eql_slice_nil (P := Tryz.prog) W 31 104 (some ad) xs.length c 0 0 Tryz.underlying31
    simp only [Option.isNone_some] at hrun
    go_enter Tryz.func139, Tryz.ntmps139
    go_wp2_with (at_builtin; go_must (refine wpList_app_sl (w.alloc (.cells #[] 104)) rfl _ _ _ rfl w.heap.size 104 _ 2 16 Tryz.underlying31 info_Rg rfl (by omega) (own_of_heap (cs := #[]) (n := 0) (heap_new w _) (Nat.le_refl _) (by unfold maxLen; omega) rfl) rfl (h0.to (bw_al (Below.refl _ _) _)) hn rfl (rs_one xs) (by omega) (by omega) (by simp) ?_); intro v2 w2 hown2 hb2 _ _)
    rw [Nat.zero_add, List.nil_append] at hown2
    obtain ⟨A2, c2, rfl⟩ := nb_slE hown2
    go_ret
    exact ⟨_, _, rfl, hown2, bw_tr (bw_al (Below.refl _ _) _) hb2 (Nat.le_refl _)⟩
set_option maxRecDepth 100000 in
set_option maxHeartbeats 4000000 in
theorem copyBand_any (m : Mt) (k : Cl) (b : Bd) (v r : Value) (w : World) (hv : Strs w v m.l) (hn : NilOk v) (hr : Sl w 2 r b.rs.length (b.rs.flatMap rsC)) (hnr : NilOk r) (hl : m.l.length ≤ 10000000) (hl2 : b.rs.length ≤ 10000000) : Calls Tryz.prog 99 #[b.v m k v r] w (BdPost w m k b) := by
  have Hc1 := Lib.hid (fun W (hW : Below w.heap.size w W) => cloneStr_any v m.l W (hv.to hW) hn (by omega))
  have Hc2 := Lib.hid (fun W (hW : Below w.heap.size w W) => cloneRg_any r b.rs W (hr.to hW) hnr hl2)
  obtain ⟨A, q, rfl, _⟩ := hv
  obtain ⟨Ar, qr, rfl, _⟩ := hr
  have Hwc := Lib.hid (fun (w : World) A' q' => withChanges_any m (.slice A m.l.length q) A' m.l.length q' w)
  unfold Mt.v at Hwc
  unfold Bd.v
  go_enter Tryz.func99, Tryz.ntmps99
  go_wp2_with fail
  refine box2 (C := fun W => Code.wp _ _ _ _ W) ?_
  intro wb hw k1 k2 hB0
  have h1 : Bc wb w.heap.size (bdL m k b (.slice A m.l.length q) (.slice Ar b.rs.length qr)) 33 := k1
  obtain ⟨t2, h2⟩ : ∃ t, Bc wb (w.heap.size + 1) [.string ⟨#[]⟩, .int .i64 0, .slice none 0 0, .string ⟨#[]⟩, .string ⟨#[]⟩, .int .i64 0, .string ⟨#[]⟩, .string ⟨#[]⟩, .slice none 0 0] t := ⟨_, k2⟩
  clear k1 k2
  unfold bdL at h1
  have hz1 : w.heap.size < wb.heap.size := h1.blk
  have hz2 : w.heap.size + 1 < wb.heap.size := h2.blk
  have hBw : w.heap.size ≤ wb.heap.size := Nat.le_of_lt hz1
  have Hh1 := Lib.hid h1
  have Hh2 := Lib.hid h2
  have Hw := Lib.hid hw
  have hst : Below w.heap.size wb wb := Below.refl _ _
  obtain ⟨⟨c0, c1, c2, _⟩, f0, f1, f2, _⟩ := (show Bc wb.drew w.heap.size _ _ from h1).all9
  have hd0 : Below wb.heap.size wb wb.drew := Below.drew (Below.refl _ _)
  clear h1 h2 hw
  go_cut [1] (fun x wx => x = .pointer (some ⟨w.heap.size, 0, none⟩) ∧ ∃ A1 c1, Hid (Bc wx w.heap.size [.string m.name, .int .i64 m.stage, .slice A1 m.l.length c1, .string k.bob, .string k.single, .int .i64 b.st, .string b.call, .string b.tr, .slice Ar b.rs.length qr] 33) ∧ Hid (Bc wx (w.heap.size + 1) [.string ⟨#[]⟩, .int .i64 0, .slice none 0 0, .string ⟨#[]⟩, .string ⟨#[]⟩, .int .i64 0, .string ⟨#[]⟩, .string ⟨#[]⟩, .slice none 0 0] t2) ∧ Hid (wx.ownsRow wb.heap.size 9 1 (.slice A1 m.l.length c1) m.l.length (m.l.map Value.string)) ∧ Hid (Below w.heap.size wb wx))
  case first =>
    go_region_with (first | (go_at_call 102; (with_reducible refine (Hwc.out _ _ _).mono ?_); rintro e w' ⟨rfl, hb'⟩; (have hd2 := bw_to hd1 hb'); (obtain ⟨⟨d0, d1, d2, _⟩, g0, g1, g2, _⟩ := (Hh1.out.to hd2 hz1).all9)) | (go_at_call 103; refine (Hc1.out _ (bw_to Hw.out hd0)).mono ?_; rintro e w' ⟨r', rfl, hown, hb'⟩; (obtain ⟨A1, q1, hrs⟩ := nb_slE hown); subst hrs; (have hown1 := hown); (have hb1 := hb'); (have hd1 := bw_to hd0 hb'); (obtain ⟨⟨e0, e1, e2, _⟩, _⟩ := (Hh1.out.to hd1 hz1).all9)))
    all_goals
      have hs := (((Hh1.out.to hd2 hz1).set 0 (.string m.name)).set 1 (.int .i64 m.stage)).set 2 (.slice A1 m.l.length q1)
      have hs2 := Hh2.out.to hd2 hz2
      have ho := own_past (own_past (own_past (own_to hown1 hb') hz1 0 (.string m.name)) hz1 1 (.int .i64 m.stage)) hz1 2 (.slice A1 m.l.length q1)
      have hbw := set3_low (p := 0) (q := 1) (r := 2) (x := .string m.name) (y := .int .i64 m.stage) (z := .slice A1 m.l.length q1) (hd2.mono hBw) (Nat.le_refl w.heap.size)
      go_wp2_with fail
      go_meet
      exact ⟨rfl, A1, q1, Lib.hid hs, Lib.hid (hs2.same (by rw [set_othB (by omega), set_othB (by omega), set_othB (by omega)])), Lib.hid ho, Lib.hid hbw⟩
  case rest =>
  clear c0 c1 c2 f0 f1 f2 hst hd0
  obtain ⟨rfl, A1, c1, H1, H2, Ho1, HB⟩ := hcut
  obtain ⟨⟨_, _, _, _, _, _, _, _, e8⟩, _⟩ := H1.out.all9
  have hzc1 := H1.out.blk
  have hzc2 := H2.out.blk
  go_wp2_with fail
  refine (Hc2.out _ (Hw.out.trans HB.out)).mono ?_; rintro e w2 ⟨A2, c2, rfl, hown2, hb2⟩
  have H1' := H1.out.to hb2 hzc1
  have H2' := H2.out.to hb2 hzc2
  have Ho1' := own_to Ho1.out hb2
  have HB' := bwl HB.out hBw hb2
  clear e8
  obtain ⟨_, _, _, _, _, _, _, _, _, f8⟩ := H1'.all9
  go_upto_region 3 with fail
  have H3 := H1'.set 8 (.slice A2 b.rs.length c2)
  have H4 := H2'.same (W' := w2.setCell ⟨w.heap.size, 8, none⟩ (.slice A2 b.rs.length c2)) (set_othB (by omega))
  have Ho3 := own_past Ho1' hz1 8 (.slice A2 b.rs.length c2)
  have Ho4 := own_past hown2 hzc1 8 (.slice A2 b.rs.length c2)
  have HB3 := HB'.setCell (p := ⟨w.heap.size, 8, none⟩) (Nat.le_refl _) (.slice A2 b.rs.length c2)
  obtain ⟨w3, hw3⟩ : ∃ w3, w3 = w2.setCell ⟨w.heap.size, 8, none⟩ (.slice A2 b.rs.length c2) := ⟨_, rfl⟩
  rw [← hw3] at H3 H4 Ho3 Ho4 HB3 ⊢
  clear hw3
  have hzle : w.heap.size ≤ wc.heap.size := Nat.le_of_lt hzc1
  obtain ⟨⟨y0, y1, y2, y3, y4, y5, y6, y7, y8⟩, _⟩ := H3.all9
  obtain ⟨_, f0, f1, f2, f3, f4, f5, f6, f7, f8'⟩ := H4.all9
  obtain ⟨e0, e1, e2, e3, e4, e5, e6, e7, e8⟩ := H4.e9 (.string m.name) (.int .i64 m.stage) (.slice A1 m.l.length c1) (.string k.bob) (.string k.single) (.int .i64 b.st) (.string b.call) (.string b.tr) (.slice A2 b.rs.length c2)
  have E := Lib.hid (And.intro e0 (And.intro e1 (And.intro e2 (And.intro e3 (And.intro e4 (And.intro e5 (And.intro e6 (And.intro e7 e8))))))))
  clear e0 e1 e2 e3 e4 e5 e6 e7 e8
  go_wp2_with fail
  obtain ⟨e0, e1, e2, e3, e4, e5, e6, e7, e8⟩ := E.out
  refine bodyPost_ret (v := b.v m k (.slice A1 m.l.length c1) (.slice A2 b.rs.length c2)) (by unfold Bd.v; simp [results, go_sem, e0, e1, e2, e3, e4, e5, e6, e7, e8]) rfl ⟨A1, c1, A2, c2, rfl, own_base (own9 Ho3 hz2) (Nat.le_of_lt hz1), own_base (own9 Ho4 hzc2) hzle, bw9 (Hw.out.trans HB3) (Nat.le_succ _)⟩
set_option maxRecDepth 100000 in
set_option maxHeartbeats 4000000 in
theorem l24Own_any (m : Mt) (k : Cl) (b : Bd) (v r : Value) (w : World) (hv : Strs w v m.l) (hn : NilOk v) (hr : Sl w 2 r b.rs.length (b.rs.flatMap rsC)) (hnr : NilOk r) (hl : m.l.length ≤ 10000000) (hl2 : b.rs.length ≤ 10000000) : Calls Tryz.prog 92 #[b.v m k v r] w (BdPost w m k b) := by
  have Hc1 := Lib.hid (fun W (hW : Below w.heap.size w W) => l4Own_any m v W (hv.to hW) hn hl)
  have Hr := Lib.hid hr
  obtain ⟨A, q, rfl, _⟩ := hv
  obtain ⟨Ar, qr, rfl, _⟩ := hr
  unfold Mt.v at Hc1
  unfold Bd.v
  go_enter Tryz.func92, Tryz.ntmps92
  go_wp2_with fail
  refine box2 (C := fun W => Calls _ _ _ W _) ?_
  intro wb hw k1 k2 hB0
  have h1 : Bc wb w.heap.size (bdL m k b (.slice A m.l.length q) (.slice Ar b.rs.length qr)) 33 := k1
  obtain ⟨t2, h2⟩ : ∃ t, Bc wb (w.heap.size + 1) [.string ⟨#[]⟩, .int .i64 0, .slice none 0 0, .string ⟨#[]⟩, .string ⟨#[]⟩, .int .i64 0, .string ⟨#[]⟩, .string ⟨#[]⟩, .slice none 0 0] t := ⟨_, k2⟩
  clear k1 k2
  unfold bdL at h1
  have hz1 : w.heap.size < wb.heap.size := h1.blk
  have hz2 : w.heap.size + 1 < wb.heap.size := h2.blk
  have hBw : w.heap.size ≤ wb.heap.size := Nat.le_of_lt hz1
  refine (Hc1.out _ hw).mono ?_; rintro e w1 ⟨r1, rfl, hown1, hb1⟩
  obtain ⟨A1, q1, hrs⟩ := nb_slE hown1
  subst hrs
  have h1' := h1.to hb1 hz1
  have h2' := h2.to hb1 hz2
  obtain ⟨_, f0, f1, f2, _⟩ := h1'.all9
  have hw1 := hw.trans (hb1.mono hBw)
  go_upto_region 2 with fail
  have H1 := ((h1'.set 0 (.string m.name)).set 1 (.int .i64 m.stage)).set 2 (.slice A1 m.l.length q1)
  have H2 := h2'.same (W' := ((w1.setCell ⟨w.heap.size, 0, none⟩ (.string m.name)).setCell ⟨w.heap.size, 1, none⟩ (.int .i64 m.stage)).setCell ⟨w.heap.size, 2, none⟩ (.slice A1 m.l.length q1)) (by rw [set_othB (by omega), set_othB (by omega), set_othB (by omega)])
  have Ho1 := own_past (own_past (own_past hown1 hz1 0 (.string m.name)) hz1 1 (.int .i64 m.stage)) hz1 2 (.slice A1 m.l.length q1)
  have HB := set3_low (p := 0) (q := 1) (r := 2) (x := .string m.name) (y := .int .i64 m.stage) (z := .slice A1 m.l.length q1) hw1 (Nat.le_refl w.heap.size)
  obtain ⟨wc, hwc⟩ : ∃ wc, wc = ((w1.setCell ⟨w.heap.size, 0, none⟩ (.string m.name)).setCell ⟨w.heap.size, 1, none⟩ (.int .i64 m.stage)).setCell ⟨w.heap.size, 2, none⟩ (.slice A1 m.l.length q1) := ⟨_, rfl⟩
  rw [← hwc] at H1 H2 Ho1 HB ⊢
  clear hwc f0 f1 f2
  have hzc1 := H1.blk
  have hzc2 := H2.blk
  have HRc := Lib.hid (Hr.out.to HB)
  have HC := Lib.hid (And.intro H1 (And.intro H2 Ho1))
  obtain ⟨⟨_, _, _, _, _, _, _, _, e8⟩, _⟩ := H1.all9
  clear H1 H2 Ho1
  obtain ⟨⟨_, _, _, _, _, _, _, _, e8'⟩, _⟩ := (HC.out.1.to (bw_al (Below.refl wc.heap.size wc) (.cells #[] 104)) hzc1).all9
  have HW := Lib.hid HB
  clear hw1 hB0 h1 h2 h1' h2'
  go_upto_region 3 with (at_builtin; go_must (refine wpList_app_sl (wc.alloc (.cells #[] 104)) rfl _ _ _ rfl wc.heap.size 104 _ 2 16 Tryz.underlying31 info_Rg rfl (by omega) (own_of_heap (cs := #[]) (n := 0) (heap_new wc _) (Nat.le_refl _) (by unfold maxLen; omega) rfl) rfl (HRc.out.to (bw_al (Below.refl _ _) _)) hnr rfl (rs_one b.rs) (by omega) (by omega) (by simp) ?_); intro v2 w2 hown2 hb2 _ _; (obtain ⟨A2, c2, rfl⟩ := nb_slE hown2); (have hbq := bw_tr (bw_al (Below.refl wc.heap.size wc) _) hb2 (Nat.le_refl _)); (have f8 := (HC.out.1.to hbq hzc1).frz 8); (have y8 := (HC.out.1.to hbq hzc1).at_ 8 rfl); (have Hown2 := Lib.hid hown2); clear hown2 hb2; (have hown2' := Hown2.out); (rw [List.nil_append] at hown2'); (have Hown3 := Lib.hid hown2'); clear hown2' Hown2)
  clear e8 e8' f8 y8
  have H1 := (HC.out.1.to hbq hzc1).set 8 (.slice A2 b.rs.length c2)
  have H4 := (HC.out.2.1.to hbq hzc2).same (W' := w2.setCell ⟨w.heap.size, 8, none⟩ (.slice A2 b.rs.length c2)) (set_othB (by omega))
  have Ho3 := own_past (own_to HC.out.2.2 hbq) hz1 8 (.slice A2 b.rs.length c2)
  have Ho4 := own_past Hown3.out hzc1 8 (.slice A2 b.rs.length c2)
  have HB3 := ((HW.out.trans (hbq.mono (Nat.le_of_lt hzc1)))).setCell (p := ⟨w.heap.size, 8, none⟩) (Nat.le_refl _) (.slice A2 b.rs.length c2)
  obtain ⟨w3, hw3⟩ : ∃ w3, w3 = w2.setCell ⟨w.heap.size, 8, none⟩ (.slice A2 b.rs.length c2) := ⟨_, rfl⟩
  rw [Nat.zero_add] at Ho4
  rw [← hw3] at H1 H4 Ho3 Ho4 HB3
  rw [← hw3]
  clear hw3
  have hzle : w.heap.size ≤ wc.heap.size := Nat.le_of_lt hzc1
  obtain ⟨⟨y0, y1, y2, y3, y4, y5, y6, y7, y8⟩, _⟩ := H1.all9
  obtain ⟨_, f0, f1, f2, f3, f4, f5, f6, f7, f8'⟩ := H4.all9
  obtain ⟨e0, e1, e2, e3, e4, e5, e6, e7, e8⟩ := H4.e9 (.string m.name) (.int .i64 m.stage) (.slice A1 m.l.length q1) (.string k.bob) (.string k.single) (.int .i64 b.st) (.string b.call) (.string b.tr) (.slice A2 b.rs.length c2)
  have E := Lib.hid (And.intro e0 (And.intro e1 (And.intro e2 (And.intro e3 (And.intro e4 (And.intro e5 (And.intro e6 (And.intro e7 e8))))))))
  clear e0 e1 e2 e3 e4 e5 e6 e7 e8
  go_wp2_with fail
  obtain ⟨e0, e1, e2, e3, e4, e5, e6, e7, e8⟩ := E.out
  refine bodyPost_ret (v := b.v m k (.slice A1 m.l.length q1) (.slice A2 b.rs.length c2)) (by unfold Bd.v; simp [results, go_sem, e0, e1, e2, e3, e4, e5, e6, e7, e8]) rfl ⟨A1, q1, A2, c2, rfl, own_base (own9 Ho3 hz2) (Nat.le_of_lt hz1), own_base (own9 Ho4 hzc2) hzle, bw9 HB3 (Nat.le_succ _)⟩
end Go.Proofs.YtimeecimaokldaaGreatDoor
