/- All changes of a stage of the reference; a change is drawn. -/
import Derived.Test.YtofpjbdelmmclaaGreatDoorPk13
import Derived.Test.YtofpjbdelmmclaaGreatDoorPk10
import Derived.Test.YtofpjbdelmmclaaGreatDoorPk3
import Derived.Test.YtofpjbdelmmclaaGreatDoorPk12
import Derived.Maps.AppendAt
import Derived.WalkSpells
namespace Go.Proofs.YtofpjbdelmmclaaGreatDoor
open Go Go.RowKit
set_option linter.unusedVariables false
set_option linter.unusedSimpArgs false

def AllPost (w : World) (e : Ending) (w' : World) : Prop := ∃ A q, ∃ X : List ByteArray, e = .returned (.slice A X.length q) ∧ w'.ownsRow w.heap.size 9 1 (.slice A X.length q) X.length (X.map Value.string) ∧ 1 ≤ X.length ∧ X.length ≤ 5000 ∧ (∀ x ∈ X, x.size ≤ 20) ∧ Below w.heap.size w w'
def goodP (n : Nat) (ps : List Nat) : Bool := changeB n (ofPl ps).data.toList
theorem own_addr {w : World} {base : Nat} {e : TypeId} {size n c : Nat} {A : Option Addr} {xs : List Value} (h : w.ownsRow base e size (.slice A n c) n xs) (hn : 1 ≤ n) : ∃ g, A = some ⟨g, 0, none⟩ ∧ base ≤ g ∧ g < w.heap.size := by
  rcases h.2 with ⟨_, h0⟩ | ⟨g, cap, cur, hv, hb, _⟩
  · omega
  · injection hv with hA _ _
    subst hA
    exact ⟨g, rfl, hb, (h.lt g rfl).2⟩
theorem size_set {X : List ByteArray} {j : Nat} {s : ByteArray} (h : ∀ x ∈ X, x.size ≤ 20) (hs : s.size ≤ 20) : ∀ x ∈ X.set j s, x.size ≤ 20 := by
  intro x hx
  rcases List.mem_or_eq_of_mem_set hx with hx | rfl
  · exact h x hx
  · exact hs
theorem ofPl_one : ofPl [1] = ⟨#[49]⟩ := by
  show (⟨#[]⟩ : ByteArray) ++ numT ((1 : Nat) : Int) = _
  rw [numT_small (by omega)]
  rfl
/-- A stage has a change. -/
theorem good_ex {n : Nat} (h3 : 3 ≤ n) (h6 : n ≤ 6) : ∃ ps ∈ fromL n (n + 1) 1, goodP n ps = true := by
  rcases Nat.lt_or_ge n 4 with h | h
  · obtain rfl : n = 3 := by omega
    exact ⟨[1], by decide, by unfold goodP; rw [ofPl_one]; rfl⟩
  rcases Nat.lt_or_ge n 5 with h | h
  · obtain rfl : n = 4 := by omega
    exact ⟨[], by decide, by rfl⟩
  rcases Nat.lt_or_ge n 6 with h | h
  · obtain rfl : n = 5 := by omega
    exact ⟨[1], by decide, by unfold goodP; rw [ofPl_one]; rfl⟩
  · obtain rfl : n = 6 := by omega
    exact ⟨[], by decide, by rfl⟩
theorem grow_setB9 {a w : World} {B : Nat} (h : Below B a w) {g j : Nat} (hg : B ≤ g) (u : Value) : Below B a (w.setCell ⟨g, j, none⟩ u) := h.setCell (p := ⟨g, j, none⟩) hg u
theorem filter_step {α : Type} {p : α → Bool} {l : List α} {k : Nat} (hk : k < l.length) : ((l.take (k + 1)).filter p).length = ((l.take k).filter p).length + (if p l[k] = true then 1 else 0) := by
  rw [List.take_succ_eq_append_getElem hk, List.filter_append, List.length_append]
  congr 1
  by_cases h : p l[k] = true <;> simp [h]
set_option maxRecDepth 100000 in
set_option maxHeartbeats 8000000 in
theorem l2All_any (n : Nat) (w : World) (h3 : 3 ≤ n) (h6 : n ≤ 6) : Calls Tryz.prog 155 #[.int .i64 n] w (AllPost w) := by
  have HF := Lib.hid (fun W => l2From_any n (by omega) (n + 1) 1 W (by omega) (by omega) (by omega))
  have hlen := Nat.le_trans (fromL_len n (n + 1) 1) (Nat.pow_le_pow_right (by omega) (show n + 1 ≤ 12 by omega))
  have Hin := Lib.hid (fun l hl => fromL_in n (n + 1) 1 (by omega) (by omega) l hl)
  have hpos : 1 ≤ ((fromL n (n + 1) 1).filter (goodP n)).length := by
    obtain ⟨ps, h1, h2⟩ := good_ex h3 h6
    exact List.length_pos_of_mem (List.mem_filter.2 ⟨h1, h2⟩)
  obtain ⟨L, hL⟩ : ∃ L, L = fromL n (n + 1) 1 := ⟨_, rfl⟩
  rw [← hL] at HF hlen Hin hpos
  have hLf : (L.filter (goodP n)).length ≤ L.length := List.length_filter_le _ _
  clear hL
  have e1 : ((1 : Nat) : Int) = 1 := rfl
  rw [e1] at HF
  clear e1
  go_enter Tryz.func155, Tryz.ntmps155
  go_wp2_with fail
  refine (HF.out _).mono ?_; rintro e w1 ⟨A1, q1, us, rfl, ho1, hb1⟩
  have HR := Lib.hid ho1
  have hul := ho1.len
  have hcap := sl_capX ho1.1
  clear ho1
  go_wp2_with fail
  go_loopw [3, 11] (fun o i wr => ∃ (k : Nat) (A : Option Addr) (q : Nat) (X : List ByteArray), k ≤ L.length ∧ i = .int .i64 k ∧ o = .slice A X.length q ∧ wr.ownsRow w1.heap.size 9 1 (.slice A X.length q) X.length (X.map Value.string) ∧ X.length = ((L.take k).filter (goodP n)).length ∧ (∀ x ∈ X, x.size ≤ 20) ∧ Below w1.heap.size w1 wr) (fun _ i _ => L.length - (intOf i).toNat)
  case atStart => exact ⟨0, none, 0, [], by omega, rfl, rfl, World.ownsRow_nil _ _ _ _, rfl, by simp, Below.refl _ _⟩
  case round =>
    obtain ⟨k, A, q, X, hk, rfl, rfl, ho, hxl, hsz, hB⟩ := hrel
    have HO := Lib.hid ho
    have Hsz := Lib.hid hsz
    have Hxl := Lib.hid hxl
    have hxb : X.length ≤ L.length := by rw [hxl]; exact Nat.le_trans (List.length_filter_le _ _) (by rw [List.length_take]; omega)
    clear ho hsz hxl
    by_cases hlt : k < L.length
    · have hku : k < us.length := by omega
      have hRr := HR.out.to hB
      obtain ⟨g1, rfl, hcell⟩ := hRr.at hlt hku
      have hrow := hRr.2 k hlt hku
      have Hll := Lib.hid (Hin.out _ (List.getElem_mem hlt))
      have Hst := Lib.hid (filter_step (p := goodP n) hlt)
      obtain ⟨x, hx⟩ : ∃ x, x = us[k] := ⟨_, rfl⟩
      obtain ⟨y, hy⟩ : ∃ y, y = L[k] := ⟨_, rfl⟩
      rw [← hx] at hcell hrow
      rw [← hy] at hrow Hst Hll
      obtain ⟨Ax, cx, ex, _⟩ := sl_of_own hrow
      subst ex
      have hys := ofPl_size y Hll.out.2 (by have := Hll.out.1; omega)
      have HOf := Lib.hid (l2Of_any _ y _ (sl_of_own hrow) Hll.out.2 (by have := Hll.out.1; omega))
      have HG : Hid (changeB n (ofPl y).data.toList = goodP n y) := Lib.hid rfl
      obtain ⟨s, hs⟩ : ∃ s, s = ofPl y := ⟨_, rfl⟩
      rw [← hs] at HOf hys HG
      have Hch := Lib.hid (fun W => l2Change_any (n : Int) s W (by unfold maxLen; omega))
      rw [HG.out] at Hch
      obtain ⟨b, hb⟩ : ∃ b, b = goodP n y := ⟨_, rfl⟩
      rw [← hb] at Hch Hst
      clear hx hy hrow hRr hul hs HG hb
      go_wp2_with fail
      refine HOf.out.mono ?_; rintro e w2 ⟨rfl, hb2⟩
      have hB2 := hB.trans (hb2.mono hB.size)
      have HO2 := Lib.hid (own_to HO.out hb2)
      have hz2 : w1.heap.size ≤ w2.heap.size := hB2.size
      clear hb2
      cases b
      · go_wp2_with (go_at_call 156; refine (Hch.out _).mono ?_; rintro e w' ⟨rfl, rfl⟩)
        exact ⟨⟨k + 1, A, q, X, by omega, by go_num, rfl, HO2.out, by rw [Hst.out, Hxl.out]; simp, Hsz.out, hB2⟩, by simp [intOf]; omega⟩
      · go_wp2_with (first | (go_at_call 156; refine (Hch.out _).mono ?_; rintro e w' ⟨rfl, rfl⟩) | (at_builtin; refine wpList_app _ rfl _ _ _ rfl w1.heap.size 9 _ 1 16 Tryz.underlying24 info_str rfl (by omega) HO2.out [.string s] rfl rfl rfl (one_mem rfl) (by omega) (by omega) hz2 ?_; intro v3 w3 ho3 hb3 hg3 _; (obtain ⟨A3, q3, e3, _⟩ := sl_of_own ho3); subst e3; (have HO3 := Lib.hid ho3); (have hB3 := hB2.trans hb3); clear ho3 hb3 hg3))
        obtain ⟨g, rfl, hgb, hgl⟩ := own_addr HO3.out (by omega)
        have h0 : w3.ownsRow w1.heap.size 9 1 (.slice (some ⟨g, 0, none⟩) (X.length + 1) q3) (X.length + 1) ((X ++ [s]).map Value.string) := by rw [List.map_append]; exact HO3.out
        have H0 := Lib.hid h0
        have Hs0 : Hid (∀ x ∈ X ++ [s], x.size ≤ 20) := Lib.hid (fun x hx => by rcases List.mem_append.1 hx with hx | hx; exact Hsz.out x hx; rw [List.mem_singleton.1 hx]; exact hys)
        have Hnx : Hid (X.length + 1 = ((L.take (k + 1)).filter (goodP n)).length) := Lib.hid (by rw [Hst.out, Hxl.out]; simp)
        have hcq : X.length + 1 ≤ q3 := sl_capX HO3.out
        clear HO3 HO2 HO h0 Hxl Hsz
        go_loopw [7] (fun j wr => ∃ (i : Nat) (Y : List ByteArray), i ≤ X.length ∧ j = .int .i64 i ∧ Y.length = X.length + 1 ∧ wr.ownsRow w1.heap.size 9 1 (.slice (some ⟨g, 0, none⟩) (X.length + 1) q3) (X.length + 1) (Y.map Value.string) ∧ (∀ x ∈ Y, x.size ≤ 20) ∧ Below w1.heap.size w1 wr) (fun j _ => (intOf j).toNat)
        case atStart => exact ⟨X.length, X ++ [s], by omega, rfl, by simp, H0.out, Hs0.out, hB3⟩
        case round =>
          obtain ⟨i, Y, hi, rfl, hyl, ho, hsy, hB4⟩ := hrel
          have HOy := Lib.hid ho
          have Hsy := Lib.hid hsy
          have hci : wr.cell? ⟨g, i, none⟩ = some (.string (Y[i]'(by omega))) := by rw [ho.cellAt i (by omega)]; simp [show i < Y.length by omega]
          have hfi := ho.frozenAt i
          have hi0 : (0 : Int) ≤ i := by omega
          have hi1 : (i : Int) < ((X.length + 1 : Nat) : Int) := by omega
          by_cases hi2 : i = 0
          · subst hi2
            clear hi0 hi1
            go_wp2_with fail
            have hO5 := own_set HOy.out 0 (.string s)
            have HO5 : Hid ((wr.setCell ⟨g, 0, none⟩ (.string s)).ownsRow w1.heap.size 9 1 (.slice (some ⟨g, 0, none⟩) (X.length + 1) q3) (X.length + 1) ((Y.set 0 s).map Value.string)) := Lib.hid (by rw [List.map_set]; exact hO5)
            clear hO5
            refine ⟨⟨k + 1, some ⟨g, 0, none⟩, q3, Y.set 0 s, by omega, by go_num, by rw [List.length_set, hyl], ?_, ?_, size_set Hsy.out hys, grow_setB9 hB4 hgb _⟩, by simp [intOf]; omega⟩
            · rw [List.length_set, hyl]; exact HO5.out
            · rw [List.length_set, hyl]; exact Hnx.out
          · have hj : i - 1 < Y.length := by omega
            have hcj : wr.cell? ⟨g, i - 1, none⟩ = some (.string (Y[i - 1]'(by omega))) := by rw [HOy.out.cellAt (i - 1) (by omega)]; simp [hj]
            have Hsj := Lib.hid (Hsy.out _ (List.getElem_mem hj))
            obtain ⟨u, hu⟩ : ∃ u, u = Y[i - 1]'(by omega) := ⟨_, rfl⟩
            rw [← hu] at hcj Hsj
            have hw2 : IntKind.i64.wrap ((i : Int) - 1) = (i : Int) - 1 := IntWalk.i64_in _ (by omega)
            have hw3 : 0 ≤ (i : Int) - 1 := by omega
            have hw4 : ((i : Int) - 1).toNat = i - 1 := by omega
            have hw5 : (i : Int) - 1 < ((X.length + 1 : Nat) : Int) := by omega
            have hw6 : 1 ≤ (i : Int) := by omega
            have hwd : decide ((0 : Int) < (i : Int)) = true := by simp; omega
            have hwe : decide (0 < i) = true := by simp; omega
            clear hu ho
            have HM : Hid ((wr.setCell ⟨g, i, none⟩ (.string u)).ownsRow w1.heap.size 9 1 (.slice (some ⟨g, 0, none⟩) (X.length + 1) q3) (X.length + 1) ((Y.set i u).map Value.string)) := Lib.hid (by rw [List.map_set]; exact own_set HOy.out i (.string u))
            have HE : Hid ((wr.setCell ⟨g, i, none⟩ (.string s)).ownsRow w1.heap.size 9 1 (.slice (some ⟨g, 0, none⟩) (X.length + 1) q3) (X.length + 1) ((Y.set i s).map Value.string)) := Lib.hid (by rw [List.map_set]; exact own_set HOy.out i (.string s))
            have hii : ((i - 1 : Nat) : Int) = (i : Int) - 1 := by omega
            have Hii := Lib.hid hii
            clear hii
            go_wp2_with fail
            · refine ⟨⟨i - 1, Y.set i u, by omega, by rw [Hii.out], by rw [List.length_set, hyl], HM.out, size_set Hsy.out Hsj.out, grow_setB9 hB4 hgb _⟩, by simp [intOf]; omega⟩
            · refine ⟨⟨k + 1, some ⟨g, 0, none⟩, q3, Y.set i s, by omega, by go_num, by rw [List.length_set, hyl], ?_, ?_, size_set Hsy.out hys, grow_setB9 hB4 hgb _⟩, by simp [intOf]; omega⟩
              · rw [List.length_set, hyl]; exact HE.out
              · rw [List.length_set, hyl]; exact Hnx.out
    · obtain rfl : k = L.length := by omega
      have hx0 : Hid (X.length = (L.filter (goodP n)).length) := Lib.hid (by have := Hxl.out; rw [List.take_length] at this; exact this)
      have hzw : w.heap.size ≤ w1.heap.size := hb1.size
      go_wp2_with fail
      go_ret
      exact ⟨A, q, X, rfl, own_base HO.out hzw, by rw [hx0.out]; exact hpos, by omega, Hsz.out, bw_to hb1 hB⟩
set_option maxHeartbeats 2000000 in
theorem change_any (w : World) (C lim n : Nat) (h : Cur w C lim) (hl : lim ≤ 1000000000000) (h3 : 3 ≤ n) (h6 : n ≤ 6) : Calls Tryz.prog 125 #[.pointer (some ⟨C, 0, none⟩), .int .i64 n] w (DrewStr w C (lim + 2) fun s => s.size ≤ 20) := by
  have H := Lib.hid h
  have hCl := h.lt
  clear h
  go_enter Tryz.func125, Tryz.ntmps125
  go_wp2_with fail
  refine (l2All_any n _ h3 h6).mono ?_; rintro e w1 ⟨A, q, X, rfl, ho, hx1, hx5, hsz, hb1⟩
  have Ho := Lib.hid ho
  have Hsz := Lib.hid hsz
  have Hc1 := Lib.hid (H.out.to hb1)
  have HB := Lib.hid hb1
  obtain ⟨g, rfl, hgb, hgl⟩ := own_addr ho hx1
  clear ho hsz hb1
  go_wp2_with fail
  refine (pick_any w1 C lim X.length Hc1.out hl (by omega) (by omega)).mono ?_; rintro e w2 ⟨b, rfl, hb, hc2, hg2⟩
  obtain ⟨k, rfl⟩ : ∃ k : Nat, b = k := ⟨b.toNat, by omega⟩
  have hk : k < X.length := by omega
  have hk0 : (0 : Int) ≤ k := by omega
  have hcell : w2.cell? ⟨g, k, none⟩ = some (.string X[k]) := by
    rw [gb_cell hg2 (by exact hgl) (by show g ≠ C; omega), Ho.out.cellAt k (by omega)]
    simp [hk]
  have Hc2 := Lib.hid hc2
  have Hg2 := Lib.hid hg2
  have Hxs := Lib.hid (Hsz.out _ (List.getElem_mem hk))
  obtain ⟨x, hx⟩ : ∃ x, x = X[k] := ⟨_, rfl⟩
  rw [← hx] at hcell Hxs
  clear hc2 hg2 hx hb
  go_wp2_with fail
  go_ret
  exact ⟨x, rfl, Hxs.out, Hc2.out, gb_tr (gb_to (gb_refl w C) HB.out) Hg2.out⟩
end Go.Proofs.YtofpjbdelmmclaaGreatDoor

/- Contracts: slices of strings (size, copy, sameness), lists of changes. -/
namespace Go.Proofs.YtofpjbdelmmclaaGreatDoor
open Go Go.RowKit
set_option linter.unusedVariables false
set_option linter.unusedSimpArgs false

/-- No string of the list is too long for a machine. -/
def Fits (ss : List ByteArray) : Prop := ∀ s ∈ ss, s.size ≤ maxLen
/-- What the size's measure gives for a list that fits into it. -/
def Small (ss : List ByteArray) : Prop := ss.length ≤ 1048576 ∧ ∀ s ∈ ss, s.size ≤ 1048576
theorem Small.fits {ss : List ByteArray} (h : Small ss) : Fits ss := fun s hs => Nat.le_trans (h.2 s hs) (by unfold maxLen; omega)
theorem take_all {p : ByteArray → Prop} {ss : List ByteArray} {k : Nat} (hk : k < ss.length) (h : ∀ s ∈ ss.take k, p s) (h1 : p ss[k]) : ∀ s ∈ ss.take (k + 1), p s := by
  intro s hs
  rw [List.take_succ_eq_append_getElem hk] at hs
  rcases List.mem_append.1 hs with hs | hs
  · exact h s hs
  · rw [List.mem_singleton.1 hs]; exact h1
def chgs (n : Int) (ss : List ByteArray) : Bool := ss.all fun s => changeB n s.data.toList
theorem areChanges_any (n : Int) (v : Value) (ss : List ByteArray) (w : World) (h : Strs w v ss) (hf : Small ss) : Calls Tryz.prog 191 #[.int .i64 n, v] w fun e w' => e = .returned (.bool (decide (1 ≤ ss.length ∧ ss.length ≤ 40) && chgs n ss)) ∧ Below w.heap.size w w' := by
  obtain ⟨A, c, rfl, h1, h2, hr⟩ := h
  unfold maxLen at h2
  have Hf := Lib.hid hf.2
  have hf1 := hf.1
  clear hf
  by_cases hbig : 1 ≤ ss.length ∧ ss.length ≤ 40
  · have e1 := Lib.hid (decide_eq_true hbig)
    go_enter Tryz.func191, Tryz.ntmps191
    go_wp2_with fail
    go_loopw [17] (fun i wr => ∃ k : Nat, k ≤ ss.length ∧ i = .int .i64 k ∧ (ss.take k).all (fun s => changeB n s.data.toList) = true ∧ Below w.heap.size w wr) (fun i _ => ss.length - (intOf i).toNat)
    case atStart => exact ⟨0, by omega, rfl, by simp, Below.refl _ _⟩
    case round =>
      obtain ⟨k, hk, rfl, hs, hB⟩ := hrel
      have Hs := Lib.hid hs
      clear hs
      by_cases hlt : k < ss.length
      · obtain ⟨ad, rfl, hC⟩ := strs_el hr hlt
        have hsz := Hf.out _ (List.getElem_mem hlt)
        have H1 := Lib.hid (all_false (p := fun s => changeB n s.data.toList) hlt)
        have H2 := Lib.hid (all_step (p := fun s => changeB n s.data.toList) hlt Hs.out)
        obtain ⟨b, hb⟩ : ∃ b, b = changeB n ss[k].data.toList := ⟨_, rfl⟩
        rw [← hb] at H1 H2
        cases b
        all_goals
          have Hb := Lib.hid hb
          clear hb
        · go_wp2_with (go_at_call 158; refine (GoodChange_any _ _ _ hsz).mono ?_; rintro e w1 ⟨rfl, hb1⟩; rw [← Hb.out])
          go_ret
          exact ⟨ret_bool (by rw [e1.out]; exact (H1.out (by simp)).symm), bw_to hB hb1⟩
        · go_wp2_with (go_at_call 158; refine (GoodChange_any _ _ _ hsz).mono ?_; rintro e w1 ⟨rfl, hb1⟩; rw [← Hb.out])
          exact ⟨⟨k + 1, by omega, by go_num, H2.out (by simp), bw_to hB hb1⟩, by simp [intOf]; omega⟩
      · go_wp2_with fail
        go_ret
        obtain rfl : k = ss.length := by omega
        exact ⟨ret_bool (by rw [e1.out]; exact (all_true rfl Hs.out).symm), hB⟩
  · have e1 := Lib.hid (decide_eq_false hbig)
    go_enter Tryz.func191, Tryz.ntmps191
    go_wp2_with fail
    all_goals
      go_ret
      exact ⟨ret_bool (by first | rfl | (rw [e1.out]; rfl)), Below.refl _ _⟩
end Go.Proofs.YtofpjbdelmmclaaGreatDoor

/- Contracts: methods, one and slices of them (goodness, size, copy, sameness). -/
namespace Go.Proofs.YtofpjbdelmmclaaGreatDoor
open Go Go.RowKit
set_option linter.unusedVariables false
set_option linter.unusedSimpArgs false

/-- A method, its slice of changes left out of sight. -/
structure Mt where
  name : ByteArray
  stage : Int
  l : List ByteArray
def methB (m : Mt) : Bool := wordB m.name.data.toList && (decide (3 ≤ m.stage ∧ m.stage ≤ 8) && (decide (1 ≤ m.l.length ∧ m.l.length ≤ 40) && chgs m.stage m.l))
/-- In w the value v is the slice of m's changes, and no string is too long. -/
def MethAt (w : World) (m : Mt) (v : Value) : Prop := Strs w v m.l ∧ m.name.size ≤ maxLen ∧ Fits m.l
theorem MethAt.to {w w' : World} {m : Mt} {v : Value} (h : MethAt w m v) (hb : Below w.heap.size w w') : MethAt w' m v := ⟨h.1.to hb, h.2⟩
def MtSmall (m : Mt) : Prop := m.name.size ≤ 1048576 ∧ Small m.l
def Mt.v (m : Mt) (v : Value) : Value := .agg #[.string m.name, .int .i64 m.stage, v]
def mcells (p : Mt × Value) : List Value := [.string p.1.name, .int .i64 p.1.stage, p.2]
def Meths (w : World) (v : Value) (ms : List Mt) : Prop := ∃ vs : List Value, vs.length = ms.length ∧ Sl w 3 v ms.length ((ms.zip vs).flatMap mcells) ∧ ∀ p ∈ ms.zip vs, MethAt w p.1 p.2
theorem Meths.to {w w' : World} {v : Value} {ms : List Mt} (h : Meths w v ms) (hb : Below w.heap.size w w') : Meths w' v ms :=
  let ⟨vs, h1, h2, h3⟩ := h; ⟨vs, h1, h2.to hb, fun p hp => (h3 p hp).to hb⟩
theorem meths_el {w : World} {B : Nat} {A : Option Addr} {ms : List Mt} {vs : List Value} {n : Nat} (hl : vs.length = ms.length) (hr : Reads w B 3 A n ((ms.zip vs).flatMap mcells)) (hn : n = ms.length) {k : Nat} (hk : k < ms.length) :
    ∃ ad v, A = some ad ∧ (ms[k], v) ∈ ms.zip vs ∧ ∀ w', Below B w w' → w'.cell? (ad.add (k * 3)) = some (.string ms[k].name) ∧ w'.cell? ⟨(ad.add (k * 3)).block, (ad.add (k * 3)).off + 1, none⟩ = some (.int .i64 ms[k].stage) ∧
      w'.cell? ⟨(ad.add (k * 3)).block, (ad.add (k * 3)).off + 2, none⟩ = some v := by
  subst hn
  have hz : (ms.zip vs).length = ms.length := by simp [hl]
  have hk' : k < (ms.zip vs).length := by omega
  have hkv : k < vs.length := by omega
  rw [← hz] at hr
  obtain ⟨ad, e, h⟩ := hr.el (fun _ _ => rfl) hk'
  refine ⟨ad, vs[k], e, ?_, fun w' hb => ⟨?_, ?_, ?_⟩⟩
  · have := List.getElem_mem hk'
    rwa [List.getElem_zip] at this
  · have := h w' hb 0 (.string ms[k].name) (by omega) (by rw [List.getElem_zip]; rfl); rwa [add_zero'] at this
  · exact h w' hb 1 (.int .i64 ms[k].stage) (by omega) (by rw [List.getElem_zip]; rfl)
  · exact h w' hb 2 vs[k] (by omega) (by rw [List.getElem_zip]; rfl)
theorem meth_stage (m : Mt) : (decide (1 ≤ m.l.length ∧ m.l.length ≤ 40) && chgs m.stage m.l) = (decide (3 ≤ m.stage ∧ m.stage ≤ 8) && (decide (1 ≤ m.l.length ∧ m.l.length ≤ 40) && chgs m.stage m.l)) := by
  by_cases h : 3 ≤ m.stage ∧ m.stage ≤ 8
  · rw [decide_eq_true h]; rfl
  · rw [decide_eq_false h]
    cases e : m.l with
    | nil => rfl
    | cons s t => simp [chgs, changeB_no1 h]
set_option maxHeartbeats 1000000 in
theorem implGoodMethod_any (m : Mt) (v : Value) (w : World) (h : MethAt w m v) (hs : MtSmall m) : Calls Tryz.prog 157 #[m.v v] w fun e w' => e = .returned (.bool (methB m)) ∧ Below w.heap.size w w' := by
  unfold Mt.v
  have hr := h.1
  have h2 := h.2.1
  have hsm := hs.2
  have Hs := Lib.hid (meth_stage m)
  clear h hs
  go_enter Tryz.func157, Tryz.ntmps157
  go_wp2_with fail
  refine box1 (C := fun W => Calls _ _ _ W _) ?_
  intro wb hw k1 hB0
  have R1 := boxRule k1
  clear k1
  have hr1 := hr.to hw
  refine (isWord_any _ _ h2).mono ?_; rintro e w1 ⟨rfl, rfl⟩
  go_wp2_with (go_at_call 191; refine (areChanges_any _ _ _ _ hr1 hsm).mono ?_; rintro e w1 ⟨rfl, hb1⟩)
  · go_ret
    exact ⟨ret_bool (by unfold methB; rw [← Hs.out]; simp [*]), bw_to hw hb1⟩
  · go_ret
    exact ⟨ret_bool (by unfold methB; simp [*]), hw⟩
set_option maxHeartbeats 1000000 in
theorem l4Good_any (m : Mt) (v : Value) (w : World) (h : MethAt w m v) (hs : MtSmall m) : Calls Tryz.prog 126 #[m.v v] w fun e w' => e = .returned (.bool (methB m)) ∧ Below w.heap.size w w' := by
  unfold Mt.v
  have hr := h.1
  have h2 := h.2.1
  have Hf := Lib.hid hs.2.2
  have hf1 := hs.2.1
  clear h hs
  obtain ⟨A, c, rfl, h1, h3, hr⟩ := hr
  unfold maxLen at h3
  go_enter Tryz.func126, Tryz.ntmps126
  go_wp2_with fail
  refine box1 (C := fun W => Code.wp _ _ _ _ W) ?_
  intro wb hw k1 hB0
  have R1 := boxRule k1
  clear k1
  have hr1 := hr.to hw
  clear hr
  go_loopw [8] (fun i wr => ∃ k : Nat, k ≤ m.l.length ∧ i = .int .i64 k ∧ (m.l.take k).all (fun s => changeB m.stage s.data.toList) = true ∧ Below wb.heap.size wb wr) (fun i _ => m.l.length - (intOf i).toNat)
  case atStart => exact ⟨0, by omega, rfl, by simp, hB0⟩
  case round =>
    obtain ⟨k, hk, rfl, hs, hB⟩ := hrel
    have Hs := Lib.hid hs
    clear hs
    by_cases hlt : k < m.l.length
    · obtain ⟨ad, rfl, hC⟩ := strs_el hr1 hlt
      have hsz : (m.l[k]).size ≤ maxLen := Nat.le_trans (Hf.out _ (List.getElem_mem hlt)) (by unfold maxLen; omega)
      have H1 := Lib.hid (all_false (p := fun s => changeB m.stage s.data.toList) hlt)
      have H2 := Lib.hid (all_step (p := fun s => changeB m.stage s.data.toList) hlt Hs.out)
      obtain ⟨b, hb⟩ : ∃ b, b = changeB m.stage m.l[k].data.toList := ⟨_, rfl⟩
      rw [← hb] at H1 H2
      cases b
      all_goals
        have Hb := Lib.hid hb
        clear hb
      · go_wp2_with (go_at_call 156; refine (l2Change_any _ _ _ hsz).mono ?_; rintro e w1 ⟨rfl, rfl⟩; rw [← Hb.out])
        go_ret
        exact ⟨ret_bool (by have := H1.out (by simp); unfold methB chgs; rw [this]; simp), bw_to hw hB⟩
      · go_wp2_with (go_at_call 156; refine (l2Change_any _ _ _ hsz).mono ?_; rintro e w1 ⟨rfl, rfl⟩; rw [← Hb.out])
        exact ⟨⟨k + 1, by omega, by go_num, H2.out (by simp), hB⟩, by simp [intOf]; omega⟩
    · have Ha : chgs m.stage m.l = true := all_true (by omega) Hs.out
      have HA := Lib.hid Ha
      clear Ha
      go_wp2_with (first | (go_at_call 101; refine (l4Name_any _ _ h2).mono ?_; rintro e w1 ⟨rfl, rfl⟩) | (go_at_call 68; refine (l1In_any _ _ _ _).mono ?_; rintro e w1 ⟨rfl, rfl⟩))
      all_goals
        go_ret
        exact ⟨ret_bool (by unfold methB; rw [HA.out]; rw [Bool.eq_iff_iff]; simp [*]; try omega), bw_to hw hB⟩
end Go.Proofs.YtofpjbdelmmclaaGreatDoor

/- Contracts: slices of methods (size, copy, sameness). -/
namespace Go.Proofs.YtofpjbdelmmclaaGreatDoor
open Go Go.RowKit
set_option linter.unusedVariables false
set_option linter.unusedSimpArgs false

def AllSmall (ms : List Mt) : Prop := ms.length ≤ 1048576 ∧ ∀ m ∈ ms, MtSmall m
theorem take_allM {p : Mt → Prop} {ss : List Mt} {k : Nat} (hk : k < ss.length) (h : ∀ s ∈ ss.take k, p s) (h1 : p ss[k]) : ∀ s ∈ ss.take (k + 1), p s := by
  intro s hs
  rw [List.take_succ_eq_append_getElem hk] at hs
  rcases List.mem_append.1 hs with hs | hs
  · exact h s hs
  · rw [List.mem_singleton.1 hs]; exact h1
theorem frozen_of_heap {w w' : World} {g : Nat} {cs : Array Value} {t : TypeId} (h : w.heap[g]? = some (.cells cs t (0, 0))) (j : Nat) (hb : Below w.heap.size w w') : w'.frozen? ⟨g, j, none⟩ = false := by
  have hg : g < w.heap.size := by
    rcases Nat.lt_or_ge g w.heap.size with hlt | hge
    · exact hlt
    · rw [Array.getElem?_eq_none hge] at h; cases h
  rw [hb.frozen (p := ⟨g, j, none⟩) hg]
  simp [World.frozen?, h]
/-- A write below a row's base leaves the row. -/
theorem own_past {w : World} {base g : Nat} {e : TypeId} {size n : Nat} {v : Value} {xs : List Value} (h : w.ownsRow base e size v n xs) (hg : g < base) (j : Nat) (u : Value) : (w.setCell ⟨g, j, none⟩ u).ownsRow base e size v n xs :=
  h.kept (row := some g) (gr_set (gr_refl w (some g)) u) (by
    cases hv : v.ownBlock with
    | none => exact .inl rfl
    | some k => exact .inr (fun e => by cases e; have := (h.lt g hv).1; omega))
theorem box3s {C : World → Prop} {w : World} {o1 o2 o3 : Obj} (h : ∀ wb, Below w.heap.size w wb → wb.heap.size = w.heap.size + 3 → wb.heap[w.heap.size]? = some o1 → wb.heap[w.heap.size + 1]? = some o2 → wb.heap[w.heap.size + 2]? = some o3 → Below wb.heap.size wb wb → C wb) : C (((w.alloc o1).alloc o2).alloc o3) :=
  box3 (C := fun W => W.heap.size = w.heap.size + 3 → C W) (fun wb a b c d e f => h wb a f b c d e) (by simp)
theorem own3 {w : World} {base : Nat} {e : TypeId} {n g cap k : Nat} {xs : List Value} (h : w.ownsRow base e 3 (.slice (some ⟨g, 0, none⟩) n cap) n xs) (hk : k < n) :
    (∃ y0 y1 y2, w.cell? ⟨g, k * 3, none⟩ = some y0 ∧ w.cell? ⟨g, k * 3 + 1, none⟩ = some y1 ∧ w.cell? ⟨g, k * 3 + 2, none⟩ = some y2) ∧
    (w.frozen? ⟨g, k * 3, none⟩ = false ∧ w.frozen? ⟨g, k * 3 + 1, none⟩ = false ∧ w.frozen? ⟨g, k * 3 + 2, none⟩ = false) := by
  obtain ⟨y0, e0⟩ := own_some h (j := k * 3) (by omega)
  obtain ⟨y1, e1⟩ := own_some h (j := k * 3 + 1) (by omega)
  obtain ⟨y2, e2⟩ := own_some h (j := k * 3 + 2) (by omega)
  exact ⟨⟨y0, y1, y2, e0, e1, e2⟩, h.frozenAt _, h.frozenAt _, h.frozenAt _⟩
theorem take_set3 {cs ds : List Value} {k n : Nat} {v0 v1 v2 : Value} (hl : cs.length = n * 3) (hk : k < n) (h : cs.take (k * 3) = ds) :
    (((cs.set (k * 3) v0).set (k * 3 + 1) v1).set (k * 3 + 2) v2).take ((k + 1) * 3) = ds ++ [v0, v1, v2] := by
  rw [show (k + 1) * 3 = k * 3 + 2 + 1 from by omega, take_set_last (by simp; omega), take_set_last (by simp; omega), take_set_last (by omega), h]
  simp
theorem zip_snoc {ms : List Mt} {vs : List Value} {k : Nat} (hk : k < ms.length) (hv : vs.length = k) (v : Value) : (ms.take (k + 1)).zip (vs ++ [v]) = (ms.take k).zip vs ++ [(ms[k], v)] := by
  rw [List.take_succ_eq_append_getElem hk, List.zip_append (by simp; omega)]
  rfl
/-- A row of methods of the call's own, each with a slice of its own. -/
def OwnMeths (w : World) (base : Nat) (v : Value) (ms : List Mt) : Prop := ∃ vs : List Value, vs.length = ms.length ∧ w.ownsRow base 49 3 v ms.length ((ms.zip vs).flatMap mcells) ∧ ∀ p ∈ ms.zip vs, w.ownsRow base 9 1 p.2 p.1.l.length (p.1.l.map Value.string)
theorem OwnMeths.meths {w : World} {base : Nat} {v : Value} {ms : List Mt} (h : OwnMeths w base v ms) (hs : AllSmall ms) : Meths w v ms := by
  obtain ⟨vs, h1, h2, h3⟩ := h
  refine ⟨vs, h1, sl_of_own h2, fun p hp => ⟨strs_of_own (h3 p hp), ?_, ?_⟩⟩
  · exact Nat.le_trans (hs.2 p.1 (List.of_mem_zip hp).1).1 (by unfold maxLen; omega)
  · exact (hs.2 p.1 (List.of_mem_zip hp).1).2.fits
theorem OwnMeths.to {w w' : World} {base : Nat} {v : Value} {ms : List Mt} (h : OwnMeths w base v ms) (hb : Below w.heap.size w w') : OwnMeths w' base v ms :=
  let ⟨vs, h1, h2, h3⟩ := h; ⟨vs, h1, own_to h2 hb, fun p hp => own_to (h3 p hp) hb⟩
theorem info_meth : (Tryz.prog.info? 49).map (fun i => (i.zero, i.size, i.bytes)) = some (some (.agg #[.string ⟨#[]⟩, .int .i64 0, .slice none 0 0]), 3, 48) := by kernel_rfl
end Go.Proofs.YtofpjbdelmmclaaGreatDoor

/- Contracts: libraries (their goodness). -/
namespace Go.Proofs.YtofpjbdelmmclaaGreatDoor
open Go Go.RowKit
set_option linter.unusedVariables false
set_option linter.unusedSimpArgs false

def nmLt (p q : ByteArray) : Bool := Op.bytesLess p.toList q.toList
theorem less_tot : ∀ x y : List UInt8, (Op.bytesLess x y || x == y) = !Op.bytesLess y x
  | [], [] => rfl
  | [], _ :: _ => rfl
  | _ :: _, [] => rfl
  | a :: x, b :: y => by
    have ih := less_tot x y
    rw [Op.bytesLess, Op.bytesLess]
    by_cases h1 : a < b
    · have h2 : ¬ b < a := by simp only [UInt8.lt_iff_toNat_lt] at *; omega
      have h3 : ¬ b = a := by rintro rfl; simp only [UInt8.lt_iff_toNat_lt] at *; omega
      simp [h1, h2, h3]
    · by_cases h2 : b < a
      · have h3 : ¬ a = b := by rintro rfl; simp only [UInt8.lt_iff_toNat_lt] at *; omega
        simp [h1, h2, h3]
      · have h3 : a = b := by simp only [UInt8.lt_iff_toNat_lt] at *; exact UInt8.toNat_inj.1 (by omega)
        subst h3
        simp only [h1, decide_false, beq_self_eq_true, Bool.true_and, Bool.false_or]
        rw [← ih]
        simp
theorem MethAt.form {w : World} {m : Mt} {v : Value} (h : MethAt w m v) : ∃ A c, v = .slice A m.l.length c := let ⟨A, c, e, _⟩ := h.1; ⟨A, c, e⟩
def dM : Mt := ⟨⟨#[]⟩, 0, []⟩
def okAt (ms : List Mt) (k : Nat) : Bool := methB (ms.getD k dM) && (decide (k = 0) || nmLt (ms.getD (k - 1) dM).name (ms.getD k dM).name)
def libB (ms : List Mt) : Bool := decide (ms.length ≤ 30) && (List.range ms.length).all (okAt ms)
theorem getD_at {ms : List Mt} {k : Nat} (h : k < ms.length) : ms.getD k dM = ms[k] := by rw [List.getD_eq_getElem?_getD, List.getElem?_eq_getElem h]; rfl
theorem lib_no {ms : List Mt} {k : Nat} (h : k < ms.length) (ho : okAt ms k = false) : libB ms = false := by
  unfold libB
  have : (List.range ms.length).all (okAt ms) = false := by
    rw [List.all_eq_false]
    exact ⟨k, List.mem_range.2 h, by simp [ho]⟩
  rw [this, Bool.and_false]
theorem lib_step {ms : List Mt} {k : Nat} (ha : (List.range k).all (okAt ms) = true) (ho : okAt ms k = true) : (List.range (k + 1)).all (okAt ms) = true := by
  rw [List.range_succ, List.all_append, ha]; simp [ho]
theorem ok_bad {ms : List Mt} {k : Nat} (h : k < ms.length) (hm : methB ms[k] = false) : okAt ms k = false := by rw [okAt, getD_at h, hm]; rfl
theorem ok_first {ms : List Mt} (h : 0 < ms.length) (hm : methB ms[0] = true) : okAt ms 0 = true := by rw [okAt, getD_at h, hm]; rfl
theorem ok_next {ms : List Mt} {k : Nat} {b : Bool} (h : k < ms.length) (h0 : 0 < k) (hm : methB ms[k] = true) (hp : nmLt (ms[k - 1]'(by omega)).name ms[k].name = b) : okAt ms k = b := by
  rw [okAt, getD_at h, getD_at (show k - 1 < ms.length by omega), hm, hp, decide_eq_false (by omega)]; simp
theorem l4Good_as {m : Mt} {v : Value} {w : World} {r : Bool} (hr : methB m = r) (h : MethAt w m v) (hs : MtSmall m) : Calls Tryz.prog 126 #[m.v v] w fun e w' => e = .returned (.bool r) ∧ Below w.heap.size w w' := by subst hr; exact l4Good_any m v w h hs
theorem implGoodMethod_as {m : Mt} {v : Value} {w : World} {r : Bool} (hr : methB m = r) (h : MethAt w m v) (hs : MtSmall m) : Calls Tryz.prog 157 #[m.v v] w fun e w' => e = .returned (.bool r) ∧ Below w.heap.size w w' := by subst hr; exact implGoodMethod_any m v w h hs
end Go.Proofs.YtofpjbdelmmclaaGreatDoor

/- Contracts: slices of strings copied, cut, joined, reversed. -/
namespace Go.Proofs.YtofpjbdelmmclaaGreatDoor
open Go Go.RowKit
set_option linter.unusedVariables false
set_option linter.unusedSimpArgs false

set_option maxRecDepth 100000 in
theorem l1OwnS_any (v : Value) (ss : List ByteArray) (w : World) (h : Strs w v ss) (hn : NilOk v) (hlen : ss.length ≤ 20000000) : Calls Tryz.prog 77 #[v] w fun e w' =>
    ∃ r : Value, e = .returned r ∧ w'.ownsRow w.heap.size 9 1 r ss.length (ss.map Value.string) ∧ Below w.heap.size w w' := by
  have h0 := h
  obtain ⟨A, c, rfl, h1, h2, hr⟩ := h
  unfold maxLen at h2
  go_enter Tryz.func77, Tryz.ntmps77
  go_wp2_with (at_builtin; go_must (refine wpList_app_sl (w.alloc (.cells #[] 9)) rfl _ _ _ rfl w.heap.size 9 _ 1 16 Tryz.underlying24 info_str rfl (by omega) (own_of_heap (cs := #[]) (n := 0) (heap_new w _) (Nat.le_refl _) (by unfold maxLen; omega) rfl) rfl (h0.to (bw_al (Below.refl _ _) _)) hn rfl (strs_one ss) (by omega) (by omega) (by simp) ?_); intro v2 w2 hown2 hb2 _ _)
  go_ret
  exact ⟨_, rfl, by simpa using hown2, bw_tr (bw_al (Below.refl _ _) _) hb2 (Nat.le_refl _)⟩
end Go.Proofs.YtofpjbdelmmclaaGreatDoor
