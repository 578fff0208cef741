/- All changes of a stage of the reference; a change is drawn. -/
import Derived.Test.YtbdioapgekaejaaGreatPk6
namespace Go.Proofs.YtbdioapgekaejaaGreat
open Go Go.RowKit
set_option linter.unusedVariables false
set_option linter.unusedSimpArgs false

def AllPost (w : World) (e : Ending) (w' : World) : Prop := ∃ A q, ∃ X : List ByteArray, e = .returned (.slice A X.length q) ∧ w'.ownsRow w.heap.size 9 1 (.slice A X.length q) X.length (X.map Value.string) ∧ 1 ≤ X.length ∧ X.length ≤ 5000 ∧ (∀ x ∈ X, x.size ≤ 20) ∧ Below w.heap.size w w'
def goodP (n : Nat) (ps : List Nat) : Bool := changeB n (ofPl ps).data.toList
theorem own_addr {w : World} {base : Nat} {e : TypeId} {size n c : Nat} {A : Option Addr} {xs : List Value} (h : w.ownsRow base e size (.slice A n c) n xs) (hn : 1 ≤ n) : ∃ g, A = some ⟨g, 0, none⟩ ∧ base ≤ g ∧ g < w.heap.size := by
  rcases h.2 with ⟨_, h0⟩ | ⟨g, cap, cur, hv, hb, _⟩
  · omega
  · injection hv with hA _ _
    subst hA
    exact ⟨g, rfl, hb, (h.lt g rfl).2⟩
theorem size_set {X : List ByteArray} {j : Nat} {s : ByteArray} (h : ∀ x ∈ X, x.size ≤ 20) (hs : s.size ≤ 20) : ∀ x ∈ X.set j s, x.size ≤ 20 := by
  intro x hx
  rcases List.mem_or_eq_of_mem_set hx with hx | rfl
  · exact h x hx
  · exact hs
theorem ofPl_one : ofPl [1] = ⟨#[49]⟩ := by
  show (⟨#[]⟩ : ByteArray) ++ numT ((1 : Nat) : Int) = _
  rw [numT_small (by omega)]
  rfl
/-- A stage has a change. -/
theorem good_ex {n : Nat} (h3 : 3 ≤ n) (h6 : n ≤ 6) : ∃ ps ∈ fromL n (n + 1) 1, goodP n ps = true := by
  rcases Nat.lt_or_ge n 4 with h | h
  · obtain rfl : n = 3 := by omega
    exact ⟨[1], by decide, by unfold goodP; rw [ofPl_one]; rfl⟩
  rcases Nat.lt_or_ge n 5 with h | h
  · obtain rfl : n = 4 := by omega
    exact ⟨[], by decide, by rfl⟩
  rcases Nat.lt_or_ge n 6 with h | h
  · obtain rfl : n = 5 := by omega
    exact ⟨[1], by decide, by unfold goodP; rw [ofPl_one]; rfl⟩
  · obtain rfl : n = 6 := by omega
    exact ⟨[], by decide, by rfl⟩
theorem grow_setB9 {a w : World} {B : Nat} (h : Below B a w) {g j : Nat} (hg : B ≤ g) (u : Value) : Below B a (w.setCell ⟨g, j, none⟩ u) := h.setCell (p := ⟨g, j, none⟩) hg u
theorem filter_step {α : Type} {p : α → Bool} {l : List α} {k : Nat} (hk : k < l.length) : ((l.take (k + 1)).filter p).length = ((l.take k).filter p).length + (if p l[k] = true then 1 else 0) := by
  rw [List.take_succ_eq_append_getElem hk, List.filter_append, List.length_append]
  congr 1
  by_cases h : p l[k] = true <;> simp [h]
set_option maxRecDepth 100000 in
set_option maxHeartbeats 8000000 in
theorem l2All_any (n : Nat) (w : World) (h3 : 3 ≤ n) (h6 : n ≤ 6) : Calls Tryz.prog 159 #[.int .i64 n] w (AllPost w) := by
  have HF := Lib.hid (fun W => l2From_any n (by omega) (n + 1) 1 W (by omega) (by omega) (by omega))
  have hlen := Nat.le_trans (fromL_len n (n + 1) 1) (Nat.pow_le_pow_right (by omega) (show n + 1 ≤ 12 by omega))
  have Hin := Lib.hid (fun l hl => fromL_in n (n + 1) 1 (by omega) (by omega) l hl)
  have hpos : 1 ≤ ((fromL n (n + 1) 1).filter (goodP n)).length := by
    obtain ⟨ps, h1, h2⟩ := good_ex h3 h6
    exact List.length_pos_of_mem (List.mem_filter.2 ⟨h1, h2⟩)
  obtain ⟨L, hL⟩ : ∃ L, L = fromL n (n + 1) 1 := ⟨_, rfl⟩
  rw [← hL] at HF hlen Hin hpos
  have hLf : (L.filter (goodP n)).length ≤ L.length := List.length_filter_le _ _
  clear hL
  have e1 : ((1 : Nat) : Int) = 1 := rfl
  rw [e1] at HF
  clear e1
  go_enter Tryz.func159, Tryz.ntmps159
  go_wp2_with fail
  refine (HF.out _).mono ?_; rintro e w1 ⟨A1, q1, us, rfl, ho1, hb1⟩
  have HR := Lib.hid ho1
  have hul := ho1.len
  have hcap := sl_capX ho1.1
  clear ho1
  go_wp2_with fail
  go_loopw [3, 11] (fun o i wr => ∃ (k : Nat) (A : Option Addr) (q : Nat) (X : List ByteArray), k ≤ L.length ∧ i = .int .i64 k ∧ o = .slice A X.length q ∧ wr.ownsRow w1.heap.size 9 1 (.slice A X.length q) X.length (X.map Value.string) ∧ X.length = ((L.take k).filter (goodP n)).length ∧ (∀ x ∈ X, x.size ≤ 20) ∧ Below w1.heap.size w1 wr) (fun _ i _ => L.length - (intOf i).toNat)
  case atStart => exact ⟨0, none, 0, [], by omega, rfl, rfl, World.ownsRow_nil _ _ _ _, rfl, by simp, Below.refl _ _⟩
  case round =>
    obtain ⟨k, A, q, X, hk, rfl, rfl, ho, hxl, hsz, hB⟩ := hrel
    have HO := Lib.hid ho
    have Hsz := Lib.hid hsz
    have Hxl := Lib.hid hxl
    have hxb : X.length ≤ L.length := by rw [hxl]; exact Nat.le_trans (List.length_filter_le _ _) (by rw [List.length_take]; omega)
    clear ho hsz hxl
    by_cases hlt : k < L.length
    · have hku : k < us.length := by omega
      have hRr := HR.out.to hB
      obtain ⟨g1, rfl, hcell⟩ := hRr.at hlt hku
      have hrow := hRr.2 k hlt hku
      have Hll := Lib.hid (Hin.out _ (List.getElem_mem hlt))
      have Hst := Lib.hid (filter_step (p := goodP n) hlt)
      obtain ⟨x, hx⟩ : ∃ x, x = us[k] := ⟨_, rfl⟩
      obtain ⟨y, hy⟩ : ∃ y, y = L[k] := ⟨_, rfl⟩
      rw [← hx] at hcell hrow
      rw [← hy] at hrow Hst Hll
      obtain ⟨Ax, cx, ex, _⟩ := sl_of_own hrow
      subst ex
      have hys := ofPl_size y Hll.out.2 (by have := Hll.out.1; omega)
      have HOf := Lib.hid (l2Of_any _ y _ (sl_of_own hrow) Hll.out.2 (by have := Hll.out.1; omega))
      have HG : Hid (changeB n (ofPl y).data.toList = goodP n y) := Lib.hid rfl
      obtain ⟨s, hs⟩ : ∃ s, s = ofPl y := ⟨_, rfl⟩
      rw [← hs] at HOf hys HG
      have Hch := Lib.hid (fun W => l2Change_any (n : Int) s W (by unfold maxLen; omega))
      rw [HG.out] at Hch
      obtain ⟨b, hb⟩ : ∃ b, b = goodP n y := ⟨_, rfl⟩
      rw [← hb] at Hch Hst
      clear hx hy hrow hRr hul hs HG hb
      go_wp2_with fail
      refine HOf.out.mono ?_; rintro e w2 ⟨rfl, hb2⟩
      have hB2 := hB.trans (hb2.mono hB.size)
      have HO2 := Lib.hid (own_to HO.out hb2)
      have hz2 : w1.heap.size ≤ w2.heap.size := hB2.size
      clear hb2
      cases b
      · go_wp2_with (go_at_call 115; refine (Hch.out _).mono ?_; rintro e w' ⟨rfl, rfl⟩)
        exact ⟨⟨k + 1, A, q, X, by omega, by go_num, rfl, HO2.out, by rw [Hst.out, Hxl.out]; simp, Hsz.out, hB2⟩, by simp [intOf]; omega⟩
      · go_wp2_with (first | (go_at_call 115; refine (Hch.out _).mono ?_; rintro e w' ⟨rfl, rfl⟩) | (at_builtin; refine wpList_app _ rfl _ _ _ rfl w1.heap.size 9 _ 1 16 Tryz.underlying24 info_str rfl (by omega) HO2.out [.string s] rfl rfl rfl (one_mem rfl) (by omega) (by omega) hz2 ?_; intro v3 w3 ho3 hb3 hg3 _; (obtain ⟨A3, q3, e3, _⟩ := sl_of_own ho3); subst e3; (have HO3 := Lib.hid ho3); (have hB3 := hB2.trans hb3); clear ho3 hb3 hg3))
        obtain ⟨g, rfl, hgb, hgl⟩ := own_addr HO3.out (by omega)
        have h0 : w3.ownsRow w1.heap.size 9 1 (.slice (some ⟨g, 0, none⟩) (X.length + 1) q3) (X.length + 1) ((X ++ [s]).map Value.string) := by rw [List.map_append]; exact HO3.out
        have H0 := Lib.hid h0
        have Hs0 : Hid (∀ x ∈ X ++ [s], x.size ≤ 20) := Lib.hid (fun x hx => by rcases List.mem_append.1 hx with hx | hx; exact Hsz.out x hx; rw [List.mem_singleton.1 hx]; exact hys)
        have Hnx : Hid (X.length + 1 = ((L.take (k + 1)).filter (goodP n)).length) := Lib.hid (by rw [Hst.out, Hxl.out]; simp)
        have hcq : X.length + 1 ≤ q3 := sl_capX HO3.out
        clear HO3 HO2 HO h0 Hxl Hsz
        go_loopw [7] (fun j wr => ∃ (i : Nat) (Y : List ByteArray), i ≤ X.length ∧ j = .int .i64 i ∧ Y.length = X.length + 1 ∧ wr.ownsRow w1.heap.size 9 1 (.slice (some ⟨g, 0, none⟩) (X.length + 1) q3) (X.length + 1) (Y.map Value.string) ∧ (∀ x ∈ Y, x.size ≤ 20) ∧ Below w1.heap.size w1 wr) (fun j _ => (intOf j).toNat)
        case atStart => exact ⟨X.length, X ++ [s], by omega, rfl, by simp, H0.out, Hs0.out, hB3⟩
        case round =>
          obtain ⟨i, Y, hi, rfl, hyl, ho, hsy, hB4⟩ := hrel
          have HOy := Lib.hid ho
          have Hsy := Lib.hid hsy
          have hci : wr.cell? ⟨g, i, none⟩ = some (.string (Y[i]'(by omega))) := by rw [ho.cellAt i (by omega)]; simp [show i < Y.length by omega]
          have hfi := ho.frozenAt i
          have hi0 : (0 : Int) ≤ i := by omega
          have hi1 : (i : Int) < ((X.length + 1 : Nat) : Int) := by omega
          by_cases hi2 : i = 0
          · subst hi2
            clear hi0 hi1
            go_wp2_with fail
            have hO5 := own_set HOy.out 0 (.string s)
            have HO5 : Hid ((wr.setCell ⟨g, 0, none⟩ (.string s)).ownsRow w1.heap.size 9 1 (.slice (some ⟨g, 0, none⟩) (X.length + 1) q3) (X.length + 1) ((Y.set 0 s).map Value.string)) := Lib.hid (by rw [List.map_set]; exact hO5)
            clear hO5
            refine ⟨⟨k + 1, some ⟨g, 0, none⟩, q3, Y.set 0 s, by omega, by go_num, by rw [List.length_set, hyl], ?_, ?_, size_set Hsy.out hys, grow_setB9 hB4 hgb _⟩, by simp [intOf]; omega⟩
            · rw [List.length_set, hyl]; exact HO5.out
            · rw [List.length_set, hyl]; exact Hnx.out
          · have hj : i - 1 < Y.length := by omega
            have hcj : wr.cell? ⟨g, i - 1, none⟩ = some (.string (Y[i - 1]'(by omega))) := by rw [HOy.out.cellAt (i - 1) (by omega)]; simp [hj]
            have Hsj := Lib.hid (Hsy.out _ (List.getElem_mem hj))
            obtain ⟨u, hu⟩ : ∃ u, u = Y[i - 1]'(by omega) := ⟨_, rfl⟩
            rw [← hu] at hcj Hsj
            have hw2 : IntKind.i64.wrap ((i : Int) - 1) = (i : Int) - 1 := IntWalk.i64_in _ (by omega)
            have hw3 : 0 ≤ (i : Int) - 1 := by omega
            have hw4 : ((i : Int) - 1).toNat = i - 1 := by omega
            have hw5 : (i : Int) - 1 < ((X.length + 1 : Nat) : Int) := by omega
            have hw6 : 1 ≤ (i : Int) := by omega
            have hwd : decide ((0 : Int) < (i : Int)) = true := by simp; omega
            have hwe : decide (0 < i) = true := by simp; omega
            clear hu ho
            have HM : Hid ((wr.setCell ⟨g, i, none⟩ (.string u)).ownsRow w1.heap.size 9 1 (.slice (some ⟨g, 0, none⟩) (X.length + 1) q3) (X.length + 1) ((Y.set i u).map Value.string)) := Lib.hid (by rw [List.map_set]; exact own_set HOy.out i (.string u))
            have HE : Hid ((wr.setCell ⟨g, i, none⟩ (.string s)).ownsRow w1.heap.size 9 1 (.slice (some ⟨g, 0, none⟩) (X.length + 1) q3) (X.length + 1) ((Y.set i s).map Value.string)) := Lib.hid (by rw [List.map_set]; exact own_set HOy.out i (.string s))
            have hii : ((i - 1 : Nat) : Int) = (i : Int) - 1 := by omega
            have Hii := Lib.hid hii
            clear hii
            go_wp2_with fail
            · refine ⟨⟨i - 1, Y.set i u, by omega, by rw [Hii.out], by rw [List.length_set, hyl], HM.out, size_set Hsy.out Hsj.out, grow_setB9 hB4 hgb _⟩, by simp [intOf]; omega⟩
            · refine ⟨⟨k + 1, some ⟨g, 0, none⟩, q3, Y.set i s, by omega, by go_num, by rw [List.length_set, hyl], ?_, ?_, size_set Hsy.out hys, grow_setB9 hB4 hgb _⟩, by simp [intOf]; omega⟩
              · rw [List.length_set, hyl]; exact HE.out
              · rw [List.length_set, hyl]; exact Hnx.out
    · obtain rfl : k = L.length := by omega
      have hx0 : Hid (X.length = (L.filter (goodP n)).length) := Lib.hid (by have := Hxl.out; rw [List.take_length] at this; exact this)
      have hzw : w.heap.size ≤ w1.heap.size := hb1.size
      go_wp2_with fail
      go_ret
      exact ⟨A, q, X, rfl, own_base HO.out hzw, by rw [hx0.out]; exact hpos, by omega, Hsz.out, bw_to hb1 hB⟩
set_option maxHeartbeats 2000000 in
theorem change_any (w : World) (C lim n : Nat) (h : Cur w C lim) (hl : lim ≤ 1000000000000) (h3 : 3 ≤ n) (h6 : n ≤ 6) : Calls Tryz.prog 133 #[.pointer (some ⟨C, 0, none⟩), .int .i64 n] w (DrewStr w C (lim + 2) fun s => s.size ≤ 20) := by
  have H := Lib.hid h
  have hCl := h.lt
  clear h
  go_enter Tryz.func133, Tryz.ntmps133
  go_wp2_with fail
  refine (l2All_any n _ h3 h6).mono ?_; rintro e w1 ⟨A, q, X, rfl, ho, hx1, hx5, hsz, hb1⟩
  have Ho := Lib.hid ho
  have Hsz := Lib.hid hsz
  have Hc1 := Lib.hid (H.out.to hb1)
  have HB := Lib.hid hb1
  obtain ⟨g, rfl, hgb, hgl⟩ := own_addr ho hx1
  clear ho hsz hb1
  go_wp2_with fail
  refine (pick_any w1 C lim X.length Hc1.out hl (by omega) (by omega)).mono ?_; rintro e w2 ⟨b, rfl, hb, hc2, hg2⟩
  obtain ⟨k, rfl⟩ : ∃ k : Nat, b = k := ⟨b.toNat, by omega⟩
  have hk : k < X.length := by omega
  have hk0 : (0 : Int) ≤ k := by omega
  have hcell : w2.cell? ⟨g, k, none⟩ = some (.string X[k]) := by
    rw [gb_cell hg2 (by exact hgl) (by show g ≠ C; omega), Ho.out.cellAt k (by omega)]
    simp [hk]
  have Hc2 := Lib.hid hc2
  have Hg2 := Lib.hid hg2
  have Hxs := Lib.hid (Hsz.out _ (List.getElem_mem hk))
  obtain ⟨x, hx⟩ : ∃ x, x = X[k] := ⟨_, rfl⟩
  rw [← hx] at hcell Hxs
  clear hc2 hg2 hx hb
  go_wp2_with fail
  go_ret
  exact ⟨x, rfl, Hxs.out, Hc2.out, gb_tr (gb_to (gb_refl w C) HB.out) Hg2.out⟩
end Go.Proofs.YtbdioapgekaejaaGreat
