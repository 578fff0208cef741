/- The law ReadLibrary, walked. -/
import Derived.Test.YtenhnloljdfjhaaDoorPk42
import Derived.Test.YtenhnloljdfjhaaDoorPk19
import Derived.Test.YtenhnloljdfjhaaDoorPk21
import Derived.Test.YtenhnloljdfjhaaDoorRows
import Derived.Lib.LaidTab
import Derived.Stop.LaidErr
import Derived.Test.YtenhnloljdfjhaaDoorPk39
import Derived.Handed
import Derived.HandedShaped
import Derived.Shelf.Vars
namespace Go.Proofs.YtenhnloljdfjhaaDoor
open Go Go.RowKit
set_option linter.unusedVariables false
set_option linter.unusedSimpArgs false

theorem lbR_small (s : ByteArray) : AllSmall ((lbR s).getD []) ∧ ((lbR s).getD []).length ≤ 100 := by
  cases h : lbR s with
  | none => exact ⟨⟨by simp, fun x hx => by cases hx⟩, by simp⟩
  | some ms =>
    have h2 : libB ms = true := by
      unfold lbR at h
      split at h
      · exact (lbG_ok h).2.1
      · cases h
    obtain ⟨h3, h4⟩ := lib_allN h2
    refine ⟨⟨by show ms.length ≤ 1048576; omega, fun m hm => ?_⟩, by show ms.length ≤ 100; omega⟩
    obtain ⟨a, b, c, d⟩ := meth_parts (h4 m hm)
    refine ⟨by omega, by omega, fun x hx => ?_⟩
    have hc := List.all_eq_true.1 d x hx
    have := change_small hc
    rw [bytes_len] at this
    omega
theorem OwnM.ownD {w : World} {base : Nat} {v : Value} {ms : List Mt} {vs : List Value} (h : OwnM w base v ms vs) (hA : ApM vs) : OwnD w base v ms := by
  obtain ⟨h1, h2, h3⟩ := h
  refine ⟨ms.zip vs, List.map_fst_zip (by omega), ⟨?_, h3⟩, ?_⟩
  · have e : (ms.zip vs).length = ms.length := by simp; omega
    rw [e]
    exact h1
  · refine List.pairwise_iff_getElem.2 ?_
    intro i j hi hj hij
    have hz : (ms.zip vs).length = vs.length := by simp; omega
    have := List.pairwise_iff_getElem.1 hA i j (by omega) (by omega) hij
    simpa using this
set_option maxRecDepth 100000 in
set_option maxHeartbeats 4000000 in
theorem lawReadLibrary_any (s : ByteArray) (w : World) (hs0 : s.size ≤ maxLen) (ht : Tab10 w) (hm : MaxOk w) : Calls Tryd.prog 3 #[.string s] w fun e w' => e = .returned (.bool true) ∧ Below w.heap.size w w' := by
  by_cases hs : s.size ≤ 1048576
  rotate_left
  · have hs' : 1048576 < s.size := by omega
    go_enter Tryd.func3, Tryd.ntmps3
    go_wp2_with fail
    go_ret
    exact ⟨rfl, Below.refl _ _⟩
  have SL := Lib.hid (lbR_small s)
  have Hsp := Lib.hid (fun W => specReadLibrary_any s W hs)
  have Him := Lib.hid (fun W (hW : Below w.heap.size w W) => implReadLibrary_any s W hs (ht.to hW) (hm.to hW))
  unfold RLPost at Hsp
  unfold RLPostD at Him
  obtain ⟨L, hL⟩ : ∃ L, L = (lbR s).getD [] := ⟨_, rfl⟩
  obtain ⟨b, hb⟩ : ∃ b, b = (lbR s).isSome := ⟨_, rfl⟩
  rw [← hL, ← hb] at Hsp Him
  rw [← hL] at SL
  have hend := endM_le 1 L (fun x hx => (SL.out.1.2 x hx).2.1)
  have hLl := SL.out.2
  obtain ⟨q, hq⟩ : ∃ q, q = endM 1 L := ⟨_, rfl⟩
  rw [← hq] at hend
  have hmk : ∀ X base W, OwnD W base X L → Calls Tryd.prog 7 #[X, .int .i64 1] W fun e w' => e = .returned (.int .i64 (q : Nat)) ∧ OwnD w' base X (marksM 1 L) ∧ Below base W w' := by
    intro X base W h1
    rw [hq]
    exact markMethodS_held X L base 1 W h1 SL.out.1 SL.out.2 (by omega)
  have hhd : ∀ X W, MethsS W X (marksM 1 L) → Calls Tryd.prog 8 #[X, .int .i64 1] W fun e w' => e = .returned (.int .i64 (q : Nat)) ∧ Below W.heap.size W w' := by
    intro X W h1
    rw [hq]
    exact heldMethodS_any X L 1 W h1 SL.out.1 SL.out.2 (by omega)
  have Hmk := Lib.hid hmk
  have Hhd := Lib.hid hhd
  have hq0 : ¬ ((q : Nat) : Int) < 0 := by omega
  clear hmk hhd hq hL hb ht hm
  cases b
  all_goals
    go_enter Tryd.func3, Tryd.ntmps3
    go_wp2_with fail
    refine (Hsp.out _).mono ?_; rintro e w1 ⟨v0, vs0, rfl, h0, hb1⟩
    have P1 := Lib.hid h0.own.inside
    have HB1 := Lib.hid hb1
    clear h0
    go_wp2_with fail
    refine (Him.out _ hb1).mono ?_; rintro e w2 ⟨vg, vsg, rfl, hg, hA, hb2⟩
    have G2 := Lib.hid (hg.ownD hA)
    have P2 := Lib.hid (P1.out.to hb2)
    have HB2 := Lib.hid (bw_to hb1 hb2)
    have Hz1 := Lib.hid hb1.size
    clear hg hA hb1 hb2
    go_wp2_with fail
    refine (eqMethodS_same _ _ L _ (G2.out.own.meths SL.out.1) (P2.out.own.meths SL.out.1)).mono ?_; rintro e w3 ⟨rfl, hb3⟩
    have G3 := Lib.hid (G2.out.to hb3)
    have P3 := Lib.hid (P2.out.to hb3)
    have HB3 := Lib.hid (bw_to HB2.out hb3)
    clear hb3
    go_wp2_with fail
    refine (Hmk.out _ w1.heap.size _ G3.out).mono ?_; rintro e w4 ⟨rfl, g4, hg4⟩
    have HB4 := Lib.hid (HB3.out.trans (hg4.mono Hz1.out))
    have P4 := Lib.hid (P3.out.below hg4 (Nat.le_refl _))
    have I4 := Lib.hid g4.own.strs
    clear g4 hg4
    go_wp2_with fail
    refine (Hhd.out _ _ I4.out).mono ?_; rintro e w5 ⟨rfl, hb5⟩
    have HB5 := Lib.hid (bw_to HB4.out hb5)
    go_wp2_with fail
    refine (Him.out _ HB5.out).mono ?_; rintro e w6 ⟨vh, vsh, rfl, hh, hA, hb6⟩
    have hb56 := bw_to hb5 hb6
    go_wp2_with fail
    refine (eqMethodS_same _ _ L _ (hh.own.meths SL.out.1) ((P4.out.to hb56).own.meths SL.out.1)).mono ?_; rintro e w7 ⟨rfl, hb7⟩
    have HB7 := Lib.hid (bw_to HB4.out (bw_to hb56 hb7))
    have I7 := Lib.hid (I4.out.to (bw_to hb56 hb7))
    clear hh hA hb5 hb6 hb56 hb7
    go_wp2_with fail
    refine (Hhd.out _ _ I7.out).mono ?_; rintro e w8 ⟨rfl, hb8⟩
    go_wp2_with fail
    go_ret
    exact ⟨rfl, bw_to HB7.out hb8⟩
end Go.Proofs.YtenhnloljdfjhaaDoor

/- From a row's list to the library's table of powers of ten. -/
namespace Go.Proofs.YtenhnloljdfjhaaDoor
open Go Go.RowKit
set_option maxRecDepth 100000
theorem tab_same : (Rows.laid_internal_strconv_uint64pow10 : DataW Unit) = Lib.tabData .u64 Lib.pow10Tab := by kernel_rfl
theorem tab_of {x y : String × DataW Unit} {rest : List (String × DataW Unit)} {W : World} (h : laidMet Tryd.prog (x :: y :: ("internal/strconv.uint64pow10", Rows.laid_internal_strconv_uint64pow10) :: rest) W) : Tab10 W := by
  have h1 := laidMet.tail (laidMet.tail h)
  rw [tab_same] at h1
  exact Lib.tabBelow_of_tabIs (Lib.tabIs_of_head (g := 3) (by kernel_rfl) (t := 98) (e := 92) (n := 20) (by kernel_rfl) Tryd.underlying98 Tryd.underlying92 (by kernel_rfl) (by kernel_rfl) h1)
end Go.Proofs.YtenhnloljdfjhaaDoor

/- A row whose contract is handed the world's shape beside the laid tables; the library's bound for short texts. -/
namespace Go.Proofs.YtenhnloljdfjhaaDoor
open Go Go.RowKit
set_option linter.unusedVariables false
set_option maxRecDepth 100000

theorem maxOk_of {w : World} (h : ∃ m, w.cell? ⟨0, 0, none⟩ = some (.int .i64 m)) : MaxOk w := by
  intro w' hb
  obtain ⟨m, hm⟩ := h
  have hlt : 0 < w.heap.size := by
    rcases Nat.eq_zero_or_pos w.heap.size with h0 | h0
    · unfold World.cell? at hm
      rw [Array.getElem?_eq_none (by show w.heap.size ≤ 0; omega)] at hm
      cases hm
    · exact h0
  exact ⟨m, (hb.cell (p := ⟨0, 0, none⟩) hlt).trans hm⟩
theorem maxOk_shaped {w : World} (h : w.ShapedOpen Tryd.prog) : MaxOk w := by
  have e : (0 : Nat) = 0 := rfl
  exact maxOk_of (cell_of_shapedOpen_int (g := 0) (t := 3) (zero := #[.int .i64 0]) h (of_decide_eq_true (by kernel_rfl)) (by kernel_rfl) rfl (by kernel_rfl) (by kernel_rfl) Tryd.underlying3)
theorem handed_shaped {H : Type} {enc : TypeId × Value → H} {C : Checked} {os : Os} {f : FuncId} {fn : Func} {s : ChangeSpec} {X : World → Array Value → Prop} {D : List PathCond} {b1 b2 b3 b4 : Bool}
    (hX : ∀ (u v : World) (l : Array Value), u.heap = v.heap → X u l → X v l) (h1 : ownKnob C.prog.godebug = none) (h2 : os.Started) (h3 : C.prog.inits.idxOf? f = none) (h4 : C.prog.funcs[f]? = some fn)
    (h5 : ∃ (w : World) (tape : Tape) (i : Input), w.os = os ∧ (w.forCall tape i).Shaped C.prog ∧ i.vars = [] ∧ Input.okWide C.prog (w.forCall tape i) .any w.heap.size f i ∧
      ((s.pre enc C.prog fn D b1 (w.forCall tape i).memory i.args ∧ X (w.forCall tape i).memory i.args) ∧ sizedMet enc C.prog fn (OpenSpec.ofChange s) b1 (w.forCall tape i).memory i.args) ∧ Assume.holds {} C.prog (lone (Frame.enter C.prog f i.args .normal) [] (w.forCall tape i)))
    (h6 : ∀ (W : World) (n : Nat) (l : Array Value) (ds gs : List (DataW H)) (ps : List MemPlace), W.ShapedOpen C.prog → X W l →
      (∀ (j : Nat) t v, fn.params[j]? = some t → l[j]? = some v → Value.okWide C.prog W .any n t v) → DataW.Whole enc C.prog fn.params.toList s.vars b1 W l.toList ds gs ps →
      Calls C.prog f l W fun e W' => ∃ v, e = .returned v ∧ s.post enc C.prog fn b1 b2 b3 b4 W l v W') :
    ReturnsInHanded {} C os f .any (fun w l => (s.pre enc C.prog fn D b1 w l ∧ X w l) ∧ sizedMet enc C.prog fn (OpenSpec.ofChange s) b1 w l) (s.post enc C.prog fn b1 b2 b3 b4) := by
  refine returnsInHanded_of_calls h1 h2 h3 h5 ?_
  intro w tape i _ hsh _ hok hpre _
  obtain ⟨_, _, _, fn', hfn', _, _, _, _, hval⟩ := hok
  have e : fn' = fn := Option.some.inj (hfn'.symm.trans h4)
  subst e
  obtain ⟨⟨⟨ds, gs, ps, hw, _⟩, hx⟩, _⟩ := hpre
  have hw' := DataW.Whole.of_heap (w' := w.forCall tape i) (by rfl) hw
  refine (h6 (w.forCall tape i) w.heap.size i.args ds gs ps hsh (hX _ _ _ (by rfl) hx) hval hw').mono fun e W' ⟨v, he, hp⟩ => ?_
  subst he
  exact ChangeSpec.post_blind hp
end Go.Proofs.YtenhnloljdfjhaaDoor
