/- Are the bytes too many? -/
import Derived.Test.YtofpjbdelmmclaaGreatDoorPk35
import Derived.Test.YtofpjbdelmmclaaGreatDoorPk29
import Derived.Test.YtofpjbdelmmclaaGreatDoorPk42
import Derived.Test.YtofpjbdelmmclaaGreatDoorPk19
import Derived.Test.YtofpjbdelmmclaaGreatDoorPk16
import Derived.Test.YtofpjbdelmmclaaGreatDoorPk27
import Derived.Handed
import Derived.HandedShaped
import Derived.Shelf.Vars
import Derived.Test.YtofpjbdelmmclaaGreatDoorPk21
import Derived.Test.YtofpjbdelmmclaaGreatDoorRows
import Derived.Lib.LaidTab
import Derived.Stop.LaidErr
namespace Go.Proofs.YtofpjbdelmmclaaGreatDoor
open Go Go.RowKit
set_option linter.unusedVariables false
set_option linter.unusedSimpArgs false

theorem bigB_any (A B : Option Addr) (n c k d : Nat) (w : World) (hn : n ≤ 9223372036854775807) (hk : k ≤ 9223372036854775807) : Calls Tryz.prog 5 #[.slice A n c, .slice B k d] w fun e w' => ∃ b, e = .returned (.bool b) ∧ w = w' := by
  go_enter Tryz.func5, Tryz.ntmps5
  by_cases h : n ≤ 1048576
  · have h1 : ¬ (1048576 : Int) < n := by omega
    have h2 : IntKind.i64.wrap (1048576 - (n : Int)) = 1048576 - (n : Int) := IntWalk.i64_in _ (by omega)
    by_cases h3 : 1048576 - (n : Int) < k
    · go_wp2_with fail
      go_ret
      simp [h3]
    · go_wp2_with fail
      go_ret
      simp [h3]
  · have h1 : (1048576 : Int) < n := by omega
    go_wp2_with fail
    go_ret
    first | exact ⟨_, rfl, rfl⟩ | exact ⟨_, rfl⟩ | exact rfl

end Go.Proofs.YtofpjbdelmmclaaGreatDoor

/- The law on proofs' texts: reading undoes writing, and no other text is read. -/
namespace Go.Proofs.YtofpjbdelmmclaaGreatDoor
open Go Go.RowKit
set_option linter.unusedVariables false
set_option linter.unusedSimpArgs false

theorem prTS_size {hs : List ByteArray} {ls : List Ln} (h : ls.length ≤ 800) : (prTS hs ls).size ≤ 600 + 39 * ls.length := by
  unfold prTS
  split
  · rename_i hk
    have := pr_size hk ls.length (Nat.le_refl _)
    rwa [List.take_length] at this
  · exact Nat.zero_le _
theorem fits8 {hs : List ByteArray} {ls : List Ln} (h1 : ∀ s ∈ hs, s.size ≤ 8) (h2 : ∀ l ∈ ls, l.row.size ≤ 8) : FitS hs ∧ FitL ls :=
  ⟨fun s h => by have := h1 s h; unfold maxLen; omega, fun l h => by have := h2 l h; unfold maxLen; omega⟩
theorem fits_ok {hs : List ByteArray} {ls : List Ln} (h : shapeB hs ls = true) : FitS hs ∧ FitL ls := by
  obtain ⟨_, _, h1, h2⟩ := shape_parts h
  refine fits8 (fun s hs' => dig_sz (List.all_eq_true.1 h1 s hs')) (fun l hl => dig_sz (ln_parts (List.all_eq_true.1 h2 l hl)).1)
theorem rp_gen {w w' : World} {s : ByteArray} {e : Ending} (h : RPPost w s e w') : ∃ Ah qh Al ql, e = .returned (.tuple #[.agg #[.slice Ah (rdHs s).length qh, .slice Al (rdLs s).length ql], .bool (prR s).isSome]) ∧
    Strs w' (.slice Ah (rdHs s).length qh) (rdHs s) ∧ Nf (.slice Ah (rdHs s).length qh) ∧ Lns w' (.slice Al (rdLs s).length ql) (rdLs s) ∧ Below w.heap.size w w' := by
  obtain ⟨hv, lv, rfl, h1, h2, hb⟩ := h
  have hn := nf_own h1
  obtain ⟨Ah, qh, rfl⟩ := own_slice h1
  obtain ⟨Al, ql, rfl⟩ := own_slice h2
  exact ⟨Ah, qh, Al, ql, rfl, strs_of_own h1, hn, lns_of_own h2, hb⟩
theorem rd_ok {u : ByteArray} (h : (prR u).isSome = true) : shapeB (rdHs u) (rdLs u) = true ∧ prTS (rdHs u) (rdLs u) = u := by
  cases hp : prR u with
  | none => rw [hp] at h; cases h
  | some p =>
    obtain ⟨hs, ls⟩ := p
    have hk := prR_ok hp
    unfold rdHs rdLs
    rw [hp]
    exact ⟨hk.1, by show prTS hs ls = u; unfold prTS; rw [if_pos hk.1]; exact hk.2.1⟩
theorem rp_at {w w' : World} {s : ByteArray} {e : Ending} {hs : List ByteArray} {ls : List Ln} (h : RPPost w s e w') (hp : prR s = some (hs, ls)) : ∃ Ah qh Al ql, e = .returned (.tuple #[.agg #[.slice Ah hs.length qh, .slice Al ls.length ql], .bool true]) ∧
    Strs w' (.slice Ah hs.length qh) hs ∧ Lns w' (.slice Al ls.length ql) ls ∧ Below w.heap.size w w' := by
  obtain ⟨Ah, qh, Al, ql, he, h1, _, h2, hb⟩ := rp_gen h
  have e1 : rdHs s = hs := by unfold rdHs; rw [hp]; rfl
  have e2 : rdLs s = ls := by unfold rdLs; rw [hp]; rfl
  rw [e1, e2, hp] at he
  rw [e1] at h1
  rw [e2] at h2
  exact ⟨Ah, qh, Al, ql, he, h1, h2, hb⟩
set_option maxRecDepth 100000 in
set_option maxHeartbeats 4000000 in
theorem drawReadProof_any (V : Value) (w : World) (h : BytesAt w w.heap.size V) : Calls Tryz.prog 11 #[V] w fun e w' => ∃ u : ByteArray, e = .returned (.string u) ∧ u.size ≤ 1200 ∧ Below w.heap.size w w' := by
  have H := Lib.hid h
  obtain ⟨A0, n0, c0, zs0, rfl, _⟩ := h
  go_enter Tryz.func11, Tryz.ntmps11
  go_wp2_with fail
  refine box1 (C := fun W => Calls _ _ _ W _) ?_
  intro wb hw k0 hB0
  have C0 := Lib.hid (cur_box H.out hw (Nat.le_refl _) k0)
  have Hw := Lib.hid hw
  have HV : BytesAt wb wb.heap.size (.slice A0 n0 c0) := (H.out.keep (fun p hp => hw.cell hp)).more hw.size
  clear k0 hw hB0
  refine (drawProofText_any _ wb HV).mono ?_; rintro e w1 ⟨hv, lv, hs, ls, rfl, hr, hl, hh8, hl8, hn1, hn2, hb1⟩
  have HT := Lib.hid (specProofText_any hv lv hs ls w1 (strs_of_own hr) (linV_lns hl) (fits8 hh8 hl8).1 (fits8 hh8 hl8).2)
  have hz := prTS_size (hs := hs) (ls := ls) (by omega)
  have Hb1 := Lib.hid hb1
  obtain ⟨T, hT⟩ : ∃ T, T = prTS hs ls := ⟨_, rfl⟩
  rw [← hT] at HT hz
  have hz2 : T.size ≤ 1100 := by omega
  clear hr hl hh8 hl8 hb1 hT hz HV
  go_wp2_with fail
  refine HT.out.mono ?_; rintro e w2 ⟨rfl, hb2⟩
  have C2 := Lib.hid ((C0.out.to Hb1.out).to hb2)
  have G2 := Lib.hid (bw_to Hw.out (bw_to Hb1.out hb2))
  clear hb2 HT C0
  go_wp2_with fail
  refine (one_any _ w.heap.size _ 3 C2.out (by omega) (by omega) (by omega)).mono ?_; rintro e w3 ⟨b, rfl, hc3, hg3⟩
  have G3 := Lib.hid (gr_low G2.out hg3 (Nat.le_refl _))
  have C3 := Lib.hid hc3
  clear hc3 hg3
  cases b
  · go_wp2_with fail
    go_ret
    exact ⟨_, rfl, by omega, G3.out⟩
  · go_wp2_with fail
    refine (spoiltX_any _ w.heap.size _ T ⟨#[32, 46, 49, 50, 10]⟩ C3.out (by omega) (by omega) (by decide) (by decide)).mono ?_; rintro e w4 ⟨u, rfl, hu, hc4, hg4⟩
    have G4 := Lib.hid (gr_low G3.out hg4 (Nat.le_refl _))
    have hu2 : u.size ≤ 1200 := by omega
    clear hc4 hg4 hu
    go_wp2_with fail
    go_ret
    exact ⟨_, rfl, hu2, G4.out⟩
set_option maxRecDepth 100000 in
set_option maxHeartbeats 8000000 in
theorem lawProofTexts_any (V : Value) (U : Value) (w : World) (hV : BytesAt w w.heap.size V) (hU : BytesAt w w.heap.size U) (ht : Tab10 w) (hm : MaxOk w) : Calls Tryz.prog 3 #[V, U] w fun e w' => e = .returned (.bool true) ∧ Below w.heap.size w w' := by
  have HV := Lib.hid hV
  have HU := Lib.hid hU
  have HT := Lib.hid ht
  have HM := Lib.hid hm
  obtain ⟨B1, n1, c1, zs1, rfl, _, hnc1, hm1, _⟩ := hV
  obtain ⟨B2, n2, c2, zs2, rfl, _, hnc2, hm2, _⟩ := hU
  unfold maxLen at hm1 hm2
  clear ht hm
  go_enter Tryz.func3, Tryz.ntmps3
  go_wp2_with fail
  refine (bigB_any B1 B2 n1 c1 n2 c2 w (by omega) (by omega)).mono ?_; rintro e w0 ⟨bb, rfl, rfl⟩
  cases bb
  rotate_left
  · go_wp2_with fail
    go_ret
    exact ⟨rfl, Below.refl _ _⟩
  go_wp2_with fail
  refine (drawProofText_any _ w HV.out).mono ?_; rintro e w1 ⟨hv, lv, hs, ls, rfl, hr, hl, hh8, hl8, hn1, hn2, hb1⟩
  have hnf := nf_own hr
  have hS := strs_of_own hr
  have hL := linV_lns hl
  obtain ⟨A1, q1, rfl⟩ := own_slice hr
  obtain ⟨A2, q2, ev, hq3, hq3'⟩ := lns_form hL
  subst ev
  have hfit := fits8 hh8 hl8
  have Hip := Lib.hid (fun W (hW : Below w1.heap.size w1 W) => implProofText_any _ _ hs ls W (hS.to hW) (hL.to hW) hfit.1 hfit.2 hnf (HT.out.to (bw_to hb1 hW)))
  have Hsp := Lib.hid (fun W (hW : Below w1.heap.size w1 W) => specProofText_any _ _ hs ls W (hS.to hW) (hL.to hW) hfit.1 hfit.2)
  have HS := Lib.hid (fun W (hW : Below w1.heap.size w1 W) => hS.to hW)
  have HL := Lib.hid (fun W (hW : Below w1.heap.size w1 W) => hL.to hW)
  have hz := prTS_size (hs := hs) (ls := ls) (by omega)
  have Hb1 := Lib.hid hb1
  have hT0 : prTS hs ls = if shapeB hs ls then prT hs ls else ⟨#[]⟩ := rfl
  have hR0 := fun h => prR_text (hs := hs) (ls := ls) h (by rw [show prT hs ls = prTS hs ls by unfold prTS; rw [if_pos h]]; omega)
  obtain ⟨T, hT⟩ : ∃ T, T = prTS hs ls := ⟨_, rfl⟩
  obtain ⟨ok, hok⟩ : ∃ T, T = shapeB hs ls := ⟨_, rfl⟩
  simp only [← hT, ← hok] at Hip Hsp hz hT0 hR0
  have HT0 := Lib.hid hT0
  have HR0 := Lib.hid hR0
  have hz2 : T.size ≤ 1100 := by omega
  clear hr hl hh8 hl8 hn1 hn2 hnf hS hL hfit hz hT hok hT0 hR0 hq3 hq3' hb1
  go_upto_region 4 with fail
  refine box1 (C := fun W => Code.wp _ _ _ _ W) ?_
  intro w2 hw2 k2 hB2
  have R2 := boxRule k2
  have HR2 := Lib.hid R2
  have c0 := R2 w2 0 (Below.refl _ _)
  have c1' := R2 w2 1 (Below.refl _ _)
  have Hw2 := Lib.hid (bw_to Hb1.out hw2)
  clear k2 R2 hB2
  go_wp2_with fail
  refine (Hip.out _ hw2).mono ?_; rintro e w3 ⟨rfl, hb3⟩
  clear c0 c1'
  have c0 := HR2.out w3 0 hb3
  have c1' := HR2.out w3 1 hb3
  go_wp2_with fail
  refine (Hsp.out _ (bw_to hw2 hb3)).mono ?_; rintro e w4 ⟨rfl, hb4⟩
  have hB4 := bw_to hb3 hb4
  clear c0 c1'
  have W4 := Lib.hid (bw_to Hw2.out hB4)
  have g1 : decide ((T.size : Int) ≤ 20000) = true := by simp; omega
  have HRd : Hid (ok = true → ∀ W, Below w2.heap.size w2 W → Calls Tryz.prog 9 #[.string T] W fun e w' => ∃ Ah qh Al ql, e = .returned (.tuple #[.agg #[.slice Ah hs.length qh, .slice Al ls.length ql], .bool true]) ∧ Strs w' (.slice Ah hs.length qh) hs ∧ Lns w' (.slice Al ls.length ql) ls ∧ Below W.heap.size W w') :=
    Lib.hid (fun hk W hW => (implReadProof_any T W (by omega) (HT.out.to (bw_to Hw2.out hW)) (HM.out.to (bw_to Hw2.out hW))).mono (fun e w' h => rp_at h (by
      have e1 := HT0.out
      rw [hk] at e1
      have e2 := HR0.out hk
      rw [← show T = prT hs ls from e1] at e2
      exact e2)))
  clear HT0 HR0 Hip Hsp
  go_upto_if 42 with fail
  go_cut [42] (fun s42 wx => Below w.heap.size w wx)
  case first =>
    cases ok
    · go_wp2_with fail
      go_meet
      exact W4.out
    · go_wp2_with fail
      refine (HRd.out (by trivial) _ hB4).mono ?_; rintro e w5 ⟨Ah, qh, Al, ql, rfl, hS5, hL5, hb5⟩
      have hB5 := bw_to hB4 hb5
      go_upto_region 10 with fail
      refine box1 (C := fun W => Code.wp _ _ _ _ W) ?_
      intro w6 hw6 k6 hB6
      have R6 := boxRule k6
      have q0 := R6 w6 0 (Below.refl _ _)
      have q1' := R6 w6 1 (Below.refl _ _)
      have hBB6 := bw_to hB5 hw6
      have p0 := HR2.out w6 0 hBB6
      have p1 := HR2.out w6 1 hBB6
      have Hsame := Lib.hid (specSameProof_same _ _ _ _ hs ls w6 (hS5.to hw6) (hL5.to hw6) (HS.out w6 (bw_to hw2 hBB6)) (HL.out w6 (bw_to hw2 hBB6)))
      clear R6 k6 hS5 hL5
      go_wp2_with fail
      refine Hsame.out.mono ?_; rintro e w7 ⟨rfl, hb7⟩
      go_wp2_with fail
      go_meet
      exact bw_to Hw2.out (bw_to hBB6 hb7)
  case rest =>
    have hB := hcut
    have HB := Lib.hid hB
    have HUc : BytesAt wc wc.heap.size (.slice B2 n2 c2) := (HU.out.keep (fun p hp => hB.cell hp)).more hB.size
    have Hdr := Lib.hid (drawReadProof_any _ wc HUc)
    clear hB hcut HUc HRd W4 g1 hb3 hb4 hB4 HS HL HR2 Hw2 hw2 Hb1
    go_wp2_with fail
    refine Hdr.out.mono ?_; rintro e w5 ⟨u, rfl, hu, hb5⟩
    have hB5 := bw_to HB.out hb5
    have Hi := Lib.hid ((implReadProof_any u w5 (by omega) (HT.out.to hB5) (HM.out.to hB5)).mono (fun e w' h => rp_gen h))
    have Hs := Lib.hid (fun W => (specReadProof_any u W (by omega)).mono (fun e w' h => rp_gen h))
    have hok := rd_ok (u := u)
    obtain ⟨H, hH⟩ : ∃ x, x = rdHs u := ⟨_, rfl⟩
    obtain ⟨L, hL⟩ : ∃ x, x = rdLs u := ⟨_, rfl⟩
    obtain ⟨two, htwo⟩ : ∃ x, x = (prR u).isSome := ⟨_, rfl⟩
    rw [← hH, ← hL, ← htwo] at hok
    simp only [← hH, ← hL, ← htwo] at Hi Hs
    have Hok := Lib.hid hok
    clear hH hL htwo hok Hdr
    go_wp2_with fail
    refine Hi.out.mono ?_; rintro e w6 ⟨A3, q3, A4, q4, rfl, hS6, hNf, hL6, hb6⟩
    go_upto_region 14 with fail
    refine box1 (C := fun W => Code.wp _ _ _ _ W) ?_
    intro w7 hw7 k7 hB7
    have R7 := Lib.hid (boxRule k7)
    have HS7 := Lib.hid (fun W (hW : Below w7.heap.size w7 W) => (hS6.to hw7).to hW)
    have HL7 := Lib.hid (fun W (hW : Below w7.heap.size w7 W) => (hL6.to hw7).to hW)
    have HNf := Lib.hid hNf
    have B7 := Lib.hid (bw_to hB5 (bw_to hb6 hw7))
    clear k7 hS6 hL6 hNf hB7
    go_wp2_with fail
    refine (Hs.out _).mono ?_; rintro e w8 ⟨A5, q5, A6, q6, rfl, hS8, _, hL8, hb8⟩
    go_upto_region 15 with fail
    refine box1 (C := fun W => Code.wp _ _ _ _ W) ?_
    intro w9 hw9 k9 hB9
    have R9 := Lib.hid (boxRule k9)
    have hb79 := bw_to hb8 hw9
    have Hsame := Lib.hid (specSameProof_same _ _ _ _ H L w9 (HS7.out w9 hb79) (HL7.out w9 hb79) (hS8.to hw9) (hL8.to hw9))
    have a0 := R7.out w9 0 hb79
    have a1 := R7.out w9 1 hb79
    have b0 := R9.out w9 0 (Below.refl _ _)
    have b1 := R9.out w9 1 (Below.refl _ _)
    clear k9 hS8 hL8 hB9
    cases two
    · go_wp2_with fail
      refine Hsame.out.mono ?_; rintro e w10 ⟨rfl, hb10⟩
      go_wp2_with fail
      go_ret
      exact ⟨rfl, bw_to B7.out (bw_to hb79 hb10)⟩
    · obtain ⟨hk, hT⟩ := Hok.out rfl
      go_wp2_with fail
      refine Hsame.out.mono ?_; rintro e w10 ⟨rfl, hb10⟩
      have hb710 := bw_to hb79 hb10
      have hpt := implProofText_any _ _ H L w10 (HS7.out _ hb710) (HL7.out _ hb710) (fits_ok hk).1 (fits_ok hk).2 HNf.out (HT.out.to (bw_to B7.out hb710))
      rw [hk, hT] at hpt
      have Hpt := Lib.hid hpt
      clear a0 a1 b0 b1 hpt hk hT
      have a0 := R7.out w10 0 hb710
      have a1 := R7.out w10 1 hb710
      go_wp2_with fail
      refine Hpt.out.mono ?_; rintro e w11 ⟨rfl, hb11⟩
      go_wp2_with fail
      go_ret
      exact ⟨rfl, bw_to B7.out (bw_to hb710 hb11)⟩
end Go.Proofs.YtofpjbdelmmclaaGreatDoor

/- A row whose contract is handed the world's shape beside the laid tables; the library's bound for short texts. -/
namespace Go.Proofs.YtofpjbdelmmclaaGreatDoor
open Go Go.RowKit
set_option linter.unusedVariables false
set_option maxRecDepth 100000

theorem maxOk_of {w : World} (h : ∃ m, w.cell? ⟨0, 0, none⟩ = some (.int .i64 m)) : MaxOk w := by
  intro w' hb
  obtain ⟨m, hm⟩ := h
  have hlt : 0 < w.heap.size := by
    rcases Nat.eq_zero_or_pos w.heap.size with h0 | h0
    · unfold World.cell? at hm
      rw [Array.getElem?_eq_none (by show w.heap.size ≤ 0; omega)] at hm
      cases hm
    · exact h0
  exact ⟨m, (hb.cell (p := ⟨0, 0, none⟩) hlt).trans hm⟩
theorem maxOk_shaped {w : World} (h : w.ShapedOpen Tryz.prog) : MaxOk w := by
  have e : (0 : Nat) = 0 := rfl
  exact maxOk_of (cell_of_shapedOpen_int (g := 0) (t := 3) (zero := #[.int .i64 0]) h (of_decide_eq_true (by kernel_rfl)) (by kernel_rfl) rfl (by kernel_rfl) (by kernel_rfl) Tryz.underlying3)
theorem handed_shaped {H : Type} {enc : TypeId × Value → H} {C : Checked} {os : Os} {f : FuncId} {fn : Func} {s : ChangeSpec} {X : World → Array Value → Prop} {D : List PathCond} {b1 b2 b3 b4 : Bool}
    (hX : ∀ (u v : World) (l : Array Value), u.heap = v.heap → X u l → X v l) (h1 : ownKnob C.prog.godebug = none) (h2 : os.Started) (h3 : C.prog.inits.idxOf? f = none) (h4 : C.prog.funcs[f]? = some fn)
    (h5 : ∃ (w : World) (tape : Tape) (i : Input), w.os = os ∧ (w.forCall tape i).Shaped C.prog ∧ i.vars = [] ∧ Input.okWide C.prog (w.forCall tape i) .any w.heap.size f i ∧
      ((s.pre enc C.prog fn D b1 (w.forCall tape i).memory i.args ∧ X (w.forCall tape i).memory i.args) ∧ sizedMet enc C.prog fn (OpenSpec.ofChange s) b1 (w.forCall tape i).memory i.args) ∧ Assume.holds {} C.prog (lone (Frame.enter C.prog f i.args .normal) [] (w.forCall tape i)))
    (h6 : ∀ (W : World) (n : Nat) (l : Array Value) (ds gs : List (DataW H)) (ps : List MemPlace), W.ShapedOpen C.prog → X W l →
      (∀ (j : Nat) t v, fn.params[j]? = some t → l[j]? = some v → Value.okWide C.prog W .any n t v) → DataW.Whole enc C.prog fn.params.toList s.vars b1 W l.toList ds gs ps →
      Calls C.prog f l W fun e W' => ∃ v, e = .returned v ∧ s.post enc C.prog fn b1 b2 b3 b4 W l v W') :
    ReturnsInHanded {} C os f .any (fun w l => (s.pre enc C.prog fn D b1 w l ∧ X w l) ∧ sizedMet enc C.prog fn (OpenSpec.ofChange s) b1 w l) (s.post enc C.prog fn b1 b2 b3 b4) := by
  refine returnsInHanded_of_calls h1 h2 h3 h5 ?_
  intro w tape i _ hsh _ hok hpre _
  obtain ⟨_, _, _, fn', hfn', _, _, _, _, hval⟩ := hok
  have e : fn' = fn := Option.some.inj (hfn'.symm.trans h4)
  subst e
  obtain ⟨⟨⟨ds, gs, ps, hw, _⟩, hx⟩, _⟩ := hpre
  have hw' := DataW.Whole.of_heap (w' := w.forCall tape i) (by rfl) hw
  refine (h6 (w.forCall tape i) w.heap.size i.args ds gs ps hsh (hX _ _ _ (by rfl) hx) hval hw').mono fun e W' ⟨v, he, hp⟩ => ?_
  subst he
  exact ChangeSpec.post_blind hp
end Go.Proofs.YtofpjbdelmmclaaGreatDoor

/- The law ProofTexts, as the row calls it. -/
namespace Go.Proofs.YtofpjbdelmmclaaGreatDoor
open Go Go.RowKit
set_option linter.unusedVariables false

theorem lawProofTexts_row (V : Value) (zV : Nat) (U : Value) (zU : Nat) (w : World) (hV : BytesAt w w.heap.size V) (hU : BytesAt w w.heap.size U) (ht : Tab10 w) (hm : MaxOk w) : Calls Tryz.prog 3 #[V, U] w fun e w' => e = .returned (.bool true) ∧ Below w.heap.size w w' :=
  lawProofTexts_any V U w hV hU ht hm
end Go.Proofs.YtofpjbdelmmclaaGreatDoor

/- From a row's list to the library's table of powers of ten. -/
namespace Go.Proofs.YtofpjbdelmmclaaGreatDoor
open Go Go.RowKit
set_option maxRecDepth 100000
theorem tab_same : (Rows.laid_internal_strconv_uint64pow10 : DataW Unit) = Lib.tabData .u64 Lib.pow10Tab := by kernel_rfl
theorem tab_of {x y : String × DataW Unit} {rest : List (String × DataW Unit)} {W : World} (h : laidMet Tryz.prog (x :: y :: ("internal/strconv.uint64pow10", Rows.laid_internal_strconv_uint64pow10) :: rest) W) : Tab10 W := by
  have h1 := laidMet.tail (laidMet.tail h)
  rw [tab_same] at h1
  exact Lib.tabBelow_of_tabIs (Lib.tabIs_of_head (g := 3) (by kernel_rfl) (t := 197) (e := 68) (n := 20) (by kernel_rfl) Tryz.underlying197 Tryz.underlying68 (by kernel_rfl) (by kernel_rfl) h1)
end Go.Proofs.YtofpjbdelmmclaaGreatDoor
