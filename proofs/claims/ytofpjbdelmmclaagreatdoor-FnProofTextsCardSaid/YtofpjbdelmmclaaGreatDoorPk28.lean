/- Contract: a proof read from its text, the program's. -/
import Derived.Test.YtofpjbdelmmclaaGreatDoorPk27
import Derived.Test.YtofpjbdelmmclaaGreatDoorPk3
namespace Go.Proofs.YtofpjbdelmmclaaGreatDoor
open Go Go.RowKit
set_option linter.unusedVariables false
set_option linter.unusedSimpArgs false

def rdHs (s : ByteArray) : List ByteArray := ((prR s).getD ([], [])).1
def rdLs (s : ByteArray) : List Ln := ((prR s).getD ([], [])).2
def RPPost (w : World) (s : ByteArray) (e : Ending) (w' : World) : Prop := ∃ hv lv, e = .returned (.tuple #[.agg #[hv, lv], .bool (prR s).isSome]) ∧
  w'.ownsRow w.heap.size 9 1 hv (rdHs s).length ((rdHs s).map Value.string) ∧ w'.ownsRow w.heap.size 76 3 lv (rdLs s).length ((rdLs s).flatMap lnC) ∧ Below w.heap.size w w'
theorem rp_none {w w' : World} {s : ByteArray} (h : prR s = none) (hb : Below w.heap.size w w') : RPPost w s (.returned (.tuple #[.agg #[.slice none 0 0, .slice none 0 0], .bool false])) w' := by
  refine ⟨_, _, by rw [h]; rfl, ?_, ?_, hb⟩
  · unfold rdHs; rw [h]; exact World.ownsRow_nil _ _ _ _
  · unfold rdLs; rw [h]; exact World.ownsRow_nil _ _ _ _
theorem rp_some {w w' : World} {s : ByteArray} {hs : List ByteArray} {ls : List Ln} {hv lv : Value} (h : prR s = some (hs, ls)) (h1 : w'.ownsRow w.heap.size 9 1 hv hs.length (hs.map Value.string))
    (h2 : w'.ownsRow w.heap.size 76 3 lv ls.length (ls.flatMap lnC)) (hb : Below w.heap.size w w') : RPPost w s (.returned (.tuple #[.agg #[hv, lv], .bool true])) w' := by
  refine ⟨_, _, by rw [h]; rfl, ?_, ?_, hb⟩
  · unfold rdHs; rw [h]; exact h1
  · unfold rdLs; rw [h]; exact h2
theorem prR_nil {s x : ByteArray} (h : splitW 10 s = [] ++ [x]) : prR s = none := by
  by_cases hz : s.size ≤ 20000
  · rw [prR_impl hz]; unfold prG; rw [h]; rfl
  · exact prR_big hz
theorem prR_no {s : ByteArray} {X : List ByteArray} {x : ByteArray} (h : splitW 10 s = X ++ [x]) (hX : 0 < X.length) (hr : rdAcc lnO (X.drop 1) [] = none) : prR s = none := by
  by_cases hz : s.size ≤ 20000
  · rw [prR_impl hz]; unfold prG; rw [h, List.dropLast_concat]
    cases X with
    | nil => simp at hX
    | cons a t => simp only; rw [show t = (a :: t).drop 1 from rfl, hr]
  · exact prR_big hz
theorem prR_yes {s : ByteArray} {X : List ByteArray} {x : ByteArray} {ls : List Ln} (hz : s.size ≤ 20000) (h : splitW 10 s = X ++ [x]) (hX : 0 < X.length) (hr : rdAcc lnO (X.drop 1) [] = some ls) :
    prR s = if shapeB (hdsO X[0]) ls && decide (prT (hdsO X[0]) ls = s) then some (hdsO X[0], ls) else none := by
  rw [prR_impl hz]; unfold prG; rw [h, List.dropLast_concat]
  cases X with
  | nil => simp at hX
  | cons a t =>
    have hr' : rdAcc lnO t [] = some ls := hr
    simp only
    rw [hr']
    rfl
theorem own_keep {w w' : World} {base : Nat} {e : TypeId} {size n C : Nat} {v : Value} {cs : List Value} (h : w.ownsRow base e size v n cs) (hlt : ∀ g n c, v = .slice (some ⟨g, 0, none⟩) n c → g < C) (hb : Below C w w') : w'.ownsRow base e size v n cs := by
  rcases h.2 with ⟨rfl, h0⟩ | ⟨g, cap, cur, rfl, _⟩
  · exact ⟨h.1, .inl ⟨rfl, h0⟩⟩
  · exact own_blk h (hb.block g (hlt _ _ _ rfl))
theorem own_lts {w : World} {base : Nat} {e : TypeId} {size n : Nat} {v : Value} {cs : List Value} (h : w.ownsRow base e size v n cs) : ∀ g n c, v = .slice (some ⟨g, 0, none⟩) n c → g < w.heap.size := by
  intro g n c e
  rcases h.2 with ⟨rfl, h0⟩ | ⟨g', cap, cur, rfl, hb, hh, _⟩
  · cases e
  · cases e
    exact (Array.getElem?_eq_some_iff.1 hh).1
theorem own_slice {w : World} {base : Nat} {e : TypeId} {size n : Nat} {v : Value} {cs : List Value} (h : w.ownsRow base e size v n cs) : ∃ A c, v = .slice A n c := by
  rcases h.2 with ⟨rfl, rfl⟩ | ⟨g, cap, cur, rfl, _⟩
  · exact ⟨_, _, rfl⟩
  · exact ⟨_, _, rfl⟩
theorem add_one_at (b j : Nat) : (⟨b, 1, none⟩ : Addr).add j = ⟨b, j + 1, none⟩ := by
  cases j with
  | zero => exact add_zero' _
  | succ j => rw [add_succ']; congr 1; show 1 + (j + 1) = _; omega
theorem lnC_one (l : Ln) : ∀ u ∈ lnC l, u.oneCell' = true := by
  intro u hu
  simp [lnC] at hu
  rcases hu with rfl | rfl | rfl <;> rfl
theorem shape_fit {hs : List ByteArray} {ls : List Ln} (h1 : ∀ y ∈ hs, y.size ≤ 1048576) (h2 : ∀ l ∈ ls, l.row.size ≤ 1048576) : FitS hs ∧ FitL ls :=
  ⟨fun s hs' => by have := h1 s hs'; unfold maxLen; omega, fun l hl => by have := h2 l hl; unfold maxLen; omega⟩
theorem splitO_any (s : ByteArray) (c : UInt8) (w : World) (hs : s.size ≤ 1048576) (hm : MaxOk w) : Calls Tryz.prog 43 #[.string s, .string ⟨#[c]⟩] w fun e w' =>
    e = .returned (.slice (some ⟨w.heap.size, 0, none⟩) (splitW c s).length (splitW c s).length) ∧ w'.ownsRow w.heap.size 9 1 (.slice (some ⟨w.heap.size, 0, none⟩) (splitW c s).length (splitW c s).length) (splitW c s).length ((splitW c s).map Value.string) ∧ Below w.heap.size w w' := by
  refine (splitX_any s c w hs hm).mono ?_
  rintro e w' ⟨rfl, rfl⟩
  have := splitW_le (c := c) (s := s)
  exact ⟨rfl, strs_newX w _ (by omega), bw_al (Below.refl _ _) _⟩
theorem hds_no {y : ByteArray} (h : y.toList.isEmpty = true) : hdsO y = [] := by
  rw [empty_iff] at h
  have h' := List.eq_nil_of_length_eq_zero (of_decide_eq_true h)
  unfold hdsO
  rw [if_pos h']
theorem hds_yes {y : ByteArray} (h : y.toList.isEmpty = false) : hdsO y = splitW 32 y := by
  rw [empty_iff] at h
  have h' : ¬ y.data.toList = [] := fun e => of_decide_eq_false h (by rw [e]; rfl)
  unfold hdsO
  rw [if_neg h']
theorem hds_len (y : ByteArray) (h : y.size ≤ 1048576) : (hdsO y).length ≤ 1048577 ∧ ∀ x ∈ hdsO y, x.size ≤ 1048576 := by
  unfold hdsO
  split
  · simp
  · have := splitW_le (c := 32) (s := y)
    exact ⟨by omega, fun x hx => Nat.le_trans (splitW_size x hx) h⟩
set_option maxRecDepth 100000 in
set_option maxHeartbeats 8000000 in
theorem implReadProof_any (s : ByteArray) (w : World) (hs : s.size ≤ 1048576) (ht : Tab10 w) (hm : MaxOk w) : Calls Tryz.prog 9 #[.string s] w (RPPost w s) := by
  obtain ⟨X, x, hL⟩ : ∃ X x, splitW 10 s = X ++ [x] := by
    rcases List.eq_nil_or_concat (splitW 10 s) with h | ⟨X, x, h⟩
    · have := splitW_len 10 s; rw [h] at this; simp at this
    · exact ⟨X, x, by rw [h]; simp⟩
  have hXl : X.length ≤ s.size := by
    have := splitW_le (c := 10) (s := s); rw [hL] at this; simp at this; exact this
  have HXs := Lib.hid (fun y (hy : y ∈ X) => Nat.le_trans (splitW_size (c := 10) (s := s) y (by rw [hL]; simp [hy])) hs)
  have Hlo := Lib.hid (fun W (hW : Below w.heap.size w W) => linesOf_any s X x W hL hs (hm.to hW))
  have Hpl := Lib.hid (fun (y : ByteArray) (hy : y.size ≤ 1048576) W (hW : Below w.heap.size w W) => proofLine_any y W hy (hm.to hW))
  have Hsp := Lib.hid (fun (y : ByteArray) (hy : y.size ≤ 1048576) W (hW : Below w.heap.size w W) => splitO_any y 32 W hy (hm.to hW))
  have Ht := Lib.hid ht
  have HL := Lib.hid hL
  obtain ⟨bx, hbx⟩ : ∃ b, b = x.toList.isEmpty := ⟨_, rfl⟩
  rw [← hbx] at Hlo
  have Hbx := Lib.hid hbx
  clear hL hbx ht hm
  by_cases hsz : s.size ≤ 20000
  rotate_left
  · have hno := Lib.hid (fun W (hW : Below w.heap.size w W) => rp_none (w' := W) (prR_big hsz) hW)
    have g1 : decide ((20000 : Int) < (s.size : Int)) = true := by simp; omega
    go_enter Tryz.func9, Tryz.ntmps9
    go_wp2_with fail
    refine box1 (C := fun W => Calls _ _ _ W _) ?_
    intro wb hw k1 hB0
    have R1 := boxRule k1
    have F1 := fun (j : Nat) w' hb => frozen_of_heap k1 j (w' := w') hb
    have hz := blk_lt k1
    clear k1
    refine (Hlo.out _ hw).mono ?_; rintro e w1 ⟨rfl, hS, hb1⟩
    have c0 := R1 w1 0 hb1
    have c1 := R1 w1 1 hb1
    have f0 := F1 0 w1 hb1
    have f1 := F1 1 w1 hb1
    clear R1 F1 hS
    go_wp2_with fail
    refine bodyPost_ret (v := .tuple #[.agg #[.slice none 0 0, .slice none 0 0], .bool false]) ?hr rfl (hno.out _ ?hb)
    case hb => exact grow_set (grow_set (bw_to hw hb1) (by omega) _) (by omega) _
    case hr => simp [results, go_sem, c0, c1]
  have g1 : decide ((20000 : Int) < (s.size : Int)) = false := by simp; omega
  cases bx
  · have hno := Lib.hid (fun W (hW : Below w.heap.size w W) => rp_none (w' := W) (prR_last HL.out (by
      have e := Hbx.out
      rw [empty_iff] at e
      intro h0
      rw [h0] at e
      simp at e)) hW)
    go_enter Tryz.func9, Tryz.ntmps9
    go_wp2_with fail
    refine box1 (C := fun W => Calls _ _ _ W _) ?_
    intro wb hw k1 hB0
    have R1 := boxRule k1
    have F1 := fun (j : Nat) w' hb => frozen_of_heap k1 j (w' := w') hb
    have hz := blk_lt k1
    clear k1
    refine (Hlo.out _ hw).mono ?_; rintro e w1 ⟨rfl, hS, hb1⟩
    have c0 := R1 w1 0 hb1
    have c1 := R1 w1 1 hb1
    have f0 := F1 0 w1 hb1
    have f1 := F1 1 w1 hb1
    clear R1 F1 hS
    go_wp2_with fail
    refine bodyPost_ret (v := .tuple #[.agg #[.slice none 0 0, .slice none 0 0], .bool false]) ?hr rfl (hno.out _ ?hb)
    case hb => exact grow_set (grow_set (bw_to hw hb1) (by omega) _) (by omega) _
    case hr => simp [results, go_sem, c0, c1]
  obtain ⟨n0, hn0⟩ : ∃ n, n = X.length := ⟨_, rfl⟩
  rw [← hn0] at Hlo
  cases n0 with
  | zero =>
    have hX0 : X = [] := List.eq_nil_of_length_eq_zero hn0.symm
    have hno := Lib.hid (fun W (hW : Below w.heap.size w W) => rp_none (w' := W) (prR_nil (by rw [HL.out, hX0])) hW)
    clear hX0 hn0
    go_enter Tryz.func9, Tryz.ntmps9
    go_wp2_with fail
    refine box1 (C := fun W => Calls _ _ _ W _) ?_
    intro wb hw k1 hB0
    have R1 := boxRule k1
    have F1 := fun (j : Nat) w' hb => frozen_of_heap k1 j (w' := w') hb
    have hz := blk_lt k1
    clear k1
    refine (Hlo.out _ hw).mono ?_; rintro e w1 ⟨rfl, hS, hb1⟩
    have c0 := R1 w1 0 hb1
    have c1 := R1 w1 1 hb1
    have f0 := F1 0 w1 hb1
    have f1 := F1 1 w1 hb1
    clear R1 F1 hS
    go_wp2_with fail
    refine bodyPost_ret (v := .tuple #[.agg #[.slice none 0 0, .slice none 0 0], .bool false]) ?hr rfl (hno.out _ ?hb)
    case hb => exact grow_set (grow_set (bw_to hw hb1) (by omega) _) (by omega) _
    case hr => simp [results, go_sem, c0, c1]
  | succ n =>
    have Hn0 := Lib.hid hn0
    have hnl : n + 1 ≤ 20000 := by omega
    have hXp : 0 < X.length := by omega
    have Hno := Lib.hid (fun (h : rdAcc lnO (X.drop 1) [] = none) W (hW : Below w.heap.size w W) => rp_none (w' := W) (prR_no HL.out hXp h) hW)
    have Hyes := Lib.hid (fun ls (h : rdAcc lnO (X.drop 1) [] = some ls) => prR_yes hsz HL.out hXp h)
    obtain ⟨F, hF⟩ : ∃ F, F = rdAcc lnO (X.drop 1) [] := ⟨_, rfl⟩
    rw [← hF] at Hno Hyes
    have HF := Lib.hid hF
    have Hy0 := Lib.hid (HXs.out X[0] (List.getElem_mem hXp))
    have HX0 : Hid (∀ (k : Nat) (h : k < X.length), X[k].size ≤ 1048576) := Lib.hid (fun k h => HXs.out _ (List.getElem_mem h))
    clear hn0 hF
    go_enter Tryz.func9, Tryz.ntmps9
    go_wp2_with fail
    refine box1 (C := fun W => Calls _ _ _ W _) ?_
    intro wb hw k1 hB0
    have R1 := boxRule k1
    have F1 := fun (j : Nat) w' hb => frozen_of_heap k1 j (w' := w') hb
    have hz := blk_lt k1
    clear k1
    refine (Hlo.out _ hw).mono ?_; rintro e w1 ⟨rfl, hS, hb1⟩
    obtain ⟨A', c', e', h1', h2', hr'⟩ := hS
    injection e' with ea eb ec
    subst ea ec
    clear eb
    have HC : Hid (∀ (k : Nat) (h : k < X.length) W, Below w1.heap.size w1 W → W.cell? ((⟨wb.heap.size, 0, none⟩ : Addr).add k) = some (.string X[k])) := Lib.hid (fun k h W hW => by
      obtain ⟨ad, e, hC⟩ := strs_el hr' h
      cases e
      exact hC W hW)
    clear hr' h1' h2'
    have hB1 := bw_to hw hb1
    have hz1 : w.heap.size < w1.heap.size := by have := hb1.size; omega
    have HR1 := Lib.hid R1
    have HF1 := Lib.hid F1
    have hhh := heap_new w1 (.cells #[.slice none 0 0, .slice none 0 0] 27)
    have Hp0 := Lib.hid (own_of_heap (base := w1.heap.size) (n := 1) (size := 2) hhh (Nat.le_refl _) (by unfold maxLen; omega) rfl)
    have Hz1 : Hid (w1.heap.size + 1 ≤ (w1.alloc (.cells #[.slice none 0 0, .slice none 0 0] 27)).heap.size) := Lib.hid (by simp)
    have hBA := bw_al (Below.refl w1.heap.size w1) (.cells #[.slice none 0 0, .slice none 0 0] 27)
    have q0 := HC.out 0 hXp _ hBA
    rw [add_zero'] at q0
    have HBA := Lib.hid hBA
    clear R1 F1 hhh hBA
    obtain ⟨y0, hy0⟩ : ∃ y, y = X[0] := ⟨_, rfl⟩
    rw [← hy0] at q0 Hy0
    simp only [← hy0] at Hyes
    have Hhl := Lib.hid (hds_len y0 Hy0.out)
    obtain ⟨H, hH⟩ : ∃ H, H = hdsO y0 := ⟨_, rfl⟩
    have HH := Lib.hid hH
    simp only [← hH] at Hyes Hhl
    clear hy0 hH
    go_upto_if 33 with fail
    go_cut [33] (fun s33 wx => ∃ Ah qh, Nf (.slice Ah H.length qh) ∧ wx.ownsRow w1.heap.size 27 2 (.slice (some ⟨w1.heap.size, 0, none⟩) 1 1) 1 [.slice Ah H.length qh, .slice none 0 0] ∧ wx.ownsRow (w1.heap.size + 1) 9 1 (.slice Ah H.length qh) H.length (H.map Value.string) ∧ Below w1.heap.size w1 wx ∧ w1.heap.size + 1 ≤ wx.heap.size)
    case first =>
      cases he : y0.toList.isEmpty
      · have Hd : Hid (H = splitW 32 y0) := Lib.hid (by rw [HH.out, hds_yes he])
        have hsp := Hsp.out y0 Hy0.out _ (bw_to hB1 HBA.out)
        rw [← Hd.out] at hsp
        have Hsp0 := Lib.hid hsp
        clear hsp
        go_wp2_with fail
        refine Hsp0.out.mono ?_; rintro e w2 ⟨rfl, ho2, hb2⟩
        have hsa : (w1.alloc (.cells #[.slice none 0 0, .slice none 0 0] 27)).heap.size = w1.heap.size + 1 := by simp
        rw [hsa] at ho2
        clear hsa
        have hout2 := own_to Hp0.out hb2
        have s0 := hout2.cellAt 0 (by omega)
        have f0 := hout2.frozenAt 0
        have hz2 := hb2.size
        have hBx := bw_to HBA.out hb2
        have Ho2 := Lib.hid ho2
        clear ho2
        go_wp2_with fail
        go_meet
        refine ⟨_, _, nf_blk, own_set hout2 0 _, own_past Ho2.out (Nat.lt_succ_self _) _ _, grow_set hBx (Nat.le_refl _) _, ?_⟩
        have h7 := Hz1.out
        have h8 : ∀ (W : World) p v, (W.setCell p v).heap.size = W.heap.size := by intro W p v; simp
        rw [h8]
        exact Nat.le_trans h7 hz2
      · have Hd : Hid (H = []) := Lib.hid (by rw [HH.out, hds_no he])
        go_wp2_with fail
        go_meet
        have hd := Hd.out
        subst hd
        exact ⟨none, 0, nf_none rfl, Hp0.out, World.ownsRow_nil _ _ _ _, HBA.out, Hz1.out⟩
    case rest =>
      obtain ⟨Ah, qh, hnf, hout0, hho0, hBx, hzx⟩ := hcut
      have Hout0 := Lib.hid hout0
      have Hho0 := Lib.hid hho0
      have hlt0 := own_lts hho0
      have Hlt := Lib.hid hlt0
      have Hnf := Lib.hid hnf
      clear q0 hout0 hho0 hlt0 hnf Hp0 Hz1 HBA
      go_wp2_with fail
      go_loopw [42] (fun i wr => ∃ (j : Nat) (acc : List Ln) (A' : Option Addr) (c' : Nat), j ≤ n ∧ i = .int .i64 j ∧ acc.length = j ∧ (∀ l ∈ acc, l.row.size ≤ 1048576) ∧ wr.ownsRow w1.heap.size 27 2 (.slice (some ⟨w1.heap.size, 0, none⟩) 1 1) 1 [.slice Ah H.length qh, .slice A' j c'] ∧
        wr.ownsRow (w1.heap.size + 1) 9 1 (.slice Ah H.length qh) H.length (H.map Value.string) ∧ wr.ownsRow wc.heap.size 76 3 (.slice A' j c') j (acc.flatMap lnC) ∧ Below w1.heap.size w1 wr ∧ wc.heap.size ≤ wr.heap.size ∧ Hid (rdAcc lnO ((X.drop 1).drop j) acc = F)) (fun i _ => n - (intOf i).toNat)
      case atStart => exact ⟨0, [], none, 0, Nat.zero_le _, rfl, rfl, by simp, Hout0.out, Hho0.out, World.ownsRow_nil _ _ _ _, hBx, Nat.le_refl _, Lib.hid (by rw [List.drop_zero, HF.out])⟩
      case round =>
        obtain ⟨j, acc, A', c', hj, rfl, hal, hfit, hout, hho, hrow, hB, hsz2, Hr⟩ := hrel
        have Hal := Lib.hid hal
        have Hfit := Lib.hid hfit
        have Hout := Lib.hid hout
        have Hho := Lib.hid hho
        have Hrow := Lib.hid hrow
        have hBw := bw_to hB1 hB
        clear hal hfit hout hho hrow
        by_cases hlt : j < n
        · have hjX : j + 1 < X.length := by have := Hn0.out; omega
          have qj : wr.cell? ⟨wb.heap.size, 1 + j, none⟩ = some (.string X[j + 1]) := by
            have := HC.out (j + 1) hjX wr hB
            rw [add_succ'] at this
            rw [show 1 + j = 0 + (j + 1) by omega]
            simpa using this
          have hdrop : (X.drop 1).drop j = X[j + 1] :: (X.drop 1).drop (j + 1) := by
            rw [List.drop_drop, List.drop_drop, show 1 + j = j + 1 by omega, show 1 + (j + 1) = j + 1 + 1 by omega]
            exact List.drop_eq_getElem_cons hjX
          have hr2 := Hr.out
          rw [hdrop] at hr2
          have Hy := Lib.hid (HX0.out (j + 1) hjX)
          obtain ⟨y, hy⟩ : ∃ y, y = X[j + 1] := ⟨_, rfl⟩
          rw [← hy] at qj hr2 Hy
          have hpl := Hpl.out y Hy.out wr hBw
          have hrow2 := lnQ_row y
          have hO := lnO_is y
          obtain ⟨q, hq⟩ : ∃ q, q = lnQ y := ⟨_, rfl⟩
          obtain ⟨g, hg⟩ : ∃ g, g = lnG y := ⟨_, rfl⟩
          rw [← hq] at hpl hrow2 hO
          rw [← hg] at hpl hO
          have Hp := Lib.hid hpl
          have HO := Lib.hid hO
          have Hr2 := Lib.hid hr2
          have Hqs := Lib.hid (Nat.le_trans hrow2 Hy.out)
          clear hdrop hr2 hy hpl hrow2 hO hq hg
          go_wp2_with fail
          refine Hp.out.mono ?_; rintro e w3 ⟨rfl, hb3⟩
          go_upto_region 11 with fail
          refine box1 (C := fun W => Code.wp _ _ _ _ W) ?_
          intro w5 hw5 k5 hB5
          have R5 := boxRule k5
          have hb5 := bw_to hb3 hw5
          have hBw5 := bw_to hB hb5
          have hBb5 := bw_to hb1 hBw5
          have hsz5 := Nat.le_trans hsz2 hb5.size
          clear k5 hw5 hb3 qj
          cases g
          · have Hbad := Lib.hid (Hno.out (by rw [← Hr2.out, rd_none (by rw [HO.out]; rfl)]))
            have c0 := HR1.out w5 0 hBb5
            have c1 := HR1.out w5 1 hBb5
            have f0 := HF1.out 0 w5 hBb5
            have f1 := HF1.out 1 w5 hBb5
            clear R5
            go_wp2_with fail
            refine bodyPost_ret (v := .tuple #[.agg #[.slice none 0 0, .slice none 0 0], .bool false]) ?hr rfl (Hbad.out _ ?hb)
            case hb => exact grow_set (grow_set (bw_to hw hBb5) (by omega) _) (by omega) _
            case hr => simp [results, go_sem, c0, c1]
          · have p0 := R5 w5 0 (Below.refl _ _)
            have p1 := R5 w5 1 (Below.refl _ _)
            have p2 := R5 w5 2 (Below.refl _ _)
            have hout5 := own_to Hout.out hb5
            have s1 := hout5.cellAt 1 (by omega)
            have Hrow5 := Lib.hid (own_to Hrow.out hb5)
            have Hho5 := Lib.hid (own_to Hho.out hb5)
            have Hout5 := Lib.hid hout5
            clear R5 hout5 hB5
            go_wp2_with (at_builtin; go_must (refine wpList_app _ rfl _ _ _ rfl wc.heap.size 76 _ 3 32 Tryz.underlying25 info_line (by rfl) (by omega) Hrow5.out [.string q.row, .int .i64 q.lead, .int .i64 q.at'] (by rfl) (by rfl) (by rfl) (lnC_one q) (by omega) (by omega) hsz5 ?_); intro v6 w6 hown6 hb6 _ _; (obtain ⟨A2, q2, rfl⟩ := own_slice hown6); (have hout6 := own_blk Hout5.out (hb6.block w1.heap.size (by omega))); (have s2 := hout6.cellAt 1 (by omega)); (have f2 := hout6.frozenAt 1); (have Hout6 := Lib.hid hout6); (have Hown6 := Lib.hid hown6); (have Hb6 := Lib.hid hb6); clear hout6 hown6 hb6)
            have h8 : ∀ (W : World) p v, (W.setCell p v).heap.size = W.heap.size := by intro W p v; simp
            refine ⟨⟨j + 1, acc ++ [q], A2, q2, by omega, by go_num, by rw [List.length_append, Hal.out]; rfl, ?_, own_set Hout6.out 1 _, own_past (own_keep Hho5.out Hlt.out Hb6.out) (Nat.lt_succ_self _) _ _, ?_, grow_set (Below.trans hBw5 (Hb6.out.mono (by omega))) (Nat.le_refl _) _, by rw [h8]; exact Nat.le_trans hsz5 Hb6.out.size, ?_⟩, by simp [intOf]; omega⟩
            · intro l hl
              rcases List.mem_append.1 hl with hl | hl
              · exact Hfit.out l hl
              · simp at hl; rw [hl]; exact Hqs.out
            · rw [List.flatMap_append]
              exact own_past Hown6.out (by omega) _ _
            · exact Lib.hid (by rw [← Hr2.out, rd_some (by rw [HO.out]; rfl)])
        · obtain rfl : j = n := by omega
          have hFa : F = some acc := by
            have e := Hr.out
            rw [List.drop_eq_nil_of_le (by rw [List.length_drop]; have := Hn0.out; omega)] at e
            exact e.symm
          have hy := Hyes.out acc hFa
          have hfits := shape_fit Hhl.out.2 Hfit.out
          have HS := Lib.hid (strs_of_own Hho.out)
          have HLn := Lib.hid (lns_own_v Hal.out Hrow.out)
          have Hgp := Lib.hid (fun W (hW : Below wr.heap.size wr W) => goodProof_any _ _ H acc W (HS.out.to hW) (HLn.out.to hW) hfits.1 hfits.2)
          have Hpt := Lib.hid (fun W (hW : Below wr.heap.size wr W) (hk : shapeB H acc = true) => proofText0_any _ _ H acc W (HS.out.to hW) (HLn.out.to hW) Hnf.out hk (Ht.out.to (bw_to hBw hW)))
          obtain ⟨ok, hok⟩ : ∃ b, b = shapeB H acc := ⟨_, rfl⟩
          rw [← hok] at hy Hgp Hpt
          obtain ⟨P, hP⟩ : ∃ P, P = prT H acc := ⟨_, rfl⟩
          rw [← hP] at hy Hpt
          have HY := Lib.hid hy
          have s0 := Hout.out.cellAt 0 (by omega)
          have s1 := Hout.out.cellAt 1 (by omega)
          clear hFa hy hfits hok hP
          go_wp2_with fail
          refine (Hgp.out _ (Below.refl _ _)).mono ?_; rintro e w6 ⟨rfl, hb6⟩
          have hB6 := bw_to hB hb6
          have hBb6 := bw_to hb1 hB6
          cases ok
          · have Hbad := Lib.hid (fun W (hW : Below w.heap.size w W) => rp_none (s := s) (w' := W) (by rw [HY.out]; rfl) hW)
            have c0 := HR1.out w6 0 hBb6
            have c1 := HR1.out w6 1 hBb6
            have f0 := HF1.out 0 w6 hBb6
            have f1 := HF1.out 1 w6 hBb6
            clear s0 s1
            go_wp2_with fail
            refine bodyPost_ret (v := .tuple #[.agg #[.slice none 0 0, .slice none 0 0], .bool false]) ?hr rfl (Hbad.out _ ?hb)
            case hb => exact grow_set (grow_set (bw_to hw hBb6) (by omega) _) (by omega) _
            case hr => simp [results, go_sem, c0, c1]
          · have hout6 := own_to Hout.out hb6
            have s0' := hout6.cellAt 0 (by omega)
            have s1' := hout6.cellAt 1 (by omega)
            clear s0 s1 hout6
            go_wp2_with fail
            refine (Hpt.out _ hb6 (by trivial)).mono ?_; rintro e w7 ⟨rfl, hb7⟩
            have hB7 := bw_to hB6 hb7
            have hBb7 := bw_to hb1 hB7
            have hb67 := bw_to hb6 hb7
            have c0 := HR1.out w7 0 hBb7
            have c1 := HR1.out w7 1 hBb7
            have f0 := HF1.out 0 w7 hBb7
            have f1 := HF1.out 1 w7 hBb7
            have hout7 := own_to Hout.out hb67
            have t0 := hout7.cellAt 0 (by omega)
            have t1 := hout7.cellAt 1 (by omega)
            clear s0' s1' hout7
            by_cases hPs : P = s
            · have Hok := Lib.hid (fun W => rp_some (w := w) (w' := W) (hv := .slice Ah H.length qh) (lv := .slice A' j c') (by rw [HY.out, decide_eq_true hPs]; rfl))
              subst hPs
              have Hho7 := Lib.hid (own_to Hho.out hb67)
              have Hrow7 := Lib.hid (own_to Hrow.out hb67)
              go_wp2_with fail
              refine bodyPost_ret (v := .tuple #[.agg #[.slice Ah H.length qh, .slice A' j c'], .bool true]) ?hr rfl (Hok.out _ ?ho ?hl ?hb)
              case hb => exact grow_set (grow_set (bw_to hw hBb7) (by omega) _) (by omega) _
              case hr => simp [results, go_sem, c0, c1]
              case ho => exact own_base (own_past (own_past Hho7.out (by omega) _ _) (by omega) _ _) (by omega)
              case hl =>
                have e := Hal.out
                rw [e]
                exact own_base (own_past (own_past Hrow7.out (by omega) _ _) (by omega) _ _) (by omega)
            · have Hbad := Lib.hid (fun W (hW : Below w.heap.size w W) => rp_none (s := s) (w' := W) (by rw [HY.out, decide_eq_false hPs]; rfl) hW)
              have hPl : ¬ P.toList = s.toList := by
                intro e
                rw [bytes_toList, bytes_toList] at e
                exact hPs (by apply ByteArray.ext; exact Array.toList_inj.1 e)
              have hPb : (P.toList == s.toList) = false := by simpa using hPl
              go_wp2_with fail
              refine bodyPost_ret (v := .tuple #[.agg #[.slice none 0 0, .slice none 0 0], .bool false]) ?hr rfl (Hbad.out _ ?hb)
              case hb => exact grow_set (grow_set (bw_to hw hBb7) (by omega) _) (by omega) _
              case hr => simp [results, go_sem, c0, c1]
end Go.Proofs.YtofpjbdelmmclaaGreatDoor
