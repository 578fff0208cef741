/- Contracts: do all ways agree, both sides. -/
import Derived.Test.YthgadnhkbmimiaaGreatPk35
import Derived.Test.YthgadnhkbmimiaaGreatPk4
import Derived.Test.YthgadnhkbmimiaaGreatPk5
namespace Go.Proofs.YthgadnhkbmimiaaGreat
open Go Go.RowKit
set_option linter.unusedVariables false
set_option linter.unusedSimpArgs false

noncomputable def agB (m : Mt) (k : Cl) (t : ByteArray) : List Bool := if okT m k t then [decide (rowsT m k t).Nodup, thB m.stage.toNat m k t, proofB m k t] else []
theorem agB_no {m : Mt} {k : Cl} {t : ByteArray} (h : okT m k t = false) : agB m k t = [] := by unfold agB; rw [h]; rfl
theorem agB_yes {m : Mt} {k : Cl} {t : ByteArray} {n : Nat} (h : okT m k t = true) (hs : m.stage = (n : Int)) : agB m k t = [decide (rowsT m k t).Nodup, thB n m k t, proofB m k t] := by
  unfold agB; rw [h, hs]; rfl
theorem proofAt_form {W : World} {base : Nat} {m : Mt} {k : Cl} {t : ByteArray} {hv lv : Value} (h : ProofAt W base m k t hv lv) : ∃ A n c A' n' c', hv = .slice A n c ∧ lv = .slice A' n' c' := by
  unfold ProofAt at h
  cases hp : proofB m k t
  · rw [hp] at h
    exact ⟨_, _, _, _, _, _, h.1, h.2⟩
  · rw [hp] at h
    obtain ⟨A, c, e, _⟩ := sl_of_own h.1
    obtain ⟨A', c', e', _⟩ := sl_of_own h.2
    exact ⟨_, _, _, _, _, _, e, e'⟩
set_option maxRecDepth 100000 in
set_option maxHeartbeats 4000000 in
theorem implAllAgree_any (m : Mt) (v : Value) (k : Cl) (t : ByteArray) (w : World) (h : MethAt w m v) (hs : MtSmall m) (hk : ClSmall k) (ht : t.size ≤ maxLen) : Calls Tryz.prog 16 #[m.v v, k.v, .string t] w fun e w' =>
    ∃ A q, e = .returned (.tuple #[.slice A (agB m k t).length q, .bool (okT m k t)]) ∧ w'.ownsRow w.heap.size 4 1 (.slice A (agB m k t).length q) (agB m k t).length ((agB m k t).map Value.bool) ∧ Below w.heap.size w w' := by
  have Htr := Lib.hid (fun W (hW : Below w.heap.size w W) => implTouchRows_any m v k t W (h.to hW) hs hk ht)
  have Hmp := Lib.hid (fun W (hW : Below w.heap.size w W) => implMakeProof_any m v k t W (h.to hW) hs hk ht)
  have hv0 := h.1
  cases hok : okT m k t
  · have hro : rowsO m k t = [] := by unfold rowsO; rw [hok]; rfl
    have ha := agB_no hok
    simp only [hok, hro] at Htr
    rw [ha]
    obtain ⟨A, c, hv⟩ := h.form
    subst hv
    unfold Mt.v Cl.v at *
    clear h hs hk ht hv0 hok hro ha Hmp
    go_enter Tryz.func16, Tryz.ntmps16
    go_wp2_with fail
    refine box2 (C := fun W => Calls _ _ _ W _) ?_
    intro wb hw k1 k2 hB0
    have R1 := boxRule k1
    have R2 := boxRule k2
    clear k1 k2
    refine (Htr.out _ hw).mono ?_; rintro e w1 ⟨A1, q1, rfl, hown, hb1⟩
    clear hown
    go_wp2_with fail
    go_ret2
    exact ⟨none, 0, rfl, World.ownsRow_nil _ _ _ _, bw_to hw hb1⟩
  · have hro : rowsO m k t = rowsT m k t := by unfold rowsO; rw [if_pos hok]
    have hask : askT m k t = true := by unfold okT at hok; rw [Bool.and_eq_true] at hok; exact hok.1
    have hask' := hask
    unfold askT at hask'
    rw [Bool.and_eq_true] at hask'
    obtain ⟨n, hg⟩ := cgood_of hask'.1
    have hrs := rows_size hok
    have hn := hg.m.hi
    have Hin := Lib.hid (rowsT_in (k := k) hg.m t)
    have Hit := Lib.hid (fun W V (hV : Strs W V (rowsT m k t)) => isTrue_any V (rowsT m k t) W hV (by omega) (fun s hs => by rw [(Hin.out s hs).1.1]; omega))
    have Hth := Lib.hid (fun W (hW : Below w.heap.size w W) => trueByHeads_any m v k t n W hg (hv0.to hW) hask'.2)
    have ha := agB_yes hok hg.m.st
    simp only [hok, hro] at Htr
    rw [ha]
    obtain ⟨nd, hnd⟩ : ∃ b, b = decide (rowsT m k t).Nodup := ⟨_, rfl⟩
    obtain ⟨th, hth⟩ : ∃ b, b = thB n m k t := ⟨_, rfl⟩
    obtain ⟨pb, hpb⟩ : ∃ b, b = proofB m k t := ⟨_, rfl⟩
    simp only [← hnd, ← hth, ← hpb] at Hit Hth Hmp ⊢
    obtain ⟨A, c, hv⟩ := h.form
    subst hv
    obtain ⟨rows, hrows⟩ : ∃ r, r = rowsT m k t := ⟨_, rfl⟩
    simp only [← hrows] at Htr Hit hrs
    unfold Mt.v Cl.v at *
    clear h hs hk ht hv0 hok hro ha hask hask' hg hnd hth hpb hrows Hin
    go_enter Tryz.func16, Tryz.ntmps16
    go_wp2_with fail
    refine box2 (C := fun W => Calls _ _ _ W _) ?_
    intro wb hw k1 k2 hB0
    have R1 := boxRule k1
    have R2 := boxRule k2
    clear k1 k2
    refine (Htr.out _ hw).mono ?_; rintro e w1 ⟨A1, q1, rfl, hown1, hb1⟩
    have hS1 := strs_of_own hown1
    have HS := Lib.hid (fun W (hW : Below w1.heap.size w1 W) => hS1.to hW)
    have hw1 := bw_to hw hb1
    clear hown1 hS1
    go_wp2_with fail
    refine (Hmp.out _ hw1).mono ?_; rintro e w2 ⟨hv, lv, rfl, hpa, hb2⟩
    obtain ⟨Ah, nh, ch, Al, nl, cl, rfl, rfl⟩ := proofAt_form hpa
    clear hpa
    have hB2 := bw_to hb1 hb2
    go_upto_region 5 with fail
    refine box1 (C := fun W => Code.wp _ _ _ _ W) ?_
    intro w3 hw3 k3 hB03
    have hB3 := bw_to hB2 hw3
    have hwB3 := bw_to hw hB3
    have r1 := fun W i (hW : Below w3.heap.size w3 W) => R1 W i (bw_to hB3 hW)
    have r2 := fun W i (hW : Below w3.heap.size w3 W) => R2 W i (bw_to hB3 hW)
    have Hit3 := Lib.hid (fun W (hW : Below w3.heap.size w3 W) => Hit.out W (.slice A1 rows.length q1) (HS.out W (bw_to (bw_to hb2 hw3) hW)))
    have Hth3 := Lib.hid (fun W (hW : Below w3.heap.size w3 W) => Hth.out W (bw_to hwB3 hW))
    have hdr : Below w3.heap.size w3 w3.drew := Below.drew (Below.refl _ _)
    clear R1 R2 k3
    go_region_held3 (fun W => Below w3.heap.size w3 W) (first | with_reducible assumption | exact Below.drew (by with_reducible assumption) | exact bw_to (by with_reducible assumption) hb' | exact bw_al (by with_reducible assumption) _)
      (first | (go_at_call 51; (with_reducible refine (Hit3.out _ (by with_reducible assumption)).mono ?_); rintro e w' ⟨rfl, hb'⟩; (have hBn := bw_to (by assumption : Below w3.heap.size w3 _) hb')) | (go_at_call 52; (with_reducible refine (Hth3.out _ (by with_reducible assumption)).mono ?_); rintro e w' ⟨rfl, hb'⟩; (have hBn := bw_to (by assumption : Below w3.heap.size w3 _) hb')))
    all_goals
      have hBB : Below w3.heap.size w3 w' := by assumption
      have Ho := Lib.hid (own_of_heap (base := w.heap.size) (n := 3) (size := 1) (heap_new w' (.cells #[.bool nd, .bool th, .bool pb] 4)) (by have := hBB.size; have := hwB3.size; omega) (by unfold maxLen; omega) rfl)
      have HB := Lib.hid (bw_al (bw_to hwB3 hBB) (.cells #[.bool nd, .bool th, .bool pb] 4))
      go_wp2_with fail
      go_ret2
      exact ⟨_, _, rfl, Ho.out, HB.out⟩
set_option maxRecDepth 100000 in
set_option maxHeartbeats 4000000 in
theorem specAllAgree_any (m : Mt) (v : Value) (k : Cl) (t : ByteArray) (w : World) (h : MethAt w m v) (hs : MtSmall m) (hk : ClSmall k) (ht : t.size ≤ 1048576) : Calls Tryz.prog 15 #[m.v v, k.v, .string t] w fun e w' =>
    ∃ A q, e = .returned (.tuple #[.slice A (agB m k t).length q, .bool (okT m k t)]) ∧ w'.ownsRow w.heap.size 4 1 (.slice A (agB m k t).length q) (agB m k t).length ((agB m k t).map Value.bool) ∧ Below w.heap.size w w' := by
  have Htr := Lib.hid (fun W (hW : Below w.heap.size w W) => specTouchRows_any m v k t W (h.to hW) hs hk ht)
  have Hmp := Lib.hid (fun W (hW : Below w.heap.size w W) => specMakeProof_any m v k t W (h.to hW) hs hk ht)
  have hv0 := h.1
  cases hok : okT m k t
  · have hro : rowsO m k t = [] := by unfold rowsO; rw [hok]; rfl
    have ha := agB_no hok
    simp only [hok, hro] at Htr
    rw [ha]
    obtain ⟨A, c, hv⟩ := h.form
    subst hv
    unfold Mt.v Cl.v at *
    clear h hs hk ht hv0 hok hro ha Hmp
    go_enter Tryz.func15, Tryz.ntmps15
    go_wp2_with fail
    refine box2 (C := fun W => Calls _ _ _ W _) ?_
    intro wb hw k1 k2 hB0
    have R1 := boxRule k1
    have R2 := boxRule k2
    clear k1 k2
    refine (Htr.out _ hw).mono ?_; rintro e w1 ⟨A1, q1, rfl, hown, hb1⟩
    clear hown
    go_wp2_with fail
    go_ret2
    exact ⟨none, 0, rfl, World.ownsRow_nil _ _ _ _, bw_to hw hb1⟩
  · have hro : rowsO m k t = rowsT m k t := by unfold rowsO; rw [if_pos hok]
    have hask : askT m k t = true := by unfold okT at hok; rw [Bool.and_eq_true] at hok; exact hok.1
    have hask' := hask
    unfold askT at hask'
    rw [Bool.and_eq_true] at hask'
    obtain ⟨n, hg⟩ := cgood_of hask'.1
    have hrs := rows_size hok
    have hn := hg.m.hi
    have Hit := Lib.hid (fun W V (hV : Strs W V (rowsT m k t)) hn => l7True_any V (rowsT m k t) W hV hn (by omega))
    have Hth := Lib.hid (fun W (hW : Below w.heap.size w W) => specTrueByHeads_yes m v k t n W hg hask (h.to hW) hs hk (Nat.le_trans ht (by unfold maxLen; omega)))
    have ha := agB_yes hok hg.m.st
    simp only [hok, hro] at Htr
    rw [ha]
    obtain ⟨nd, hnd⟩ : ∃ b, b = decide (rowsT m k t).Nodup := ⟨_, rfl⟩
    obtain ⟨th, hth⟩ : ∃ b, b = thB n m k t := ⟨_, rfl⟩
    obtain ⟨pb, hpb⟩ : ∃ b, b = proofB m k t := ⟨_, rfl⟩
    simp only [← hnd, ← hth, ← hpb] at Hit Hth Hmp ⊢
    obtain ⟨A, c, hv⟩ := h.form
    subst hv
    obtain ⟨rows, hrows⟩ : ∃ r, r = rowsT m k t := ⟨_, rfl⟩
    simp only [← hrows] at Htr Hit hrs
    unfold Mt.v Cl.v at *
    clear h hs hk ht hv0 hok hro ha hask hask' hg hnd hth hpb hrows
    go_enter Tryz.func15, Tryz.ntmps15
    go_wp2_with fail
    refine box2 (C := fun W => Calls _ _ _ W _) ?_
    intro wb hw k1 k2 hB0
    have R1 := boxRule k1
    have R2 := boxRule k2
    clear k1 k2
    refine (Htr.out _ hw).mono ?_; rintro e w1 ⟨A1, q1, rfl, hown1, hb1⟩
    have hS1 := strs_of_own hown1
    have hnl := Lib.hid (nilok_own hown1)
    have HS := Lib.hid (fun W (hW : Below w1.heap.size w1 W) => hS1.to hW)
    have hw1 := bw_to hw hb1
    clear hown1 hS1
    go_wp2_with fail
    refine (Hth.out _ hw1).mono ?_; rintro e w2 ⟨rfl, hb2⟩
    have hB2 := bw_to hb1 hb2
    go_wp2_with fail
    refine (Hmp.out _ (bw_to hw hB2)).mono ?_; rintro e w3 ⟨hv, lv, rfl, hpa, hb3⟩
    obtain ⟨Ah, nh, ch, Al, nl, cl, rfl, rfl⟩ := proofAt_form hpa
    have hB3 := bw_to hB2 hb3
    clear hpa
    go_wp2_with fail
    refine box1 (C := fun W => Calls _ _ _ W _) ?_
    intro w4 hw4 k4 hB04
    have hwB4 := bw_to hw (bw_to hB3 hw4)
    refine (Hit.out _ _ (HS.out _ (bw_to (bw_to hb2 hb3) hw4)) hnl.out).mono ?_; rintro e w5 ⟨rfl, hb5⟩
    have hBB := bw_to hwB4 hb5
    have Ho := Lib.hid (own_of_heap (base := w.heap.size) (n := 3) (size := 1) (heap_new w5 (.cells #[.bool nd, .bool th, .bool pb] 4)) (by have := hBB.size; omega) (by unfold maxLen; omega) rfl)
    have HB := Lib.hid (bw_al hBB (.cells #[.bool nd, .bool th, .bool pb] 4))
    clear k4
    go_wp2_with fail
    go_ret2
    exact ⟨_, _, rfl, Ho.out, HB.out⟩
end Go.Proofs.YthgadnhkbmimiaaGreat

/- Texts and methods marked; a variable that holds a method. -/
namespace Go.Proofs.YthgadnhkbmimiaaGreat
open Go Go.RowKit
set_option linter.unusedVariables false
set_option linter.unusedSimpArgs false

def marksT (k n : Nat) : List ByteArray := (List.range n).map fun i => mText (k + i)
theorem marksT_length (k n : Nat) : (marksT k n).length = n := by simp [marksT]
theorem marksT_get {k n i : Nat} (h : i < (marksT k n).length) : (marksT k n)[i] = mText (k + i) := by simp [marksT]
theorem marksT_succ (k n : Nat) : marksT k (n + 1) = marksT k n ++ [mText (k + n)] := by simp [marksT, List.range_succ]
set_option maxHeartbeats 1000000 in
theorem markStringS_any (v : Value) (n k0 : Nat) (cs : List Value) (base : Nat) (w : World) (h : w.ownsRow base 9 1 v n cs) (hn : n ≤ 100000000) (hk0 : k0 ≤ 100000000000000) : Calls Tryz.prog 26 #[v, .int .i64 k0] w fun e w' =>
    e = .returned (.int .i64 ((k0 + n : Nat) : Int)) ∧ w'.ownsRow base 9 1 v n ((marksT k0 n).map Value.string) ∧ w.grownBy w' v.ownBlock := by
  rcases h.2 with ⟨rfl, rfl⟩ | ⟨g, cap, cur, rfl, hbg, hh, hnc, hcm, _⟩
  · go_enter Tryz.func26, Tryz.ntmps26
    go_wp2_with fail
    go_loopw [1, 5] (fun q i wr => q = .int .i64 k0 ∧ i = .int .i64 0 ∧ wr = w) (fun _ _ _ => 0)
    case atStart => exact ⟨rfl, rfl, rfl⟩
    case round =>
      obtain ⟨rfl, rfl, rfl⟩ := hrel
      go_wp2_with fail
      go_ret
      exact ⟨rfl, World.ownsRow_nil _ _ _ _, gr_refl _ _⟩
  · unfold maxLen at hcm
    go_enter Tryz.func26, Tryz.ntmps26
    go_wp2_with fail
    go_loopw [1, 5] (fun q i wr => ∃ k : Nat, k ≤ n ∧ i = .int .i64 k ∧ q = .int .i64 ((k0 + k : Nat) : Int) ∧ (∃ ds, wr.ownsRow base 9 1 (.slice (some ⟨g, 0, none⟩) n cap) n ds ∧ ds.take k = (marksT k0 k).map Value.string) ∧ w.grownBy wr (some g)) (fun _ i _ => n - (intOf i).toNat)
    case atStart => exact ⟨0, by omega, rfl, rfl, ⟨_, h, rfl⟩, gr_refl _ _⟩
    case round =>
      obtain ⟨k, hk, rfl, rfl, ⟨ds, hown, hds⟩, hgr⟩ := hrel
      have Hds := Lib.hid hds
      clear hds
      by_cases hlt : k < n
      · go_wp2_with fail
        refine (markText_any (k0 + k) _ (by omega)).mono ?_; rintro e w2 ⟨rfl, hb2⟩
        have hown2 := own_to hown hb2
        have hgr2 := gr_below hgr hb2
        obtain ⟨y0, hy⟩ := own_some hown2 (j := k) (by omega)
        have hf := hown2.frozenAt k
        go_wp2_with fail
        refine ⟨⟨k + 1, by omega, by go_num, congrArg (Value.int .i64) (by omega), ⟨_, own_set hown2 _ _, ?_⟩, gr_set hgr2 _⟩, by simp [intOf]; omega⟩
        rw [take_set_last (by have := hown.1; omega), Hds.out, marksT_succ, List.map_append]
        simp
      · obtain rfl : k = n := by omega
        go_wp2_with fail
        go_ret
        refine ⟨rfl, ?_, hgr⟩
        have := Hds.out
        rw [List.take_of_length_le (by rw [hown.1]; omega)] at this
        rw [← this]
        exact hown
set_option maxHeartbeats 1000000 in
theorem heldStringS_any (v : Value) (n k0 : Nat) (w : World) (h : Strs w v (marksT k0 n)) (hn : n ≤ 100000000) (hk0 : k0 ≤ 100000000000000) : Calls Tryz.prog 27 #[v, .int .i64 k0] w fun e w' =>
    e = .returned (.int .i64 ((k0 + n : Nat) : Int)) ∧ Below w.heap.size w w' := by
  obtain ⟨A, c, hv, h1, h2, hr⟩ := h
  rw [marksT_length] at hv h1 hr
  subst hv
  unfold maxLen at h2
  go_enter Tryz.func27, Tryz.ntmps27
  go_wp2_with fail
  go_loopw [1, 5] (fun q i wr => ∃ k : Nat, k ≤ n ∧ i = .int .i64 k ∧ q = .int .i64 ((k0 + k : Nat) : Int) ∧ Below w.heap.size w wr) (fun _ i _ => n - (intOf i).toNat)
  case atStart => exact ⟨0, by omega, rfl, rfl, Below.refl _ _⟩
  case round =>
    obtain ⟨k, hk, rfl, rfl, hB⟩ := hrel
    by_cases hlt : k < n
    · obtain ⟨ad, rfl, hC⟩ := strs_el hr (k := k) (by rw [marksT_length]; exact hlt)
      rw [marksT_get] at hC
      have hq0 : (0 : Int) ≤ (k : Int) := by omega
      have hq1 : (k : Int) < (n : Int) := by omega
      go_wp2_with fail
      go_region_held3 (fun w' => Below w.heap.size w w') (first | exact Below.drew (by assumption) | exact bw_to (by assumption) hb')
        (first | (go_at_call 59; refine (markText_any (k0 + k) _ (by omega)).mono ?_; rintro e w' ⟨rfl, hb'⟩))
      go_wp2_with fail
      exact ⟨⟨k + 1, by omega, by go_num, congrArg (Value.int .i64) (by omega), by assumption⟩, by simp [intOf]; omega⟩
    · obtain rfl : k = n := by omega
      go_wp2_with fail
      go_ret
      exact ⟨rfl, hB⟩
set_option maxHeartbeats 1000000 in
theorem markMethod_any (m : Mt) (v : Value) (n k0 : Nat) (cs : List Value) (base : Nat) (w : World) (h : w.ownsRow base 9 1 v n cs) (hn : n ≤ 100000000) (hk0 : k0 ≤ 100000000000000) : Calls Tryz.prog 18 #[m.v v, .int .i64 k0] w fun e w' =>
    ∃ r : Int, e = .returned (.int .i64 r) ∧ r = ((k0 + n : Nat) : Int) ∧ w'.ownsRow base 9 1 v n ((marksT k0 n).map Value.string) ∧ w.grownBy w' v.ownBlock := by
  unfold Mt.v
  go_enter Tryz.func18, Tryz.ntmps18
  go_wp2_with fail
  refine box1 (C := fun W => Calls _ _ _ W _) ?_
  intro wb hw k1 hB0
  refine (markStringS_any _ _ k0 _ _ _ (own_to h hw) hn hk0).mono ?_; rintro e w1 ⟨rfl, hown, hg⟩
  go_wp2_with fail
  go_ret
  exact ⟨_, rfl, rfl, hown, ⟨hg.os.trans hw.os, hg.tape.trans hw.tape, hg.output.trans hw.output, Nat.le_trans hw.size hg.size, fun k hk hne => (hg.block k (Nat.lt_of_lt_of_le hk hw.size) hne).trans (hw.block k hk)⟩⟩
/-- A variable that holds a method. -/
def XBox (w : World) (G : Nat) (m : Mt) (r : Value) : Prop := w.ownsRow G 31 3 (.slice (some ⟨G, 0, none⟩) 1 1) 1 [.string m.name, .int .i64 m.stage, r]
theorem xbox_of {w : World} {G : Nat} {m : Mt} {r : Value} (h : w.heap[G]? = some (.cells #[.string m.name, .int .i64 m.stage, r] 31 (0, 0))) : XBox w G m r :=
  own_of_heap (base := G) (n := 1) (size := 3) h (Nat.le_refl _) (by unfold maxLen; omega) rfl
theorem xbox_c {w : World} {G : Nat} {m : Mt} {r : Value} (h : XBox w G m r) : w.cell? ⟨G, 0, none⟩ = some (.string m.name) ∧ w.cell? ⟨G, 1, none⟩ = some (.int .i64 m.stage) ∧ w.cell? ⟨G, 2, none⟩ = some r := by
  unfold XBox at h
  exact ⟨h.cellAt 0 (by omega), h.cellAt 1 (by omega), h.cellAt 2 (by omega)⟩
theorem xbox_f {w : World} {G : Nat} {m : Mt} {r : Value} (h : XBox w G m r) : w.frozen? ⟨G, 0, none⟩ = false ∧ w.frozen? ⟨G, 1, none⟩ = false ∧ w.frozen? ⟨G, 2, none⟩ = false := by
  unfold XBox at h
  exact ⟨h.frozenAt 0, h.frozenAt 1, h.frozenAt 2⟩
theorem xbox_to {w w' : World} {G : Nat} {m : Mt} {r : Value} (h : XBox w G m r) (hb : Below w.heap.size w w') : XBox w' G m r := own_to (by unfold XBox at h; exact h) hb
theorem xbox_row {w w' : World} {G : Nat} {m : Mt} {r v : Value} (h : XBox w G m r) (hg : w.grownBy w' v.ownBlock) (hne : v.ownBlock = none ∨ v.ownBlock ≠ some G) : XBox w' G m r := by
  refine World.ownsRow.kept (by unfold XBox at h; exact h) hg (.inr ?_)
  rcases hne with e | e
  · rw [e]; intro e'; cases e'
  · exact fun e' => e e'.symm
theorem strs_ownX {w : World} {base n : Nat} {e : TypeId} {v : Value} {zs : List ByteArray} (h : w.ownsRow base e 1 v n (zs.map Value.string)) : Strs w v zs := by
  have hl : zs.length = n := by have := h.1; simpa using this
  subst hl
  exact sl_of_own h
end Go.Proofs.YthgadnhkbmimiaaGreat
