/- Contracts: do all ways agree, both sides. -/
import Derived.Test.YtjiiflpoiaaccaaGreatPk37
import Derived.Test.YtjiiflpoiaaccaaGreatPk17
import Derived.Test.YtjiiflpoiaaccaaGreatPk1
import Derived.Test.YtjiiflpoiaaccaaGreatPk29
namespace Go.Proofs.YtjiiflpoiaaccaaGreat
open Go Go.RowKit
set_option linter.unusedVariables false
set_option linter.unusedSimpArgs false

noncomputable def agB (m : Mt) (k : Cl) (t : ByteArray) : List Bool := if okT m k t then [decide (rowsT m k t).Nodup, thB m.stage.toNat m k t, proofB m k t] else []
theorem agB_no {m : Mt} {k : Cl} {t : ByteArray} (h : okT m k t = false) : agB m k t = [] := by unfold agB; rw [h]; rfl
theorem agB_yes {m : Mt} {k : Cl} {t : ByteArray} {n : Nat} (h : okT m k t = true) (hs : m.stage = (n : Int)) : agB m k t = [decide (rowsT m k t).Nodup, thB n m k t, proofB m k t] := by
  unfold agB; rw [h, hs]; rfl
theorem proofAt_form {W : World} {base : Nat} {m : Mt} {k : Cl} {t : ByteArray} {hv lv : Value} (h : ProofAt W base m k t hv lv) : ∃ A n c A' n' c', hv = .slice A n c ∧ lv = .slice A' n' c' := by
  unfold ProofAt at h
  cases hp : proofB m k t
  · rw [hp] at h
    exact ⟨_, _, _, _, _, _, h.1, h.2⟩
  · rw [hp] at h
    obtain ⟨A, c, e, _⟩ := sl_of_own h.1
    obtain ⟨A', c', e', _⟩ := sl_of_own h.2
    exact ⟨_, _, _, _, _, _, e, e'⟩
set_option maxRecDepth 100000 in
set_option maxHeartbeats 4000000 in
theorem implAllAgree_any (m : Mt) (v : Value) (k : Cl) (t : ByteArray) (w : World) (h : MethAt w m v) (hs : MtSmall m) (hk : ClSmall k) (ht : t.size ≤ maxLen) : Calls Tryz.prog 23 #[m.v v, k.v, .string t] w fun e w' =>
    ∃ A q, e = .returned (.tuple #[.slice A (agB m k t).length q, .bool (okT m k t)]) ∧ w'.ownsRow w.heap.size 4 1 (.slice A (agB m k t).length q) (agB m k t).length ((agB m k t).map Value.bool) ∧ Below w.heap.size w w' := by
  have Htr := Lib.hid (fun W (hW : Below w.heap.size w W) => implTouchRows_any m v k t W (h.to hW) hs hk ht)
  have Hmp := Lib.hid (fun W (hW : Below w.heap.size w W) => implMakeProof_any m v k t W (h.to hW) hs hk ht)
  have hv0 := h.1
  cases hok : okT m k t
  · have hro : rowsO m k t = [] := by unfold rowsO; rw [hok]; rfl
    have ha := agB_no hok
    simp only [hok, hro] at Htr
    rw [ha]
    obtain ⟨A, c, hv⟩ := h.form
    subst hv
    unfold Mt.v Cl.v at *
    clear h hs hk ht hv0 hok hro ha Hmp
    go_enter Tryz.func23, Tryz.ntmps23
    go_wp2_with fail
    refine box2 (C := fun W => Calls _ _ _ W _) ?_
    intro wb hw k1 k2 hB0
    have R1 := boxRule k1
    have R2 := boxRule k2
    clear k1 k2
    refine (Htr.out _ hw).mono ?_; rintro e w1 ⟨A1, q1, rfl, hown, hb1⟩
    clear hown
    go_wp2_with fail
    go_ret2
    exact ⟨none, 0, rfl, World.ownsRow_nil _ _ _ _, bw_to hw hb1⟩
  · have hro : rowsO m k t = rowsT m k t := by unfold rowsO; rw [if_pos hok]
    have hask : askT m k t = true := by unfold okT at hok; rw [Bool.and_eq_true] at hok; exact hok.1
    have hask' := hask
    unfold askT at hask'
    rw [Bool.and_eq_true] at hask'
    obtain ⟨n, hg⟩ := cgood_of hask'.1
    have hrs := rows_size hok
    have hn := hg.m.hi
    have Hin := Lib.hid (rowsT_in (k := k) hg.m t)
    have Hit := Lib.hid (fun W V (hV : Strs W V (rowsT m k t)) => isTrue_any V (rowsT m k t) W hV (by omega) (fun s hs => by rw [(Hin.out s hs).1.1]; omega))
    have Hth := Lib.hid (fun W (hW : Below w.heap.size w W) => trueByHeads_any m v k t n W hg (hv0.to hW) hask'.2)
    have ha := agB_yes hok hg.m.st
    simp only [hok, hro] at Htr
    rw [ha]
    obtain ⟨nd, hnd⟩ : ∃ b, b = decide (rowsT m k t).Nodup := ⟨_, rfl⟩
    obtain ⟨th, hth⟩ : ∃ b, b = thB n m k t := ⟨_, rfl⟩
    obtain ⟨pb, hpb⟩ : ∃ b, b = proofB m k t := ⟨_, rfl⟩
    simp only [← hnd, ← hth, ← hpb] at Hit Hth Hmp ⊢
    obtain ⟨A, c, hv⟩ := h.form
    subst hv
    obtain ⟨rows, hrows⟩ : ∃ r, r = rowsT m k t := ⟨_, rfl⟩
    simp only [← hrows] at Htr Hit hrs
    unfold Mt.v Cl.v at *
    clear h hs hk ht hv0 hok hro ha hask hask' hg hnd hth hpb hrows Hin
    go_enter Tryz.func23, Tryz.ntmps23
    go_wp2_with fail
    refine box2 (C := fun W => Calls _ _ _ W _) ?_
    intro wb hw k1 k2 hB0
    have R1 := boxRule k1
    have R2 := boxRule k2
    clear k1 k2
    refine (Htr.out _ hw).mono ?_; rintro e w1 ⟨A1, q1, rfl, hown1, hb1⟩
    have hS1 := strs_of_own hown1
    have HS := Lib.hid (fun W (hW : Below w1.heap.size w1 W) => hS1.to hW)
    have hw1 := bw_to hw hb1
    clear hown1 hS1
    go_wp2_with fail
    refine (Hmp.out _ hw1).mono ?_; rintro e w2 ⟨hv, lv, rfl, hpa, hb2⟩
    obtain ⟨Ah, nh, ch, Al, nl, cl, rfl, rfl⟩ := proofAt_form hpa
    clear hpa
    have hB2 := bw_to hb1 hb2
    go_upto_region 5 with fail
    refine box1 (C := fun W => Code.wp _ _ _ _ W) ?_
    intro w3 hw3 k3 hB03
    have hB3 := bw_to hB2 hw3
    have hwB3 := bw_to hw hB3
    have r1 := fun W i (hW : Below w3.heap.size w3 W) => R1 W i (bw_to hB3 hW)
    have r2 := fun W i (hW : Below w3.heap.size w3 W) => R2 W i (bw_to hB3 hW)
    have Hit3 := Lib.hid (fun W (hW : Below w3.heap.size w3 W) => Hit.out W (.slice A1 rows.length q1) (HS.out W (bw_to (bw_to hb2 hw3) hW)))
    have Hth3 := Lib.hid (fun W (hW : Below w3.heap.size w3 W) => Hth.out W (bw_to hwB3 hW))
    have hdr : Below w3.heap.size w3 w3.drew := Below.drew (Below.refl _ _)
    clear R1 R2 k3
    go_region_held3 (fun W => Below w3.heap.size w3 W) (first | with_reducible assumption | exact Below.drew (by with_reducible assumption) | exact bw_to (by with_reducible assumption) hb' | exact bw_al (by with_reducible assumption) _)
      (first | (go_at_call 108; (with_reducible refine (Hit3.out _ (by with_reducible assumption)).mono ?_); rintro e w' ⟨rfl, hb'⟩; (have hBn := bw_to (by assumption : Below w3.heap.size w3 _) hb')) | (go_at_call 109; (with_reducible refine (Hth3.out _ (by with_reducible assumption)).mono ?_); rintro e w' ⟨rfl, hb'⟩; (have hBn := bw_to (by assumption : Below w3.heap.size w3 _) hb')))
    all_goals
      have hBB : Below w3.heap.size w3 w' := by assumption
      have Ho := Lib.hid (own_of_heap (base := w.heap.size) (n := 3) (size := 1) (heap_new w' (.cells #[.bool nd, .bool th, .bool pb] 4)) (by have := hBB.size; have := hwB3.size; omega) (by unfold maxLen; omega) rfl)
      have HB := Lib.hid (bw_al (bw_to hwB3 hBB) (.cells #[.bool nd, .bool th, .bool pb] 4))
      go_wp2_with fail
      go_ret2
      exact ⟨_, _, rfl, Ho.out, HB.out⟩
set_option maxRecDepth 100000 in
set_option maxHeartbeats 4000000 in
theorem specAllAgree_any (m : Mt) (v : Value) (k : Cl) (t : ByteArray) (w : World) (h : MethAt w m v) (hs : MtSmall m) (hk : ClSmall k) (ht : t.size ≤ 1048576) : Calls Tryz.prog 24 #[m.v v, k.v, .string t] w fun e w' =>
    ∃ A q, e = .returned (.tuple #[.slice A (agB m k t).length q, .bool (okT m k t)]) ∧ w'.ownsRow w.heap.size 4 1 (.slice A (agB m k t).length q) (agB m k t).length ((agB m k t).map Value.bool) ∧ Below w.heap.size w w' := by
  have Htr := Lib.hid (fun W (hW : Below w.heap.size w W) => specTouchRows_any m v k t W (h.to hW) hs hk ht)
  have Hmp := Lib.hid (fun W (hW : Below w.heap.size w W) => specMakeProof_any m v k t W (h.to hW) hs hk ht)
  have hv0 := h.1
  cases hok : okT m k t
  · have hro : rowsO m k t = [] := by unfold rowsO; rw [hok]; rfl
    have ha := agB_no hok
    simp only [hok, hro] at Htr
    rw [ha]
    obtain ⟨A, c, hv⟩ := h.form
    subst hv
    unfold Mt.v Cl.v at *
    clear h hs hk ht hv0 hok hro ha Hmp
    go_enter Tryz.func24, Tryz.ntmps24
    go_wp2_with fail
    refine box2 (C := fun W => Calls _ _ _ W _) ?_
    intro wb hw k1 k2 hB0
    have R1 := boxRule k1
    have R2 := boxRule k2
    clear k1 k2
    refine (Htr.out _ hw).mono ?_; rintro e w1 ⟨A1, q1, rfl, hown, hb1⟩
    clear hown
    go_wp2_with fail
    go_ret2
    exact ⟨none, 0, rfl, World.ownsRow_nil _ _ _ _, bw_to hw hb1⟩
  · have hro : rowsO m k t = rowsT m k t := by unfold rowsO; rw [if_pos hok]
    have hask : askT m k t = true := by unfold okT at hok; rw [Bool.and_eq_true] at hok; exact hok.1
    have hask' := hask
    unfold askT at hask'
    rw [Bool.and_eq_true] at hask'
    obtain ⟨n, hg⟩ := cgood_of hask'.1
    have hrs := rows_size hok
    have hn := hg.m.hi
    have Hit := Lib.hid (fun W V (hV : Strs W V (rowsT m k t)) hn => l7True_any V (rowsT m k t) W hV hn (by omega))
    have Hth := Lib.hid (fun W (hW : Below w.heap.size w W) => specTrueByHeads_yes m v k t n W hg hask (h.to hW) hs hk (Nat.le_trans ht (by unfold maxLen; omega)))
    have ha := agB_yes hok hg.m.st
    simp only [hok, hro] at Htr
    rw [ha]
    obtain ⟨nd, hnd⟩ : ∃ b, b = decide (rowsT m k t).Nodup := ⟨_, rfl⟩
    obtain ⟨th, hth⟩ : ∃ b, b = thB n m k t := ⟨_, rfl⟩
    obtain ⟨pb, hpb⟩ : ∃ b, b = proofB m k t := ⟨_, rfl⟩
    simp only [← hnd, ← hth, ← hpb] at Hit Hth Hmp ⊢
    obtain ⟨A, c, hv⟩ := h.form
    subst hv
    obtain ⟨rows, hrows⟩ : ∃ r, r = rowsT m k t := ⟨_, rfl⟩
    simp only [← hrows] at Htr Hit hrs
    unfold Mt.v Cl.v at *
    clear h hs hk ht hv0 hok hro ha hask hask' hg hnd hth hpb hrows
    go_enter Tryz.func24, Tryz.ntmps24
    go_wp2_with fail
    refine box2 (C := fun W => Calls _ _ _ W _) ?_
    intro wb hw k1 k2 hB0
    have R1 := boxRule k1
    have R2 := boxRule k2
    clear k1 k2
    refine (Htr.out _ hw).mono ?_; rintro e w1 ⟨A1, q1, rfl, hown1, hb1⟩
    have hS1 := strs_of_own hown1
    have hnl := Lib.hid (nilok_own hown1)
    have HS := Lib.hid (fun W (hW : Below w1.heap.size w1 W) => hS1.to hW)
    have hw1 := bw_to hw hb1
    clear hown1 hS1
    go_wp2_with fail
    refine (Hth.out _ hw1).mono ?_; rintro e w2 ⟨rfl, hb2⟩
    have hB2 := bw_to hb1 hb2
    go_wp2_with fail
    refine (Hmp.out _ (bw_to hw hB2)).mono ?_; rintro e w3 ⟨hv, lv, rfl, hpa, hb3⟩
    obtain ⟨Ah, nh, ch, Al, nl, cl, rfl, rfl⟩ := proofAt_form hpa
    have hB3 := bw_to hB2 hb3
    clear hpa
    go_wp2_with fail
    refine box1 (C := fun W => Calls _ _ _ W _) ?_
    intro w4 hw4 k4 hB04
    have hwB4 := bw_to hw (bw_to hB3 hw4)
    refine (Hit.out _ _ (HS.out _ (bw_to (bw_to hb2 hb3) hw4)) hnl.out).mono ?_; rintro e w5 ⟨rfl, hb5⟩
    have hBB := bw_to hwB4 hb5
    have Ho := Lib.hid (own_of_heap (base := w.heap.size) (n := 3) (size := 1) (heap_new w5 (.cells #[.bool nd, .bool th, .bool pb] 4)) (by have := hBB.size; omega) (by unfold maxLen; omega) rfl)
    have HB := Lib.hid (bw_al hBB (.cells #[.bool nd, .bool th, .bool pb] 4))
    clear k4
    go_wp2_with fail
    go_ret2
    exact ⟨_, _, rfl, Ho.out, HB.out⟩
end Go.Proofs.YtjiiflpoiaaccaaGreat

/- ItemOf on both sides, and its law. -/
namespace Go.Proofs.YtjiiflpoiaaccaaGreat
open Go Go.RowKit
set_option linter.unusedVariables false
set_option linter.unusedSimpArgs false

set_option maxHeartbeats 1000000 in
theorem szCalls_any (k : Cl) (k0 : Int) (w : World) (h : ClFit k) (h0 : 0 ≤ k0) (hk0 : k0 ≤ 1048576) : Calls Tryz.prog 15 #[k.v, .int .i64 k0] w fun e w' =>
    ∃ r : Int, e = .returned (.int .i64 r) ∧ -1 ≤ r ∧ r ≤ 1048576 ∧ (0 ≤ r → ClSmall k) ∧ Below w.heap.size w w' := by
  unfold Cl.v
  have h1 := h.1
  have h2 := h.2
  unfold maxLen at h1 h2
  clear h
  go_enter Tryz.func15, Tryz.ntmps15
  go_wp2_with fail
  · go_ret
    exact ⟨_, rfl, by omega, by omega, fun h => absurd h (by omega), bw_al (Below.refl _ _) _⟩
  · go_ret
    exact ⟨_, rfl, by omega, by omega, fun h => absurd h (by omega), bw_al (Below.refl _ _) _⟩
  · go_ret
    exact ⟨_, rfl, by omega, by omega, fun h => ⟨by omega, by omega⟩, bw_al (Below.refl _ _) _⟩
set_option maxHeartbeats 1000000 in
theorem toCalls_any (k : Cl) (w : World) : Calls Tryz.prog 18 #[k.v] w fun e w' => e = .returned k.v ∧ Below w.heap.size w w' := by
  unfold Cl.v
  go_enter Tryz.func18, Tryz.ntmps18
  go_wp2_with fail
  refine bodyPost_ret (v := .agg #[.string k.bob, .string k.single]) (by simp [results, go_sem]) rfl ⟨rfl, ?_⟩
  exact bw_al (bw_al (bw_al (Below.refl _ _) _) _) _
end Go.Proofs.YtjiiflpoiaaccaaGreat

/- Rows of texts that a law marks; a method's own row. -/
namespace Go.Proofs.YtjiiflpoiaaccaaGreat
open Go Go.RowKit
set_option linter.unusedVariables false
set_option linter.unusedSimpArgs false

def OwnS (w : World) (base : Nat) (v : Value) (L : List ByteArray) : Prop := w.ownsRow base 9 1 v L.length (L.map Value.string)
def FitS (L : List ByteArray) : Prop := L.length ≤ 16777216
def mkS (L : List ByteArray) : List ByteArray := marksT 1 L.length
def endS (L : List ByteArray) : Nat := 1 + L.length
theorem OwnS.to {w w' : World} {base : Nat} {v : Value} {L : List ByteArray} (h : OwnS w base v L) (hb : Below w.heap.size w w') : OwnS w' base v L := own_to (by unfold OwnS at h; exact h) hb
theorem OwnS.base {w : World} {base b2 : Nat} {v : Value} {L : List ByteArray} (h : OwnS w base v L) (hb : b2 ≤ base) : OwnS w b2 v L := own_base (by unfold OwnS at h; exact h) hb
theorem OwnS.kept {w w' : World} {base : Nat} {row : Option Nat} {v : Value} {L : List ByteArray} (h : OwnS w base v L) (hg : w.grownBy w' row) (hr : ∀ k, row = some k → k < base) : OwnS w' base v L := by
  unfold OwnS at *
  refine World.ownsRow.kept h hg ?_
  cases hb : v.ownBlock with
  | none => exact .inl rfl
  | some b => exact .inr fun e => by have := hr b e.symm; have := h.lt b hb; omega
/-- A row that lies below a bound. -/
def LowS (w : World) (B base : Nat) (v : Value) (L : List ByteArray) : Prop := OwnS w base v L ∧ ∀ k, v.ownBlock = some k → k < B
theorem LowS.of {w : World} {base : Nat} {v : Value} {L : List ByteArray} (h : OwnS w base v L) : LowS w w.heap.size base v L := ⟨h, fun k hk => (World.ownsRow.lt (by unfold OwnS at h; exact h) k hk).2⟩
theorem LowS.to {w w' : World} {B base : Nat} {v : Value} {L : List ByteArray} (h : LowS w B base v L) (hb : Below w.heap.size w w') : LowS w' B base v L := ⟨h.1.to hb, h.2⟩
theorem LowS.low {w w' : World} {B B2 base : Nat} {v : Value} {L : List ByteArray} (h : LowS w B base v L) (hb : Below B2 w w') (hB : B ≤ B2) : LowS w' B base v L :=
  ⟨own_low (by have := h.1; unfold OwnS at this; exact this) hb (fun k hk => Nat.lt_of_lt_of_le (h.2 k hk) hB), h.2⟩
theorem LowS.own {w : World} {B base : Nat} {v : Value} {L : List ByteArray} (h : LowS w B base v L) : OwnS w base v L := h.1
theorem OwnS.row {w w' : World} {base : Nat} {v : Value} {L : List ByteArray} (h : OwnS w base v L) {w0 : World} {M : List ByteArray} (h0 : OwnS w0 base v M) (hbw : base ≤ w.heap.size) (hg : w.grownBy w' v.ownBlock) : Below base w w' := (Below.refl _ _).grown hg hbw (fun k hk => (World.ownsRow.lt (by unfold OwnS at h0; exact h0) k hk).1)
theorem OwnS.lt {w : World} {base : Nat} {v : Value} {L : List ByteArray} (h : OwnS w base v L) : ∀ k, v.ownBlock = some k → base ≤ k ∧ k < w.heap.size := World.ownsRow.lt (by unfold OwnS at h; exact h)
theorem OwnS.strs {w : World} {base : Nat} {v : Value} {L : List ByteArray} (h : OwnS w base v L) : Strs w v L := strs_of_own (by unfold OwnS at h; exact h)
theorem OwnS.nilok {w : World} {base : Nat} {v : Value} {L : List ByteArray} (h : OwnS w base v L) : NilOk v := nilok_own (by unfold OwnS at h; exact h)
theorem eqS_ok {w : World} {b b2 : Nat} {v v2 : Value} {L : List ByteArray} (h : OwnS w b v L) (h2 : OwnS w b2 v2 L) : Calls Tryz.prog 107 #[v, v2] w fun e w' => e = .returned (.bool true) ∧ Below w.heap.size w w' := eqStringS_same _ _ L _ h.strs h2.strs
theorem toMethod_agP (m : Mt) (v : Value) (w : World) (h1 : MethAt w m v) (hs : MtSmall m) : Calls Tryz.prog 17 #[.agg #[.string m.name, .int .i64 m.stage, v]] w fun e w' => ∃ A c, e = .returned (.agg #[.string m.name, .int .i64 m.stage, .slice A m.l.length c]) ∧ w'.ownsRow w.heap.size 9 1 (.slice A m.l.length c) m.l.length (m.l.map Value.string) ∧ MethAt w' m (.slice A m.l.length c) ∧ Below w.heap.size w w' := by
  refine (toMethod_any m v w h1 hs).mono fun e w' ⟨r, e1, h3, h4⟩ => ?_
  obtain ⟨A, c, hr, _⟩ := sl_of_own h3
  subst hr
  exact ⟨A, c, e1, h3, ⟨strs_of_own h3, h1.2⟩, h4⟩
end Go.Proofs.YtjiiflpoiaaccaaGreat

/- Marks of a row of truths; one shape with the rows of texts. -/
namespace Go.Proofs.YtjiiflpoiaaccaaGreat
open Go Go.RowKit
set_option linter.unusedVariables false
set_option linter.unusedSimpArgs false

def marksB (k n : Nat) : List Bool := (List.range n).map fun i => decide ((k + i) % 3 = 0)
theorem marksB_length (k n : Nat) : (marksB k n).length = n := by simp [marksB]
theorem marksB_get {k n i : Nat} (h : i < (marksB k n).length) : (marksB k n)[i] = decide ((k + i) % 3 = 0) := by simp [marksB]
theorem marksB_succ (k n : Nat) : marksB k (n + 1) = marksB k n ++ [decide ((k + n) % 3 = 0)] := by simp [marksB, List.range_succ]
theorem mod3 (k : Nat) : (((k : Int)) % 3 == 0) = decide (k % 3 = 0) := by rw [Bool.eq_iff_iff]; simp; omega
theorem mod3' (k : Nat) : (((k : Int)).tmod 3 == 0) = decide (k % 3 = 0) := by rw [Int.tmod_eq_emod_of_nonneg (by omega)]; exact mod3 k
theorem tmod3 (k : Nat) : ((k : Int)).tmod 3 = ((k % 3 : Nat) : Int) := by rw [Int.tmod_eq_emod_of_nonneg (by omega)]; simp
def OwnBo (w : World) (base : Nat) (v : Value) (L : List Bool) : Prop := w.ownsRow base 4 1 v L.length (L.map Value.bool)
def FitBo (L : List Bool) : Prop := L.length ≤ 1000
def mkBo (L : List Bool) : List Bool := marksB 1 L.length
def endBo (L : List Bool) : Nat := 1 + L.length
theorem OwnBo.to {w w' : World} {base : Nat} {v : Value} {L : List Bool} (h : OwnBo w base v L) (hb : Below w.heap.size w w') : OwnBo w' base v L := own_to (by unfold OwnBo at h; exact h) hb
theorem OwnBo.base {w : World} {base b2 : Nat} {v : Value} {L : List Bool} (h : OwnBo w base v L) (hb : b2 ≤ base) : OwnBo w b2 v L := own_base (by unfold OwnBo at h; exact h) hb
theorem OwnBo.kept {w w' : World} {base : Nat} {row : Option Nat} {v : Value} {L : List Bool} (h : OwnBo w base v L) (hg : w.grownBy w' row) (hr : ∀ k, row = some k → k < base) : OwnBo w' base v L := by
  unfold OwnBo at *
  refine World.ownsRow.kept h hg ?_
  cases hb : v.ownBlock with
  | none => exact .inl rfl
  | some b => exact .inr fun e => by have := hr b e.symm; have := h.lt b hb; omega
/-- A row that lies below a bound. -/
def LowBo (w : World) (B base : Nat) (v : Value) (L : List Bool) : Prop := OwnBo w base v L ∧ ∀ k, v.ownBlock = some k → k < B
theorem LowBo.of {w : World} {base : Nat} {v : Value} {L : List Bool} (h : OwnBo w base v L) : LowBo w w.heap.size base v L := ⟨h, fun k hk => (World.ownsRow.lt (by unfold OwnBo at h; exact h) k hk).2⟩
theorem LowBo.to {w w' : World} {B base : Nat} {v : Value} {L : List Bool} (h : LowBo w B base v L) (hb : Below w.heap.size w w') : LowBo w' B base v L := ⟨h.1.to hb, h.2⟩
theorem LowBo.low {w w' : World} {B B2 base : Nat} {v : Value} {L : List Bool} (h : LowBo w B base v L) (hb : Below B2 w w') (hB : B ≤ B2) : LowBo w' B base v L :=
  ⟨own_low (by have := h.1; unfold OwnBo at this; exact this) hb (fun k hk => Nat.lt_of_lt_of_le (h.2 k hk) hB), h.2⟩
theorem LowBo.own {w : World} {B base : Nat} {v : Value} {L : List Bool} (h : LowBo w B base v L) : OwnBo w base v L := h.1
theorem OwnBo.row {w w' : World} {base : Nat} {v : Value} {L : List Bool} (h : OwnBo w base v L) {w0 : World} {M : List Bool} (h0 : OwnBo w0 base v M) (hbw : base ≤ w.heap.size) (hg : w.grownBy w' v.ownBlock) : Below base w w' := (Below.refl _ _).grown hg hbw (fun k hk => (World.ownsRow.lt (by unfold OwnBo at h0; exact h0) k hk).1)
theorem OwnBo.lt {w : World} {base : Nat} {v : Value} {L : List Bool} (h : OwnBo w base v L) : ∀ k, v.ownBlock = some k → base ≤ k ∧ k < w.heap.size := World.ownsRow.lt (by unfold OwnBo at h; exact h)
end Go.Proofs.YtjiiflpoiaaccaaGreat

/- The law AllAgree. (Printed by a program: tools/mkLaw.py.) -/
namespace Go.Proofs.YtjiiflpoiaaccaaGreat
open Go Go.RowKit
set_option linter.unusedVariables false
set_option linter.unusedSimpArgs false

/-- What AllAgree answers on both sides. -/
def BothAllAgree (m : Mt) (k : Cl) (r0 : ByteArray) : Prop := ∃ (L : List Bool) (b : Bool), FitBo L ∧ (∀ v W, MethAt W m v → Calls Tryz.prog 23 #[m.v v, k.v, .string r0] W fun e w' => ∃ A q, e = .returned (.tuple #[.slice A L.length q, .bool b]) ∧ OwnBo w' W.heap.size (.slice A L.length q) L ∧ Below W.heap.size W w') ∧ (∀ v W, MethAt W m v → Calls Tryz.prog 24 #[m.v v, k.v, .string r0] W fun e w' => ∃ A q, e = .returned (.tuple #[.slice A L.length q, .bool b]) ∧ OwnBo w' W.heap.size (.slice A L.length q) L ∧ Below W.heap.size W w')
end Go.Proofs.YtjiiflpoiaaccaaGreat
