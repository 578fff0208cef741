/- Contracts: strikes: taken over, compared; good strikes, good beats; both sides. -/
import Derived.Test.YtimeecimaokldaaGreatDoorPk14
import Derived.Test.YtimeecimaokldaaGreatDoorPk15
import Derived.BigGuardPart
namespace Go.Proofs.YtimeecimaokldaaGreatDoor
open Go Go.RowKit
set_option linter.unusedVariables false
set_option linter.unusedSimpArgs false

def skC (p : Int × Int) : List Value := [.int .i64 p.1, .int .i64 p.2]
def Sks (w : World) (v : Value) (l : List (Int × Int)) : Prop := Sl w 2 v l.length (l.flatMap skC)
theorem Sks.to {w w' : World} {v : Value} {l : List (Int × Int)} (h : Sks w v l) (hb : Below w.heap.size w w') : Sks w' v l := Sl.to h hb
theorem sks_el {w : World} {B : Nat} {A : Option Addr} {xs : List (Int × Int)} (hr : Reads w B 2 A xs.length (xs.flatMap skC)) {k : Nat} (hk : k < xs.length) :
    ∃ ad, A = some ad ∧ ∀ w', Below B w w' → w'.cell? (ad.add (k * 2)) = some (.int .i64 xs[k].1) ∧ w'.cell? ⟨(ad.add (k * 2)).block, (ad.add (k * 2)).off + 1, none⟩ = some (.int .i64 xs[k].2) := by
  obtain ⟨ad, e, h⟩ := hr.el (fun _ _ => rfl) hk
  refine ⟨ad, e, fun w' hb => ⟨?_, ?_⟩⟩
  · have := h w' hb 0 _ (by omega) rfl; rwa [add_zero'] at this
  · exact h w' hb 1 _ (by omega) rfl
theorem sks_of_own {w : World} {base : Nat} {e : TypeId} {v : Value} {l : List (Int × Int)} (h : w.ownsRow base e 2 v l.length (l.flatMap skC)) : Sks w v l := sl_of_own h
def gk (l : List (Int × Int)) (k : Nat) : Int × Int := l.getD k (0, 0)
theorem gk_at {l : List (Int × Int)} {k : Nat} (h : k < l.length) : gk l k = l[k] := by unfold gk; rw [List.getD_eq_getElem?_getD, List.getElem?_eq_getElem h]; rfl
def okK (l : List (Int × Int)) (k : Nat) : Prop := (1 ≤ (gk l k).1 ∧ (gk l k).1 ≤ 8) ∧ (0 ≤ (gk l k).2 ∧ (gk l k).2 ≤ 1000000) ∧ (k = 0 ∨ (gk l (k - 1)).2 ≤ (gk l k).2)
def GoodS (l : List (Int × Int)) : Prop := l.length ≤ 2000 ∧ ∀ k, k < l.length → okK l k
theorem own2 {w : World} {base : Nat} {e : TypeId} {n g cap k : Nat} {xs : List Value} (h : w.ownsRow base e 2 (.slice (some ⟨g, 0, none⟩) n cap) n xs) (hk : k < n) :
    (∃ y0 y1, w.cell? ⟨g, k * 2, none⟩ = some y0 ∧ w.cell? ⟨g, k * 2 + 1, none⟩ = some y1) ∧ ∀ i, w.frozen? ⟨g, i, none⟩ = false := by
  obtain ⟨y0, h0⟩ := own_some h (j := k * 2) (by omega)
  obtain ⟨y1, h1⟩ := own_some h (j := k * 2 + 1) (by omega)
  exact ⟨⟨y0, y1, h0, h1⟩, fun i => h.frozenAt i⟩
theorem take_set2 {cs ds : List Value} {k n : Nat} {v0 v1 : Value} (hl : cs.length = n * 2) (hk : k < n) (h : cs.take (k * 2) = ds) :
    ((cs.set (k * 2) v0).set (k * 2 + 1) v1).take ((k + 1) * 2) = ds ++ [v0, v1] := by
  have e : (k + 1) * 2 = k * 2 + 1 + 1 := by omega
  rw [e, take_set_last (by simp; omega), take_set_last (by omega), h, List.append_assoc]; rfl
theorem eqStrike_same (x : Int × Int) (w : World) : Calls Tryz.prog 61 #[.agg #[.int .i64 x.1, .int .i64 x.2], .agg #[.int .i64 x.1, .int .i64 x.2]] w fun e w' => e = .returned (.bool true) ∧ Below w.heap.size w w' := by
  go_enter Tryz.func61, Tryz.ntmps61
  go_wp2
  go_ret
  exact ⟨rfl, bw_al (bw_al (Below.refl _ _) _) _⟩
theorem eqStrikeS_same (a b : Value) (xs : List (Int × Int)) (w : World) (ha : Sks w a xs) (hb : Sks w b xs) : Calls Tryz.prog 21 #[a, b] w fun e w' => e = .returned (.bool true) ∧ Below w.heap.size w w' := by
  obtain ⟨A, c, rfl, h1, h2, hr⟩ := ha
  obtain ⟨A', c', rfl, h1', h2', hr'⟩ := hb
  unfold maxLen at h2 h2'
  go_enter Tryz.func21, Tryz.ntmps21
  go_wp2_with fail
  go_loopw [5] (fun i wr => ∃ k : Nat, k ≤ xs.length ∧ i = .int .i64 k ∧ Below w.heap.size w wr) (fun i _ => xs.length - (intOf i).toNat)
  case atStart => exact ⟨0, by omega, rfl, Below.refl _ _⟩
  case round =>
    obtain ⟨k, hk, rfl, hB⟩ := hrel
    by_cases hlt : k < xs.length
    · obtain ⟨ad, rfl, hC⟩ := sks_el hr hlt
      obtain ⟨ad', rfl, hC'⟩ := sks_el hr' hlt
      go_wp2_with fail
      go_region_held3 (fun w' => Below w.heap.size w w') (first | exact Below.drew (by assumption) | exact bw_to (by assumption) hb')
        (first | (go_at_call 61; refine (eqStrike_same xs[k] _).mono ?_; rintro e w' ⟨rfl, hb'⟩))
      go_wp2_with fail
      exact ⟨⟨k + 1, by omega, by go_num, by assumption⟩, by simp [intOf]; omega⟩
    · go_wp2_with fail
      go_ret
      exact ⟨rfl, hB⟩
theorem isBellE_any (n b : Int) (w : World) : Calls Tryz.prog 49 #[.int .i64 n, .int .i64 b] w fun e w' => e = .returned (.bool (decide (1 ≤ b ∧ b ≤ n))) ∧ w = w' := by
  by_cases h1 : 1 ≤ b
  · by_cases h2 : b ≤ n
    all_goals
      go_enter Tryz.func49, Tryz.ntmps49
      go_wp2_with fail
      go_ret
      exact ⟨by simp [h1, h2], rfl⟩
  · go_enter Tryz.func49, Tryz.ntmps49
    go_wp2_with fail
    go_ret
    exact ⟨by rw [decide_eq_false (show ¬ 1 ≤ b by omega)]; rfl, rfl⟩
def PreS (l : List (Int × Int)) (k : Nat) : Prop := ∀ i, i < k → okK l i
theorem preS_succ {l : List (Int × Int)} {k : Nat} (h : PreS l k) (h1 : okK l k) : PreS l (k + 1) := fun i hi => by
  by_cases e : i = k
  · subst e; exact h1
  · exact h i (by omega)
theorem goodS_no {l : List (Int × Int)} {k : Nat} (hk : k < l.length) (h : ¬ okK l k) : ¬ GoodS l := fun g => h (g.2 k hk)
set_option maxRecDepth 10000 in
set_option maxHeartbeats 4000000 in
theorem implGoodS_iff (v : Value) (l : List (Int × Int)) (w : World) (hv : Sks w v l) : Calls Tryz.prog 75 #[v] w (BIff (GoodS l) w) := by
  obtain ⟨A, c, rfl, h1, h2, hr⟩ := hv
  unfold maxLen at h2
  have HR := Lib.hid hr
  clear hr
  go_enter Tryz.func75, Tryz.ntmps75
  go_wp2_with fail
  go_loopw [7] (fun i wr => ∃ k : Nat, k ≤ l.length ∧ i = .int .i64 k ∧ Below w.heap.size w wr ∧ Hid (PreS l k)) (fun i _ => l.length - (intOf i).toNat)
  case atStart => exact ⟨0, by omega, rfl, Below.refl _ _, Lib.hid (fun i h => absurd h (Nat.not_lt_zero _))⟩
  case round =>
    obtain ⟨k, hk, rfl, hB, Hp⟩ := hrel
    by_cases hlt : k < l.length
    rotate_left
    · obtain rfl : k = l.length := by omega
      by_cases h8 : l.length ≤ 2000
      · have Hy : Hid (GoodS l) := Lib.hid ⟨h8, fun i hi => Hp.out i hi⟩
        have hd : decide ((l.length : Int) ≤ 2000) = true := decide_eq_true (by omega)
        clear h8
        go_wp2_with fail
        go_ret
        exact biff_yes Hy.out hB
      · have Hno : Hid (¬ GoodS l) := Lib.hid (fun g => h8 g.1)
        have hd : decide ((l.length : Int) ≤ 2000) = false := decide_eq_false (by omega)
        clear h8
        go_wp2_with fail
        go_ret
        exact biff_no Hno.out hB
    obtain ⟨ad, rfl, hC⟩ := sks_el HR.out hlt
    obtain ⟨q0, q1⟩ := hC wr hB
    have Hno := Lib.hid (fun h => goodS_no hlt h)
    have HC := Lib.hid hC
    have hgk := gk_at hlt
    have HPv : Hid (∀ (k' : Nat), k = k' + 1 → ∀ W, Below w.heap.size w W → W.cell? ⟨(ad.add (k' * 2)).block, (ad.add (k' * 2)).off + 1, none⟩ = some (.int .i64 (gk l k').2)) := Lib.hid (fun k' e W hW => by
      obtain ⟨ad2, e2, hC2⟩ := sks_el HR.out (show k' < l.length by omega)
      injection e2 with e2
      subst e2
      rw [gk_at (show k' < l.length by omega)]
      exact (hC2 W hW).2)
    rw [← hgk] at q0 q1
    clear hC hgk
    have Hok : Hid (okK l k ↔ (1 ≤ (gk l k).1 ∧ (gk l k).1 ≤ 8) ∧ (0 ≤ (gk l k).2 ∧ (gk l k).2 ≤ 1000000) ∧ (k = 0 ∨ (gk l (k - 1)).2 ≤ (gk l k).2)) := Lib.hid Iff.rfl
    obtain ⟨pv, hpv⟩ : ∃ pv, pv = (gk l (k - 1)).2 := ⟨_, rfl⟩
    obtain ⟨x1, hx1⟩ : ∃ x, x = (gk l k).1 := ⟨_, rfl⟩
    obtain ⟨x2, hx2⟩ : ∃ x, x = (gk l k).2 := ⟨_, rfl⟩
    rw [← hx1] at q0 Hok
    rw [← hx2] at q1 Hok
    rw [← hpv] at Hok
    have HPw : Hid (∀ (k' : Nat), k = k' + 1 → ∀ W, Below w.heap.size w W → W.cell? ⟨(ad.add (k' * 2)).block, (ad.add (k' * 2)).off + 1, none⟩ = some (.int .i64 pv)) := Lib.hid (fun k' e W hW => by
      have := HPv.out k' e W hW
      rw [hpv, show k - 1 = k' by omega]
      exact this)
    have Hbl := Lib.hid (fun W => isBellE_any 8 x1 W)
    have Hwt := Lib.hid (fun W => within_any x2 0 1000000 W)
    have Hb2 := Lib.hid hB
    clear hx1 hx2 hpv HPv HC
    go_wp2_with fail
    refine box1 (C := fun W => Code.wp _ _ _ _ W) ?_
    intro wq hwq k1 hBq
    have R := boxRule k1
    have hBw := bw_to Hb2.out hwq
    have C0 : ∀ u : Aft wq, u.w.cell? ⟨wr.heap.size, 0, none⟩ = some (.int .i64 x1) := fun u => R u.w 0 u.h
    have C1 : ∀ u : Aft wq, u.w.cell? ⟨wr.heap.size, 1, none⟩ = some (.int .i64 x2) := fun u => R u.w 1 u.h
    clear R k1 q0 q1 hB hwq
    by_cases hb1 : 1 ≤ x1 ∧ x1 ≤ 8
    rotate_left
    · have Hn2 := Lib.hid (Hno.out (fun h => hb1 (Hok.out.1 h).1))
      rw [decide_eq_false hb1] at Hbl
      clear hb1
      refine wp_region_aft (wb := wq) (by kernel_rfl) (by kernel_rfl) hBq ?_
      repeat (go_big_quiet_step ((first | (go_at_call 49; exact calls_aft_same fun w hw => Hbl.out w) | (go_at_call 113; exact calls_aft_same fun w hw => Hwt.out w))))
      refine wpQuiet_nil ?_
      rintro _ ⟨u3, rfl⟩
      have hB3 := u3.h
      generalize u3.w = w3 at hB3 ⊢
      clear C0 C1
      go_wp2_with fail
      go_ret
      exact biff_no Hn2.out (bw_to hBw hB3)
    by_cases hb2 : 0 ≤ x2 ∧ x2 ≤ 1000000
    rotate_left
    · have Hn2 := Lib.hid (Hno.out (fun h => hb2 (Hok.out.1 h).2.1))
      rw [decide_eq_true hb1] at Hbl
      rw [decide_eq_false hb2] at Hwt
      clear hb1 hb2
      refine wp_region_aft (wb := wq) (by kernel_rfl) (by kernel_rfl) hBq ?_
      repeat (go_big_quiet_step ((first | (go_at_call 49; exact calls_aft_same fun w hw => Hbl.out w) | (go_at_call 113; exact calls_aft_same fun w hw => Hwt.out w))))
      refine wpQuiet_nil ?_
      rintro _ ⟨u3, rfl⟩
      have hB3 := u3.h
      generalize u3.w = w3 at hB3 ⊢
      clear C0 C1
      go_wp2_with fail
      go_ret
      exact biff_no Hn2.out (bw_to hBw hB3)
    rw [decide_eq_true hb1] at Hbl
    rw [decide_eq_true hb2] at Hwt
    by_cases hk0 : k = 0
    · subst hk0
      have Hnx := Lib.hid (preS_succ Hp.out (Hok.out.2 ⟨hb1, hb2, .inl rfl⟩))
      have g3 : decide ((0 : Int) < ((0 : Nat) : Int)) = false := rfl
      have g3' : decide ((0 : Int) < 0) = false := rfl
      clear hb1 hb2
      refine wp_region_aft (wb := wq) (by kernel_rfl) (by kernel_rfl) hBq ?_
      repeat (go_big_quiet_step ((first | (go_at_call 49; exact calls_aft_same fun w hw => Hbl.out w) | (go_at_call 113; exact calls_aft_same fun w hw => Hwt.out w))))
      refine wpQuiet_nil ?_
      rintro _ ⟨u3, rfl⟩
      have hB3 := u3.h
      generalize u3.w = w3 at hB3 ⊢
      clear C0 C1
      go_wp2_with fail
      exact ⟨⟨1, by omega, by go_num, bw_to hBw hB3, Hnx⟩, by simp [intOf]; omega⟩
    · obtain ⟨k', rfl⟩ : ∃ k', k = k' + 1 := ⟨k - 1, by omega⟩
      have g3 : decide ((0 : Int) < ((k' + 1 : Nat) : Int)) = true := decide_eq_true (by omega)
      have g3' : decide ((0 : Int) < (k' : Int) + 1) = true := decide_eq_true (by omega)
      have hwk : IntKind.i64.wrap ((k' : Int) + 1 - 1) = (k' : Int) := by rw [IntWalk.i64_in _ ⟨by omega, by omega⟩]; omega
      have CP : ∀ u : Aft wq, u.w.cell? ⟨(ad.add (k' * 2)).block, (ad.add (k' * 2)).off + 1, none⟩ = some (.int .i64 pv) := fun u => HPw.out k' rfl u.w (bw_to hBw u.h)
      by_cases hb4 : x2 < pv
      · have Hn2 := Lib.hid (Hno.out (fun h => by
          rcases (Hok.out.1 h).2.2 with h | h
          · omega
          · omega))
        have g4 : decide (x2 < pv) = true := decide_eq_true hb4
        clear hb1 hb2 hb4 hk0
        refine wp_region_aft (wb := wq) (by kernel_rfl) (by kernel_rfl) hBq ?_
        repeat (go_big_quiet_step ((first | (go_at_call 49; exact calls_aft_same fun w hw => Hbl.out w) | (go_at_call 113; exact calls_aft_same fun w hw => Hwt.out w))))
        refine wpQuiet_nil ?_
        rintro _ ⟨u3, rfl⟩
        have hB3 := u3.h
        generalize u3.w = w3 at hB3 ⊢
        clear C0 C1
        go_wp2_with fail
        go_ret
        exact biff_no Hn2.out (bw_to hBw hB3)
      · have Hnx := Lib.hid (preS_succ Hp.out (Hok.out.2 ⟨hb1, hb2, .inr (by omega)⟩))
        have g4 : decide (x2 < pv) = false := decide_eq_false hb4
        clear hb1 hb2 hb4 hk0
        refine wp_region_aft (wb := wq) (by kernel_rfl) (by kernel_rfl) hBq ?_
        repeat (go_big_quiet_step ((first | (go_at_call 49; exact calls_aft_same fun w hw => Hbl.out w) | (go_at_call 113; exact calls_aft_same fun w hw => Hwt.out w))))
        refine wpQuiet_nil ?_
        rintro _ ⟨u3, rfl⟩
        have hB3 := u3.h
        generalize u3.w = w3 at hB3 ⊢
        clear C0 C1
        go_wp2_with fail
        exact ⟨⟨k' + 1 + 1, by omega, by go_num, bw_to hBw hB3, Hnx⟩, by simp [intOf]; omega⟩
set_option maxRecDepth 10000 in
set_option maxHeartbeats 4000000 in
theorem l21Good_iff (v : Value) (l : List (Int × Int)) (w : World) (hv : Sks w v l) : Calls Tryz.prog 85 #[v] w (BIff (GoodS l) w) := by
  obtain ⟨A, c, rfl, h1, h2, hr⟩ := hv
  unfold maxLen at h2
  have HR := Lib.hid hr
  clear hr
  go_enter Tryz.func85, Tryz.ntmps85
  go_wp2_with fail
  go_loopw [7] (fun i wr => ∃ k : Nat, k ≤ l.length ∧ i = .int .i64 k ∧ Below w.heap.size w wr ∧ Hid (PreS l k)) (fun i _ => l.length - (intOf i).toNat)
  case atStart => exact ⟨0, by omega, rfl, Below.refl _ _, Lib.hid (fun i h => absurd h (Nat.not_lt_zero _))⟩
  case round =>
    obtain ⟨k, hk, rfl, hB, Hp⟩ := hrel
    by_cases hlt : k < l.length
    rotate_left
    · obtain rfl : k = l.length := by omega
      by_cases h8 : l.length ≤ 2000
      · have Hy : Hid (GoodS l) := Lib.hid ⟨h8, fun i hi => Hp.out i hi⟩
        have hd : decide ((l.length : Int) ≤ 2000) = true := decide_eq_true (by omega)
        clear h8
        go_wp2_with fail
        go_ret
        exact biff_yes Hy.out hB
      · have Hno : Hid (¬ GoodS l) := Lib.hid (fun g => h8 g.1)
        have hd : decide ((l.length : Int) ≤ 2000) = false := decide_eq_false (by omega)
        clear h8
        go_wp2_with fail
        go_ret
        exact biff_no Hno.out hB
    obtain ⟨ad, rfl, hC⟩ := sks_el HR.out hlt
    obtain ⟨q0, q1⟩ := hC wr hB
    have Hno := Lib.hid (fun h => goodS_no hlt h)
    have HC := Lib.hid hC
    have hgk := gk_at hlt
    have HPv : Hid (∀ (k' : Nat), k = k' + 1 → ∀ W, Below w.heap.size w W → W.cell? ⟨(ad.add (k' * 2)).block, (ad.add (k' * 2)).off + 1, none⟩ = some (.int .i64 (gk l k').2)) := Lib.hid (fun k' e W hW => by
      obtain ⟨ad2, e2, hC2⟩ := sks_el HR.out (show k' < l.length by omega)
      injection e2 with e2
      subst e2
      rw [gk_at (show k' < l.length by omega)]
      exact (hC2 W hW).2)
    rw [← hgk] at q0 q1
    clear hC hgk
    have Hok : Hid (okK l k ↔ (1 ≤ (gk l k).1 ∧ (gk l k).1 ≤ 8) ∧ (0 ≤ (gk l k).2 ∧ (gk l k).2 ≤ 1000000) ∧ (k = 0 ∨ (gk l (k - 1)).2 ≤ (gk l k).2)) := Lib.hid Iff.rfl
    obtain ⟨pv, hpv⟩ : ∃ pv, pv = (gk l (k - 1)).2 := ⟨_, rfl⟩
    obtain ⟨x1, hx1⟩ : ∃ x, x = (gk l k).1 := ⟨_, rfl⟩
    obtain ⟨x2, hx2⟩ : ∃ x, x = (gk l k).2 := ⟨_, rfl⟩
    rw [← hx1] at q0 Hok
    rw [← hx2] at q1 Hok
    rw [← hpv] at Hok
    have HPw : Hid (∀ (k' : Nat), k = k' + 1 → ∀ W, Below w.heap.size w W → W.cell? ⟨(ad.add (k' * 2)).block, (ad.add (k' * 2)).off + 1, none⟩ = some (.int .i64 pv)) := Lib.hid (fun k' e W hW => by
      have := HPv.out k' e W hW
      rw [hpv, show k - 1 = k' by omega]
      exact this)
    have Hbl := Lib.hid (fun W => l1In_any x1 1 8 W)
    have Hwt := Lib.hid (fun W => l1In_any x2 0 1000000 W)
    have Hb2 := Lib.hid hB
    clear hx1 hx2 hpv HPv HC
    go_wp2_with fail
    refine box1 (C := fun W => Code.wp _ _ _ _ W) ?_
    intro wq hwq k1 hBq
    have R := boxRule k1
    have hBw := bw_to Hb2.out hwq
    have C0 : ∀ u : Aft wq, u.w.cell? ⟨wr.heap.size, 0, none⟩ = some (.int .i64 x1) := fun u => R u.w 0 u.h
    have C1 : ∀ u : Aft wq, u.w.cell? ⟨wr.heap.size, 1, none⟩ = some (.int .i64 x2) := fun u => R u.w 1 u.h
    clear R k1 q0 q1 hB hwq
    by_cases hb1 : 1 ≤ x1 ∧ x1 ≤ 8
    rotate_left
    · have Hn2 := Lib.hid (Hno.out (fun h => hb1 (Hok.out.1 h).1))
      rw [decide_eq_false hb1] at Hbl
      clear hb1
      refine wp_region_aft (wb := wq) (by kernel_rfl) (by kernel_rfl) hBq ?_
      repeat (go_big_quiet_step ((first | (go_at_call 43; with_reducible exact calls_aft_same (fun w hw => Hbl.out w)) | (go_at_call 43; with_reducible exact calls_aft_same (fun w hw => Hwt.out w)))))
      refine wpQuiet_nil ?_
      rintro _ ⟨u3, rfl⟩
      have hB3 := u3.h
      generalize u3.w = w3 at hB3 ⊢
      clear C0 C1
      go_wp2_with fail
      go_ret
      exact biff_no Hn2.out (bw_to hBw hB3)
    by_cases hb2 : 0 ≤ x2 ∧ x2 ≤ 1000000
    rotate_left
    · have Hn2 := Lib.hid (Hno.out (fun h => hb2 (Hok.out.1 h).2.1))
      rw [decide_eq_true hb1] at Hbl
      rw [decide_eq_false hb2] at Hwt
      clear hb1 hb2
      refine wp_region_aft (wb := wq) (by kernel_rfl) (by kernel_rfl) hBq ?_
      repeat (go_big_quiet_step ((first | (go_at_call 43; with_reducible exact calls_aft_same (fun w hw => Hbl.out w)) | (go_at_call 43; with_reducible exact calls_aft_same (fun w hw => Hwt.out w)))))
      refine wpQuiet_nil ?_
      rintro _ ⟨u3, rfl⟩
      have hB3 := u3.h
      generalize u3.w = w3 at hB3 ⊢
      clear C0 C1
      go_wp2_with fail
      go_ret
      exact biff_no Hn2.out (bw_to hBw hB3)
    rw [decide_eq_true hb1] at Hbl
    rw [decide_eq_true hb2] at Hwt
    by_cases hk0 : k = 0
    · subst hk0
      have Hnx := Lib.hid (preS_succ Hp.out (Hok.out.2 ⟨hb1, hb2, .inl rfl⟩))
      have g3 : decide ((0 : Int) < ((0 : Nat) : Int)) = false := rfl
      have g3' : decide ((0 : Int) < 0) = false := rfl
      clear hb1 hb2
      refine wp_region_aft (wb := wq) (by kernel_rfl) (by kernel_rfl) hBq ?_
      repeat (go_big_quiet_step ((first | (go_at_call 43; with_reducible exact calls_aft_same (fun w hw => Hbl.out w)) | (go_at_call 43; with_reducible exact calls_aft_same (fun w hw => Hwt.out w)))))
      refine wpQuiet_nil ?_
      rintro _ ⟨u3, rfl⟩
      have hB3 := u3.h
      generalize u3.w = w3 at hB3 ⊢
      clear C0 C1
      go_wp2_with fail
      exact ⟨⟨1, by omega, by go_num, bw_to hBw hB3, Hnx⟩, by simp [intOf]; omega⟩
    · obtain ⟨k', rfl⟩ : ∃ k', k = k' + 1 := ⟨k - 1, by omega⟩
      have g3 : decide ((0 : Int) < ((k' + 1 : Nat) : Int)) = true := decide_eq_true (by omega)
      have g3' : decide ((0 : Int) < (k' : Int) + 1) = true := decide_eq_true (by omega)
      have hwk : IntKind.i64.wrap ((k' : Int) + 1 - 1) = (k' : Int) := by rw [IntWalk.i64_in _ ⟨by omega, by omega⟩]; omega
      have CP : ∀ u : Aft wq, u.w.cell? ⟨(ad.add (k' * 2)).block, (ad.add (k' * 2)).off + 1, none⟩ = some (.int .i64 pv) := fun u => HPw.out k' rfl u.w (bw_to hBw u.h)
      by_cases hb4 : x2 < pv
      · have Hn2 := Lib.hid (Hno.out (fun h => by
          rcases (Hok.out.1 h).2.2 with h | h
          · omega
          · omega))
        have g4 : decide (x2 < pv) = true := decide_eq_true hb4
        clear hb1 hb2 hb4 hk0
        refine wp_region_aft (wb := wq) (by kernel_rfl) (by kernel_rfl) hBq ?_
        repeat (go_big_quiet_step ((first | (go_at_call 43; with_reducible exact calls_aft_same (fun w hw => Hbl.out w)) | (go_at_call 43; with_reducible exact calls_aft_same (fun w hw => Hwt.out w)))))
        refine wpQuiet_nil ?_
        rintro _ ⟨u3, rfl⟩
        have hB3 := u3.h
        generalize u3.w = w3 at hB3 ⊢
        clear C0 C1
        go_wp2_with fail
        go_ret
        exact biff_no Hn2.out (bw_to hBw hB3)
      · have Hnx := Lib.hid (preS_succ Hp.out (Hok.out.2 ⟨hb1, hb2, .inr (by omega)⟩))
        have g4 : decide (x2 < pv) = false := decide_eq_false hb4
        clear hb1 hb2 hb4 hk0
        refine wp_region_aft (wb := wq) (by kernel_rfl) (by kernel_rfl) hBq ?_
        repeat (go_big_quiet_step ((first | (go_at_call 43; with_reducible exact calls_aft_same (fun w hw => Hbl.out w)) | (go_at_call 43; with_reducible exact calls_aft_same (fun w hw => Hwt.out w)))))
        refine wpQuiet_nil ?_
        rintro _ ⟨u3, rfl⟩
        have hB3 := u3.h
        generalize u3.w = w3 at hB3 ⊢
        clear C0 C1
        go_wp2_with fail
        exact ⟨⟨k' + 1 + 1, by omega, by go_num, bw_to hBw hB3, Hnx⟩, by simp [intOf]; omega⟩
end Go.Proofs.YtimeecimaokldaaGreatDoor
