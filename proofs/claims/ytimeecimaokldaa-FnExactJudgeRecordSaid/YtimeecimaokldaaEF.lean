/- Contracts: good times, what a matching asks; both sides. -/
import Derived.Test.YtimeecimaokldaaEE
namespace Go.Proofs.Ytimeecimaokldaa
open Go Go.RowKit
set_option linter.unusedVariables false
set_option linter.unusedSimpArgs false

def tk (l : List Int) (k : Nat) : Int := l.getD k 0
theorem tk_at {l : List Int} {k : Nat} (h : k < l.length) : tk l k = l[k] := by unfold tk; rw [List.getD_eq_getElem?_getD, List.getElem?_eq_getElem h]; rfl
def okT (l : List Int) (k : Nat) : Prop := (0 ≤ tk l k ∧ tk l k ≤ 1000000) ∧ (k = 0 ∨ tk l (k - 1) ≤ tk l k)
def GoodT (l : List Int) : Prop := l.length ≤ 60 ∧ ∀ k, k < l.length → okT l k
def PreT (l : List Int) (k : Nat) : Prop := ∀ i, i < k → okT l i
theorem preT_succ {l : List Int} {k : Nat} (h : PreT l k) (h1 : okT l k) : PreT l (k + 1) := fun i hi => by
  by_cases e : i = k
  · subst e; exact h1
  · exact h i (by omega)
theorem goodT_no {l : List Int} {k : Nat} (hk : k < l.length) (h : ¬ okT l k) : ¬ GoodT l := fun g => h (g.2 k hk)
theorem goodT_rng {l : List Int} (h : GoodT l) : ∀ x ∈ l, 0 ≤ x ∧ x ≤ 1000000 := by
  intro x hx
  obtain ⟨i, hi, rfl⟩ := List.getElem_of_mem hx
  have := (h.2 i hi).1
  rw [tk_at hi] at this
  exact this
set_option maxRecDepth 10000 in
set_option maxHeartbeats 4000000 in
theorem implGoodT_iff (v : Value) (l : List Int) (w : World) (hv : Ints w v l) : Calls Try.prog 52 #[v] w (BIff (GoodT l) w) := by
  obtain ⟨A, c, rfl, h1, h2, hr⟩ := hv
  unfold maxLen at h2
  have HR := Lib.hid hr
  clear hr
  go_enter Try.func52, Try.ntmps52
  go_wp2_with fail
  go_loopw [7] (fun i wr => ∃ k : Nat, k ≤ l.length ∧ i = .int .i64 k ∧ Below w.heap.size w wr ∧ Hid (PreT l k)) (fun i _ => l.length - (intOf i).toNat)
  case atStart => exact ⟨0, by omega, rfl, Below.refl _ _, Lib.hid (fun i h => absurd h (Nat.not_lt_zero _))⟩
  case round =>
    obtain ⟨k, hk, rfl, hB, Hp⟩ := hrel
    by_cases hlt : k < l.length
    rotate_left
    · obtain rfl : k = l.length := by omega
      by_cases h8 : l.length ≤ 60
      · have Hy : Hid (GoodT l) := Lib.hid ⟨h8, fun i hi => Hp.out i hi⟩
        have hd : decide ((l.length : Int) ≤ 60) = true := decide_eq_true (by omega)
        clear h8
        go_wp2_with fail
        go_ret
        exact biff_yes Hy.out hB
      · have Hno : Hid (¬ GoodT l) := Lib.hid (fun g => h8 g.1)
        have hd : decide ((l.length : Int) ≤ 60) = false := decide_eq_false (by omega)
        clear h8
        go_wp2_with fail
        go_ret
        exact biff_no Hno.out hB
    obtain ⟨ad, rfl, hC⟩ := ints_el HR.out hlt
    have q0 := hC wr hB
    have Hno := Lib.hid (fun h => goodT_no hlt h)
    have HPv : Hid (∀ (k' : Nat), k = k' + 1 → ∀ W, Below w.heap.size w W → W.cell? (ad.add k') = some (.int .i64 (tk l (k - 1)))) := Lib.hid (fun k' e W hW => by
      obtain ⟨ad2, e2, hC2⟩ := ints_el HR.out (show k' < l.length by omega)
      injection e2 with e2
      subst e2
      rw [show k - 1 = k' by omega, tk_at (show k' < l.length by omega)]
      exact hC2 W hW)
    have hgk := tk_at hlt
    rw [← hgk] at q0
    clear hC hgk
    have Hok : Hid (okT l k ↔ (0 ≤ tk l k ∧ tk l k ≤ 1000000) ∧ (k = 0 ∨ tk l (k - 1) ≤ tk l k)) := Lib.hid Iff.rfl
    obtain ⟨pv, hpv⟩ : ∃ pv, pv = tk l (k - 1) := ⟨_, rfl⟩
    obtain ⟨x2, hx2⟩ : ∃ x, x = tk l k := ⟨_, rfl⟩
    rw [← hx2] at q0 Hok
    rw [← hpv] at Hok HPv
    have Hwt := Lib.hid (fun W => within_any x2 0 1000000 W)
    have Hb2 := Lib.hid hB
    clear hx2 hpv
    by_cases hb2 : 0 ≤ x2 ∧ x2 ≤ 1000000
    rotate_left
    · have Hn2 := Lib.hid (Hno.out (fun h => hb2 (Hok.out.1 h).1))
      rw [decide_eq_false hb2] at Hwt
      clear hb2
      go_wp2_with (go_at_call 43; refine (Hwt.out _).mono ?_; rintro e w' ⟨rfl, rfl⟩)
      go_ret
      exact biff_no Hn2.out hB
    rw [decide_eq_true hb2] at Hwt
    by_cases hk0 : k = 0
    · subst hk0
      have Hnx := Lib.hid (preT_succ Hp.out (Hok.out.2 ⟨hb2, .inl rfl⟩))
      rw [add_zero'] at q0
      clear hb2
      go_wp2_with (go_at_call 43; refine (Hwt.out _).mono ?_; rintro e w' ⟨rfl, rfl⟩)
      exact ⟨⟨1, by omega, by go_num, hB, Hnx⟩, by simp [intOf]; omega⟩
    · obtain ⟨k', hkk⟩ : ∃ k', k = k' + 1 := ⟨k - 1, by omega⟩
      have hk1 : (0 : Int) < (k : Int) := by omega
      have g3' : decide ((0 : Int) < (k : Int)) = true := decide_eq_true (by omega)
      have hwk : IntKind.i64.wrap ((k : Int) - 1) = (k' : Int) := by rw [IntWalk.i64_in _ ⟨by omega, by omega⟩]; omega
      have CP := HPv.out k' hkk wr hB
      have hkl : k' < l.length := by omega
      by_cases hb4 : x2 < pv
      · have Hn2 := Lib.hid (Hno.out (fun h => by
          rcases (Hok.out.1 h).2 with h | h
          · omega
          · omega))
        have g4 : decide (x2 < pv) = true := decide_eq_true hb4
        clear hb2 hk0 hkk
        go_wp2_with (go_at_call 43; refine (Hwt.out _).mono ?_; rintro e w' ⟨rfl, rfl⟩)
        all_goals first | (exfalso; omega) | (go_ret; exact biff_no Hn2.out hB)
      · have Hnx := Lib.hid (preT_succ Hp.out (Hok.out.2 ⟨hb2, .inr (by omega)⟩))
        have g4 : decide (x2 < pv) = false := decide_eq_false hb4
        clear hb2 hk0 hkk
        go_wp2_with (go_at_call 43; refine (Hwt.out _).mono ?_; rintro e w' ⟨rfl, rfl⟩)
        all_goals first | (exfalso; omega) | exact ⟨⟨k + 1, by omega, by go_num, hB, Hnx⟩, by simp [intOf]; omega⟩
set_option maxRecDepth 10000 in
set_option maxHeartbeats 4000000 in
theorem l22Times_iff (v : Value) (l : List Int) (w : World) (hv : Ints w v l) : Calls Try.prog 48 #[v] w (BIff (GoodT l) w) := by
  obtain ⟨A, c, rfl, h1, h2, hr⟩ := hv
  unfold maxLen at h2
  have HR := Lib.hid hr
  clear hr
  go_enter Try.func48, Try.ntmps48
  go_wp2_with fail
  go_loopw [7] (fun i wr => ∃ k : Nat, k ≤ l.length ∧ i = .int .i64 k ∧ Below w.heap.size w wr ∧ Hid (PreT l k)) (fun i _ => l.length - (intOf i).toNat)
  case atStart => exact ⟨0, by omega, rfl, Below.refl _ _, Lib.hid (fun i h => absurd h (Nat.not_lt_zero _))⟩
  case round =>
    obtain ⟨k, hk, rfl, hB, Hp⟩ := hrel
    by_cases hlt : k < l.length
    rotate_left
    · obtain rfl : k = l.length := by omega
      by_cases h8 : l.length ≤ 60
      · have Hy : Hid (GoodT l) := Lib.hid ⟨h8, fun i hi => Hp.out i hi⟩
        have hd : decide ((l.length : Int) ≤ 60) = true := decide_eq_true (by omega)
        clear h8
        go_wp2_with fail
        go_ret
        exact biff_yes Hy.out hB
      · have Hno : Hid (¬ GoodT l) := Lib.hid (fun g => h8 g.1)
        have hd : decide ((l.length : Int) ≤ 60) = false := decide_eq_false (by omega)
        clear h8
        go_wp2_with fail
        go_ret
        exact biff_no Hno.out hB
    obtain ⟨ad, rfl, hC⟩ := ints_el HR.out hlt
    have q0 := hC wr hB
    have Hno := Lib.hid (fun h => goodT_no hlt h)
    have HPv : Hid (∀ (k' : Nat), k = k' + 1 → ∀ W, Below w.heap.size w W → W.cell? (ad.add k') = some (.int .i64 (tk l (k - 1)))) := Lib.hid (fun k' e W hW => by
      obtain ⟨ad2, e2, hC2⟩ := ints_el HR.out (show k' < l.length by omega)
      injection e2 with e2
      subst e2
      rw [show k - 1 = k' by omega, tk_at (show k' < l.length by omega)]
      exact hC2 W hW)
    have hgk := tk_at hlt
    rw [← hgk] at q0
    clear hC hgk
    have Hok : Hid (okT l k ↔ (0 ≤ tk l k ∧ tk l k ≤ 1000000) ∧ (k = 0 ∨ tk l (k - 1) ≤ tk l k)) := Lib.hid Iff.rfl
    obtain ⟨pv, hpv⟩ : ∃ pv, pv = tk l (k - 1) := ⟨_, rfl⟩
    obtain ⟨x2, hx2⟩ : ∃ x, x = tk l k := ⟨_, rfl⟩
    rw [← hx2] at q0 Hok
    rw [← hpv] at Hok HPv
    have Hwt := Lib.hid (fun W => l1In_any x2 0 1000000 W)
    have Hb2 := Lib.hid hB
    clear hx2 hpv
    by_cases hb2 : 0 ≤ x2 ∧ x2 ≤ 1000000
    rotate_left
    · have Hn2 := Lib.hid (Hno.out (fun h => hb2 (Hok.out.1 h).1))
      rw [decide_eq_false hb2] at Hwt
      clear hb2
      go_wp2_with (go_at_call 27; refine (Hwt.out _).mono ?_; rintro e w' ⟨rfl, rfl⟩)
      go_ret
      exact biff_no Hn2.out hB
    rw [decide_eq_true hb2] at Hwt
    by_cases hk0 : k = 0
    · subst hk0
      have Hnx := Lib.hid (preT_succ Hp.out (Hok.out.2 ⟨hb2, .inl rfl⟩))
      rw [add_zero'] at q0
      clear hb2
      go_wp2_with (go_at_call 27; refine (Hwt.out _).mono ?_; rintro e w' ⟨rfl, rfl⟩)
      exact ⟨⟨1, by omega, by go_num, hB, Hnx⟩, by simp [intOf]; omega⟩
    · obtain ⟨k', hkk⟩ : ∃ k', k = k' + 1 := ⟨k - 1, by omega⟩
      have hk1 : (0 : Int) < (k : Int) := by omega
      have g3' : decide ((0 : Int) < (k : Int)) = true := decide_eq_true (by omega)
      have hwk : IntKind.i64.wrap ((k : Int) - 1) = (k' : Int) := by rw [IntWalk.i64_in _ ⟨by omega, by omega⟩]; omega
      have CP := HPv.out k' hkk wr hB
      have hkl : k' < l.length := by omega
      by_cases hb4 : x2 < pv
      · have Hn2 := Lib.hid (Hno.out (fun h => by
          rcases (Hok.out.1 h).2 with h | h
          · omega
          · omega))
        have g4 : decide (x2 < pv) = true := decide_eq_true hb4
        clear hb2 hk0 hkk
        go_wp2_with (go_at_call 27; refine (Hwt.out _).mono ?_; rintro e w' ⟨rfl, rfl⟩)
        all_goals first | (exfalso; omega) | (go_ret; exact biff_no Hn2.out hB)
      · have Hnx := Lib.hid (preT_succ Hp.out (Hok.out.2 ⟨hb2, .inr (by omega)⟩))
        have g4 : decide (x2 < pv) = false := decide_eq_false hb4
        clear hb2 hk0 hkk
        go_wp2_with (go_at_call 27; refine (Hwt.out _).mono ?_; rintro e w' ⟨rfl, rfl⟩)
        all_goals first | (exfalso; omega) | exact ⟨⟨k + 1, by omega, by go_num, hB, Hnx⟩, by simp [intOf]; omega⟩
def GoodM (a b : List Int) (s : Int) : Prop := GoodT a ∧ GoodT b ∧ (0 ≤ s ∧ s ≤ 10000)
set_option maxRecDepth 10000 in
set_option maxHeartbeats 2000000 in
theorem goodMatching_iff (u v : Value) (a b : List Int) (s : Int) (w : World) (hu : Ints w u a) (hv : Ints w v b) : Calls Try.prog 44 #[u, v, .int .i64 s] w (BIff (GoodM a b s) w) := by
  have H1 := Lib.hid (fun W (hW : Below w.heap.size w W) => implGoodT_iff u a W (hu.to hW))
  have H2 := Lib.hid (fun W (hW : Below w.heap.size w W) => implGoodT_iff v b W (hv.to hW))
  obtain ⟨A1, c1, rfl, _⟩ := hu
  obtain ⟨A2, c2, rfl, _⟩ := hv
  have H3 := Lib.hid (fun W => within_any s 0 10000 W)
  go_enter Try.func44, Try.ntmps44
  go_wp2_with fail
  refine (H1.out _ (Below.refl _ _)).mono ?_; rintro e w1 ⟨b1, rfl, hi1, hb1⟩
  have Hi1 := Lib.hid hi1
  clear hi1
  cases b1
  · have HN : Hid (¬ GoodM a b s) := Lib.hid (fun h => by have := Hi1.out.2 h.1; cases this)
    go_wp2_with fail
    go_ret
    exact biff_no HN.out hb1
  go_wp2_with fail
  refine (H2.out _ hb1).mono ?_; rintro e w2 ⟨b2, rfl, hi2, hb2⟩
  have Hi2 := Lib.hid hi2
  have hB2 := bw_to hb1 hb2
  clear hi2
  cases b2
  · have HN : Hid (¬ GoodM a b s) := Lib.hid (fun h => by have := Hi2.out.2 h.2.1; cases this)
    go_wp2_with fail
    go_ret
    exact biff_no HN.out hB2
  by_cases hs : 0 ≤ s ∧ s ≤ 10000
  · have HY : Hid (GoodM a b s) := Lib.hid ⟨Hi1.out.1 (by trivial), Hi2.out.1 (by trivial), hs⟩
    rw [decide_eq_true hs] at H3
    clear hs
    go_wp2_with fail
    refine (H3.out _).mono ?_; rintro e w3 ⟨rfl, rfl⟩
    go_wp2_with fail
    go_ret
    exact biff_yes HY.out hB2
  · have HN : Hid (¬ GoodM a b s) := Lib.hid (fun h => hs h.2.2)
    rw [decide_eq_false hs] at H3
    clear hs
    go_wp2_with fail
    refine (H3.out _).mono ?_; rintro e w3 ⟨rfl, rfl⟩
    go_wp2_with fail
    go_ret
    exact biff_no HN.out hB2
set_option maxRecDepth 10000 in
set_option maxHeartbeats 2000000 in
theorem l22Asked_iff (u v : Value) (a b : List Int) (s : Int) (w : World) (hu : Ints w u a) (hv : Ints w v b) : Calls Try.prog 39 #[u, v, .int .i64 s] w (BIff (GoodM a b s) w) := by
  have H1 := Lib.hid (fun W (hW : Below w.heap.size w W) => l22Times_iff u a W (hu.to hW))
  have H2 := Lib.hid (fun W (hW : Below w.heap.size w W) => l22Times_iff v b W (hv.to hW))
  obtain ⟨A1, c1, rfl, _⟩ := hu
  obtain ⟨A2, c2, rfl, _⟩ := hv
  have H3 := Lib.hid (fun W => l1In_any s 0 10000 W)
  go_enter Try.func39, Try.ntmps39
  go_wp2_with fail
  refine (H1.out _ (Below.refl _ _)).mono ?_; rintro e w1 ⟨b1, rfl, hi1, hb1⟩
  have Hi1 := Lib.hid hi1
  clear hi1
  cases b1
  · have HN : Hid (¬ GoodM a b s) := Lib.hid (fun h => by have := Hi1.out.2 h.1; cases this)
    go_wp2_with fail
    go_ret
    exact biff_no HN.out hb1
  go_wp2_with fail
  refine (H2.out _ hb1).mono ?_; rintro e w2 ⟨b2, rfl, hi2, hb2⟩
  have Hi2 := Lib.hid hi2
  have hB2 := bw_to hb1 hb2
  clear hi2
  cases b2
  · have HN : Hid (¬ GoodM a b s) := Lib.hid (fun h => by have := Hi2.out.2 h.2.1; cases this)
    go_wp2_with fail
    go_ret
    exact biff_no HN.out hB2
  by_cases hs : 0 ≤ s ∧ s ≤ 10000
  · have HY : Hid (GoodM a b s) := Lib.hid ⟨Hi1.out.1 (by trivial), Hi2.out.1 (by trivial), hs⟩
    rw [decide_eq_true hs] at H3
    clear hs
    go_wp2_with fail
    refine (H3.out _).mono ?_; rintro e w3 ⟨rfl, rfl⟩
    go_wp2_with fail
    go_ret
    exact biff_yes HY.out hB2
  · have HN : Hid (¬ GoodM a b s) := Lib.hid (fun h => hs h.2.2)
    rw [decide_eq_false hs] at H3
    clear hs
    go_wp2_with fail
    refine (H3.out _).mono ?_; rintro e w3 ⟨rfl, rfl⟩
    go_wp2_with fail
    go_ret
    exact biff_no HN.out hB2
end Go.Proofs.Ytimeecimaokldaa
