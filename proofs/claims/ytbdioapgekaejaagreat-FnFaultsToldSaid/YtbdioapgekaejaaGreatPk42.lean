/- The checking of a fault: both sides. (Printed by a program: tools/mkD6.py.) -/
import Derived.Test.YtbdioapgekaejaaGreatPk41
namespace Go.Proofs.YtbdioapgekaejaaGreat
open Go Go.RowKit
set_option linter.unusedVariables false
set_option linter.unusedSimpArgs false

/-- Does a fault name two places with equal rows, in a touch of T leads of N rows? -/
def chkB (rows : List ByteArray) (T N : Nat) (a b c d : Int) : Bool :=
  (decide (0 ≤ a ∧ a ≤ (T : Int) - 1) && (decide (0 ≤ c ∧ c ≤ (T : Int) - 1) && (decide (0 ≤ b ∧ b ≤ (N : Int) - 1) && decide (0 ≤ d ∧ d ≤ (N : Int) - 1)))) && (decide (a * N + b < c * N + d) && decide (rows[(a * N + b).toNat]? = rows[(c * N + d).toNat]?))
theorem pair_lt {x y T N : Nat} (hx : x < T) (hy : y < N) : x * N + y < T * N := by
  have h1 : (x + 1) * N ≤ T * N := Nat.mul_le_mul_right N hx
  rw [Nat.add_mul, Nat.one_mul] at h1
  omega
set_option maxRecDepth 100000 in
set_option maxHeartbeats 8000000 in
theorem implCheckFault_any (m : Mt) (v : Value) (k : Cl) (t : ByteArray) (a b c d : Int) (w : World) (h : MethAt w m v) (hs : MtSmall m) (hk : ClSmall k) (ht : t.size ≤ 1048576) : Calls Tryz.prog 26 #[m.v v, k.v, .string t, .agg #[.int .i64 a, .int .i64 b, .int .i64 c, .int .i64 d]] w fun e w' =>
    e = .returned (.tuple #[.bool (okT m k t && chkB (rowsT m k t) t.size m.l.length a b c d), .bool (okT m k t)]) ∧ Below w.heap.size w w' := by
  have Hg := Lib.hid (fun W (hW : Below w.heap.size w W) => goodFor_any m v k t W (h.to hW) hs hk (Nat.le_trans ht (by unfold maxLen; omega)))
  have Htr := Lib.hid (fun W (hW : Below w.heap.size w W) (ha : askT m k t = true) => touchRows_any m v k t W ha (h.1.to hW))
  have hao : okT m k t = true → askT m k t = true := fun e => by unfold okT at e; rw [Bool.and_eq_true] at e; exact e.1
  have hdef : askT m k t = (callsB m k && touchB t.data.toList) := rfl
  rw [← hdef] at Hg
  have Hts := Lib.hid ht
  have Hml := Lib.hid hs.2.1
  obtain ⟨A, c0, hv⟩ := h.form
  subst hv
  have hLen0 : (rowsT m k t).length = t.size * m.l.length := rowsT_len m k t
  have hro : okT m k t = true → rowsO m k t = rowsT m k t := fun e => by unfold rowsO; rw [if_pos e]
  have hoL : okT m k t = true → (rowsT m k t).length ≤ 800 := fun e => rows_size e
  obtain ⟨L, hL⟩ : ∃ L, L = rowsT m k t := ⟨_, rfl⟩
  obtain ⟨ok, hok⟩ : ∃ ok, ok = okT m k t := ⟨_, rfl⟩
  rw [← hL] at hLen0 hro hoL
  rw [← hok] at hro hoL
  simp only [← hL, ← hok] at Htr ⊢
  have HLen := Lib.hid hLen0
  clear hLen0
  rw [← hok] at hao
  obtain ⟨ask, hask⟩ : ∃ ask, ask = askT m k t := ⟨_, rfl⟩
  rw [← hask] at Hg hao
  simp only [← hask] at Htr
  have Hro := Lib.hid hro
  unfold Mt.v Cl.v at *
  clear h hs hk ht hdef hL hok hask hro
  go_enter Tryz.func26, Tryz.ntmps26
  go_wp2_with fail
  refine box3 (C := fun W => Calls _ _ _ W _) ?_
  intro wb hw k1 k2 k3 hB0
  have R1 := boxRule k1
  have R2 := boxRule k2
  have R3 := boxRule k3
  clear k1 k2 k3
  refine (Hg.out _ hw).mono ?_; rintro e w1 ⟨rfl, hb1⟩
  have hB1 := bw_to hw hb1
  cases ask
  · obtain rfl : ok = false := by cases ok with | false => rfl | true => exact (hao rfl).symm
    clear hao hoL R1 R2 R3
    go_wp2_with fail
    go_ret2
    exact ⟨rfl, hB1⟩
  · have Htr2 := Lib.hid (Htr.out _ hB1 rfl)
    clear hao Htr
    go_wp2_with fail
    refine Htr2.out.mono ?_; rintro e w2 ⟨A1, qc1, rfl, hown, hb2⟩
    have hB2 := bw_to hB1 hb2
    cases ok
    · clear R1 R2 R3 hoL
      go_wp2_with fail
      go_ret2
      exact ⟨rfl, hB2⟩
    · rw [Hro.out rfl] at hown ⊢
      have hl8 : L.length ≤ 800 := hoL rfl
      have HS := Lib.hid (fun W (hW : Below w2.heap.size w2 W) => (strs_of_own hown).to hW)
      have hBb : Below wb.heap.size wb w2 := bw_to hb1 hb2
      have fm : w2.cell? ⟨w.heap.size, 2, none⟩ = some (.slice A m.l.length c0) := R1 w2 2 hBb
      have fa := R3 w2 0 hBb
      have fb := R3 w2 1 hBb
      have fc := R3 w2 2 hBb
      have fd := R3 w2 3 hBb
      have htz : t.size ≤ 1048576 := Hts.out
      have hml : m.l.length ≤ 1048576 := Hml.out
      clear hown hoL R1 R2 R3
      go_upto_region 7 with fail
      have hI := fun (x lo hi : Int) W => within_any x lo hi W
      by_cases ha : 0 ≤ a ∧ a ≤ (t.size : Int) - 1
      rotate_left
      · have Ea := Lib.hid (decide_eq_false ha)
        have HR := Lib.hid (show chkB L t.size m.l.length a b c d = false by unfold chkB; rw [Ea.out]; rfl)
        clear ha
        go_wp2_with (go_at_call 61; refine (hI _ _ _ _).mono ?_; rintro e w' ⟨rfl, rfl⟩; rw [Ea.out])
        go_ret2
        exact ⟨by rw [HR.out] <;> rfl, hB2⟩
      have Ea := Lib.hid (decide_eq_true ha)
      by_cases hc : 0 ≤ c ∧ c ≤ (t.size : Int) - 1
      rotate_left
      · have Ec := Lib.hid (decide_eq_false hc)
        have HR := Lib.hid (show chkB L t.size m.l.length a b c d = false by unfold chkB; rw [Ea.out, Ec.out]; rfl)
        clear ha hc
        go_wp2_with (go_at_call 61; refine (hI _ _ _ _).mono ?_; rintro e w' ⟨rfl, rfl⟩; first | rw [Ea.out] | rw [Ec.out])
        go_ret2
        exact ⟨by rw [HR.out] <;> rfl, hB2⟩
      have Ec := Lib.hid (decide_eq_true hc)
      by_cases hb : 0 ≤ b ∧ b ≤ (m.l.length : Int) - 1
      rotate_left
      · have Eb := Lib.hid (decide_eq_false hb)
        have HR := Lib.hid (show chkB L t.size m.l.length a b c d = false by unfold chkB; rw [Ea.out, Ec.out, Eb.out]; rfl)
        clear ha hc hb
        go_wp2_with (go_at_call 61; refine (hI _ _ _ _).mono ?_; rintro e w' ⟨rfl, rfl⟩; first | rw [Ea.out] | rw [Ec.out] | rw [Eb.out])
        go_ret2
        exact ⟨by rw [HR.out] <;> rfl, hB2⟩
      have Eb := Lib.hid (decide_eq_true hb)
      by_cases hd : 0 ≤ d ∧ d ≤ (m.l.length : Int) - 1
      rotate_left
      · have Ed := Lib.hid (decide_eq_false hd)
        have HR := Lib.hid (show chkB L t.size m.l.length a b c d = false by unfold chkB; rw [Ea.out, Ec.out, Eb.out, Ed.out]; rfl)
        clear ha hc hb hd
        go_wp2_with (go_at_call 61; refine (hI _ _ _ _).mono ?_; rintro e w' ⟨rfl, rfl⟩; first | rw [Ea.out] | rw [Ec.out] | rw [Eb.out] | rw [Ed.out])
        go_ret2
        exact ⟨by rw [HR.out] <;> rfl, hB2⟩
      have Ed := Lib.hid (decide_eq_true hd)
      obtain ⟨x, rfl⟩ : ∃ x : Nat, a = x := ⟨a.toNat, by omega⟩
      obtain ⟨y, rfl⟩ : ∃ x : Nat, b = x := ⟨b.toNat, by omega⟩
      obtain ⟨z, rfl⟩ : ∃ x : Nat, c = x := ⟨c.toNat, by omega⟩
      obtain ⟨u, rfl⟩ : ∃ x : Nat, d = x := ⟨d.toNat, by omega⟩
      have hi0 : x * m.l.length + y < L.length := by rw [HLen.out]; exact pair_lt (by omega) (by omega)
      have hj0 : z * m.l.length + u < L.length := by rw [HLen.out]; exact pair_lt (by omega) (by omega)
      obtain ⟨p, hp⟩ : ∃ p, p = x * m.l.length := ⟨_, rfl⟩
      obtain ⟨r, hr⟩ : ∃ p, p = z * m.l.length := ⟨_, rfl⟩
      have hp2 : (x : Int) * (m.l.length : Int) = (p : Int) := by rw [hp]; simp
      have hr2 : (z : Int) * (m.l.length : Int) = (r : Int) := by rw [hr]; simp
      rw [← hp] at hi0
      rw [← hr] at hj0
      obtain ⟨i, hi⟩ : ∃ i, i = p + y := ⟨_, rfl⟩
      obtain ⟨j, hj⟩ : ∃ i, i = r + u := ⟨_, rfl⟩
      rw [← hi] at hi0
      rw [← hj] at hj0
      have HR := Lib.hid (show chkB L t.size m.l.length (x : Int) (y : Int) (z : Int) (u : Int) = (decide (i < j) && decide (L[i]? = L[j]?)) by
        unfold chkB
        rw [Ea.out, Ec.out, Eb.out, Ed.out, hp2, hr2, show ((p : Int) + (y : Int)).toNat = i by omega, show ((r : Int) + (u : Int)).toNat = j by omega, show decide ((p : Int) + (y : Int) < (r : Int) + (u : Int)) = decide (i < j) by apply Bool.eq_iff_iff.2; simp only [decide_eq_true_eq]; omega]
        rfl)
      have q1 : IntKind.i64.wrap ((x : Int) * (m.l.length : Int)) = (p : Int) := by rw [hp2]; exact IntWalk.i64_in _ (by omega)
      have q2 : IntKind.i64.wrap ((z : Int) * (m.l.length : Int)) = (r : Int) := by rw [hr2]; exact IntWalk.i64_in _ (by omega)
      have q3 : IntKind.i64.wrap ((p : Int) + (y : Int)) = (i : Int) := by rw [show ((p : Int) + (y : Int)) = (i : Int) by omega]; exact IntWalk.i64_in _ (by omega)
      have q4 : IntKind.i64.wrap ((r : Int) + (u : Int)) = (j : Int) := by rw [show ((r : Int) + (u : Int)) = (j : Int) by omega]; exact IntWalk.i64_in _ (by omega)
      clear ha hb hc hd hp hr hp2 hr2 hi hj
      go_upto_region 9 with (go_at_call 61; refine (hI _ _ _ _).mono ?_; rintro e w' ⟨rfl, rfl⟩; first | rw [Ea.out] | rw [Ec.out] | rw [Eb.out] | rw [Ed.out])
      clear Ea Eb Ec Ed hI
      go_big_quiet (fail)
      have hBd := bw_dr hB2 nq
      obtain ⟨A9, c9, e9, hc9, hm9, hrd⟩ := HS.out _ (bw_dr (Below.refl w2.heap.size w2) nq)
      cases e9
      generalize w2.drewN nq = wd at hBd hrd ⊢
      obtain ⟨ad, rfl, hCi⟩ := strs_el hrd hi0
      obtain ⟨ad', e', hCj⟩ := strs_el hrd hj0
      injection e' with e'
      subst e'
      have ci := hCi wd (Below.refl _ _)
      have cj := hCj wd (Below.refl _ _)
      have hiz : (i : Int) < (L.length : Int) := by omega
      have hjz : (j : Int) < (L.length : Int) := by omega
      have HLi : Hid (L[i]? = some L[i]) := Lib.hid (List.getElem?_eq_getElem hi0)
      have HLj : Hid (L[j]? = some L[j]) := Lib.hid (List.getElem?_eq_getElem hj0)
      obtain ⟨s1, hs1⟩ : ∃ s, s = L[i] := ⟨_, rfl⟩
      obtain ⟨s2, hs2⟩ : ∃ s, s = L[j] := ⟨_, rfl⟩
      rw [← hs1] at ci HLi
      rw [← hs2] at cj HLj
      clear hCi hCj hs1 hs2 q1 q2 q3 q4 fa fb fc fd
      go_wp2_with fail
      by_cases hij : i < j
      rotate_left
      · have g1 : decide ((i : Int) < (j : Int)) = false := decide_eq_false (by omega)
        have HR2 := Lib.hid (show (decide (i < j) && decide (L[i]? = L[j]?)) = false by rw [decide_eq_false hij]; rfl)
        go_big_quiet (fail)
        go_wp2_with fail
        go_ret2
        exact ⟨by rw [HR.out, HR2.out] <;> rfl, bw_dr hBd _⟩
      have g1 : decide ((i : Int) < (j : Int)) = true := decide_eq_true (by omega)
      by_cases hss : s1 = s2
      · have g2 : (s1.toList == s2.toList) = true := by rw [hss]; exact beq_self_eq_true _
        have HR2 := Lib.hid (show (decide (i < j) && decide (L[i]? = L[j]?)) = true by rw [decide_eq_true hij, HLi.out, HLj.out, hss, decide_eq_true rfl]; rfl)
        clear hss
        go_big_quiet (fail)
        go_wp2_with fail
        go_ret2
        exact ⟨by rw [HR.out, HR2.out] <;> rfl, bw_dr hBd _⟩
      · have g2 : (s1.toList == s2.toList) = false := by rw [sl_beq]; exact decide_eq_false hss
        have HR2 := Lib.hid (show (decide (i < j) && decide (L[i]? = L[j]?)) = false by rw [HLi.out, HLj.out, decide_eq_false (fun e => hss (Option.some.inj e)), Bool.and_false])
        clear hss
        go_big_quiet (fail)
        go_wp2_with fail
        go_ret2
        exact ⟨by rw [HR.out, HR2.out] <;> rfl, bw_dr hBd _⟩
set_option maxRecDepth 100000 in
set_option maxHeartbeats 8000000 in
theorem specCheckFault_any (m : Mt) (v : Value) (k : Cl) (t : ByteArray) (a b c d : Int) (w : World) (h : MethAt w m v) (hs : MtSmall m) (hk : ClSmall k) (ht : t.size ≤ 1048576) : Calls Tryz.prog 28 #[m.v v, k.v, .string t, .agg #[.int .i64 a, .int .i64 b, .int .i64 c, .int .i64 d]] w fun e w' =>
    e = .returned (.tuple #[.bool (okT m k t && chkB (rowsT m k t) t.size m.l.length a b c d), .bool (okT m k t)]) ∧ Below w.heap.size w w' := by
  have Htr := Lib.hid (fun W (hW : Below w.heap.size w W) => specTouchRows_any m v k t W (h.to hW) hs hk ht)
  have Hts := Lib.hid ht
  have Hml := Lib.hid hs.2.1
  obtain ⟨A, c0, hv⟩ := h.form
  subst hv
  have hLen0 : (rowsT m k t).length = t.size * m.l.length := rowsT_len m k t
  have hro : okT m k t = true → rowsO m k t = rowsT m k t := fun e => by unfold rowsO; rw [if_pos e]
  have hoL : okT m k t = true → (rowsT m k t).length ≤ 800 := fun e => rows_size e
  obtain ⟨L, hL⟩ : ∃ L, L = rowsT m k t := ⟨_, rfl⟩
  obtain ⟨ok, hok⟩ : ∃ ok, ok = okT m k t := ⟨_, rfl⟩
  rw [← hL] at hLen0 hro hoL
  rw [← hok] at hro hoL
  simp only [← hL, ← hok] at Htr ⊢
  have HLen := Lib.hid hLen0
  clear hLen0
  have Hro := Lib.hid hro
  unfold Mt.v Cl.v at *
  clear h hs hk ht hL hok hro
  go_enter Tryz.func28, Tryz.ntmps28
  go_wp2_with fail
  refine box3 (C := fun W => Calls _ _ _ W _) ?_
  intro wb hw k1 k2 k3 hB0
  have R1 := boxRule k1
  have R2 := boxRule k2
  have R3 := boxRule k3
  clear k1 k2 k3
  refine (Htr.out _ hw).mono ?_; rintro e w2 ⟨A1, qc1, rfl, hown, hb2⟩
  have hB2 := bw_to hw hb2
  cases ok
  · clear R1 R2 R3 hoL
    go_wp2_with fail
    go_ret2
    exact ⟨rfl, hB2⟩
  · rw [Hro.out rfl] at hown ⊢
    have hl8 : L.length ≤ 800 := hoL rfl
    have HS := Lib.hid (fun W (hW : Below w2.heap.size w2 W) => (strs_of_own hown).to hW)
    have fm : w2.cell? ⟨w.heap.size, 2, none⟩ = some (.slice A m.l.length c0) := R1 w2 2 hb2
    have fa := R3 w2 0 hb2
    have fb := R3 w2 1 hb2
    have fc := R3 w2 2 hb2
    have fd := R3 w2 3 hb2
    have htz : t.size ≤ 1048576 := Hts.out
    have hml : m.l.length ≤ 1048576 := Hml.out
    clear hown hoL R1 R2 R3
    go_upto_region 5 with fail
    have hI := fun (x lo hi : Int) W => l1In_any x lo hi W
    by_cases ha : 0 ≤ a ∧ a ≤ (t.size : Int) - 1
    rotate_left
    · have Ea := Lib.hid (decide_eq_false ha)
      have HR := Lib.hid (show chkB L t.size m.l.length a b c d = false by unfold chkB; rw [Ea.out]; rfl)
      clear ha
      go_wp2_with (go_at_call 62; refine (hI _ _ _ _).mono ?_; rintro e w' ⟨rfl, rfl⟩; rw [Ea.out])
      go_ret2
      exact ⟨by rw [HR.out] <;> rfl, hB2⟩
    have Ea := Lib.hid (decide_eq_true ha)
    by_cases hc : 0 ≤ c ∧ c ≤ (t.size : Int) - 1
    rotate_left
    · have Ec := Lib.hid (decide_eq_false hc)
      have HR := Lib.hid (show chkB L t.size m.l.length a b c d = false by unfold chkB; rw [Ea.out, Ec.out]; rfl)
      clear ha hc
      go_wp2_with (go_at_call 62; refine (hI _ _ _ _).mono ?_; rintro e w' ⟨rfl, rfl⟩; first | rw [Ea.out] | rw [Ec.out])
      go_ret2
      exact ⟨by rw [HR.out] <;> rfl, hB2⟩
    have Ec := Lib.hid (decide_eq_true hc)
    by_cases hb : 0 ≤ b ∧ b ≤ (m.l.length : Int) - 1
    rotate_left
    · have Eb := Lib.hid (decide_eq_false hb)
      have HR := Lib.hid (show chkB L t.size m.l.length a b c d = false by unfold chkB; rw [Ea.out, Ec.out, Eb.out]; rfl)
      clear ha hc hb
      go_wp2_with (go_at_call 62; refine (hI _ _ _ _).mono ?_; rintro e w' ⟨rfl, rfl⟩; first | rw [Ea.out] | rw [Ec.out] | rw [Eb.out])
      go_ret2
      exact ⟨by rw [HR.out] <;> rfl, hB2⟩
    have Eb := Lib.hid (decide_eq_true hb)
    by_cases hd : 0 ≤ d ∧ d ≤ (m.l.length : Int) - 1
    rotate_left
    · have Ed := Lib.hid (decide_eq_false hd)
      have HR := Lib.hid (show chkB L t.size m.l.length a b c d = false by unfold chkB; rw [Ea.out, Ec.out, Eb.out, Ed.out]; rfl)
      clear ha hc hb hd
      go_wp2_with (go_at_call 62; refine (hI _ _ _ _).mono ?_; rintro e w' ⟨rfl, rfl⟩; first | rw [Ea.out] | rw [Ec.out] | rw [Eb.out] | rw [Ed.out])
      go_ret2
      exact ⟨by rw [HR.out] <;> rfl, hB2⟩
    have Ed := Lib.hid (decide_eq_true hd)
    obtain ⟨x, rfl⟩ : ∃ x : Nat, a = x := ⟨a.toNat, by omega⟩
    obtain ⟨y, rfl⟩ : ∃ x : Nat, b = x := ⟨b.toNat, by omega⟩
    obtain ⟨z, rfl⟩ : ∃ x : Nat, c = x := ⟨c.toNat, by omega⟩
    obtain ⟨u, rfl⟩ : ∃ x : Nat, d = x := ⟨d.toNat, by omega⟩
    have hi0 : x * m.l.length + y < L.length := by rw [HLen.out]; exact pair_lt (by omega) (by omega)
    have hj0 : z * m.l.length + u < L.length := by rw [HLen.out]; exact pair_lt (by omega) (by omega)
    obtain ⟨p, hp⟩ : ∃ p, p = x * m.l.length := ⟨_, rfl⟩
    obtain ⟨r, hr⟩ : ∃ p, p = z * m.l.length := ⟨_, rfl⟩
    have hp2 : (x : Int) * (m.l.length : Int) = (p : Int) := by rw [hp]; simp
    have hr2 : (z : Int) * (m.l.length : Int) = (r : Int) := by rw [hr]; simp
    rw [← hp] at hi0
    rw [← hr] at hj0
    obtain ⟨i, hi⟩ : ∃ i, i = p + y := ⟨_, rfl⟩
    obtain ⟨j, hj⟩ : ∃ i, i = r + u := ⟨_, rfl⟩
    rw [← hi] at hi0
    rw [← hj] at hj0
    have HR := Lib.hid (show chkB L t.size m.l.length (x : Int) (y : Int) (z : Int) (u : Int) = (decide (i < j) && decide (L[i]? = L[j]?)) by
      unfold chkB
      rw [Ea.out, Ec.out, Eb.out, Ed.out, hp2, hr2, show ((p : Int) + (y : Int)).toNat = i by omega, show ((r : Int) + (u : Int)).toNat = j by omega, show decide ((p : Int) + (y : Int) < (r : Int) + (u : Int)) = decide (i < j) by apply Bool.eq_iff_iff.2; simp only [decide_eq_true_eq]; omega]
      rfl)
    have q1 : IntKind.i64.wrap ((x : Int) * (m.l.length : Int)) = (p : Int) := by rw [hp2]; exact IntWalk.i64_in _ (by omega)
    have q2 : IntKind.i64.wrap ((z : Int) * (m.l.length : Int)) = (r : Int) := by rw [hr2]; exact IntWalk.i64_in _ (by omega)
    have q3 : IntKind.i64.wrap ((p : Int) + (y : Int)) = (i : Int) := by rw [show ((p : Int) + (y : Int)) = (i : Int) by omega]; exact IntWalk.i64_in _ (by omega)
    have q4 : IntKind.i64.wrap ((r : Int) + (u : Int)) = (j : Int) := by rw [show ((r : Int) + (u : Int)) = (j : Int) by omega]; exact IntWalk.i64_in _ (by omega)
    clear ha hb hc hd hp hr hp2 hr2 hi hj
    go_upto_region 7 with (go_at_call 62; refine (hI _ _ _ _).mono ?_; rintro e w' ⟨rfl, rfl⟩; first | rw [Ea.out] | rw [Ec.out] | rw [Eb.out] | rw [Ed.out])
    clear Ea Eb Ec Ed hI
    go_big_quiet (fail)
    have hBd := bw_dr hB2 nq
    obtain ⟨A9, c9, e9, hc9, hm9, hrd⟩ := HS.out _ (bw_dr (Below.refl w2.heap.size w2) nq)
    cases e9
    generalize w2.drewN nq = wd at hBd hrd ⊢
    obtain ⟨ad, rfl, hCi⟩ := strs_el hrd hi0
    obtain ⟨ad', e', hCj⟩ := strs_el hrd hj0
    injection e' with e'
    subst e'
    have ci := hCi wd (Below.refl _ _)
    have cj := hCj wd (Below.refl _ _)
    have hiz : (i : Int) < (L.length : Int) := by omega
    have hjz : (j : Int) < (L.length : Int) := by omega
    have HLi : Hid (L[i]? = some L[i]) := Lib.hid (List.getElem?_eq_getElem hi0)
    have HLj : Hid (L[j]? = some L[j]) := Lib.hid (List.getElem?_eq_getElem hj0)
    obtain ⟨s1, hs1⟩ : ∃ s, s = L[i] := ⟨_, rfl⟩
    obtain ⟨s2, hs2⟩ : ∃ s, s = L[j] := ⟨_, rfl⟩
    rw [← hs1] at ci HLi
    rw [← hs2] at cj HLj
    clear hCi hCj hs1 hs2 q1 q2 q3 q4 fa fb fc fd
    go_wp2_with fail
    by_cases hij : i < j
    rotate_left
    · have g1 : decide ((i : Int) < (j : Int)) = false := decide_eq_false (by omega)
      have HR2 := Lib.hid (show (decide (i < j) && decide (L[i]? = L[j]?)) = false by rw [decide_eq_false hij]; rfl)
      go_big_quiet (fail)
      go_wp2_with fail
      go_ret2
      exact ⟨by rw [HR.out, HR2.out] <;> rfl, bw_dr hBd _⟩
    have g1 : decide ((i : Int) < (j : Int)) = true := decide_eq_true (by omega)
    by_cases hss : s1 = s2
    · have g2 : (s1.toList == s2.toList) = true := by rw [hss]; exact beq_self_eq_true _
      have HR2 := Lib.hid (show (decide (i < j) && decide (L[i]? = L[j]?)) = true by rw [decide_eq_true hij, HLi.out, HLj.out, hss, decide_eq_true rfl]; rfl)
      clear hss
      go_big_quiet (fail)
      go_wp2_with fail
      go_ret2
      exact ⟨by rw [HR.out, HR2.out] <;> rfl, bw_dr hBd _⟩
    · have g2 : (s1.toList == s2.toList) = false := by rw [sl_beq]; exact decide_eq_false hss
      have HR2 := Lib.hid (show (decide (i < j) && decide (L[i]? = L[j]?)) = false by rw [HLi.out, HLj.out, decide_eq_false (fun e => hss (Option.some.inj e)), Bool.and_false])
      clear hss
      go_big_quiet (fail)
      go_wp2_with fail
      go_ret2
      exact ⟨by rw [HR.out, HR2.out] <;> rfl, bw_dr hBd _⟩
end Go.Proofs.YtbdioapgekaejaaGreat
