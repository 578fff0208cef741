/- The fault of a touch: both sides. -/
import Derived.Test.YtbdioapgekaejaaGreatPk40
import Derived.Test.YtbdioapgekaejaaGreatPk14
namespace Go.Proofs.YtbdioapgekaejaaGreat
open Go Go.RowKit
set_option linter.unusedVariables false
set_option linter.unusedSimpArgs false

/-- The first pair of equal rows of a touch. -/
noncomputable def fltO (m : Mt) (k : Cl) (t : ByteArray) : Option (Nat × Nat) := repO (rowsO m k t)
def fltV (N : Nat) : Option (Nat × Nat) → Value
  | none => .agg #[.int .i64 0, .int .i64 0, .int .i64 0, .int .i64 0]
  | some (a, b) => .agg #[.int .i64 ((a / N : Nat) : Int), .int .i64 ((a % N : Nat) : Int), .int .i64 ((b / N : Nat) : Int), .int .i64 ((b % N : Nat) : Int)]
theorem repO_nil : repO ([] : List ByteArray) = none := repO_none (fun i k h => by have := h.2.1; simp at this)
theorem fltO_no {m : Mt} {k : Cl} {t : ByteArray} (h : okT m k t = false) : fltO m k t = none := by
  unfold fltO rowsO
  rw [h]; exact repO_nil
/-- The result's block, written or not. -/
structure FR (w : World) (B R : Nat) (W : World) : Prop where
  bw : Below B w W
  rm : ∃ xs, W.ownsRow B 53 4 (.slice (some ⟨R, 0, none⟩) 1 1) 1 xs
theorem FR.to {w : World} {B R : Nat} {W W' : World} (h : FR w B R W) (hB : B ≤ W.heap.size) (hb : Below W.heap.size W W') : FR w B R W' := ⟨h.bw.trans (hb.mono hB), let ⟨xs, hx⟩ := h.rm; ⟨xs, own_to hx hb⟩⟩
theorem FR.all {w : World} {B R : Nat} {W : World} (h : FR w B R W) : FR w B R W ∧ W.cell? ⟨R, 0, none⟩ = some (oldC R 0 W) ∧ W.cell? ⟨R, 1, none⟩ = some (oldC R 1 W) ∧ W.cell? ⟨R, 2, none⟩ = some (oldC R 2 W) ∧ W.cell? ⟨R, 3, none⟩ = some (oldC R 3 W) ∧ W.frozen? ⟨R, 0, none⟩ = false ∧ W.frozen? ⟨R, 1, none⟩ = false ∧ W.frozen? ⟨R, 2, none⟩ = false ∧ W.frozen? ⟨R, 3, none⟩ = false := by
  obtain ⟨xs, hx⟩ := h.rm
  have hl : xs.length = 4 := hx.1
  have st : ∀ j, j < 4 → W.cell? ⟨R, j, none⟩ = some (oldC R j W) := fun j hj => by
    apply oldC_of (x := xs[j])
    rw [hx.cellAt j (by omega)]; simp [hl, hj]
  exact ⟨h, st 0 (by omega), st 1 (by omega), st 2 (by omega), st 3 (by omega), hx.frozenAt _, hx.frozenAt _, hx.frozenAt _, hx.frozenAt _⟩
theorem FR.fin {w : World} {B R : Nat} {W : World} (h : FR w B R W) (a b c d : Value) : ∃ W', W' = (((W.setCell ⟨R, 0, none⟩ a).setCell ⟨R, 1, none⟩ b).setCell ⟨R, 2, none⟩ c).setCell ⟨R, 3, none⟩ d ∧ Below B w W' ∧ W'.cell? ⟨R, 0, none⟩ = some a ∧ W'.cell? ⟨R, 1, none⟩ = some b ∧ W'.cell? ⟨R, 2, none⟩ = some c ∧ W'.cell? ⟨R, 3, none⟩ = some d := by
  obtain ⟨xs, hx⟩ := h.rm
  have hl : xs.length = 4 := hx.1
  have hR := (hx.lt R rfl).1
  have h4 := own_set (own_set (own_set (own_set hx 0 a) 1 b) 2 c) 3 d
  refine ⟨_, rfl, grow_setB9 (grow_setB9 (grow_setB9 (grow_setB9 h.bw hR a) hR b) hR c) hR d, ?_, ?_, ?_, ?_⟩
  · rw [h4.cellAt 0 (by omega)]; simp [hl]
  · rw [h4.cellAt 1 (by omega)]; simp [hl]
  · rw [h4.cellAt 2 (by omega)]; simp [hl]
  · rw [h4.cellAt 3 (by omega)]; simp [hl]
theorem FR.set4 {w : World} {B R : Nat} {W : World} (h : FR w B R W) {a b c d : Value} : FR w B R ((((W.setCell ⟨R, 0, none⟩ a).setCell ⟨R, 1, none⟩ b).setCell ⟨R, 2, none⟩ c).setCell ⟨R, 3, none⟩ d) :=
  ⟨let ⟨_, e, hb, _⟩ := h.fin a b c d; e ▸ hb, let ⟨_, hx⟩ := h.rm; ⟨_, own_set (own_set (own_set (own_set hx 0 a) 1 b) 2 c) 3 d⟩⟩
theorem FR.allS {w : World} {B R : Nat} {W : World} {a b c d : Value} (h : FR w B R W ∧ W.cell? ⟨R, 0, none⟩ = some (oldC R 0 W) ∧ W.cell? ⟨R, 1, none⟩ = some (oldC R 1 W) ∧ W.cell? ⟨R, 2, none⟩ = some (oldC R 2 W) ∧ W.cell? ⟨R, 3, none⟩ = some (oldC R 3 W) ∧ W.frozen? ⟨R, 0, none⟩ = false ∧ W.frozen? ⟨R, 1, none⟩ = false ∧ W.frozen? ⟨R, 2, none⟩ = false ∧ W.frozen? ⟨R, 3, none⟩ = false) : FR w B R ((((W.setCell ⟨R, 0, none⟩ a).setCell ⟨R, 1, none⟩ b).setCell ⟨R, 2, none⟩ c).setCell ⟨R, 3, none⟩ d) ∧ ((((W.setCell ⟨R, 0, none⟩ a).setCell ⟨R, 1, none⟩ b).setCell ⟨R, 2, none⟩ c).setCell ⟨R, 3, none⟩ d).cell? ⟨R, 0, none⟩ = some (oldC R 0 ((((W.setCell ⟨R, 0, none⟩ a).setCell ⟨R, 1, none⟩ b).setCell ⟨R, 2, none⟩ c).setCell ⟨R, 3, none⟩ d)) ∧ ((((W.setCell ⟨R, 0, none⟩ a).setCell ⟨R, 1, none⟩ b).setCell ⟨R, 2, none⟩ c).setCell ⟨R, 3, none⟩ d).cell? ⟨R, 1, none⟩ = some (oldC R 1 ((((W.setCell ⟨R, 0, none⟩ a).setCell ⟨R, 1, none⟩ b).setCell ⟨R, 2, none⟩ c).setCell ⟨R, 3, none⟩ d)) ∧ ((((W.setCell ⟨R, 0, none⟩ a).setCell ⟨R, 1, none⟩ b).setCell ⟨R, 2, none⟩ c).setCell ⟨R, 3, none⟩ d).cell? ⟨R, 2, none⟩ = some (oldC R 2 ((((W.setCell ⟨R, 0, none⟩ a).setCell ⟨R, 1, none⟩ b).setCell ⟨R, 2, none⟩ c).setCell ⟨R, 3, none⟩ d)) ∧ ((((W.setCell ⟨R, 0, none⟩ a).setCell ⟨R, 1, none⟩ b).setCell ⟨R, 2, none⟩ c).setCell ⟨R, 3, none⟩ d).cell? ⟨R, 3, none⟩ = some (oldC R 3 ((((W.setCell ⟨R, 0, none⟩ a).setCell ⟨R, 1, none⟩ b).setCell ⟨R, 2, none⟩ c).setCell ⟨R, 3, none⟩ d)) ∧ ((((W.setCell ⟨R, 0, none⟩ a).setCell ⟨R, 1, none⟩ b).setCell ⟨R, 2, none⟩ c).setCell ⟨R, 3, none⟩ d).frozen? ⟨R, 0, none⟩ = false ∧ ((((W.setCell ⟨R, 0, none⟩ a).setCell ⟨R, 1, none⟩ b).setCell ⟨R, 2, none⟩ c).setCell ⟨R, 3, none⟩ d).frozen? ⟨R, 1, none⟩ = false ∧ ((((W.setCell ⟨R, 0, none⟩ a).setCell ⟨R, 1, none⟩ b).setCell ⟨R, 2, none⟩ c).setCell ⟨R, 3, none⟩ d).frozen? ⟨R, 2, none⟩ = false ∧ ((((W.setCell ⟨R, 0, none⟩ a).setCell ⟨R, 1, none⟩ b).setCell ⟨R, 2, none⟩ c).setCell ⟨R, 3, none⟩ d).frozen? ⟨R, 3, none⟩ = false := h.1.set4.all
theorem FR.allSd {w : World} {B R : Nat} {W : World} {a b c d : Value} (h : FR w B R W.drew ∧ W.drew.cell? ⟨R, 0, none⟩ = some (oldC R 0 W.drew) ∧ W.drew.cell? ⟨R, 1, none⟩ = some (oldC R 1 W.drew) ∧ W.drew.cell? ⟨R, 2, none⟩ = some (oldC R 2 W.drew) ∧ W.drew.cell? ⟨R, 3, none⟩ = some (oldC R 3 W.drew) ∧ W.drew.frozen? ⟨R, 0, none⟩ = false ∧ W.drew.frozen? ⟨R, 1, none⟩ = false ∧ W.drew.frozen? ⟨R, 2, none⟩ = false ∧ W.drew.frozen? ⟨R, 3, none⟩ = false) : FR w B R ((((W.setCell ⟨R, 0, none⟩ a).setCell ⟨R, 1, none⟩ b).setCell ⟨R, 2, none⟩ c).setCell ⟨R, 3, none⟩ d).drew ∧ ((((W.setCell ⟨R, 0, none⟩ a).setCell ⟨R, 1, none⟩ b).setCell ⟨R, 2, none⟩ c).setCell ⟨R, 3, none⟩ d).drew.cell? ⟨R, 0, none⟩ = some (oldC R 0 ((((W.setCell ⟨R, 0, none⟩ a).setCell ⟨R, 1, none⟩ b).setCell ⟨R, 2, none⟩ c).setCell ⟨R, 3, none⟩ d).drew) ∧ ((((W.setCell ⟨R, 0, none⟩ a).setCell ⟨R, 1, none⟩ b).setCell ⟨R, 2, none⟩ c).setCell ⟨R, 3, none⟩ d).drew.cell? ⟨R, 1, none⟩ = some (oldC R 1 ((((W.setCell ⟨R, 0, none⟩ a).setCell ⟨R, 1, none⟩ b).setCell ⟨R, 2, none⟩ c).setCell ⟨R, 3, none⟩ d).drew) ∧ ((((W.setCell ⟨R, 0, none⟩ a).setCell ⟨R, 1, none⟩ b).setCell ⟨R, 2, none⟩ c).setCell ⟨R, 3, none⟩ d).drew.cell? ⟨R, 2, none⟩ = some (oldC R 2 ((((W.setCell ⟨R, 0, none⟩ a).setCell ⟨R, 1, none⟩ b).setCell ⟨R, 2, none⟩ c).setCell ⟨R, 3, none⟩ d).drew) ∧ ((((W.setCell ⟨R, 0, none⟩ a).setCell ⟨R, 1, none⟩ b).setCell ⟨R, 2, none⟩ c).setCell ⟨R, 3, none⟩ d).drew.cell? ⟨R, 3, none⟩ = some (oldC R 3 ((((W.setCell ⟨R, 0, none⟩ a).setCell ⟨R, 1, none⟩ b).setCell ⟨R, 2, none⟩ c).setCell ⟨R, 3, none⟩ d).drew) ∧ ((((W.setCell ⟨R, 0, none⟩ a).setCell ⟨R, 1, none⟩ b).setCell ⟨R, 2, none⟩ c).setCell ⟨R, 3, none⟩ d).drew.frozen? ⟨R, 0, none⟩ = false ∧ ((((W.setCell ⟨R, 0, none⟩ a).setCell ⟨R, 1, none⟩ b).setCell ⟨R, 2, none⟩ c).setCell ⟨R, 3, none⟩ d).drew.frozen? ⟨R, 1, none⟩ = false ∧ ((((W.setCell ⟨R, 0, none⟩ a).setCell ⟨R, 1, none⟩ b).setCell ⟨R, 2, none⟩ c).setCell ⟨R, 3, none⟩ d).drew.frozen? ⟨R, 2, none⟩ = false ∧ ((((W.setCell ⟨R, 0, none⟩ a).setCell ⟨R, 1, none⟩ b).setCell ⟨R, 2, none⟩ c).setCell ⟨R, 3, none⟩ d).drew.frozen? ⟨R, 3, none⟩ = false :=
  FR.all (show FR w B R ((((W.drew.setCell ⟨R, 0, none⟩ a).setCell ⟨R, 1, none⟩ b).setCell ⟨R, 2, none⟩ c).setCell ⟨R, 3, none⟩ d) from h.1.set4)
theorem q_facts {a N d r : Nat} (ha : a < 1000000) (hd : d = a / N) (hr : r = a % N) : (a : Int).tdiv (N : Int) = (d : Int) ∧ (a : Int) / (N : Int) = (d : Int) ∧ (a : Int).tmod (N : Int) = (r : Int) ∧ (a : Int) % (N : Int) = (r : Int) ∧ IntKind.i64.wrap (d : Int) = (d : Int) ∧ IntKind.i64.wrap (r : Int) = (r : Int) := by
  have h1 : d ≤ a := by rw [hd]; exact Nat.div_le_self a N
  have h2 : r ≤ a := by rw [hr]; exact Nat.mod_le a N
  exact ⟨by rw [hd]; rfl, by rw [hd]; rfl, by rw [hr]; rfl, by rw [hr]; rfl, IntWalk.i64_in _ (by omega), IntWalk.i64_in _ (by omega)⟩
set_option maxRecDepth 100000 in
set_option maxHeartbeats 4000000 in
theorem implMakeFault_any (m : Mt) (v : Value) (k : Cl) (t : ByteArray) (w : World) (h : MethAt w m v) (hs : MtSmall m) (hk : ClSmall k) (ht : t.size ≤ maxLen) : Calls Tryz.prog 24 #[m.v v, k.v, .string t] w fun e w' =>
    e = .returned (.tuple #[fltV m.l.length (fltO m k t), .bool (fltO m k t).isSome]) ∧ Below w.heap.size w w' := by
  have Htr := Lib.hid (fun W (hW : Below w.heap.size w W) => implTouchRows_any m v k t W (h.to hW) hs hk ht)
  have Hno := Lib.hid (fun (ho : okT m k t = false) => fltO_no ho)
  have Hb : Hid (okT m k t = true → ∃ n, n ≤ 8 ∧ 3 ≤ n ∧ (rowsO m k t).length ≤ 800 ∧ (∀ x ∈ rowsO m k t, PermR n x) ∧ 0 < m.l.length ∧ m.l.length ≤ 1048576) := Lib.hid (fun hok => by
    have hro : rowsO m k t = rowsT m k t := by unfold rowsO; rw [if_pos hok]
    have hask : askT m k t = true := by unfold okT at hok; rw [Bool.and_eq_true] at hok; exact hok.1
    unfold askT at hask
    rw [Bool.and_eq_true] at hask
    obtain ⟨n, hg⟩ := cgood_of hask.1
    rw [hro]
    exact ⟨n, hg.m.hi, hg.m.lo, rows_size hok, rowsT_perm hg.m t, by have := hg.m.len; omega, hs.2.1⟩)
  obtain ⟨A, c, hv⟩ := h.form
  subst hv
  obtain ⟨L, hL⟩ : ∃ L, L = rowsO m k t := ⟨_, rfl⟩
  obtain ⟨ok, hok⟩ : ∃ ok, ok = okT m k t := ⟨_, rfl⟩
  have hfl : fltO m k t = repO L := by unfold fltO; rw [hL]
  rw [← hok] at Hno Hb
  rw [← hL] at Hb
  simp only [← hL, ← hok] at Htr
  rw [hfl] at Hno ⊢
  obtain ⟨o, ho⟩ : ∃ o, o = repO L := ⟨_, rfl⟩
  rw [← ho] at Hno ⊢
  have Ho := Lib.hid ho
  clear ho
  have hLe : Hid (ok = false → L = []) := Lib.hid (fun e => by rw [hL]; unfold rowsO; rw [← hok, e]; rfl)
  unfold Mt.v Cl.v at *
  clear h hs hk ht hfl hL hok
  go_enter Tryz.func24, Tryz.ntmps24
  go_wp2_with fail
  refine box3 (C := fun W => Calls _ _ _ W _) ?_
  intro wb hw k1 k2 k3 hB0
  have R1 := boxRule k1
  have R2 := boxRule k2
  have F0 : FR w w.heap.size (w.heap.size + 2) wb := ⟨hw, ⟨_, own_of_heap (n := 1) (size := 4) k3 (by omega) (by unfold maxLen; omega) rfl⟩⟩
  have hz := hw.size
  clear k1 k2 k3
  refine (Htr.out _ hw).mono ?_; rintro e w1 ⟨A1, q1, rfl, hown, hb1⟩
  have F1 := F0.to hz hb1
  have hz1 := hb1.size
  have HS1 := Lib.hid (fun W (hW : Below w1.heap.size w1 W) => (strs_of_own hown).to hW)
  clear hown F0
  cases ok
  · obtain rfl := hLe.out rfl
    go_wp2_with fail
    refine (repeats_any _ [] w1 (HS1.out _ (Below.refl _ _)) (by simp) (by simp)).mono ?_; rintro e w2 ⟨A2, N2, q2, rfl, _, hb2⟩
    have F2 := F1.to (by omega) hb2
    obtain ⟨_, r0, r1, r2, r3, f0, f1, f2, f3⟩ := F2.all
    clear F1 hLe Hb
    go_wp2_with fail
    obtain ⟨W', eW, hb', e0, e1, e2, e3⟩ := F2.fin (.int .i64 0) (.int .i64 0) (.int .i64 0) (.int .i64 0)
    rw [← eW]
    exact bodyPost_ret (v := .tuple #[.agg #[.int .i64 0, .int .i64 0, .int .i64 0, .int .i64 0], .bool false]) (by simp [results, go_sem, e0, e1, e2, e3]) rfl ⟨by rw [Ho.out, repO_nil]; rfl, hb'⟩
  · obtain ⟨n, hn, h3, hl8, hpr, hN0, hNb⟩ := Hb.out rfl
    have hre := repeats_any _ L w1 (HS1.out _ (Below.refl _ _)) hl8 (fun s hs => by have := (perm_in hn (hpr _ hs)).1; omega)
    clear Hb hLe Hno hpr
    go_wp2_with fail
    refine hre.mono ?_; rintro e w2 ⟨A2, N2, q2, rfl, hP, hb2⟩
    have F2 := F1.to (by omega) hb2
    obtain ⟨_, r0, r1, r2, r3, f0, f1, f2, f3⟩ := F2.all
    have hB2 := bw_to hb1 hb2
    clear F1
    rcases hP with ⟨hnone, rfl⟩ | ⟨a, b, g, g2, qq, hsome, hNp, rfl, hgl, hg2l, hC⟩
    · go_wp2_with fail
      obtain ⟨W', eW, hb', e0, e1, e2, e3⟩ := F2.fin (.int .i64 0) (.int .i64 0) (.int .i64 0) (.int .i64 0)
      rw [← eW]
      exact bodyPost_ret (v := .tuple #[.agg #[.int .i64 0, .int .i64 0, .int .i64 0, .int .i64 0], .bool false]) (by simp [results, go_sem, e0, e1, e2, e3]) rfl ⟨by rw [Ho.out, hnone]; rfl, hb'⟩
    · have hf := repO_fst hsome
      have hab : a < b := hf.rep.1
      have hbl : b < L.length := hf.rep.2.1
      have hNe : ((N2 : Int) == 0) = false := beq_eq_false_iff_ne.2 (by omega)
      have hNz : (0 : Int) < (N2 : Int) := by omega
      have HC := Lib.hid hC
      have Hsome := Lib.hid hsome
      have c2 : w2.cell? ⟨w.heap.size, 2, none⟩ = some (.slice A m.l.length c) := R1 w2 2 hB2
      obtain ⟨h1, h2, h4⟩ := HC.out w2 (Below.refl _ _)
      clear hC hsome hf
      go_upto_region 5 with fail
      go_big_quiet (fail)
      have F3 := F2.to (by have := hw.size; have := hb1.size; have := hb2.size; omega) (bw_dr (Below.refl w2.heap.size w2) nq)
      have hz3 : w.heap.size ≤ (w2.drewN nq).heap.size := by show w.heap.size ≤ w2.heap.size; have := hw.size; have := hb1.size; have := hb2.size; omega
      generalize w2.drewN nq = w3 at F3 hz3 ⊢
      obtain ⟨N, hN⟩ : ∃ N, N = m.l.length := ⟨_, rfl⟩
      rw [← hN] at hN0 hNb ⊢
      obtain ⟨R, hR⟩ : ∃ R, R = w.heap.size + 2 := ⟨_, rfl⟩
      rw [← hR] at F3 ⊢
      obtain ⟨d1, hd1⟩ : ∃ d, d = a / N := ⟨_, rfl⟩
      obtain ⟨e1, he1⟩ : ∃ d, d = a % N := ⟨_, rfl⟩
      obtain ⟨d2, hd2⟩ : ∃ d, d = b / N := ⟨_, rfl⟩
      obtain ⟨e2, he2⟩ : ∃ d, d = b % N := ⟨_, rfl⟩
      obtain ⟨qa1, qa2, qa3, qa4, qa5, qa6⟩ := q_facts (a := a) (by omega) hd1 he1
      obtain ⟨qb1, qb2, qb3, qb4, qb5, qb6⟩ := q_facts (a := b) (by omega) hd2 he2
      have HV : Hid (Ending.returned (.tuple #[.agg #[.int .i64 (d1 : Int), .int .i64 (e1 : Int), .int .i64 (d2 : Int), .int .i64 (e2 : Int)], .bool true]) = Ending.returned (.tuple #[fltV m.l.length o, .bool o.isSome])) := Lib.hid (by rw [Ho.out, Hsome.out, ← hN, hd1, he1, hd2, he2]; rfl)
      have hN1 : (N = 0) = False := eq_false (by omega)
      have hN2 : ((N : Int) == 0) = false := beq_eq_false_iff_ne.2 (by omega)
      have hN3 : ((N : Int) = 0) = False := eq_false (by omega)
      clear hd1 he1 hd2 he2
      clear c2 h1 h2 h4 F2 r0 r1 r2 r3 f0 f1 f2 f3 hN hR
      have y3 : FR w w.heap.size R w3.drew := F3.to hz3 (Below.drew (Below.refl _ _))
      obtain ⟨_, r0, r1, r2, r3, f0, f1, f2, f3⟩ := F3.all
      go_upto_region 6 with fail
      go_region_held3 (fun W => FR w w.heap.size R W ∧ W.cell? ⟨R, 0, none⟩ = some (oldC R 0 W) ∧ W.cell? ⟨R, 1, none⟩ = some (oldC R 1 W) ∧ W.cell? ⟨R, 2, none⟩ = some (oldC R 2 W) ∧ W.cell? ⟨R, 3, none⟩ = some (oldC R 3 W) ∧ W.frozen? ⟨R, 0, none⟩ = false ∧ W.frozen? ⟨R, 1, none⟩ = false ∧ W.frozen? ⟨R, 2, none⟩ = false ∧ W.frozen? ⟨R, 3, none⟩ = false) (first | with_reducible assumption | with_reducible exact FR.all (by assumption) | with_reducible exact FR.allS (by assumption) | with_reducible exact FR.allSd (by assumption)) (fail)
      go_wp2_with fail
      obtain ⟨W', eW, hb', x0, x1, x2, x3⟩ := F3.fin (.int .i64 (d1 : Int)) (.int .i64 (e1 : Int)) (.int .i64 (d2 : Int)) (.int .i64 (e2 : Int))
      rw [← eW]
      exact bodyPost_ret (v := .tuple #[.agg #[.int .i64 (d1 : Int), .int .i64 (e1 : Int), .int .i64 (d2 : Int), .int .i64 (e2 : Int)], .bool true]) (by simp [results, go_sem, x0, x1, x2, x3]) rfl ⟨HV.out, Below.drew hb'⟩
/-- With the first pair's cells. -/
structure FG (w : World) (B R g g2 qq a b : Nat) (W : World) : Prop where
  fr : FR w B R W
  c0 : W.cell? ⟨g, 0, none⟩ = some (.slice (some ⟨g2, 0, none⟩) 2 qq)
  c1 : W.cell? ⟨g2, 0, none⟩ = some (.int .i64 (a : Int))
  c2 : W.cell? ⟨g2, 1, none⟩ = some (.int .i64 (b : Int))
  n1 : g ≠ R
  n2 : g2 ≠ R
theorem blkLt {w : World} {p : Addr} {v : Value} (h : w.cell? p = some v) : p.block < w.heap.size := by
  rcases Nat.lt_or_ge p.block w.heap.size with h1 | h1
  · exact h1
  · unfold World.cell? at h
    rw [Array.getElem?_eq_none h1] at h
    simp at h
theorem set4_other {W : World} {R : Nat} {x0 x1 x2 x3 x : Value} {p : Addr} (hp : p.block ≠ R) (h : W.cell? p = some x) : ((((W.setCell ⟨R, 0, none⟩ x0).setCell ⟨R, 1, none⟩ x1).setCell ⟨R, 2, none⟩ x2).setCell ⟨R, 3, none⟩ x3).cell? p = some x := by
  rw [gb_cellG (gb_set (gb_set (gb_set (gb_set (gb_refl W R) 0 x0) 1 x1) 2 x2) 3 x3) (blkLt h) hp]; exact h
theorem FG.all {w : World} {B R g g2 qq a b : Nat} {W : World} (h : FG w B R g g2 qq a b W) : FG w B R g g2 qq a b W ∧ W.cell? ⟨R, 0, none⟩ = some (oldC R 0 W) ∧ W.cell? ⟨R, 1, none⟩ = some (oldC R 1 W) ∧ W.cell? ⟨R, 2, none⟩ = some (oldC R 2 W) ∧ W.cell? ⟨R, 3, none⟩ = some (oldC R 3 W) ∧ W.frozen? ⟨R, 0, none⟩ = false ∧ W.frozen? ⟨R, 1, none⟩ = false ∧ W.frozen? ⟨R, 2, none⟩ = false ∧ W.frozen? ⟨R, 3, none⟩ = false ∧ W.cell? ⟨g, 0, none⟩ = some (.slice (some ⟨g2, 0, none⟩) 2 qq) ∧ W.cell? ⟨g2, 0, none⟩ = some (.int .i64 (a : Int)) ∧ W.cell? ⟨g2, 1, none⟩ = some (.int .i64 (b : Int)) :=
  ⟨h, h.fr.all.2.1, h.fr.all.2.2.1, h.fr.all.2.2.2.1, h.fr.all.2.2.2.2.1, h.fr.all.2.2.2.2.2.1, h.fr.all.2.2.2.2.2.2.1, h.fr.all.2.2.2.2.2.2.2.1, h.fr.all.2.2.2.2.2.2.2.2, h.c0, h.c1, h.c2⟩
theorem FG.set4 {w : World} {B R g g2 qq a b : Nat} {W : World} (h : FG w B R g g2 qq a b W) {x0 x1 x2 x3 : Value} : FG w B R g g2 qq a b ((((W.setCell ⟨R, 0, none⟩ x0).setCell ⟨R, 1, none⟩ x1).setCell ⟨R, 2, none⟩ x2).setCell ⟨R, 3, none⟩ x3) :=
  ⟨h.fr.set4, set4_other h.n1 h.c0, set4_other h.n2 h.c1, set4_other h.n2 h.c2, h.n1, h.n2⟩
theorem FG.drew {w : World} {B R g g2 qq a b : Nat} {W : World} (h : FG w B R g g2 qq a b W) (hB : B ≤ W.heap.size) : FG w B R g g2 qq a b W.drew := ⟨h.fr.to hB (Below.drew (Below.refl _ _)), h.c0, h.c1, h.c2, h.n1, h.n2⟩
theorem FG.allS {w : World} {B R g g2 qq a b : Nat} {W : World} {x0 x1 x2 x3 : Value} (h : FG w B R g g2 qq a b W ∧ W.cell? ⟨R, 0, none⟩ = some (oldC R 0 W) ∧ W.cell? ⟨R, 1, none⟩ = some (oldC R 1 W) ∧ W.cell? ⟨R, 2, none⟩ = some (oldC R 2 W) ∧ W.cell? ⟨R, 3, none⟩ = some (oldC R 3 W) ∧ W.frozen? ⟨R, 0, none⟩ = false ∧ W.frozen? ⟨R, 1, none⟩ = false ∧ W.frozen? ⟨R, 2, none⟩ = false ∧ W.frozen? ⟨R, 3, none⟩ = false ∧ W.cell? ⟨g, 0, none⟩ = some (.slice (some ⟨g2, 0, none⟩) 2 qq) ∧ W.cell? ⟨g2, 0, none⟩ = some (.int .i64 (a : Int)) ∧ W.cell? ⟨g2, 1, none⟩ = some (.int .i64 (b : Int))) : FG w B R g g2 qq a b ((((W.setCell ⟨R, 0, none⟩ x0).setCell ⟨R, 1, none⟩ x1).setCell ⟨R, 2, none⟩ x2).setCell ⟨R, 3, none⟩ x3) ∧ ((((W.setCell ⟨R, 0, none⟩ x0).setCell ⟨R, 1, none⟩ x1).setCell ⟨R, 2, none⟩ x2).setCell ⟨R, 3, none⟩ x3).cell? ⟨R, 0, none⟩ = some (oldC R 0 ((((W.setCell ⟨R, 0, none⟩ x0).setCell ⟨R, 1, none⟩ x1).setCell ⟨R, 2, none⟩ x2).setCell ⟨R, 3, none⟩ x3)) ∧ ((((W.setCell ⟨R, 0, none⟩ x0).setCell ⟨R, 1, none⟩ x1).setCell ⟨R, 2, none⟩ x2).setCell ⟨R, 3, none⟩ x3).cell? ⟨R, 1, none⟩ = some (oldC R 1 ((((W.setCell ⟨R, 0, none⟩ x0).setCell ⟨R, 1, none⟩ x1).setCell ⟨R, 2, none⟩ x2).setCell ⟨R, 3, none⟩ x3)) ∧ ((((W.setCell ⟨R, 0, none⟩ x0).setCell ⟨R, 1, none⟩ x1).setCell ⟨R, 2, none⟩ x2).setCell ⟨R, 3, none⟩ x3).cell? ⟨R, 2, none⟩ = some (oldC R 2 ((((W.setCell ⟨R, 0, none⟩ x0).setCell ⟨R, 1, none⟩ x1).setCell ⟨R, 2, none⟩ x2).setCell ⟨R, 3, none⟩ x3)) ∧ ((((W.setCell ⟨R, 0, none⟩ x0).setCell ⟨R, 1, none⟩ x1).setCell ⟨R, 2, none⟩ x2).setCell ⟨R, 3, none⟩ x3).cell? ⟨R, 3, none⟩ = some (oldC R 3 ((((W.setCell ⟨R, 0, none⟩ x0).setCell ⟨R, 1, none⟩ x1).setCell ⟨R, 2, none⟩ x2).setCell ⟨R, 3, none⟩ x3)) ∧ ((((W.setCell ⟨R, 0, none⟩ x0).setCell ⟨R, 1, none⟩ x1).setCell ⟨R, 2, none⟩ x2).setCell ⟨R, 3, none⟩ x3).frozen? ⟨R, 0, none⟩ = false ∧ ((((W.setCell ⟨R, 0, none⟩ x0).setCell ⟨R, 1, none⟩ x1).setCell ⟨R, 2, none⟩ x2).setCell ⟨R, 3, none⟩ x3).frozen? ⟨R, 1, none⟩ = false ∧ ((((W.setCell ⟨R, 0, none⟩ x0).setCell ⟨R, 1, none⟩ x1).setCell ⟨R, 2, none⟩ x2).setCell ⟨R, 3, none⟩ x3).frozen? ⟨R, 2, none⟩ = false ∧ ((((W.setCell ⟨R, 0, none⟩ x0).setCell ⟨R, 1, none⟩ x1).setCell ⟨R, 2, none⟩ x2).setCell ⟨R, 3, none⟩ x3).frozen? ⟨R, 3, none⟩ = false ∧ ((((W.setCell ⟨R, 0, none⟩ x0).setCell ⟨R, 1, none⟩ x1).setCell ⟨R, 2, none⟩ x2).setCell ⟨R, 3, none⟩ x3).cell? ⟨g, 0, none⟩ = some (.slice (some ⟨g2, 0, none⟩) 2 qq) ∧ ((((W.setCell ⟨R, 0, none⟩ x0).setCell ⟨R, 1, none⟩ x1).setCell ⟨R, 2, none⟩ x2).setCell ⟨R, 3, none⟩ x3).cell? ⟨g2, 0, none⟩ = some (.int .i64 (a : Int)) ∧ ((((W.setCell ⟨R, 0, none⟩ x0).setCell ⟨R, 1, none⟩ x1).setCell ⟨R, 2, none⟩ x2).setCell ⟨R, 3, none⟩ x3).cell? ⟨g2, 1, none⟩ = some (.int .i64 (b : Int)) := h.1.set4.all
theorem FG.allSd {w : World} {B R g g2 qq a b : Nat} {W : World} {x0 x1 x2 x3 : Value} (h : FG w B R g g2 qq a b W.drew ∧ W.drew.cell? ⟨R, 0, none⟩ = some (oldC R 0 W.drew) ∧ W.drew.cell? ⟨R, 1, none⟩ = some (oldC R 1 W.drew) ∧ W.drew.cell? ⟨R, 2, none⟩ = some (oldC R 2 W.drew) ∧ W.drew.cell? ⟨R, 3, none⟩ = some (oldC R 3 W.drew) ∧ W.drew.frozen? ⟨R, 0, none⟩ = false ∧ W.drew.frozen? ⟨R, 1, none⟩ = false ∧ W.drew.frozen? ⟨R, 2, none⟩ = false ∧ W.drew.frozen? ⟨R, 3, none⟩ = false ∧ W.drew.cell? ⟨g, 0, none⟩ = some (.slice (some ⟨g2, 0, none⟩) 2 qq) ∧ W.drew.cell? ⟨g2, 0, none⟩ = some (.int .i64 (a : Int)) ∧ W.drew.cell? ⟨g2, 1, none⟩ = some (.int .i64 (b : Int))) : FG w B R g g2 qq a b ((((W.setCell ⟨R, 0, none⟩ x0).setCell ⟨R, 1, none⟩ x1).setCell ⟨R, 2, none⟩ x2).setCell ⟨R, 3, none⟩ x3).drew ∧ ((((W.setCell ⟨R, 0, none⟩ x0).setCell ⟨R, 1, none⟩ x1).setCell ⟨R, 2, none⟩ x2).setCell ⟨R, 3, none⟩ x3).drew.cell? ⟨R, 0, none⟩ = some (oldC R 0 ((((W.setCell ⟨R, 0, none⟩ x0).setCell ⟨R, 1, none⟩ x1).setCell ⟨R, 2, none⟩ x2).setCell ⟨R, 3, none⟩ x3).drew) ∧ ((((W.setCell ⟨R, 0, none⟩ x0).setCell ⟨R, 1, none⟩ x1).setCell ⟨R, 2, none⟩ x2).setCell ⟨R, 3, none⟩ x3).drew.cell? ⟨R, 1, none⟩ = some (oldC R 1 ((((W.setCell ⟨R, 0, none⟩ x0).setCell ⟨R, 1, none⟩ x1).setCell ⟨R, 2, none⟩ x2).setCell ⟨R, 3, none⟩ x3).drew) ∧ ((((W.setCell ⟨R, 0, none⟩ x0).setCell ⟨R, 1, none⟩ x1).setCell ⟨R, 2, none⟩ x2).setCell ⟨R, 3, none⟩ x3).drew.cell? ⟨R, 2, none⟩ = some (oldC R 2 ((((W.setCell ⟨R, 0, none⟩ x0).setCell ⟨R, 1, none⟩ x1).setCell ⟨R, 2, none⟩ x2).setCell ⟨R, 3, none⟩ x3).drew) ∧ ((((W.setCell ⟨R, 0, none⟩ x0).setCell ⟨R, 1, none⟩ x1).setCell ⟨R, 2, none⟩ x2).setCell ⟨R, 3, none⟩ x3).drew.cell? ⟨R, 3, none⟩ = some (oldC R 3 ((((W.setCell ⟨R, 0, none⟩ x0).setCell ⟨R, 1, none⟩ x1).setCell ⟨R, 2, none⟩ x2).setCell ⟨R, 3, none⟩ x3).drew) ∧ ((((W.setCell ⟨R, 0, none⟩ x0).setCell ⟨R, 1, none⟩ x1).setCell ⟨R, 2, none⟩ x2).setCell ⟨R, 3, none⟩ x3).drew.frozen? ⟨R, 0, none⟩ = false ∧ ((((W.setCell ⟨R, 0, none⟩ x0).setCell ⟨R, 1, none⟩ x1).setCell ⟨R, 2, none⟩ x2).setCell ⟨R, 3, none⟩ x3).drew.frozen? ⟨R, 1, none⟩ = false ∧ ((((W.setCell ⟨R, 0, none⟩ x0).setCell ⟨R, 1, none⟩ x1).setCell ⟨R, 2, none⟩ x2).setCell ⟨R, 3, none⟩ x3).drew.frozen? ⟨R, 2, none⟩ = false ∧ ((((W.setCell ⟨R, 0, none⟩ x0).setCell ⟨R, 1, none⟩ x1).setCell ⟨R, 2, none⟩ x2).setCell ⟨R, 3, none⟩ x3).drew.frozen? ⟨R, 3, none⟩ = false ∧ ((((W.setCell ⟨R, 0, none⟩ x0).setCell ⟨R, 1, none⟩ x1).setCell ⟨R, 2, none⟩ x2).setCell ⟨R, 3, none⟩ x3).drew.cell? ⟨g, 0, none⟩ = some (.slice (some ⟨g2, 0, none⟩) 2 qq) ∧ ((((W.setCell ⟨R, 0, none⟩ x0).setCell ⟨R, 1, none⟩ x1).setCell ⟨R, 2, none⟩ x2).setCell ⟨R, 3, none⟩ x3).drew.cell? ⟨g2, 0, none⟩ = some (.int .i64 (a : Int)) ∧ ((((W.setCell ⟨R, 0, none⟩ x0).setCell ⟨R, 1, none⟩ x1).setCell ⟨R, 2, none⟩ x2).setCell ⟨R, 3, none⟩ x3).drew.cell? ⟨g2, 1, none⟩ = some (.int .i64 (b : Int)) :=
  FG.all (show FG w B R g g2 qq a b ((((W.drew.setCell ⟨R, 0, none⟩ x0).setCell ⟨R, 1, none⟩ x1).setCell ⟨R, 2, none⟩ x2).setCell ⟨R, 3, none⟩ x3) from h.1.set4)
set_option maxRecDepth 100000 in
set_option maxHeartbeats 8000000 in
theorem specMakeFault_any (m : Mt) (v : Value) (k : Cl) (t : ByteArray) (w : World) (h : MethAt w m v) (hs : MtSmall m) (hk : ClSmall k) (ht : t.size ≤ 1048576) : Calls Tryz.prog 25 #[m.v v, k.v, .string t] w fun e w' =>
    e = .returned (.tuple #[fltV m.l.length (fltO m k t), .bool (fltO m k t).isSome]) ∧ Below w.heap.size w w' := by
  have Htr := Lib.hid (fun W (hW : Below w.heap.size w W) => specTouchRows_any m v k t W (h.to hW) hs hk ht)
  have Hb : Hid (okT m k t = true → ∃ n, n ≤ 8 ∧ 3 ≤ n ∧ (rowsO m k t).length ≤ 800 ∧ (∀ x ∈ rowsO m k t, PermR n x) ∧ 0 < m.l.length ∧ m.l.length ≤ 1048576) := Lib.hid (fun hok => by
    have hro : rowsO m k t = rowsT m k t := by unfold rowsO; rw [if_pos hok]
    have hask : askT m k t = true := by unfold okT at hok; rw [Bool.and_eq_true] at hok; exact hok.1
    unfold askT at hask
    rw [Bool.and_eq_true] at hask
    obtain ⟨n, hg⟩ := cgood_of hask.1
    rw [hro]
    exact ⟨n, hg.m.hi, hg.m.lo, rows_size hok, rowsT_perm hg.m t, by have := hg.m.len; omega, hs.2.1⟩)
  obtain ⟨A, c, hv⟩ := h.form
  subst hv
  obtain ⟨L, hL⟩ : ∃ L, L = rowsO m k t := ⟨_, rfl⟩
  obtain ⟨ok, hok⟩ : ∃ ok, ok = okT m k t := ⟨_, rfl⟩
  have hfl : fltO m k t = repO L := by unfold fltO; rw [hL]
  rw [← hok] at Hb
  rw [← hL] at Hb
  simp only [← hL, ← hok] at Htr
  rw [hfl]
  obtain ⟨o, ho⟩ : ∃ o, o = repO L := ⟨_, rfl⟩
  rw [← ho]
  have Ho := Lib.hid ho
  clear ho
  have hLe : Hid (ok = false → L = []) := Lib.hid (fun e => by rw [hL]; unfold rowsO; rw [← hok, e]; rfl)
  unfold Mt.v Cl.v at *
  clear h hs hk ht hfl hL hok
  go_enter Tryz.func25, Tryz.ntmps25
  go_wp2_with fail
  refine box3 (C := fun W => Calls _ _ _ W _) ?_
  intro wb hw k1 k2 k3 hB0
  have R1 := boxRule k1
  have R2 := boxRule k2
  have F0 : FR w w.heap.size (w.heap.size + 2) wb := ⟨hw, ⟨_, own_of_heap (n := 1) (size := 4) k3 (by omega) (by unfold maxLen; omega) rfl⟩⟩
  have hz := hw.size
  have hz0 : w.heap.size + 2 < wb.heap.size := (Array.getElem?_eq_some_iff.1 k3).1
  clear k1 k2 k3
  refine (Htr.out _ hw).mono ?_; rintro e w1 ⟨A1, q1, rfl, hown, hb1⟩
  have F1 := F0.to hz hb1
  have hz1 := hb1.size
  have HS1 := Lib.hid (fun W (hW : Below w1.heap.size w1 W) => (strs_of_own hown).to hW)
  clear hown F0
  cases ok
  · obtain rfl := hLe.out rfl
    obtain ⟨_, r0, r1, r2, r3, f0, f1, f2, f3⟩ := F1.all
    clear hLe Hb
    go_wp2_with fail
    obtain ⟨W', eW, hb', e0, e1, e2, e3⟩ := F1.fin (.int .i64 0) (.int .i64 0) (.int .i64 0) (.int .i64 0)
    rw [← eW]
    exact bodyPost_ret (v := .tuple #[.agg #[.int .i64 0, .int .i64 0, .int .i64 0, .int .i64 0], .bool false]) (by simp [results, go_sem, e0, e1, e2, e3]) rfl ⟨by rw [Ho.out, repO_nil]; rfl, hb'⟩
  · obtain ⟨n, hn, h3, hl8, hpr, hN0, hNb⟩ := Hb.out rfl
    have hre := specRepeatsIn_yes _ L n w1 (HS1.out _ (Below.refl _ _)) hn h3 hpr hl8
    clear Hb hLe hpr
    go_wp2_with fail
    refine hre.mono ?_; rintro e w2 ⟨A2, N2, q2, rfl, hP, hb2⟩
    have F2 := F1.to (by omega) hb2
    have hB2 := bw_to hb1 hb2
    clear F1
    rcases hP with ⟨hnone, rfl⟩ | ⟨a, b, g, g2, qq, hsome, hNp, rfl, hgl, hg2l, hC⟩
    · obtain ⟨_, r0, r1, r2, r3, f0, f1, f2, f3⟩ := F2.all
      go_wp2_with fail
      obtain ⟨W', eW, hb', e0, e1, e2, e3⟩ := F2.fin (.int .i64 0) (.int .i64 0) (.int .i64 0) (.int .i64 0)
      rw [← eW]
      exact bodyPost_ret (v := .tuple #[.agg #[.int .i64 0, .int .i64 0, .int .i64 0, .int .i64 0], .bool false]) (by simp [results, go_sem, e0, e1, e2, e3]) rfl ⟨by rw [Ho.out, hnone]; rfl, hb'⟩
    · have hf := repO_fst hsome
      have hab : a < b := hf.rep.1
      have hbl : b < L.length := hf.rep.2.1
      have hNe : ((N2 : Int) == 0) = false := beq_eq_false_iff_ne.2 (by omega)
      have hNn : (N2 = 0) = False := eq_false (by omega)
      have hNz : (0 : Int) < (N2 : Int) := by omega
      have Hsome := Lib.hid hsome
      have c2 : w2.cell? ⟨w.heap.size, 2, none⟩ = some (.slice A m.l.length c) := R1 w2 2 hB2
      obtain ⟨h1, h2, h4⟩ := hC w2 (Below.refl _ _)
      have hz2 := hb2.size
      have G2 := Lib.hid (show FG w w.heap.size (w.heap.size + 2) g g2 qq a b w2 from ⟨F2, h1, h2, h4, by omega, by omega⟩)
      clear hC hsome hf h1 h2 h4 F2
      go_upto_region 8 with fail
      have hz3 : w.heap.size ≤ w2.heap.size := by omega
      obtain ⟨N, hN⟩ : ∃ N, N = m.l.length := ⟨_, rfl⟩
      rw [← hN] at hN0 hNb ⊢
      obtain ⟨R, hR⟩ : ∃ R, R = w.heap.size + 2 := ⟨_, rfl⟩
      rw [← hR] at G2 ⊢
      obtain ⟨d1, hd1⟩ : ∃ d, d = a / N := ⟨_, rfl⟩
      obtain ⟨e1, he1⟩ : ∃ d, d = a % N := ⟨_, rfl⟩
      obtain ⟨d2, hd2⟩ : ∃ d, d = b / N := ⟨_, rfl⟩
      obtain ⟨e2, he2⟩ : ∃ d, d = b % N := ⟨_, rfl⟩
      obtain ⟨qa1, qa2, qa3, qa4, qa5, qa6⟩ := q_facts (a := a) (by omega) hd1 he1
      obtain ⟨qb1, qb2, qb3, qb4, qb5, qb6⟩ := q_facts (a := b) (by omega) hd2 he2
      have HV : Hid (Ending.returned (.tuple #[.agg #[.int .i64 (d1 : Int), .int .i64 (e1 : Int), .int .i64 (d2 : Int), .int .i64 (e2 : Int)], .bool true]) = Ending.returned (.tuple #[fltV m.l.length o, .bool o.isSome])) := Lib.hid (by rw [Ho.out, Hsome.out, ← hN, hd1, he1, hd2, he2]; rfl)
      have hN1 : (N = 0) = False := eq_false (by omega)
      have hN2 : ((N : Int) == 0) = false := beq_eq_false_iff_ne.2 (by omega)
      have hN3 : ((N : Int) = 0) = False := eq_false (by omega)
      clear hd1 he1 hd2 he2 hN c2 hR hz0 hz1 hz2 hz hgl hg2l
      have y3 : FG w w.heap.size R g g2 qq a b w2.drew := G2.out.drew hz3
      obtain ⟨_, r0, r1, r2, r3, f0, f1, f2, f3, _, _, _⟩ := G2.out.all
      go_region_held3 (fun W => FG w w.heap.size R g g2 qq a b W ∧ W.cell? ⟨R, 0, none⟩ = some (oldC R 0 W) ∧ W.cell? ⟨R, 1, none⟩ = some (oldC R 1 W) ∧ W.cell? ⟨R, 2, none⟩ = some (oldC R 2 W) ∧ W.cell? ⟨R, 3, none⟩ = some (oldC R 3 W) ∧ W.frozen? ⟨R, 0, none⟩ = false ∧ W.frozen? ⟨R, 1, none⟩ = false ∧ W.frozen? ⟨R, 2, none⟩ = false ∧ W.frozen? ⟨R, 3, none⟩ = false ∧ W.cell? ⟨g, 0, none⟩ = some (.slice (some ⟨g2, 0, none⟩) 2 qq) ∧ W.cell? ⟨g2, 0, none⟩ = some (.int .i64 (a : Int)) ∧ W.cell? ⟨g2, 1, none⟩ = some (.int .i64 (b : Int))) (first | with_reducible assumption | with_reducible exact FG.all (by assumption) | with_reducible exact FG.allS (by assumption) | with_reducible exact FG.allSd (by assumption)) (fail)
      go_wp2_with fail
      obtain ⟨W', eW, hb', x0, x1, x2, x3⟩ := G2.out.fr.fin (.int .i64 (d1 : Int)) (.int .i64 (e1 : Int)) (.int .i64 (d2 : Int)) (.int .i64 (e2 : Int))
      rw [← eW]
      exact bodyPost_ret (v := .tuple #[.agg #[.int .i64 (d1 : Int), .int .i64 (e1 : Int), .int .i64 (d2 : Int), .int .i64 (e2 : Int)], .bool true]) (by simp [results, go_sem, x0, x1, x2, x3]) rfl ⟨HV.out, Below.drew hb'⟩
end Go.Proofs.YtbdioapgekaejaaGreat
