/- The drawers of a touch with its proof; the sameness of proofs. -/
import Derived.Test.YtajffjkmmenaoaaGreatPk41
import Derived.Test.YtajffjkmmenaoaaGreatPk43
import Derived.Laws.StructEq
import Derived.Test.YtajffjkmmenaoaaGreatPk28
import Derived.Test.YtajffjkmmenaoaaGreatPk1
import Derived.Test.YtajffjkmmenaoaaGreatPk11
import Derived.Test.YtajffjkmmenaoaaGreatPk23
import Derived.Test.YtajffjkmmenaoaaGreatPk21
namespace Go.Proofs.YtajffjkmmenaoaaGreat
open Go Go.RowKit
set_option linter.unusedVariables false
set_option linter.unusedSimpArgs false

/-- What a drawer of a touch with its proof leaves. -/
def PostP (w : World) (e : Ending) (w' : World) : Prop := ∃ (m : Mt) (v : Value) (k : Cl) (t : ByteArray) (hv lv : Value) (hs : List ByteArray) (ls : List Ln), e = .returned (.tuple #[m.v v, k.v, .string t, .agg #[hv, lv]]) ∧ PMK w w' m v k ∧ t.size ≤ 60 ∧
  w'.ownsRow w.heap.size 9 1 hv hs.length (hs.map Value.string) ∧ LinV w' w.heap.size lv ls ∧ FitS hs ∧ FitL ls
theorem linV_lns {W : World} {base : Nat} {lv : Value} {ls : List Ln} (h : LinV W base lv ls) : Lns W lv ls := by
  rcases h with h | ⟨g, q, x, h, rfl⟩
  · exact lns_of_own h
  · have h1 := lns_fromG (k := 1) (lns_own_v (by rw [List.length_cons]) h) (by rw [List.length_cons]) (by omega)
    simpa [Nat.add_sub_cancel] using h1
theorem blk_ltP {w : World} {p : Addr} {v : Value} (h : w.cell? p = some v) : p.block < w.heap.size := by
  rcases Nat.lt_or_ge p.block w.heap.size with h1 | h1
  · exact h1
  · unfold World.cell? at h
    rw [Array.getElem?_eq_none h1] at h
    simp at h
theorem seven_fin {w wb w1 : World} {R K F : Nat} {xs ys zs : List Value} (hw : Below w.heap.size w wb) (hb : Below wb.heap.size wb w1) (hx : w1.ownsRow w.heap.size 26 3 (.slice (some ⟨R, 0, none⟩) 1 1) 1 xs) (hy : w1.ownsRow w.heap.size 28 2 (.slice (some ⟨K, 0, none⟩) 1 1) 1 ys) (hz : w1.ownsRow w.heap.size 33 2 (.slice (some ⟨F, 0, none⟩) 1 1) 1 zs) (a0 a1 a2 a3 a4 a5 a6 : Value) :
    ∃ W', W' = ((((((w1.setCell ⟨R, 0, none⟩ a0).setCell ⟨R, 1, none⟩ a1).setCell ⟨R, 2, none⟩ a2).setCell ⟨K, 0, none⟩ a3).setCell ⟨K, 1, none⟩ a4).setCell ⟨F, 0, none⟩ a5).setCell ⟨F, 1, none⟩ a6 ∧ Below w.heap.size w W' ∧
      (W'.cell? ⟨R, 0, none⟩ = some a0 ∧ W'.cell? ⟨R, 1, none⟩ = some a1 ∧ W'.cell? ⟨R, 2, none⟩ = some a2) ∧ (W'.cell? ⟨K, 0, none⟩ = some a3 ∧ W'.cell? ⟨K, 1, none⟩ = some a4) ∧ (W'.cell? ⟨F, 0, none⟩ = some a5 ∧ W'.cell? ⟨F, 1, none⟩ = some a6) ∧
      (∀ base (e : TypeId) (s n : Nat) v zs, w1.ownsRow base e s v n zs → e ≠ 26 → e ≠ 28 → e ≠ 33 → W'.ownsRow base e s v n zs) := by
  have nRF := own_blk_ne hx hz (by decide)
  have nKF := own_blk_ne hy hz (by decide)
  have hl : zs.length = 2 := hz.1
  have hF := (hz.lt F rfl).1
  obtain ⟨W5, e5, b5, ⟨c0, c1, c2⟩, ⟨d0, d1⟩, hro, _⟩ := five_fin hw hb hx hy a0 a1 a2 a3 a4
  have z5 := hro _ _ _ _ _ _ hz (by decide) (by decide)
  have z6 := own_set z5 0 a5
  have z7 := own_set z6 1 a6
  have ot : ∀ (p : Addr) (x : Value), p.block ≠ F → W5.cell? p = some x → ((W5.setCell ⟨F, 0, none⟩ a5).setCell ⟨F, 1, none⟩ a6).cell? p = some x := by
    intro p x hp h
    rw [gb_cellG (gb_set (gb_set (gb_refl W5 F) 0 a5) 1 a6) (blk_ltP h) hp]; exact h
  refine ⟨(W5.setCell ⟨F, 0, none⟩ a5).setCell ⟨F, 1, none⟩ a6, by rw [e5], grow_setB9 (grow_setB9 b5 hF a5) hF a6, ⟨ot _ _ nRF c0, ot _ _ nRF c1, ot _ _ nRF c2⟩, ⟨ot _ _ nKF d0, ot _ _ nKF d1⟩, ⟨?_, ?_⟩, ?_⟩
  · rw [z7.cellAt 0 (by omega)]; simp [hl]
  · rw [z7.cellAt 1 (by omega)]; simp [hl]
  · intro base e s n v xs h h1 h2 h3
    have g5 := hro _ _ _ _ _ _ h h1 h2
    exact own_oth (own_oth g5 z5 h3 0 a5) z6 h3 1 a6
set_option maxRecDepth 100000 in
set_option maxHeartbeats 4000000 in
theorem drawCheckProof_any (V : Value) (w : World) (h : BytesAt w w.heap.size V) : Calls Tryz.prog 14 #[V] w (PostP w) := by
  have H := Lib.hid h
  obtain ⟨A0, n0, c0, zs0, rfl, _⟩ := h
  go_enter Tryz.func14, Tryz.ntmps14
  go_wp2_with fail
  refine box4 (C := fun W => Calls _ _ _ W _) ?_
  intro wb hw hsz k0 k1 k2 k3 hB0
  have C0 := Lib.hid (cur_box H.out hw (by omega) k3)
  have hCw : w.heap.size + 3 < wb.heap.size := by omega
  have Hw := Lib.hid hw
  have K0 := Lib.hid (own_of_heap (base := w.heap.size) (n := 1) (size := 3) k0 (Nat.le_refl _) (by unfold maxLen; omega) rfl)
  have K1 := Lib.hid (own_of_heap (base := w.heap.size) (n := 1) (size := 2) k1 (by omega) (by unfold maxLen; omega) rfl)
  have K2 := Lib.hid (own_of_heap (base := w.heap.size) (n := 1) (size := 2) k2 (by omega) (by unfold maxLen; omega) rfl)
  clear k0 k1 k2 k3 hw
  refine (proved_any wb (w.heap.size + 3) 0 C0.out (by omega)).mono ?_; rintro e w1 ⟨m, v, k, t, hv, lv, hs, ls, rfl, hz, hl, hsm, hst, ⟨hkb, hks⟩, ht, ho, hh, hlv, hh8, hl8, hn1, hn2, hc, hg⟩
  have B1 := Lib.hid (gb_below Hw.out hg (by omega))
  have R0 := Lib.hid (own_noC K0.out C0.out (by decide) hg)
  have R1 := Lib.hid (own_noC K1.out C0.out (by decide) hg)
  have R2 := Lib.hid (own_noC K2.out C0.out (by decide) hg)
  have O1 := Lib.hid (own_base (base' := w.heap.size) ho Hw.out.size)
  have Hh := Lib.hid (own_base (base' := w.heap.size) hh Hw.out.size)
  have Hl := Lib.hid (hlv.base Hw.out.size)
  have HP := Lib.hid (show PMK w w1 m v k from ⟨hz, hl, hsm, hst, hkb, hks, O1.out, B1.out⟩)
  have F1 := Lib.hid (show FitS hs from fun s hs' => by have := hh8 s hs'; unfold maxLen; omega)
  have F2 := Lib.hid (show FitL ls from fun s hs' => by have := hl8 s hs'; unfold maxLen; omega)
  obtain ⟨A1, q1, ev, _⟩ := sl_of_own ho
  subst ev
  obtain ⟨A2, q2, ev, _⟩ := sl_of_own hh
  subst ev
  obtain ⟨A3, q3, ev, _⟩ := lns_form (linV_lns hlv)
  subst ev
  obtain ⟨nm, n, ss⟩ := m
  obtain ⟨kb, ks⟩ := k
  unfold Mt.v Cl.v
  simp only
  obtain ⟨R, hR⟩ : ∃ R, R = w.heap.size := ⟨_, rfl⟩
  obtain ⟨K, hK⟩ : ∃ K, K = w.heap.size + 1 := ⟨_, rfl⟩
  obtain ⟨F, hF⟩ : ∃ K, K = w.heap.size + 1 + 1 := ⟨_, rfl⟩
  have hF2 : F = w.heap.size + 2 := hF
  rw [← hF, ← hK, ← hR]
  rw [← hF2] at R2
  rw [← hK] at R1
  rw [← hR] at R0
  have R0 := Lib.hid (own_base (base' := w.heap.size) R0.out (by omega))
  have nRK : R ≠ K := by omega
  have nRF : R ≠ F := by omega
  have nKF : K ≠ F := by omega
  have nKR := nRK.symm
  have nFR := nRF.symm
  have nFK := nKF.symm
  have r0 := (R0.out.cellAt 0 (by omega)).trans rfl
  have r1 := (R0.out.cellAt 1 (by omega)).trans rfl
  have r2 := (R0.out.cellAt 2 (by omega)).trans rfl
  have p0 := (R1.out.cellAt 0 (by omega)).trans rfl
  have p1 := (R1.out.cellAt 1 (by omega)).trans rfl
  have o0 := (R2.out.cellAt 0 (by omega)).trans rfl
  have o1 := (R2.out.cellAt 1 (by omega)).trans rfl
  have f0 := R0.out.frozenAt 0
  have f1 := R0.out.frozenAt 1
  have f2 := R0.out.frozenAt 2
  have g0 := R1.out.frozenAt 0
  have g1 := R1.out.frozenAt 1
  have h0 := R2.out.frozenAt 0
  have h1 := R2.out.frozenAt 1
  clear hz hl hsm hst hkb hks ho hc hg K0 K1 K2 C0 hB0 hh hlv hh8 hl8 hn1 hn2 hsz hR hK hF hF2 hCw
  go_wp2_with fail
  obtain ⟨W', eW, hb', ⟨e0, e1, e2⟩, ⟨d0, d1⟩, ⟨i0, i1⟩, hro⟩ := seven_fin (Below.refl w.heap.size w) B1.out R0.out R1.out R2.out (.string nm) (.int .i64 n) (.slice A1 ss.length q1) (.string kb) (.string ks) (.slice A2 hs.length q2) (.slice A3 ls.length q3)
  rw [← eW]
  refine bodyPost_ret (v := .tuple #[.agg #[.string nm, .int .i64 n, .slice A1 ss.length q1], .agg #[.string kb, .string ks], .string t, .agg #[.slice A2 hs.length q2, .slice A3 ls.length q3]]) (by simp [results, go_sem, e0, e1, e2, d0, d1, i0, i1]) rfl ?_
  refine ⟨⟨nm, n, ss⟩, .slice A1 ss.length q1, ⟨kb, ks⟩, t, .slice A2 hs.length q2, .slice A3 ls.length q3, hs, ls, rfl, { HP.out with row := hro _ _ _ _ _ _ HP.out.row (by decide) (by decide) (by decide), bw := hb' }, ht, hro _ _ _ _ _ _ Hh.out (by decide) (by decide) (by decide), ?_, F1.out, F2.out⟩
  rcases Hl.out with h | ⟨g, q, x, h, e⟩
  · exact .inl (hro _ _ _ _ _ _ h (by decide) (by decide) (by decide))
  · exact .inr ⟨g, q, x, hro _ _ _ _ _ _ h (by decide) (by decide) (by decide), e⟩
set_option maxRecDepth 20000 in
set_option maxHeartbeats 4000000 in
theorem specSameProof_same (hv lv hv' lv' : Value) (hs : List ByteArray) (ls : List Ln) (w : World) (h1 : Strs w hv hs) (h2 : Lns w lv ls) (h1' : Strs w hv' hs) (h2' : Lns w lv' ls) : Calls Tryz.prog 8 #[.agg #[hv, lv], .agg #[hv', lv']] w fun e w' => e = .returned (.bool true) ∧ Below w.heap.size w w' := by
  have HQ := Lib.hid (fun W (hW : Below w.heap.size w W) => l1SameS_any hv hv' hs hs W (h1.to hW) (h1'.to hW))
  simp only [decide_true] at HQ
  obtain ⟨A1, c1, rfl, _⟩ := h1
  obtain ⟨A3, c3, rfl, _⟩ := h1'
  obtain ⟨A2, c2, rfl, g1, g2, hr⟩ := h2
  obtain ⟨A4, c4, rfl, g1', g2', hr'⟩ := h2'
  unfold maxLen at g2 g2'
  go_enter Tryz.func8, Tryz.ntmps8
  go_wp2_with fail
  refine box2 (C := fun W => Calls _ _ _ W _) ?_
  intro wb hw k1 k2 hB0
  have R1 := boxRule k1
  have R2 := boxRule k2
  refine (HQ.out wb hw).mono ?_; rintro e w1 ⟨rfl, hb1⟩
  have hB1 := bw_to hw hb1
  have a1 := R1 w1 1 hb1
  have b1 := R2 w1 1 hb1
  go_wp2_with fail
  go_loopw [24] (fun i wr => ∃ k : Nat, k ≤ ls.length ∧ i = .int .i64 k ∧ Below w.heap.size w wr ∧ Below wb.heap.size wb wr) (fun i _ => ls.length - (intOf i).toNat)
  case atStart => exact ⟨0, by omega, rfl, hB1, hb1⟩
  case round =>
    obtain ⟨k, hk, rfl, hB, hBb⟩ := hrel
    by_cases hlt : k < ls.length
    · obtain ⟨ad, rfl, hC⟩ := lns_el hr rfl hlt
      obtain ⟨ad', rfl, hC'⟩ := lns_el hr' rfl hlt
      have a1 := R1 wr 1 hBb
      have b1 := R2 wr 1 hBb
      obtain ⟨x0, x1, x2⟩ := hC wr hB
      obtain ⟨y0, y1, y2⟩ := hC' wr hB
      clear hC hC' R1 R2
      have hki : (k : Int) < (ls.length : Int) := by omega
      go_wp2_with fail
      go_big_quiet (fail)
      go_wp2_with fail
      exact ⟨⟨k + 1, by omega, by go_num, bw_dr hB _, bw_dr hBb _⟩, by simp [intOf]; omega⟩
    · have hki : ¬ (k : Int) < (ls.length : Int) := by omega
      go_wp2_with fail
      go_ret
      exact ⟨rfl, hB⟩
end Go.Proofs.YtajffjkmmenaoaaGreat

/- Are the bytes too many? -/
namespace Go.Proofs.YtajffjkmmenaoaaGreat
open Go Go.RowKit
set_option linter.unusedVariables false
set_option linter.unusedSimpArgs false

theorem bigB_any (A B : Option Addr) (n c k d : Nat) (w : World) (hn : n ≤ 9223372036854775807) (hk : k ≤ 9223372036854775807) : Calls Tryz.prog 4 #[.slice A n c, .slice B k d] w fun e w' => ∃ b, e = .returned (.bool b) ∧ w = w' := by
  go_enter Tryz.func4, Tryz.ntmps4
  by_cases h : n ≤ 1048576
  · have h1 : ¬ (1048576 : Int) < n := by omega
    have h2 : IntKind.i64.wrap (1048576 - (n : Int)) = 1048576 - (n : Int) := IntWalk.i64_in _ (by omega)
    by_cases h3 : 1048576 - (n : Int) < k
    · go_wp2_with fail
      go_ret
      simp [h3]
    · go_wp2_with fail
      go_ret
      simp [h3]
  · have h1 : (1048576 : Int) < n := by omega
    go_wp2_with fail
    go_ret
    first | exact ⟨_, rfl, rfl⟩ | exact ⟨_, rfl⟩ | exact rfl

end Go.Proofs.YtajffjkmmenaoaaGreat

/- Contracts of the laws' helpers: a number of bytes, a text's place in a row, two rows of texts alike, a row of no. -/
namespace Go.Proofs.YtajffjkmmenaoaaGreat
open Go Go.RowKit
set_option linter.unusedVariables false
set_option linter.unusedSimpArgs false

end Go.Proofs.YtajffjkmmenaoaaGreat

/- A made proof with one line changed, or one left out. -/
namespace Go.Proofs.YtajffjkmmenaoaaGreat
open Go Go.RowKit
set_option linter.unusedVariables false
set_option linter.unusedSimpArgs false

theorem dig_row {n : Nat} {r : ByteArray} (h1 : 1 ≤ n) (h8 : n ≤ 8) (h : RowIn n r) : digB r = true := by
  unfold digB
  rw [Bool.and_eq_true, List.all_eq_true]
  refine ⟨fun c hc => ?_, decide_eq_true (by have := h.1; omega)⟩
  have := h.2 c hc
  exact decide_eq_true (by omega)
/-- The heads and the lines of a made proof. -/
def hsO (m : Mt) (k : Cl) (t : ByteArray) : List ByteArray := if proofB m k t then headsT m k t else []
def lsO (m : Mt) (k : Cl) (t : ByteArray) : List Ln := if proofB m k t then lnsOf m.l.length (rowsT m k t) else []
theorem proofAt_own {W : World} {base : Nat} {m : Mt} {k : Cl} {t : ByteArray} {hv lv : Value} (h : ProofAt W base m k t hv lv) : W.ownsRow base 9 1 hv (hsO m k t).length ((hsO m k t).map Value.string) ∧ W.ownsRow base 58 3 lv (lsO m k t).length ((lsO m k t).flatMap lnC) := by
  unfold ProofAt at h
  unfold hsO lsO
  cases hp : proofB m k t
  · rw [hp, if_neg (by decide)] at h
    obtain ⟨rfl, rfl⟩ := h
    exact ⟨World.ownsRow_nil _ _ _ _, World.ownsRow_nil _ _ _ _⟩
  · rw [hp, if_pos rfl] at h
    rw [if_pos rfl, if_pos rfl, headsT_len, lnsOf_len, ← enc_lns]
    exact h
/-- What is known of a made proof. -/
structure LieF (m : Mt) (k : Cl) (t : ByteArray) (ok : Bool) (HS : List ByteArray) (LS : List Ln) : Prop where
  fs : FitS HS
  fl : FitL LS
  hn : HS.length ≤ 61
  no : ok = false → HS = [] ∧ LS = []
  len : ok = true → 1 ≤ LS.length
  ln8 : LS.length ≤ 800
  at_ : ∀ i (h : i < LS.length), 0 ≤ LS[i].at' ∧ LS[i].at' ≤ 39
  moved : ∀ i (h : i < LS.length), ∀ a : Int, 0 ≤ a → a ≤ 40 → a ≠ LS[i].at' → (askT m k t && shapeB HS (LS.set i ⟨LS[i].row, LS[i].lead, a⟩)) = true ∧ lieZ m k t HS (LS.set i ⟨LS[i].row, LS[i].lead, a⟩) = (i : Int) + 2
  short : ok = true → (askT m k t && shapeB HS (LS.drop 1)) = true ∧ lieZ m k t HS (LS.drop 1) = 1
  whole : ok = true → (askT m k t && shapeB HS LS) = true ∧ lieZ m k t HS LS = -1
theorem lieF_of (m : Mt) (k : Cl) (t : ByteArray) : ∃ ok HS LS, proofB m k t = ok ∧ hsO m k t = HS ∧ lsO m k t = LS ∧ LieF m k t ok HS LS := by
  cases hp : proofB m k t
  · refine ⟨false, [], [], rfl, by unfold hsO; rw [hp]; rfl, by unfold lsO; rw [hp]; rfl, ⟨by intro s hs; simp at hs, by intro s hs; simp at hs, by simp, fun _ => ⟨rfl, rfl⟩, by simp, by simp, by simp, by simp, by simp, by simp⟩⟩
  · refine ⟨true, headsT m k t, lnsOf m.l.length (rowsT m k t), rfl, by unfold hsO; rw [hp]; rfl, by unfold lsO; rw [hp]; rfl, ?_⟩
    have hp' := hp
    unfold proofB at hp'
    rw [Bool.and_eq_true, Bool.and_eq_true, decide_eq_true_eq, decide_eq_true_eq] at hp'
    obtain ⟨hok, hnd, hend⟩ := hp'
    have hask : askT m k t = true := by unfold okT at hok; rw [Bool.and_eq_true] at hok; exact hok.1
    have hask' := hask
    unfold askT at hask'
    rw [Bool.and_eq_true] at hask'
    obtain ⟨n, hg⟩ := cgood_of hask'.1
    have hn := hg.m.hi
    have hlo := hg.m.lo
    have ht := touch_size hask'.2
    have hml := hg.m.len
    have hr8 := rows_size hok
    have hrl := rowsT_len m k t
    have hN : 0 < m.l.length := by omega
    have hHd : headsOk m k t (headsT m k t) = true := by unfold headsOk; rw [decide_eq_true rfl, decide_eq_true hend]; rfl
    have hHs : ∀ s ∈ headsT m k t, RowIn n s := headsT_in hg.m t
    have hHn : (headsT m k t).length ≤ 61 := by rw [headsT_len]; omega
    have hline : ∀ l ∈ lnsOf m.l.length (rowsT m k t), digB l.row = true ∧ (0 ≤ l.lead ∧ l.lead ≤ 60) ∧ (0 ≤ l.at' ∧ l.at' ≤ 39) ∧ l.row.size ≤ 8 := by
      intro l hl
      obtain ⟨r, hr, rfl⟩ := List.mem_map.1 (show l ∈ (sortB (rowsT m k t)).map (lnOf m.l.length (rowsT m k t)) from hl)
      have hri := perm_in hn (rowsT_perm hg.m t r ((sortB_mem _ _).1 hr))
      obtain ⟨h1, _⟩ := idxB_mem ((sortB_mem _ _).1 hr)
      have h2 : idxB r (rowsT m k t) / m.l.length < t.size := by rw [Nat.div_lt_iff_lt_mul hN, ← hrl]; exact h1
      have h3 : idxB r (rowsT m k t) % m.l.length < m.l.length := Nat.mod_lt _ hN
      refine ⟨dig_row (by omega) hn hri, ?_, ?_, by have := hri.1; show r.size ≤ 8; omega⟩
      · show (0 : Int) ≤ ((idxB r (rowsT m k t) / m.l.length : Nat) : Int) ∧ ((idxB r (rowsT m k t) / m.l.length : Nat) : Int) ≤ 60
        generalize idxB r (rowsT m k t) / m.l.length = d at h2
        omega
      · show (0 : Int) ≤ ((idxB r (rowsT m k t) % m.l.length : Nat) : Int) ∧ ((idxB r (rowsT m k t) % m.l.length : Nat) : Int) ≤ 39
        generalize idxB r (rowsT m k t) % m.l.length = d at h3
        omega
    have hlen : (lnsOf m.l.length (rowsT m k t)).length = t.size * m.l.length := by rw [lnsOf_len, hrl]
    have hln8 : (lnsOf m.l.length (rowsT m k t)).length ≤ 800 := by rw [lnsOf_len]; exact hr8
    have hokL := lns_ok (N := m.l.length) (T := t.size) hnd hN hrl
    have hpos : 1 ≤ (lnsOf m.l.length (rowsT m k t)).length := by rw [hlen]; exact Nat.mul_pos (by omega) hN
    have hshape : ∀ ls : List Ln, ls.length ≤ 800 → (∀ l ∈ ls, lnB l = true) → shapeB (headsT m k t) ls = true := by
      intro ls h1 h2
      unfold shapeB
      rw [decide_eq_true hHn, decide_eq_true h1, List.all_eq_true.2 (fun s hs => dig_row (by omega) hn (hHs s hs)), List.all_eq_true.2 h2]
      rfl
    have hlnB : ∀ l ∈ lnsOf m.l.length (rowsT m k t), lnB l = true := by
      intro l hl
      obtain ⟨h1, h2, h3, _⟩ := hline l hl
      exact lnB_yes h1 (decide_eq_true h2) (decide_eq_true (by omega))
    generalize hLS : lnsOf m.l.length (rowsT m k t) = LS at *
    refine ⟨fun s hs => by have := (hHs s hs).1; unfold maxLen; omega, fun l hl => by have := (hline l hl).2.2.2; unfold maxLen; omega, hHn, by simp, fun _ => hpos, hln8, fun i h => (hline _ (List.getElem_mem h)).2.2.1, ?_, ?_, ?_⟩
    · intro i hi a ha0 ha4 hne
      have hL := hline _ (List.getElem_mem hi)
      have hlen' : (LS.set i ⟨LS[i].row, LS[i].lead, a⟩).length = LS.length := List.length_set
      refine ⟨?_, ?_⟩
      · rw [hask, hshape _ (by rw [hlen']; exact hln8) (fun l hl => ?_)]
        · rfl
        · rcases List.mem_or_eq_of_mem_set hl with h | h
          · exact hlnB l h
          · subst h
            exact lnB_yes hL.1 (decide_eq_true hL.2.1) (decide_eq_true ⟨ha0, ha4⟩)
      · rw [lieZ_lines hHd (by rw [hlen', hlen])]
        have hbad := moved_bad (ls' := LS.set i ⟨LS[i].row, LS[i].lead, a⟩) hnd (List.getElem?_eq_getElem hi) (hokL i hi) (a := a) (by rw [List.getElem?_set_self hi]) (by have := hL.2.2.1; omega)
        have hk : lieN (rowsT m k t) m.l.length t.size (LS.set i ⟨LS[i].row, LS[i].lead, a⟩) = (i : Int) := lieN_at (by rw [hlen']; exact hi) (fun j hj => by rw [kept_ok (n := i) (ls := LS) (fun x hx => by rw [List.getElem?_set_ne (by omega)]) hj]; exact hokL j (by omega)) hbad
        rw [hk, if_neg (by omega)]
    · intro _
      refine ⟨?_, lieZ_count hHd (by rw [List.length_drop, ← hlen]; omega)⟩
      rw [hask, hshape _ (by rw [List.length_drop]; omega) (fun l hl => hlnB l (List.mem_of_mem_drop hl))]
      rfl
    · intro _
      refine ⟨by rw [hask, hshape _ hln8 hlnB]; rfl, ?_⟩
      rw [lieZ_lines hHd hlen, lieN_no hokL]
      rfl
end Go.Proofs.YtajffjkmmenaoaaGreat

/- A proof that the checker accepts is the made one. -/
namespace Go.Proofs.YtajffjkmmenaoaaGreat
open Go Go.RowKit
set_option linter.unusedVariables false
set_option linter.unusedSimpArgs false

theorem lie_none {m : Mt} {k : Cl} {t : ByteArray} {hs : List ByteArray} {ls : List Ln} (h : (askT m k t && shapeB hs ls) = true) (hl : lieZ m k t hs ls < 0) : proofB m k t = true ∧ hsO m k t = hs ∧ lsO m k t = ls := by
  rw [Bool.and_eq_true] at h
  obtain ⟨hask, hsh⟩ := h
  obtain ⟨hpos, hl8, _⟩ := shape_pos hsh
  unfold lieZ at hl
  by_cases hho : headsOk m k t hs = true
  · rw [if_pos hho] at hl
    by_cases hc : ls.length = t.size * m.l.length
    · rw [if_pos hc] at hl
      cases hb : badAt (okLn nmLt (rowsT m k t) m.l.length t.size ls) ls.length with
      | some i => rw [hb] at hl; exact absurd hl (by show ¬ ((i : Int) + 2 < 0); omega)
      | none =>
        have hall := badAt_all hb
        obtain ⟨hnd, hls⟩ := lns_only (N := m.l.length) (T := t.size) (by rw [rowsT_len]; exact hc) hpos hall
        unfold headsOk at hho
        rw [Bool.and_eq_true, decide_eq_true_eq, decide_eq_true_eq] at hho
        have hok : okT m k t = true := by unfold okT; rw [hask, decide_eq_true (by omega)]; rfl
        have hp : proofB m k t = true := by unfold proofB; rw [hok, decide_eq_true hnd, decide_eq_true hho.2]; rfl
        refine ⟨hp, ?_, ?_⟩
        · unfold hsO; rw [if_pos hp]; exact hho.1.symm
        · unfold lsO; rw [if_pos hp]; exact hls.symm
    · rw [if_neg hc] at hl; omega
  · rw [if_neg hho] at hl; omega
end Go.Proofs.YtajffjkmmenaoaaGreat

/- The sameness of any two proofs: the specification's. -/
namespace Go.Proofs.YtajffjkmmenaoaaGreat
open Go Go.RowKit
set_option linter.unusedVariables false
set_option linter.unusedSimpArgs false

theorem take_same {α : Type} {a b : List α} {k : Nat} (h : a.take k = b.take k) (ha : k < a.length) (hb : k < b.length) (e : a[k] = b[k]) : a.take (k + 1) = b.take (k + 1) := by
  rw [List.take_succ_eq_append_getElem ha, List.take_succ_eq_append_getElem hb, h, e]
theorem ln_eq {a b : Ln} (h1 : a.row = b.row) (h2 : a.lead = b.lead) (h3 : a.at' = b.at') : a = b := by
  cases a; cases b; simp only at h1 h2 h3; subst h1; subst h2; subst h3; rfl
set_option maxRecDepth 20000 in
set_option maxHeartbeats 4000000 in
theorem specSameProof_any (hv lv hv' lv' : Value) (hs hs' : List ByteArray) (ls ls' : List Ln) (w : World) (h1 : Strs w hv hs) (h2 : Lns w lv ls) (h1' : Strs w hv' hs') (h2' : Lns w lv' ls') (b : Bool) (hb : b = true ↔ hs = hs' ∧ ls = ls') : Calls Tryz.prog 8 #[.agg #[hv, lv], .agg #[hv', lv']] w fun e w' => e = .returned (.bool b) ∧ Below w.heap.size w w' := by
  have HQ := Lib.hid (fun W (hW : Below w.heap.size w W) => l1SameS_any hv hv' hs hs' W (h1.to hW) (h1'.to hW))
  have Hb := Lib.hid hb
  obtain ⟨d, hd⟩ : ∃ d, d = decide (hs = hs') := ⟨_, rfl⟩
  rw [← hd] at HQ
  have Hd := Lib.hid hd
  obtain ⟨A1, c1, rfl, _⟩ := h1
  obtain ⟨A3, c3, rfl, _⟩ := h1'
  obtain ⟨A2, c2, rfl, g1, g2, hr⟩ := h2
  obtain ⟨A4, c4, rfl, g1', g2', hr'⟩ := h2'
  unfold maxLen at g2 g2'
  clear hb hd
  generalize hn1 : ls.length = n1 at hr g1 g2 ⊢
  generalize hn2 : ls'.length = n2 at hr' g1' g2' ⊢
  have Hn1 := Lib.hid hn1
  have Hn2 := Lib.hid hn2
  clear hn1 hn2
  go_enter Tryz.func8, Tryz.ntmps8
  go_wp2_with fail
  refine box2 (C := fun W => Calls _ _ _ W _) ?_
  intro wb hw k1 k2 hB0
  have R1 := boxRule k1
  have R2 := boxRule k2
  refine (HQ.out wb hw).mono ?_; rintro e w1 ⟨rfl, hb1⟩
  have hB1 := bw_to hw hb1
  have a1 := R1 w1 1 hb1
  have b1 := R2 w1 1 hb1
  cases d
  · have hbf : b = false := by
      cases hbb : b
      · rfl
      · have := (Hb.out.1 hbb).1
        have h3 := Hd.out
        rw [decide_eq_true this] at h3; cases h3
    subst hbf
    go_wp2_with fail
    go_ret
    exact ⟨rfl, hB1⟩
  have Hse := Lib.hid (of_decide_eq_true Hd.out.symm)
  by_cases hlen : n1 = n2
  rotate_left
  · have hbf : b = false := by
      cases hbb : b
      · rfl
      · exact absurd (by rw [← Hn1.out, ← Hn2.out, (Hb.out.1 hbb).2]) hlen
    subst hbf
    have hln : ¬ ((n1 : Int) = (n2 : Int)) := by omega
    have hlb : ((n1 : Int) == (n2 : Int)) = false := by rw [beq_eq_false_iff_ne]; exact hln
    go_wp2_with fail
    go_ret
    exact ⟨rfl, hB1⟩
  subst hlen
  go_wp2_with fail
  go_loopw [24] (fun i wr => ∃ k : Nat, k ≤ n1 ∧ i = .int .i64 k ∧ Below w.heap.size w wr ∧ Below wb.heap.size wb wr ∧ ls.take k = ls'.take k) (fun i _ => n1 - (intOf i).toNat)
  case atStart => exact ⟨0, by omega, rfl, hB1, hb1, by simp⟩
  case round =>
    obtain ⟨k, hk, rfl, hB, hBb, htk⟩ := hrel
    have Htk := Lib.hid htk
    clear htk
    by_cases hlt : k < n1
    · have hk1 : k < ls.length := by rw [Hn1.out]; exact hlt
      have hk2 : k < ls'.length := by rw [Hn2.out]; exact hlt
      have Hyes := Lib.hid (fun e => take_same Htk.out hk1 hk2 e)
      have Hno : Hid (ls[k] ≠ ls'[k] → b = false) := Lib.hid (fun h => by
        cases hbb : b
        · rfl
        · exact absurd (by obtain ⟨_, rfl⟩ := Hb.out.1 hbb; rfl) h)
      obtain ⟨ad, rfl, hC⟩ := lns_el hr Hn1.out.symm hk1
      obtain ⟨ad', rfl, hC'⟩ := lns_el hr' Hn2.out.symm hk2
      have a1 := R1 wr 1 hBb
      have b1 := R2 wr 1 hBb
      obtain ⟨x0, x1, x2⟩ := hC wr hB
      obtain ⟨y0, y1, y2⟩ := hC' wr hB
      obtain ⟨l1, hl1⟩ : ∃ l, l = ls[k] := ⟨_, rfl⟩
      obtain ⟨l2, hl2⟩ : ∃ l, l = ls'[k] := ⟨_, rfl⟩
      rw [← hl1, ← hl2] at Hyes Hno
      rw [← hl1] at x0 x1 x2
      rw [← hl2] at y0 y1 y2
      clear hC hC' R1 R2 hl1 hl2 hk1 hk2
      have hki : (k : Int) < (n1 : Int) := by omega
      by_cases he : l1 = l2
      · subst he
        have Hy := Lib.hid (Hyes.out rfl)
        clear Hyes Hno
        go_wp2_with fail
        go_big_quiet (fail)
        go_wp2_with fail
        exact ⟨⟨k + 1, by omega, by go_num, bw_dr hB _, bw_dr hBb _, Hy.out⟩, by simp [intOf]; omega⟩
      · have hbf := Hno.out he
        subst hbf
        clear Hyes Hno
        by_cases e1 : l1.row.toList = l2.row.toList
        · by_cases e2 : l1.lead = l2.lead
          · have e3 : ¬ l1.at' = l2.at' := fun e3 => he (ln_eq (by have h := sl_beq l1.row l2.row; rw [e1, beq_self_eq_true] at h; exact of_decide_eq_true h.symm) e2 e3)
            go_wp2_with fail
            go_region
            go_wp2_with fail
            go_ret
            exact ⟨rfl, bw_dr hB _⟩
          · go_wp2_with fail
            go_region
            go_wp2_with fail
            go_ret
            exact ⟨rfl, bw_dr hB _⟩
        · go_wp2_with fail
          go_region
          go_wp2_with fail
          go_ret
          exact ⟨rfl, bw_dr hB _⟩
    · have hki : ¬ (k : Int) < (n1 : Int) := by omega
      have hbt : b = true := Hb.out.2 ⟨Hse.out, by
        have h := Htk.out
        rw [List.take_of_length_le (by rw [Hn1.out]; omega), List.take_of_length_le (by rw [Hn2.out]; omega)] at h
        exact h⟩
      subst hbt
      go_wp2_with fail
      go_ret
      exact ⟨rfl, hB⟩
end Go.Proofs.YtajffjkmmenaoaaGreat

/- The sameness of any two proofs: the program's. -/
namespace Go.Proofs.YtajffjkmmenaoaaGreat
open Go Go.RowKit
set_option linter.unusedVariables false
set_option linter.unusedSimpArgs false

set_option maxRecDepth 20000 in
set_option maxHeartbeats 4000000 in
theorem slicesEqualLn_any (u v : Value) (ls ls' : List Ln) (w : World) (h2 : Lns w u ls) (h2' : Lns w v ls') (b : Bool) (hb : b = true ↔ ls = ls') : Calls Tryz.prog 46 #[u, v] w fun e w' => e = .returned (.bool b) ∧ Below w.heap.size w w' := by
  have Hb := Lib.hid hb
  obtain ⟨A2, c2, rfl, g1, g2, hr⟩ := h2
  obtain ⟨A4, c4, rfl, g1', g2', hr'⟩ := h2'
  unfold maxLen at g2 g2'
  clear hb
  generalize hn1 : ls.length = n1 at hr g1 g2 ⊢
  generalize hn2 : ls'.length = n2 at hr' g1' g2' ⊢
  have Hn1 := Lib.hid hn1
  have Hn2 := Lib.hid hn2
  clear hn1 hn2
  go_enter Tryz.func46, Tryz.ntmps46
  by_cases hlen : n1 = n2
  rotate_left
  · have hbf : b = false := by
      cases hbb : b
      · rfl
      · exact absurd (by rw [← Hn1.out, ← Hn2.out, Hb.out.1 hbb]) hlen
    subst hbf
    have hln : ¬ ((n1 : Int) = (n2 : Int)) := by omega
    have hlb : ((n1 : Int) == (n2 : Int)) = false := by rw [beq_eq_false_iff_ne]; exact hln
    go_wp2_with fail
    go_ret
    exact ⟨rfl, Below.refl _ _⟩
  subst hlen
  go_wp2_with fail
  go_loopw [13] (fun i wr => ∃ k : Nat, k ≤ n1 ∧ i = .int .i64 k ∧ Below w.heap.size w wr ∧ ls.take k = ls'.take k) (fun i _ => n1 - (intOf i).toNat)
  case atStart => exact ⟨0, by omega, rfl, Below.refl _ _, by simp⟩
  case round =>
    obtain ⟨k, hk, rfl, hB, htk⟩ := hrel
    have Htk := Lib.hid htk
    clear htk
    by_cases hlt : k < n1
    · have hk1 : k < ls.length := by rw [Hn1.out]; exact hlt
      have hk2 : k < ls'.length := by rw [Hn2.out]; exact hlt
      have Hyes := Lib.hid (fun e => take_same Htk.out hk1 hk2 e)
      have Hno : Hid (ls[k] ≠ ls'[k] → b = false) := Lib.hid (fun h => by
        cases hbb : b
        · rfl
        · exact absurd (by have h := Hb.out.1 hbb; subst h; rfl) h)
      obtain ⟨ad, rfl, hC⟩ := lns_el hr Hn1.out.symm hk1
      obtain ⟨ad', rfl, hC'⟩ := lns_el hr' Hn2.out.symm hk2
      obtain ⟨x0, x1, x2⟩ := hC wr hB
      obtain ⟨y0, y1, y2⟩ := hC' wr hB
      obtain ⟨l1, hl1⟩ : ∃ l, l = ls[k] := ⟨_, rfl⟩
      obtain ⟨l2, hl2⟩ : ∃ l, l = ls'[k] := ⟨_, rfl⟩
      rw [← hl1, ← hl2] at Hyes Hno
      rw [← hl1] at x0 x1 x2
      rw [← hl2] at y0 y1 y2
      clear hC hC' hl1 hl2 hk1 hk2
      have hki : (k : Int) < (n1 : Int) := by omega
      by_cases he : l1 = l2
      · subst he
        have Hy := Lib.hid (Hyes.out rfl)
        clear Hyes Hno
        go_wp2_with fail
        go_big_quiet (fail)
        go_wp2_with fail
        exact ⟨⟨k + 1, by omega, by go_num, bw_dr hB _, Hy.out⟩, by simp [intOf]; omega⟩
      · have hbf := Hno.out he
        subst hbf
        clear Hyes Hno
        by_cases e1 : l1.row.toList = l2.row.toList
        · by_cases e2 : l1.lead = l2.lead
          · have e3 : ¬ l1.at' = l2.at' := fun e3 => he (ln_eq (by have h := sl_beq l1.row l2.row; rw [e1, beq_self_eq_true] at h; exact of_decide_eq_true h.symm) e2 e3)
            go_wp2_with fail
            go_region
            go_wp2_with fail
            go_ret
            exact ⟨rfl, bw_dr hB _⟩
          · go_wp2_with fail
            go_region
            go_wp2_with fail
            go_ret
            exact ⟨rfl, bw_dr hB _⟩
        · go_wp2_with fail
          go_region
          go_wp2_with fail
          go_ret
          exact ⟨rfl, bw_dr hB _⟩
    · have hki : ¬ (k : Int) < (n1 : Int) := by omega
      have hbt : b = true := Hb.out.2 (by
        have h := Htk.out
        rw [List.take_of_length_le (by rw [Hn1.out]; omega), List.take_of_length_le (by rw [Hn2.out]; omega)] at h
        exact h)
      subst hbt
      go_wp2_with fail
      go_ret
      exact ⟨rfl, hB⟩
set_option maxRecDepth 20000 in
set_option maxHeartbeats 4000000 in
theorem implSameProof_any (hv lv hv' lv' : Value) (hs hs' : List ByteArray) (ls ls' : List Ln) (w : World) (h1 : Strs w hv hs) (h2 : Lns w lv ls) (h1' : Strs w hv' hs') (h2' : Lns w lv' ls') (c : Bool) (hc : c = true ↔ ls = ls') : Calls Tryz.prog 17 #[.agg #[hv, lv], .agg #[hv', lv']] w fun e w' => e = .returned (.bool (decide (hs = hs') && c)) ∧ Below w.heap.size w w' := by
  have HQ := Lib.hid (fun W (hW : Below w.heap.size w W) => slicesEqualStr_any hv hv' hs hs' W (h1.to hW) (h1'.to hW))
  have HL := Lib.hid (fun W (hW : Below w.heap.size w W) => slicesEqualLn_any lv lv' ls ls' W (h2.to hW) (h2'.to hW) c hc)
  obtain ⟨d, hd⟩ : ∃ d, d = decide (hs = hs') := ⟨_, rfl⟩
  rw [← hd] at HQ ⊢
  obtain ⟨A1, c1, rfl, _⟩ := h1
  obtain ⟨A3, c3, rfl, _⟩ := h1'
  obtain ⟨A2, c2, rfl, g1, g2, hr⟩ := h2
  obtain ⟨A4, c4, rfl, g1', g2', hr'⟩ := h2'
  clear hd hr hr' g1 g2 g1' g2' hc
  go_enter Tryz.func17, Tryz.ntmps17
  go_wp2_with fail
  refine box2 (C := fun W => Calls _ _ _ W _) ?_
  intro wb hw k1 k2 hB0
  have R1 := boxRule k1
  have R2 := boxRule k2
  refine (HQ.out wb hw).mono ?_; rintro e w1 ⟨rfl, hb1⟩
  have hB1 := bw_to hw hb1
  have a1 := R1 w1 1 hb1
  have b1 := R2 w1 1 hb1
  cases d
  · go_wp2_with fail
    go_ret
    exact ⟨rfl, hB1⟩
  · go_wp2_with fail
    refine (HL.out w1 hB1).mono ?_; rintro e w2 ⟨rfl, hb2⟩
    go_wp2_with fail
    go_ret
    exact ⟨rfl, bw_to hB1 hb2⟩
end Go.Proofs.YtajffjkmmenaoaaGreat
