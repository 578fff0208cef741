/- Contract: the making of a proof, the program's. -/
import Derived.Test.YtajffjkmmenaoaaGreatPk32
import Derived.Test.YtajffjkmmenaoaaGreatPk33
namespace Go.Proofs.YtajffjkmmenaoaaGreat
open Go Go.RowKit
set_option linter.unusedVariables false
set_option linter.unusedSimpArgs false

/-- Is there a proof? -/
def proofB (m : Mt) (k : Cl) (t : ByteArray) : Bool := okT m k t && (decide (rowsT m k t).Nodup && decide (endT m k t = roundsB m.stage.toNat))
/-- The two slices of a proof. -/
def ProofAt (W : World) (base : Nat) (m : Mt) (k : Cl) (t : ByteArray) (hv lv : Value) : Prop :=
  if proofB m k t then W.ownsRow base 9 1 hv (t.size + 1) ((headsT m k t).map Value.string) ∧ W.ownsRow base 58 3 lv (rowsT m k t).length ((sortB (rowsT m k t)).flatMap (encL m.l.length (rowsT m k t)))
  else hv = .slice none 0 0 ∧ lv = .slice none 0 0
theorem sl_new3 (w : World) (a b c : Value) (e : TypeId) : Sl (w.alloc (.cells #[a, b, c] e)) 3 (.slice (some ⟨w.heap.size, 0, none⟩) 1 1) 1 [a, b, c] :=
  sl_of_own (own_of_heap (base := 0) (heap_new w _) (Nat.zero_le _) (by unfold maxLen; omega) rfl)
theorem rows_size {m : Mt} {k : Cl} {t : ByteArray} (h : okT m k t = true) : (rowsT m k t).length ≤ 800 := by
  unfold okT at h
  rw [Bool.and_eq_true, decide_eq_true_eq] at h
  rw [rowsT_len]; exact h.2
theorem rows_pos {m : Mt} {k : Cl} {t : ByteArray} {n : Nat} (hg : MGood m n) (ht : 1 ≤ t.size) : 1 ≤ (rowsT m k t).length := by
  rw [rowsT_len]; exact Nat.mul_pos ht hg.len.1
theorem rowsT_in {m : Mt} {k : Cl} {n : Nat} (h : MGood m n) (t : ByteArray) : ∀ x ∈ rowsT m k t, Inv n x := by
  intro x hx
  unfold rowsT rowsB at hx
  obtain ⟨y, hy, hx⟩ := List.mem_flatMap.1 hx
  exact lead_inv h.hi _ (headsT_inv h t y (List.mem_of_mem_take hy)) x hx
theorem info_line : (Tryz.prog.info? 58).map (fun i => (i.zero, i.size, i.bytes)) = some (some (.agg #[.string ⟨#[]⟩, .int .i64 0, .int .i64 0]), 3, 32) := by kernel_rfl
set_option maxRecDepth 100000 in
set_option maxHeartbeats 8000000 in
theorem implMakeProof_any (m : Mt) (v : Value) (k : Cl) (t : ByteArray) (w : World) (h : MethAt w m v) (hs : MtSmall m) (hk : ClSmall k) (ht : t.size ≤ maxLen) : Calls Tryz.prog 6 #[m.v v, k.v, .string t] w fun e w' =>
    ∃ hv lv, e = .returned (.tuple #[.agg #[hv, lv], .bool (proofB m k t)]) ∧ ProofAt w' w.heap.size m k t hv lv ∧ Below w.heap.size w w' := by
  have Htr := Lib.hid (fun W (hW : Below w.heap.size w W) => implTouchRows_any m v k t W (h.to hW) hs hk ht)
  have hv0 := h.1
  have Hdef : Hid (proofB m k t = (okT m k t && (decide (rowsT m k t).Nodup && decide (endT m k t = roundsB m.stage.toNat)))) := Lib.hid rfl
  have HP : Hid (∀ W base hv lv, ProofAt W base m k t hv lv ↔ if proofB m k t then W.ownsRow base 9 1 hv (t.size + 1) ((headsT m k t).map Value.string) ∧ W.ownsRow base 58 3 lv (rowsT m k t).length ((sortB (rowsT m k t)).flatMap (encL m.l.length (rowsT m k t))) else hv = .slice none 0 0 ∧ lv = .slice none 0 0) := Lib.hid (fun _ _ _ _ => Iff.rfl)
  cases hok : okT m k t
  · have hro : rowsO m k t = [] := by unfold rowsO; rw [hok]; rfl
    rw [hok, Bool.false_and] at Hdef
    have HP0 : Hid (∀ W base, ProofAt W base m k t (.slice none 0 0) (.slice none 0 0)) := Lib.hid (fun W base => (HP.out _ _ _ _).2 (by rw [Hdef.out]; exact ⟨rfl, rfl⟩))
    simp only [hok, hro] at Htr
    obtain ⟨A, c, hv⟩ := h.form
    subst hv
    obtain ⟨pb, hpb⟩ : ∃ p, p = proofB m k t := ⟨_, rfl⟩
    rw [← hpb] at Hdef ⊢
    have hpf := Hdef.out
    subst hpf
    unfold Mt.v Cl.v at *
    clear h hs hk ht hv0 hok hro hpb Hdef HP
    go_enter Tryz.func6, Tryz.ntmps6
    go_wp2_with fail
    refine box3 (C := fun W => Calls _ _ _ W _) ?_
    intro wb hw k1 k2 k3 hB0
    have R1 := boxRule k1
    have R2 := boxRule k2
    have R3 := boxRule k3
    have F3 := fun (j : Nat) w' hb => frozen_of_heap k3 j (w' := w') hb
    have hz := blk_lt k3
    clear k1 k2 k3
    refine (Htr.out _ hw).mono ?_; rintro e w1 ⟨A1, q1, rfl, hown, hb1⟩
    have c0 := R3 w1 0 hb1
    have c1 := R3 w1 1 hb1
    have f0 := F3 0 w1 hb1
    have f1 := F3 1 w1 hb1
    clear R3 F3 hown
    go_wp2_with fail
    refine bodyPost_ret (v := .tuple #[.agg #[.slice none 0 0, .slice none 0 0], .bool false]) ?hr rfl ⟨_, _, rfl, HP0.out _ _, ?hb⟩
    case hb => exact grow_set (grow_set (bw_to hw hb1) (by omega) _) (by omega) _
    case hr => simp [results, go_sem, c0, c1]
  · have hro : rowsO m k t = rowsT m k t := by unfold rowsO; rw [if_pos hok]
    have hask : askT m k t = true := by unfold okT at hok; rw [Bool.and_eq_true] at hok; exact hok.1
    have hask' := hask
    unfold askT at hask'
    rw [Bool.and_eq_true] at hask'
    obtain ⟨n, hg⟩ := cgood_of hask'.1
    have hts := touch_size hask'.2
    have hml := hg.m.len
    have hst := hg.m.st
    have hn := hg.m.hi
    have hrs := rows_size hok
    have hrp := rows_pos (k := k) (t := t) hg.m hts.1
    have Hin := Lib.hid (rowsT_in (k := k) hg.m t)
    have Hit := Lib.hid (fun W V (hV : Strs W V (rowsT m k t)) => isTrue_any V (rowsT m k t) W hV (by omega) (fun s hs => by rw [(Hin.out s hs).1.1]; omega))
    have Hcr := Lib.hid (fun W (hW : Below w.heap.size w W) => comesRound_any m v k t n W hg (hv0.to hW) hask'.2)
    have Hh := Lib.hid (fun W hW => heads_any m v k t n W hg (hv0.to hW) hask'.2)
    rw [← headsT_n hg.m.st] at Hh
    rw [hok, Bool.true_and, hst, show ((n : Int).toNat) = n from by omega] at Hdef
    simp only [hok, hro] at Htr
    obtain ⟨nd, hnd⟩ : ∃ b, b = decide (rowsT m k t).Nodup := ⟨_, rfl⟩
    obtain ⟨rd, hrd⟩ : ∃ b, b = decide (endT m k t = roundsB n) := ⟨_, rfl⟩
    simp only [← hnd] at Hit Hdef
    simp only [← hrd] at Hcr Hdef
    have HD : Hid (nd = true → (rowsT m k t).Nodup) := Lib.hid (fun h => of_decide_eq_true (hnd.symm.trans h))
    obtain ⟨A, c, hv⟩ := h.form
    subst hv
    obtain ⟨pb, hpb⟩ : ∃ p, p = proofB m k t := ⟨_, rfl⟩
    simp only [← hpb] at Hdef HP ⊢
    have hpf := Hdef.out
    obtain ⟨rows, hrows⟩ : ∃ r, r = rowsT m k t := ⟨_, rfl⟩
    simp only [← hrows] at Htr Hit HD HP Hin hrs hrp
    unfold Mt.v Cl.v at *
    rw [hst] at Htr Hcr Hh ⊢
    clear h hs hk ht hv0 hok hro hpb Hdef hask hask' hg hst hnd hrd hrows
    go_enter Tryz.func6, Tryz.ntmps6
    go_wp2_with fail
    refine box3 (C := fun W => Calls _ _ _ W _) ?_
    intro wb hw k1 k2 k3 hB0
    have R1 := boxRule k1
    have R2 := boxRule k2
    have R3 := boxRule k3
    have F3 := fun (j : Nat) w' hb => frozen_of_heap k3 j (w' := w') hb
    have hz := blk_lt k3
    clear k1 k2 k3
    refine (Htr.out _ hw).mono ?_; rintro e w1 ⟨A1, q1, rfl, hown1, hb1⟩
    have hS1 := strs_of_own hown1
    have HS := Lib.hid (fun W (hW : Below w1.heap.size w1 W) => hS1.to hW)
    have hw1 := bw_to hw hb1
    clear hown1 hS1
    cases nd
    · subst hpf
      have HP0 : Hid (∀ W base, ProofAt W base m k t (.slice none 0 0) (.slice none 0 0)) := Lib.hid (fun W base => (HP.out _ _ _ _).2 ⟨rfl, rfl⟩)
      go_wp2_with fail
      refine (Hit.out _ _ (HS.out _ (Below.refl _ _))).mono ?_; rintro e w2 ⟨rfl, hb2⟩
      have hB2 := bw_to hb1 hb2
      have c0 := R3 w2 0 hB2
      have c1 := R3 w2 1 hB2
      have f0 := F3 0 w2 hB2
      have f1 := F3 1 w2 hB2
      clear R3 F3
      go_wp2_with fail
      refine bodyPost_ret (v := .tuple #[.agg #[.slice none 0 0, .slice none 0 0], .bool false]) ?hr rfl ⟨_, _, rfl, HP0.out _ _, ?hb⟩
      case hb => exact grow_set (grow_set (bw_to hw hB2) (by omega) _) (by omega) _
      case hr => simp [results, go_sem, c0, c1]
    · cases rd
      · subst hpf
        have HP0 : Hid (∀ W base, ProofAt W base m k t (.slice none 0 0) (.slice none 0 0)) := Lib.hid (fun W base => (HP.out _ _ _ _).2 ⟨rfl, rfl⟩)
        go_wp2_with fail
        refine (Hit.out _ _ (HS.out _ (Below.refl _ _))).mono ?_; rintro e w2 ⟨rfl, hb2⟩
        have hB2 := bw_to hb1 hb2
        go_wp2_with fail
        refine (Hcr.out _ (bw_to hw hB2)).mono ?_; rintro e w3 ⟨rfl, hb3⟩
        have hB3 := bw_to hB2 hb3
        have c0 := R3 w3 0 hB3
        have c1 := R3 w3 1 hB3
        have f0 := F3 0 w3 hB3
        have f1 := F3 1 w3 hB3
        clear R3 F3
        go_wp2_with fail
        refine bodyPost_ret (v := .tuple #[.agg #[.slice none 0 0, .slice none 0 0], .bool false]) ?hr rfl ⟨_, _, rfl, HP0.out _ _, ?hb⟩
        case hb => exact grow_set (grow_set (bw_to hw hB3) (by omega) _) (by omega) _
        case hr => simp [results, go_sem, c0, c1]
      · subst hpf
        go_wp2_with fail
        refine (Hit.out _ _ (HS.out _ (Below.refl _ _))).mono ?_; rintro e w2 ⟨rfl, hb2⟩
        have hB2 := bw_to hb1 hb2
        go_wp2_with fail
        refine (Hcr.out _ (bw_to hw hB2)).mono ?_; rintro e w3 ⟨rfl, hb3⟩
        have hB3 := bw_to hB2 hb3
        go_wp2_with fail
        refine (Hh.out _ (bw_to hw hB3)).mono ?_; rintro e w4 ⟨A4, q4, rfl, hown4, hb4⟩
        have hB4 := bw_to hB3 hb4
        have HNd : rows.Nodup := by first | exact HD.out trivial | exact HD.out rfl | exact HD.out
        have HNd2 := Lib.hid HNd
        have hq4 := sl_cap hown4
        have Hown4 := Lib.hid hown4
        have hz3 : w.heap.size + 2 < w3.heap.size := by have := hB3.size; omega
        have hhh := heap_new w4 (.cells #[.slice A4 (t.size + 1) q4, .slice none 0 0] 33)
        have Hp0 := Lib.hid (own_of_heap (base := w4.heap.size) (n := 1) (size := 2) hhh (Nat.le_refl _) (by unfold maxLen; omega) rfl)
        have Hz4 : Hid (w4.heap.size + 1 ≤ (w4.alloc (.cells #[.slice A4 (t.size + 1) q4, .slice none 0 0] 33)).heap.size) := Lib.hid (by simp)
        have HB40 := Lib.hid (bw_al (Below.refl w4.heap.size w4) (.cells #[.slice A4 (t.size + 1) q4, .slice none 0 0] 33))
        have hwz : w.heap.size + 2 < w4.heap.size := by have := hB4.size; omega
        clear hown4 HNd hhh
        go_wp2_with fail
        go_loopw [42] (fun i wr => ∃ (j : Nat) (A' : Option Addr) (c' : Nat), j ≤ rows.length ∧ i = .int .i64 j ∧ wr.ownsRow w4.heap.size 33 2 (.slice (some ⟨w4.heap.size, 0, none⟩) 1 1) 1 [.slice A4 (t.size + 1) q4, .slice A' j c'] ∧ wr.ownsRow (w4.heap.size + 1) 58 3 (.slice A' j c') j ((rows.take j).flatMap (encL m.l.length rows)) ∧ Below w4.heap.size w4 wr ∧ w4.heap.size + 1 ≤ wr.heap.size) (fun i _ => rows.length - (intOf i).toNat)
        case atStart => exact ⟨0, none, 0, by omega, rfl, Hp0.out, World.ownsRow_nil _ _ _ _, HB40.out, Hz4.out⟩
        case round =>
          obtain ⟨j, A', c', hj, rfl, hout, hrow, hB, hsz⟩ := hrel
          have Hout := Lib.hid hout
          have Hrow := Lib.hid hrow
          by_cases hlt : j < rows.length
          · have hS5 := HS.out wr (bw_to hb2 (bw_to hb3 (bw_to hb4 hB)))
            obtain ⟨A'', c'', e', _, _, hrd⟩ := hS5
            injection e' with ea eb ec
            subst ea ec
            clear eb
            obtain ⟨ad, rfl, hC⟩ := strs_el hrd hlt
            have Hix := Lib.hid (idxB_get HNd2.out j hlt)
            have Hsn : Hid ((rows.take (j + 1)).flatMap (encL m.l.length rows) = (rows.take j).flatMap (encL m.l.length rows) ++ encL m.l.length rows rows[j]) := Lib.hid (flat_take hlt)
            have He : Hid (encL m.l.length rows rows[j] = [.string rows[j], .int .i64 ((j / m.l.length : Nat) : Int), .int .i64 ((j % m.l.length : Nat) : Int)]) := Lib.hid (by unfold encL; rw [Hix.out])
            obtain ⟨x, hx⟩ : ∃ x, x = rows[j] := ⟨_, rfl⟩
            rw [← hx] at hC Hsn He
            obtain ⟨d, hd⟩ : ∃ d, d = j / m.l.length := ⟨_, rfl⟩
            obtain ⟨r, hr⟩ : ∃ r, r = j % m.l.length := ⟨_, rfl⟩
            rw [← hd, ← hr] at He
            have hd2 : d ≤ j := by rw [hd]; exact Nat.div_le_self _ _
            have hr2 : r ≤ j := by rw [hr]; exact Nat.mod_le _ _
            have hdv : (j : Int).tdiv (m.l.length : Int) = (d : Int) := by rw [hd, Int.tdiv_eq_ediv_of_nonneg (by omega)]; simp
            have hdv2 : (j : Int) / (m.l.length : Int) = (d : Int) := by rw [hd]; simp
            have hrm : (j : Int).tmod (m.l.length : Int) = (r : Int) := by rw [hr, Int.tmod_eq_emod_of_nonneg (by omega)]; simp
            have hrm2 : (j : Int) % (m.l.length : Int) = (r : Int) := by rw [hr]; simp
            have hwd : IntKind.i64.wrap (d : Int) = (d : Int) := IntWalk.i64_in _ ⟨by omega, by omega⟩
            have hwr : IntKind.i64.wrap (r : Int) = (r : Int) := IntWalk.i64_in _ ⟨by omega, by omega⟩
            have hN0 : ¬ m.l = [] := fun e => by rw [e] at hml; simp at hml
            have hBW : Below wr.heap.size wr (wr.drew.alloc (.cells #[.string x, .int .i64 (d : Int), .int .i64 (r : Int)] 58)) := bw_al (Below.drew (Below.refl _ _)) _
            have hBV : Below wr.heap.size wr (wr.alloc (.cells #[.string x, .int .i64 (d : Int), .int .i64 (r : Int)] 58)) := bw_al (Below.refl _ _) _
            have o2 : wr.cell? ⟨w4.heap.size, 1, none⟩ = some (.slice A' j c') := hout.cellAt 1 (by omega)
            have o2' : (wr.drew.alloc (.cells #[.string x, .int .i64 (d : Int), .int .i64 (r : Int)] 58)).cell? ⟨w4.heap.size, 1, none⟩ = some (.slice A' j c') := (own_to hout hBW).cellAt 1 (by omega)
            have hBb := bw_to hB4 hB
            have m2 := R1 wr 2 hBb
            have m2' := R1 _ 2 (bw_to hBb hBW)
            have m2'' := R1 _ 2 (bw_to hBb hBV)
            have o2'' : (wr.alloc (.cells #[.string x, .int .i64 (d : Int), .int .i64 (r : Int)] 58)).cell? ⟨w4.heap.size, 1, none⟩ = some (.slice A' j c') := (own_to hout hBV).cellAt 1 (by omega)
            have hC0 := hC wr (Below.refl _ _)
            have Hout' := Lib.hid (own_to hout hBW)
            have Hrow' := Lib.hid (own_to hrow hBW)
            have hbase : w4.heap.size + 1 ≤ (wr.drew.alloc (.cells #[.string x, .int .i64 (d : Int), .int .i64 (r : Int)] 58)).heap.size := Nat.le_trans hsz hBW.size
            have HR1 := Lib.hid R1
            have HR3 := Lib.hid R3
            have HF3 := Lib.hid F3
            clear R1 R2 R3 F3 hC hx hd hr hrd hout hrow
            go_wp2_with fail
            go_region_law ((refine step_app_sl _ (by rfl) _ _ _ (by rfl) (w4.heap.size + 1) 58 _ 3 32 Tryz.underlying31 info_line (by rfl) (by omega) Hrow'.out (by rfl) (sl_new3 wr.drew (.string x) (.int .i64 (d : Int)) (.int .i64 (r : Int)) 58) (nilok_some _ _ _) (by rfl) (by rw [← He.out]; exact encL_one _ _ _) (by omega) (by omega) hbase (j + 1) rfl ?_; intro A2 q2 w5 hown5 hb5 hg5; (have hout5 := own_blk Hout'.out (hb5.block w4.heap.size (Nat.lt_succ_self _))); (have s2 : w5.cell? ⟨w4.heap.size, 1, none⟩ = some (.slice A' j c') := hout5.cellAt 1 (by omega)); (have f2 := hout5.frozenAt 1)))
            all_goals
              have hz6 : w4.heap.size + 1 ≤ (w5.setCell ⟨w4.heap.size, 1, none⟩ (.slice A2 (j + 1) q2)).heap.size := by
                have h5 := hb5.size
                have h6 : wr.heap.size + 1 ≤ w5.heap.size := by simpa using h5
                have h7 : (w5.setCell ⟨w4.heap.size, 1, none⟩ (.slice A2 (j + 1) q2)).heap.size = w5.heap.size := by simp
                rw [h7]; omega
              go_wp2_with fail
              refine ⟨⟨j + 1, A2, q2, by omega, by go_num, own_set hout5 1 _, ?_, grow_set (Below.trans (bw_to hB hBW) (hb5.mono (by omega))) (Nat.le_refl _) _, hz6⟩, by simp [intOf]; omega⟩
              have hq := own_past hown5 (Nat.lt_succ_self _) 1 (.slice A2 (j + 1) q2)
              rw [Hsn.out, He.out]
              exact hq
          · obtain rfl : j = rows.length := by omega
            rw [List.take_length] at hrow
            obtain ⟨g, hA, hgl⟩ := own_ptr hrow (by omega)
            subst hA
            have Hso := Lib.hid (sortLn_any m.l.length g rows.length c' (w4.heap.size + 1) rows wr hrow (by omega))
            have o2 : wr.cell? ⟨w4.heap.size, 1, none⟩ = some (.slice (some ⟨g, 0, none⟩) rows.length c') := hout.cellAt 1 (by omega)
            clear hrow hout
            go_wp2_with fail
            refine Hso.out.mono ?_; rintro e w6 ⟨rfl, hown6, hb6, hg6⟩
            have hout6 := own_blk Hout.out (hb6.block w4.heap.size (Nat.lt_succ_self _))
            have s0 : w6.cell? ⟨w4.heap.size, 0, none⟩ = some (.slice A4 (t.size + 1) q4) := hout6.cellAt 0 (by omega)
            have s1 : w6.cell? ⟨w4.heap.size, 1, none⟩ = some (.slice (some ⟨g, 0, none⟩) rows.length c') := hout6.cellAt 1 (by omega)
            have hB6 : Below w4.heap.size w4 w6 := hB.trans (hb6.mono (by omega))
            have hB6b := bw_to hB4 hB6
            have c0 := R3 w6 0 hB6b
            have c1 := R3 w6 1 hB6b
            have f0 := F3 0 w6 hB6b
            have f1 := F3 1 w6 hB6b
            have Hl6 := Lib.hid hown6
            have Hh6 := Lib.hid (own_to Hown4.out hB6)
            clear R3 F3 hown6 hout6 o2
            go_wp2_with fail
            refine bodyPost_ret (v := .tuple #[.agg #[.slice A4 (t.size + 1) q4, .slice (some ⟨g, 0, none⟩) rows.length c'], .bool true]) ?hr rfl ⟨_, _, rfl, ?ho, ?hb⟩
            case hb => exact grow_set (grow_set (bw_to hw hB6b) (by omega) _) (by omega) _
            case hr => simp [results, go_sem, c0, c1]
            case ho =>
              refine (HP.out _ _ _ _).2 ⟨?_, ?_⟩
              · exact own_base (own_past (own_past Hh6.out (by omega) _ _) (by omega) _ _) (by omega)
              · exact own_base (own_past (own_past Hl6.out (by omega) _ _) (by omega) _ _) (by omega)
end Go.Proofs.YtajffjkmmenaoaaGreat
