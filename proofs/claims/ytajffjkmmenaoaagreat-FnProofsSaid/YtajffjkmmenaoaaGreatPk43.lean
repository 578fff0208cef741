/- The checking of a proof and its first lie: both sides. (Printed by a program: tools/mkLE.py.) -/
import Derived.Test.YtajffjkmmenaoaaGreatPk42
namespace Go.Proofs.YtajffjkmmenaoaaGreat
open Go Go.RowKit
set_option linter.unusedVariables false
set_option linter.unusedSimpArgs false

theorem lieN_bd {rows : List ByteArray} {N T' : Nat} {ls : List Ln} : -1 ≤ lieN rows N T' ls ∧ lieN rows N T' ls ≤ (ls.length : Int) := by
  unfold lieN
  cases h : badAt (okLn nmLt rows N T' ls) ls.length with
  | none => exact ⟨by show (-1 : Int) ≤ -1; omega, by show (-1 : Int) ≤ _; omega⟩
  | some i =>
    have : i < ls.length := by unfold badAt at h; exact List.mem_range.1 (List.mem_of_find?_eq_some h)
    exact ⟨by show (-1 : Int) ≤ (i : Int); omega, by show (i : Int) ≤ _; omega⟩
def lieAns (b : Bool) (Z : Int) : Int := cond b Z 0
set_option maxRecDepth 20000 in
set_option maxHeartbeats 4000000 in
theorem l20Good_any (m : Mt) (v : Value) (k : Cl) (t : ByteArray) (hv lv : Value) (hs : List ByteArray) (ls : List Ln) (n : Nat) (w : World) (hg : CGood m k n) (hok : callsB m k = true) (hsm : MtSmall m) (hk : ClSmall k) (ht : touchB t.data.toList = true) (hM : MethAt w m v) (hh : Strs w hv hs) (hl : Lns w lv ls) : Calls Tryz.prog 40 #[m.v v, k.v, .string t, .agg #[hv, lv]] w fun e w' => e = .returned (.bool (headsOk m k t hs)) ∧ Below w.heap.size w w' := by
  have Hh := Lib.hid (fun W (hW : Below w.heap.size w W) => l20Heads_any m v k t n W hg hok (hM.to hW) hsm hk ht)
  rw [← headsT_n hg.m.st] at Hh
  have HS := Lib.hid (fun W (hW : Below w.heap.size w W) => hh.to hW)
  have Hdef : Hid (headsOk m k t hs = (decide (headsT m k t = hs) && decide (endT m k t = roundsB n))) := Lib.hid (by
    unfold headsOk; rw [hg.m.st, show ((n : Int).toNat) = n from by omega]
    congr 1
    exact decide_eq_decide.2 eq_comm)
  have Hlast := Lib.hid (headsT_last m k t)
  have hn := hg.m.hi
  have hst := hg.m.st
  have Hln := Lib.hid (headsT_len m k t)
  obtain ⟨A, c, hv'⟩ := hM.form
  subst hv'
  obtain ⟨A1, c1, rfl, _⟩ := hh
  obtain ⟨A2, c2, rfl, _⟩ := hl
  obtain ⟨b1, hb1⟩ : ∃ b, b = decide (headsT m k t = hs) := ⟨_, rfl⟩
  obtain ⟨z, hz⟩ : ∃ z, z = endT m k t := ⟨_, rfl⟩
  rw [← hb1, ← hz] at Hdef
  rw [← hz] at Hlast
  have Hb1 := Lib.hid hb1
  obtain ⟨HT, hHT⟩ : ∃ H, H = headsT m k t := ⟨_, rfl⟩
  rw [← hHT] at Hh Hb1 Hln Hlast
  have hts := touch_size ht
  unfold Mt.v Cl.v at *
  rw [hst] at Hh ⊢
  clear hg ht hM hb1 hHT hz hst hok hsm hk
  go_enter Tryz.func40, Tryz.ntmps40
  go_wp2_with fail
  refine box3 (C := fun W => Calls _ _ _ W _) ?_
  intro wb hw k1 k2 k3 hB0
  have R1 := boxRule k1
  have R3 := boxRule k3
  clear k1 k2 k3
  refine (Hh.out _ hw).mono ?_; rintro e w1 ⟨A3, q3, rfl, ho, hb1⟩
  have hB1 := bw_to hw hb1
  have HQ := Lib.hid (fun W (hW : Below w1.heap.size w1 W) => l1SameS_any _ _ HT hs W ((strs_own_v (by rw [Hln.out]) ho).to hW) (HS.out _ (bw_to hB1 hW)))
  rw [← Hb1.out] at HQ
  have HQ2 : Hid (∀ W, Below w1.heap.size w1 W → Calls Tryz.prog 32 #[.slice A3 (t.size + 1) q3, .slice A1 hs.length c1] W fun e w' => e = .returned (.bool b1) ∧ Below W.heap.size W w') := HQ
  obtain ⟨g3, hg3, _, _⟩ := own_addr ho (by omega)
  subst hg3
  have cw : ∀ u : Aft w1, u.w.cell? ⟨g3, t.size, none⟩ = some (.string z) := fun u => by rw [(own_to ho u.h).cellAt t.size (by omega), List.getElem?_map, Hlast.out]; rfl
  have ch : ∀ u : Aft w1, u.w.cell? ⟨w.heap.size + 1 + 1, 0, none⟩ = some (.slice A1 hs.length c1) := fun u => R3 u.w 0 (bw_to hb1 u.h)
  have cs : ∀ u : Aft w1, u.w.cell? ⟨w.heap.size, 1, none⟩ = some (.int .i64 (n : Int)) := fun u => R1 u.w 1 (bw_to hb1 u.h)
  have htz : (t.size : Int) < ((t.size + 1 : Nat) : Int) := by omega
  have htz2 : (t.size : Int) < (t.size : Int) + 1 := by omega
  have hBr := Below.refl w1.heap.size w1
  have HRo := Lib.hid (fun W => l1Rounds_any n W hn)
  obtain ⟨r, hr⟩ : ∃ r, r = roundsB n := ⟨_, rfl⟩
  rw [← hr] at Hdef HRo
  clear ho HQ R1 R3 hr
  go_upto_region 2 with fail
  cases b1
  · refine wp_region_aft (wb := w1) (by kernel_rfl) (by kernel_rfl) hBr ?_
    repeat (go_big_quiet_step ((first | (go_at_call 32; exact calls_aft fun w hw => HQ2.out w hw) | (go_at_call 30; exact calls_aft_same fun w hw => HRo.out w))))
    refine wpQuiet_nil ?_
    rintro _ ⟨u3, rfl⟩
    have hB3 := u3.h
    generalize u3.w = w3 at hB3 ⊢
    clear cw ch cs
    go_wp2_with fail
    go_ret
    exact ⟨by rw [Hdef.out] <;> rfl, bw_to hB1 hB3⟩
  · obtain ⟨b2, hb2⟩ : ∃ b, b = decide (z = r) := ⟨_, rfl⟩
    rw [← hb2] at Hdef
    have g1 : (z.toList == r.toList) = b2 := by rw [sl_beq, hb2]
    clear hb2
    refine wp_region_aft (wb := w1) (by kernel_rfl) (by kernel_rfl) hBr ?_
    repeat (go_big_quiet_step ((first | (go_at_call 32; exact calls_aft fun w hw => HQ2.out w hw) | (go_at_call 30; exact calls_aft_same fun w hw => HRo.out w))))
    refine wpQuiet_nil ?_
    rintro _ ⟨u3, rfl⟩
    have hB3 := u3.h
    generalize u3.w = w3 at hB3 ⊢
    clear cw ch cs
    go_wp2_with fail
    go_ret
    exact ⟨by rw [Hdef.out] <;> rfl, bw_to hB1 hB3⟩
set_option maxRecDepth 20000 in
set_option maxHeartbeats 4000000 in
theorem implCheckProof_any (m : Mt) (v : Value) (k : Cl) (t : ByteArray) (hv lv : Value) (hs : List ByteArray) (ls : List Ln) (w : World) (hM : MethAt w m v) (hsm : MtSmall m) (hk : ClSmall k) (htz : t.size ≤ maxLen) (hh : Strs w hv hs) (hl : Lns w lv ls) (fh : FitS hs) (fl : FitL ls) : Calls Tryz.prog 12 #[m.v v, k.v, .string t, .agg #[hv, lv]] w fun e w' => e = .returned (.tuple #[.bool (askT m k t && shapeB hs ls && decide (lieZ m k t hs ls < 0)), .bool (askT m k t && shapeB hs ls)]) ∧ Below w.heap.size w w' := by
  have Hl1 := Lib.hid (fun (ha : askT m k t = true) (hsh : shapeB hs ls = true) W (hW : Below w.heap.size w W) => (by
    unfold askT at ha
    rw [Bool.and_eq_true] at ha
    obtain ⟨n, hg⟩ := cgood_of ha.1
    exact firstLie_any m v k t hv lv hs ls n W hg ha.2 (hM.to hW) (hh.to hW) (hl.to hW) hsh))
  have Hg := Lib.hid (fun W (hW : Below w.heap.size w W) => goodFor_any m v k t W (hM.to hW) hsm hk htz)
  have Hs := Lib.hid (fun W (hW : Below w.heap.size w W) => goodProof_any hv lv hs ls W (hh.to hW) (hl.to hW) fh fl)
  have hdef : askT m k t = (callsB m k && touchB t.data.toList) := rfl
  rw [← hdef] at Hg
  obtain ⟨A, c, hv'⟩ := hM.form
  subst hv'
  obtain ⟨A1, c1, rfl, _⟩ := hh
  obtain ⟨A2, c2, rfl, _⟩ := hl
  obtain ⟨ask, hask⟩ : ∃ b, b = askT m k t := ⟨_, rfl⟩
  obtain ⟨sh, hsh⟩ : ∃ b, b = shapeB hs ls := ⟨_, rfl⟩
  obtain ⟨Z, hZ⟩ : ∃ Z, Z = lieZ m k t hs ls := ⟨_, rfl⟩
  rw [← hask] at Hl1 Hg ⊢
  rw [← hsh] at Hl1 Hs ⊢
  simp only [← hZ] at Hl1 ⊢
  unfold Mt.v Cl.v at *
  clear hM hsm hk htz fh fl hdef hask hsh hZ
  go_enter Tryz.func12, Tryz.ntmps12
  go_wp2_with fail
  refine box3 (C := fun W => Calls _ _ _ W _) ?_
  intro wb hw k1 k2 k3 hB0
  have R1 := boxRule k1
  have R2 := boxRule k2
  have R3 := boxRule k3
  clear k1 k2 k3
  refine (Hg.out _ hw).mono ?_; rintro e w1 ⟨rfl, hb1⟩
  have hB1 := bw_to hw hb1
  cases ask
  · clear R1 R2 R3
    go_wp2_with fail
    go_ret2
    exact ⟨rfl, hB1⟩
  have p0 := R3 w1 0 hb1
  have p1 := R3 w1 1 hb1
  cases sh
  · go_wp2_with (go_at_call 36; refine (Hs.out _ hB1).mono ?_; rintro e w2 ⟨rfl, hb2⟩; (have hB2 := bw_to hB1 hb2))
    go_ret2
    exact ⟨rfl, hB2⟩
  go_upto_region 3 with (go_at_call 36; refine (Hs.out _ hB1).mono ?_; rintro e w2 ⟨rfl, hb2⟩; (have hB2 := bw_to hB1 hb2))
  clear p0 p1
  have hbb2 := bw_to hb1 hb2
  have q0 := R1 w2 0 hbb2
  have q1 := R1 w2 1 hbb2
  have q2 := R1 w2 2 hbb2
  have q3 := R2 w2 0 hbb2
  have q4 := R2 w2 1 hbb2
  have q5 := R3 w2 0 hbb2
  have q6 := R3 w2 1 hbb2
  go_wp2_with fail
  refine (Hl1.out (by first | rfl | trivial) (by first | rfl | trivial) _ hB2).mono ?_; rintro e w3 ⟨rfl, hb3⟩
  have hB3 := bw_to hB2 hb3
  clear R1 R2 R3 q0 q1 q2 q3 q4 q5 q6
  obtain ⟨bz, hbz⟩ : ∃ b, b = decide (Z < 0) := ⟨_, rfl⟩
  have Hbz := Lib.hid hbz
  have g1 : decide (Z < 0) = bz := hbz.symm
  clear hbz
  go_wp2_with fail
  go_ret2
  exact ⟨(by first | rfl | (rw [Hbz.out] <;> rfl)), hB3⟩
set_option maxRecDepth 20000 in
set_option maxHeartbeats 4000000 in
theorem implFirstLie_any (m : Mt) (v : Value) (k : Cl) (t : ByteArray) (hv lv : Value) (hs : List ByteArray) (ls : List Ln) (w : World) (hM : MethAt w m v) (hsm : MtSmall m) (hk : ClSmall k) (htz : t.size ≤ maxLen) (hh : Strs w hv hs) (hl : Lns w lv ls) (fh : FitS hs) (fl : FitL ls) : Calls Tryz.prog 13 #[m.v v, k.v, .string t, .agg #[hv, lv]] w fun e w' => e = .returned (.tuple #[.int .i64 (lieAns (askT m k t && shapeB hs ls && !decide (lieZ m k t hs ls < 0)) (lieZ m k t hs ls)), .bool (askT m k t && shapeB hs ls && !decide (lieZ m k t hs ls < 0))]) ∧ Below w.heap.size w w' := by
  have Hl1 := Lib.hid (fun (ha : askT m k t = true) (hsh : shapeB hs ls = true) W (hW : Below w.heap.size w W) => (by
    unfold askT at ha
    rw [Bool.and_eq_true] at ha
    obtain ⟨n, hg⟩ := cgood_of ha.1
    exact firstLie_any m v k t hv lv hs ls n W hg ha.2 (hM.to hW) (hh.to hW) (hl.to hW) hsh))
  have Hg := Lib.hid (fun W (hW : Below w.heap.size w W) => goodFor_any m v k t W (hM.to hW) hsm hk htz)
  have Hs := Lib.hid (fun W (hW : Below w.heap.size w W) => goodProof_any hv lv hs ls W (hh.to hW) (hl.to hW) fh fl)
  have hdef : askT m k t = (callsB m k && touchB t.data.toList) := rfl
  rw [← hdef] at Hg
  obtain ⟨A, c, hv'⟩ := hM.form
  subst hv'
  obtain ⟨A1, c1, rfl, _⟩ := hh
  obtain ⟨A2, c2, rfl, _⟩ := hl
  obtain ⟨ask, hask⟩ : ∃ b, b = askT m k t := ⟨_, rfl⟩
  obtain ⟨sh, hsh⟩ : ∃ b, b = shapeB hs ls := ⟨_, rfl⟩
  obtain ⟨Z, hZ⟩ : ∃ Z, Z = lieZ m k t hs ls := ⟨_, rfl⟩
  rw [← hask] at Hl1 Hg ⊢
  rw [← hsh] at Hl1 Hs ⊢
  simp only [← hZ] at Hl1 ⊢
  unfold Mt.v Cl.v at *
  clear hM hsm hk htz fh fl hdef hask hsh hZ
  go_enter Tryz.func13, Tryz.ntmps13
  go_wp2_with fail
  refine box3 (C := fun W => Calls _ _ _ W _) ?_
  intro wb hw k1 k2 k3 hB0
  have R1 := boxRule k1
  have R2 := boxRule k2
  have R3 := boxRule k3
  clear k1 k2 k3
  refine (Hg.out _ hw).mono ?_; rintro e w1 ⟨rfl, hb1⟩
  have hB1 := bw_to hw hb1
  cases ask
  · clear R1 R2 R3
    go_wp2_with fail
    go_ret2
    exact ⟨rfl, hB1⟩
  have p0 := R3 w1 0 hb1
  have p1 := R3 w1 1 hb1
  cases sh
  · go_wp2_with (go_at_call 36; refine (Hs.out _ hB1).mono ?_; rintro e w2 ⟨rfl, hb2⟩; (have hB2 := bw_to hB1 hb2))
    go_ret2
    exact ⟨rfl, hB2⟩
  go_upto_region 3 with (go_at_call 36; refine (Hs.out _ hB1).mono ?_; rintro e w2 ⟨rfl, hb2⟩; (have hB2 := bw_to hB1 hb2))
  clear p0 p1
  have hbb2 := bw_to hb1 hb2
  have q0 := R1 w2 0 hbb2
  have q1 := R1 w2 1 hbb2
  have q2 := R1 w2 2 hbb2
  have q3 := R2 w2 0 hbb2
  have q4 := R2 w2 1 hbb2
  have q5 := R3 w2 0 hbb2
  have q6 := R3 w2 1 hbb2
  go_wp2_with fail
  refine (Hl1.out (by first | rfl | trivial) (by first | rfl | trivial) _ hB2).mono ?_; rintro e w3 ⟨rfl, hb3⟩
  have hB3 := bw_to hB2 hb3
  clear R1 R2 R3 q0 q1 q2 q3 q4 q5 q6
  by_cases hz : Z < 0
  · have g1 : decide (Z < 0) = true := decide_eq_true hz
    have g2 := Lib.hid g1
    clear hz
    go_wp2_with fail
    go_ret2
    exact ⟨(by first | rfl | (rw [g2.out] <;> rfl) | (unfold lieAns; rw [g2.out] <;> rfl)), hB3⟩
  · have g1 : decide (Z < 0) = false := decide_eq_false hz
    have g2 := Lib.hid g1
    clear hz
    go_wp2_with fail
    go_ret2
    exact ⟨(by first | rfl | (rw [g2.out] <;> rfl) | (unfold lieAns; rw [g2.out] <;> rfl)), hB3⟩
set_option maxRecDepth 20000 in
set_option maxHeartbeats 4000000 in
theorem specCheckProof_any (m : Mt) (v : Value) (k : Cl) (t : ByteArray) (hv lv : Value) (hs : List ByteArray) (ls : List Ln) (w : World) (hM : MethAt w m v) (hsm : MtSmall m) (hk : ClSmall k) (htz : t.size ≤ maxLen) (hh : Strs w hv hs) (hl : Lns w lv ls) (fh : FitS hs) (fl : FitL ls) : Calls Tryz.prog 15 #[m.v v, k.v, .string t, .agg #[hv, lv]] w fun e w' => e = .returned (.tuple #[.bool (askT m k t && shapeB hs ls && decide (lieZ m k t hs ls < 0)), .bool (askT m k t && shapeB hs ls)]) ∧ Below w.heap.size w w' := by
  have Hl1 := Lib.hid (fun (ha : askT m k t = true) (hsh : shapeB hs ls = true) (hho : headsOk m k t hs = true) W (hW : Below w.heap.size w W) => (by
    unfold askT at ha
    rw [Bool.and_eq_true] at ha
    obtain ⟨n, hg⟩ := cgood_of ha.1
    have hhs : hs = headsT m k t := by unfold headsOk at hho; rw [Bool.and_eq_true, decide_eq_true_eq] at hho; exact hho.1
    exact l20Lie_any m v k t hv lv hs ls n W hg ha.2 (hM.to hW) (hh.to hW) (hl.to hW) hsh hhs))
  have Hl2 := Lib.hid (fun (ha : askT m k t = true) W (hW : Below w.heap.size w W) => (by
    unfold askT at ha
    rw [Bool.and_eq_true] at ha
    obtain ⟨n, hg⟩ := cgood_of ha.1
    exact l20Good_any m v k t hv lv hs ls n W hg ha.1 hsm hk ha.2 (hM.to hW) (hh.to hW) (hl.to hW)))
  have Hbd : Hid (askT m k t = true → t.size ≤ 60 ∧ m.l.length ≤ 40) := Lib.hid (fun ha => by
    unfold askT at ha
    rw [Bool.and_eq_true] at ha
    obtain ⟨n, hg⟩ := cgood_of ha.1
    exact ⟨(touch_size ha.2).2, hg.m.len.2⟩)
  have Hl8 : Hid (shapeB hs ls = true → ls.length ≤ 800) := Lib.hid (fun h => (shape_pos h).2.1)
  have Z0 := Lib.hid (lieZ_heads (m := m) (k := k) (t := t) (hs := hs) (ls := ls))
  have Z1 := Lib.hid (lieZ_count (m := m) (k := k) (t := t) (hs := hs) (ls := ls))
  have Z2 := Lib.hid (lieZ_lines (m := m) (k := k) (t := t) (hs := hs) (ls := ls))
  have Hg := Lib.hid (fun W (hW : Below w.heap.size w W) => l20Asked_any m v k t W (hM.to hW) hsm hk htz)
  have Hs := Lib.hid (fun W (hW : Below w.heap.size w W) => l20Shape_any hv lv hs ls W (hh.to hW) (hl.to hW) fh fl)
  have Hnb := Lib.hid (lieN_bd (rows := rowsT m k t) (N := m.l.length) (T' := t.size) (ls := ls))
  obtain ⟨A, c, hv'⟩ := hM.form
  subst hv'
  obtain ⟨A1, c1, rfl, _⟩ := hh
  obtain ⟨A2, c2, rfl, _⟩ := hl
  obtain ⟨ask, hask⟩ : ∃ b, b = askT m k t := ⟨_, rfl⟩
  obtain ⟨sh, hsh⟩ : ∃ b, b = shapeB hs ls := ⟨_, rfl⟩
  obtain ⟨Z, hZ⟩ : ∃ Z, Z = lieZ m k t hs ls := ⟨_, rfl⟩
  obtain ⟨ho, hho⟩ : ∃ b, b = headsOk m k t hs := ⟨_, rfl⟩
  obtain ⟨NZ, hNZ⟩ : ∃ Z, Z = lieN (rowsT m k t) m.l.length t.size ls := ⟨_, rfl⟩
  rw [← hask] at Hl1 Hl2 Hg Hbd ⊢
  rw [← hsh] at Hl1 Hs Hl8 ⊢
  rw [← hho] at Hl1 Z0 Z1 Z2
  rw [← hNZ] at Z2 Hnb
  simp only [← hho] at Hl2
  simp only [← hNZ] at Hl1
  rw [← hZ] at Z0 Z1 Z2 ⊢
  unfold Mt.v Cl.v at *
  clear hM hsm hk htz fh fl hask hsh hZ hho hNZ
  go_enter Tryz.func15, Tryz.ntmps15
  go_wp2_with fail
  refine box3 (C := fun W => Calls _ _ _ W _) ?_
  intro wb hw k1 k2 k3 hB0
  have R1 := boxRule k1
  have R2 := boxRule k2
  have R3 := boxRule k3
  clear k1 k2 k3
  refine (Hg.out _ hw).mono ?_; rintro e w1 ⟨rfl, hb1⟩
  have hB1 := bw_to hw hb1
  cases ask
  · clear R1 R2 R3
    go_wp2_with fail
    go_ret2
    exact ⟨rfl, hB1⟩
  have p0 := R3 w1 0 hb1
  have p1 := R3 w1 1 hb1
  cases sh
  · go_wp2_with (go_at_call 39; refine (Hs.out _ hB1).mono ?_; rintro e w2 ⟨rfl, hb2⟩; (have hB2 := bw_to hB1 hb2))
    go_ret2
    exact ⟨rfl, hB2⟩
  go_upto_region 3 with (go_at_call 39; refine (Hs.out _ hB1).mono ?_; rintro e w2 ⟨rfl, hb2⟩; (have hB2 := bw_to hB1 hb2))
  clear p0 p1
  have hbb2 := bw_to hb1 hb2
  have q0 := R1 w2 0 hbb2
  have q1 := R1 w2 1 hbb2
  have q2 := R1 w2 2 hbb2
  have q3 := R2 w2 0 hbb2
  have q4 := R2 w2 1 hbb2
  have q5 := R3 w2 0 hbb2
  have q6 := R3 w2 1 hbb2
  have hbd := Hbd.out (by first | rfl | trivial)
  have hl8 := Hl8.out (by first | rfl | trivial)
  have hnb := Hnb.out
  obtain ⟨M, hMM⟩ : ∃ M, M = t.size * m.l.length := ⟨_, rfl⟩
  have hmul : t.size * m.l.length ≤ 60 * 40 := Nat.mul_le_mul hbd.1 hbd.2
  have hmz : IntKind.i64.wrap ((t.size : Int) * (m.l.length : Int)) = (M : Int) := by rw [show ((t.size : Int) * (m.l.length : Int)) = (M : Int) by rw [hMM]; simp]; exact IntWalk.i64_in _ (by omega)
  rw [← hMM] at Z1 Z2 hmul
  clear hMM
  go_wp2_with fail
  refine (Hl2.out (by first | rfl | trivial) _ hB2).mono ?_; rintro e w3 ⟨rfl, hb3⟩
  have hB3 := bw_to hB2 hb3
  have hbb3 := bw_to hbb2 hb3
  have q0 := R1 w3 0 hbb3
  have q1 := R1 w3 1 hbb3
  have q2 := R1 w3 2 hbb3
  have q5 := R3 w3 0 hbb3
  have q6 := R3 w3 1 hbb3
  cases ho
  · have hF := Lib.hid (show decide (Z < 0) = false by rw [Z0.out rfl]; rfl)
    clear R1 R2 R3 q3 q4
    go_wp2_with fail
    go_ret2
    exact ⟨(by first | rfl | (rw [hF.out] <;> rfl)), hB3⟩
  by_cases hc : ls.length = M
  rotate_left
  · have gc : ((ls.length : Int) == (M : Int)) = false := beq_eq_false_iff_ne.2 (by omega)
    have hF := Lib.hid (show decide (Z < 0) = false by rw [Z1.out rfl hc]; rfl)
    clear R1 R2 R3 q3 q4
    go_wp2_with fail
    go_ret2
    exact ⟨(by first | rfl | (rw [hF.out] <;> rfl)), hB3⟩
  have gc : ((ls.length : Int) == (M : Int)) = true := by rw [hc]; simp
  have hzz := Z2.out rfl hc
  obtain ⟨bz, hbz⟩ : ∃ b, b = decide (NZ < 0) := ⟨_, rfl⟩
  have g1 : decide (NZ < 0) = bz := hbz.symm
  have hF := Lib.hid (show decide (Z < 0) = bz by
    rw [hzz, hbz]
    by_cases hn : NZ < 0
    · rw [if_pos hn, decide_eq_true hn]; rfl
    · rw [if_neg hn, decide_eq_false hn]; exact decide_eq_false (by omega))
  have hL := Lib.hid (Hl1.out (by first | rfl | trivial) (by first | rfl | trivial) (by first | rfl | trivial) _ hB3)
  clear hzz hbz hc R1 R2 R3 q3 q4
  go_wp2_with (go_at_call 41; refine hL.out.mono ?_; rintro e w4 ⟨rfl, hb4⟩; (have hB4 := bw_to hB3 hb4))
  go_ret2
  exact ⟨(by first | rfl | (rw [hF.out] <;> rfl)), hB4⟩
end Go.Proofs.YtajffjkmmenaoaaGreat
