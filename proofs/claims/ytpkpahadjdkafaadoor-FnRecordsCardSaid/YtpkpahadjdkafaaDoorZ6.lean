/- The law Records, walked. -/
import Derived.Test.YtpkpahadjdkafaaDoorZ5
import Derived.Laws.StructEq
namespace Go.Proofs.YtpkpahadjdkafaaDoor
open Go Go.RowKit
set_option linter.unusedVariables false
set_option linter.unusedSimpArgs false

set_option maxHeartbeats 1000000 in
theorem qNumber_any (V : Value) (w : World) (h : BytesAt w w.heap.size V) : Calls Tryd.prog 14 #[V] w fun e w' => ∃ k : Nat, e = .returned (.int .i64 k) ∧ k ≤ 1000002 ∧ w = w' := by
  obtain ⟨A, n, c, zs, rfl, rfl, hnc, hc, hr, hz⟩ := h
  unfold maxLen at hc
  have Hz := Lib.hid hz
  clear hz
  go_enter Tryd.func14, Tryd.ntmps14
  go_wp2_with fail
  go_loop [3, 8] (fun q i => ∃ k m : Nat, k ≤ zs.length ∧ i = .int .i64 k ∧ q = .int .i64 m ∧ m ≤ 1000002) (fun _ i => zs.length - (intOf i).toNat)
  case atStart => exact ⟨0, 0, by omega, rfl, rfl, by omega⟩
  case round =>
    obtain ⟨k, m, hk, rfl, rfl, hm⟩ := hrel
    by_cases hlt : k < zs.length
    · obtain ⟨ad, u, rfl, hb, hu, hcell⟩ := hr.at_ (k := k) (by omega)
      have hu' : u = .int .u8 zs[k] := by simpa [hlt] using hu.symm
      subst hu'
      have hzk := Hz.out _ (List.getElem_mem hlt)
      obtain ⟨z, ez⟩ : ∃ z, z = zs[k] := ⟨_, rfl⟩
      rw [← ez] at hcell hzk
      obtain ⟨hz0, hz1⟩ := hzk
      clear hu ez
      have hmod0 : 0 ≤ (31 * (m : Int) + z) % 1000003 := Int.emod_nonneg _ (by omega)
      have hmod1 : (31 * (m : Int) + z) % 1000003 < 1000003 := Int.emod_lt_of_pos _ (by omega)
      go_wp2_with fail
      refine ⟨⟨k + 1, ((31 * (m : Int) + z) % 1000003).toNat, by omega, by go_num, congrArg (Value.int .i64) (by omega), by omega⟩, by simp [intOf]; omega⟩
    · go_wp2_with fail
      go_ret
      exact ⟨m, rfl, hm, rfl⟩
theorem BytesAt.toZ {w w' : World} {V : Value} (h : BytesAt w w.heap.size V) (hb : Below w.heap.size w w') : BytesAt w' w'.heap.size V := (h.keep (fun p hp => hb.cell hp)).more hb.size
theorem line_two (r : Rc) : 2 ≤ (lineT r).size := by
  have e := congrArg List.length (line_list r)
  rw [bytes_len] at e
  simp at e
  omega
set_option maxRecDepth 100000 in
set_option maxHeartbeats 8000000 in
theorem lawRecords_any (V : Value) (U : Value) (w : World) (hV : BytesAt w w.heap.size V) (hU : BytesAt w w.heap.size U) (ht : Tab10 w) (hm : MaxOk w) : Calls Tryd.prog 4 #[V, U] w fun e w' => e = .returned (.bool true) ∧ Below w.heap.size w w' := by
  have HV := Lib.hid hV
  have HU := Lib.hid hU
  have HT := Lib.hid ht
  have HM := Lib.hid hm
  clear ht hm
  obtain ⟨A1, n1, c1, zs1, rfl, _, _, hm1, _⟩ := hV
  obtain ⟨A2, n2, c2, zs2, rfl, _, _, hm2, _⟩ := hU
  unfold maxLen at hm1 hm2
  go_enter Tryd.func4, Tryd.ntmps4
  go_wp2_with fail
  · go_ret
    exact ⟨rfl, Below.refl _ _⟩
  refine (drawRecordLine_any _ w HV.out).mono ?_; rintro e w1 ⟨r, rfl, hr1, hb1⟩
  have hbx := heap_new w1 (.cells #[.int .i64 r.day, .string r.meth, .string r.touch, .int .i64 r.rows, .string r.note] 23)
  have K5 := boxRule hbx
  have hA1 := bw_al hb1 (.cells #[.int .i64 r.day, .string r.meth, .string r.touch, .int .i64 r.rows, .string r.note] 23)
  obtain ⟨Wb, hWb⟩ : ∃ Wb, Wb = w1.alloc (.cells #[.int .i64 r.day, .string r.meth, .string r.touch, .int .i64 r.rows, .string r.note] 23) := ⟨_, rfl⟩
  have Him := Lib.hid (fun W (hW : Below w.heap.size w W) => implRecordLine_any r W hr1.fit (HT.out.to hW))
  have Hsp := Lib.hid (fun W => specRecordLine_any r W hr1.fit)
  have Hgd := Lib.hid (fun W => implGoodRecord_any r W hr1.fit)
  have Hread := Lib.hid (fun (s : ByteArray) W (hs : s.size ≤ 1048576) (hW : Below w.heap.size w W) => implReadRecord_any s W hs (HT.out.to hW) (HM.out.to hW))
  have Hreads := Lib.hid (fun (s : ByteArray) W (hs : s.size ≤ 1048576) => specReadRecord_any s W hs)
  unfold ReadPost at Hread Hreads
  unfold Rc.v at *
  have HK5 := Lib.hid K5
  have HA1 := Lib.hid hA1
  have c50 := fun i => K5 _ i (Below.refl _ _)
  have hlin : (linO r).size ≤ 150 := by
    unfold linO
    split
    · rename_i h; exact lineT_size h
    · decide
  obtain ⟨s, hs⟩ : ∃ s, s = linO r := ⟨_, rfl⟩
  obtain ⟨ok, hok⟩ : ∃ ok, ok = recB r := ⟨_, rfl⟩
  rw [← hs, ← hok] at Him Hsp
  rw [← hok] at Hgd
  rw [← hs] at hlin
  have HS := Lib.hid hs
  have HO := Lib.hid hok
  clear hbx K5 hs hok hr1 hb1
  go_wp2_with fail
  refine (Him.out _ hA1).mono ?_; rintro e w2 ⟨rfl, hb2⟩
  have c52 := fun i => HK5.out _ i hb2
  go_wp2_with fail
  refine (Hsp.out _).mono ?_; rintro e w3 ⟨rfl, hb3⟩
  have hb13 := bw_to hb2 hb3
  have hB3 := bw_to hA1 hb13
  clear c50 c52 hb2 hb3
  go_wp2_with fail
  refine (drawReadRecord_any _ w3 (HU.out.toZ hB3)).mono ?_; rintro e w4 ⟨t, rfl, hts, hb4⟩
  have hb14 := bw_to hb13 hb4
  have hB4 := bw_to hB3 hb4
  obtain ⟨y, hy⟩ : ∃ y, y = (readO t).getD rz := ⟨_, rfl⟩
  obtain ⟨b, hb⟩ : ∃ b, b = (readO t).isSome := ⟨_, rfl⟩
  have hr5 := Hread.out t w4 (by omega) hB4
  have hr6 := fun W => Hreads.out t W (by omega)
  rw [← hy, ← hb] at hr5 hr6
  have Hr6 := Lib.hid hr6
  clear hy hb hr6 hb13 hB3 hb4
  go_wp2_with fail
  refine hr5.mono ?_; rintro e w5 ⟨rfl, hb5⟩
  have hW5 := bw_al (Below.refl _ w5) (.cells #[.int .i64 y.day, .string y.meth, .string y.touch, .int .i64 y.rows, .string y.note] 23)
  have hb15 := bw_to (bw_to hb14 hb5) hW5
  have KX := boxRule (heap_new w5 (.cells #[.int .i64 y.day, .string y.meth, .string y.touch, .int .i64 y.rows, .string y.note] 23))
  have HKX := Lib.hid KX
  clear hr5 KX hb14 hB4 hb5 hW5
  go_wp2_with fail
  refine (Hr6.out _).mono ?_; rintro e w6 ⟨rfl, hb6⟩
  have hW6 := bw_al (Below.refl _ w6) (.cells #[.int .i64 y.day, .string y.meth, .string y.touch, .int .i64 y.rows, .string y.note] 23)
  have hb16 := bw_to (bw_to hb15 hb6) hW6
  have kx := fun i => HKX.out _ i (bw_to hb6 hW6)
  have k5 := fun i => HK5.out _ i hb16
  clear hb15 hb6 hW6
  go_wp2_with fail
  refine (Hgd.out _).mono ?_; rintro e w7 ⟨rfl, hb7⟩
  have hb17 := bw_to hb16 hb7
  have hB7 := bw_to HA1.out hb17
  clear kx k5 hb16 hb7
  cases ok
  · go_wp2_with fail
    go_ret
    exact ⟨rfl, hB7⟩
  have hrb : recB r = true := HO.out.symm
  have hsl : s = lineT r := HS.out.trans (linO_yes hrb)
  have hback : readO s = some r := by rw [hsl]; exact read_line hrb
  have hr8 := Hread.out s w7 (by omega) hB7
  rw [hback] at hr8
  have Hr8 := Lib.hid hr8
  have HSL := Lib.hid hsl
  clear hr8 hsl hback hrb
  go_wp2_with fail
  refine Hr8.out.mono ?_; rintro e w8 ⟨rfl, hb8⟩
  have hW8 := bw_al (Below.refl _ w8) (.cells #[.int .i64 r.day, .string r.meth, .string r.touch, .int .i64 r.rows, .string r.note] 23)
  have hb18 := bw_to (bw_to hb17 hb8) hW8
  have KZ := boxRule (heap_new w8 (.cells #[.int .i64 r.day, .string r.meth, .string r.touch, .int .i64 r.rows, .string r.note] 23))
  have HKZ := Lib.hid KZ
  obtain ⟨w9, C, hcv, hrow, hb9⟩ := bytes_of s s.size rfl (w8.alloc (.cells #[.int .i64 r.day, .string r.meth, .string r.touch, .int .i64 r.rows, .string r.note] 23))
  have hb19 := bw_to hb18 hb9
  have hB9 := bw_to HA1.out hb19
  have Hrow := Lib.hid hrow
  have hz18 : w1.heap.size + 1 ≤ w8.heap.size + 1 := by simpa using hb18.size
  have hza : w.heap.size ≤ w1.heap.size + 1 := by simpa using HA1.out.size
  clear KZ hb17 hB7 hb8 hW8 hb18 hrow
  have hs2 : 2 ≤ s.size := by rw [HSL.out]; exact line_two r
  go_wp2_with fail
  refine (qNumber_any _ w9 (HU.out.toZ hB9)).mono ?_; rintro e _ ⟨q, rfl, hq, rfl⟩
  obtain ⟨k, hk⟩ : ∃ k, k = q % (s.size - 1) := ⟨_, rfl⟩
  have hkl : k < s.size - 1 := by rw [hk]; exact Nat.mod_lt _ (by omega)
  have hw1 : IntKind.i64.wrap ((s.size : Int) - 1) = (s.size : Int) - 1 := IntWalk.i64_in _ (by omega)
  have hm1 : (q : Int) % ((s.size : Int) - 1) = (k : Int) := by rw [hk]; rw [Int.natCast_emod]; congr 1; omega
  have hm2 : Int.tmod (q : Int) ((s.size : Int) - 1) = (k : Int) := by rw [Int.tmod_eq_emod_of_nonneg (by omega)]; exact hm1
  have hnz : ¬ ((s.size : Int) - 1 = 0) := by omega
  have hk0 : (0 : Int) ≤ (k : Int) := by omega
  have hk1 : (k : Int) < (s.size : Int) := by omega
  have Hg8 : Hid ((w8.alloc (.cells #[.int .i64 r.day, .string r.meth, .string r.touch, .int .i64 r.rows, .string r.note] 23)).heap.size = w8.heap.size + 1) := Lib.hid (by simp)
  have HR9 : Hid (BRow w9 (w8.heap.size + 1) s.size s.data.toList) := Lib.hid (by rw [← Hg8.out]; exact Hrow.out)
  have hkb : k < s.data.toList.length := by rw [bytes_len]; omega
  have hcl := HR9.out.cell hkb
  unfold u8v at hcl
  obtain ⟨c, hc⟩ : ∃ c, c = s.data.toList[k] := ⟨_, rfl⟩
  rw [← hc] at hcl
  have HC := Lib.hid hc
  have k5 := fun i => HK5.out w9 i hb19
  have kz := fun i => HKZ.out w9 i hb9
  clear hk hc hcv
  by_cases h32 : (c.toNat : Int) = 32
  · go_wp2_with fail
    go_ret
    exact ⟨rfl, hB9⟩
  have hcb : (c.toNat : Int) ≤ 255 := by have := c.toNat_lt; omega
  have hF : ∀ p : Nat, p ≤ 1000002 → ∃ e v : Nat, (p : Int) % 90 = (e : Int) ∧ Int.tmod (p : Int) 90 = (e : Int) ∧ IntKind.i64.wrap ((c.toNat : Int) + 1 + (e : Int)) = (c.toNat : Int) + 1 + (e : Int) ∧ ((c.toNat : Int) + 1 + (e : Int)) % 128 = (v : Int) ∧ Int.tmod ((c.toNat : Int) + 1 + (e : Int)) 128 = (v : Int) ∧ IntKind.u8.wrap (v : Int) = (v : Int) ∧ v < 128 := by
    intro p hp
    have t1 : (p : Int) % 90 = ((p % 90 : Nat) : Int) := by omega
    have t2 : ((c.toNat : Int) + 1 + ((p % 90 : Nat) : Int)) % 128 = (((c.toNat + 1 + p % 90) % 128 : Nat) : Int) := by omega
    refine ⟨p % 90, (c.toNat + 1 + p % 90) % 128, t1, ?_, IntWalk.i64_in _ (by omega), t2, ?_, ?_, Nat.mod_lt _ (by omega)⟩
    · rw [Int.tmod_eq_emod_of_nonneg (by omega)]; exact t1
    · rw [Int.tmod_eq_emod_of_nonneg (by omega)]; exact t2
    · have : (c.toNat + 1 + p % 90) % 128 < 128 := Nat.mod_lt _ (by omega)
      obtain ⟨z, hz⟩ : ∃ z, z = (c.toNat + 1 + p % 90) % 128 := ⟨_, rfl⟩
      rw [← hz] at this ⊢
      simp only [IntKind.wrap]
      first | omega | (unfold IntKind.wrap; simp; omega) | (simp [IntKind.bits]; omega)
  have HF := Lib.hid hF
  have f1 : IntKind.i64.wrap ((c.toNat : Int) + 1) = (c.toNat : Int) + 1 := IntWalk.i64_in _ (by omega)
  have f0 : IntKind.i64.wrap (c.toNat : Int) = (c.toNat : Int) := IntWalk.i64_in _ (by omega)
  have hfr : w9.frozen? ⟨w8.heap.size + 1, k, none⟩ = false := HR9.out.free (by omega)
  have hge : w.heap.size ≤ w8.heap.size + 1 := by omega
  have HB9 := Lib.hid hB9
  have hst := hB9
  clear hF hB9
  go_wp2_with fail
  go_region_with (go_at_call 14; refine (qNumber_any _ _ (HV.out.toZ (by first | exact hst | exact Below.drew hst))).mono ?_; rintro e _ ⟨p, rfl, hp, rfl⟩; (obtain ⟨e, v, g1, g2, g3, g4, g5, g6, g7⟩ := HF.out p hp))
  all_goals
    have hvd : (UInt8.ofNat v).toNat = v := by rw [UInt8.toNat_ofNat']; omega
    obtain ⟨d, hd⟩ : ∃ d, d = UInt8.ofNat v := ⟨_, rfl⟩
    rw [← hd] at hvd
    have hrow10 : BRow (w9.setCell ⟨w8.heap.size + 1, k, none⟩ (.int .u8 (v : Int))).drew (w8.heap.size + 1) s.size (s.data.toList.set k d) := by
      have h := (HR9.out.set (j := k) (by omega) d).to (Below.drew (Below.refl _ _))
      unfold u8v at h
      rw [hvd] at h
      exact h
    have hB10 : Below w.heap.size w (w9.setCell ⟨w8.heap.size + 1, k, none⟩ (.int .u8 (v : Int))).drew := Below.drew (Below.setCell (p := ⟨w8.heap.size + 1, k, none⟩) hst hge _)
    have k5' := fun i => HK5.out (w9.setCell ⟨w8.heap.size + 1, k, none⟩ (.int .u8 (v : Int))).drew i (Below.drew (Below.setCell (p := ⟨w8.heap.size + 1, k, none⟩) hb19 (by simpa using hz18) _))
    have kz' := fun i => HKZ.out (w9.setCell ⟨w8.heap.size + 1, k, none⟩ (.int .u8 (v : Int))).drew i (Below.drew (Below.setCell (p := ⟨w8.heap.size + 1, k, none⟩) hb9 (by simp) _))
    have hbK := Below.drew (Below.setCell (p := ⟨w8.heap.size + 1, k, none⟩) hb19 (by simpa using hz18) (.int .u8 (v : Int)))
    have hbZ := Below.drew (Below.setCell (p := ⟨w8.heap.size + 1, k, none⟩) hb9 (by simp) (.int .u8 (v : Int)))
    clear k5 kz hcl hfr hst hb19 hb9 g1 g2 g3 g4 g5 g6 hw1 hm1 hm2 hnz f0 f1 hd
    generalize (w9.setCell ⟨w8.heap.size + 1, k, none⟩ (.int .u8 (v : Int))).drew = W10 at hrow10 hB10 k5' kz' hbK hbZ ⊢
    have hcv := hrow10.conv (cap := C) Tryd.underlying28 Tryd.underlying5 Tryd.underlying9
    have hkb' : k < (s.data.toList.set k d).length := by rw [List.length_set]; exact hkb
    have hcl := hrow10.cell hkb'
    rw [List.getElem_set_self] at hcl
    unfold u8v at hcl
    rw [hvd] at hcl
    obtain ⟨s', hs'⟩ : ∃ s' : ByteArray, s' = ⟨(s.data.toList.set k d).toArray⟩ := ⟨_, rfl⟩
    rw [← hs'] at hcv
    have hsl' : s'.data.toList = s.data.toList.set k d := by rw [hs']
    have hsz' : s'.size ≤ 1048576 := by
      have : s'.data.toList.length = s.data.toList.length := by rw [hsl', List.length_set]
      rw [bytes_len, bytes_len] at this
      omega
    have hr11 := Hread.out s' W10 hsz' hB10
    have hbad : (v : Int) ≠ 32 → (s'.toList == s.toList) = false → readO s' = none := by
      intro hv hne
      refine read_changed (r := r) (k := k) (fun i hi => ?_) ?_ ?_ ?_
      · rw [hsl', ← HSL.out, List.getElem?_set_ne (fun e => hi e.symm)]
      · rw [← HSL.out, List.getElem?_eq_getElem hkb, ← HC.out]
        intro e
        injection e with e
        exact h32 (by rw [e]; rfl)
      · rw [hsl', List.getElem?_set_self hkb]
        intro e
        injection e with e
        refine hv ?_
        rw [← hvd, e]; rfl
      · intro e
        rw [e, ← HSL.out] at hne
        simp at hne
    have Hbad := Lib.hid hbad
    have Hr11 := Lib.hid hr11
    clear hbad hr11 hs' hsl' hrow10 hkb'
    cases heq : (s'.toList == s.toList)
    · by_cases hv32 : (v : Int) = 32
      · go_wp2_with fail
        go_ret
        exact ⟨rfl, hB10⟩
      · have hn := Hbad.out hv32 heq
        have hr12 := Hr11.out
        rw [hn] at hr12
        obtain ⟨z, hz⟩ : ∃ z, z = (none : Option Rc).getD rz := ⟨_, rfl⟩
        rw [← hz] at hr12
        have Hr12 := Lib.hid hr12
        clear hn hr12 hz
        go_wp2_with fail
        refine Hr12.out.mono ?_; rintro e w11 ⟨rfl, hb11⟩
        have k5'' := fun i => HK5.out (w11.alloc (.cells #[.int .i64 z.day, .string z.meth, .string z.touch, .int .i64 z.rows, .string z.note] 23)) i (bw_al (bw_to hbK hb11) _)
        have kz'' := fun i => HKZ.out (w11.alloc (.cells #[.int .i64 z.day, .string z.meth, .string z.touch, .int .i64 z.rows, .string z.note] 23)) i (bw_al (bw_to hbZ hb11) _)
        clear k5' kz'
        go_wp2_with fail
        go_ret
        exact ⟨rfl, bw_al (bw_to hB10 hb11) _⟩
    · go_wp2_with fail
      go_ret
      exact ⟨rfl, hB10⟩
end Go.Proofs.YtpkpahadjdkafaaDoor
