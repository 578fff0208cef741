/- Contracts: the rows of a touch, both sides. -/
import Derived.Test.YtofpjbdelmmclaaGreatDoorPk16
namespace Go.Proofs.YtofpjbdelmmclaaGreatDoor
open Go Go.RowKit
set_option linter.unusedVariables false
set_option linter.unusedSimpArgs false

def headsT (m : Mt) (k : Cl) (t : ByteArray) : List ByteArray := headsB (headB m.stage.toNat m.l k.bob k.single) (roundsB m.stage.toNat) t.data.toList
def rowsT (m : Mt) (k : Cl) (t : ByteArray) : List ByteArray := rowsB m.l ((headsT m k t).take t.size)
def askT (m : Mt) (k : Cl) (t : ByteArray) : Bool := callsB m k && touchB t.data.toList
def okT (m : Mt) (k : Cl) (t : ByteArray) : Bool := askT m k t && decide (t.size * m.l.length ≤ 800)
def rowsO (m : Mt) (k : Cl) (t : ByteArray) : List ByteArray := if okT m k t then rowsT m k t else []
theorem headsT_n {m : Mt} {k : Cl} {t : ByteArray} {n : Nat} (h : m.stage = (n : Int)) : headsT m k t = headsB (headB n m.l k.bob k.single) (roundsB n) t.data.toList := by
  unfold headsT; rw [h]; rfl
theorem headsT_len (m : Mt) (k : Cl) (t : ByteArray) : (headsT m k t).length = t.size + 1 := by unfold headsT; rw [heads_len, bytes_len]
theorem headsT_in {m : Mt} {k : Cl} {n : Nat} (h : MGood m n) (t : ByteArray) : ∀ x ∈ headsT m k t, RowIn n x := by
  rw [headsT_n h.st]
  exact heads_in (fun c => head_in h.hi _ _ _ _) _ (rounds_in h.hi)
theorem rowsT_len (m : Mt) (k : Cl) (t : ByteArray) : (rowsT m k t).length = t.size * m.l.length := by
  unfold rowsT; rw [rows_len, List.length_take, headsT_len]; congr 1; omega
theorem touch_size {t : ByteArray} (h : touchB t.data.toList = true) : 1 ≤ t.size ∧ t.size ≤ 60 := by
  unfold touchB at h; rw [Bool.and_eq_true, decide_eq_true_eq, bytes_len] at h; exact h.2
set_option maxRecDepth 10000 in
set_option maxHeartbeats 2000000 in
theorem leadsFrom_any (m : Mt) (v V : Value) (hs : List ByteArray) (n : Nat) (w : World) (hg : MGood m n) (hv : Strs w v m.l) (hV : Strs w V hs) (hin : ∀ x ∈ hs, RowIn n x) (hl : hs.length ≤ 100000) : Calls Tryz.prog 131 #[m.v v, V] w fun e w' =>
    ∃ A q, e = .returned (.slice A (rowsB m.l hs).length q) ∧ w'.ownsRow w.heap.size 9 1 (.slice A (rowsB m.l hs).length q) (rowsB m.l hs).length ((rowsB m.l hs).map Value.string) ∧ Below w.heap.size w w' := by
  have Hlr := Lib.hid (fun W (hW : Below w.heap.size w W) r hr => leadRows_any m v r n W hg.hi hr (hv.to hW) (by have := hg.len; omega) hg.ok)
  have hml := hg.len
  have Hin := Lib.hid hin
  obtain ⟨A0, q0, hv', _⟩ := hv
  subst hv'
  obtain ⟨A, c, rfl, h1, h2, hrd⟩ := hV
  unfold maxLen at h2
  unfold Mt.v at *
  clear hg hin
  go_enter Tryz.func131, Tryz.ntmps131
  go_wp2_with fail
  refine box2 (C := fun W => Code.wp _ _ _ _ W) ?_
  intro wb hw k1 k2 hB0
  have R1 := boxRule k1
  have hown0 : wb.ownsRow w.heap.size 9 1 (.slice (some ⟨w.heap.size + 1, 0, none⟩) 0 0) 0 [] := own_of_heap (cs := #[]) k2 (Nat.le_succ _) (by unfold maxLen; omega) rfl
  have hlt0 : w.heap.size < wb.heap.size := blk_lt k1
  have hRg : ∀ (W : World) (i : Nat), Below (w.heap.size + 1) wb W → W.cell? ⟨w.heap.size, i, none⟩ = #[Value.string m.name, .int .i64 m.stage, .slice A0 m.l.length q0][i]? := fun W i hb => boxRuleB k1 (Nat.lt_succ_self _) W i hb
  have hown0 := own_of_heap (base := w.heap.size + 1) (n := 0) (size := 1) (cs := #[]) k2 (Nat.le_refl _) (by unfold maxLen; omega) rfl
  have hsz1 : w.heap.size + 1 ≤ wb.heap.size := hlt0
  clear k1 k2 R1
  go_loopw [5, 11] (fun o i wr => ∃ (j : Nat) (A' : Option Addr) (q' : Nat), j ≤ hs.length ∧ i = .int .i64 j ∧ o = .slice A' (rowsB m.l (hs.take j)).length q' ∧ wr.ownsRow (w.heap.size + 1) 9 1 (.slice A' (rowsB m.l (hs.take j)).length q') (rowsB m.l (hs.take j)).length ((rowsB m.l (hs.take j)).map Value.string) ∧ Below (w.heap.size + 1) wb wr) (fun _ i _ => hs.length - (intOf i).toNat)
  case atStart => exact ⟨0, _, _, by omega, rfl, rfl, hown0, Below.refl _ _⟩
  case round =>
    obtain ⟨j, A', q', hj, rfl, rfl, hown, hB⟩ := hrel
    by_cases hlt : j < hs.length
    · obtain ⟨ad, rfl, hC⟩ := strs_el hrd hlt
      have hBw : Below w.heap.size w wr := hw.trans (hB.mono (Nat.le_succ _))
      have hC0 := hC wr hBw
      have hR0 := fun i => hRg wr i hB
      have hlen := rows_len m.l (hs.take j)
      have hjl : (hs.take j).length = j := by simp; omega
      rw [hjl] at hlen
      have hmul : j * m.l.length ≤ 100000 * 40 := Nat.mul_le_mul (by omega) hml.2
      have Hs : Hid (rowsB m.l (hs.take (j + 1)) = rowsB m.l (hs.take j) ++ leadB hs[j] m.l) := Lib.hid (rows_take hlt)
      have Hll := Lib.hid (lead_len hs[j] m.l)
      have Hl := Lib.hid (Hlr.out wr hBw hs[j] (Hin.out _ (List.getElem_mem hlt)))
      obtain ⟨h, hh⟩ : ∃ h, h = hs[j] := ⟨_, rfl⟩
      rw [← hh] at hC0 Hs Hl Hll
      obtain ⟨L, hL⟩ : ∃ L, L = rowsB m.l (hs.take j) := ⟨_, rfl⟩
      rw [← hL] at hlen hown Hs ⊢
      have Hlen := Lib.hid hlen
      have hLl : L.length ≤ 4000000 := by omega
      clear hC hh hL hjl hlen hmul
      go_wp2_with fail
      refine Hl.out.mono ?_; rintro e w2 ⟨A1, q1, rfl, hown1, hb2⟩
      have hown2 := own_to hown hb2
      have hB2 := hB.trans (hb2.mono (by have := hB.size; omega))
      have hs1 := sl_of_own hown1
      have hn1 := nilok_own hown1
      go_wp2_with (at_builtin; go_must (refine wpList_app_sl _ rfl _ _ _ rfl (w.heap.size + 1) 9 _ 1 16 Tryz.underlying24 info_str rfl (by omega) hown2 rfl hs1 hn1 rfl (strs_one _) (by omega) (by omega) (by have := hB2.size; omega) ?_); intro v2 w3 hown3 hb3 hg3 _)
      have e3 : (L ++ leadB h m.l).length = L.length + m.l.length := by rw [List.length_append, Hll.out]
      obtain ⟨A2, q2, e2, _⟩ := sl_of_own hown3
      subst e2
      rw [← List.map_append, ← e3, ← Hs.out] at hown3
      refine ⟨⟨j + 1, A2, q2, by omega, by go_num, by rw [Hs.out, e3], hown3, hB2.trans hb3⟩, by simp [intOf]; omega⟩
    · obtain rfl : j = hs.length := by omega
      rw [List.take_length] at hown
      go_wp2_with fail
      go_ret
      exact ⟨A', q', rfl, own_base hown (Nat.le_succ _), hw.trans (hB.mono (Nat.le_succ _))⟩
set_option maxRecDepth 10000 in
set_option maxHeartbeats 2000000 in
theorem touchRows_any (m : Mt) (v : Value) (k : Cl) (t : ByteArray) (w : World) (hok : askT m k t = true) (hv : Strs w v m.l) : Calls Tryz.prog 96 #[m.v v, k.v, .string t] w fun e w' =>
    ∃ A q, e = .returned (.tuple #[.slice A (rowsO m k t).length q, .bool (okT m k t)]) ∧ w'.ownsRow w.heap.size 9 1 (.slice A (rowsO m k t).length q) (rowsO m k t).length ((rowsO m k t).map Value.string) ∧ Below w.heap.size w w' := by
  have hok' := hok
  unfold askT at hok'
  rw [Bool.and_eq_true] at hok'
  obtain ⟨n, hg⟩ := cgood_of hok'.1
  have hts := touch_size hok'.2
  have Hh := Lib.hid (fun W hW => heads_any m v k t n W hg (hv.to hW) hok'.2)
  have Hlf := Lib.hid (fun W V (hW : Below w.heap.size w W) (hV : Strs W V ((headsT m k t).take t.size)) => leadsFrom_any m v V ((headsT m k t).take t.size) n W hg.m (hv.to hW) hV (fun x hx => headsT_in hg.m t x (List.mem_of_mem_take hx)) (by simp; omega))
  rw [← headsT_n hg.m.st] at Hh
  have HL := Lib.hid (rowsT_len m k t)
  have hml := hg.m.len
  have Hok := Lib.hid hok
  have Hhl := Lib.hid (headsT_len m k t)
  obtain ⟨A, c, hv', _⟩ := hv
  subst hv'
  unfold Mt.v Cl.v at *
  have hmul : t.size * m.l.length ≤ 60 * 40 := Nat.mul_le_mul hts.2 hml.2
  obtain ⟨N, hN⟩ : ∃ N, N = t.size * m.l.length := ⟨_, rfl⟩
  have HN := Lib.hid hN
  have hNN : IntKind.i64.wrap ((t.size : Int) * (m.l.length : Int)) = (N : Int) := by rw [show (t.size : Int) * (m.l.length : Int) = (N : Int) by rw [hN]; simp]; exact IntWalk.i64_in _ ⟨by omega, by omega⟩
  have hN2 : (t.size : Int) * (m.l.length : Int) = (N : Int) := by rw [hN]; simp
  have hNb : N ≤ 2400 := by omega
  clear hok hok' hg hN hmul
  by_cases hbig : N ≤ 800
  · have ho : okT m k t = true := by unfold okT; rw [Hok.out, decide_eq_true (by rw [← HN.out]; exact hbig)]; rfl
    have hr : rowsO m k t = rowsT m k t := by unfold rowsO; rw [if_pos ho]
    rw [ho, hr]
    have hd : decide ((800 : Int) < (N : Int)) = false := by simp; omega
    clear ho hr
    go_enter Tryz.func96, Tryz.ntmps96
    go_wp2_with fail
    refine box2 (C := fun W => Code.wp _ _ _ _ W) ?_
    intro wb hw k1 k2 hB0
    have R1 := boxRule k1
    have R2 := boxRule k2
    clear k1 k2
    have hdr : Below wb.heap.size wb wb.drew := Below.drew (Below.refl _ _)
    have Hcut : Hid (∀ W A1 q1, W.ownsRow wb.heap.size 9 1 (.slice A1 (t.size + 1) q1) (t.size + 1) ((headsT m k t).map Value.string) → Strs W (.slice A1 t.size q1) ((headsT m k t).take t.size)) := Lib.hid fun W A1 q1 h => by
      have h2 := own_upto h (Nat.le_succ t.size)
      rw [← List.map_take] at h2
      have hl : ((headsT m k t).take t.size).length = t.size := by rw [List.length_take, Hhl.out]; omega
      have h3 := sl_of_own h2
      unfold Strs
      rw [hl]; exact h3
    go_region_held3 (fun W => Below wb.heap.size wb W) (first | exact Below.drew (by assumption) | exact bw_to (by assumption) hb')
      (first | (go_at_call 132; refine (Hh.out _ (bw_to hw (by assumption))).mono ?_; rintro e w1 ⟨A1, q1, rfl, hown, hb'⟩; (have hz1 : wb.heap.size ≤ w1.heap.size := Nat.le_trans (Below.size (by assumption : Below wb.heap.size wb _)) hb'.size); (have hown := own_base (base' := wb.heap.size) hown (Below.size (by assumption))); (have hq1 : t.size + 1 ≤ q1 := (sl_cap hown)); (have hq2 : (t.size : Int) ≤ (q1 : Int) := by omega); (have hq3 : (0 : Int) ≤ (t.size : Int) := by omega)) | (go_at_call 131; refine (Hlf.out _ _ (bw_to hw (by assumption)) (Hcut.out _ _ _ hown)).mono ?_; rintro e w' ⟨A2, q2, rfl, hown2, hb'⟩))
    all_goals
      have hBB : Below wb.heap.size wb w' := by assumption
      have hz2 := Nat.le_trans hw.size hz1
      clear hown
      go_wp2_with fail
      go_ret2
      exact ⟨A2, q2, rfl, own_base hown2 hz2, bw_to hw hBB⟩
  · have ho : okT m k t = false := by unfold okT; rw [Hok.out, decide_eq_false (by rw [← HN.out]; exact hbig)]; rfl
    have hr : rowsO m k t = [] := by unfold rowsO; rw [ho]; rfl
    rw [ho, hr]
    have hd : decide ((800 : Int) < (N : Int)) = true := by simp; omega
    clear ho hr
    go_enter Tryz.func96, Tryz.ntmps96
    go_wp2_with fail
    go_ret2
    exact ⟨_, _, rfl, World.ownsRow_nil _ _ _ _, bw_al (bw_al (Below.refl _ _) _) _⟩
set_option maxHeartbeats 1000000 in
theorem implTouchRows_any (m : Mt) (v : Value) (k : Cl) (t : ByteArray) (w : World) (h : MethAt w m v) (hs : MtSmall m) (hk : ClSmall k) (ht : t.size ≤ maxLen) : Calls Tryz.prog 65 #[m.v v, k.v, .string t] w fun e w' =>
    ∃ A q, e = .returned (.tuple #[.slice A (rowsO m k t).length q, .bool (okT m k t)]) ∧ w'.ownsRow w.heap.size 9 1 (.slice A (rowsO m k t).length q) (rowsO m k t).length ((rowsO m k t).map Value.string) ∧ Below w.heap.size w w' := by
  have Hg := Lib.hid (fun W hW => goodFor_any m v k t W (h.to hW) hs hk ht)
  have Hr := Lib.hid (fun (ho : askT m k t = true) W hW => touchRows_any m v k t W ho (h.1.to hW))
  obtain ⟨A, c, hv⟩ := h.form
  subst hv
  have Hdef : Hid (askT m k t = (callsB m k && touchB t.data.toList)) := Lib.hid rfl
  obtain ⟨b, hb⟩ : ∃ b, b = askT m k t := ⟨_, rfl⟩
  rw [← Hdef.out, ← hb] at Hg
  have Hb := Lib.hid hb
  unfold Mt.v Cl.v at *
  clear h hb
  go_enter Tryz.func65, Tryz.ntmps65
  go_wp2_with fail
  refine box2 (C := fun W => Calls _ _ _ W _) ?_
  intro wb hw k1 k2 hB0
  have R1 := boxRule k1
  have R2 := boxRule k2
  clear k1 k2
  refine (Hg.out _ hw).mono ?_; rintro e w1 ⟨rfl, hb1⟩
  cases b
  · have Ho : Hid (okT m k t = false) := Lib.hid (by unfold okT; rw [← Hb.out]; rfl)
    have Hro : Hid (rowsO m k t = []) := Lib.hid (by unfold rowsO; rw [Ho.out]; rfl)
    go_wp2_with fail
    go_ret2
    refine ⟨none, 0, ?_, ?_, bw_to hw hb1⟩
    · rw [Ho.out, Hro.out]; rfl
    · rw [Hro.out]; exact World.ownsRow_nil _ _ _ _
  · have hB1 := bw_to hw hb1
    go_wp2_with fail
    refine (Hr.out Hb.out.symm _ hB1).mono ?_; rintro e w2 ⟨A2, q2, rfl, hown, hb2⟩
    go_wp2_with fail
    go_ret2
    exact ⟨A2, q2, rfl, own_base hown hB1.size, bw_to hB1 hb2⟩
set_option maxRecDepth 10000 in
set_option maxHeartbeats 4000000 in
theorem l9Heads_any (m : Mt) (v : Value) (k : Cl) (t : ByteArray) (n : Nat) (w : World) (hg : CGood m k n) (hv : Strs w v m.l) (ht : touchB t.data.toList = true) : Calls Tryz.prog 135 #[m.v v, k.v, .string t] w fun e w' =>
    ∃ A q, e = .returned (.slice A (t.size + 1) q) ∧ w'.ownsRow w.heap.size 9 1 (.slice A (t.size + 1) q) (t.size + 1) ((headsB (headB n m.l k.bob k.single) (roundsB n) t.data.toList).map Value.string) ∧ Below w.heap.size w w' := by
  have hfin : ∀ c, RowIn n (headB n m.l k.bob k.single c) := fun c => head_in hg.m.hi _ _ _ _
  have hHH := fun W (hW : Below w.heap.size w W) c => l8Head_any m v k n c W hg (hv.to hW)
  obtain ⟨F, hF⟩ : ∃ F, F = headB n m.l k.bob k.single := ⟨_, rfl⟩
  rw [← hF] at hfin ⊢
  have Hfin := Lib.hid hfin
  have hHH2 : ∀ W, Below w.heap.size w W → ∀ c, Calls Tryz.prog 165 #[m.v v, k.v, .string (callT c)] W fun e w' => e = .returned (.string (F c)) ∧ Below W.heap.size W w' := by rw [hF]; exact hHH
  have hn := hg.m.hi
  have hst := hg.m.st
  obtain ⟨A, q, hv', _⟩ := hv
  subst hv'
  unfold Mt.v Cl.v at *
  rw [hst] at hHH2 ⊢
  have HH := Lib.hid hHH2
  have htl := (touch_size ht).2
  clear hg hfin hF hHH hHH2 hst ht
  go_enter Tryz.func135, Tryz.ntmps135
  go_wp2_with (go_at_call 109; refine (l1Rounds_any n _ hn).mono ?_; rintro e w' ⟨rfl, rfl⟩)
  refine box3 (C := fun W => Code.wp _ _ _ _ W) ?_
  intro wb hw k1 k2 k3 hB0
  have hown0 : wb.ownsRow (w.heap.size + 2) 9 1 (.slice (some ⟨w.heap.size + 2, 0, none⟩) 1 1) 1 [.string (roundsB n)] := own_of_heap k3 (Nat.le_refl _) (by unfold maxLen; omega) rfl
  have hsz : w.heap.size + 2 ≤ wb.heap.size := Nat.le_of_lt (blk_lt k3)
  have R1 := fun W i hb => boxRuleB (B := w.heap.size + 2) k1 (by omega) W i hb
  have R2 := fun W i hb => boxRuleB (B := w.heap.size + 2) k2 (by omega) W i hb
  have hrin := Lib.hid (rounds_in hn)
  clear k1 k2 k3
  go_loopw [7, 8, 9] (fun h o i wr => ∃ (j : Nat) (x : ByteArray) (A' : Option Addr) (q' : Nat), j ≤ t.size ∧ i = .int .i64 j ∧ h = .string x ∧ x = endB F (roundsB n) (t.data.toList.take j) ∧ o = .slice A' (j + 1) q' ∧ wr.ownsRow (w.heap.size + 2) 9 1 (.slice A' (j + 1) q') (j + 1) ((headsB F (roundsB n) (t.data.toList.take j)).map Value.string) ∧ Below (w.heap.size + 2) wb wr) (fun _ _ i _ => t.size - (intOf i).toNat)
  case atStart => exact ⟨0, _, _, 1, by omega, rfl, rfl, rfl, rfl, hown0, Below.refl _ _⟩
  case round =>
    obtain ⟨j, x, A', q', hj, rfl, rfl, hx, rfl, hown, hB⟩ := hrel
    obtain ⟨wo, rfl⟩ : ∃ wo : World, wo = wr := ⟨_, rfl⟩
    have hBw : Below w.heap.size w wo := hw.trans (hB.mono (by omega))
    by_cases hlt : j < t.size
    · have hlt' : j < t.data.toList.length := by rw [bytes_len]; exact hlt
      have hxin : RowIn n x := by rw [hx]; exact end_in Hfin.out _ hrin.out
      have Hx : Hid (timesB x (F t[j]) = endB F (roundsB n) (t.data.toList.take (j + 1))) := Lib.hid (by rw [end_take hlt', hx, bytes_get t j hlt])
      have Hs : Hid (headsB F (roundsB n) (t.data.toList.take (j + 1)) = headsB F (roundsB n) (t.data.toList.take j) ++ [timesB x (F t[j])]) := Lib.hid (by rw [heads_take hlt', Hx.out])
      have Htm := Lib.hid (fun W => l1Times_any x (F t[j]) W (by rw [hxin.1]; omega) (by rw [(Hfin.out t[j]).1]; omega) (row_hin hxin.1 (Hfin.out t[j])))
      have hex : t.extract j (j + 1) = callT t[j] := bytes_ext (by rw [← bytes_toList, ext_one hlt]; rfl)
      have Hc : Hid (∀ W, Below w.heap.size w W → Calls Tryz.prog 165 #[.agg #[.string m.name, .int .i64 (n : Int), .slice A m.l.length q], .agg #[.string k.bob, .string k.single], .string (t.extract j (j + 1))] W fun e w' => e = .returned (.string (F t[j])) ∧ Below W.heap.size W w') := Lib.hid (fun W hW => by rw [hex]; exact HH.out W hW t[j])
      obtain ⟨z, hz⟩ : ∃ z, z = F t[j] := ⟨_, rfl⟩
      rw [← hz] at Hx Hs Htm Hc
      have R1' := fun W i hb => R1 W i (hB.trans (hb : Below (w.heap.size + 2) wo W))
      have R2' := fun W i hb => R2 W i (hB.trans (hb : Below (w.heap.size + 2) wo W))
      have hdr : Below wo.heap.size wo wo.drew := Below.drew (Below.refl _ _)
      have hsz2 : w.heap.size + 2 ≤ wo.heap.size := by have := hB.size; omega
      have R3 := fun W i hb => R1' W i ((hb : Below wo.heap.size wo W).mono hsz2)
      have R4 := fun W i hb => R2' W i ((hb : Below wo.heap.size wo W).mono hsz2)
      have hj0 : (0 : Int) ≤ (j : Int) := by omega
      have hj1 : IntKind.i64.wrap ((j : Int) + 1) = (j : Int) + 1 := IntWalk.i64_in _ ⟨by omega, by omega⟩
      have hj2 : ((j : Int) + 1).toNat = j + 1 := by omega
      have hj3 : (j : Int) + 1 ≤ (t.size : Int) := by omega
      have hj4 : (j : Int) ≤ (j : Int) + 1 := by omega
      have hj5 : (0 : Int) ≤ (j : Int) + 1 := by omega
      clear hz hxin hx hex R1' R2'
      have R1s := Lib.hid R1
      have R2s := Lib.hid R2
      clear R1 R2
      go_wp2_with fail
      go_region_held3 (fun W => Below wo.heap.size wo W) (first | with_reducible assumption | exact Below.drew (by assumption) | exact bw_to (by assumption) hb')
        (first | (go_at_call 165; refine (Hc.out _ (bw_to hBw (by assumption))).mono ?_; rintro e w' ⟨rfl, hb'⟩) | (go_at_call 145; refine (Htm.out _).mono ?_; rintro e w' ⟨rfl, rfl⟩))
      all_goals
        have hBB : Below wo.heap.size wo w' := by assumption
        have hown2 := own_to hown hBB
        have hB2 := hB.trans (hBB.mono hsz2)
        obtain ⟨y, hy⟩ : ∃ y, y = timesB x z := ⟨_, rfl⟩
        rw [← hy] at Hx Hs ⊢
        clear hy R3 R4 hj1 hj2 hj3 hj4 hj5 hdr
        go_wp2_with (at_builtin; go_must (refine wpList_app _ rfl _ _ _ rfl (w.heap.size + 2) 9 _ 1 16 Tryz.underlying24 info_str rfl (by omega) hown2 [.string y] rfl rfl rfl (one_mem rfl) (by omega) (by omega) (by have := hB2.size; omega) ?_); intro v2 w3 hown3 hb3 hg3 _)
        obtain ⟨A2, q2, e2, _⟩ := sl_of_own hown3
        subst e2
        refine ⟨⟨j + 1, y, A2, q2, by omega, by go_num, rfl, Hx.out, rfl, ?_, hB2.trans hb3⟩, by simp [intOf]; omega⟩
        rw [← str_snoc Hs.out]
        exact hown3
    · obtain rfl : j = t.size := by omega
      rw [List.take_of_length_le (by rw [bytes_len]; exact Nat.le_refl _)] at hown
      clear hx
      go_wp2_with fail
      go_ret
      exact ⟨_, _, rfl, own_base hown (by omega), hBw⟩
set_option maxRecDepth 10000 in
set_option maxHeartbeats 4000000 in
theorem l9Rows_any (m : Mt) (v : Value) (k : Cl) (t : ByteArray) (w : World) (hok : askT m k t = true) (hv : Strs w v m.l) : Calls Tryz.prog 98 #[m.v v, k.v, .string t] w fun e w' =>
    ∃ A q, e = .returned (.slice A (rowsT m k t).length q) ∧ w'.ownsRow w.heap.size 9 1 (.slice A (rowsT m k t).length q) (rowsT m k t).length ((rowsT m k t).map Value.string) ∧ Below w.heap.size w w' := by
  have hok' := hok
  unfold askT at hok'
  rw [Bool.and_eq_true] at hok'
  obtain ⟨n, hg⟩ := cgood_of hok'.1
  have hts := touch_size hok'.2
  have Hh := Lib.hid (fun W hW => l9Heads_any m v k t n W hg (hv.to hW) hok'.2)
  rw [← headsT_n hg.m.st] at Hh
  have Hlf := Lib.hid (fun W (hW : Below w.heap.size w W) r hr => l4Lead_any r v m.l n W hg.m.hi hr (hv.to hW) (by have := hg.m.len; omega) hg.m.ok)
  have hml := hg.m.len
  have Hin := Lib.hid (fun x (hx : x ∈ (headsT m k t).take t.size) => headsT_in (k := k) hg.m t x (List.mem_of_mem_take hx))
  have Hhl := Lib.hid (headsT_len m k t)
  have Hdef : Hid (rowsT m k t = rowsB m.l ((headsT m k t).take t.size)) := Lib.hid rfl
  have hv0 := hv
  obtain ⟨A, c, hv', _⟩ := hv
  subst hv'
  unfold Mt.v Cl.v at *
  clear hok hok' hg
  go_enter Tryz.func98, Tryz.ntmps98
  go_wp2_with fail
  refine box2 (C := fun W => Calls _ _ _ W _) ?_
  intro wb hw k1 k2 hB0
  have R1 := boxRule k1
  have R2 := boxRule k2
  clear k1 k2
  refine (Hh.out wb hw).mono ?_; rintro e w1 ⟨A1, q1, rfl, hown1, hb1⟩
  have hq1 : t.size + 1 ≤ q1 := sl_cap hown1
  obtain ⟨hs, hhs⟩ : ∃ hs, hs = (headsT m k t).take t.size := ⟨_, rfl⟩
  have hsl : hs.length = t.size := by rw [hhs, List.length_take, Hhl.out]; omega
  have hcut := own_upto hown1 (Nat.le_succ t.size)
  rw [← List.map_take, ← hhs] at hcut
  have hS := strs_of_own (by rw [hsl]; exact hcut)
  obtain ⟨A', c', e', _, hcm, hrd⟩ := hS
  injection e' with ea _ ec
  subst ea ec
  unfold maxLen at hcm
  rw [hsl] at hrd
  rw [← hhs] at Hin Hdef
  have Hsl := Lib.hid hsl
  have hq2 : (t.size : Int) ≤ (q1 : Int) := by omega
  have Hcut := Lib.hid hcut
  have hB1w := bw_to hw hb1
  clear hown1 hcut hsl hhs
  go_wp2_with fail
  go_loopw [7, 20] (fun o i wr => ∃ (j : Nat) (A' : Option Addr) (q' : Nat), j ≤ t.size ∧ i = .int .i64 j ∧ o = .slice A' (rowsB m.l (hs.take j)).length q' ∧ wr.ownsRow w1.heap.size 9 1 (.slice A' (rowsB m.l (hs.take j)).length q') (rowsB m.l (hs.take j)).length ((rowsB m.l (hs.take j)).map Value.string) ∧ Below w1.heap.size w1 wr) (fun _ i _ => t.size - (intOf i).toNat)
  case atStart => exact ⟨0, none, 0, by omega, rfl, rfl, World.ownsRow_nil _ _ _ _, Below.refl _ _⟩
  case round =>
    obtain ⟨j, A', q', hj, rfl, rfl, hown, hB⟩ := hrel
    have hBwr := bw_to hb1 hB
    by_cases hlt : j < t.size
    · have hltL : j < hs.length := by rw [Hsl.out]; exact hlt
      obtain ⟨ad, rfl, hC⟩ := strs_el hrd hltL
      have hC0 := hC wr hB
      have hR0 := fun i => R1 wr i hBwr
      have hlen := rows_len m.l (hs.take j)
      have hjl : (hs.take j).length = j := by simp; omega
      rw [hjl] at hlen
      have hmul : j * m.l.length ≤ 100000 * 40 := Nat.mul_le_mul (by omega) hml.2
      have Hs : Hid (rowsB m.l (hs.take (j + 1)) = rowsB m.l (hs.take j) ++ leadB hs[j] m.l) := Lib.hid (rows_take hltL)
      have Hll := Lib.hid (lead_len hs[j] m.l)
      have Hl := Lib.hid (Hlf.out wr (bw_to hw hBwr) hs[j] (Hin.out _ (List.getElem_mem hltL)))
      obtain ⟨h, hh⟩ : ∃ h, h = hs[j] := ⟨_, rfl⟩
      rw [← hh] at hC0 Hs Hl Hll
      obtain ⟨L, hL⟩ : ∃ L, L = rowsB m.l (hs.take j) := ⟨_, rfl⟩
      rw [← hL] at hlen hown Hs ⊢
      have hLl : L.length ≤ 4000000 := by omega
      clear hC hh hL hjl hlen hmul hltL
      go_wp2_with fail
      refine Hl.out.mono ?_; rintro e w2 ⟨A1, q1, rfl, hown1, hb2⟩
      have hown2 := own_to hown hb2
      have hB2 := bw_to hB hb2
      have hs1 := sl_of_own hown1
      have hn1 := nilok_own hown1
      go_wp2_with (at_builtin; go_must (refine wpList_app_sl _ rfl _ _ _ rfl w1.heap.size 9 _ 1 16 Tryz.underlying24 info_str rfl (by omega) hown2 rfl hs1 hn1 rfl (strs_one _) (by omega) (by omega) hB2.size ?_); intro v2 w3 hown3 hb3 hg3 _)
      have e3 : (L ++ leadB h m.l).length = L.length + m.l.length := by rw [List.length_append, Hll.out]
      obtain ⟨A2, q2, e2, _⟩ := sl_of_own hown3
      subst e2
      rw [← List.map_append, ← e3, ← Hs.out] at hown3
      refine ⟨⟨j + 1, A2, q2, by omega, by go_num, by rw [Hs.out, e3], hown3, hB2.trans hb3⟩, by simp [intOf]; omega⟩
    · obtain rfl : j = t.size := by omega
      rw [List.take_of_length_le (by rw [Hsl.out]; exact Nat.le_refl _), ← Hdef.out] at hown
      have Hown := Lib.hid hown
      have Hd2 : Hid (rowsB m.l (hs.take t.size) = rowsT m k t) := Lib.hid (by rw [List.take_of_length_le (by rw [Hsl.out]; exact Nat.le_refl _), ← Hdef.out])
      clear hown
      go_wp2_with fail
      go_ret
      refine ⟨A', q', by rw [← Hd2.out]; rfl, own_base Hown.out hB1w.size, bw_to hB1w hB⟩
set_option maxHeartbeats 1000000 in
theorem specTouchRows_any (m : Mt) (v : Value) (k : Cl) (t : ByteArray) (w : World) (h : MethAt w m v) (hs : MtSmall m) (hk : ClSmall k) (ht : t.size ≤ 1048576) : Calls Tryz.prog 67 #[m.v v, k.v, .string t] w fun e w' =>
    ∃ A q, e = .returned (.tuple #[.slice A (rowsO m k t).length q, .bool (okT m k t)]) ∧ w'.ownsRow w.heap.size 9 1 (.slice A (rowsO m k t).length q) (rowsO m k t).length ((rowsO m k t).map Value.string) ∧ Below w.heap.size w w' := by
  have Hg := Lib.hid (fun W hW => l9Asked_any m v k t W (h.to hW) hs hk (Nat.le_trans ht (by unfold maxLen; omega)))
  have Hr := Lib.hid (fun (ho : askT m k t = true) W hW => l9Rows_any m v k t W ho (h.1.to hW))
  have hsm := hs.2.1
  obtain ⟨A, c, hv⟩ := h.form
  subst hv
  have Hdef : Hid (askT m k t = (callsB m k && touchB t.data.toList)) := Lib.hid rfl
  obtain ⟨b, hb⟩ : ∃ b, b = askT m k t := ⟨_, rfl⟩
  rw [← Hdef.out, ← hb] at Hg
  have Hb := Lib.hid hb
  have hmul : t.size * m.l.length ≤ 1048576 * 1048576 := Nat.mul_le_mul ht hsm
  obtain ⟨N, hN⟩ : ∃ N, N = t.size * m.l.length := ⟨_, rfl⟩
  have HN := Lib.hid hN
  have hN2 : (t.size : Int) * (m.l.length : Int) = (N : Int) := by rw [hN]; simp
  have hNN : IntKind.i64.wrap ((t.size : Int) * (m.l.length : Int)) = (N : Int) := by rw [hN2]; exact IntWalk.i64_in _ ⟨by omega, by omega⟩
  have hNb : N ≤ 1048576 * 1048576 := by omega
  unfold Mt.v Cl.v at *
  clear h hb hN hmul
  go_enter Tryz.func67, Tryz.ntmps67
  go_wp2_with fail
  refine box2 (C := fun W => Calls _ _ _ W _) ?_
  intro wb hw k1 k2 hB0
  have R1 := boxRule k1
  have R2 := boxRule k2
  clear k1 k2
  refine (Hg.out _ hw).mono ?_; rintro e w1 ⟨rfl, hb1⟩
  have hB1 := bw_to hw hb1
  cases b
  · have Ho : Hid (okT m k t = false) := Lib.hid (by unfold okT; rw [← Hb.out]; rfl)
    have Hro : Hid (rowsO m k t = []) := Lib.hid (by unfold rowsO; rw [Ho.out]; rfl)
    go_wp2_with fail
    go_ret2
    refine ⟨none, 0, ?_, ?_, bw_to hw hb1⟩
    · rw [Ho.out, Hro.out]; rfl
    · rw [Hro.out]; exact World.ownsRow_nil _ _ _ _
  · by_cases hbig : N ≤ 800
    · have Ho : Hid (okT m k t = true) := Lib.hid (by unfold okT; rw [← Hb.out, decide_eq_true (by rw [← HN.out]; exact hbig)]; rfl)
      have Hro : Hid (rowsO m k t = rowsT m k t) := Lib.hid (by unfold rowsO; rw [if_pos Ho.out])
      have hd : decide ((800 : Int) < (N : Int)) = false := by simp; omega
      go_wp2_with fail
      refine (Hr.out Hb.out.symm _ hB1).mono ?_; rintro e w2 ⟨A2, q2, rfl, hown, hb2⟩
      go_wp2_with fail
      go_ret2
      refine ⟨A2, q2, ?_, ?_, bw_to hB1 hb2⟩
      · rw [Ho.out, Hro.out]; rfl
      · rw [Hro.out]; exact own_base hown hB1.size
    · have Ho : Hid (okT m k t = false) := Lib.hid (by unfold okT; rw [← Hb.out, decide_eq_false (by rw [← HN.out]; exact hbig)]; rfl)
      have Hro : Hid (rowsO m k t = []) := Lib.hid (by unfold rowsO; rw [Ho.out]; rfl)
      have hd : decide ((800 : Int) < (N : Int)) = true := by simp; omega
      go_wp2_with fail
      go_ret2
      refine ⟨none, 0, ?_, ?_, bw_to hw hb1⟩
      · rw [Ho.out, Hro.out]; rfl
      · rw [Hro.out]; exact World.ownsRow_nil _ _ _ _
end Go.Proofs.YtofpjbdelmmclaaGreatDoor
