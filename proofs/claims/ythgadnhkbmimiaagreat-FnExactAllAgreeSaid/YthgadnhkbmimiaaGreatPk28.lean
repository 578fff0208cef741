/- Contracts: the reference's lead head of a call; the inverse of a row, both sides. -/
import Derived.Test.YthgadnhkbmimiaaGreatPk13
import Derived.Test.YthgadnhkbmimiaaGreatPk18
import Derived.Test.YthgadnhkbmimiaaGreatPk25
namespace Go.Proofs.YthgadnhkbmimiaaGreat
open Go Go.RowKit
set_option linter.unusedVariables false
set_option linter.unusedSimpArgs false

theorem l8CallP_any (c : UInt8) (hc : c = 112 ∨ c = 98) (w : World) : Calls Tryz.prog 159 #[.string (callT c)] w fun e w' => e = .returned (.bool true) ∧ w = w' := by
  rcases hc with rfl | rfl
  · unfold callT
    go_enter Tryz.func159, Tryz.ntmps159
    go_wp2_with fail
    go_ret
    exact ⟨rfl, rfl⟩
  · unfold callT
    go_enter Tryz.func159, Tryz.ntmps159
    go_wp2_with fail
    go_ret
    exact ⟨rfl, rfl⟩
set_option maxHeartbeats 2000000 in
theorem l8AskedP_any (m : Mt) (v : Value) (k : Cl) (c : UInt8) (hc : c = 112 ∨ c = 98) (w : World) (h : MethAt w m v) (hs : MtSmall m) (hk : ClSmall k) : Calls Tryz.prog 157 #[m.v v, k.v, .string (callT c)] w fun e w' => e = .returned (.bool (callsB m k)) ∧ Below w.heap.size w w' := by
  have HM := Lib.hid (fun W (hW : Below w.heap.size w W) => l8Good_any m v k W (h.to hW) hs hk)
  have HC := Lib.hid (fun W => l8CallP_any c hc W)
  obtain ⟨A, q, hv⟩ := h.form
  subst hv
  obtain ⟨p, hp⟩ : ∃ p, p = callsB m k := ⟨_, rfl⟩
  rw [← hp] at HM ⊢
  clear h hp hc
  unfold Mt.v Cl.v at *
  go_enter Tryz.func157, Tryz.ntmps157
  go_wp2_with fail
  refine box2 (C := fun W => Calls _ _ _ W _) ?_
  intro wb hw k1 k2 hB0
  have R1 := boxRule k1
  have R2 := boxRule k2
  clear k1 k2
  refine (HM.out _ hw).mono ?_; rintro e w1 ⟨rfl, hb1⟩
  cases p
  · go_wp2_with fail
    go_ret
    exact ⟨rfl, bw_to hw hb1⟩
  · go_wp2_with (go_at_call 159; refine (HC.out _).mono ?_; rintro e w' ⟨rfl, rfl⟩)
    go_ret
    exact ⟨rfl, bw_to hw hb1⟩
set_option maxHeartbeats 2000000 in
theorem specCallHead_yes (m : Mt) (v : Value) (k : Cl) (n : Nat) (c : UInt8) (hc : c = 112 ∨ c = 98) (w : World) (hg : CGood m k n) (hok : callsB m k = true) (h : MethAt w m v) (hs : MtSmall m) (hk : ClSmall k) : Calls Tryz.prog 112 #[m.v v, k.v, .string (callT c)] w fun e w' => e = .returned (.tuple #[.string (headB n m.l k.bob k.single c), .bool true]) ∧ Below w.heap.size w w' := by
  have HM := Lib.hid (fun W (hW : Below w.heap.size w W) => l8AskedP_any m v k c hc W (h.to hW) hs hk)
  have HH := Lib.hid (fun W (hW : Below w.heap.size w W) => l8Head_any m v k n c W hg (h.1.to hW))
  rw [hok] at HM
  obtain ⟨A, q, hv⟩ := h.form
  subst hv
  clear h hc
  unfold Mt.v Cl.v at *
  go_enter Tryz.func112, Tryz.ntmps112
  go_wp2_with fail
  refine box2 (C := fun W => Calls _ _ _ W _) ?_
  intro wb hw k1 k2 hB0
  have R1 := boxRule k1
  have R2 := boxRule k2
  clear k1 k2
  refine (HM.out _ hw).mono ?_; rintro e w1 ⟨rfl, hb1⟩
  have hB1 := bw_to hw hb1
  go_wp2_with fail
  refine (HH.out _ hB1).mono ?_; rintro e w2 ⟨rfl, hb2⟩
  go_wp2_with fail
  go_ret2
  exact ⟨rfl, bw_to hB1 hb2⟩
set_option maxHeartbeats 2000000 in
theorem specCallHead_no (m : Mt) (v : Value) (k : Cl) (c : UInt8) (hc : c = 112 ∨ c = 98) (w : World) (hno : callsB m k = false) (h : MethAt w m v) (hs : MtSmall m) (hk : ClSmall k) : Calls Tryz.prog 112 #[m.v v, k.v, .string (callT c)] w fun e w' => e = .returned (.tuple #[.string ⟨#[]⟩, .bool false]) ∧ Below w.heap.size w w' := by
  have HM := Lib.hid (fun W (hW : Below w.heap.size w W) => l8AskedP_any m v k c hc W (h.to hW) hs hk)
  rw [hno] at HM
  obtain ⟨A, q, hv⟩ := h.form
  subst hv
  clear h hc
  unfold Mt.v Cl.v at *
  go_enter Tryz.func112, Tryz.ntmps112
  go_wp2_with fail
  refine box2 (C := fun W => Calls _ _ _ W _) ?_
  intro wb hw k1 k2 hB0
  have R1 := boxRule k1
  have R2 := boxRule k2
  clear k1 k2
  refine (HM.out _ hw).mono ?_; rintro e w1 ⟨rfl, hb1⟩
  go_wp2_with fail
  go_ret2
  exact ⟨rfl, bw_to hw hb1⟩
end Go.Proofs.YthgadnhkbmimiaaGreat

/- Contracts: the reference's heads of a proof. -/
namespace Go.Proofs.YthgadnhkbmimiaaGreat
open Go Go.RowKit
set_option linter.unusedVariables false
set_option linter.unusedSimpArgs false

theorem callC_three {c : UInt8} (h : callC c = true) : c = 112 ∨ c = 98 ∨ c = 115 := by
  unfold callC at h
  simp only [Bool.or_eq_true, decide_eq_true_eq] at h
  rcases h with (h | h) | h
  · exact .inl (UInt8.toNat_inj.1 (by show c.toNat = 112; omega))
  · exact .inr (.inl (UInt8.toNat_inj.1 (by show c.toNat = 98; omega)))
  · exact .inr (.inr (UInt8.toNat_inj.1 (by show c.toNat = 115; omega)))
theorem l8CallQ_any (c : UInt8) (hc : callC c = true) (w : World) : Calls Tryz.prog 159 #[.string (callT c)] w fun e w' => e = .returned (.bool true) ∧ w = w' := by
  rcases callC_three hc with rfl | rfl | rfl
  · unfold callT
    go_enter Tryz.func159, Tryz.ntmps159
    go_wp2_with fail
    go_ret
    exact ⟨rfl, rfl⟩
  · unfold callT
    go_enter Tryz.func159, Tryz.ntmps159
    go_wp2_with fail
    go_ret
    exact ⟨rfl, rfl⟩
  · unfold callT
    go_enter Tryz.func159, Tryz.ntmps159
    go_wp2_with fail
    go_ret
    exact ⟨rfl, rfl⟩
set_option maxHeartbeats 2000000 in
theorem l8AskedQ_any (m : Mt) (v : Value) (k : Cl) (c : UInt8) (hc : callC c = true) (w : World) (h : MethAt w m v) (hs : MtSmall m) (hk : ClSmall k) : Calls Tryz.prog 157 #[m.v v, k.v, .string (callT c)] w fun e w' => e = .returned (.bool (callsB m k)) ∧ Below w.heap.size w w' := by
  have HM := Lib.hid (fun W (hW : Below w.heap.size w W) => l8Good_any m v k W (h.to hW) hs hk)
  have HC := Lib.hid (fun W => l8CallQ_any c hc W)
  obtain ⟨A, q, hv⟩ := h.form
  subst hv
  obtain ⟨p, hp⟩ : ∃ p, p = callsB m k := ⟨_, rfl⟩
  rw [← hp] at HM ⊢
  clear h hp hc
  unfold Mt.v Cl.v at *
  go_enter Tryz.func157, Tryz.ntmps157
  go_wp2_with fail
  refine box2 (C := fun W => Calls _ _ _ W _) ?_
  intro wb hw k1 k2 hB0
  have R1 := boxRule k1
  have R2 := boxRule k2
  clear k1 k2
  refine (HM.out _ hw).mono ?_; rintro e w1 ⟨rfl, hb1⟩
  cases p
  · go_wp2_with fail
    go_ret
    exact ⟨rfl, bw_to hw hb1⟩
  · go_wp2_with (go_at_call 159; refine (HC.out _).mono ?_; rintro e w' ⟨rfl, rfl⟩)
    go_ret
    exact ⟨rfl, bw_to hw hb1⟩
set_option maxHeartbeats 2000000 in
theorem specCallHeadQ_yes (m : Mt) (v : Value) (k : Cl) (n : Nat) (c : UInt8) (hc : callC c = true) (w : World) (hg : CGood m k n) (hok : callsB m k = true) (h : MethAt w m v) (hs : MtSmall m) (hk : ClSmall k) : Calls Tryz.prog 112 #[m.v v, k.v, .string (callT c)] w fun e w' => e = .returned (.tuple #[.string (headB n m.l k.bob k.single c), .bool true]) ∧ Below w.heap.size w w' := by
  have HM := Lib.hid (fun W (hW : Below w.heap.size w W) => l8AskedQ_any m v k c hc W (h.to hW) hs hk)
  have HH := Lib.hid (fun W (hW : Below w.heap.size w W) => l8Head_any m v k n c W hg (h.1.to hW))
  rw [hok] at HM
  obtain ⟨A, q, hv⟩ := h.form
  subst hv
  clear h hc
  unfold Mt.v Cl.v at *
  go_enter Tryz.func112, Tryz.ntmps112
  go_wp2_with fail
  refine box2 (C := fun W => Calls _ _ _ W _) ?_
  intro wb hw k1 k2 hB0
  have R1 := boxRule k1
  have R2 := boxRule k2
  clear k1 k2
  refine (HM.out _ hw).mono ?_; rintro e w1 ⟨rfl, hb1⟩
  have hB1 := bw_to hw hb1
  go_wp2_with fail
  refine (HH.out _ hB1).mono ?_; rintro e w2 ⟨rfl, hb2⟩
  go_wp2_with fail
  go_ret2
  exact ⟨rfl, bw_to hB1 hb2⟩
set_option maxRecDepth 10000 in
set_option maxHeartbeats 4000000 in
theorem l20Heads_any (m : Mt) (v : Value) (k : Cl) (t : ByteArray) (n : Nat) (w : World) (hg : CGood m k n) (hok : callsB m k = true) (hM : MethAt w m v) (hsm : MtSmall m) (hk : ClSmall k) (ht : touchB t.data.toList = true) : Calls Tryz.prog 85 #[m.v v, k.v, .string t] w fun e w' =>
    ∃ A q, e = .returned (.slice A (t.size + 1) q) ∧ w'.ownsRow w.heap.size 9 1 (.slice A (t.size + 1) q) (t.size + 1) ((headsB (headB n m.l k.bob k.single) (roundsB n) t.data.toList).map Value.string) ∧ Below w.heap.size w w' := by
  have hfin : ∀ c, RowIn n (headB n m.l k.bob k.single c) := fun c => head_in hg.m.hi _ _ _ _
  have hHH := fun W (hW : Below w.heap.size w W) c hc => specCallHeadQ_yes m v k n c hc W hg hok (hM.to hW) hsm hk
  have hv := hM.1
  have hall : t.data.toList.all callC = true := by unfold touchB at ht; rw [Bool.and_eq_true] at ht; exact ht.1
  have Hall := Lib.hid hall
  obtain ⟨F, hF⟩ : ∃ F, F = headB n m.l k.bob k.single := ⟨_, rfl⟩
  rw [← hF] at hfin ⊢
  have Hfin := Lib.hid hfin
  have hHH2 : ∀ W, Below w.heap.size w W → ∀ c, callC c = true → Calls Tryz.prog 112 #[m.v v, k.v, .string (callT c)] W fun e w' => e = .returned (.tuple #[.string (F c), .bool true]) ∧ Below W.heap.size W w' := by rw [hF]; exact hHH
  have hn := hg.m.hi
  have hst := hg.m.st
  obtain ⟨A, q, hv', _⟩ := hv
  subst hv'
  unfold Mt.v Cl.v at *
  rw [hst] at hHH2 ⊢
  have HH := Lib.hid hHH2
  have htl := (touch_size ht).2
  clear hg hfin hF hHH hHH2 hst ht hok hM hsm hk hall
  go_enter Tryz.func85, Tryz.ntmps85
  go_wp2_with (go_at_call 89; refine (l1Rounds_any n _ hn).mono ?_; rintro e w' ⟨rfl, rfl⟩)
  refine box3 (C := fun W => Code.wp _ _ _ _ W) ?_
  intro wb hw k1 k2 k3 hB0
  have hown0 : wb.ownsRow (w.heap.size + 2) 9 1 (.slice (some ⟨w.heap.size + 2, 0, none⟩) 1 1) 1 [.string (roundsB n)] := own_of_heap k3 (Nat.le_refl _) (by unfold maxLen; omega) rfl
  have hsz : w.heap.size + 2 ≤ wb.heap.size := Nat.le_of_lt (blk_lt k3)
  have R1 := fun W i hb => boxRuleB (B := w.heap.size + 2) k1 (by omega) W i hb
  have R2 := fun W i hb => boxRuleB (B := w.heap.size + 2) k2 (by omega) W i hb
  have hrin := Lib.hid (rounds_in hn)
  clear k1 k2 k3
  go_loopw [7, 8, 9] (fun h o i wr => ∃ (j : Nat) (x : ByteArray) (A' : Option Addr) (q' : Nat), j ≤ t.size ∧ i = .int .i64 j ∧ h = .string x ∧ x = endB F (roundsB n) (t.data.toList.take j) ∧ o = .slice A' (j + 1) q' ∧ wr.ownsRow (w.heap.size + 2) 9 1 (.slice A' (j + 1) q') (j + 1) ((headsB F (roundsB n) (t.data.toList.take j)).map Value.string) ∧ Below (w.heap.size + 2) wb wr) (fun _ _ i _ => t.size - (intOf i).toNat)
  case atStart => exact ⟨0, _, _, 1, by omega, rfl, rfl, rfl, rfl, hown0, Below.refl _ _⟩
  case round =>
    obtain ⟨j, x, A', q', hj, rfl, rfl, hx, rfl, hown, hB⟩ := hrel
    obtain ⟨wo, rfl⟩ : ∃ wo : World, wo = wr := ⟨_, rfl⟩
    have hBw : Below w.heap.size w wo := hw.trans (hB.mono (by omega))
    by_cases hlt : j < t.size
    · have hlt' : j < t.data.toList.length := by rw [bytes_len]; exact hlt
      have hxin : RowIn n x := by rw [hx]; exact end_in Hfin.out _ hrin.out
      have Hx : Hid (timesB x (F t[j]) = endB F (roundsB n) (t.data.toList.take (j + 1))) := Lib.hid (by rw [end_take hlt', hx, bytes_get t j hlt])
      have Hs : Hid (headsB F (roundsB n) (t.data.toList.take (j + 1)) = headsB F (roundsB n) (t.data.toList.take j) ++ [timesB x (F t[j])]) := Lib.hid (by rw [heads_take hlt', Hx.out])
      have Htm := Lib.hid (fun W => l1Times_any x (F t[j]) W (by rw [hxin.1]; omega) (by rw [(Hfin.out t[j]).1]; omega) (row_hin hxin.1 (Hfin.out t[j])))
      have hex : t.extract j (j + 1) = callT t[j] := bytes_ext (by rw [← bytes_toList, ext_one hlt]; rfl)
      have hcc : callC t[j] = true := by have h := List.all_eq_true.1 Hall.out _ (List.getElem_mem hlt'); rw [bytes_get t j hlt] at h; exact h
      have Hc : Hid (∀ W, Below w.heap.size w W → Calls Tryz.prog 112 #[.agg #[.string m.name, .int .i64 (n : Int), .slice A m.l.length q], .agg #[.string k.bob, .string k.single], .string (t.extract j (j + 1))] W fun e w' => e = .returned (.tuple #[.string (F t[j]), .bool true]) ∧ Below W.heap.size W w') := Lib.hid (fun W hW => by rw [hex]; exact HH.out W hW t[j] hcc)
      obtain ⟨z, hz⟩ : ∃ z, z = F t[j] := ⟨_, rfl⟩
      rw [← hz] at Hx Hs Htm Hc
      have R1' := fun W i hb => R1 W i (hB.trans (hb : Below (w.heap.size + 2) wo W))
      have R2' := fun W i hb => R2 W i (hB.trans (hb : Below (w.heap.size + 2) wo W))
      have hdr : Below wo.heap.size wo wo.drew := Below.drew (Below.refl _ _)
      have hsz2 : w.heap.size + 2 ≤ wo.heap.size := by have := hB.size; omega
      have R3 := fun W i hb => R1' W i ((hb : Below wo.heap.size wo W).mono hsz2)
      have R4 := fun W i hb => R2' W i ((hb : Below wo.heap.size wo W).mono hsz2)
      have hj0 : (0 : Int) ≤ (j : Int) := by omega
      have hj1 : IntKind.i64.wrap ((j : Int) + 1) = (j : Int) + 1 := IntWalk.i64_in _ ⟨by omega, by omega⟩
      have hj2 : ((j : Int) + 1).toNat = j + 1 := by omega
      have hj3 : (j : Int) + 1 ≤ (t.size : Int) := by omega
      have hj4 : (j : Int) ≤ (j : Int) + 1 := by omega
      have hj5 : (0 : Int) ≤ (j : Int) + 1 := by omega
      clear hz hxin hx hex R1' R2' hcc
      obtain ⟨y, hy⟩ : ∃ y, y = timesB x z := ⟨_, rfl⟩
      simp only [← hy] at Hx Hs Htm
      clear hy
      have R1s := Lib.hid R1
      have R2s := Lib.hid R2
      clear R1 R2
      go_wp2_with fail
      go_region_held3 (fun W => Below wo.heap.size wo W) (first | with_reducible assumption | exact Below.drew (by assumption) | exact bw_to (by assumption) hb')
        (first | (go_at_call 112; refine (Hc.out _ (bw_to hBw (by assumption))).mono ?_; rintro e w' ⟨rfl, hb'⟩))
      all_goals
        have hBB : Below wo.heap.size wo w' := by assumption
        have hown2 := own_to hown hBB
        have hB2 := hB.trans (hBB.mono hsz2)
        clear R3 R4 hj1 hj2 hj3 hj4 hj5 hdr
        go_wp2_with (first | (go_at_call 113; refine (Htm.out _).mono ?_; rintro e w7 ⟨rfl, rfl⟩) | (at_builtin; go_must (refine wpList_app _ rfl _ _ _ rfl (w.heap.size + 2) 9 _ 1 16 Tryz.underlying22 info_str rfl (by omega) hown2 [.string y] rfl rfl rfl (one_mem rfl) (by omega) (by omega) (by have := hB2.size; omega) ?_); intro v2 w3 hown3 hb3 hg3 _))
        obtain ⟨A2, q2, e2, _⟩ := sl_of_own hown3
        subst e2
        refine ⟨⟨j + 1, y, A2, q2, by omega, by go_num, rfl, Hx.out, rfl, ?_, hB2.trans hb3⟩, by simp [intOf]; omega⟩
        rw [← str_snoc Hs.out]
        exact hown3
    · obtain rfl : j = t.size := by omega
      rw [List.take_of_length_le (by rw [bytes_len]; exact Nat.le_refl _)] at hown
      clear hx
      go_wp2_with fail
      go_ret
      exact ⟨_, _, rfl, own_base hown (by omega), hBw⟩
end Go.Proofs.YthgadnhkbmimiaaGreat
