/- Contracts: the program's reader of a place notation: ends, change. -/
import Derived.Test.YtenhnloljdfjhaaDoorPk31
import Derived.BigGuardPart
import Derived.Deep.CutBlock
namespace Go.Proofs.YtenhnloljdfjhaaDoor
open Go Go.RowKit
set_option linter.unusedVariables false
set_option linter.unusedSimpArgs false

theorem nb_refl (w : World) (g : Nat) : w.grownBy w (some g) := World.grownBy.refl w _
theorem nb_to {a w w' : World} {g : Nat} (h : a.grownBy w (some g)) (hb : Below w.heap.size w w') : a.grownBy w' (some g) :=
  ⟨hb.os.trans h.os, hb.tape.trans h.tape, hb.output.trans h.output, Nat.le_trans h.size hb.size, fun k hk hn => (hb.block k (Nat.lt_of_lt_of_le hk h.size)).trans (h.block k hk hn)⟩
theorem nb_tr {a w w' : World} {g : Nat} (h : a.grownBy w (some g)) (h' : w.grownBy w' (some g)) : a.grownBy w' (some g) :=
  ⟨h'.os.trans h.os, h'.tape.trans h.tape, h'.output.trans h.output, Nat.le_trans h.size h'.size, fun k hk hn => (h'.block k (Nat.lt_of_lt_of_le hk h.size) hn).trans (h.block k hk hn)⟩
theorem nb_set {a w : World} {g : Nat} (h : a.grownBy w (some g)) (j : Nat) (u : Value) : a.grownBy (w.setCell ⟨g, j, none⟩ u) (some g) :=
  ⟨h.os, h.tape, h.output, by simpa [World.setCell] using h.size, fun i hi hne => (Below.heap_setCell w ⟨g, j, none⟩ u i (by rintro rfl; exact hne rfl)).trans (h.block i hi hne)⟩
theorem nb_below {a w w' : World} {g : Nat} (hb : Below a.heap.size a w) (h : w.grownBy w' (some g)) (hg : a.heap.size ≤ g) : Below a.heap.size a w' :=
  ⟨h.os.trans hb.os, h.tape.trans hb.tape, h.output.trans hb.output, Nat.le_trans hb.size h.size, fun k hk => (h.block k (Nat.lt_of_lt_of_le hk hb.size) (fun x => by injection x with x; omega)).trans (hb.block k hk)⟩
/-- Whether a block ends at place k. -/
def endY (s : ByteArray) (k : Nat) : Bool := match txF s k with
  | [] => true
  | c :: _ => decide (c = 44)
theorem endY_end {s : ByteArray} {k : Nat} (h : s.size ≤ k) : endY s k = true := by unfold endY; rw [txF_nil h]
theorem endY_at {s : ByteArray} {k : Nat} (h : k < s.size) : endY s k = decide (s[k] = 44) := by unfold endY; rw [txF_cons h]
theorem u8_eq (c : UInt8) (n : Nat) (hn : n < 256) : ((c.toNat : Int) == (n : Int)) = decide (c = UInt8.ofNat n) := by
  by_cases h : c = UInt8.ofNat n
  · subst h; simp; omega
  · rw [decide_eq_false h]
    simp
    intro e
    exact h (by rw [← UInt8.toNat_inj]; simp; omega)
def NtBox (w : World) (g : Nat) (n : Int) (s : ByteArray) (k : Nat) (bad : Int) : Prop := w.ownsRow g 57 4 (.slice (some ⟨g, 0, none⟩) 1 1) 1 [.int .i64 n, .string s, .int .i64 k, .int .i64 bad]
theorem NtBox.to {w w' : World} {g : Nat} {n : Int} {s : ByteArray} {k : Nat} {bad : Int} (h : NtBox w g n s k bad) (hb : Below w.heap.size w w') : NtBox w' g n s k bad := own_to (by unfold NtBox at h; exact h) hb
theorem NtBox.cells {w : World} {g : Nat} {n : Int} {s : ByteArray} {k : Nat} {bad : Int} (h : NtBox w g n s k bad) :
    w.cell? ⟨g, 0, none⟩ = some (.int .i64 n) ∧ w.cell? ⟨g, 1, none⟩ = some (.string s) ∧ w.cell? ⟨g, 2, none⟩ = some (.int .i64 k) ∧ w.cell? ⟨g, 3, none⟩ = some (.int .i64 bad) := by
  unfold NtBox at h
  exact ⟨(h.cellAt 0 (by omega)).trans rfl, (h.cellAt 1 (by omega)).trans rfl, (h.cellAt 2 (by omega)).trans rfl, (h.cellAt 3 (by omega)).trans rfl⟩
theorem NtBox.frz {w : World} {g : Nat} {n : Int} {s : ByteArray} {k : Nat} {bad : Int} (h : NtBox w g n s k bad) :
    w.frozen? ⟨g, 2, none⟩ = false ∧ w.frozen? ⟨g, 3, none⟩ = false := by
  unfold NtBox at h
  exact ⟨h.frozenAt 2, h.frozenAt 3⟩
theorem NtBox.at_ {w : World} {g : Nat} {n : Int} {s : ByteArray} {k : Nat} {bad : Int} (h : NtBox w g n s k bad) (j : Nat) : NtBox (w.setCell ⟨g, 2, none⟩ (.int .i64 j)) g n s j bad := by
  unfold NtBox at h ⊢
  exact own_set h 2 _
theorem NtBox.bad_ {w : World} {g : Nat} {n : Int} {s : ByteArray} {k : Nat} {bad : Int} (h : NtBox w g n s k bad) (j : Int) : NtBox (w.setCell ⟨g, 3, none⟩ (.int .i64 j)) g n s k j := by
  unfold NtBox at h ⊢
  exact own_set h 3 _
theorem NtBox.lt {w : World} {g : Nat} {n : Int} {s : ByteArray} {k : Nat} {bad : Int} (h : NtBox w g n s k bad) : g < w.heap.size := by
  unfold NtBox at h
  exact (h.lt g rfl).2
set_option maxRecDepth 10000 in
set_option maxHeartbeats 4000000 in
theorem ends_any (w : World) (g : Nat) (n : Int) (s : ByteArray) (k : Nat) (bad : Int) (h : NtBox w g n s k bad) (hk : k ≤ s.size) (hs : s.size ≤ 1000000) : Calls Tryd.prog 49 #[.pointer (some ⟨g, 0, none⟩)] w fun e w' =>
    e = .returned (.bool (endY s k)) ∧ Below w.heap.size w w' := by
  obtain ⟨c0, c1, c2, c3⟩ := h.cells
  clear h
  by_cases hlt : k < s.size
  · have e1 : ((k : Int) == (s.size : Int)) = false := by simp; omega
    have e2 := u8_eq s[k] 44 (by omega)
    rw [endY_at hlt]
    obtain ⟨b, hb⟩ : ∃ b, b = decide (s[k] = 44) := ⟨_, rfl⟩
    have hb' : decide (s[k] = UInt8.ofNat 44) = b := hb.symm
    rw [hb'] at e2
    rw [← hb]
    clear hb hb'
    go_enter Tryd.func49, Tryd.ntmps49
    go_wp2_with fail
    go_big_quiet (fail)
    go_wp2_with fail
    go_ret
    exact ⟨ret_bool e2, bw_dr (Below.refl _ _) _⟩
  · obtain rfl : k = s.size := by omega
    have e1 : ((s.size : Int) == (s.size : Int)) = true := by simp
    rw [endY_end (Nat.le_refl _)]
    go_enter Tryd.func49, Tryd.ntmps49
    go_wp2_with fail
    go_big_quiet (fail)
    go_wp2_with fail
    go_ret
    exact ⟨by rfl, bw_dr (Below.refl _ _) _⟩
def atOf (g : Nat) (w : World) : Nat := match w.cell? ⟨g, 2, none⟩ with
  | some (.int _ z) => z.toNat
  | _ => 0
theorem atOf_is {w : World} {g : Nat} {n : Int} {s : ByteArray} {k : Nat} {bad : Int} (h : NtBox w g n s k bad) : atOf g w = k := by
  unfold atOf
  rw [h.cells.2.2.1]
  simp
/-- What reading a change leaves. -/
def ChgPost (w : World) (g : Nat) (n : Int) (s : ByteArray) (k : Nat) (e : Ending) (w' : World) : Prop := w.grownBy w' (some g) ∧
  ((chgO n (txF s k) = none ∧ ∃ c at', e = .returned (.string c) ∧ at' ≤ s.size ∧ NtBox w' g n s at' k) ∨
   ∃ c k', chgO n (txF s k) = some (c, txF s k') ∧ k < k' ∧ k' ≤ s.size ∧ c.size ≤ 6 ∧ e = .returned (.string c) ∧ NtBox w' g n s k' (-1))
set_option maxRecDepth 100000 in
set_option maxHeartbeats 8000000 in
theorem change_any (w : World) (g : Nat) (n : Int) (s : ByteArray) (k : Nat) (h : NtBox w g n s k (-1)) (hk : k ≤ s.size) (hs : s.size ≤ 1000000) (hn : 3 ≤ n ∧ n ≤ 8) : Calls Tryd.prog 48 #[.pointer (some ⟨g, 0, none⟩)] w (ChgPost w g n s k) := by
  obtain ⟨c0, c1, c2, c3⟩ := h.cells
  have H := Lib.hid h
  have hg := h.lt
  clear h
  go_enter Tryd.func48, Tryd.ntmps48
  go_upto_block 0 with fail
  go_cut [3] (fun a wx => a = .int .i64 k ∧ NtBox wx g n s (k + tkn s k) (-1) ∧ w.grownBy wx (some g))
  case first =>
    by_cases hlt : k < s.size
    · have hE := endY_at hlt
      by_cases h44 : s[k] = 44
      · rw [decide_eq_true h44] at hE
        have ht : tkn s k = 0 := by
          rw [tkn_dig hlt (by rw [h44]; decide), dgn_no hlt (by rw [h44]; decide)]
        have hen := ends_any _ g n s k (-1) H.out hk hs
        rw [hE] at hen
        have Hen := Lib.hid hen
        clear hen hE c0 c1 c2 c3
        go_wp2_with fail
        refine Hen.out.mono ?_; rintro e w2 ⟨rfl, hb2⟩
        go_wp2_with fail
        go_meet
        exact ⟨rfl, by rw [ht]; exact H.out.to hb2, nb_to (nb_refl _ _) hb2⟩
      · rw [decide_eq_false h44] at hE
        have hen := ends_any _ g n s k (-1) H.out hk hs
        rw [hE] at hen
        have Hen := Lib.hid hen
        have e1 := u8_eq s[k] 120 (by omega)
        have e2 := u8_eq s[k] 45 (by omega)
        clear hen hE c0 c1 c2 c3
        by_cases hd : s[k] = 45 ∨ s[k] = 120
        · have Ht := Lib.hid (tkn_dash hlt hd)
          have hw1 : IntKind.i64.wrap ((k : Int) + 1) = k + 1 := IntWalk.i64_in _ ⟨by omega, by omega⟩
          go_wp2_with fail
          refine Hen.out.mono ?_; rintro e w2 ⟨rfl, hb2⟩
          obtain ⟨c0, c1, c2, c3⟩ := (H.out.to hb2).cells
          obtain ⟨f2, f3⟩ := (H.out.to hb2).frz
          rcases hd with hd | hd
          all_goals
            rw [hd] at e1 e2
            go_wp2_with fail
            go_meet
            exact ⟨rfl, by rw [Ht.out]; exact (H.out.to hb2).at_ (k + 1), nb_set (nb_to (nb_refl _ _) hb2) 2 _⟩
        · have Ht := Lib.hid (tkn_dig hlt hd)
          have e1' : ((s[k].toNat : Int) == 120) = false := e1.trans (decide_eq_false (fun h => hd (.inr h)))
          have e2' : ((s[k].toNat : Int) == 45) = false := e2.trans (decide_eq_false (fun h => hd (.inl h)))
          clear e1 e2
          go_wp2_with fail
          refine Hen.out.mono ?_; rintro e w2 ⟨rfl, hb2⟩
          obtain ⟨c0, c1, c2, c3⟩ := (H.out.to hb2).cells
          go_wp2_with fail
          clear c0 c1 c2 c3
          go_loopw [] (fun wr => ∃ j : Nat, k ≤ j ∧ j ≤ s.size ∧ Hid ((j - k) + dgn s j = dgn s k) ∧ NtBox wr g n s j (-1) ∧ w.grownBy wr (some g)) (fun wr => s.size - atOf g wr)
          case atStart => exact ⟨k, Nat.le_refl _, hk, Lib.hid (by omega), H.out.to hb2, nb_to (nb_refl _ _) hb2⟩
          case round =>
            obtain ⟨j, hj0, hj, Hd, hN, hgb⟩ := hrel
            obtain ⟨c0, c1, c2, c3⟩ := hN.cells
            obtain ⟨f2, f3⟩ := hN.frz
            have HN := Lib.hid hN
            have Hgb := Lib.hid hgb
            clear hN hgb
            have hw1 : IntKind.i64.wrap ((j : Int) + 1) = j + 1 := IntWalk.i64_in _ ⟨by omega, by omega⟩
            by_cases hjl : j < s.size
            · have g1 : decide ((j : Int) < s.size) = true := decide_eq_true (by omega)
              cases hdd : digY s[j]
              · have Hz := Lib.hid (dgn_no hjl hdd)
                unfold digY at hdd
                rw [decide_eq_false_iff_not] at hdd
                by_cases h48 : 48 ≤ (s[j].toNat : Int)
                · have g2 : decide (48 ≤ (s[j].toNat : Int)) = true := decide_eq_true h48
                  have g3 : decide ((s[j].toNat : Int) ≤ 57) = false := decide_eq_false (fun h => hdd ⟨h48, h⟩)
                  clear hdd
                  go_wp2_with fail
                  go_big_quiet (fail)
                  go_wp2_with fail
                  go_meet
                  have hj2 : k + tkn s k = j := by have h1 := Hd.out; have h2 := Hz.out; have h3 := Ht.out; omega
                  exact ⟨rfl, by rw [hj2]; exact HN.out.to (bw_dr (Below.refl _ _) _), nb_to Hgb.out (bw_dr (Below.refl _ _) _)⟩
                · have g2 : decide (48 ≤ (s[j].toNat : Int)) = false := decide_eq_false h48
                  clear hdd
                  go_wp2_with fail
                  go_big_quiet (fail)
                  go_wp2_with fail
                  go_meet
                  have hj2 : k + tkn s k = j := by have h1 := Hd.out; have h2 := Hz.out; have h3 := Ht.out; omega
                  exact ⟨rfl, by rw [hj2]; exact HN.out.to (bw_dr (Below.refl _ _) _), nb_to Hgb.out (bw_dr (Below.refl _ _) _)⟩
              · have Hz := Lib.hid (dgn_yes hjl hdd)
                unfold digY at hdd
                rw [decide_eq_true_eq] at hdd
                have g2 : decide (48 ≤ (s[j].toNat : Int)) = true := decide_eq_true hdd.1
                have g3 : decide ((s[j].toNat : Int) ≤ 57) = true := decide_eq_true hdd.2
                clear hdd
                go_wp2_with fail
                go_big_quiet (fail)
                go_wp2_with fail
                refine ⟨⟨j + 1, by omega, by omega, Lib.hid (by have h1 := Hd.out; have h2 := Hz.out; omega), (HN.out.to (bw_dr (Below.refl _ _) _)).at_ (j + 1), nb_set (nb_to Hgb.out (bw_dr (Below.refl _ _) _)) 2 _⟩, ?_⟩
                refine Nat.lt_of_le_of_lt (Nat.le_of_eq (congrArg (s.size - ·) (atOf_is ((HN.out.to (bw_dr (Below.refl _ _) _)).at_ (j + 1))))) ?_
                rw [atOf_is HN.out]
                omega
            · obtain rfl : j = s.size := by omega
              have g1 : decide ((s.size : Int) < s.size) = false := decide_eq_false (by omega)
              go_wp2_with fail
              go_big_quiet (fail)
              go_wp2_with fail
              go_meet
              have hj2 : k + tkn s k = s.size := by have h1 := Hd.out; have h2 := dgn_end (s := s) (k := s.size) (Nat.le_refl _); have h3 := Ht.out; omega
              exact ⟨rfl, by rw [hj2]; exact HN.out.to (bw_dr (Below.refl _ _) _), nb_to Hgb.out (bw_dr (Below.refl _ _) _)⟩
    · obtain rfl : k = s.size := by omega
      have hen := ends_any _ g n s s.size (-1) H.out hk hs
      rw [endY_end (Nat.le_refl _)] at hen
      have Hen := Lib.hid hen
      have Ht := Lib.hid (tkn_nil (s := s) (k := s.size) (Nat.le_refl _))
      clear hen c0 c1 c2 c3
      go_wp2_with fail
      refine Hen.out.mono ?_; rintro e w2 ⟨rfl, hb2⟩
      go_wp2_with fail
      go_meet
      exact ⟨rfl, by rw [Ht.out]; exact H.out.to hb2, nb_to (nb_refl _ _) hb2⟩
  case rest =>
    obtain ⟨rfl, h7, hgb⟩ := hcut
    have hTk := tkn_le hk
    have Hch := Lib.hid (chg_at (n := n) hk)
    have Hsz := Lib.hid (fun c (h : tdC n (s.extract k (k + tkn s k)) = some c) => (tdC_size h).2)
    obtain ⟨T, hT⟩ : ∃ T, T = tkn s k := ⟨_, rfl⟩
    rw [← hT] at h7 hTk Hch Hsz
    obtain ⟨p, hp⟩ : ∃ p, p = k + T := ⟨_, rfl⟩
    rw [← hp] at h7 hTk Hch Hsz
    have hps : (s.extract k p).size ≤ s.size := by simp; omega
    have Htd := Lib.hid (fun W => implTidy_any n (s.extract k p) W (by omega))
    unfold tdV at Htd
    rw [tdF_yes hn] at Htd
    obtain ⟨F, hF⟩ : ∃ F, F = tdC n (s.extract k p) := ⟨_, rfl⟩
    rw [← hF] at Hch Htd Hsz
    have hkp : k ≤ p := by omega
    have HT : Hid (p = k + T) := Lib.hid hp
    have H7 := Lib.hid h7
    have Hgb := Lib.hid hgb
    have C0 : ∀ u : Aft wc, u.w.cell? ⟨g, 0, none⟩ = some (.int .i64 n) := fun u => (H7.out.to u.h).cells.1
    have C1 : ∀ u : Aft wc, u.w.cell? ⟨g, 1, none⟩ = some (.string s) := fun u => (H7.out.to u.h).cells.2.1
    have C2 : ∀ u : Aft wc, u.w.cell? ⟨g, 2, none⟩ = some (.int .i64 p) := fun u => (H7.out.to u.h).cells.2.2.1
    have hB0 := Below.refl wc.heap.size wc
    clear hT hp hF h7 hgb c0 c1 c2 c3
    go_upto_region 7 with fail
    refine wp_region_aft (wb := wc) (by kernel_rfl) (by kernel_rfl) hB0 ?_
    repeat (go_big_quiet_step ((first | (go_at_call 62; exact calls_aft fun w' hb' => Htd.out w'))))
    refine wpQuiet_nil ?_
    rintro _ ⟨u3, rfl⟩
    have hB3 := u3.h
    generalize u3.w = w3 at hB3 ⊢
    have hN3 := H7.out.to hB3
    have hgb3 := nb_to Hgb.out hB3
    obtain ⟨c0, c1, c2, c3⟩ := hN3.cells
    obtain ⟨f2, f3⟩ := hN3.frz
    have HN3 := Lib.hid hN3
    have Hgb3 := Lib.hid hgb3
    clear C0 C1 C2 hN3 hgb3
    by_cases hT0 : T = 0
    · have e1 : ((p : Int) == (k : Int)) = true := by simp; have := HT.out; omega
      have HC := Lib.hid (Hch.out.trans (if_pos hT0))
      clear hT0
      go_wp2_with fail
      go_ret
      exact ⟨nb_set Hgb3.out 3 _, .inl ⟨HC.out, _, p, rfl, hTk, HN3.out.bad_ k⟩⟩
    · have e1 : ((p : Int) == (k : Int)) = false := by simp; have := HT.out; omega
      have HC := Lib.hid (Hch.out.trans (if_neg hT0))
      have hkp2 : k < p := by have := HT.out; omega
      clear hT0
      cases F with
      | none =>
        go_wp2_with fail
        go_ret
        exact ⟨nb_set Hgb3.out 3 _, .inl ⟨HC.out, _, p, rfl, hTk, HN3.out.bad_ k⟩⟩
      | some c =>
        go_wp2_with fail
        go_ret
        exact ⟨Hgb3.out, .inr ⟨c, p, HC.out, hkp2, hTk, Hsz.out c rfl, rfl, HN3.out⟩⟩
end Go.Proofs.YtenhnloljdfjhaaDoor
