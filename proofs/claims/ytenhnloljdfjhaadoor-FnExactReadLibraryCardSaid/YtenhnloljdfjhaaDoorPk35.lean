/- Contract: the reference's reader of a place notation: a word. -/
import Derived.Test.YtenhnloljdfjhaaDoorPk34
namespace Go.Proofs.YtenhnloljdfjhaaDoor
open Go Go.RowKit
set_option linter.unusedVariables false
set_option linter.unusedSimpArgs false

/-- All blocks below B but block g are as they were. -/
structure OutB (w w' : World) (B g : Nat) : Prop where
  os : w'.os = w.os
  tape : w'.tape = w.tape
  output : w'.output = w.output
  size : w.heap.size ≤ w'.heap.size
  block : ∀ k, k < B → k ≠ g → w'.heap[k]? = w.heap[k]?
theorem OutB.refl (w : World) (B g : Nat) : OutB w w B g := ⟨rfl, rfl, rfl, Nat.le_refl _, fun _ _ _ => rfl⟩
theorem OutB.tr {w w' w'' : World} {B g : Nat} (h : OutB w w' B g) (h' : OutB w' w'' B g) : OutB w w'' B g :=
  ⟨h'.os.trans h.os, h'.tape.trans h.tape, h'.output.trans h.output, Nat.le_trans h.size h'.size, fun k hk hn => (h'.block k hk hn).trans (h.block k hk hn)⟩
theorem OutB.bw {w w' : World} {B C g : Nat} (h : Below C w w') (hC : B ≤ C) : OutB w w' B g := ⟨h.os, h.tape, h.output, h.size, fun k hk _ => h.block k (by omega)⟩
theorem OutB.set {w w' : World} {B g : Nat} (h : OutB w w' B g) (j : Nat) (u : Value) : OutB w (w'.setCell ⟨g, j, none⟩ u) B g :=
  ⟨h.os, h.tape, h.output, by simpa [World.setCell] using h.size, fun i hi hne => (Below.heap_setCell w' ⟨g, j, none⟩ u i (by rintro rfl; exact hne rfl)).trans (h.block i hi hne)⟩
theorem OutB.grown {w w' : World} {B g : Nat} (h : OutB w w' B g) (hB : w.heap.size ≤ B) : w.grownBy w' (some g) :=
  ⟨h.os, h.tape, h.output, h.size, fun k hk hn => h.block k (by omega) (fun e => hn (by rw [e]))⟩
/-- What stands behind a word of digits is no digit. -/
theorem take_next {p : UInt8 → Bool} : ∀ {l : List UInt8} {c : UInt8} {t : List UInt8}, l.drop (l.takeWhile p).length = c :: t → p c = false
  | [], c, t, h => by simp at h
  | b :: l, c, t, h => by
    by_cases hb : p b = true
    · rw [List.takeWhile_cons_of_pos hb] at h
      simp only [List.length_cons, List.drop_succ_cons] at h
      exact take_next h
    · rw [List.takeWhile_cons_of_neg hb] at h
      simp only [List.length_nil, List.drop_zero] at h
      cases h
      simpa using hb
theorem tok_next {s : ByteArray} {k : Nat} (hT : 0 < tkn s k) (hk : k + tkn s k < s.size) : s[k + tkn s k - 1]'(by omega) = 45 ∨ s[k + tkn s k - 1]'(by omega) = 120 ∨ digY (s[k + tkn s k]'hk) = false := by
  have hks : k < s.size := by omega
  by_cases hd : s[k] = 45 ∨ s[k] = 120
  · have e := tkn_dash hks hd
    have e2 : s[k + tkn s k - 1]'(by omega) = s[k] := by congr 1; omega
    rw [e2]
    rcases hd with hd | hd
    · exact .inl hd
    · exact .inr (.inl hd)
  · right; right
    have e := tkn_dig hks hd
    have e3 : (txF s k).drop ((txF s k).takeWhile digY).length = s[k + tkn s k]'hk :: txF s (k + tkn s k + 1) := by
      rw [← txF_cons hk]
      have : ((txF s k).takeWhile digY).length = tkn s k := e.symm
      rw [this]
      unfold txF
      rw [List.drop_drop]
    exact take_next e3
theorem chg_no {n : Int} {s : ByteArray} {k : Nat} (hk : k < s.size) (h1 : ¬ s[k] = 45) (h2 : ¬ s[k] = 120) (h3 : digY s[k] = false) : chgO n (txF s k) = none := by
  rw [chg_at (by omega), tkn_dig hk (fun h => h.elim h1 h2), dgn_no hk h3]
  rfl
def RBox (w : World) (B g : Nat) (n : Int) (s : ByteArray) (k : Nat) (L : List ByteArray) (bad : Int) : Prop := ∃ A c,
  w.ownsRow g 48 5 (.slice (some ⟨g, 0, none⟩) 1 1) 1 [.int .i64 n, .string s, .int .i64 k, .slice A L.length c, .int .i64 bad] ∧ w.ownsRow B 9 1 (.slice A L.length c) L.length (L.map Value.string)
theorem RBox.to {w w' : World} {B g : Nat} {n : Int} {s : ByteArray} {k : Nat} {L : List ByteArray} {bad : Int} (h : RBox w B g n s k L bad) (hb : Below w.heap.size w w') : RBox w' B g n s k L bad :=
  let ⟨A, c, h1, h2⟩ := h; ⟨A, c, own_to h1 hb, own_to h2 hb⟩
theorem RBox.cells {w : World} {B g : Nat} {n : Int} {s : ByteArray} {k : Nat} {L : List ByteArray} {bad : Int} (h : RBox w B g n s k L bad) :
    w.cell? ⟨g, 0, none⟩ = some (.int .i64 n) ∧ w.cell? ⟨g, 1, none⟩ = some (.string s) ∧ w.cell? ⟨g, 2, none⟩ = some (.int .i64 k) ∧ w.cell? ⟨g, 4, none⟩ = some (.int .i64 bad) := by
  obtain ⟨A, c, h, _⟩ := h
  exact ⟨(h.cellAt 0 (by omega)).trans rfl, (h.cellAt 1 (by omega)).trans rfl, (h.cellAt 2 (by omega)).trans rfl, (h.cellAt 4 (by omega)).trans rfl⟩
theorem RBox.frz {w : World} {B g : Nat} {n : Int} {s : ByteArray} {k : Nat} {L : List ByteArray} {bad : Int} (h : RBox w B g n s k L bad) :
    w.frozen? ⟨g, 2, none⟩ = false ∧ w.frozen? ⟨g, 3, none⟩ = false ∧ w.frozen? ⟨g, 4, none⟩ = false := by
  obtain ⟨A, c, h, _⟩ := h
  exact ⟨h.frozenAt 2, h.frozenAt 3, h.frozenAt 4⟩
theorem RBox.at_ {w : World} {B g : Nat} {n : Int} {s : ByteArray} {k : Nat} {L : List ByteArray} {bad : Int} (h : RBox w B g n s k L bad) (hg : g < B) (j : Nat) : RBox (w.setCell ⟨g, 2, none⟩ (.int .i64 j)) B g n s j L bad := by
  obtain ⟨A, c, h1, h2⟩ := h
  exact ⟨A, c, own_set h1 2 _, own_past h2 hg _ _⟩
theorem RBox.bad_ {w : World} {B g : Nat} {n : Int} {s : ByteArray} {k : Nat} {L : List ByteArray} {bad : Int} (h : RBox w B g n s k L bad) (hg : g < B) (j : Int) : RBox (w.setCell ⟨g, 4, none⟩ (.int .i64 j)) B g n s k L j := by
  obtain ⟨A, c, h1, h2⟩ := h
  exact ⟨A, c, own_set h1 4 _, own_past h2 hg _ _⟩
theorem RBox.lt {w : World} {B g : Nat} {n : Int} {s : ByteArray} {k : Nat} {L : List ByteArray} {bad : Int} (h : RBox w B g n s k L bad) : g < w.heap.size := by
  obtain ⟨A, c, h1, h2⟩ := h
  exact (h1.lt g rfl).2
theorem RBox.atOf {w : World} {B g : Nat} {n : Int} {s : ByteArray} {k : Nat} {L : List ByteArray} {bad : Int} (h : RBox w B g n s k L bad) : atOf g w = k := by
  unfold Proofs.YtenhnloljdfjhaaDoor.atOf
  rw [h.cells.2.2.1]
  simp
/-- What reading a word leaves. -/
def WrdPost (w : World) (B g : Nat) (n : Int) (s : ByteArray) (k : Nat) (L : List ByteArray) (e : Ending) (w' : World) : Prop := e = .returned (.tuple #[]) ∧ OutB w w' B g ∧
  ((chgO n (txF s k) = none ∧ ∃ at', at' ≤ s.size ∧ RBox w' B g n s at' L k) ∨
   ∃ c, chgO n (txF s k) = some (c, txF s (k + tkn s k)) ∧ 0 < tkn s k ∧ k + tkn s k ≤ s.size ∧ RBox w' B g n s (k + tkn s k) (L ++ [c]) (-1))
set_option maxRecDepth 100000 in
set_option maxHeartbeats 8000000 in
theorem word_any (w : World) (B g : Nat) (n : Int) (s : ByteArray) (k : Nat) (L : List ByteArray) (h : RBox w B g n s k L (-1)) (hg : g < B) (hBw : B ≤ w.heap.size) (hk : k ≤ s.size) (hL : L.length ≤ 10000000) (hs : s.size ≤ 1000000) (hn : 3 ≤ n ∧ n ≤ 8) :
    Calls Tryd.prog 38 #[.pointer (some ⟨g, 0, none⟩)] w (WrdPost w B g n s k L) := by
  obtain ⟨c0, c1, c2, c4⟩ := h.cells
  obtain ⟨f2, f3, f4⟩ := h.frz
  have H := Lib.hid h
  clear h
  go_enter Tryd.func38, Tryd.ntmps38
  go_wp2_with fail
  have hw1 : IntKind.i64.wrap ((k : Int) + 1) = k + 1 := IntWalk.i64_in _ ⟨by omega, by omega⟩
  go_upto_region 1 with fail
  obtain ⟨bd, hbd⟩ : ∃ b : Bool, b = true ↔ ∃ h : k < s.size, s[k] = 45 ∨ s[k] = 120 := by
    by_cases h : ∃ h : k < s.size, s[k] = 45 ∨ s[k] = 120
    · exact ⟨true, by simp [h]⟩
    · exact ⟨false, by simp [h]⟩
  have Hbd := Lib.hid hbd
  clear hbd
  go_cut [41] (fun a wx => a = .bool bd ∧ Below w.heap.size w wx)
  case first =>
    by_cases hlt : k < s.size
    · have e1 := u8_eq s[k] 45 (by omega)
      have e2 := u8_eq s[k] 120 (by omega)
      have g1 : decide ((k : Int) < s.size) = true := decide_eq_true (by omega)
      obtain ⟨b1, hb1⟩ : ∃ b, b = decide (s[k] = 45) := ⟨_, rfl⟩
      obtain ⟨b2, hb2⟩ : ∃ b, b = decide (s[k] = 120) := ⟨_, rfl⟩
      have e1' : ((s[k].toNat : Int) == 45) = b1 := e1.trans hb1.symm
      have e2' : ((s[k].toNat : Int) == 120) = b2 := e2.trans hb2.symm
      have hb : bd = (b1 || b2) := by
        rw [hb1, hb2, Bool.eq_iff_iff, Hbd.out]
        simp [hlt]
      subst hb
      clear e1 e2 hb1 hb2 Hbd
      cases b1
      · cases b2
        all_goals
          go_big_quiet (fail)
          go_wp2_with fail
          go_meet
          exact ⟨rfl, bw_dr (Below.refl _ _) _⟩
      · go_big_quiet (fail)
        go_wp2_with fail
        go_meet
        exact ⟨rfl, bw_dr (Below.refl _ _) _⟩
    · have g1 : decide ((k : Int) < s.size) = false := decide_eq_false (by omega)
      have hb : bd = false := by
        rw [Bool.eq_false_iff]
        intro h
        exact hlt (Hbd.out.1 h).1
      subst hb
      clear Hbd
      go_big_quiet (fail)
      go_wp2_with fail
      go_meet
      exact ⟨rfl, bw_dr (Below.refl _ _) _⟩
  case rest =>
  obtain ⟨rfl, hbx⟩ := hcut
  have hBx := Nat.le_trans hBw hbx.size
  have H := Lib.hid (H.out.to hbx)
  have Hbx := Lib.hid hbx
  obtain ⟨c0, c1, c2, c4⟩ := H.out.cells
  obtain ⟨f2, f3, f4⟩ := H.out.frz
  clear hbx
  go_upto_if 41 with fail
  go_cut [2] (fun a wx => a = .int .i64 k ∧ RBox wx B g n s (k + tkn s k) L (-1) ∧ OutB w wx B g)
  case first =>
    cases bd
    · have Ht : Hid (tkn s k = dgn s k) := Lib.hid (by
        by_cases hlt : k < s.size
        · exact tkn_dig hlt (fun h => by have := Hbd.out.2 ⟨hlt, h⟩; cases this)
        · rw [tkn_nil (by omega), dgn_end (by omega)])
      clear Hbd c0 c1 c2 c4 f2 f3 f4
      go_wp2_with fail
      go_loopw [] (fun wr => ∃ j : Nat, k ≤ j ∧ j ≤ s.size ∧ Hid ((j - k) + dgn s j = dgn s k) ∧ RBox wr B g n s j L (-1) ∧ OutB w wr B g) (fun wr => s.size - atOf g wr)
      case atStart => exact ⟨k, Nat.le_refl _, hk, Lib.hid (by omega), H.out, OutB.bw Hbx.out hBw⟩
      case round =>
        obtain ⟨j, hj0, hj, Hd, hN, hgb⟩ := hrel
        obtain ⟨c0, c1, c2, c4⟩ := hN.cells
        obtain ⟨f2, f3, f4⟩ := hN.frz
        have hBr := Nat.le_trans hBw hgb.size
        have HN := Lib.hid hN
        have Hgb := Lib.hid hgb
        clear hN hgb
        have hw1 : IntKind.i64.wrap ((j : Int) + 1) = j + 1 := IntWalk.i64_in _ ⟨by omega, by omega⟩
        by_cases hjl : j < s.size
        · have g1 : decide ((j : Int) < s.size) = true := decide_eq_true (by omega)
          cases hdd : digY s[j]
          · have Hz := Lib.hid (dgn_no hjl hdd)
            unfold digY at hdd
            rw [decide_eq_false_iff_not] at hdd
            by_cases h48 : 48 ≤ (s[j].toNat : Int)
            · have g2 : decide (48 ≤ (s[j].toNat : Int)) = true := decide_eq_true h48
              have g3 : decide ((s[j].toNat : Int) ≤ 57) = false := decide_eq_false (fun h => hdd ⟨h48, h⟩)
              clear hdd
              go_wp2_with fail
              go_big_quiet (fail)
              go_wp2_with fail
              go_meet
              have hj2 : k + tkn s k = j := by have h1 := Hd.out; have h2 := Hz.out; have h3 := Ht.out; omega
              exact ⟨rfl, by rw [hj2]; exact HN.out.to (bw_dr (Below.refl _ _) _), Hgb.out.tr (OutB.bw (bw_dr (Below.refl _ _) _) hBr)⟩
            · have g2 : decide (48 ≤ (s[j].toNat : Int)) = false := decide_eq_false h48
              clear hdd
              go_wp2_with fail
              go_big_quiet (fail)
              go_wp2_with fail
              go_meet
              have hj2 : k + tkn s k = j := by have h1 := Hd.out; have h2 := Hz.out; have h3 := Ht.out; omega
              exact ⟨rfl, by rw [hj2]; exact HN.out.to (bw_dr (Below.refl _ _) _), Hgb.out.tr (OutB.bw (bw_dr (Below.refl _ _) _) hBr)⟩
          · have Hz := Lib.hid (dgn_yes hjl hdd)
            unfold digY at hdd
            rw [decide_eq_true_eq] at hdd
            have g2 : decide (48 ≤ (s[j].toNat : Int)) = true := decide_eq_true hdd.1
            have g3 : decide ((s[j].toNat : Int) ≤ 57) = true := decide_eq_true hdd.2
            clear hdd
            go_wp2_with fail
            go_big_quiet (fail)
            go_wp2_with fail
            refine ⟨⟨j + 1, by omega, by omega, Lib.hid (by have h1 := Hd.out; have h2 := Hz.out; omega), (HN.out.to (bw_dr (Below.refl _ _) _)).at_ hg (j + 1), (Hgb.out.tr (OutB.bw (bw_dr (Below.refl _ _) _) hBr)).set 2 _⟩, ?_⟩
            refine Nat.lt_of_le_of_lt (Nat.le_of_eq (congrArg (s.size - ·) ((HN.out.to (bw_dr (Below.refl _ _) _)).at_ hg (j + 1)).atOf)) ?_
            rw [HN.out.atOf]
            omega
        · obtain rfl : j = s.size := by omega
          have g1 : decide ((s.size : Int) < s.size) = false := decide_eq_false (by omega)
          go_wp2_with fail
          go_big_quiet (fail)
          go_wp2_with fail
          go_meet
          have hj2 : k + tkn s k = s.size := by have h1 := Hd.out; have h2 := dgn_end (s := s) (k := s.size) (Nat.le_refl _); have h3 := Ht.out; omega
          exact ⟨rfl, by rw [hj2]; exact HN.out.to (bw_dr (Below.refl _ _) _), Hgb.out.tr (OutB.bw (bw_dr (Below.refl _ _) _) hBr)⟩
    · obtain ⟨hlt, hd⟩ := Hbd.out.1 rfl
      have Ht := Lib.hid (tkn_dash hlt hd)
      clear hd
      go_wp2_with fail
      go_meet
      exact ⟨rfl, by rw [Ht.out]; exact H.out.at_ hg (k + 1), (OutB.bw Hbx.out hBw).set 2 _⟩
  case rest =>
    obtain ⟨rfl, h7, hgb⟩ := hcut
    have hTk := tkn_le hk
    have Hch := Lib.hid (chg_at (n := n) hk)
    have Hsz := Lib.hid (fun c (h : tdC n (s.extract k (k + tkn s k)) = some c) => (tdC_size h).1)
    obtain ⟨T, hT⟩ : ∃ T, T = tkn s k := ⟨_, rfl⟩
    have HTT := Lib.hid hT
    rw [← hT] at h7 hTk Hch Hsz
    obtain ⟨p, hp⟩ : ∃ p, p = k + T := ⟨_, rfl⟩
    rw [← hp] at h7 hTk Hch Hsz
    have hps : (s.extract k p).size ≤ s.size := by simp; omega
    have Htd := Lib.hid (fun W => l3Tidy_any n (s.extract k p) W (by omega) hn)
    obtain ⟨F, hF⟩ : ∃ F, F = tdC n (s.extract k p) := ⟨_, rfl⟩
    rw [← hF] at Hch Htd Hsz
    have hkp : k ≤ p := by omega
    have HT : Hid (p = k + T) := Lib.hid hp
    have H7 := Lib.hid h7
    have Hgb := Lib.hid hgb
    have hBc := Nat.le_trans hBw hgb.size
    have C0 : ∀ u : Aft wc, u.w.cell? ⟨g, 0, none⟩ = some (.int .i64 n) := fun u => (H7.out.to u.h).cells.1
    have C1 : ∀ u : Aft wc, u.w.cell? ⟨g, 1, none⟩ = some (.string s) := fun u => (H7.out.to u.h).cells.2.1
    have C2 : ∀ u : Aft wc, u.w.cell? ⟨g, 2, none⟩ = some (.int .i64 p) := fun u => (H7.out.to u.h).cells.2.2.1
    have hB0 := Below.refl wc.heap.size wc
    clear hT hp hF h7 hgb c0 c1 c2 c4 f2 f3 f4
    go_upto_region 5 with fail
    refine wp_region_aft (wb := wc) (by kernel_rfl) (by kernel_rfl) hB0 ?_
    repeat (go_big_quiet_step ((first | (go_at_call 56; exact calls_aft fun w' hb' => Htd.out w'))))
    refine wpQuiet_nil ?_
    rintro _ ⟨u3, rfl⟩
    have hB3 := u3.h
    generalize u3.w = w3 at hB3 ⊢
    have hN3 := H7.out.to hB3
    have hgb3 := Hgb.out.tr (OutB.bw hB3 hBc)
    have hBz := Nat.le_trans hBw hgb3.size
    obtain ⟨c0, c1, c2, c4⟩ := hN3.cells
    obtain ⟨f2, f3, f4⟩ := hN3.frz
    have HN3 := Lib.hid hN3
    have Hgb3 := Lib.hid hgb3
    clear C0 C1 C2 hN3 hgb3
    by_cases hT0 : T = 0
    · have e1 : ((k : Int) == (p : Int)) = true := by simp; have := HT.out; omega
      have HC := Lib.hid (Hch.out.trans (if_pos hT0))
      clear hT0
      go_wp2_with fail
      refine bodyPost_ret (results_none rfl _ _ _) rfl ?_
      exact ⟨rfl, Hgb3.out.set 4 _, .inl ⟨HC.out, p, hTk, HN3.out.bad_ hg k⟩⟩
    · have e1 : ((k : Int) == (p : Int)) = false := by simp; have := HT.out; omega
      have HC := Lib.hid (Hch.out.trans (if_neg hT0))
      have HTp := Lib.hid (Nat.pos_of_ne_zero hT0)
      have hkp2 : k < p := by have := HT.out; omega
      clear hT0
      cases F with
      | none =>
        go_wp2_with fail
        refine bodyPost_ret (results_none rfl _ _ _) rfl ?_
        exact ⟨rfl, Hgb3.out.set 4 _, .inl ⟨HC.out, p, hTk, HN3.out.bad_ hg k⟩⟩
      | some c =>
        have hcz := Hsz.out c rfl
        have hce : c.toList.isEmpty = false := by rw [empty_iff, decide_eq_false]; rw [bytes_len]; omega
        obtain ⟨A, q, hbox, hrow⟩ := HN3.out
        have c3 : w3.cell? ⟨g, 3, none⟩ = some (.slice A L.length q) := (hbox.cellAt 3 (by omega)).trans rfl
        have Hbox := Lib.hid hbox
        have Hrow := Lib.hid hrow
        simp only [Option.getD_some]
        clear hbox hrow
        go_wp2_with (at_builtin; go_must (refine wpList_app _ rfl _ _ _ rfl B 9 _ 1 16 Tryd.underlying28 info_str rfl (by omega) Hrow.out [.string c] rfl rfl rfl (one_mem rfl) (by omega) (by omega) hBz ?_); intro v2 w4 hown4 hb4 hg4 _; (obtain ⟨A2, q2, rfl⟩ := nb_slice hown4); (have hbox4 := own_blk Hbox.out (hb4.block g hg)); (have f := hbox4.frozenAt 3); (have d3 := hbox4.cellAt 3 (by omega)); (have Hbox4 := Lib.hid hbox4); (have Hown4 := Lib.hid hown4); (have Hb4 := Lib.hid hb4); clear hown4 hb4 hbox4 hg4)
        go_end0
        have hl1 : (L ++ [c]).length = L.length + 1 := by simp
        refine ⟨rfl, (Hgb3.out.tr (OutB.bw Hb4.out (Nat.le_refl _))).set 3 _, .inr ⟨c, ?_⟩⟩
        rw [← HTT.out, ← HT.out]
        refine ⟨HC.out.trans rfl, HTp.out, hTk, A2, q2, ?_, ?_⟩
        · rw [hl1]
          exact own_set Hbox4.out 3 _
        · rw [hl1, List.map_append]
          exact own_past Hown4.out hg _ _
end Go.Proofs.YtenhnloljdfjhaaDoor
