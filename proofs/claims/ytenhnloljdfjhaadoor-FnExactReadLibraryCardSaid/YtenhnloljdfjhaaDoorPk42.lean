/- Contract: a library read from its text, the reference's. -/
import Derived.Test.YtenhnloljdfjhaaDoorPk41
import Derived.StillTailTactics
namespace Go.Proofs.YtenhnloljdfjhaaDoor
open Go Go.RowKit
set_option linter.unusedVariables false
set_option linter.unusedSimpArgs false

theorem splitW_nil (s : ByteArray) (c : UInt8) (h : s.size = 0) : splitW c s = [] ++ [⟨#[]⟩] := by
  have : s.data.toList = [] := List.eq_nil_of_length_eq_zero (by rw [bytes_len]; exact h)
  unfold splitW
  rw [this]
  rfl
def S3 (B : Nat) (w' : World) (g : Nat) (a b : ByteArray) (W : World) : Prop := Below B w' W ∧ W.cell? ⟨g, 0, none⟩ = some (.string a) ∧ W.cell? ⟨g, 1, none⟩ = some (.string b)
theorem s3_dr {B : Nat} {w' W : World} {g : Nat} {a b : ByteArray} (h : S3 B w' g a b W) : S3 B w' g a b W.drew := ⟨Below.drew h.1, h.2.1, h.2.2⟩
theorem s3_al {B : Nat} {w' W : World} {g : Nat} {a b : ByteArray} (h : S3 B w' g a b W) (hB : B ≤ w'.heap.size) (hg : g < w'.heap.size) (o : Obj) : S3 B w' g a b (W.alloc o) := by
  have hz := h.1.size
  have hc := (Below.refl W.heap.size W).alloc (Nat.le_refl _) o
  exact ⟨h.1.alloc (by omega) o, (hc.cell (p := ⟨g, 0, none⟩) (by show g < W.heap.size; omega)).trans h.2.1, (hc.cell (p := ⟨g, 1, none⟩) (by show g < W.heap.size; omega)).trans h.2.2⟩
theorem s3_gb {B : Nat} {w' W w6 : World} {g : Nat} {a b : ByteArray} {row : Option Nat} (h : S3 B w' g a b W) (hg6 : W.grownBy w6 row) (hb : Below B W w6) (hg : g < w'.heap.size) (hne : row ≠ some g) : S3 B w' g a b w6 := by
  have hz := h.1.size
  have e := hg6.block g (by omega) (fun x => hne x.symm)
  refine ⟨h.1.trans hb, ?_, ?_⟩
  · rw [← h.2.1]; unfold World.cell?; rw [e]
  · rw [← h.2.2]; unfold World.cell?; rw [e]
set_option maxRecDepth 100000 in
set_option maxHeartbeats 8000000 in
theorem specReadLibrary_any (s : ByteArray) (w : World) (hs : s.size ≤ 1048576) : Calls Tryd.prog 4 #[.string s] w (RLPost w s) := by
  have Hno0 := Lib.hid (fun (h : lbR s = none) W (hW : Below w.heap.size w W) => rl_none (w' := W) h hW)
  by_cases hsz : s.size ≤ 8000
  rotate_left
  · have Hno := Lib.hid (Hno0.out (lbR_big hsz))
    have hsz' : 8000 < s.size := by omega
    clear hsz Hno0
    go_enter Tryd.func4, Tryd.ntmps4
    go_wp2_with fail
    go_ret2
    exact Hno.out _ (Below.refl _ _)
  obtain ⟨X, x, hL⟩ : ∃ X x, splitW 10 s = X ++ [x] := by
    rcases List.eq_nil_or_concat (splitW 10 s) with h | ⟨X, x, h⟩
    · have := splitW_len 10 s; rw [h] at this; simp at this
    · exact ⟨X, x, by rw [h]; simp⟩
  have hXl : X.length ≤ s.size := by
    have := splitW_leL (c := 10) (s := s); rw [hL] at this; simp at this; exact this
  have HXs : Hid (∀ (k : Nat) (h : k < X.length), X[k].size ≤ 1048576) := Lib.hid (fun k h => Nat.le_trans (splitW_size (c := 10) (s := s) X[k] (by rw [hL]; simp)) hs)
  have hdl : (splitW 10 s).dropLast = X := by rw [hL, List.dropLast_concat]
  have Hno := Lib.hid (fun (h : rdM mtS X [] = none) => Hno0.out ((lbR_spec hsz).trans (lbG_no (by rw [hdl]; exact h))))
  have Hyes := Lib.hid (fun ms (h : rdM mtS X [] = some ms) => (lbR_spec hsz).trans (lbG_some (by rw [hdl]; exact h)))
  obtain ⟨F, hF⟩ : ∃ F, F = rdM mtS X [] := ⟨_, rfl⟩
  rw [← hF] at Hno Hyes
  have HF := Lib.hid hF
  have Hls := Lib.hid (fun W => l1Split_any s 10 W (by omega))
  rw [hL] at Hls
  have e1 : (X ++ [x]).length = X.length + 1 := by simp
  rw [e1] at Hls
  have HX0 : Hid (s.size = 0 → X = []) := Lib.hid (fun h => by
    have h2 := splitW_nil s 10 h
    rw [hL] at h2
    exact (List.append_inj' h2 rfl).1)
  clear hF hdl hL e1
  go_enter Tryd.func4, Tryd.ntmps4
  go_upto_if 17 with fail
  go_cut [4] (fun v wx => ∃ (acc : List Mt) (vs : List Value) (A : Option Addr) (c : Nat), v = .slice A acc.length c ∧ Hid (∀ m ∈ acc, MSm m) ∧ Hid (OwnM wx w.heap.size (.slice A acc.length c) acc vs) ∧ Below w.heap.size w wx ∧ acc.length ≤ X.length ∧ F = some acc)
  case first =>
    by_cases h0 : s.size = 0
    · have hX := HX0.out h0
      subst hX
      have hzz : s.data.toList.length = 0 := by rw [bytes_len]; exact h0
      have hF := HF.out
      clear h0 Hls
      go_wp2_with fail
      · have h : (!s.toList.isEmpty) = true := by assumption
        rw [empty_iff, decide_eq_true hzz] at h
        cases h
      go_meet
      exact ⟨[], [], none, 0, rfl, Lib.hid (by simp), Lib.hid (OwnM.nil _ _), Below.refl _ _, by simp, hF⟩
    · have hz : ¬ s = ByteArray.empty := fun h => h0 (by rw [h]; rfl)
      clear h0 HX0
      go_wp2_with fail
      rotate_left
      · rename_i h
        rw [empty_iff, decide_eq_false (fun h' => hz (ByteArray.size_eq_zero_iff.1 (by rw [← bytes_len]; exact h')))] at h
        cases h
      refine (Hls.out _).mono ?_; rintro e w1 ⟨v1, rfl, ho1, hb1⟩
      obtain ⟨A1, c1, rfl⟩ := nb_slice ho1
      obtain ⟨gL, rfl, hgL⟩ := nb_ptr ho1 (by omega)
      have HC : Hid (∀ (k : Nat) (h : k < X.length) W, Below w1.heap.size w1 W → W.cell? ⟨gL, k, none⟩ = some (.string X[k])) := Lib.hid (fun k h W hW => by
        have h9 := (own_to ho1 hW).cellAt k (by omega)
        rw [h9, List.getElem?_map, List.getElem?_append_left h, List.getElem?_eq_getElem h]
        rfl)
      have hcap : X.length + 1 ≤ c1 ∧ c1 ≤ maxLen := by
        obtain ⟨A2, c2, e, h1, h2, _⟩ := sl_of_own ho1
        injection e with e1 e2 e3
        subst e3
        exact ⟨h1, h2⟩
      obtain ⟨hcap1, hcap2⟩ := hcap
      unfold maxLen at hcap2
      have hw1 : IntKind.i64.wrap (((X.length + 1 : Nat) : Int) - 1) = (X.length : Int) := by rw [IntWalk.i64_in _ ⟨by omega, by omega⟩]; omega
      have hw2 : IntKind.i64.wrap ((X.length : Int) + 1 - 1) = (X.length : Int) := by rw [IntWalk.i64_in _ ⟨by omega, by omega⟩]; omega
      have hz1 := hb1.size
      have Hb1 := Lib.hid hb1
      clear ho1 hb1 Hls
      go_wp2_with fail
      go_loopw [4, 26] (fun v i wr => ∃ (j : Nat) (acc : List Mt) (vs : List Value) (A : Option Addr) (c : Nat), j ≤ X.length ∧ i = .int .i64 j ∧ v = .slice A j c ∧ Hid (acc.length = j) ∧ Hid (∀ m ∈ acc, MSm m) ∧ Hid (OwnM wr w1.heap.size (.slice A j c) acc vs) ∧ Below w1.heap.size w1 wr ∧ Hid (rdM mtS (X.drop j) acc = F)) (fun _ i _ => X.length - (intOf i).toNat)
      case atStart => exact ⟨0, [], [], _, _, by omega, rfl, rfl, Lib.hid rfl, Lib.hid (by simp), Lib.hid (OwnM.nil _ _), Below.refl _ _, Lib.hid (by rw [List.drop_zero, HF.out])⟩
      case round =>
        obtain ⟨j, acc, vs, A, c, hj, rfl, rfl, Hal, Hsm, Hown, hB, Hr⟩ := hrel
        have hBw := bw_to Hb1.out hB
        have hzr := hB.size
        have HB := Lib.hid hB
        have HBw := Lib.hid hBw
        by_cases hlt : j < X.length
        · have qj := HC.out j hlt wr hB
          have hr2 := Hr.out
          rw [List.drop_eq_getElem_cons hlt] at hr2
          have Hy := Lib.hid (HXs.out j hlt)
          obtain ⟨y, hy⟩ : ∃ y, y = X[j] := ⟨_, rfl⟩
          rw [← hy] at qj hr2 Hy
          have Hr2 := Lib.hid hr2
          have Hs1 := Lib.hid (l1Split_any y 32 wr (by have := Hy.out; omega))
          have hpz := splitW_size (c := 32) (s := y)
          clear hr2 hy hB hBw
          rcases three_or (splitW 32 y) with ⟨a, b, d, h3⟩ | h3
          rotate_left
          · have Hbad := Lib.hid (Hno.out (by rw [← Hr2.out, rdM_none (mtS_no h3)]))
            obtain ⟨Wl, hWl⟩ : ∃ L, L = splitW 32 y := ⟨_, rfl⟩
            rw [← hWl] at Hs1 h3
            have g1 : ((Wl.length : Int) == 3) = false := by simp; omega
            have g2 : ((Wl.length : Int) != 3) = true := by rw [bne, g1]; rfl
            clear hWl hpz h3
            go_wp2_with fail
            refine Hs1.out.mono ?_; rintro e w3 ⟨v3, rfl, ho3, hb3⟩
            obtain ⟨A3, c3, rfl⟩ := nb_slice ho3
            clear ho3
            go_wp2_with fail
            go_ret2
            exact Hbad.out _ (bw_to HBw.out hb3)
          · rw [h3] at Hs1 hpz
            have hyz := Hy.out
            have haz := hpz a (by simp)
            have hbz := hpz b (by simp)
            have hdz := hpz d (by simp)
            have HO := mtS_yes h3
            have Hnb := Lib.hid (fun W => l1Read_any b W (by unfold maxLen; omega))
            obtain ⟨N, hN⟩ : ∃ N, N = readV b.data.toList := ⟨_, rfl⟩
            rw [← hN] at HO
            have Hnb1 : Hid (∀ W, Calls Tryd.prog 11 #[.string b] W fun e w' => e = .returned (.int .i64 N) ∧ w' = W) := Lib.hid (fun W => by rw [hN]; exact (Hnb.out W).mono fun e w' ⟨h1, h2⟩ => ⟨h1, h2.symm⟩)
            have Hrn := Lib.hid (fun W => specReadN_any N d W (by omega))
            unfold NtnPost at Hrn
            have Hso := Lib.hid (fun L (h : ntnO N d = some L) => ntn_small h)
            obtain ⟨O, hO⟩ : ∃ O, O = ntnO N d := ⟨_, rfl⟩
            rw [← hO] at Hrn HO Hso
            have Hgo : Hid (rdM mtS (X.drop (j + 1)) (acc ++ [⟨a, N, O.getD []⟩]) = F) := Lib.hid (by rw [← Hr2.out, rdM_some HO])
            have HsL : Hid ((O.getD []).length ≤ 40 ∧ ∀ x ∈ O.getD [], x.size ≤ 6) := Lib.hid (by
              cases O with
              | none => simp
              | some L => exact Hso.out L rfl)
            clear hpz hN hO HO h3 Hnb Hso
            obtain ⟨L, hLO⟩ : ∃ L, L = O.getD [] := ⟨_, rfl⟩
            obtain ⟨bo, hbo⟩ : ∃ b, b = O.isSome := ⟨_, rfl⟩
            rw [← hLO, ← hbo] at Hrn
            rw [← hLO] at Hgo HsL
            clear hLO hbo
            go_wp2_with fail
            refine Hs1.out.mono ?_; rintro e w3 ⟨v3, rfl, ho3, hb3⟩
            obtain ⟨A3, c3, rfl⟩ := nb_slice ho3
            obtain ⟨g3, rfl, hg3⟩ := nb_ptr ho3 (by simp)
            have hg3' := (ho3.lt g3 rfl).1
            have hz3 := hb3.size
            have Q : Hid (∀ W, Below w3.heap.size w3 W → W.cell? ⟨g3, 0, none⟩ = some (.string a) ∧ W.cell? ⟨g3, 1, none⟩ = some (.string b) ∧ W.cell? ⟨g3, 2, none⟩ = some (.string d)) := Lib.hid (fun W hW => by
              have h9 := own_to ho3 hW
              exact ⟨(h9.cellAt 0 (by simp)).trans rfl, (h9.cellAt 1 (by simp)).trans rfl, (h9.cellAt 2 (by simp)).trans rfl⟩)
            have Hb3 := Lib.hid hb3
            obtain ⟨q0, q1, q2⟩ := Q.out w3.drew (Below.drew (Below.refl _ _))
            clear ho3 hb3 qj
            go_upto_region 12 with fail
            have hst := Below.refl w3.heap.size w3
            have Q1 : ∀ W, Below w3.heap.size w3 W → W.cell? ⟨g3, 1, none⟩ = some (.string b) := fun W hW => (Q.out W hW).2.1
            have Q2 : ∀ W, Below w3.heap.size w3 W → W.cell? ⟨g3, 2, none⟩ = some (.string d) := fun W hW => (Q.out W hW).2.2
            clear q0 q1 q2
            go_region_held3 (fun w' => Below w3.heap.size w3 w') (first | with_reducible assumption | exact Below.drew (by assumption) | exact bw_to (by assumption) hb')
              (first | (go_at_call 11; refine (Hnb1.out _).mono ?_; rintro e w' ⟨rfl, rfl⟩) | (go_at_call 10; refine (Hrn.out _).mono ?_; rintro e w' ⟨v5, cc, aa, rfl, ho5, hb'⟩; (obtain ⟨A5, c5, rfl⟩ := nb_slice ho5)))
            have hH : Below w3.heap.size w3 w' := by assumption
            have hO5 := Hown.out.to (bw_to Hb3.out hH)
            have ho5' := own_base (base' := w1.heap.size) ho5 (by show w1.heap.size ≤ w3.heap.size; omega)
            have hB5 := bw_to (bw_to HB.out Hb3.out) hH
            have hz5 := hH.size
            obtain ⟨q0, q1, q2⟩ := Q.out w'.drew (bw_to hH (Below.drew (Below.refl _ _)))
            have HO5 := Lib.hid hO5
            have Ho5 := Lib.hid ho5'
            have HB5 := Lib.hid hB5
            have hal := Hal.out
            have ho1 := HO5.out.1
            rw [hal] at ho1
            have Ho1 := Lib.hid ho1
            have hBs := hB5.size
            have hq := Q.out w' hH
            have hst : Below w1.heap.size w' w' ∧ w'.cell? ⟨g3, 0, none⟩ = some (.string a) ∧ w'.cell? ⟨g3, 1, none⟩ = some (.string b) := ⟨⟨rfl, rfl, rfl, Nat.le_refl _, fun _ _ => rfl⟩, hq.1, hq.2.1⟩
            have hlt3 : g3 < w'.heap.size := by omega
            have HNE : Hid ((Value.slice A j c).ownBlock ≠ some g3) := Lib.hid (fun h => by have := Hown.out.1.lt g3 h; omega)
            have HB1 : Hid (w1.heap.size ≤ w'.heap.size) := Lib.hid (by omega)
            have HG3 := Lib.hid hlt3
            clear Q1 Q2 hH hb' ho5 ho5' hB5 hO5 ho1 hq q0 q1 q2
            go_wp2_with fail
            go_region_held3 (fun W => Below w1.heap.size w' W ∧ W.cell? ⟨g3, 0, none⟩ = some (.string a) ∧ W.cell? ⟨g3, 1, none⟩ = some (.string b)) (first | with_reducible assumption | exact s3_dr (by assumption) | exact s3_al (by assumption) HB1.out HG3.out _ | exact s3_gb (by assumption) hg6 hb6 HG3.out HNE.out)
              (first | (go_at_call 11; refine (Hnb1.out _).mono ?_; rintro e w9 ⟨rfl, rfl⟩) | (refine step_app_sl _ (by rfl) _ _ _ (by rfl) w1.heap.size 34 _ 3 48 Tryd.underlying22 info_methB (by rfl) (by omega) (own_to (own_to Ho1.out (Below.drew (Below.refl _ _))) (bw_al (Below.refl _ _) _)) (by rfl) (sl_of_own (own_of_heap (base := 0) (n := 1) (heap_new _ _) (Nat.zero_le _) (by unfold maxLen; omega) rfl)) (nilok_some _ _ _) (by rfl) (meth_one ⟨a, N, L⟩ _ rfl) (by omega) (by omega) (by simp; omega) (j + 1) rfl ?_; intro A6 q6 w6 hown6 hb6 hg6))
            rename_i hHeld
            have hp := OwnM.push (m := ⟨a, N, L⟩) (HO5.out.to (Below.drew (bw_al (Below.refl _ _) _))) (own_to Ho5.out (Below.drew (bw_al (Below.refl _ _) _))) (by rw [hal]; exact hown6) hg6
            have HP := Lib.hid hp
            have HH6 := Lib.hid (HB5.out.trans hHeld.1)
            clear hp hown6 hb6 hg6 hHeld hst
            go_wp2_with fail
            refine ⟨⟨j + 1, acc ++ [⟨a, N, L⟩], vs ++ [.slice A5 L.length c5], A6, q6, by omega, by go_num, rfl, Lib.hid (by simp [hal]), Lib.hid ?_, HP, HH6.out, Hgo⟩, by simp [intOf]; omega⟩
            intro m hm'
            rcases List.mem_append.1 hm' with hm' | hm'
            · exact Hsm.out m hm'
            · simp at hm'
              subst hm'
              exact ⟨by show a.size ≤ 1048576; omega, HsL.out⟩
        · obtain rfl : j = X.length := by omega
          have hFa : F = some acc := by
            have e := Hr.out
            rw [List.drop_eq_nil_of_le (Nat.le_refl _)] at e
            exact e.symm
          have hal := Hal.out
          have HFa := Lib.hid hFa
          clear hFa hB hBw
          go_wp2_with fail
          go_meet
          exact ⟨acc, vs, A, c, by rw [hal], Hsm, Lib.hid (by rw [hal]; exact Hown.out.base hz1), HBw.out, by omega, HFa.out⟩
  case rest =>
    obtain ⟨acc, vs, A, c, rfl, Hsm, Hown, hBw, hal, hFa⟩ := hcut
    have hy := Hyes.out acc hFa
    have HBw := Lib.hid hBw
    have HA := Lib.hid (allSmall_of (by omega) Hsm.out)
    have HM := Lib.hid (Hown.out.own.meths HA.out)
    have Hgl := Lib.hid (fun W (hW : Below wc.heap.size wc W) => l29Good_any _ acc W (HM.out.to hW) HA.out)
    have Hlt := Lib.hid (fun W (hW : Below wc.heap.size wc W) (hk : libB acc = true) => l29Text_any _ acc W (HM.out.to hW) HA.out hk)
    obtain ⟨ok, hok⟩ : ∃ b, b = libB acc := ⟨_, rfl⟩
    rw [← hok] at hy Hgl Hlt
    obtain ⟨P, hP⟩ : ∃ P, P = libTo acc acc.length := ⟨_, rfl⟩
    rw [← hP] at hy Hlt
    have HY := Lib.hid hy
    clear hFa hy hok hP hBw
    go_wp2_with fail
    refine (Hgl.out _ (Below.refl _ _)).mono ?_; rintro e w6 ⟨rfl, hb6⟩
    cases ok
    · have Hbad := Lib.hid (Hno0.out (by rw [HY.out]; rfl))
      go_wp2_with fail
      go_ret2
      exact Hbad.out _ (bw_to HBw.out hb6)
    · go_wp2_with fail
      refine (Hlt.out _ hb6 (by trivial)).mono ?_; rintro e w7 ⟨rfl, hb7⟩
      have hb67 := bw_to hb6 hb7
      have hPq : (P.toList == s.toList) = decide (P = s) := by
        rw [bytes_toList, bytes_toList]
        by_cases h : P = s
        · subst h; simp
        · rw [decide_eq_false h]
          simp only [beq_eq_false_iff_ne, ne_eq]
          intro e
          exact h (by apply ByteArray.ext; exact Array.toList_inj.1 e)
      by_cases hPs : P = s
      · have Hok := Lib.hid (HY.out.trans (by rw [decide_eq_true hPs]; rfl : _ = some acc))
        rw [decide_eq_true hPs] at hPq
        clear hPs
        go_wp2_with fail
        go_ret2
        exact rl_some Hok.out (Hown.out.to hb67) (bw_to HBw.out hb67)
      · have Hbad := Lib.hid (Hno0.out (by rw [HY.out, decide_eq_false hPs]; rfl))
        rw [decide_eq_false hPs] at hPq
        clear hPs
        go_wp2_with fail
        go_ret2
        exact Hbad.out _ (bw_to HBw.out hb67)
end Go.Proofs.YtenhnloljdfjhaaDoor
