/- Contract: a library read from its text, the program's (the walk). -/
import Derived.Test.YtenhnloljdfjhaaDoorPk40
namespace Go.Proofs.YtenhnloljdfjhaaDoor
open Go Go.RowKit
set_option linter.unusedVariables false
set_option linter.unusedSimpArgs false

theorem OwnM.base {w : World} {base b2 : Nat} {v : Value} {ms : List Mt} {vs : List Value} (h : OwnM w base v ms vs) (hb : b2 ≤ base) : OwnM w b2 v ms vs := ⟨own_base h.1 hb, h.2.1, fun p hp => own_base (h.2.2 p hp) hb⟩
theorem meth_one (m : Mt) (x : Value) (hx : x.oneCell' = true) : ∀ u ∈ [Value.string m.name, .int .i64 m.stage, x], u.oneCell' = true := by
  intro u hu
  simp at hu
  rcases hu with rfl | rfl | rfl
  · rfl
  · rfl
  · exact hx
theorem info_methB : (Tryd.prog.info? 34).map (fun i => (i.zero, i.size, i.bytes)) = some (some (.agg #[.string ⟨#[]⟩, .int .i64 0, .slice none 0 0]), 3, 48) := by kernel_rfl
set_option maxRecDepth 100000 in
set_option maxHeartbeats 8000000 in
theorem implReadLibrary_any (s : ByteArray) (w : World) (hs : s.size ≤ 1048576) (ht : Tab10 w) (hm : MaxOk w) : Calls Tryd.prog 5 #[.string s] w (RLPostD w s) := by
  obtain ⟨X, x, hL⟩ : ∃ X x, splitW 10 s = X ++ [x] := by
    rcases List.eq_nil_or_concat (splitW 10 s) with h | ⟨X, x, h⟩
    · have := splitW_len 10 s; rw [h] at this; simp at this
    · exact ⟨X, x, by rw [h]; simp⟩
  have hXl : X.length ≤ s.size := by
    have := splitW_leL (c := 10) (s := s); rw [hL] at this; simp at this; exact this
  have HXs : Hid (∀ (k : Nat) (h : k < X.length), X[k].size ≤ 1048576) := Lib.hid (fun k h => Nat.le_trans (splitW_size (c := 10) (s := s) X[k] (by rw [hL]; simp)) hs)
  have Hlo := Lib.hid (fun W (hW : Below w.heap.size w W) => linesOf_anyL s X x W hL hs (hm.to hW))
  have Hsp := Lib.hid (fun (y : ByteArray) (hy : y.size ≤ 1048576) W (hW : Below w.heap.size w W) => splitO_anyL y 32 W hy (hm.to hW))
  have HL := Lib.hid hL
  have Ht := Lib.hid ht
  clear hL hm ht
  have Hno0 := Lib.hid (fun (h : lbR s = none) W (hW : Below w.heap.size w W) => rl_noneD (w' := W) h hW)
  cases he : x.toList.isEmpty
  · have Hno := Lib.hid (Hno0.out (lbR_last HL.out (fun h => by rw [empty_iff, h] at he; simp at he)))
    rw [he] at Hlo
    clear he HXs Hsp Hno0
    go_enter Tryd.func5, Tryd.ntmps5
    go_wp2_with fail
    refine (Hlo.out _ (Below.refl _ _)).mono ?_; rintro e w1 ⟨rfl, hS, hb1⟩
    clear hS
    go_wp2_with fail
    go_ret2
    exact Hno.out _ hb1
  rw [he] at Hlo
  clear he
  by_cases hsz : s.size ≤ 8000
  rotate_left
  · have Hno := Lib.hid (Hno0.out (lbR_big hsz))
    have hsz' : 8000 < s.size := by omega
    clear hsz HXs Hsp Hno0
    go_enter Tryd.func5, Tryd.ntmps5
    go_wp2_with fail
    refine (Hlo.out _ (Below.refl _ _)).mono ?_; rintro e w1 ⟨rfl, hS, hb1⟩
    clear hS
    go_wp2_with fail
    go_ret2
    exact Hno.out _ hb1
  have hdl : (splitW 10 s).dropLast = X := by rw [HL.out, List.dropLast_concat]
  have Hno := Lib.hid (fun (h : rdM mtO X [] = none) => Hno0.out ((lbR_impl hsz).trans (lbG_no (by rw [hdl]; exact h))))
  have Hyes := Lib.hid (fun ms (h : rdM mtO X [] = some ms) => (lbR_impl hsz).trans (lbG_some (by rw [hdl]; exact h)))
  obtain ⟨F, hF⟩ : ∃ F, F = rdM mtO X [] := ⟨_, rfl⟩
  rw [← hF] at Hno Hyes
  have HF := Lib.hid hF
  clear hF hdl
  go_enter Tryd.func5, Tryd.ntmps5
  go_wp2_with fail
  refine (Hlo.out _ (Below.refl _ _)).mono ?_; rintro e w1 ⟨rfl, hS, hb1⟩
  obtain ⟨A', c', e', h1', h2', hr'⟩ := hS
  injection e' with ea eb ec
  subst ea ec
  clear eb
  have HC : Hid (∀ (k : Nat) (h : k < X.length) W, Below w1.heap.size w1 W → W.cell? ⟨w.heap.size, k, none⟩ = some (.string X[k])) := Lib.hid (fun k h W hW => by
    obtain ⟨ad, e, hC⟩ := strs_el hr' h
    cases e
    have h9 := hC W hW
    rw [Addr.add_lit, Nat.zero_add] at h9
    exact h9)
  have hz1 := hb1.size
  have Hb1 := Lib.hid hb1
  clear hr' h1' h2' hb1 Hlo
  go_wp2_with fail
  refine box1 (C := fun W => Code.wp _ _ _ _ W) ?_
  intro wq hwq k1 hBq
  have hown : OwnM wq w1.heap.size (.slice (some ⟨w1.heap.size, 0, none⟩) 0 0) [] [] := ⟨own_of_heap (base := w1.heap.size) (n := 0) (size := 3) k1 (Nat.le_refl _) (by unfold maxLen; omega) rfl, rfl, fun p hp => by simp at hp⟩
  have Hown := Lib.hid hown
  have Hwq := Lib.hid hwq
  clear k1 hBq hown hwq
  go_loopw [6, 31] (fun v i wr => ∃ (j : Nat) (acc : List Mt) (vs : List Value) (A : Option Addr) (c : Nat), j ≤ X.length ∧ i = .int .i64 j ∧ v = .slice A j c ∧ Hid (acc.length = j) ∧ Hid (∀ m ∈ acc, MSm m) ∧ Hid (OwnM wr w1.heap.size (.slice A j c) acc vs) ∧ Hid (ApM vs) ∧ Below w1.heap.size w1 wr ∧ Hid (rdM mtO (X.drop j) acc = F)) (fun _ i _ => X.length - (intOf i).toNat)
  case atStart => exact ⟨0, [], [], _, _, by omega, rfl, rfl, Lib.hid rfl, Lib.hid (by simp), Hown, Lib.hid List.Pairwise.nil, Hwq.out, Lib.hid (by rw [List.drop_zero, HF.out])⟩
  case round =>
    obtain ⟨j, acc, vs, A, c, hj, rfl, rfl, Hal, Hsm, Hown, Hap, hB, Hr⟩ := hrel
    have hBw := bw_to Hb1.out hB
    have hzr := hB.size
    have HB := Lib.hid hB
    have HBw := Lib.hid hBw
    by_cases hlt : j < X.length
    · have qj := HC.out j hlt wr hB
      have hr2 := Hr.out
      rw [List.drop_eq_getElem_cons hlt] at hr2
      have Hy := Lib.hid (HXs.out j hlt)
      obtain ⟨y, hy⟩ : ∃ y, y = X[j] := ⟨_, rfl⟩
      rw [← hy] at qj hr2 Hy
      have Hr2 := Lib.hid hr2
      have Hs1 := Lib.hid (Hsp.out y Hy.out wr hBw)
      have hpz := splitW_size (c := 32) (s := y)
      clear hr2 hy hB hBw
      rcases three_or (splitW 32 y) with ⟨a, b, d, h3⟩ | h3
      rotate_left
      · have Hbad := Lib.hid (Hno.out (by rw [← Hr2.out, rdM_none (mtO_no h3)]))
        obtain ⟨Wl, hWl⟩ : ∃ L, L = splitW 32 y := ⟨_, rfl⟩
        rw [← hWl] at Hs1 h3
        have g1 : ((Wl.length : Int) == 3) = false := by simp; omega
        have g2 : ((Wl.length : Int) != 3) = true := by rw [bne, g1]; rfl
        clear hWl hpz h3
        go_wp2_with fail
        refine Hs1.out.mono ?_; rintro e w3 ⟨rfl, ho3, hb3⟩
        clear ho3
        go_wp2_with fail
        go_ret2
        exact Hbad.out _ (bw_to HBw.out hb3)
      · rw [h3] at Hs1 hpz
        have hyz := Hy.out
        have haz := hpz a (by simp)
        have hbz := hpz b (by simp)
        have hdz := hpz d (by simp)
        have HO := mtO_yes h3
        have Hnb := Lib.hid (fun W => number_any b 1 W (by unfold maxLen; omega) (by omega))
        obtain ⟨N, hN⟩ : ∃ N, N = numV b.data.toList 1 := ⟨_, rfl⟩
        obtain ⟨rb, hrb⟩ : ∃ rb, rb = canB b.data.toList 1 := ⟨_, rfl⟩
        have Hnb1 : Hid (∀ W, Calls Tryd.prog 16 #[.string b, .int .i64 1] W fun e w' => e = .returned (.tuple #[.int .i64 N, .bool rb]) ∧ W = w') := Lib.hid (by rw [hN, hrb]; exact Hnb.out)
        rw [← hN, ← hrb] at HO
        have Hrn := Lib.hid (fun W => implReadN_any N d W (by omega))
        unfold NtnPost at Hrn
        have Hso := Lib.hid (fun L (h : ntnO N d = some L) => ntn_small h)
        obtain ⟨O, hO⟩ : ∃ O, O = ntnO N d := ⟨_, rfl⟩
        rw [← hO] at Hrn HO Hso
        have HOO := Lib.hid HO
        clear hpz hN hrb hO HO h3 Hnb
        go_wp2_with fail
        refine Hs1.out.mono ?_; rintro e w3 ⟨rfl, ho3, hb3⟩
        have a0 := ho3.cellAt 0 (by simp)
        have a1 := ho3.cellAt 1 (by simp)
        have a2 := ho3.cellAt 2 (by simp)
        have Ho3 := Lib.hid ho3
        have hz3 := hb3.size
        have Hb3 := Lib.hid hb3
        clear ho3 hb3
        go_wp2_with fail
        refine (Hnb1.out _).mono ?_; rintro e w4 ⟨rfl, rfl⟩
        go_wp2_with fail
        refine (Hrn.out _).mono ?_; rintro e w5 ⟨v5, cc, aa, rfl, ho5, hb5⟩
        obtain ⟨A5, c5, rfl⟩ := nb_slice ho5
        have hB5 := bw_to (bw_to HB.out Hb3.out) hb5
        have hBw5 := bw_to (bw_to HBw.out Hb3.out) hb5
        have b0 := (own_to Ho3.out hb5).cellAt 0 (by simp)
        have hO5 := Hown.out.to (bw_to Hb3.out hb5)
        have Hap5 := Lib.hid (Hap.out.snoc (Hown.out.to Hb3.out) (fun k hk => (ho5.lt k hk).1))
        have ho5' := own_base (base' := w1.heap.size) ho5 (by omega)
        have hz5 := hb5.size
        have HO5 := Lib.hid hO5
        have Ho5 := Lib.hid ho5'
        have HB5 := Lib.hid hB5
        have HBw5 := Lib.hid hBw5
        clear ho5 ho5' hb5 hO5 hB5 hBw5 a0 a1 a2 qj
        cases rb
        · have Hbad := Lib.hid (Hno.out (by rw [← Hr2.out, rdM_none (by rw [HOO.out]; rfl)]))
          go_wp2_with fail
          go_ret2
          exact Hbad.out _ HBw5.out
        · cases O with
          | none =>
            have Hbad := Lib.hid (Hno.out (by rw [← Hr2.out, rdM_none (by rw [HOO.out]; rfl)]))
            go_wp2_with fail
            go_ret2
            exact Hbad.out _ HBw5.out
          | some L =>
            have hsL := Hso.out L rfl
            have Hgo : Hid (rdM mtO (X.drop (j + 1)) (acc ++ [⟨a, N, L⟩]) = F) := Lib.hid (by rw [← Hr2.out, rdM_some (by rw [HOO.out]; rfl)])
            simp only [Option.isSome_some, Option.getD_some] at Ho5 ⊢
            have hal := Hal.out
            have ho1 := HO5.out.1
            rw [hal] at ho1
            have Ho1 := Lib.hid ho1
            have hBs := HB5.out.size
            clear ho1
            go_wp2_with (at_builtin; go_must (refine wpList_app _ rfl _ _ _ rfl w1.heap.size 34 _ 3 48 Tryd.underlying22 info_methB rfl (by omega) Ho1.out [.string a, .int .i64 N, .slice A5 L.length c5] rfl rfl rfl (meth_one ⟨a, N, L⟩ _ rfl) (by omega) (by omega) (by omega) ?_); intro v6 w6 hown6 hb6 hg6 _; (obtain ⟨A6, q6, rfl⟩ := nb_slice hown6); (have Hown6 := Lib.hid hown6); (have Hb6 := Lib.hid hb6); (have Hg6 := Lib.hid hg6); clear hown6 hb6 hg6)
            have hp := OwnM.push (m := ⟨a, N, L⟩) HO5.out Ho5.out (by rw [hal]; exact Hown6.out) Hg6.out
            have HP := Lib.hid hp
            clear hp
            refine ⟨⟨j + 1, acc ++ [⟨a, N, L⟩], vs ++ [.slice A5 L.length c5], A6, q6, by omega, by go_num, rfl, Lib.hid (by simp [hal]), Lib.hid ?_, HP, Hap5, HB5.out.trans Hb6.out, Hgo⟩, by simp [intOf]; omega⟩
            intro m hm'
            rcases List.mem_append.1 hm' with hm' | hm'
            · exact Hsm.out m hm'
            · simp at hm'
              subst hm'
              exact ⟨by show a.size ≤ 1048576; omega, hsL⟩
    · obtain rfl : j = X.length := by omega
      have hFa : F = some acc := by
        have e := Hr.out
        rw [List.drop_eq_nil_of_le (Nat.le_refl _)] at e
        exact e.symm
      have hy := Hyes.out acc hFa
      have hal := Hal.out
      have HA := Lib.hid (allSmall_of (by omega) Hsm.out)
      have HM := Lib.hid (Hown.out.own.meths HA.out)
      have Hgl := Lib.hid (fun W (hW : Below wr.heap.size wr W) => implGoodLibrary_any _ acc W (HM.out.to hW) HA.out)
      have Hlt := Lib.hid (fun W (hW : Below wr.heap.size wr W) (hk : libB acc = true) => libraryText_any _ acc W (HM.out.to hW) HA.out hk (Ht.out.to (bw_to HBw.out hW)))
      obtain ⟨ok, hok⟩ : ∃ b, b = libB acc := ⟨_, rfl⟩
      rw [← hok] at hy Hgl Hlt
      obtain ⟨P, hP⟩ : ∃ P, P = libTo acc acc.length := ⟨_, rfl⟩
      rw [← hP] at hy Hlt
      have HY := Lib.hid hy
      have Hal' := Lib.hid hal
      clear hFa hy hok hP hal hB hBw
      go_wp2_with fail
      refine (Hgl.out _ (Below.refl _ _)).mono ?_; rintro e w6 ⟨rfl, hb6⟩
      cases ok
      · have Hbad := Lib.hid (Hno0.out (by rw [HY.out]; rfl))
        go_wp2_with fail
        go_ret2
        exact Hbad.out _ (bw_to HBw.out hb6)
      · go_wp2_with fail
        refine (Hlt.out _ hb6 (by trivial)).mono ?_; rintro e w7 ⟨rfl, hb7⟩
        have hb67 := bw_to hb6 hb7
        have hPq : (P.toList == s.toList) = decide (P = s) := by
          rw [bytes_toList, bytes_toList]
          by_cases h : P = s
          · subst h; simp
          · rw [decide_eq_false h]
            simp only [beq_eq_false_iff_ne, ne_eq]
            intro e
            exact h (by apply ByteArray.ext; exact Array.toList_inj.1 e)
        by_cases hPs : P = s
        · have Hok := Lib.hid (HY.out.trans (by rw [decide_eq_true hPs]; rfl : _ = some acc))
          rw [decide_eq_true hPs] at hPq
          clear hPs
          go_wp2_with fail
          go_ret2
          exact rl_someD Hok.out ((Hown.out.to hb67).base hz1) Hap.out (bw_to HBw.out hb67)
        · have Hbad := Lib.hid (Hno0.out (by rw [HY.out, decide_eq_false hPs]; rfl))
          rw [decide_eq_false hPs] at hPq
          clear hPs
          go_wp2_with fail
          go_ret2
          exact Hbad.out _ (bw_to HBw.out hb67)
end Go.Proofs.YtenhnloljdfjhaaDoor
