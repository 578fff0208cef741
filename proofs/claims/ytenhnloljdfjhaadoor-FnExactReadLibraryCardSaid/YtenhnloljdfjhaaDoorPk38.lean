/- Contract: a place notation read, the reference's. -/
import Derived.Test.YtenhnloljdfjhaaDoorPk37
namespace Go.Proofs.YtenhnloljdfjhaaDoor
open Go Go.RowKit
set_option linter.unusedVariables false
set_option linter.unusedSimpArgs false

def fM (b : Bool) (L : List ByteArray) : List ByteArray := if b then mirL L else L
theorem fM_len {b : Bool} {L : List ByteArray} : (fM b L).length ≤ 2 * L.length := by
  unfold fM
  split
  · rw [mirL_len]; omega
  · omega
theorem fM_sum {n : Nat} {b : Bool} : ∀ {B : List (List ByteArray)}, (∀ L ∈ B, L.length ≤ n) → (B.flatMap (fM b)).length ≤ B.length * (2 * n)
  | [], _ => by simp
  | L :: B, h => by
    have h1 := fM_sum (n := n) (b := b) (B := B) (fun M hM => h M (List.mem_cons_of_mem _ hM))
    have h2 := h L (by simp)
    have h3 := fM_len (b := b) (L := L)
    rw [List.flatMap_cons, List.length_append, List.length_cons, Nat.add_mul]
    omega
theorem fM_take {B : List (List ByteArray)} {b : Bool} {k : Nat} (h : k < B.length) : (B.take (k + 1)).flatMap (fM b) = (B.take k).flatMap (fM b) ++ fM b B[k] := by
  rw [List.take_succ_eq_append_getElem h, List.flatMap_append]
  simp
theorem outL_f {B : List (List ByteArray)} (h : 1 ≤ B.length) : outL B = B.flatMap (fM (decide (1 < B.length))) := by
  by_cases h1 : 1 < B.length
  · rw [outL_many h1, decide_eq_true h1]
    rfl
  · rw [outL_one (by omega), decide_eq_false h1]
    have h2 : B.length = 1 := by omega
    match B, h2 with
    | [b], _ => simp [fM]
def RB0 (w : World) (g : Nat) (n : Int) (s : ByteArray) (k : Nat) : Prop := ∃ A m c, w.ownsRow g 48 5 (.slice (some ⟨g, 0, none⟩) 1 1) 1 [.int .i64 n, .string s, .int .i64 k, .slice A m c, .int .i64 (-1)]
theorem RB0.at_ {w : World} {g : Nat} {n : Int} {s : ByteArray} {k : Nat} (h : RB0 w g n s k) (j : Nat) : RB0 (w.setCell ⟨g, 2, none⟩ (.int .i64 j)) g n s j := by
  obtain ⟨A, m, c, h1⟩ := h
  exact ⟨A, m, c, own_set h1 2 _⟩
theorem RB0.atOf {w : World} {g : Nat} {n : Int} {s : ByteArray} {k : Nat} (h : RB0 w g n s k) : atOf g w = k := by
  obtain ⟨A, m, c, h1⟩ := h
  unfold Proofs.YtenhnloljdfjhaaDoor.atOf
  rw [(h1.cellAt 2 (by omega)).trans rfl]
  simp
set_option maxRecDepth 100000 in
set_option maxHeartbeats 8000000 in
theorem specReadN_any (n : Int) (s : ByteArray) (w : World) (hs : s.size ≤ 1048576) : Calls Tryd.prog 10 #[.int .i64 n, .string s] w (NtnPost w n s) := by
  by_cases hn : 3 ≤ n ∧ n ≤ 8
  rotate_left
  · have e1 : decide (3 ≤ n ∧ n ≤ 8) = false := decide_eq_false hn
    have Hno := Lib.hid (fun c a => ntn_no (w := w) (w' := w) c a (ntn_none (s := s) (fun h => hn h.1)) (Below.refl _ _))
    clear hn
    go_enter Tryd.func10, Tryd.ntmps10
    go_wp2_with (go_at_call 24; refine (l1In_any _ _ _ _).mono ?_; rintro e w' ⟨rfl, rfl⟩; rw [e1])
    refine bodyPost_ret (v := .tuple #[.slice none 0 0, .int .i64 0, .int .i64 0, .bool false]) ?hr rfl (Hno.out 0 0)
    case hr => simp [results, go_sem]
  have e1 : decide (3 ≤ n ∧ n ≤ 8) = true := decide_eq_true hn
  have hz := empty_iff s
  by_cases hz1 : 1 ≤ s.size ∧ s.size ≤ 200
  rotate_left
  · have Hno := Lib.hid (fun c a => ntn_no (w := w) (w' := w) c a (ntn_none (n := n) (s := s) (fun h => hz1 h.2)) (Below.refl _ _))
    by_cases h0 : s.size = 0
    · rw [decide_eq_true (by rw [bytes_len]; exact h0)] at hz
      clear hz1 h0
      go_enter Tryd.func10, Tryd.ntmps10
      go_wp2_with (go_at_call 24; refine (l1In_any _ _ _ _).mono ?_; rintro e w' ⟨rfl, rfl⟩; rw [e1])
      refine bodyPost_ret (v := .tuple #[.slice none 0 0, .int .i64 1, .int .i64 0, .bool false]) ?hr rfl (Hno.out 1 0)
      case hr => simp [results, go_sem]
    · rw [decide_eq_false (by rw [bytes_len]; exact h0)] at hz
      have hb : 200 < s.size := by omega
      clear hz1 h0
      go_enter Tryd.func10, Tryd.ntmps10
      go_wp2_with (go_at_call 24; refine (l1In_any _ _ _ _).mono ?_; rintro e w' ⟨rfl, rfl⟩; rw [e1])
      refine bodyPost_ret (v := .tuple #[.slice none 0 0, .int .i64 1, .int .i64 0, .bool false]) ?hr rfl (Hno.out 1 0)
      case hr => simp [results, go_sem]
  rw [decide_eq_false (by rw [bytes_len]; omega)] at hz
  have h1 : s.size ≤ 200 := hz1.2
  go_enter Tryd.func10, Tryd.ntmps10
  go_wp2_with (go_at_call 24; refine (l1In_any _ _ _ _).mono ?_; rintro e w' ⟨rfl, rfl⟩; rw [e1])
  refine box1 (C := fun W => Code.wp _ _ _ _ W) ?_
  intro wb hw k1 hB0
  have hN0 : RB0 wb w.heap.size n s 0 := ⟨none, 0, 0, own_of_heap (base := w.heap.size) (n := 1) (size := 5) k1 (Nat.le_refl _) (by unfold maxLen; omega) rfl⟩
  have hO0 : OwnBV wb (w.heap.size + 1) (.slice none 0 0) [] [] := ⟨World.ownsRow_nil _ _ _ _, fun i h => absurd h (Nat.not_lt_zero _)⟩
  have hz0 := blk_lt k1
  have HN0 := Lib.hid hN0
  have HO0 := Lib.hid hO0
  have Hw := Lib.hid hw
  have HF := Lib.hid (fun (bs : List (List ByteArray)) (h : ntW n s.data.toList = some bs) => ntn_some ⟨hn, hz1⟩ h)
  have HF2 := Lib.hid (fun (h : ntW n s.data.toList = none) => ntn_bad h)
  clear k1 hB0 hN0 hO0 hw
  go_loopw [9] (fun v wr => ∃ (acc : List (List ByteArray)) (vs : List Value) (A : Option Addr) (c j : Nat), v = .slice A acc.length c ∧ OwnBV wr (w.heap.size + 1) (.slice A acc.length c) acc vs ∧ j ≤ s.size ∧ acc.length ≤ j ∧ Hid (∀ L ∈ acc, L.length ≤ 201) ∧
    Hid (ntW n s.data.toList = (ntW n (txF s j)).map (fun p => acc ++ p)) ∧ RB0 wr w.heap.size n s j ∧ Below w.heap.size w wr ∧ w.heap.size + 1 ≤ wr.heap.size) (fun _ wr => s.size + 1 - atOf w.heap.size wr)
  case atStart =>
    refine ⟨[], [], _, _, 0, rfl, HO0.out, by omega, by simp, Lib.hid (by simp), Lib.hid ?_, HN0.out, Hw.out, by omega⟩
    rw [txF_zero]
    cases ntW n s.data.toList with
    | none => rfl
    | some p => rfl
  case round =>
    obtain ⟨acc, vs, A, c, j, rfl, hO, hj, hal, Hac, Hsum, hN, hB, hsz⟩ := hrel
    have Hm := Lib.hid hN.atOf
    obtain ⟨A0, m0, c0, hbox⟩ := hN
    have d3 := hbox.cellAt 3 (by omega)
    have f3 := hbox.frozenAt 3
    have hgl := (hbox.lt w.heap.size rfl).2
    have hN1 : RBox (wr.setCell ⟨w.heap.size, 3, none⟩ (.slice none 0 0)) (wr.setCell ⟨w.heap.size, 3, none⟩ (.slice none 0 0)).heap.size w.heap.size n s j [] (-1) := ⟨none, 0, own_set hbox 3 _, World.ownsRow_nil _ _ _ _⟩
    have hO1 := hO.kept (nb_set (nb_refl wr w.heap.size) 3 (.slice none 0 0)) (fun k e => .inl (by injection e with e; omega))
    have hB1 := grow_set hB (Nat.le_refl _) (j := 3) (.slice none 0 0)
    have h8 : ∀ (W : World) p v, (W.setCell p v).heap.size = W.heap.size := by intro W p v; simp
    have hsz1 : w.heap.size + 1 ≤ (wr.setCell ⟨w.heap.size, 3, none⟩ (.slice none 0 0)).heap.size := by rw [h8]; exact hsz
    have HO := Lib.hid hO1
    have HB := Lib.hid hB1
    have HN1 := Lib.hid hN1
    have Hsz1 := Lib.hid hsz1
    clear hO hO1 hB hB1 HN0 HO0 Hw hbox hN1 hsz1
    go_upto_region 8 with fail
    obtain ⟨wz, hwz⟩ : ∃ wz, wz = wr.setCell ⟨w.heap.size, 3, none⟩ (.slice none 0 0) := ⟨_, rfl⟩
    rw [← hwz] at HO HB HN1 Hsz1 ⊢
    have hsz := Hsz1.out
    have Hbk := Lib.hid (rblock_any wz w.heap.size n s j HN1.out hj (by omega) hn)
    clear hwz HN1 d3 f3
    go_wp2_with fail
    refine Hbk.out.mono ?_
    rintro e w2 ⟨rfl, hgb, hC⟩
    have hO2 := HO.out.kept hgb (fun k e => .inl (by injection e with e; omega))
    have hB2 := nb_below HB.out hgb (Nat.le_refl _)
    have hz2 := hgb.size
    have HO2 := Lib.hid hO2
    have HB2 := Lib.hid hB2
    clear hO2 hB2 hgb
    rcases hC with ⟨hno, a, b, L, ha, hN2⟩ | ⟨L, at', hyes, hjk, hat, hLl, hN2⟩
    · have HX := Lib.hid (HF2.out (by rw [Hsum.out, ntW_none hno]; rfl))
      obtain ⟨d0, d1, d2, d4⟩ := hN2.cells
      clear hno hN2
      go_wp2_with fail
      go_big_quiet (fail)
      go_wp2_with fail
      refine bodyPost_ret (v := .tuple #[.slice none 0 0, .int .i64 2, .int .i64 b, .bool false]) ?hr rfl (ntn_no _ _ HX.out (bw_to HB2.out (bw_dr (Below.refl _ _) _)))
      case hr => simp [results, go_sem]
    · obtain ⟨A2, c2, hbox, hrow⟩ := hN2
      have d2 : w2.cell? ⟨w.heap.size, 2, none⟩ = some (.int .i64 at') := (hbox.cellAt 2 (by omega)).trans rfl
      have d3 : w2.cell? ⟨w.heap.size, 3, none⟩ = some (.slice A2 L.length c2) := (hbox.cellAt 3 (by omega)).trans rfl
      have d4 : w2.cell? ⟨w.heap.size, 4, none⟩ = some (.int .i64 (-1)) := (hbox.cellAt 4 (by omega)).trans rfl
      have Hbox := Lib.hid hbox
      have Hrow2 := Lib.hid (own_base (base' := w.heap.size + 1) hrow hsz)
      clear hbox hrow
      go_upto_region 12 with (at_builtin; go_must (refine wpList_app _ rfl _ _ _ rfl (w.heap.size + 1) 28 _ 1 24 Tryd.underlying49 info_lst rfl (by omega) HO2.out.1 [.slice A2 L.length c2] rfl rfl rfl (one_mem rfl) (by omega) (by omega) (by omega) ?_); intro v2 w3 hown3 hb3 hg3 _; (obtain ⟨A3, q3, rfl⟩ := nb_slice hown3); (have hbox3 := own_blk Hbox.out (hb3.block w.heap.size (by omega))); (have e2 : w3.cell? ⟨w.heap.size, 2, none⟩ = some (.int .i64 at') := (hbox3.cellAt 2 (by omega)).trans rfl); (have f2 := hbox3.frozenAt 2); (have Hbox3 := Lib.hid hbox3); (have Hown3 := Lib.hid hown3); (have Hb3 := Lib.hid hb3); (have Hg3 := Lib.hid hg3); clear hown3 hb3 hbox3 hg3)
      have hO3 := OwnBV.push HO2.out Hrow2.out Hown3.out Hg3.out
      have hB3 := HB2.out.trans (Hb3.out.mono (by omega))
      have hz3 := Hb3.out.size
      have hl3 : (acc ++ [L]).length = acc.length + 1 := by simp
      have HO3 : Hid (OwnBV w3 (w.heap.size + 1) (.slice A3 (acc ++ [L]).length q3) (acc ++ [L]) (vs ++ [.slice A2 L.length c2])) := Lib.hid (by rw [hl3]; exact hO3)
      have HB3 := Lib.hid hB3
      have Hl3 := Lib.hid hl3
      have HN3 : Hid (RB0 w3 w.heap.size n s at') := Lib.hid ⟨A2, L.length, c2, Hbox3.out⟩
      clear hO3 hB3 hl3 d2 d3 d4
      by_cases hend : at' = s.size
      rotate_left
      · have hat2 : at' < s.size := by omega
        have HY := Lib.hid (nt_more hyes hat2)
        have g1 : ((at' : Int) == (s.size : Int)) = false := by simp; omega
        have hw1 : IntKind.i64.wrap ((at' : Int) + 1) = at' + 1 := IntWalk.i64_in _ ⟨by omega, by omega⟩
        clear hyes hend
        go_wp2_with fail
        refine ⟨⟨acc ++ [L], vs ++ [.slice A2 L.length c2], A3, q3, at' + 1, by rw [Hl3.out], HO3.out.kept (nb_set (nb_refl _ _) 2 _) (fun k e => .inl (by injection e with e; omega)), by omega, by rw [Hl3.out]; omega, Lib.hid ?_, Lib.hid ?_, HN3.out.at_ (at' + 1), grow_set HB3.out (Nat.le_refl _) _, ?_⟩, ?_⟩
        · intro M hM
          rcases List.mem_append.1 hM with hM | hM
          · exact Hac.out M hM
          · simp at hM; subst hM; omega
        · rw [Hsum.out, HY.out, Option.map_map]
          cases ntW n (txF s (at' + 1)) with
          | none => rfl
          | some p => simp
        · have h8 : ∀ (W : World) p v, (W.setCell p v).heap.size = W.heap.size := by intro W p v; simp
          rw [h8]; omega
        · refine Nat.lt_of_le_of_lt (Nat.le_of_eq (congrArg (s.size + 1 - ·) (HN3.out.at_ (at' + 1)).atOf)) ?_
          rw [Hm.out]
          omega
      · subst hend
        have HY := Lib.hid (HF.out (acc ++ [L]) (by rw [Hsum.out, nt_stop hyes (Nat.le_refl _)]; simp))
        have g1 : ((s.size : Int) == (s.size : Int)) = true := by simp
        have hBl : (acc ++ [L]).length ≤ 201 ∧ 1 ≤ (acc ++ [L]).length := by rw [Hl3.out]; omega
        have HBs : Hid (∀ M ∈ acc ++ [L], M.length ≤ 201) := Lib.hid (by
          intro M hM
          rcases List.mem_append.1 hM with hM | hM
          · exact Hac.out M hM
          · simp at hM; subst hM; omega)
        rw [← Hl3.out]
        obtain ⟨B, hBdef⟩ : ∃ B, B = acc ++ [L] := ⟨_, rfl⟩
        obtain ⟨vb, hvb⟩ : ∃ vb, vb = vs ++ [.slice A2 L.length c2] := ⟨_, rfl⟩
        rw [← hBdef] at HO3 HY hBl HBs ⊢
        rw [← hvb] at HO3
        clear hyes hBdef hvb Hl3 Hac Hsum
        obtain ⟨gb, rfl, hgb⟩ := nb_ptr HO3.out.1 hBl.2
        have hX := HY.out
        rw [outL_f hBl.2] at hX
        obtain ⟨b1, hb1⟩ : ∃ b, b = decide (1 < B.length) := ⟨_, rfl⟩
        rw [← hb1] at hX
        have HX := Lib.hid hX
        have gB : decide ((1 : Int) < (B.length : Int)) = b1 := by rw [hb1]; exact decide_eq_decide.2 ⟨fun h => by omega, fun h => by omega⟩
        clear hX hb1
        go_wp2_with fail
        go_loopw [10, 12, 64] (fun v _ i wr => ∃ (k : Nat) (A : Option Addr) (q : Nat), k ≤ B.length ∧ i = .int .i64 k ∧ v = .slice A ((B.take k).flatMap (fM b1)).length q ∧ wr.ownsRow w3.heap.size 9 1 (.slice A ((B.take k).flatMap (fM b1)).length q) ((B.take k).flatMap (fM b1)).length (((B.take k).flatMap (fM b1)).map Value.string) ∧ Below w3.heap.size w3 wr) (fun _ _ i _ => B.length - (intOf i).toNat)
        case atStart => exact ⟨0, _, _, by omega, rfl, rfl, World.ownsRow_nil _ _ _ _, Below.refl _ _⟩
        case round =>
          obtain ⟨k, A9, q9, hk, rfl, rfl, ho9, hb9⟩ := hrel
          have Ho9 := Lib.hid ho9
          have Hb9 := Lib.hid hb9
          have hz9 := hb9.size
          clear ho9 hb9
          by_cases hlt : k < B.length
          · obtain ⟨A5, c5, hel⟩ := bv_el HO3.out hlt
            obtain ⟨q5, ho5⟩ := hel wr Hb9.out
            have Hmt := Lib.hid (fM_take (b := b1) hlt)
            have hms := fM_sum (n := 201) (b := b1) (B := B.take k) (fun M hM => HBs.out M (List.mem_of_mem_take hM))
            rw [List.length_take, Nat.min_eq_left hk] at hms
            have h5z := HBs.out _ (List.getElem_mem hlt)
            obtain ⟨L5, hL5⟩ : ∃ L5, L5 = B[k]'hlt := ⟨_, rfl⟩
            rw [← hL5] at q5 ho5 Hmt h5z
            have hms' : ((B.take k).flatMap (fM b1)).length ≤ 100000 := by
              have : k * (2 * 201) ≤ 201 * (2 * 201) := Nat.mul_le_mul_right _ (by omega)
              omega
            obtain ⟨S, hS⟩ : ∃ S, S = (B.take k).flatMap (fM b1) := ⟨_, rfl⟩
            rw [← hS] at Ho9 Hmt hms' ⊢
            clear hel hL5 hms hS
            cases b1
            · have hs6 := strs_of_own ho5
              have hn6 := nilok_own ho5
              have Hmt2 : Hid ((B.take (k + 1)).flatMap (fM false) = S ++ L5) := Hmt
              have HS6 := Lib.hid hs6
              have HN6 := Lib.hid hn6
              clear ho5 hs6 hn6 Hmt
              go_wp2_with (at_builtin; go_must (refine wpList_app_sl _ rfl _ _ _ rfl w3.heap.size 9 _ 1 16 Tryd.underlying28 info_str rfl (by omega) Ho9.out rfl HS6.out HN6.out rfl (strs_oneB _) (by omega) (by omega) (by omega) ?_); intro v7 w7 hown7 hb7 hg7 _; (obtain ⟨A7, q7, rfl⟩ := nb_slice hown7); (have Hown7 := Lib.hid hown7); (have Hb7 := Lib.hid hb7); clear hown7 hb7 hg7)
              refine ⟨⟨k + 1, A7, q7, by omega, by go_num, ?_, ?_, Hb9.out.trans Hb7.out⟩, by simp [intOf]; omega⟩
              · rw [Hmt2.out, List.length_append]
              · rw [Hmt2.out, List.length_append, List.map_append]
                exact Hown7.out
            · have Hmir := Lib.hid (l3Mirror_any (.slice A5 L5.length c5) L5 wr (strs_of_own ho5) (nilok_own ho5) (by omega))
              have hmL := mirL_len L5
              have hmL' : (mirL L5).length ≤ 402 := by omega
              have Hmt2 : Hid ((B.take (k + 1)).flatMap (fM true) = S ++ mirL L5) := Hmt
              clear ho5 hmL Hmt
              go_wp2_with fail
              refine Hmir.out.mono ?_
              rintro e w6 ⟨A6, c6, rfl, ho6, hb6⟩
              have hown9 := own_to Ho9.out hb6
              have hz6 := hb6.size
              have hs6 := sl_of_own ho6
              have hn6 := nilok_own ho6
              have Hb69 := Lib.hid (Hb9.out.trans (hb6.mono hz9))
              have HS6 := Lib.hid hs6
              have HN6 := Lib.hid hn6
              have Hown9 := Lib.hid hown9
              clear ho6 hb6 hs6 hn6 hown9
              go_wp2_with (at_builtin; go_must (refine wpList_app_sl _ rfl _ _ _ rfl w3.heap.size 9 _ 1 16 Tryd.underlying28 info_str rfl (by omega) Hown9.out rfl HS6.out HN6.out rfl (strs_oneB _) (by omega) (by omega) (by omega) ?_); intro v7 w7 hown7 hb7 hg7 _; (obtain ⟨A7, q7, rfl⟩ := nb_slice hown7); (have Hown7 := Lib.hid hown7); (have Hb7 := Lib.hid hb7); clear hown7 hb7 hg7)
              refine ⟨⟨k + 1, A7, q7, by omega, by go_num, ?_, ?_, Hb69.out.trans Hb7.out⟩, by simp [intOf]; omega⟩
              · rw [Hmt2.out, List.length_append]
              · rw [Hmt2.out, List.length_append, List.map_append]
                exact Hown7.out
          · obtain rfl : k = B.length := by omega
            rw [List.take_length] at Ho9 ⊢
            obtain ⟨S, hS⟩ : ∃ S, S = B.flatMap (fM b1) := ⟨_, rfl⟩
            rw [← hS] at Ho9 HX ⊢
            clear hS
            have HBf := Lib.hid (HB3.out.trans (Hb9.out.mono (by omega)))
            by_cases h4 : B.length ≤ 4
            · by_cases h40 : S.length ≤ 40
              · have HZ := Lib.hid (HX.out.trans (if_pos ⟨h4, h40⟩))
                go_wp2_with fail
                refine bodyPost_ret (v := .tuple #[.slice A9 S.length q9, .int .i64 0, .int .i64 0, .bool true]) ?hr rfl (ntn_yes HZ.out (own_base Ho9.out (by omega)) HBf.out)
                case hr => simp [results, go_sem]
              · have HZ := Lib.hid (HX.out.trans (if_neg (fun h => h40 h.2)))
                go_wp2_with fail
                all_goals (refine bodyPost_ret (v := .tuple #[.slice none 0 0, .int .i64 3, .int .i64 0, .bool false]) ?_ rfl (ntn_no _ _ HZ.out HBf.out); simp [results, go_sem])
            · have HZ := Lib.hid (HX.out.trans (if_neg (fun h => h4 h.1)))
              have h4' : 4 < B.length := by omega
              go_wp2_with fail
              refine bodyPost_ret (v := .tuple #[.slice none 0 0, .int .i64 3, .int .i64 0, .bool false]) ?hr rfl (ntn_no _ _ HZ.out HBf.out)
              case hr => simp [results, go_sem]
end Go.Proofs.YtenhnloljdfjhaaDoor
