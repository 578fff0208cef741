/- Contract: a place notation read, the program's. -/
import Derived.Test.YtenhnloljdfjhaaDoorPk36
namespace Go.Proofs.YtenhnloljdfjhaaDoor
open Go Go.RowKit
set_option linter.unusedVariables false
set_option linter.unusedSimpArgs false

theorem own_kindsB {w : World} {b1 b2 : Nat} {e1 e2 : TypeId} {s1 s2 n1 n2 : Nat} {v1 v2 : Value} {x1 x2 : List Value} (h1 : w.ownsRow b1 e1 s1 v1 n1 x1) (h2 : w.ownsRow b2 e2 s2 v2 n2 x2) (he : e1 ≠ e2) : v1.ownBlock = none ∨ v1.ownBlock ≠ v2.ownBlock := by
  rcases h1.2 with ⟨rfl, _⟩ | ⟨g, cap, cur, rfl, _, hg, _⟩
  · exact .inl rfl
  · refine .inr fun e => ?_
    rcases h2.2 with ⟨rfl, _⟩ | ⟨g', cap', cur', rfl, _, hg', _⟩
    · cases e
    · have : g = g' := by simpa [Value.ownBlock] using e
      subst this
      rw [hg] at hg'
      injection hg' with h
      injection h with _ h _
      exact he h
theorem nb_ptr {w : World} {base : Nat} {e : TypeId} {size n c : Nat} {A : Option Addr} {xs : List Value} (h : w.ownsRow base e size (.slice A n c) n xs) (hn : 1 ≤ n) : ∃ g, A = some ⟨g, 0, none⟩ ∧ g < w.heap.size := by
  rcases h.2 with ⟨e, _⟩ | ⟨g, cap, cur, e, hb, hg, _⟩
  · injection e with _ e; omega
  · injection e with e1 e2 e3
    exact ⟨g, e1, (Array.getElem?_eq_some_iff.1 hg).1⟩
theorem strs_oneB (l : List ByteArray) : ∀ u ∈ l.map Value.string, u.oneCell' = true := by
  intro u hu
  obtain ⟨x, _, rfl⟩ := List.mem_map.1 hu
  rfl
theorem mir_sum {n : Nat} : ∀ {B : List (List ByteArray)}, (∀ L ∈ B, L.length ≤ n) → (B.flatMap mirL).length ≤ B.length * (2 * n)
  | [], _ => by simp
  | L :: B, h => by
    have h1 := mir_sum (n := n) (B := B) (fun M hM => h M (List.mem_cons_of_mem _ hM))
    have h2 := h L (by simp)
    rw [List.flatMap_cons, List.length_append, mirL_len, List.length_cons, Nat.add_mul]
    omega
theorem mir_take {B : List (List ByteArray)} {k : Nat} (h : k < B.length) : (B.take (k + 1)).flatMap mirL = (B.take k).flatMap mirL ++ mirL B[k] := by
  rw [List.take_succ_eq_append_getElem h, List.flatMap_append]
  simp
theorem outL_one {B : List (List ByteArray)} (h : B.length = 1) : outL B = B[0] := by
  match B, h with
  | [b], _ => rfl
theorem outL_many {B : List (List ByteArray)} (h : 1 < B.length) : outL B = B.flatMap mirL := by
  match B, h with
  | a :: b :: t, _ => rfl
/-- A row of rows of texts of the call's own, with the rows' values. -/
def OwnBV (w : World) (base : Nat) (v : Value) (L : List (List ByteArray)) (vs : List Value) : Prop :=
  w.ownsRow base 28 1 v L.length vs ∧ ∀ i (h : i < L.length) (h' : i < vs.length), w.ownsRow base 9 1 vs[i] L[i].length (L[i].map Value.string)
theorem OwnBV.len {w : World} {base : Nat} {v : Value} {L : List (List ByteArray)} {vs : List Value} (h : OwnBV w base v L vs) : vs.length = L.length := by have := h.1.1; simpa using this
theorem OwnBV.to {w w' : World} {base : Nat} {v : Value} {L : List (List ByteArray)} {vs : List Value} (h : OwnBV w base v L vs) (hb : Below w.heap.size w w') : OwnBV w' base v L vs := ⟨own_to h.1 hb, fun i h1 h2 => own_to (h.2 i h1 h2) hb⟩
theorem OwnBV.base {w : World} {base b2 : Nat} {v : Value} {L : List (List ByteArray)} {vs : List Value} (h : OwnBV w base v L vs) (hb : b2 ≤ base) : OwnBV w b2 v L vs := ⟨own_base h.1 hb, fun i h1 h2 => own_base (h.2 i h1 h2) hb⟩
theorem OwnBV.nil (w : World) (base : Nat) : OwnBV w base (.slice none 0 0) [] [] := ⟨World.ownsRow_nil _ _ _ _, fun i h => absurd h (Nat.not_lt_zero _)⟩
theorem OwnBV.form {w : World} {base : Nat} {v : Value} {L : List (List ByteArray)} {vs : List Value} (h : OwnBV w base v L vs) : ∃ A c, v = .slice A L.length c := by obtain ⟨A, c, e, _⟩ := sl_of_own h.1; exact ⟨A, c, e⟩
theorem OwnBV.kept {w w' : World} {base : Nat} {row : Option Nat} {v : Value} {L : List (List ByteArray)} {vs : List Value} (h : OwnBV w base v L vs) (hg : w.grownBy w' row) (hr : ∀ k, row = some k → k < base ∨ w.heap.size ≤ k) : OwnBV w' base v L vs := by
  have key : ∀ {e : TypeId} {s n : Nat} {u : Value} {xs : List Value}, w.ownsRow base e s u n xs → w'.ownsRow base e s u n xs := by
    intro e s n u xs ho
    refine ho.kept hg ?_
    cases hb : u.ownBlock with
    | none => exact .inl rfl
    | some b => exact .inr fun e => by have := hr b e.symm; have := ho.lt b hb; omega
  exact ⟨key h.1, fun i h1 h2 => key (h.2 i h1 h2)⟩
theorem OwnBV.push {wA w3 : World} {base : Nat} {V V2 x : Value} {L : List (List ByteArray)} {l : List ByteArray} {vs : List Value} (h : OwnBV wA base V L vs) (hx : wA.ownsRow base 9 1 x l.length (l.map Value.string))
    (h3 : w3.ownsRow base 28 1 V2 (L.length + 1) (vs ++ [x])) (hg : wA.grownBy w3 V.ownBlock) : OwnBV w3 base V2 (L ++ [l]) (vs ++ [x]) := by
  have hl := h.len
  refine ⟨by rw [List.length_append]; exact h3, fun i h1 h2 => ?_⟩
  rw [List.length_append, List.length_singleton] at h1
  rcases Nat.lt_or_ge i L.length with hlt | hge
  · rw [List.getElem_append_left (by omega), List.getElem_append_left hlt]
    have ho := h.2 i hlt (by omega)
    exact ho.kept hg (own_kindsB ho h.1 (by decide))
  · obtain rfl : i = L.length := by omega
    have e1 : (vs ++ [x])[L.length] = x := by rw [List.getElem_append_right (by omega)]; simp [hl]
    have e2 : (L ++ [l])[L.length] = l := by rw [List.getElem_append_right (by omega)]; simp
    rw [e1, e2]
    exact hx.kept hg (own_kindsB hx h.1 (by decide))
/-- A row of a row of rows, in every later world. -/
theorem bv_el {w : World} {base gb c : Nat} {L : List (List ByteArray)} {vs : List Value} (h : OwnBV w base (.slice (some ⟨gb, 0, none⟩) L.length c) L vs) {j : Nat} (hj : j < L.length) :
    ∃ A q, ∀ W, Below w.heap.size w W → W.cell? ⟨gb, j, none⟩ = some (.slice A L[j].length q) ∧ W.ownsRow base 9 1 (.slice A L[j].length q) L[j].length (L[j].map Value.string) := by
  have hl := h.len
  obtain ⟨A, q, e⟩ := nb_slice (h.2 j hj (by omega))
  refine ⟨A, q, fun W hW => ?_⟩
  have h2 := h.to hW
  have h3 := h2.2 j hj (by omega)
  have h4 := h2.1.cellAt j (by omega)
  rw [List.getElem?_eq_getElem (by omega)] at h4
  rw [e] at h3 h4
  exact ⟨h4, h3⟩
theorem nt_stop {n : Int} {s : ByteArray} {j k' : Nat} {L : List ByteArray} (h : blkW n (txF s j) = some (L, txF s k')) (hk : s.size ≤ k') : ntW n (txF s j) = some [L] := by
  rw [txF_nil hk] at h
  exact ntW_end h
theorem nt_more {n : Int} {s : ByteArray} {j k' : Nat} {L : List ByteArray} (h : blkW n (txF s j) = some (L, txF s k')) (hk : k' < s.size) : ntW n (txF s j) = (ntW n (txF s (k' + 1))).map (fun p => L :: p) := by
  rw [txF_cons hk] at h
  exact ntW_more h
def NtnPost (w : World) (n : Int) (s : ByteArray) (e : Ending) (w' : World) : Prop := ∃ (v : Value) (c a : Int), e = .returned (.tuple #[v, .int .i64 c, .int .i64 a, .bool (ntnO n s).isSome]) ∧
  w'.ownsRow w.heap.size 9 1 v ((ntnO n s).getD []).length (((ntnO n s).getD []).map Value.string) ∧ Below w.heap.size w w'
theorem ntn_no {w w' : World} {n : Int} {s : ByteArray} (c a : Int) (h : ntnO n s = none) (hb : Below w.heap.size w w') : NtnPost w n s (.returned (.tuple #[.slice none 0 0, .int .i64 c, .int .i64 a, .bool false])) w' := by
  refine ⟨_, c, a, by rw [h]; rfl, ?_, hb⟩
  rw [h]
  exact World.ownsRow_nil _ _ _ _
theorem ntn_yes {w w' : World} {n : Int} {s : ByteArray} {L : List ByteArray} {A : Option Addr} {q : Nat} (h : ntnO n s = some L) (ho : w'.ownsRow w.heap.size 9 1 (.slice A L.length q) L.length (L.map Value.string)) (hb : Below w.heap.size w w') : NtnPost w n s (.returned (.tuple #[.slice A L.length q, .int .i64 0, .int .i64 0, .bool true])) w' := by
  refine ⟨_, 0, 0, by rw [h]; rfl, ?_, hb⟩
  rw [h]
  exact ho
theorem info_lst : (Tryd.prog.info? 28).map (fun i => (i.zero, i.size, i.bytes)) = some (some (.slice none 0 0), 1, 24) := by kernel_rfl
set_option maxRecDepth 100000 in
set_option maxHeartbeats 8000000 in
theorem implReadN_any (n : Int) (s : ByteArray) (w : World) (hs : s.size ≤ 1048576) : Calls Tryd.prog 17 #[.int .i64 n, .string s] w (NtnPost w n s) := by
  by_cases hn : 3 ≤ n ∧ n ≤ 8
  rotate_left
  · have e1 : decide (3 ≤ n ∧ n ≤ 8) = false := decide_eq_false hn
    have Hno := Lib.hid (fun c a => ntn_no (w := w) (w' := w) c a (ntn_none (s := s) (fun h => hn h.1)) (Below.refl _ _))
    clear hn
    go_enter Tryd.func17, Tryd.ntmps17
    go_wp2_with (go_at_call 31; refine (isStage_any _ _).mono ?_; rintro e w' ⟨rfl, rfl⟩; rw [e1])
    refine bodyPost_ret (v := .tuple #[.slice none 0 0, .int .i64 0, .int .i64 0, .bool false]) ?hr rfl (Hno.out 0 0)
    case hr => simp [results, go_sem]
  have e1 : decide (3 ≤ n ∧ n ≤ 8) = true := decide_eq_true hn
  have hz := empty_iff s
  by_cases hz1 : 1 ≤ s.size ∧ s.size ≤ 200
  rotate_left
  · have Hno := Lib.hid (fun c a => ntn_no (w := w) (w' := w) c a (ntn_none (n := n) (s := s) (fun h => hz1 h.2)) (Below.refl _ _))
    by_cases h0 : s.size = 0
    · rw [decide_eq_true (by rw [bytes_len]; exact h0)] at hz
      clear hz1 h0
      go_enter Tryd.func17, Tryd.ntmps17
      go_wp2_with (go_at_call 31; refine (isStage_any _ _).mono ?_; rintro e w' ⟨rfl, rfl⟩; rw [e1])
      refine bodyPost_ret (v := .tuple #[.slice none 0 0, .int .i64 1, .int .i64 0, .bool false]) ?hr rfl (Hno.out 1 0)
      case hr => simp [results, go_sem]
    · rw [decide_eq_false (by rw [bytes_len]; exact h0)] at hz
      have hb : 200 < s.size := by omega
      clear hz1 h0
      go_enter Tryd.func17, Tryd.ntmps17
      go_wp2_with (go_at_call 31; refine (isStage_any _ _).mono ?_; rintro e w' ⟨rfl, rfl⟩; rw [e1])
      refine bodyPost_ret (v := .tuple #[.slice none 0 0, .int .i64 1, .int .i64 0, .bool false]) ?hr rfl (Hno.out 1 0)
      case hr => simp [results, go_sem]
  rw [decide_eq_false (by rw [bytes_len]; omega)] at hz
  have h1 : s.size ≤ 200 := hz1.2
  go_enter Tryd.func17, Tryd.ntmps17
  go_wp2_with (go_at_call 31; refine (isStage_any _ _).mono ?_; rintro e w' ⟨rfl, rfl⟩; rw [e1])
  refine box2 (C := fun W => Code.wp _ _ _ _ W) ?_
  intro wb hw k1 k2 hB0
  have hN0 : NtBox wb w.heap.size n s 0 (-1) := own_of_heap (base := w.heap.size) (n := 1) (size := 4) k1 (Nat.le_refl _) (by unfold maxLen; omega) rfl
  have hO0 : OwnBV wb (w.heap.size + 1) (.slice (some ⟨w.heap.size + 1, 0, none⟩) 0 0) [] [] := ⟨own_of_heap (base := w.heap.size + 1) (n := 0) (size := 1) k2 (Nat.le_refl _) (by unfold maxLen; omega) rfl, fun i h => absurd h (Nat.not_lt_zero _)⟩
  have hz0 := blk_lt k2
  have HN0 := Lib.hid hN0
  have HO0 := Lib.hid hO0
  have Hw := Lib.hid hw
  have HF := Lib.hid (fun (bs : List (List ByteArray)) (h : ntW n s.data.toList = some bs) => ntn_some ⟨hn, hz1⟩ h)
  have HF2 := Lib.hid (fun (h : ntW n s.data.toList = none) => ntn_bad h)
  clear k1 k2 hB0 hN0 hO0 hw
  go_loopw [9] (fun v wr => ∃ (acc : List (List ByteArray)) (vs : List Value) (A : Option Addr) (c j : Nat), v = .slice A acc.length c ∧ OwnBV wr (w.heap.size + 1) (.slice A acc.length c) acc vs ∧ j ≤ s.size ∧ acc.length ≤ j ∧ Hid (∀ L ∈ acc, L.length ≤ 201) ∧
    Hid (ntW n s.data.toList = (ntW n (txF s j)).map (fun p => acc ++ p)) ∧ NtBox wr w.heap.size n s j (-1) ∧ Below w.heap.size w wr ∧ w.heap.size + 1 ≤ wr.heap.size) (fun _ wr => s.size + 1 - atOf w.heap.size wr)
  case atStart =>
    refine ⟨[], [], _, _, 0, rfl, HO0.out, by omega, by simp, Lib.hid (by simp), Lib.hid ?_, HN0.out, Hw.out, by omega⟩
    rw [txF_zero]
    cases ntW n s.data.toList with
    | none => rfl
    | some p => rfl
  case round =>
    obtain ⟨acc, vs, A, c, j, rfl, hO, hj, hal, Hac, Hsum, hN, hB, hsz⟩ := hrel
    have Hm := Lib.hid (atOf_is hN)
    have Hbk := Lib.hid (block_any wr w.heap.size n s j hN hj (by omega) hn)
    have HO := Lib.hid hO
    have HB := Lib.hid hB
    clear hO hN hB HN0 HO0 Hw
    go_wp2_with fail
    refine Hbk.out.mono ?_
    rintro e w2 ⟨hgb, L, A2, c2, rfl, hrow, hLl, hC⟩
    have hO2 := HO.out.kept hgb (fun k e => .inl (by injection e with e; omega))
    have hrow2 := own_base (base' := w.heap.size + 1) hrow hsz
    have hB2 := nb_below HB.out hgb (Nat.le_refl _)
    have hz2 := hgb.size
    have Hrow2 := Lib.hid hrow2
    have HO2 := Lib.hid hO2
    have HB2 := Lib.hid hB2
    clear hrow hrow2 hO2 hB2 hgb
    have hst : ∃ (at' : Nat) (bad : Int), at' ≤ s.size ∧ NtBox w2 w.heap.size n s at' bad ∧ ((∃ b : Nat, bad = b ∧ blkW n (txF s j) = none) ∨ (bad = -1 ∧ blkW n (txF s j) = some (L, txF s at') ∧ j < at')) := by
      rcases hC with ⟨h, a, b, h2, h3⟩ | ⟨k', h, h2, h3, h4⟩
      · exact ⟨a, b, h2, h3, .inl ⟨b, rfl, h⟩⟩
      · exact ⟨k', -1, h3, h4, .inr ⟨rfl, h, h2⟩⟩
    obtain ⟨at', bad, hat, hN2, hS⟩ := hst
    have HN2 := Lib.hid hN2
    have HS := Lib.hid hS
    clear hC hN2 hS
    go_upto_region 8 with (at_builtin; go_must (refine wpList_app _ rfl _ _ _ rfl (w.heap.size + 1) 28 _ 1 24 Tryd.underlying49 info_lst rfl (by omega) HO2.out.1 [.slice A2 L.length c2] rfl rfl rfl (one_mem rfl) (by omega) (by omega) (by omega) ?_); intro v2 w3 hown3 hb3 hg3 _; (obtain ⟨A3, q3, rfl⟩ := nb_slice hown3); (have hN3 := HN2.out.blk (hb3.block w.heap.size (by omega))); (obtain ⟨d0, d1, d2, d3⟩ := hN3.cells); (have HN3 := Lib.hid hN3); (have Hown3 := Lib.hid hown3); (have Hb3 := Lib.hid hb3); (have Hg3 := Lib.hid hg3); clear hown3 hb3 hN3 hg3)
    have hO3 := OwnBV.push HO2.out Hrow2.out Hown3.out Hg3.out
    have hB3 := HB2.out.trans (Hb3.out.mono (by omega))
    have hz3 := Hb3.out.size
    have hl3 : (acc ++ [L]).length = acc.length + 1 := by simp
    have HO3 : Hid (OwnBV w3 (w.heap.size + 1) (.slice A3 (acc ++ [L]).length q3) (acc ++ [L]) (vs ++ [.slice A2 L.length c2])) := Lib.hid (by rw [hl3]; exact hO3)
    have HB3 := Lib.hid hB3
    have Hl3 := Lib.hid hl3
    clear hO3 hB3 hl3
    rcases HS.out with ⟨b, rfl, hno⟩ | ⟨rfl, hyes, hjk⟩
    · have HX := Lib.hid (HF2.out (by rw [Hsum.out, ntW_none hno]; rfl))
      clear hno HS
      go_wp2_with fail
      go_big_quiet (fail)
      go_wp2_with fail
      refine bodyPost_ret (v := .tuple #[.slice none 0 0, .int .i64 2, .int .i64 b, .bool false]) ?hr rfl (ntn_no _ _ HX.out (bw_to HB3.out (bw_dr (Below.refl _ _) _)))
      case hr => simp [results, go_sem]
    · by_cases hend : at' = s.size
      rotate_left
      · have hat2 : at' < s.size := by omega
        have HY := Lib.hid (nt_more hyes hat2)
        have g1 : ((at' : Int) == (s.size : Int)) = false := by simp; omega
        have hw1 : IntKind.i64.wrap ((at' : Int) + 1) = at' + 1 := IntWalk.i64_in _ ⟨by omega, by omega⟩
        obtain ⟨f2, f3⟩ := HN3.out.frz
        clear hyes HS hend
        go_wp2_with fail
        refine ⟨⟨acc ++ [L], vs ++ [.slice A2 L.length c2], A3, q3, at' + 1, by rw [Hl3.out], HO3.out.kept (nb_set (nb_refl _ _) 2 _) (fun k e => .inl (by injection e with e; omega)), by omega, by rw [Hl3.out]; omega, Lib.hid ?_, Lib.hid ?_, HN3.out.at_ (at' + 1), grow_set HB3.out (Nat.le_refl _) _, ?_⟩, ?_⟩
        · intro M hM
          rcases List.mem_append.1 hM with hM | hM
          · exact Hac.out M hM
          · simp at hM; subst hM; omega
        · rw [Hsum.out, HY.out, Option.map_map]
          cases ntW n (txF s (at' + 1)) with
          | none => rfl
          | some p => simp
        · have h8 : ∀ (W : World) p v, (W.setCell p v).heap.size = W.heap.size := by intro W p v; simp
          rw [h8]; omega
        · refine Nat.lt_of_le_of_lt (Nat.le_of_eq (congrArg (s.size + 1 - ·) (atOf_is (HN3.out.at_ (at' + 1))))) ?_
          rw [Hm.out]
          omega
      · subst hend
        have HY := Lib.hid (HF.out (acc ++ [L]) (by rw [Hsum.out, nt_stop hyes (Nat.le_refl _)]; simp))
        have g1 : ((s.size : Int) == (s.size : Int)) = true := by simp
        have hBl : (acc ++ [L]).length ≤ 201 ∧ 1 ≤ (acc ++ [L]).length := by rw [Hl3.out]; omega
        have HBs : Hid (∀ M ∈ acc ++ [L], M.length ≤ 201) := Lib.hid (by
          intro M hM
          rcases List.mem_append.1 hM with hM | hM
          · exact Hac.out M hM
          · simp at hM; subst hM; omega)
        have hvl := HO3.out.len
        rw [← Hl3.out]
        obtain ⟨B, hBdef⟩ : ∃ B, B = acc ++ [L] := ⟨_, rfl⟩
        obtain ⟨vb, hvb⟩ : ∃ vb, vb = vs ++ [.slice A2 L.length c2] := ⟨_, rfl⟩
        rw [← hBdef] at HO3 HY hBl HBs hvl ⊢
        rw [← hvb] at HO3 hvl
        clear hyes HS hBdef hvb Hl3 Hac Hsum hvl
        have hvl := Lib.hid HO3.out.len
        obtain ⟨gb, rfl, hgb⟩ := nb_ptr HO3.out.1 hBl.2
        by_cases hB1 : B.length = 1
        · obtain ⟨A0, c0, hel⟩ := bv_el HO3.out (j := 0) (by omega)
          obtain ⟨q0, ho0⟩ := hel w3 (Below.refl _ _)
          have HX := Lib.hid HY.out
          rw [outL_one hB1] at HX
          have Ho0 := Lib.hid ho0
          obtain ⟨L0, hL0⟩ : ∃ L0, L0 = B[0]'(by omega) := ⟨_, rfl⟩
          rw [← hL0] at q0 HX Ho0
          clear hel hL0 ho0 HBs
          by_cases h40 : L0.length ≤ 40
          · have HZ := Lib.hid (HX.out.trans (if_pos ⟨by omega, h40⟩))
            go_wp2_with fail
            refine bodyPost_ret (v := .tuple #[.slice A0 L0.length c0, .int .i64 0, .int .i64 0, .bool true]) ?hr rfl (ntn_yes HZ.out (own_base Ho0.out (by omega)) HB3.out)
            case hr => simp [results, go_sem]
          · have HZ := Lib.hid (HX.out.trans (if_neg (fun h => h40 h.2)))
            go_wp2_with fail
            refine bodyPost_ret (v := .tuple #[.slice none 0 0, .int .i64 3, .int .i64 0, .bool false]) ?hr rfl (ntn_no _ _ HZ.out HB3.out)
            case hr => simp [results, go_sem]
        · have hB2 : 1 < B.length := by omega
          have HX := Lib.hid HY.out
          rw [outL_many hB2] at HX
          obtain ⟨A0, c0, hel⟩ := bv_el HO3.out (j := 0) hBl.2
          obtain ⟨q0, ho0⟩ := hel w3 (Below.refl _ _)
          have gB : decide ((1 : Int) < (B.length : Int)) = true := decide_eq_true (by omega)
          have HB2 := Lib.hid hB2
          clear hel ho0 hB1 hB2
          go_wp2_with fail
          refine box1 (C := fun W => Code.wp _ _ _ _ W) ?_
          intro wq hwq k1 hBq
          have hown := own_of_heap (base := w3.heap.size) (n := 0) (size := 1) k1 (Nat.le_refl _) (by unfold maxLen; omega) rfl
          clear k1 hBq q0
          go_loopw [10, 12, 54] (fun v _ i wr => ∃ (k : Nat) (A : Option Addr) (q : Nat), k ≤ B.length ∧ i = .int .i64 k ∧ v = .slice A ((B.take k).flatMap mirL).length q ∧ wr.ownsRow w3.heap.size 9 1 (.slice A ((B.take k).flatMap mirL).length q) ((B.take k).flatMap mirL).length (((B.take k).flatMap mirL).map Value.string) ∧ Below w3.heap.size w3 wr) (fun _ _ i _ => B.length - (intOf i).toNat)
          case atStart => exact ⟨0, _, _, by omega, rfl, rfl, hown, hwq⟩
          case round =>
            obtain ⟨k, A9, q9, hk, rfl, rfl, ho9, hb9⟩ := hrel
            have Ho9 := Lib.hid ho9
            have Hb9 := Lib.hid hb9
            have hz9 := hb9.size
            clear ho9 hb9 hown hwq
            by_cases hlt : k < B.length
            · obtain ⟨A5, c5, hel⟩ := bv_el HO3.out hlt
              obtain ⟨q5, ho5⟩ := hel wr Hb9.out
              have Hmt := Lib.hid (mir_take hlt)
              have hms := mir_sum (n := 201) (B := B.take k) (fun M hM => HBs.out M (List.mem_of_mem_take hM))
              rw [List.length_take, Nat.min_eq_left hk] at hms
              have h5z := HBs.out _ (List.getElem_mem hlt)
              obtain ⟨L5, hL5⟩ : ∃ L5, L5 = B[k]'hlt := ⟨_, rfl⟩
              rw [← hL5] at q5 ho5 Hmt h5z
              have Hmir := Lib.hid (mirrored_any (.slice A5 L5.length c5) L5 wr (strs_of_own ho5) (nilok_own ho5) (by omega))
              have hmL := mirL_len L5
              have hms' : ((B.take k).flatMap mirL).length ≤ 100000 := by
                have : k * (2 * 201) ≤ 201 * (2 * 201) := Nat.mul_le_mul_right _ (by omega)
                omega
              have hmL' : (mirL L5).length ≤ 402 := by omega
              obtain ⟨S, hS⟩ : ∃ S, S = (B.take k).flatMap mirL := ⟨_, rfl⟩
              rw [← hS] at Ho9 Hmt hms' ⊢
              clear hel hL5 ho5 hmL hms hS
              go_wp2_with fail
              refine Hmir.out.mono ?_
              rintro e w6 ⟨A6, c6, rfl, ho6, hb6⟩
              have hown9 := own_to Ho9.out hb6
              have hz6 := hb6.size
              have hs6 := sl_of_own ho6
              have hn6 := nilok_own ho6
              have Hb69 := Lib.hid (Hb9.out.trans (hb6.mono hz9))
              have HS6 := Lib.hid hs6
              have HN6 := Lib.hid hn6
              have Hown9 := Lib.hid hown9
              clear ho6 hb6 hs6 hn6 hown9
              go_wp2_with (at_builtin; go_must (refine wpList_app_sl _ rfl _ _ _ rfl w3.heap.size 9 _ 1 16 Tryd.underlying28 info_str rfl (by omega) Hown9.out rfl HS6.out HN6.out rfl (strs_oneB _) (by omega) (by omega) (by omega) ?_); intro v7 w7 hown7 hb7 hg7 _; (obtain ⟨A7, q7, rfl⟩ := nb_slice hown7); (have Hown7 := Lib.hid hown7); (have Hb7 := Lib.hid hb7); clear hown7 hb7 hg7)
              refine ⟨⟨k + 1, A7, q7, by omega, by go_num, ?_, ?_, Hb69.out.trans Hb7.out⟩, by simp [intOf]; omega⟩
              · rw [Hmt.out, List.length_append]
              · rw [Hmt.out, List.length_append, List.map_append]
                exact Hown7.out
            · obtain rfl : k = B.length := by omega
              rw [List.take_length] at Ho9 ⊢
              have hms := mir_sum (n := 201) (B := B) (fun M hM => HBs.out M hM)
              obtain ⟨S, hS⟩ : ∃ S, S = B.flatMap mirL := ⟨_, rfl⟩
              rw [← hS] at Ho9 HX ⊢
              clear hS hms
              have HBf := Lib.hid (HB3.out.trans (Hb9.out.mono (by omega)))
              by_cases h4 : B.length ≤ 4
              · by_cases h40 : S.length ≤ 40
                · have HZ := Lib.hid (HX.out.trans (if_pos ⟨h4, h40⟩))
                  go_wp2_with fail
                  refine bodyPost_ret (v := .tuple #[.slice A9 S.length q9, .int .i64 0, .int .i64 0, .bool true]) ?hr rfl (ntn_yes HZ.out (own_base Ho9.out (by omega)) HBf.out)
                  case hr => simp [results, go_sem]
                · have HZ := Lib.hid (HX.out.trans (if_neg (fun h => h40 h.2)))
                  go_wp2_with fail
                  all_goals (refine bodyPost_ret (v := .tuple #[.slice none 0 0, .int .i64 3, .int .i64 0, .bool false]) ?_ rfl (ntn_no _ _ HZ.out HBf.out); simp [results, go_sem])
              · have HZ := Lib.hid (HX.out.trans (if_neg (fun h => h4 h.1)))
                have h4' : 4 < B.length := by omega
                go_wp2_with fail
                refine bodyPost_ret (v := .tuple #[.slice none 0 0, .int .i64 3, .int .i64 0, .bool false]) ?hr rfl (ntn_no _ _ HZ.out HBf.out)
                case hr => simp [results, go_sem]
end Go.Proofs.YtenhnloljdfjhaaDoor
