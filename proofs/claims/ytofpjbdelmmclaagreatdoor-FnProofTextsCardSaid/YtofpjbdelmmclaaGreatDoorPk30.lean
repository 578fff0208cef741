/- Drawn changes: the reference's ways to go on, places as a text, all changes of a stage; a change is drawn. -/
import Derived.Test.YtofpjbdelmmclaaGreatDoorPk1
import Derived.Test.YtofpjbdelmmclaaGreatDoorPk8
import Derived.Test.YtofpjbdelmmclaaGreatDoorPk21
import Derived.Test.YtofpjbdelmmclaaGreatDoorPk3
namespace Go.Proofs.YtofpjbdelmmclaaGreatDoor
open Go Go.RowKit
set_option linter.unusedVariables false
set_option linter.unusedSimpArgs false

/-- All ways to go on from a place. -/
def fromL (n : Nat) : Nat → Nat → List (List Nat)
  | 0, _ => [[]]
  | f + 1, p => if n < p then [[]] else (fromL n f (p + 1)).map (fun r => p :: r) ++ (if p < n then fromL n f (p + 2) else [])
theorem fromL_len (n : Nat) : ∀ f p, (fromL n f p).length ≤ 2 ^ f
  | 0, _ => by simp [fromL]
  | f + 1, p => by
    rw [fromL]
    split
    · simp; exact Nat.one_le_two_pow
    · have h1 := fromL_len n f (p + 1)
      have h2 := fromL_len n f (p + 2)
      rw [List.length_append, List.length_map, Nat.pow_succ]
      split
      · omega
      · simp; omega
theorem fromL_in (n : Nat) : ∀ f p, p ≤ 20 → n ≤ 8 → ∀ l ∈ fromL n f p, l.length ≤ f ∧ ∀ x ∈ l, x ≤ 8
  | 0, _, _, _, l, hl => by simp [fromL] at hl; subst hl; simp
  | f + 1, p, hp, hn, l, hl => by
    rw [fromL] at hl
    split at hl
    · simp at hl; subst hl; simp
    · rename_i hnp
      rcases List.mem_append.1 hl with hl | hl
      · obtain ⟨r, hr, rfl⟩ := List.mem_map.1 hl
        have h := fromL_in n f (p + 1) (by omega) hn r hr
        refine ⟨by simp; exact h.1, fun x hx => ?_⟩
        rcases List.mem_cons.1 hx with rfl | hx
        · omega
        · exact h.2 x hx
      · split at hl
        · have h := fromL_in n f (p + 2) (by omega) hn l hl
          exact ⟨by omega, h.2⟩
        · cases hl
theorem fromL_end (n : Nat) {f p : Nat} (h : n < p) : fromL n f p = [[]] := by
  cases f with
  | zero => rfl
  | succ f => rw [fromL, if_pos h]
/-- A row of rows of numbers of the call's own, with the rows' values. -/
def OwnIV (w : World) (base : Nat) (v : Value) (L : List (List Nat)) (vs : List Value) : Prop :=
  w.ownsRow base 40 1 v L.length vs ∧ ∀ i (h : i < L.length) (h' : i < vs.length), w.ownsRow base 3 1 vs[i] L[i].length (L[i].map fun x : Nat => Value.int .i64 (x : Int))
theorem OwnIV.len {w : World} {base : Nat} {v : Value} {L : List (List Nat)} {vs : List Value} (h : OwnIV w base v L vs) : vs.length = L.length := by have := h.1.1; simpa using this
theorem OwnIV.to {w w' : World} {base : Nat} {v : Value} {L : List (List Nat)} {vs : List Value} (h : OwnIV w base v L vs) (hb : Below w.heap.size w w') : OwnIV w' base v L vs := ⟨own_to h.1 hb, fun i h1 h2 => own_to (h.2 i h1 h2) hb⟩
theorem OwnIV.base {w : World} {base b2 : Nat} {v : Value} {L : List (List Nat)} {vs : List Value} (h : OwnIV w base v L vs) (hb : b2 ≤ base) : OwnIV w b2 v L vs := ⟨own_base h.1 hb, fun i h1 h2 => own_base (h.2 i h1 h2) hb⟩
theorem OwnIV.form {w : World} {base : Nat} {v : Value} {L : List (List Nat)} {vs : List Value} (h : OwnIV w base v L vs) : ∃ A c, v = .slice A L.length c := by obtain ⟨A, c, e, _⟩ := sl_of_own h.1; exact ⟨A, c, e⟩
theorem own_kindsX {w : World} {b1 b2 : Nat} {e1 e2 : TypeId} {s1 s2 n1 n2 : Nat} {v1 v2 : Value} {x1 x2 : List Value} (h1 : w.ownsRow b1 e1 s1 v1 n1 x1) (h2 : w.ownsRow b2 e2 s2 v2 n2 x2) (he : e1 ≠ e2) : v1.ownBlock = none ∨ v1.ownBlock ≠ v2.ownBlock := by
  rcases h1.2 with ⟨rfl, _⟩ | ⟨g, cap, cur, rfl, _, hg, _⟩
  · exact .inl rfl
  · refine .inr fun e => ?_
    rcases h2.2 with ⟨rfl, _⟩ | ⟨g', cap', cur', rfl, _, hg', _⟩
    · cases e
    · have : g = g' := by simpa [Value.ownBlock] using e
      subst this
      rw [hg] at hg'
      injection hg' with h
      injection h with _ h _
      exact he h
theorem OwnIV.app {wA w3 : World} {base : Nat} {V V2 V3 : Value} {L M : List (List Nat)} {vs us : List Value} (h : OwnIV wA base V L vs) (h2 : OwnIV wA base V2 M us)
    (h3 : w3.ownsRow base 40 1 V3 (L.length + M.length) (vs ++ us)) (hg : wA.grownBy w3 V.ownBlock) : OwnIV w3 base V3 (L ++ M) (vs ++ us) := by
  have hl := h.len
  refine ⟨by rw [List.length_append]; exact h3, fun i h1 h4 => ?_⟩
  rw [List.length_append] at h1
  rcases Nat.lt_or_ge i L.length with hlt | hge
  · rw [List.getElem_append_left (by omega), List.getElem_append_left hlt]
    have ho := h.2 i hlt (by omega)
    exact World.ownsRow.kept ho hg (own_kindsX ho h.1 (by decide))
  · have hm := h2.len
    have e1 : (vs ++ us)[i] = us[i - L.length]'(by omega) := by rw [List.getElem_append_right (by omega)]; simp [hl]
    have e2 : (L ++ M)[i]'(by rw [List.length_append]; omega) = M[i - L.length]'(by omega) := by rw [List.getElem_append_right hge]
    rw [e1, e2]
    have ho := h2.2 (i - L.length) (by omega) (by omega)
    exact World.ownsRow.kept ho hg (own_kindsX ho h.1 (by decide))
theorem OwnIV.one {w : World} {base : Nat} {x : Value} {l : List Nat} {V : Value} (h : w.ownsRow base 40 1 V 1 [x]) (hx : w.ownsRow base 3 1 x l.length (l.map fun x : Nat => Value.int .i64 (x : Int))) : OwnIV w base V [l] [x] :=
  ⟨h, fun i h1 h2 => by
    simp only [List.length_singleton] at h1
    obtain rfl : i = 0 := by omega
    exact hx⟩
theorem OwnIV.push {wA w3 : World} {base : Nat} {V V3 x : Value} {L : List (List Nat)} {l : List Nat} {vs : List Value} (h : OwnIV wA base V L vs) (hx : wA.ownsRow base 3 1 x l.length (l.map fun x : Nat => Value.int .i64 (x : Int)))
    (h3 : w3.ownsRow base 40 1 V3 (L.length + 1) (vs ++ [x])) (hg : wA.grownBy w3 V.ownBlock) : OwnIV w3 base V3 (L ++ [l]) (vs ++ [x]) := by
  have hl := h.len
  refine ⟨by rw [List.length_append]; exact h3, fun i h1 h4 => ?_⟩
  rw [List.length_append, List.length_singleton] at h1
  rcases Nat.lt_or_ge i L.length with hlt | hge
  · rw [List.getElem_append_left (by omega), List.getElem_append_left hlt]
    have ho := h.2 i hlt (by omega)
    exact World.ownsRow.kept ho hg (own_kindsX ho h.1 (by decide))
  · obtain rfl : i = L.length := by omega
    have e1 : (vs ++ [x])[L.length] = x := by rw [List.getElem_append_right (by omega)]; simp [hl]
    have e2 : (L ++ [l])[L.length]'(by simp) = l := by rw [List.getElem_append_right (by omega)]; simp
    rw [e1, e2]
    exact World.ownsRow.kept hx hg (own_kindsX hx h.1 (by decide))
theorem OwnIV.at {w : World} {base : Nat} {A : Option Addr} {c : Nat} {L : List (List Nat)} {vs : List Value} (h : OwnIV w base (.slice A L.length c) L vs) {k : Nat} (hk : k < L.length) (hkv : k < vs.length) : ∃ g, A = some ⟨g, 0, none⟩ ∧ w.cell? ⟨g, k, none⟩ = some vs[k] := by
  rcases h.1.2 with ⟨_, h0⟩ | ⟨g, cap, cur, hv, _⟩
  · omega
  · injection hv with hA _ _
    subst hA
    exact ⟨g, rfl, by rw [h.1.cellAt k (by omega), List.getElem?_eq_getElem hkv]⟩
theorem OwnIV.one_ {w : World} {base : Nat} {v : Value} {L : List (List Nat)} {vs : List Value} (h : OwnIV w base v L vs) : ∀ u ∈ vs, u.oneCell' = true := by
  intro u hu
  obtain ⟨i, hi, rfl⟩ := List.getElem_of_mem hu
  obtain ⟨A, c, e, _⟩ := sl_of_own (h.2 i (by rw [← h.len]; exact hi) hi)
  rw [e]; rfl
theorem info_ii : (Tryz.prog.info? 40).map (fun i => (i.zero, i.size, i.bytes)) = some (some (.slice none 0 0), 1, 24) := by kernel_rfl
theorem info_i : (Tryz.prog.info? 3).map (fun i => (i.zero, i.size, i.bytes)) = some (some (.int .i64 0), 1, 8) := by kernel_rfl
theorem nats_one (l : List Nat) : ∀ u ∈ l.map (fun x : Nat => Value.int .i64 (x : Int)), u.oneCell' = true := by
  intro u hu; obtain ⟨x, _, rfl⟩ := List.mem_map.1 hu; rfl
theorem sl_capX {w : World} {base : Nat} {e : TypeId} {A : Option Addr} {n c : Nat} {xs : List Value} (h : w.ownsRow base e 1 (.slice A n c) n xs) : n ≤ c := by
  obtain ⟨A', c', e', h1, _⟩ := sl_of_own h
  cases e'; exact h1
def FromPost (w : World) (L : List (List Nat)) (e : Ending) (w' : World) : Prop := ∃ A q vs, e = .returned (.slice A L.length q) ∧ OwnIV w' w.heap.size (.slice A L.length q) L vs ∧ Below w.heap.size w w'
set_option maxRecDepth 100000 in
set_option maxHeartbeats 4000000 in
theorem l2From_any (n : Nat) (hn : n ≤ 8) : ∀ (f p : Nat) (w : World), n + 1 ≤ p + f → p ≤ 12 → f ≤ 12 → Calls Tryz.prog 189 #[.int .i64 n, .int .i64 p] w (FromPost w (fromL n f p)) := by
  intro f
  induction f with
  | zero =>
    intro p w hf hp _
    have hlt : n < p := by omega
    have hlt' : (n : Int) < p := by omega
    rw [fromL_end n hlt]
    go_enter Tryz.func189, Tryz.ntmps189
    go_wp2_with fail
    go_ret
    exact ⟨_, 1, [.slice none 0 0], rfl, OwnIV.one (own_of_heap (n := 1) (size := 1) (heap_new w _) (Nat.le_refl _) (by unfold maxLen; omega) rfl) (World.ownsRow_nil _ _ _ _), bw_al (Below.refl _ _) _⟩
  | succ f ih =>
    intro p w hf hp hfb
    by_cases hlt : n < p
    · have hlt' : (n : Int) < p := by omega
      rw [fromL_end n hlt]
      clear ih
      go_enter Tryz.func189, Tryz.ntmps189
      go_wp2_with fail
      go_ret
      exact ⟨_, 1, [.slice none 0 0], rfl, OwnIV.one (own_of_heap (n := 1) (size := 1) (heap_new w _) (Nat.le_refl _) (by unfold maxLen; omega) rfl) (World.ownsRow_nil _ _ _ _), bw_al (Below.refl _ _) _⟩
    · have hle : ¬ (n : Int) < p := by omega
      have I1 := Lib.hid (fun W => ih (p + 1) W (by omega) (by omega) (by omega))
      have I2 := Lib.hid (fun W (h : p < n) => ih (p + 2) W (by omega) (by omega) (by omega))
      have hR : fromL n (f + 1) p = (fromL n f (p + 1)).map (fun r => p :: r) ++ (if p < n then fromL n f (p + 2) else []) := by rw [fromL, if_neg hlt]
      rw [hR]
      have hb1 := Nat.le_trans (fromL_len n f (p + 1)) (Nat.pow_le_pow_right (by omega) (show f ≤ 12 by omega))
      have hb2 := Nat.le_trans (fromL_len n f (p + 2)) (Nat.pow_le_pow_right (by omega) (show f ≤ 12 by omega))
      have Hin := Lib.hid (fun l hl => (fromL_in n f (p + 1) (by omega) hn l hl).1)
      obtain ⟨R, hRd⟩ : ∃ R, R = fromL n f (p + 1) := ⟨_, rfl⟩
      obtain ⟨T, hTd⟩ : ∃ T, T = fromL n f (p + 2) := ⟨_, rfl⟩
      rw [← hRd] at I1 hb1 Hin ⊢
      rw [← hTd] at I2 hb2 ⊢
      have e1 : IntKind.i64.wrap ((p : Int) + 1) = ((p + 1 : Nat) : Int) := by rw [show ((p : Int) + 1) = ((p + 1 : Nat) : Int) by omega]; exact IntWalk.i64_in _ (by omega)
      have e2 : IntKind.i64.wrap ((p : Int) + 2) = ((p + 2 : Nat) : Int) := by rw [show ((p : Int) + 2) = ((p + 2 : Nat) : Int) by omega]; exact IntWalk.i64_in _ (by omega)
      obtain ⟨Z, hZ⟩ : ∃ Z, Z = R.map (fun r => p :: r) ++ (if p < n then T else []) := ⟨_, rfl⟩
      rw [← hZ]
      have HZ := Lib.hid hZ
      clear ih hR hRd hTd hlt hZ
      go_enter Tryz.func189, Tryz.ntmps189
      go_wp2_with fail
      refine (I1.out _).mono ?_; rintro e w1 ⟨A1, q1, us, rfl, ho1, hb1'⟩
      have HR := Lib.hid ho1
      have hul := ho1.len
      have hcap := sl_capX ho1.1
      clear ho1
      go_wp2_with fail
      go_loopw [5, 17] (fun o i wr => ∃ (k : Nat) (A : Option Addr) (q : Nat) (vs : List Value), k ≤ R.length ∧ i = .int .i64 k ∧ o = .slice A k q ∧ OwnIV wr w1.heap.size (.slice A k q) ((R.take k).map (fun r => p :: r)) vs ∧ Below w1.heap.size w1 wr) (fun _ i _ => R.length - (intOf i).toNat)
      case atStart => exact ⟨0, none, 0, [], by omega, rfl, rfl, ⟨World.ownsRow_nil _ _ _ _, fun i h => absurd h (Nat.not_lt_zero _)⟩, Below.refl _ _⟩
      case round =>
        obtain ⟨k, A, q, vs, hk, rfl, rfl, ho, hB⟩ := hrel
        have HO := Lib.hid ho
        have hvl : vs.length = k := by have := ho.len; rw [List.length_map, List.length_take] at this; omega
        clear ho
        by_cases hlt : k < R.length
        · have hku : k < us.length := by omega
          have hRr := HR.out.to hB
          obtain ⟨g1, rfl, hcell⟩ := hRr.at hlt hku
          have hrow := hRr.2 k hlt hku
          have hRl := Hin.out _ (List.getElem_mem hlt)
          have hst : Hid ((R.take (k + 1)).map (fun r => p :: r) = (R.take k).map (fun r => p :: r) ++ [p :: R[k]]) := Lib.hid (by rw [List.take_succ_eq_append_getElem hlt, List.map_append]; rfl)
          obtain ⟨x, hx⟩ : ∃ x, x = us[k] := ⟨_, rfl⟩
          obtain ⟨y, hy⟩ : ∃ y, y = R[k] := ⟨_, rfl⟩
          rw [← hx] at hcell hrow
          rw [← hy] at hrow hst hRl
          have Hrow := Lib.hid hrow
          obtain ⟨Ax, cx, ex, _⟩ := sl_of_own hrow
          subst ex
          have hxs := sl_of_own Hrow.out
          have hxn := nilok_own Hrow.out
          have HO1 := Lib.hid HO.out.1
          have hz1 := hB.size
          have hkl : ((R.take k).map (fun r => p :: r)).length = k := by rw [List.length_map, List.length_take]; omega
          have Hkl := Lib.hid hkl
          clear hx hy hrow hRr hul hkl
          go_wp2_with (first | (at_builtin; refine wpList_app_sl (wr.alloc (.cells #[.int .i64 (p : Int)] 3)) rfl _ _ _ rfl wr.heap.size 3 _ 1 8 Tryz.underlying40 info_i rfl (by omega) (own_of_heap (n := 1) (size := 1) (heap_new wr _) (Nat.le_refl _) (by unfold maxLen; omega) rfl) rfl (Sl.to hxs (bw_al (Below.refl _ _) _)) hxn rfl (nats_one _) (by omega) (by omega) (by simp) ?_; intro v3 w3 ho3 hb3 hg3 _; (obtain ⟨A3, q3, e3, _⟩ := sl_of_own ho3); subst e3; (have Hb3 := Lib.hid ((bw_al (Below.refl _ _) (.cells #[.int .i64 (p : Int)] 3)).trans hb3)); (have HO3 := Lib.hid (HO.out.to Hb3.out)); (have Ho3 := Lib.hid ho3); (have hz3 : w1.heap.size ≤ w3.heap.size := Nat.le_trans hz1 Hb3.out.size); clear ho3 hb3 hg3) | (at_builtin; refine wpList_app w3 rfl _ _ _ rfl w1.heap.size 40 _ 1 24 Tryz.underlying179 info_ii rfl (by omega) HO3.out.1 [.slice A3 (1 + y.length) q3] rfl rfl rfl (one_mem rfl) (by omega) (by have := Hkl.out; omega) hz3 ?_; intro v4 w4 ho4 hb4 hg4 _; (have HO4 := Lib.hid (HO3.out.push (l := p :: y) (by rw [show (p :: y).length = 1 + y.length by simp; omega]; exact own_base Ho3.out hz1) ho4 hg4)); (have hB4 := (hB.trans (Hb3.out.mono hz1)).trans hb4); (obtain ⟨A4, q4, e4, _⟩ := sl_of_own ho4); subst e4; clear ho4 hb4 hg4))
          refine ⟨⟨k + 1, A4, q4, vs ++ [.slice A3 (1 + y.length) q3], by omega, by go_num, rfl, ?_, hB4⟩, by simp [intOf]; omega⟩
          rw [hst.out]
          have h9 := HO4.out
          rw [Hkl.out] at h9
          exact h9
        · obtain rfl : k = R.length := by omega
          have hkk : ((R.take R.length).map (fun r => p :: r)) = R.map (fun r => p :: r) := by rw [List.take_length]
          rw [hkk] at HO
          have Hvl := Lib.hid hvl
          have hzw : w.heap.size ≤ w1.heap.size := hb1'.size
          have HBw := Lib.hid (bw_to hb1' hB)
          clear hkk hul hvl
          by_cases hpn : p < n
          · have hz : Hid (Z = R.map (fun r => p :: r) ++ T) := Lib.hid (by rw [HZ.out, if_pos hpn])
            have hpn' : (p : Int) < n := by omega
            have Hrl : Hid ((R.map (fun r => p :: r)).length = R.length) := Lib.hid (by rw [List.length_map])
            go_wp2_with (first | (go_at_call 189; refine (I2.out _ hpn).mono ?_; rintro e w2 ⟨A2, q2, us2, rfl, ho2, hb2'⟩; (have HT := Lib.hid ho2); (have HO2 := Lib.hid (HO.out.to hb2')); (have hz2 : w1.heap.size ≤ w2.heap.size := Nat.le_trans hB.size hb2'.size); (have HT2 := Lib.hid (HT.out.base hB.size)); (have hsT := sl_of_own HT.out.1); (have hnT := nilok_own HT.out.1); (have HB2 := Lib.hid (bw_to HBw.out hb2')); (have HS2 := Lib.hid hb2'.size); clear ho2 hb2') | (at_builtin; refine wpList_app_sl w2 rfl _ _ _ rfl w1.heap.size 40 _ 1 24 Tryz.underlying179 info_ii rfl (by omega) HO2.out.1 rfl hsT hnT rfl HT.out.one_ (by omega) (by have := Hrl.out; omega) hz2 ?_; intro v4 w4 ho4 hb4 hg4 _; (have HO4 := Lib.hid (HO2.out.app HT2.out ho4 hg4)); (have HB4 := Lib.hid (HB2.out.trans (hb4.mono hzw))); (obtain ⟨A4, q4, e4, _⟩ := sl_of_own ho4); subst e4; clear ho4 hb4 hg4))
            go_ret
            refine ⟨A4, q4, vs ++ us2, by rw [hz.out, List.length_append, Hrl.out]; rfl, ?_, HB4.out⟩
            rw [hz.out]
            have h9 := HO4.out.base hzw
            rw [List.length_append]
            exact h9
          · have hz : Hid (Z = R.map (fun r => p :: r)) := Lib.hid (by rw [HZ.out, if_neg hpn, List.append_nil])
            have hpn' : ¬ (p : Int) < n := by omega
            go_wp2_with fail
            go_ret
            exact ⟨A, q, vs, by rw [hz.out, List.length_map]; rfl, by rw [hz.out, List.length_map]; exact HO.out.base hzw, HBw.out⟩
/-- Places as a text. -/
def textP (ps : List Nat) : ByteArray := ps.foldl (fun s (x : Nat) => s ++ numT (x : Int)) ⟨#[]⟩
def ofPl (ps : List Nat) : ByteArray := if ps = [] then ⟨#[45]⟩ else textP ps
theorem textP_snoc (ps : List Nat) (x : Nat) : textP (ps ++ [x]) = textP ps ++ numT (x : Int) := by simp [textP]
theorem textP_take {ps : List Nat} {k : Nat} (hk : k < ps.length) : textP (ps.take (k + 1)) = textP (ps.take k) ++ numT ((ps[k] : Nat) : Int) := by
  rw [List.take_succ_eq_append_getElem hk, textP_snoc]
theorem num_one {x : Nat} (h : x ≤ 8) : (numT (x : Int)).size = 1 := by rw [numT_small (by omega)]; rfl
theorem foldP_size : ∀ (ps : List Nat) (s : ByteArray), (∀ x ∈ ps, x ≤ 8) → (ps.foldl (fun s (x : Nat) => s ++ numT (x : Int)) s).size = s.size + ps.length
  | [], s, _ => by simp
  | x :: t, s, h => by
    rw [List.foldl_cons, foldP_size t _ (fun y hy => h y (List.mem_cons_of_mem _ hy)), ByteArray.size_append, num_one (h x (List.mem_cons_self ..)), List.length_cons]
    omega
theorem textP_size (ps : List Nat) (h : ∀ x ∈ ps, x ≤ 8) : (textP ps).size = ps.length := by
  unfold textP
  rw [foldP_size ps _ h]
  show 0 + _ = _
  omega
theorem ofPl_size (ps : List Nat) (h : ∀ x ∈ ps, x ≤ 8) (hl : ps.length ≤ 20) : (ofPl ps).size ≤ 20 := by
  unfold ofPl
  split
  · show 1 ≤ 20; omega
  · rw [textP_size ps h]; exact hl
set_option maxRecDepth 100000 in
set_option maxHeartbeats 2000000 in
theorem l2Of_any (v : Value) (ps : List Nat) (w : World) (hv : Sl w 1 v ps.length (ps.map fun x : Nat => Value.int .i64 (x : Int))) (h8 : ∀ x ∈ ps, x ≤ 8) (hl : ps.length ≤ 20) : Calls Tryz.prog 190 #[v] w fun e w' => e = .returned (.string (ofPl ps)) ∧ Below w.heap.size w w' := by
  obtain ⟨A, c, rfl, h1, h2, hrd⟩ := hv
  unfold maxLen at h2
  have Hs := Lib.hid (fun k => textP_size (ps.take k) (fun x hx => h8 x (List.mem_of_mem_take hx)))
  have H8 := Lib.hid h8
  have HS := Lib.hid (textP_size ps h8)
  obtain ⟨O, hO⟩ : ∃ O, O = ofPl ps := ⟨_, rfl⟩
  rw [← hO]
  have HO := Lib.hid hO
  clear h8 hO
  go_enter Tryz.func190, Tryz.ntmps190
  go_wp2_with fail
  go_loopw [3, 8] (fun s i wr => ∃ k : Nat, k ≤ ps.length ∧ i = .int .i64 k ∧ s = .string (textP (ps.take k)) ∧ Below w.heap.size w wr) (fun _ i _ => ps.length - (intOf i).toNat)
  case atStart => exact ⟨0, by omega, rfl, rfl, Below.refl _ _⟩
  case round =>
    obtain ⟨k, hk, rfl, rfl, hB⟩ := hrel
    by_cases hlt : k < ps.length
    · obtain ⟨ad, rfl, hb, hc⟩ := hrd.2 (by omega)
      have hc0 : wr.cell? (ad.add k) = some (.int .i64 ((ps[k] : Nat) : Int)) := by rw [hB.cell (by rw [block_of_add]; exact hb)]; exact hc _ _ (by simp [hlt])
      have hx8 := H8.out _ (List.getElem_mem hlt)
      have Hst := Lib.hid (textP_take hlt)
      have hz : (textP (ps.take k)).size ≤ 20 := by rw [Hs.out k, List.length_take]; omega
      obtain ⟨x, hx⟩ : ∃ x, x = ps[k] := ⟨_, rfl⟩
      rw [← hx] at hc0 hx8 Hst
      have hn1 := num_one hx8
      have hz2 : ¬ 9223372036854775807 < (textP (ps.take k)).size + (numT (x : Int)).size := by rw [hn1]; omega
      obtain ⟨y, hy⟩ : ∃ y, y = numT (x : Int) := ⟨_, rfl⟩
      obtain ⟨s, hs⟩ : ∃ s, s = textP (ps.take k) := ⟨_, rfl⟩
      rw [← hy] at hz2 Hst
      rw [← hs] at hz2 Hst ⊢
      have Hy := Lib.hid hy
      clear hx hc hn1 hy hz hs
      go_wp2_with (go_at_call 63; refine (l1Num_any x _ (by omega)).mono ?_; rintro e w3 ⟨rfl, hb3⟩; (rw [← Hy.out]))
      exact ⟨⟨k + 1, by omega, by go_num, by rw [Hst.out], bw_to hB (by assumption)⟩, by simp [intOf]; omega⟩
    · obtain rfl : k = ps.length := by omega
      rw [List.take_length]
      have hB' := Lib.hid hB
      by_cases he : ps = []
      · subst he
        have HO2 : Hid (O = ⟨#[45]⟩) := Lib.hid HO.out
        have hs0 : textP [] = ⟨#[]⟩ := rfl
        rw [hs0]
        clear hs0 Hs HS HO
        go_wp2_with fail
        go_ret
        exact ⟨by rw [HO2.out]; rfl, hB'.out⟩
      · have HO2 : Hid (O = textP ps) := Lib.hid (by rw [HO.out]; unfold ofPl; rw [if_neg he])
        have hpos : 0 < ps.length := List.length_pos_iff.2 he
        have hse : ((textP ps).toList == []) = false ∧ (!(textP ps).toList.isEmpty) = true := by
          have h3 := HS.out
          have h4 : (textP ps).toList ≠ [] := fun e => by
            have h5 : (textP ps).data.toList.length = 0 := by rw [← bytes_toList, e]; rfl
            rw [show (textP ps).data.toList.length = (textP ps).size from by simp] at h5
            omega
          exact ⟨by simpa using h4, by simpa using h4⟩
        obtain ⟨hse1, hse2⟩ := hse
        obtain ⟨s, hs⟩ : ∃ s, s = textP ps := ⟨_, rfl⟩
        rw [← hs] at hse1 hse2 HO2 ⊢
        have hse3 : ¬ s.toList = [] := by simpa using hse1
        clear he hs Hs HS HO
        go_wp2_with fail
        go_ret
        exact ⟨by rw [HO2.out]; rfl, hB'.out⟩
end Go.Proofs.YtofpjbdelmmclaaGreatDoor

/- All changes of a stage of the reference; a change is drawn. -/
namespace Go.Proofs.YtofpjbdelmmclaaGreatDoor
open Go Go.RowKit
set_option linter.unusedVariables false
set_option linter.unusedSimpArgs false

def AllPost (w : World) (e : Ending) (w' : World) : Prop := ∃ A q, ∃ X : List ByteArray, e = .returned (.slice A X.length q) ∧ w'.ownsRow w.heap.size 9 1 (.slice A X.length q) X.length (X.map Value.string) ∧ 1 ≤ X.length ∧ X.length ≤ 5000 ∧ (∀ x ∈ X, x.size ≤ 20) ∧ Below w.heap.size w w'
def goodP (n : Nat) (ps : List Nat) : Bool := changeB n (ofPl ps).data.toList
theorem own_addr {w : World} {base : Nat} {e : TypeId} {size n c : Nat} {A : Option Addr} {xs : List Value} (h : w.ownsRow base e size (.slice A n c) n xs) (hn : 1 ≤ n) : ∃ g, A = some ⟨g, 0, none⟩ ∧ base ≤ g ∧ g < w.heap.size := by
  rcases h.2 with ⟨_, h0⟩ | ⟨g, cap, cur, hv, hb, _⟩
  · omega
  · injection hv with hA _ _
    subst hA
    exact ⟨g, rfl, hb, (h.lt g rfl).2⟩
theorem size_set {X : List ByteArray} {j : Nat} {s : ByteArray} (h : ∀ x ∈ X, x.size ≤ 20) (hs : s.size ≤ 20) : ∀ x ∈ X.set j s, x.size ≤ 20 := by
  intro x hx
  rcases List.mem_or_eq_of_mem_set hx with hx | rfl
  · exact h x hx
  · exact hs
theorem ofPl_one : ofPl [1] = ⟨#[49]⟩ := by
  show (⟨#[]⟩ : ByteArray) ++ numT ((1 : Nat) : Int) = _
  rw [numT_small (by omega)]
  rfl
/-- A stage has a change. -/
theorem good_ex {n : Nat} (h3 : 3 ≤ n) (h6 : n ≤ 6) : ∃ ps ∈ fromL n (n + 1) 1, goodP n ps = true := by
  rcases Nat.lt_or_ge n 4 with h | h
  · obtain rfl : n = 3 := by omega
    exact ⟨[1], by decide, by unfold goodP; rw [ofPl_one]; rfl⟩
  rcases Nat.lt_or_ge n 5 with h | h
  · obtain rfl : n = 4 := by omega
    exact ⟨[], by decide, by rfl⟩
  rcases Nat.lt_or_ge n 6 with h | h
  · obtain rfl : n = 5 := by omega
    exact ⟨[1], by decide, by unfold goodP; rw [ofPl_one]; rfl⟩
  · obtain rfl : n = 6 := by omega
    exact ⟨[], by decide, by rfl⟩
theorem grow_setB9 {a w : World} {B : Nat} (h : Below B a w) {g j : Nat} (hg : B ≤ g) (u : Value) : Below B a (w.setCell ⟨g, j, none⟩ u) := h.setCell (p := ⟨g, j, none⟩) hg u
theorem filter_step {α : Type} {p : α → Bool} {l : List α} {k : Nat} (hk : k < l.length) : ((l.take (k + 1)).filter p).length = ((l.take k).filter p).length + (if p l[k] = true then 1 else 0) := by
  rw [List.take_succ_eq_append_getElem hk, List.filter_append, List.length_append]
  congr 1
  by_cases h : p l[k] = true <;> simp [h]
set_option maxRecDepth 100000 in
set_option maxHeartbeats 8000000 in
theorem l2All_any (n : Nat) (w : World) (h3 : 3 ≤ n) (h6 : n ≤ 6) : Calls Tryz.prog 155 #[.int .i64 n] w (AllPost w) := by
  have HF := Lib.hid (fun W => l2From_any n (by omega) (n + 1) 1 W (by omega) (by omega) (by omega))
  have hlen := Nat.le_trans (fromL_len n (n + 1) 1) (Nat.pow_le_pow_right (by omega) (show n + 1 ≤ 12 by omega))
  have Hin := Lib.hid (fun l hl => fromL_in n (n + 1) 1 (by omega) (by omega) l hl)
  have hpos : 1 ≤ ((fromL n (n + 1) 1).filter (goodP n)).length := by
    obtain ⟨ps, h1, h2⟩ := good_ex h3 h6
    exact List.length_pos_of_mem (List.mem_filter.2 ⟨h1, h2⟩)
  obtain ⟨L, hL⟩ : ∃ L, L = fromL n (n + 1) 1 := ⟨_, rfl⟩
  rw [← hL] at HF hlen Hin hpos
  have hLf : (L.filter (goodP n)).length ≤ L.length := List.length_filter_le _ _
  clear hL
  have e1 : ((1 : Nat) : Int) = 1 := rfl
  rw [e1] at HF
  clear e1
  go_enter Tryz.func155, Tryz.ntmps155
  go_wp2_with fail
  refine (HF.out _).mono ?_; rintro e w1 ⟨A1, q1, us, rfl, ho1, hb1⟩
  have HR := Lib.hid ho1
  have hul := ho1.len
  have hcap := sl_capX ho1.1
  clear ho1
  go_wp2_with fail
  go_loopw [3, 11] (fun o i wr => ∃ (k : Nat) (A : Option Addr) (q : Nat) (X : List ByteArray), k ≤ L.length ∧ i = .int .i64 k ∧ o = .slice A X.length q ∧ wr.ownsRow w1.heap.size 9 1 (.slice A X.length q) X.length (X.map Value.string) ∧ X.length = ((L.take k).filter (goodP n)).length ∧ (∀ x ∈ X, x.size ≤ 20) ∧ Below w1.heap.size w1 wr) (fun _ i _ => L.length - (intOf i).toNat)
  case atStart => exact ⟨0, none, 0, [], by omega, rfl, rfl, World.ownsRow_nil _ _ _ _, rfl, by simp, Below.refl _ _⟩
  case round =>
    obtain ⟨k, A, q, X, hk, rfl, rfl, ho, hxl, hsz, hB⟩ := hrel
    have HO := Lib.hid ho
    have Hsz := Lib.hid hsz
    have Hxl := Lib.hid hxl
    have hxb : X.length ≤ L.length := by rw [hxl]; exact Nat.le_trans (List.length_filter_le _ _) (by rw [List.length_take]; omega)
    clear ho hsz hxl
    by_cases hlt : k < L.length
    · have hku : k < us.length := by omega
      have hRr := HR.out.to hB
      obtain ⟨g1, rfl, hcell⟩ := hRr.at hlt hku
      have hrow := hRr.2 k hlt hku
      have Hll := Lib.hid (Hin.out _ (List.getElem_mem hlt))
      have Hst := Lib.hid (filter_step (p := goodP n) hlt)
      obtain ⟨x, hx⟩ : ∃ x, x = us[k] := ⟨_, rfl⟩
      obtain ⟨y, hy⟩ : ∃ y, y = L[k] := ⟨_, rfl⟩
      rw [← hx] at hcell hrow
      rw [← hy] at hrow Hst Hll
      obtain ⟨Ax, cx, ex, _⟩ := sl_of_own hrow
      subst ex
      have hys := ofPl_size y Hll.out.2 (by have := Hll.out.1; omega)
      have HOf := Lib.hid (l2Of_any _ y _ (sl_of_own hrow) Hll.out.2 (by have := Hll.out.1; omega))
      have HG : Hid (changeB n (ofPl y).data.toList = goodP n y) := Lib.hid rfl
      obtain ⟨s, hs⟩ : ∃ s, s = ofPl y := ⟨_, rfl⟩
      rw [← hs] at HOf hys HG
      have Hch := Lib.hid (fun W => l2Change_any (n : Int) s W (by unfold maxLen; omega))
      rw [HG.out] at Hch
      obtain ⟨b, hb⟩ : ∃ b, b = goodP n y := ⟨_, rfl⟩
      rw [← hb] at Hch Hst
      clear hx hy hrow hRr hul hs HG hb
      go_wp2_with fail
      refine HOf.out.mono ?_; rintro e w2 ⟨rfl, hb2⟩
      have hB2 := hB.trans (hb2.mono hB.size)
      have HO2 := Lib.hid (own_to HO.out hb2)
      have hz2 : w1.heap.size ≤ w2.heap.size := hB2.size
      clear hb2
      cases b
      · go_wp2_with (go_at_call 156; refine (Hch.out _).mono ?_; rintro e w' ⟨rfl, rfl⟩)
        exact ⟨⟨k + 1, A, q, X, by omega, by go_num, rfl, HO2.out, by rw [Hst.out, Hxl.out]; simp, Hsz.out, hB2⟩, by simp [intOf]; omega⟩
      · go_wp2_with (first | (go_at_call 156; refine (Hch.out _).mono ?_; rintro e w' ⟨rfl, rfl⟩) | (at_builtin; refine wpList_app _ rfl _ _ _ rfl w1.heap.size 9 _ 1 16 Tryz.underlying24 info_str rfl (by omega) HO2.out [.string s] rfl rfl rfl (one_mem rfl) (by omega) (by omega) hz2 ?_; intro v3 w3 ho3 hb3 hg3 _; (obtain ⟨A3, q3, e3, _⟩ := sl_of_own ho3); subst e3; (have HO3 := Lib.hid ho3); (have hB3 := hB2.trans hb3); clear ho3 hb3 hg3))
        obtain ⟨g, rfl, hgb, hgl⟩ := own_addr HO3.out (by omega)
        have h0 : w3.ownsRow w1.heap.size 9 1 (.slice (some ⟨g, 0, none⟩) (X.length + 1) q3) (X.length + 1) ((X ++ [s]).map Value.string) := by rw [List.map_append]; exact HO3.out
        have H0 := Lib.hid h0
        have Hs0 : Hid (∀ x ∈ X ++ [s], x.size ≤ 20) := Lib.hid (fun x hx => by rcases List.mem_append.1 hx with hx | hx; exact Hsz.out x hx; rw [List.mem_singleton.1 hx]; exact hys)
        have Hnx : Hid (X.length + 1 = ((L.take (k + 1)).filter (goodP n)).length) := Lib.hid (by rw [Hst.out, Hxl.out]; simp)
        have hcq : X.length + 1 ≤ q3 := sl_capX HO3.out
        clear HO3 HO2 HO h0 Hxl Hsz
        go_loopw [7] (fun j wr => ∃ (i : Nat) (Y : List ByteArray), i ≤ X.length ∧ j = .int .i64 i ∧ Y.length = X.length + 1 ∧ wr.ownsRow w1.heap.size 9 1 (.slice (some ⟨g, 0, none⟩) (X.length + 1) q3) (X.length + 1) (Y.map Value.string) ∧ (∀ x ∈ Y, x.size ≤ 20) ∧ Below w1.heap.size w1 wr) (fun j _ => (intOf j).toNat)
        case atStart => exact ⟨X.length, X ++ [s], by omega, rfl, by simp, H0.out, Hs0.out, hB3⟩
        case round =>
          obtain ⟨i, Y, hi, rfl, hyl, ho, hsy, hB4⟩ := hrel
          have HOy := Lib.hid ho
          have Hsy := Lib.hid hsy
          have hci : wr.cell? ⟨g, i, none⟩ = some (.string (Y[i]'(by omega))) := by rw [ho.cellAt i (by omega)]; simp [show i < Y.length by omega]
          have hfi := ho.frozenAt i
          have hi0 : (0 : Int) ≤ i := by omega
          have hi1 : (i : Int) < ((X.length + 1 : Nat) : Int) := by omega
          by_cases hi2 : i = 0
          · subst hi2
            clear hi0 hi1
            go_wp2_with fail
            have hO5 := own_set HOy.out 0 (.string s)
            have HO5 : Hid ((wr.setCell ⟨g, 0, none⟩ (.string s)).ownsRow w1.heap.size 9 1 (.slice (some ⟨g, 0, none⟩) (X.length + 1) q3) (X.length + 1) ((Y.set 0 s).map Value.string)) := Lib.hid (by rw [List.map_set]; exact hO5)
            clear hO5
            refine ⟨⟨k + 1, some ⟨g, 0, none⟩, q3, Y.set 0 s, by omega, by go_num, by rw [List.length_set, hyl], ?_, ?_, size_set Hsy.out hys, grow_setB9 hB4 hgb _⟩, by simp [intOf]; omega⟩
            · rw [List.length_set, hyl]; exact HO5.out
            · rw [List.length_set, hyl]; exact Hnx.out
          · have hj : i - 1 < Y.length := by omega
            have hcj : wr.cell? ⟨g, i - 1, none⟩ = some (.string (Y[i - 1]'(by omega))) := by rw [HOy.out.cellAt (i - 1) (by omega)]; simp [hj]
            have Hsj := Lib.hid (Hsy.out _ (List.getElem_mem hj))
            obtain ⟨u, hu⟩ : ∃ u, u = Y[i - 1]'(by omega) := ⟨_, rfl⟩
            rw [← hu] at hcj Hsj
            have hw2 : IntKind.i64.wrap ((i : Int) - 1) = (i : Int) - 1 := IntWalk.i64_in _ (by omega)
            have hw3 : 0 ≤ (i : Int) - 1 := by omega
            have hw4 : ((i : Int) - 1).toNat = i - 1 := by omega
            have hw5 : (i : Int) - 1 < ((X.length + 1 : Nat) : Int) := by omega
            have hw6 : 1 ≤ (i : Int) := by omega
            have hwd : decide ((0 : Int) < (i : Int)) = true := by simp; omega
            have hwe : decide (0 < i) = true := by simp; omega
            clear hu ho
            have HM : Hid ((wr.setCell ⟨g, i, none⟩ (.string u)).ownsRow w1.heap.size 9 1 (.slice (some ⟨g, 0, none⟩) (X.length + 1) q3) (X.length + 1) ((Y.set i u).map Value.string)) := Lib.hid (by rw [List.map_set]; exact own_set HOy.out i (.string u))
            have HE : Hid ((wr.setCell ⟨g, i, none⟩ (.string s)).ownsRow w1.heap.size 9 1 (.slice (some ⟨g, 0, none⟩) (X.length + 1) q3) (X.length + 1) ((Y.set i s).map Value.string)) := Lib.hid (by rw [List.map_set]; exact own_set HOy.out i (.string s))
            have hii : ((i - 1 : Nat) : Int) = (i : Int) - 1 := by omega
            have Hii := Lib.hid hii
            clear hii
            go_wp2_with fail
            · refine ⟨⟨i - 1, Y.set i u, by omega, by rw [Hii.out], by rw [List.length_set, hyl], HM.out, size_set Hsy.out Hsj.out, grow_setB9 hB4 hgb _⟩, by simp [intOf]; omega⟩
            · refine ⟨⟨k + 1, some ⟨g, 0, none⟩, q3, Y.set i s, by omega, by go_num, by rw [List.length_set, hyl], ?_, ?_, size_set Hsy.out hys, grow_setB9 hB4 hgb _⟩, by simp [intOf]; omega⟩
              · rw [List.length_set, hyl]; exact HE.out
              · rw [List.length_set, hyl]; exact Hnx.out
    · obtain rfl : k = L.length := by omega
      have hx0 : Hid (X.length = (L.filter (goodP n)).length) := Lib.hid (by have := Hxl.out; rw [List.take_length] at this; exact this)
      have hzw : w.heap.size ≤ w1.heap.size := hb1.size
      go_wp2_with fail
      go_ret
      exact ⟨A, q, X, rfl, own_base HO.out hzw, by rw [hx0.out]; exact hpos, by omega, Hsz.out, bw_to hb1 hB⟩
set_option maxHeartbeats 2000000 in
theorem change_any (w : World) (C lim n : Nat) (h : Cur w C lim) (hl : lim ≤ 1000000000000) (h3 : 3 ≤ n) (h6 : n ≤ 6) : Calls Tryz.prog 125 #[.pointer (some ⟨C, 0, none⟩), .int .i64 n] w (DrewStr w C (lim + 2) fun s => s.size ≤ 20) := by
  have H := Lib.hid h
  have hCl := h.lt
  clear h
  go_enter Tryz.func125, Tryz.ntmps125
  go_wp2_with fail
  refine (l2All_any n _ h3 h6).mono ?_; rintro e w1 ⟨A, q, X, rfl, ho, hx1, hx5, hsz, hb1⟩
  have Ho := Lib.hid ho
  have Hsz := Lib.hid hsz
  have Hc1 := Lib.hid (H.out.to hb1)
  have HB := Lib.hid hb1
  obtain ⟨g, rfl, hgb, hgl⟩ := own_addr ho hx1
  clear ho hsz hb1
  go_wp2_with fail
  refine (pick_any w1 C lim X.length Hc1.out hl (by omega) (by omega)).mono ?_; rintro e w2 ⟨b, rfl, hb, hc2, hg2⟩
  obtain ⟨k, rfl⟩ : ∃ k : Nat, b = k := ⟨b.toNat, by omega⟩
  have hk : k < X.length := by omega
  have hk0 : (0 : Int) ≤ k := by omega
  have hcell : w2.cell? ⟨g, k, none⟩ = some (.string X[k]) := by
    rw [gb_cell hg2 (by exact hgl) (by show g ≠ C; omega), Ho.out.cellAt k (by omega)]
    simp [hk]
  have Hc2 := Lib.hid hc2
  have Hg2 := Lib.hid hg2
  have Hxs := Lib.hid (Hsz.out _ (List.getElem_mem hk))
  obtain ⟨x, hx⟩ : ∃ x, x = X[k] := ⟨_, rfl⟩
  rw [← hx] at hcell Hxs
  clear hc2 hg2 hx hb
  go_wp2_with fail
  go_ret
  exact ⟨x, rfl, Hxs.out, Hc2.out, gb_tr (gb_to (gb_refl w C) HB.out) Hg2.out⟩
end Go.Proofs.YtofpjbdelmmclaaGreatDoor
