/- Contracts: the ideal strikes of rows; both sides. -/
import Derived.Test.YtimeecimaokldaaGreatDoorPk17
import Derived.Test.YtimeecimaokldaaGreatDoorPk7
namespace Go.Proofs.YtimeecimaokldaaGreatDoor
open Go Go.RowKit
set_option linter.unusedVariables false
set_option linter.unusedSimpArgs false

def belI (r : ByteArray) (p : Nat) : Int := ((r.data.toList.getD p 0).toNat : Int) - 48
theorem belI_at {r : ByteArray} {p : Nat} (h : p < r.size) : belI r p = (r[p].toNat : Int) - 48 := by
  unfold belI
  rw [List.getD_eq_getElem?_getD, List.getElem?_eq_getElem (by rw [bytes_len]; exact h), bytes_get r p h]
  rfl
/-- The strikes of the first p places of row k. -/
def idQ (b : Bt) (k : Nat) (r : ByteArray) (p : Nat) : List (Int × Int) := (List.range p).map fun i => (belI r i, blowV b r.size k ((i : Int) + 1))
theorem idQ_succ (b : Bt) (k : Nat) (r : ByteArray) (p : Nat) : idQ b k r (p + 1) = idQ b k r p ++ [(belI r p, blowV b r.size k ((p : Int) + 1))] := by
  unfold idQ
  rw [List.range_succ, List.map_append]
  rfl
theorem idQ_len (b : Bt) (k : Nat) (r : ByteArray) (p : Nat) : (idQ b k r p).length = p := by simp [idQ]
def idL (b : Bt) : Nat → List ByteArray → List (Int × Int)
  | _, [] => []
  | k, r :: t => idQ b k r r.size ++ idL b (k + 1) t
theorem idL_take (b : Bt) : ∀ (l : List ByteArray) (j k : Nat) (h : k < l.length), idL b j (l.take (k + 1)) = idL b j (l.take k) ++ idQ b (j + k) l[k] (l[k]).size
  | r :: t, j, 0, _ => by simp [idL]
  | r :: t, j, k + 1, h => by
    rw [List.take_succ_cons, List.take_succ_cons, idL, idL, idL_take b t (j + 1) k (by simpa using h), List.append_assoc]
    congr 3
    omega
theorem idL_len {b : Bt} : ∀ {l : List ByteArray} {j : Nat}, (∀ r ∈ l, r.size ≤ 8) → (idL b j l).length ≤ 8 * l.length
  | [], j, h => by simp [idL]
  | r :: t, j, h => by
    have h1 := idL_len (b := b) (l := t) (j := j + 1) (fun x hx => h x (List.mem_cons_of_mem _ hx))
    have h2 := h r (List.mem_cons_self ..)
    rw [idL, List.length_append, idQ_len, List.length_cons]
    omega
theorem sk_one (p : Int × Int) : ∀ u ∈ skC p, u.oneCell' = true := by
  intro u hu
  simp [skC] at hu
  rcases hu with rfl | rfl <;> rfl
theorem nil_someE (a : Addr) (n c : Nat) : NilOk (.slice (some a) n c) := by intro n' c' h; cases h
theorem info_skE : (Tryz.prog.info? 95).map (fun i => (i.zero, i.size, i.bytes)) = some (some (.agg #[.int .i64 0, .int .i64 0]), 2, 16) := by kernel_rfl
def ISPost (w : World) (b : Bt) (l : List ByteArray) (e : Ending) (w' : World) : Prop := ∃ (ok : Bool) (L : List (Int × Int)) (A : Option Addr) (c : Nat), e = .returned (.tuple #[.slice A L.length c, .bool ok]) ∧
  w'.ownsRow w.heap.size 95 2 (.slice A L.length c) L.length (L.flatMap skC) ∧ Below w.heap.size w w' ∧ (ok = true ↔ GoodB b ∧ GoodRs l ∧ GoodS (idL b 0 l)) ∧ L = if ok then idL b 0 l else []
theorem is_no {w w' : World} {b : Bt} {l : List ByteArray} (h : ¬ (GoodB b ∧ GoodRs l ∧ GoodS (idL b 0 l))) (hb : Below w.heap.size w w') : ISPost w b l (.returned (.tuple #[.slice none 0 0, .bool false])) w' :=
  ⟨false, [], none, 0, rfl, World.ownsRow_nil _ _ _ _, hb, iff_false_of h, rfl⟩
theorem is_yes {w w' : World} {b : Bt} {l : List ByteArray} {A : Option Addr} {c : Nat} (h : GoodB b ∧ GoodRs l ∧ GoodS (idL b 0 l)) (ho : w'.ownsRow w.heap.size 95 2 (.slice A (idL b 0 l).length c) (idL b 0 l).length ((idL b 0 l).flatMap skC)) (hb : Below w.heap.size w w') :
    ISPost w b l (.returned (.tuple #[.slice A (idL b 0 l).length c, .bool true])) w' :=
  ⟨true, idL b 0 l, A, c, rfl, ho, hb, iff_true_of h, rfl⟩
set_option maxRecDepth 100000 in
set_option maxHeartbeats 4000000 in
theorem implIdeal_any (b : Bt) (v : Value) (l : List ByteArray) (w : World) (hv : Strs w v l) (hf : Fits l) : Calls Tryz.prog 35 #[b.v, v] w (ISPost w b l) := by
  have Hgb := Lib.hid (fun W => implGoodBeat_iff b W)
  have Hgr := Lib.hid (fun W (hW : Below w.heap.size w W) => goodRows_iff v l W (hv.to hW) hf)
  have Hbl := Lib.hid (fun (n row place : Nat) W => blowAt_any b n row place W)
  have hv0 := hv
  obtain ⟨A, c, rfl, h1, h2, hr⟩ := hv
  unfold maxLen at h2
  have HR := Lib.hid hr
  clear hr hv0
  unfold Bt.v at Hgb Hbl ⊢
  go_enter Tryz.func35, Tryz.ntmps35
  go_wp2_with fail
  refine box1 (C := fun W => Calls _ _ _ W _) ?_
  intro wb hw k1 hB0
  have R1 := boxRule k1
  clear k1
  refine (Hgb.out _).mono ?_; rintro e w1 ⟨bb, rfl, hbi, hb1⟩
  have Hbi := Lib.hid hbi
  have Hw := Lib.hid hw
  clear hbi hw
  cases bb
  · have HN : Hid (¬ (GoodB b ∧ GoodRs l ∧ GoodS (idL b 0 l))) := Lib.hid (fun h => by have := Hbi.out.2 h.1; cases this)
    go_wp2_with fail
    go_ret2
    exact is_no HN.out (bw_to Hw.out hb1)
  have HG : Hid (GoodB b) := Lib.hid (Hbi.out.1 rfl)
  clear Hbi
  go_wp2_with fail
  refine (Hgr.out _ (bw_to Hw.out hb1)).mono ?_; rintro e w2 ⟨bb, rfl, hbi, hb2⟩
  have Hbi := Lib.hid hbi
  have HB2 := Lib.hid (bw_to hb1 hb2)
  clear hbi hb1 hb2
  cases bb
  · have HN : Hid (¬ (GoodB b ∧ GoodRs l ∧ GoodS (idL b 0 l))) := Lib.hid (fun h => by have := Hbi.out.2 h.2.1; cases this)
    go_wp2_with fail
    go_ret2
    exact is_no HN.out (bw_to Hw.out HB2.out)
  have HRs : Hid (GoodRs l) := Lib.hid (Hbi.out.1 rfl)
  have hl8 := HRs.out.1
  clear Hbi
  go_wp2_with fail
  refine box1 (C := fun W => Code.wp _ _ _ _ W) ?_
  intro wq hwq k2 hBq
  have hown := own_of_heap (base := wb.heap.size) (n := 0) (size := 2) k2 HB2.out.size (by unfold maxLen; omega) rfl
  have HBq := Lib.hid (bw_to HB2.out hwq)
  have Hown := Lib.hid hown
  clear k2 hBq hwq hown
  have Hsz : Hid ((idL b 0 l).length ≤ 6400) := Lib.hid (by
    have := idL_len (b := b) (l := l) (j := 0) (fun r hr => by
      obtain ⟨i, hi, rfl⟩ := List.getElem_of_mem hr
      exact (HRs.out.2 i hi).1.1.2)
    omega)
  go_loopw [6, 21] (fun v i wr => ∃ (k : Nat) (A : Option Addr) (c : Nat), k ≤ l.length ∧ i = .int .i64 k ∧ v = .slice A (idL b 0 (l.take k)).length c ∧ wr.ownsRow wb.heap.size 95 2 (.slice A (idL b 0 (l.take k)).length c) (idL b 0 (l.take k)).length ((idL b 0 (l.take k)).flatMap skC) ∧ Below wb.heap.size wb wr) (fun _ i _ => l.length - (intOf i).toNat)
  case atStart => exact ⟨0, _, _, by omega, rfl, rfl, Hown.out, HBq.out⟩
  case round =>
    obtain ⟨k, A1, c1, hk, rfl, rfl, ho, hB⟩ := hrel
    have Ho := Lib.hid ho
    clear ho
    by_cases hlt : k < l.length
    · obtain ⟨ad, rfl, hC⟩ := strs_el HR.out hlt
      have q := hC wr (bw_to Hw.out hB)
      have Ht := Lib.hid (idL_take b l 0 k hlt)
      have hgr := (HRs.out.2 k hlt).1
      have hz := idL_len (b := b) (l := l.take k) (j := 0) (fun r hr => by
        obtain ⟨i, hi, rfl⟩ := List.getElem_of_mem (List.mem_of_mem_take hr)
        exact (HRs.out.2 i hi).1.1.2)
      rw [List.length_take] at hz
      obtain ⟨S, hS⟩ : ∃ S, S = idL b 0 (l.take k) := ⟨_, rfl⟩
      obtain ⟨r, hrr⟩ : ∃ r, r = l[k] := ⟨_, rfl⟩
      rw [← hrr] at q Ht hgr
      rw [← hS] at Ho Ht hz ⊢
      have hz2 : S.length ≤ 6400 := by omega
      have hr8 : r.size ≤ 8 := hgr.1.2
      have Hgr2 := Lib.hid hgr
      rw [Nat.zero_add] at Ht
      clear hC hS hrr hz hgr
      have hwk : IntKind.i64.wrap ((k : Int) + 1) = k + 1 := IntWalk.i64_in _ ⟨by omega, by omega⟩
      go_wp2_with fail
      obtain ⟨wo, hwo⟩ : ∃ wo : World, wo = wr := ⟨_, rfl⟩
      go_loopw [6, 28] (fun v i wr => ∃ (p : Nat) (A : Option Addr) (c : Nat), p ≤ r.size ∧ i = .int .i64 p ∧ v = .slice A (S.length + p) c ∧ wr.ownsRow wb.heap.size 95 2 (.slice A (S.length + p) c) (S.length + p) ((S ++ idQ b k r p).flatMap skC) ∧ Below wb.heap.size wb wr) (fun _ i _ => r.size - (intOf i).toNat)
      case atStart => exact ⟨0, A1, c1, by omega, rfl, rfl, by simpa [idQ] using Ho.out, hB⟩
      case round =>
        obtain ⟨p, A2, c2, hp, rfl, rfl, ho2, hB2⟩ := hrel
        have Ho2 := Lib.hid ho2
        clear ho2
        by_cases hpl : p < r.size
        · have hby := Hgr2.out.2.1 p hpl hpl
          have Hbp := Lib.hid (belI_at hpl)
          have hu8 : IntKind.u8.wrap ((r[p].toNat : Int) - 48) = (r[p].toNat : Int) - 48 := IntWalk.u8_in _ ⟨by omega, by omega⟩
          have hwp : IntKind.i64.wrap ((p : Int) + 1) = p + 1 := IntWalk.i64_in _ ⟨by omega, by omega⟩
          have Hq := Lib.hid (idQ_succ b k r p)
          have Hbw : Hid (∀ W, Calls Tryz.prog 74 #[.agg #[.int .i64 b.st, .int .i64 b.gap, .int .i64 b.hand], .int .i64 (r.size : Int), .int .i64 (k : Int), .int .i64 ((p : Int) + 1)] W fun e w' => e = .returned (.int .i64 (blowV b r.size k ((p : Int) + 1))) ∧ Below W.heap.size W w') :=
            Lib.hid (fun W => Hbl.out r.size k (p + 1) W HG.out hr8 (by omega) ⟨by omega, by omega⟩)
          obtain ⟨T, hT⟩ : ∃ T, T = blowV b r.size k ((p : Int) + 1) := ⟨_, rfl⟩
          rw [← hT] at Hbw Hq
          have hw8 : IntKind.i64.wrap ((r[p].toNat : Int) - 48) = (r[p].toNat : Int) - 48 := IntWalk.i64_in _ ⟨by omega, by omega⟩
          have hz9 := hB2.size
          have hC0 : ∀ W, Below wb.heap.size wb W → W.cell? ⟨w.heap.size, 0, none⟩ = some (.int .i64 b.st) := fun W hW => R1 W 0 hW
          have hC1 : ∀ W, Below wb.heap.size wb W → W.cell? ⟨w.heap.size, 1, none⟩ = some (.int .i64 b.gap) := fun W hW => R1 W 1 hW
          have hC2 : ∀ W, Below wb.heap.size wb W → W.cell? ⟨w.heap.size, 2, none⟩ = some (.int .i64 b.hand) := fun W hW => R1 W 2 hW
          clear hT hby hB
          go_wp2_with fail
          go_region_held3 (fun W => Below wb.heap.size wb W) (first | with_reducible assumption | exact Below.drew (by assumption) | exact bw_to (by assumption) hb' | exact bw_al (by assumption) _ | exact Below.trans (by assumption) hb6)
            (first | (go_at_call 74; refine (Hbw.out _).mono ?_; rintro e w' ⟨rfl, hb'⟩; (have ho4 := own_to (World.ownsRow.drew Ho2.out) hb')) | (refine step_app_sl _ (by rfl) _ _ _ (by rfl) wb.heap.size 95 _ 2 16 Tryz.underlying45 info_skE (by rfl) (by omega) (own_to ho4 (bw_al (Below.refl _ _) _)) (by rfl) (sl_of_own (own_of_heap (base := 0) (n := 1) (heap_new _ _) (Nat.zero_le _) (by unfold maxLen; omega) rfl)) (nil_someE _ _ _) (by rfl) (sk_one (_, T)) (by omega) (by omega) (Below.size (by assumption)) (S.length + p + 1) rfl ?_; intro A6 q6 w6 hown6 hb6 hg6))
          all_goals
            rename_i hHeld
            have Hown6 := Lib.hid hown6
            have HHeld := Lib.hid hHeld
            clear hown6 hb6 hg6 hHeld hb' ho4 hC0 hC1 hC2
            go_wp2_with fail
            refine ⟨⟨p + 1, A6, q6, by omega, by go_num, rfl, ?_, HHeld.out⟩, by simp [intOf]; omega⟩
            rw [Hq.out, ← List.append_assoc, List.flatMap_append, Hbp.out]
            exact Hown6.out
        · obtain rfl : p = r.size := by omega
          go_wp2_with fail
          refine ⟨⟨k + 1, A2, c2, by omega, by go_num, ?_, ?_, hB2⟩, by simp [intOf]; omega⟩
          · rw [Ht.out, List.length_append, idQ_len]
          · rw [Ht.out, List.length_append, idQ_len]
            exact Ho2.out
    · obtain rfl : k = l.length := by omega
      rw [List.take_length] at Ho ⊢
      have Hgs := Lib.hid (implGoodS_iff _ (idL b 0 l) wr (sks_of_own Ho.out))
      go_wp2_with fail
      refine Hgs.out.mono ?_; rintro e w9 ⟨bb, rfl, hbi, hb9⟩
      cases bb
      · have HN : Hid (¬ (GoodB b ∧ GoodRs l ∧ GoodS (idL b 0 l))) := Lib.hid (fun h => by have := hbi.2 h.2.2; cases this)
        clear hbi
        go_wp2_with fail
        go_ret2
        exact is_no HN.out (bw_to Hw.out (bw_to hB hb9))
      · have HY : Hid (GoodB b ∧ GoodRs l ∧ GoodS (idL b 0 l)) := Lib.hid ⟨HG.out, HRs.out, hbi.1 rfl⟩
        clear hbi
        go_wp2_with fail
        go_ret2
        exact is_yes HY.out (own_base (own_to Ho.out hb9) Hw.out.size) (bw_to Hw.out (bw_to hB hb9))
theorem l1AtE_any (s : ByteArray) (k : Nat) (w : World) (hs : s.size ≤ maxLen) (hk : k < s.size) (h0 : 48 ≤ (s[k].toNat : Int)) : Calls Tryz.prog 141 #[.string s, .int .i64 ((k : Int) + 1)] w fun e w' => e = .returned (.int .i64 ((s[k].toNat : Int) - 48)) ∧ w = w' := by
  unfold maxLen at hs
  have h1 := s[k].toNat_lt
  have h2 : (k : Int) + 1 - 1 = k := by omega
  go_enter Tryz.func141, Tryz.ntmps141
  go_wp2_with fail
  go_ret
  exact ⟨rfl, rfl⟩
set_option maxRecDepth 100000 in
set_option maxHeartbeats 4000000 in
theorem l21Ideal_any (b : Bt) (v : Value) (l : List ByteArray) (w : World) (hv : Strs w v l) (HG : Hid (GoodB b)) (HRs : Hid (GoodRs l)) : Calls Tryz.prog 108 #[b.v, v] w fun e w' =>
    ∃ A c, e = .returned (.slice A (idL b 0 l).length c) ∧ w'.ownsRow w.heap.size 95 2 (.slice A (idL b 0 l).length c) (idL b 0 l).length ((idL b 0 l).flatMap skC) ∧ Below w.heap.size w w' := by
  have Hbl := Lib.hid (fun (n row place : Nat) W => l21Blow_any b n row place W)
  obtain ⟨A, c, rfl, h1, h2, hr⟩ := hv
  unfold maxLen at h2
  have HR := Lib.hid hr
  have hl8 := HRs.out.1
  clear hr
  unfold Bt.v at Hbl ⊢
  go_enter Tryz.func108, Tryz.ntmps108
  go_wp2_with fail
  refine box1 (C := fun W => Code.wp _ _ _ _ W) ?_
  intro wb hw k1 hB0
  have R1 := boxRule k1
  have Hw := Lib.hid hw
  clear k1 hw
  have Hsz : Hid ((idL b 0 l).length ≤ 6400) := Lib.hid (by
    have := idL_len (b := b) (l := l) (j := 0) (fun r hr => by
      obtain ⟨i, hi, rfl⟩ := List.getElem_of_mem hr
      exact (HRs.out.2 i hi).1.1.2)
    omega)
  go_loopw [5, 11] (fun v i wr => ∃ (k : Nat) (A : Option Addr) (c : Nat), k ≤ l.length ∧ i = .int .i64 k ∧ v = .slice A (idL b 0 (l.take k)).length c ∧ wr.ownsRow wb.heap.size 95 2 (.slice A (idL b 0 (l.take k)).length c) (idL b 0 (l.take k)).length ((idL b 0 (l.take k)).flatMap skC) ∧ Below wb.heap.size wb wr) (fun _ i _ => l.length - (intOf i).toNat)
  case atStart => exact ⟨0, none, 0, by omega, rfl, rfl, World.ownsRow_nil _ _ _ _, hB0⟩
  case round =>
    obtain ⟨k, A1, c1, hk, rfl, rfl, ho, hB⟩ := hrel
    have Ho := Lib.hid ho
    clear ho
    by_cases hlt : k < l.length
    · obtain ⟨ad, rfl, hC⟩ := strs_el HR.out hlt
      have q := hC wr (bw_to Hw.out hB)
      have Ht := Lib.hid (idL_take b l 0 k hlt)
      have hgr := (HRs.out.2 k hlt).1
      have hz := idL_len (b := b) (l := l.take k) (j := 0) (fun r hr => by
        obtain ⟨i, hi, rfl⟩ := List.getElem_of_mem (List.mem_of_mem_take hr)
        exact (HRs.out.2 i hi).1.1.2)
      rw [List.length_take] at hz
      obtain ⟨S, hS⟩ : ∃ S, S = idL b 0 (l.take k) := ⟨_, rfl⟩
      obtain ⟨r, hrr⟩ : ∃ r, r = l[k] := ⟨_, rfl⟩
      rw [← hrr] at q Ht hgr
      rw [← hS] at Ho Ht hz ⊢
      have hz2 : S.length ≤ 6400 := by omega
      have hr8 : r.size ≤ 8 := hgr.1.2
      have Hgr2 := Lib.hid hgr
      rw [Nat.zero_add] at Ht
      clear hC hS hrr hz hgr
      have hwk : IntKind.i64.wrap ((k : Int) + 1) = k + 1 := IntWalk.i64_in _ ⟨by omega, by omega⟩
      go_wp2_with fail
      obtain ⟨wo, hwo⟩ : ∃ wo : World, wo = wr := ⟨_, rfl⟩
      go_loopw [5, 8] (fun v i wr => ∃ (p : Nat) (A : Option Addr) (c : Nat), p ≤ r.size ∧ i = .int .i64 ((p : Int) + 1) ∧ v = .slice A (S.length + p) c ∧ wr.ownsRow wb.heap.size 95 2 (.slice A (S.length + p) c) (S.length + p) ((S ++ idQ b k r p).flatMap skC) ∧ Below wb.heap.size wb wr) (fun _ i _ => r.size + 1 - (intOf i).toNat)
      case atStart => exact ⟨0, A1, c1, by omega, rfl, rfl, by simpa [idQ] using Ho.out, hB⟩
      case round =>
        obtain ⟨p, A2, c2, hp, rfl, rfl, ho2, hB2⟩ := hrel
        have Ho2 := Lib.hid ho2
        clear ho2
        by_cases hpl : p < r.size
        · have hby := Hgr2.out.2.1 p hpl hpl
          have Hbp := Lib.hid (belI_at hpl)
          have hu8 : IntKind.u8.wrap ((r[p].toNat : Int) - 48) = (r[p].toNat : Int) - 48 := IntWalk.u8_in _ ⟨by omega, by omega⟩
          have hwp : IntKind.i64.wrap ((p : Int) + 1 + 1) = p + 1 + 1 := IntWalk.i64_in _ ⟨by omega, by omega⟩
          have Hq := Lib.hid (idQ_succ b k r p)
          have Hbw : Hid (∀ W, Calls Tryz.prog 142 #[.agg #[.int .i64 b.st, .int .i64 b.gap, .int .i64 b.hand], .int .i64 (r.size : Int), .int .i64 (k : Int), .int .i64 ((p : Int) + 1)] W fun e w' => e = .returned (.int .i64 (blowV b r.size k ((p : Int) + 1))) ∧ Below W.heap.size W w') :=
            Lib.hid (fun W => Hbl.out r.size k (p + 1) W HG.out hr8 (by omega) ⟨by omega, by omega⟩)
          obtain ⟨T, hT⟩ : ∃ T, T = blowV b r.size k ((p : Int) + 1) := ⟨_, rfl⟩
          rw [← hT] at Hbw Hq
          have hw8 : IntKind.i64.wrap ((r[p].toNat : Int) - 48) = (r[p].toNat : Int) - 48 := IntWalk.i64_in _ ⟨by omega, by omega⟩
          have hz9 := hB2.size
          have hC0 : ∀ W, Below wb.heap.size wb W → W.cell? ⟨w.heap.size, 0, none⟩ = some (.int .i64 b.st) := fun W hW => R1 W 0 hW
          have hC1 : ∀ W, Below wb.heap.size wb W → W.cell? ⟨w.heap.size, 1, none⟩ = some (.int .i64 b.gap) := fun W hW => R1 W 1 hW
          have hC2 : ∀ W, Below wb.heap.size wb W → W.cell? ⟨w.heap.size, 2, none⟩ = some (.int .i64 b.hand) := fun W hW => R1 W 2 hW
          have Hat := Lib.hid (fun W => l1AtE_any r p W (by unfold maxLen; omega) hpl (by omega))
          clear hT hby hB
          go_wp2_with fail
          go_region_held3 (fun W => Below wb.heap.size wb W) (first | with_reducible assumption | exact Below.drew (by assumption) | exact bw_to (by assumption) hb' | exact bw_al (by assumption) _ | exact Below.trans (by assumption) hb6)
            (first | (go_at_call 141; refine (Hat.out _).mono ?_; rintro e w' ⟨rfl, rfl⟩) | (go_at_call 142; refine (Hbw.out _).mono ?_; rintro e w' ⟨rfl, hb'⟩; (have ho4 := own_to (World.ownsRow.drew Ho2.out) hb')) | (refine step_app_sl _ (by rfl) _ _ _ (by rfl) wb.heap.size 95 _ 2 16 Tryz.underlying45 info_skE (by rfl) (by omega) (own_to ho4 (bw_al (Below.refl _ _) _)) (by rfl) (sl_of_own (own_of_heap (base := 0) (n := 1) (heap_new _ _) (Nat.zero_le _) (by unfold maxLen; omega) rfl)) (nil_someE _ _ _) (by rfl) (sk_one (_, T)) (by omega) (by omega) (Below.size (by assumption)) (S.length + p + 1) rfl ?_; intro A6 q6 w6 hown6 hb6 hg6))
          all_goals
            rename_i hHeld
            have Hown6 := Lib.hid hown6
            have HHeld := Lib.hid hHeld
            clear hown6 hb6 hg6 hHeld hb' ho4 hC0 hC1 hC2
            go_wp2_with fail
            refine ⟨⟨p + 1, A6, q6, by omega, by go_num, rfl, ?_, HHeld.out⟩, by simp [intOf]; omega⟩
            rw [Hq.out, ← List.append_assoc, List.flatMap_append, Hbp.out]
            exact Hown6.out
        · obtain rfl : p = r.size := by omega
          go_wp2_with fail
          refine ⟨⟨k + 1, A2, c2, by omega, by go_num, ?_, ?_, hB2⟩, by simp [intOf]; omega⟩
          · rw [Ht.out, List.length_append, idQ_len]
          · rw [Ht.out, List.length_append, idQ_len]
            exact Ho2.out
    · obtain rfl : k = l.length := by omega
      rw [List.take_length] at Ho ⊢
      go_wp2_with fail
      go_ret
      exact ⟨A1, c1, rfl, own_base Ho.out Hw.out.size, bw_to Hw.out hB⟩
set_option maxRecDepth 100000 in
set_option maxHeartbeats 4000000 in
theorem specIdeal_any (b : Bt) (v : Value) (l : List ByteArray) (w : World) (hv : Strs w v l) (hf : Fits l) : Calls Tryz.prog 60 #[b.v, v] w (ISPost w b l) := by
  have Hgb := Lib.hid (fun W => l21Beat_iff b W)
  have Hgr := Lib.hid (fun W (hW : Below w.heap.size w W) => l6Rows_iff v l W (hv.to hW) hf)
  have Hid1 := Lib.hid (fun (hg : Hid (GoodB b)) (hr : Hid (GoodRs l)) W (hW : Below w.heap.size w W) => l21Ideal_any b v l W (hv.to hW) hg hr)
  have hv0 := hv
  obtain ⟨A, c, rfl, h1, h2, hr⟩ := hv
  unfold maxLen at h2
  clear hr hv0
  unfold Bt.v at Hgb Hid1 ⊢
  go_enter Tryz.func60, Tryz.ntmps60
  go_wp2_with fail
  refine box1 (C := fun W => Calls _ _ _ W _) ?_
  intro wb hw k1 hB0
  have R1 := boxRule k1
  clear k1
  refine (Hgb.out _).mono ?_; rintro e w1 ⟨bb, rfl, hbi, hb1⟩
  have Hbi := Lib.hid hbi
  have Hw := Lib.hid hw
  clear hbi hw
  cases bb
  · have HN : Hid (¬ (GoodB b ∧ GoodRs l ∧ GoodS (idL b 0 l))) := Lib.hid (fun h => by have := Hbi.out.2 h.1; cases this)
    go_wp2_with fail
    go_ret2
    exact is_no HN.out (bw_to Hw.out hb1)
  have HG : Hid (GoodB b) := Lib.hid (Hbi.out.1 rfl)
  clear Hbi
  go_wp2_with fail
  refine (Hgr.out _ (bw_to Hw.out hb1)).mono ?_; rintro e w2 ⟨bb, rfl, hbi, hb2⟩
  have Hbi := Lib.hid hbi
  have hB2 := bw_to hb1 hb2
  have HB2 := Lib.hid hB2
  clear hbi hb1 hb2
  cases bb
  · have HN : Hid (¬ (GoodB b ∧ GoodRs l ∧ GoodS (idL b 0 l))) := Lib.hid (fun h => by have := Hbi.out.2 h.2.1; cases this)
    go_wp2_with fail
    go_ret2
    exact is_no HN.out (bw_to Hw.out HB2.out)
  have HRs : Hid (GoodRs l) := Lib.hid (Hbi.out.1 rfl)
  have a0 := R1 w2 0 hB2
  have a1 := R1 w2 1 hB2
  have a2 := R1 w2 2 hB2
  clear Hbi hB2
  go_wp2_with fail
  refine (Hid1.out HG HRs _ (bw_to Hw.out HB2.out)).mono ?_; rintro e w3 ⟨A3, c3, rfl, ho3, hb3⟩
  have Hgs := Lib.hid (l21Good_iff _ (idL b 0 l) w3 (sks_of_own ho3))
  have HB3 := Lib.hid (bw_to HB2.out hb3)
  clear ho3 hb3 a0 a1 a2
  go_wp2_with fail
  refine Hgs.out.mono ?_; rintro e w9 ⟨bb, rfl, hbi, hb9⟩
  have hB9 := bw_to HB3.out hb9
  have HB9 := Lib.hid hB9
  cases bb
  · have HN : Hid (¬ (GoodB b ∧ GoodRs l ∧ GoodS (idL b 0 l))) := Lib.hid (fun h => by have := hbi.2 h.2.2; cases this)
    clear hbi
    go_wp2_with fail
    go_ret2
    exact is_no HN.out (bw_to Hw.out HB9.out)
  · have HY : Hid (GoodB b ∧ GoodRs l ∧ GoodS (idL b 0 l)) := Lib.hid ⟨HG.out, HRs.out, hbi.1 rfl⟩
    have a0 := R1 w9 0 hB9
    have a1 := R1 w9 1 hB9
    have a2 := R1 w9 2 hB9
    clear hbi hB9
    go_wp2_with fail
    refine (Hid1.out HG HRs _ (bw_to Hw.out HB9.out)).mono ?_; rintro e w4 ⟨A4, c4, rfl, ho4, hb4⟩
    have Ho4 := Lib.hid ho4
    have hz4 := (bw_to Hw.out HB9.out).size
    clear ho4
    go_wp2_with fail
    go_ret2
    exact is_yes HY.out (own_base Ho4.out hz4) (bw_to Hw.out (bw_to HB9.out hb4))
end Go.Proofs.YtimeecimaokldaaGreatDoor
