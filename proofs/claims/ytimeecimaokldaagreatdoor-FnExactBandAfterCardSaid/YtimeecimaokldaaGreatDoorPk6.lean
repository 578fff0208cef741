/- Contracts: the row of a change, a change applied, both sides. -/
import Derived.Test.YtimeecimaokldaaGreatDoorPk5
import Derived.Test.YtimeecimaokldaaGreatDoorPk4
namespace Go.Proofs.YtimeecimaokldaaGreatDoor
open Go Go.RowKit
set_option linter.unusedVariables false
set_option linter.unusedSimpArgs false

def chOk (l : List UInt8) : Prop := l = [45] ∨ digitsB l = true
def placesL (l : List UInt8) : List Int := if l = [45] then [] else l.map place
theorem chOk_of {n : Int} {l : List UInt8} (h : changeB n l = true) : chOk l := by
  unfold changeB at h
  rw [Bool.and_eq_true, Bool.and_eq_true] at h
  by_cases hd : l = [45]
  · exact .inl hd
  · refine .inr ?_
    have hn := of_decide_eq_true h.1
    have hf := h.2.2
    rw [if_neg hd] at hf
    unfold digitsB
    have key : ∀ (t : List UInt8) (a : Int), 0 ≤ a → fromB n a t = true → t.all isDig = true := by
      intro t
      induction t with
      | nil => intro a _ _; rfl
      | cons c t ih =>
        intro a ha hc
        rw [fromB, Bool.and_eq_true, Bool.and_eq_true] at hc
        have h1 := of_decide_eq_true hc.1
        rw [List.all_cons, ih (place c) (by omega) hc.2.2]
        simp [isDig]; omega
    exact key l 0 (by omega) hf
theorem places_any_stays {l : List UInt8} (p : Nat) : (placesL l).any (fun z => decide (z = (p : Int))) = stays l p := by
  unfold placesL stays
  by_cases hd : l = [45]
  · subst hd
    rw [if_pos rfl]
    have : place 45 ≠ (p : Int) := by have : place 45 = -3 := rfl; omega
    simp [this]
  · rw [if_neg hd, List.any_map]; rfl
theorem placesL_rng {l : List UInt8} (z : Int) (hz : z ∈ placesL l) : -48 ≤ z ∧ z ≤ 207 := by
  unfold placesL at hz
  split at hz
  · cases hz
  · obtain ⟨c, _, rfl⟩ := List.mem_map.1 hz; exact place_rng c
set_option maxHeartbeats 1000000 in
theorem placesOf_any (s : ByteArray) (w : World) (hs : s.size ≤ 1048576) (hok : chOk s.data.toList) : Calls Tryz.prog 224 #[.string s] w fun e w' => ∃ r, e = .returned r ∧ Ints w' r (placesL s.data.toList) ∧ Below w.heap.size w w' := by
  have hd := dash_iff s
  by_cases h : s.data.toList = [45]
  · have hp : placesL s.data.toList = [] := by unfold placesL; rw [if_pos h]
    have Hp := Lib.hid hp
    rw [decide_eq_true h] at hd
    clear h hp
    go_enter Tryz.func224, Tryz.ntmps224
    go_wp2_with fail
    go_ret
    exact ⟨_, rfl, by rw [Hp.out]; exact sl_of_own (own_of_heap (base := w.heap.size) (g := w.heap.size) (cs := #[]) (heap_new w _) (Nat.le_refl _) (by unfold maxLen; omega) rfl), bw_al (Below.refl _ _) _⟩
  · have hp : placesL s.data.toList = s.data.toList.map place := by unfold placesL; rw [if_neg h]
    have Hp := Lib.hid hp
    have Hd : Hid (digitsB s.data.toList = true) := Lib.hid (hok.resolve_left h)
    rw [decide_eq_false h] at hd
    clear h hp hok
    go_enter Tryz.func224, Tryz.ntmps224
    go_wp2_with fail
    refine (places_any s w hs).mono ?_; rintro e w' ⟨hb, h⟩
    rcases h with ⟨h, _⟩ | ⟨_, r, rfl, hr⟩
    · rw [Hd.out] at h; cases h
    · have Hr := Lib.hid hr
      clear hr
      go_wp2_with fail
      go_ret
      exact ⟨_, rfl, by rw [Hp.out]; exact Hr.out, hb⟩
def idxZ (p : Int) : Nat → List Int → Int
  | _, [] => -1
  | k, z :: t => if z = p then k else idxZ p (k + 1) t
theorem idx_hit {p : Int} {zs : List Int} {k : Nat} {r : Int} (hk : k < zs.length) (h : idxZ p k (zs.drop k) = r) (hh : zs[k] = p) : r = k := by
  rw [List.drop_eq_getElem_cons hk, idxZ, if_pos hh] at h; exact h.symm
theorem idx_step {p : Int} {zs : List Int} {k : Nat} {r : Int} (hk : k < zs.length) (h : idxZ p k (zs.drop k) = r) (hh : ¬ zs[k] = p) : idxZ p (k + 1) (zs.drop (k + 1)) = r := by
  rw [List.drop_eq_getElem_cons hk, idxZ, if_neg hh] at h; exact h
theorem idx_end {p : Int} {zs : List Int} {k : Nat} {r : Int} (hk : zs.length ≤ k) (h : idxZ p k (zs.drop k) = r) : r = -1 := by
  rw [List.drop_of_length_le hk] at h; exact h.symm
theorem idx_any (p : Int) : ∀ (zs : List Int) (k : Nat), decide (0 ≤ idxZ p k zs) = zs.any (fun z => decide (z = p))
  | [], k => rfl
  | z :: t, k => by
    rw [idxZ, List.any_cons]
    by_cases h : z = p
    · rw [if_pos h, decide_eq_true h]; simp
    · rw [if_neg h, decide_eq_false h, idx_any p t (k + 1)]; rfl
set_option maxHeartbeats 1000000 in
theorem slicesIndexInt_any (v : Value) (zs : List Int) (p : Int) (w : World) (hv : Ints w v zs) : Calls Tryz.prog 234 #[v, .int .i64 p] w fun e w' => e = .returned (.int .i64 (idxZ p 0 zs)) ∧ w = w' := by
  obtain ⟨A, c, rfl, h1, h2, hr⟩ := hv
  unfold maxLen at h2
  go_enter Tryz.func234, Tryz.ntmps234
  go_wp2_with fail
  go_loop [8] (fun i => ∃ k : Nat, k ≤ zs.length ∧ i = .int .i64 k ∧ idxZ p k (zs.drop k) = idxZ p 0 zs) (fun i => zs.length - (intOf i).toNat)
  case atStart => exact ⟨0, by omega, rfl, rfl⟩
  case round =>
    obtain ⟨k, hk, rfl, hix⟩ := hrel
    have Hix := Lib.hid hix
    clear hix
    by_cases hlt : k < zs.length
    · obtain ⟨ad, rfl, hC⟩ := ints_el hr hlt
      have hC0 := hC w (Below.refl _ _)
      have H1 := Lib.hid (idx_hit hlt Hix.out)
      have H2 := Lib.hid (idx_step hlt Hix.out)
      obtain ⟨z, hz⟩ : ∃ z, z = zs[k] := ⟨_, rfl⟩
      rw [← hz] at hC0 H1 H2
      clear hC hz
      by_cases hp : z = p
      · have hd : (p == z) = true := by simp [hp]
        have Hp := Lib.hid hp
        clear hp
        go_wp2_with fail
        go_ret
        exact ⟨ret_int (H1.out Hp.out).symm, rfl⟩
      · have hd : (p == z) = false := by simp; omega
        have Hp := Lib.hid hp
        clear hp
        go_wp2_with fail
        exact ⟨⟨k + 1, by omega, by go_num, H2.out Hp.out⟩, by simp [intOf]; omega⟩
    · go_wp2_with fail
      go_ret
      exact ⟨ret_int (idx_end (by omega) Hix.out).symm, rfl⟩
theorem slicesContainsInt_any (v : Value) (zs : List Int) (p : Int) (w : World) (hv : Ints w v zs) : Calls Tryz.prog 225 #[v, .int .i64 p] w fun e w' => e = .returned (.bool (zs.any (fun z => decide (z = p)))) ∧ w = w' := by
  have H := Lib.hid (idx_any p zs 0)
  have Hv := Lib.hid hv
  clear hv
  go_enter Tryz.func225, Tryz.ntmps225
  go_wp2_with fail
  refine (slicesIndexInt_any v zs p w Hv.out).mono ?_; rintro e w' ⟨rfl, rfl⟩
  go_wp2_with fail
  go_ret
  exact ⟨ret_bool H.out, rfl⟩
set_option maxHeartbeats 2000000 in
theorem swapsOf_any (n : Nat) (s : ByteArray) (w : World) (hn : n ≤ 8) (hs : s.size ≤ 1048576) (hok : chOk s.data.toList) : Calls Tryz.prog 203 #[.int .i64 n, .string s] w fun e w' =>
    ∃ r, e = .returned r ∧ w'.ownsRow w.heap.size 3 1 r (swapsW s.data.toList n 1).length (((swapsW s.data.toList n 1).map (fun p : Nat => (p : Int))).map (Value.int .i64)) ∧ Below w.heap.size w w' := by
  obtain ⟨L, hL⟩ : ∃ L, L = swapsW s.data.toList n 1 := ⟨_, rfl⟩
  rw [← hL]
  have hLl : L.length ≤ 8 := by rw [hL]; have := swapsW_len (c := s.data.toList) (n := n) (n - 1) 1 (Nat.le_refl _); omega
  have HL := Lib.hid hL
  clear hL
  go_enter Tryz.func203, Tryz.ntmps203
  go_wp2_with fail
  refine (placesOf_any s w hs hok).mono ?_; rintro e w1 ⟨r, rfl, hr, hb1⟩
  have Hr := Lib.hid hr
  clear hr
  go_wp2_with fail
  refine box1 (C := fun W => Code.wp _ _ _ _ W) ?_
  intro wb hw k1 hB0
  have hB1 := bw_to hb1 hw
  have hown0 : wb.ownsRow w1.heap.size 3 1 (.slice (some ⟨w1.heap.size, 0, none⟩) 0 0) 0 [] := own_of_heap (cs := #[]) k1 (Nat.le_refl _) (by unfold maxLen; omega) rfl
  clear k1 hok hB1
  go_loopw [6, 7] (fun v i wr => ∃ (p : Nat) (xs : List Nat), 1 ≤ p ∧ p ≤ n + 1 ∧ i = .int .i64 p ∧ xs ++ swapsW s.data.toList n p = L ∧ wr.ownsRow w1.heap.size 3 1 v xs.length ((xs.map (fun p : Nat => (p : Int))).map (Value.int .i64)) ∧ Below w1.heap.size w1 wr) (fun _ i _ => n + 1 - (intOf i).toNat)
  case atStart => exact ⟨1, [], by omega, by omega, rfl, by rw [HL.out]; rfl, hown0, hw⟩
  case round =>
    obtain ⟨p, xs, hp1, hpn, rfl, hxs, hown, hB⟩ := hrel
    have hxl : xs.length ≤ 8 := by have := congrArg List.length hxs; rw [List.length_append] at this; omega
    have Hxs := Lib.hid hxs
    clear hxs
    by_cases hlt : p < n
    · have Hv := Lib.hid (Hr.out.to hB)
      have Hst := Lib.hid (places_any_stays (l := s.data.toList) p)
      cases hb : stays s.data.toList p
      · have Hs := Lib.hid (swapsW_swap (c := s.data.toList) hlt hb)
        rw [hb] at Hst
        clear hb
        go_wp2_with (first | (go_at_call 225; refine (slicesContainsInt_any _ _ _ _ Hv.out).mono ?_; rintro e w' ⟨rfl, rfl⟩; rw [Hst.out]) | (at_builtin; go_must (refine wpList_app _ rfl _ _ _ rfl w1.heap.size 3 _ 1 8 Tryz.underlying57 info_i64 rfl (by omega) hown [.int .i64 p] rfl rfl rfl (one_mem rfl) (by omega) (by omega) hB.size ?_); intro v2 w2 hown2 hb2 hg2 _))
        refine ⟨⟨p + 2, xs ++ [p], by omega, by omega, by go_num, ?_, ?_, ?_⟩, by simp [intOf]; omega⟩
        · rw [List.append_assoc, ← Hxs.out, Hs.out]; rfl
        · simpa using hown2
        · exact hB.trans hb2
      · have Hs := Lib.hid (swapsW_stay (c := s.data.toList) hlt hb)
        rw [hb] at Hst
        clear hb
        go_wp2_with (go_at_call 225; refine (slicesContainsInt_any _ _ _ _ Hv.out).mono ?_; rintro e w' ⟨rfl, rfl⟩; rw [Hst.out])
        refine ⟨⟨p + 1, xs, by omega, by omega, by go_num, ?_, hown, hB⟩, by simp [intOf]; omega⟩
        rw [← Hxs.out, Hs.out]
    · have Hs := Lib.hid (swapsW_end (c := s.data.toList) hlt)
      go_wp2_with fail
      go_ret
      refine ⟨_, rfl, ?_, bw_to hb1 hB⟩
      have := Hxs.out
      rw [Hs.out, List.append_nil] at this
      rw [← this]
      exact own_base hown hb1.size
/-- Block g holds the bytes l, made of a text. -/
def BRow (w : World) (g n : Nat) (l : List UInt8) : Prop := l.length = n ∧ ∃ (cs : Array Value) (fr : Nat), w.heap[g]? = some (.cells cs 5 (fr, fr + 1)) ∧ n ≤ fr ∧ n ≤ cs.size ∧ cs.toList.take n = l.map u8v
theorem BRow.lt {w : World} {g n : Nat} {l : List UInt8} (h : BRow w g n l) : g < w.heap.size := by
  obtain ⟨_, cs, fr, hg, _⟩ := h
  exact (Array.getElem?_eq_some_iff.1 hg).1
theorem BRow.to {w w' : World} {g n : Nat} {l : List UInt8} (h : BRow w g n l) (hb : Below w.heap.size w w') : BRow w' g n l := by
  have hlt := h.lt
  obtain ⟨h1, cs, fr, hg, h2⟩ := h
  exact ⟨h1, cs, fr, (hb.block g hlt).trans hg, h2⟩
theorem BRow.cell {w : World} {g n : Nat} {l : List UInt8} (h : BRow w g n l) {j : Nat} (hj : j < l.length) : w.cell? ⟨g, j, none⟩ = some (u8v l[j]) := by
  obtain ⟨h1, cs, fr, hg, h2, h3, h4⟩ := h
  rw [cell_of_row w g j cs _ _ hg, ← Array.getElem?_toList]
  have e : (cs.toList.take n)[j]? = (l.map u8v)[j]? := by rw [h4]
  rw [List.getElem?_take_of_lt (by omega)] at e
  rw [e]; simp [hj]
theorem BRow.free {w : World} {g n : Nat} {l : List UInt8} (h : BRow w g n l) {j : Nat} (hj : j < n) : w.frozen? ⟨g, j, none⟩ = false := by
  obtain ⟨h1, cs, fr, hg, h2, h3, h4⟩ := h
  simp only [World.frozen?, hg]
  simp; omega
theorem BRow.set {w : World} {g n : Nat} {l : List UInt8} (h : BRow w g n l) {j : Nat} (hj : j < n) (b : UInt8) : BRow (w.setCell ⟨g, j, none⟩ (u8v b)) g n (l.set j b) := by
  obtain ⟨h1, cs, fr, hg, h2, h3, h4⟩ := h
  refine ⟨by simpa using h1, cs.setIfInBounds j (u8v b), fr, by simp [World.setCell, Array.getElem?_modify, hg], h2, by simpa using h3, ?_⟩
  rw [Array.toList_setIfInBounds, List.take_set, h4, List.map_set]
theorem BRow.conv {P : Program} {src dst e : TypeId} (hs : P.underlying src = some (.slice e)) (he : P.underlying e = some (.int .u8)) (hd : P.underlying dst = some .string) {w : World} {g n cap : Nat} {l : List UInt8} (h : BRow w g n l) :
    (convert src dst (.slice (some ⟨g, 0, none⟩) n cap)).run P w = .ok (.string (ofL l)) w := by
  have hl := h.1
  subst hl
  refine run_convert_bytes_back w src dst e ⟨g, 0, none⟩ cap l hs he hd (fun j hj => ?_)
  rw [Addr.add_lit, Nat.zero_add, h.cell hj]; rfl
/-- '[]byte(s)'. -/
theorem bytes_of (s : ByteArray) (n : Nat) (hn : s.size = n) (w : World) : ∃ (w' : World) (C : Nat), (convert 9 53 (.string s)).run Tryz.prog w = .ok (.slice (some ⟨w.heap.size, 0, none⟩) n C) w' ∧ BRow w' w.heap.size n s.data.toList ∧ Below w.heap.size w w' := by
  subst hn
  refine ⟨_, _, run_bytes_of_string w 9 53 5 s Tryz.underlying9 Tryz.underlying53 Tryz.underlying5, ⟨bytes_len s, bytesRow s (grownCap w s.size 0 5), _, heap_alloc_new _ _, ?_, ?_, ?_⟩, Below.alloc (Below.drew (Below.refl _ _)) (Nat.le_refl _) _⟩
  · unfold bytesRow; rw [Array.size_append, Array.size_map, Array.size_replicate]; show s.size ≤ s.size + _; omega
  · unfold bytesRow; rw [Array.size_append, Array.size_map, Array.size_replicate]; show s.size ≤ s.size + _; omega
  · simp only [bytesRow, Array.toList_append, Array.toList_map]
    rw [List.take_append_of_le_length (by simp), List.take_of_length_le (by simp)]
    rfl
theorem nats_el {w : World} {A : Option Addr} {L : List Nat} {c n : Nat} {base : Nat} {e : TypeId} (h : w.ownsRow base e 1 (.slice A n c) L.length ((L.map (fun p : Nat => (p : Int))).map (Value.int .i64))) {k : Nat} (hk : k < L.length) :
    ∃ ad, A = some ad ∧ w.cell? (ad.add k) = some (.int .i64 (L[k] : Int)) := by
  obtain ⟨A', c', e', _, _, hrd⟩ := sl_of_own h
  cases e'
  obtain ⟨ad, rfl, hC⟩ := ints_el (k := k) hrd (by simpa using hk)
  exact ⟨ad, rfl, by rw [hC w (Below.refl _ _)]; simp⟩
theorem swapAt_succ {l : List UInt8} {q : Nat} (h : q + 1 < l.length) : swapAt l (q + 1) = (l.set q l[q + 1]).set (q + 1) (l[q]'(by omega)) := by
  unfold swapAt
  rw [Nat.add_sub_cancel, List.getD_eq_getElem?_getD, List.getD_eq_getElem?_getD, List.getElem?_eq_getElem h, List.getElem?_eq_getElem (by omega)]
  rfl
set_option maxRecDepth 10000 in
set_option maxHeartbeats 2000000 in
theorem changeRow_any (n : Nat) (s : ByteArray) (w : World) (hn : n ≤ 8) (hs : s.size ≤ 1048576) (hok : chOk s.data.toList) : Calls Tryz.prog 202 #[.int .i64 n, .string s] w fun e w' =>
    e = .returned (.string (chB n s)) ∧ Below w.heap.size w w' := by
  obtain ⟨w1, C, hcv, hrow, hb1⟩ := bytes_of (roundsB n) n (rounds_size hn) w
  have Hrow := Lib.hid (show BRow w1 w.heap.size n ((([] : List Nat)).foldl swapAt (roundsL n)) by rw [← rounds_list hn]; exact hrow)
  have HT := Lib.hid (show chB n s = ofL ((swapsW s.data.toList n 1).foldl swapAt (roundsL n)) from rfl)
  have hsw := swapsOf_any n s w1 hn hs hok
  have hmem := swapsW_mem (c := s.data.toList) (n := n) (n - 1) 1 (Nat.le_refl _)
  have hlen := swapsW_len (c := s.data.toList) (n := n) (n - 1) 1 (Nat.le_refl _)
  obtain ⟨L, hL⟩ : ∃ L, L = swapsW s.data.toList n 1 := ⟨_, rfl⟩
  rw [← hL] at HT hsw hmem hlen
  have Hsw := Lib.hid hsw
  have Hmem := Lib.hid hmem
  clear hrow hsw hmem hL hok
  go_enter Tryz.func202, Tryz.ntmps202
  go_wp2_with (go_at_call 104; refine (rounds_any n _ hn).mono ?_; rintro e w' ⟨rfl, rfl⟩)
  refine Hsw.out.mono ?_; rintro e w2 ⟨r, rfl, hown, hb2⟩
  have hg0 := Hrow.out.lt
  obtain ⟨A, cap, hr, hlc, hcm, hrd⟩ : ∃ A c, r = .slice A L.length c ∧ L.length ≤ c ∧ c ≤ maxLen ∧ Reads w2 w2.heap.size 1 A L.length ((L.map (fun p : Nat => (p : Int))).map (Value.int .i64)) := sl_of_own hown
  subst hr
  unfold maxLen at hcm
  have Hr2 := Lib.hid (Hrow.out.to hb2)
  clear hrd Hrow hcv
  go_wp2_with fail
  go_loopw [15] (fun i wr => ∃ k : Nat, k ≤ L.length ∧ i = .int .i64 k ∧ BRow wr w.heap.size n ((L.take k).foldl swapAt (roundsL n)) ∧ wr.ownsRow w1.heap.size 3 1 (.slice A L.length cap) L.length ((L.map (fun p : Nat => (p : Int))).map (Value.int .i64)) ∧ Below w.heap.size w wr) (fun i _ => L.length - (intOf i).toNat)
  case atStart => exact ⟨0, by omega, rfl, Hr2.out, hown, bw_to hb1 hb2⟩
  case round =>
    obtain ⟨k, hk, rfl, hrow, hownk, hB⟩ := hrel
    have Hrow := Lib.hid hrow
    have Hown := Lib.hid hownk
    by_cases hlt : k < L.length
    · obtain ⟨ad, rfl, hC0⟩ := nats_el hownk hlt
      have hpr := Hmem.out _ (List.getElem_mem hlt)
      obtain ⟨q, hq⟩ : ∃ q, L[k] = q + 1 := ⟨L[k] - 1, by omega⟩
      have hC1 : wr.cell? (ad.add k) = some (.int .i64 ((q : Int) + 1)) := by rw [hC0]; simp [hq]
      have Hstep : Hid ((L.take (k + 1)).foldl swapAt (roundsL n) = swapAt ((L.take k).foldl swapAt (roundsL n)) (q + 1)) := Lib.hid (by rw [List.take_succ_eq_append_getElem hlt, List.foldl_append, hq]; rfl)
      obtain ⟨l, hl⟩ : ∃ l, l = (L.take k).foldl swapAt (roundsL n) := ⟨_, rfl⟩
      rw [← hl] at hrow Hstep
      have hln := hrow.1
      have hq1 : q + 1 < l.length := by omega
      have Hsw1 := Lib.hid (swapAt_succ hq1)
      have c0 := hrow.cell (j := q) (by omega)
      have c1 := hrow.cell (j := q + 1) hq1
      have f0 := hrow.free (j := q) (by omega)
      have f1 := hrow.free (j := q + 1) (by omega)
      have Hln := Lib.hid hln
      have hw1 : IntKind.i64.wrap ((q : Int) + 1 - 1) = q := by rw [IntWalk.i64_in _ ⟨by omega, by omega⟩]; omega
      have hw2 : (q : Int) + 1 - 1 = q := by omega
      have hi1 : ((q : Int) + 1).toNat = q + 1 := by omega
      have hi2 : (0 : Int) ≤ (q : Int) + 1 := by omega
      have hi3 : (q : Int) + 1 < n := by omega
      have hi4 : (q : Int) < n := by omega
      have Hrow1 := Lib.hid hrow
      obtain ⟨x, hx⟩ : ∃ x, x = l[q]'(by omega) := ⟨_, rfl⟩
      obtain ⟨y, hy⟩ : ∃ y, y = l[q + 1] := ⟨_, rfl⟩
      rw [← hx] at c0 Hsw1
      rw [← hy] at c1 Hsw1
      unfold u8v at c0 c1
      clear hC0 hq hl hrow hln hx hy hpr
      go_wp2_with fail
      go_region
      clear hw1 hw2 hi1 hi2 hi3 hi4 c0 c1 f0 f1
      go_wp2_with fail
      refine ⟨⟨k + 1, by omega, by go_num, ?_, own_to (own_past (own_past Hown.out (by omega) _ _) (by omega) _ _) (Below.drew (Below.refl _ _)), (grow_set (grow_set hB (Nat.le_refl _) _) (Nat.le_refl _) _).drew⟩, by simp [intOf]; omega⟩
      have h2 : q + 1 < n := by have := Hln.out; omega
      rw [Hstep.out, Hsw1.out]
      exact ((Hrow1.out.set (by omega) y).set (by omega) x).to (Below.drew (Below.refl _ _))
    · obtain rfl : k = L.length := by omega
      rw [List.take_length] at hrow
      have hcv := hrow.conv (cap := C) Tryz.underlying53 Tryz.underlying5 Tryz.underlying9
      clear hrow Hrow
      go_wp2_with fail
      go_ret
      exact ⟨ret_str HT.out.symm, hB⟩

theorem row_hin {n : Nat} {r b : ByteArray} (hr : r.size = n) (hb : RowIn n b) : ∀ i (h : i < b.size), 49 ≤ b[i].toNat ∧ b[i].toNat < 49 + r.size := fun i h => by have := hb.at_ h; omega
theorem apply_any (r c : ByteArray) (w : World) (hr : r.size ≤ 8) (hs : c.size ≤ 1048576) (hok : chOk c.data.toList) : Calls Tryz.prog 173 #[.string r, .string c] w fun e w' => e = .returned (.string (applyB r c)) ∧ Below w.heap.size w w' := by
  have hch := ch_in hr c
  have Hin := Lib.hid (row_hin rfl hch)
  have HT := Lib.hid (show applyB r c = timesB r (chB r.size c) from rfl)
  have hsz : (chB r.size c).size ≤ 8 := by rw [hch.1]; exact hr
  have Hok := Lib.hid hok
  clear hch hok
  go_enter Tryz.func173, Tryz.ntmps173
  go_wp2_with fail
  refine (changeRow_any r.size c w hr hs Hok.out).mono ?_; rintro e w1 ⟨rfl, hb1⟩
  go_wp2_with fail
  refine (times_any r (chB r.size c) w1 (by omega) (by omega) Hin.out).mono ?_; rintro e w2 ⟨rfl, hb2⟩
  go_wp2_with fail
  go_ret
  exact ⟨ret_str HT.out.symm, bw_to hb1 hb2⟩
theorem stays_step {l : List UInt8} {k p : Nat} {b : Bool} (hk : k < l.length) (h : b = stays (l.drop k) p) : b = (decide (place l[k] = (p : Int)) || stays (l.drop (k + 1)) p) := by
  rw [h, List.drop_eq_getElem_cons hk]; rfl
theorem l2Stays_any (s : ByteArray) (p : Nat) (w : World) (hs : s.size ≤ maxLen) : Calls Tryz.prog 223 #[.string s, .int .i64 p] w fun e w' => e = .returned (.bool (stays s.data.toList p)) ∧ w = w' := by
  unfold maxLen at hs
  obtain ⟨q, hq⟩ : ∃ q, q = stays s.data.toList p := ⟨_, rfl⟩
  rw [← hq]
  have Hq := Lib.hid (show q = stays (s.data.toList.drop 0) p by rw [hq]; rfl)
  clear hq
  go_enter Tryz.func223, Tryz.ntmps223
  go_wp2_with fail
  go_loop [5] (fun i => ∃ k : Nat, k ≤ s.size ∧ i = .int .i64 k ∧ q = stays (s.data.toList.drop k) p) (fun i => s.size - (intOf i).toNat)
  case atStart => exact ⟨0, Nat.zero_le _, rfl, Hq.out⟩
  case round =>
    obtain ⟨k, hk, rfl, ha⟩ := hrel
    have Ha := Lib.hid ha
    clear ha
    by_cases hlt : k < s.size
    · have H1 := Lib.hid (stays_step (l := s.data.toList) (by rw [bytes_len]; exact hlt) Ha.out)
      have hpw := place_wrap s[k]
      have hH : Hid (q = (decide (place s[k] = (p : Int)) || stays (s.data.toList.drop (k + 1)) p)) := Lib.hid H1.out
      clear H1
      obtain ⟨z, hz⟩ : ∃ z, z = place s[k] := ⟨_, rfl⟩
      rw [← hz] at hpw hH
      clear hz
      by_cases hp : z = p
      · have hd : (z == (p : Int)) = true := by simp [hp]
        have hE : Hid (q = true) := Lib.hid (by rw [hH.out, decide_eq_true hp]; rfl)
        clear hp
        go_wp2_with fail
        go_ret
        exact ⟨ret_bool hE.out.symm, rfl⟩
      · have hd : (z == (p : Int)) = false := by simp; omega
        have hE : Hid (q = stays (s.data.toList.drop (k + 1)) p) := Lib.hid (by rw [hH.out, decide_eq_false hp]; rfl)
        clear hp
        go_wp2_with fail
        exact ⟨⟨k + 1, by omega, by go_num, hE.out⟩, by simp [intOf]; omega⟩
    · go_wp2_with fail
      go_ret
      refine ⟨ret_bool ?_, rfl⟩
      rw [Ha.out, List.drop_of_length_le (by rw [bytes_len]; omega)]; rfl
set_option maxRecDepth 10000 in
set_option maxHeartbeats 2000000 in
theorem l2Row_any (n : Nat) (s : ByteArray) (w : World) (hn : n ≤ 8) (hs : s.size ≤ 1048576) : Calls Tryz.prog 201 #[.int .i64 n, .string s] w fun e w' => e = .returned (.string (chB n s)) ∧ Below w.heap.size w w' := by
  obtain ⟨w1, C, hcv, hrow, hb1⟩ := bytes_of (roundsB n) n (rounds_size hn) w
  rw [rounds_list hn] at hrow
  obtain ⟨F, hF⟩ : ∃ F, F = chL n s.data.toList := ⟨_, rfl⟩
  have HF := Lib.hid (show F = (swapsW s.data.toList n 1).foldl swapAt (roundsL n) from hF)
  have HT := Lib.hid (show chB n s = ofL F by rw [hF]; rfl)
  have Hrow := Lib.hid hrow
  clear hrow hF
  go_enter Tryz.func201, Tryz.ntmps201
  go_wp2_with (go_at_call 96; refine (l1Rounds_any n _ hn).mono ?_; rintro e w' ⟨rfl, rfl⟩)
  clear hcv
  go_loopw [6] (fun i wr => ∃ (p : Nat) (l : List UInt8), 1 ≤ p ∧ p ≤ n + 1 ∧ i = .int .i64 p ∧ BRow wr w.heap.size n l ∧ (∀ i, p ≤ i + 1 → l[i]? = (roundsL n)[i]?) ∧ (swapsW s.data.toList n p).foldl swapAt l = F ∧ Below w.heap.size w wr) (fun i _ => n + 1 - (intOf i).toNat)
  case atStart => exact ⟨1, _, by omega, by omega, rfl, Hrow.out, fun _ _ => rfl, HF.out.symm, hb1⟩
  case round =>
    obtain ⟨p, l, hp1, hpn, rfl, hrow, htl, hf, hB⟩ := hrel
    have Htl := Lib.hid htl
    have Hf := Lib.hid hf
    have Hrow1 := Lib.hid hrow
    clear htl hf Hrow
    by_cases hlt : p < n
    · cases hb : stays s.data.toList p
      · have Hs := Lib.hid (swapsW_swap (c := s.data.toList) hlt hb)
        have Hsp := Lib.hid (spec_swap hrow.1 hp1 hlt (Htl.out (p - 1) (by omega)) (Htl.out p (by omega)))
        have Hb := Lib.hid hb
        obtain ⟨y0, c0⟩ : ∃ y, wr.cell? ⟨w.heap.size, p - 1, none⟩ = some y := ⟨_, hrow.cell (j := p - 1) (by have := hrow.1; omega)⟩
        obtain ⟨y1, c1⟩ : ∃ y, wr.cell? ⟨w.heap.size, p, none⟩ = some y := ⟨_, hrow.cell (j := p) (by have := hrow.1; omega)⟩
        have f0 := hrow.free (j := p - 1) (by omega)
        have f1 := hrow.free (j := p) hlt
        have hw1 : IntKind.u8.wrap (49 + (p : Int)) = 49 + p := IntWalk.u8_in _ ⟨by omega, by omega⟩
        have hw2 : IntKind.u8.wrap (48 + (p : Int)) = 48 + p := IntWalk.u8_in _ ⟨by omega, by omega⟩
        have hi1 : ((p : Int) - 1).toNat = p - 1 := by omega
        have hi2 : (0 : Int) ≤ (p : Int) - 1 := by omega
        clear hb hrow
        go_wp2_with (go_at_call 223; refine (l2Stays_any s p _ (by unfold maxLen; omega)).mono ?_; rintro e w' ⟨rfl, rfl⟩; rw [Hb.out])
        have e1 : Value.int .u8 (49 + (p : Int)) = u8v (UInt8.ofNat (49 + p)) := by unfold u8v; rw [UInt8.toNat_ofNat_of_lt' (by show 49 + p < 256; omega)]; congr 1
        have e2 : Value.int .u8 (48 + (p : Int)) = u8v (UInt8.ofNat (48 + p)) := by unfold u8v; rw [UInt8.toNat_ofNat_of_lt' (by show 48 + p < 256; omega)]; congr 1
        rw [e1, e2]
        refine ⟨⟨p + 2, _, by omega, by omega, by go_num, (Hrow1.out.set (j := p - 1) (by omega) _).set hlt _, ?_, ?_, grow_set (grow_set hB (Nat.le_refl _) _) (Nat.le_refl _) _⟩, by simp [intOf]; omega⟩
        · intro i hi
          rw [List.getElem?_set_ne (by omega), List.getElem?_set_ne (by omega)]
          exact Htl.out i (by omega)
        · rw [← Hsp.out, ← Hf.out, Hs.out, List.foldl_cons]
      · have Hs := Lib.hid (swapsW_stay (c := s.data.toList) hlt hb)
        have Hb := Lib.hid hb
        clear hb hrow
        go_wp2_with (go_at_call 223; refine (l2Stays_any s p _ (by unfold maxLen; omega)).mono ?_; rintro e w' ⟨rfl, rfl⟩; rw [Hb.out])
        exact ⟨⟨p + 1, l, by omega, by omega, by go_num, Hrow1.out, fun i hi => Htl.out i (by omega), by rw [← Hs.out]; exact Hf.out, hB⟩, by simp [intOf]; omega⟩
    · have hcv := hrow.conv (cap := C) Tryz.underlying53 Tryz.underlying5 Tryz.underlying9
      have hfl := Hf.out
      rw [swapsW_end hlt] at hfl
      have Hfl := Lib.hid hfl
      clear hrow hfl
      go_wp2_with fail
      go_ret
      exact ⟨ret_str (by rw [HT.out, ← Hfl.out]; rfl), hB⟩

theorem l2Apply_any (r c : ByteArray) (w : World) (hr : r.size ≤ 8) (hs : c.size ≤ 1048576) : Calls Tryz.prog 165 #[.string r, .string c] w fun e w' => e = .returned (.string (applyB r c)) ∧ Below w.heap.size w w' := by
  have hch := ch_in hr c
  have Hin := Lib.hid (row_hin rfl hch)
  have HT := Lib.hid (show applyB r c = timesB r (chB r.size c) from rfl)
  have hsz : (chB r.size c).size ≤ 8 := by rw [hch.1]; exact hr
  clear hch
  go_enter Tryz.func165, Tryz.ntmps165
  go_wp2_with fail
  refine (l2Row_any r.size c w hr hs).mono ?_; rintro e w1 ⟨rfl, hb1⟩
  go_wp2_with fail
  refine (l1Times_any r (chB r.size c) w1 (by omega) (by omega) Hin.out).mono ?_; rintro e w2 ⟨rfl, rfl⟩
  go_wp2_with fail
  go_ret
  exact ⟨ret_str HT.out.symm, hb1⟩
end Go.Proofs.YtimeecimaokldaaGreatDoor
