/- Contracts: the rows of a lead, a lead head, both sides. -/
import Derived.Test.YtimeecimaokldaaGreatDoorPk6
import Derived.Test.YtimeecimaokldaaGreatDoorPk9
namespace Go.Proofs.YtimeecimaokldaaGreatDoor
open Go Go.RowKit
set_option linter.unusedVariables false
set_option linter.unusedSimpArgs false

/-- Changes that can be applied. -/
def ChsOk (l : List ByteArray) : Prop := ∀ c ∈ l, c.size ≤ 1048576 ∧ chOk c.data.toList
theorem ChsOk.sub {l l' : List ByteArray} (h : ChsOk l) (hs : ∀ c ∈ l', c ∈ l) : ChsOk l' := fun c hc => h c (hs c hc)
theorem own_upto {w : World} {base : Nat} {e : TypeId} {A : Option Addr} {n c k : Nat} {xs : List Value} (h : w.ownsRow base e 1 (.slice A n c) n xs) (hk : k ≤ n) : w.ownsRow base e 1 (.slice A k c) k (xs.take k) := by
  obtain ⟨h1, h2⟩ := h
  refine ⟨by rw [List.length_take]; omega, ?_⟩
  rcases h2 with ⟨h2, h3⟩ | ⟨g, cap, cur, hv, hg, hh, hn, hm, hs, ht⟩
  · cases h2
    have : k = 0 := by omega
    subst this
    exact .inl ⟨rfl, by simp⟩
  · cases hv
    refine .inr ⟨g, c, cur, rfl, hg, hh, by omega, hm, hs, ?_⟩
    rw [← ht, List.take_take]; congr 1; omega
theorem sl_cap {w : World} {base : Nat} {e : TypeId} {A : Option Addr} {n c : Nat} {xs : List Value} (h : w.ownsRow base e 1 (.slice A n c) n xs) : n ≤ c := by
  obtain ⟨A', c', e', h1, _⟩ := sl_of_own h
  cases e'; exact h1
theorem str_snoc {l l' : List ByteArray} {x : ByteArray} (h : l' = l ++ [x]) : l.map Value.string ++ [.string x] = l'.map Value.string := by rw [h]; simp
set_option maxRecDepth 10000 in
set_option maxHeartbeats 2000000 in
theorem rowsUnder_any (r : ByteArray) (v : Value) (l : List ByteArray) (n : Nat) (w : World) (hn : n ≤ 8) (hr : RowIn n r) (hv : Strs w v l) (hl : l.length ≤ 1000000) (hok : ChsOk l) : Calls Tryz.prog 214 #[.string r, v] w fun e w' =>
    ∃ A q, e = .returned (.slice A (l.length + 1) q) ∧ w'.ownsRow w.heap.size 9 1 (.slice A (l.length + 1) q) (l.length + 1) ((scanB r l).map Value.string) ∧ Below w.heap.size w w' := by
  obtain ⟨A, c, rfl, h1, h2, hrd⟩ := hv
  unfold maxLen at h2
  have Hok := Lib.hid hok
  clear hok
  go_enter Tryz.func214, Tryz.ntmps214
  go_wp2_with fail
  refine box1 (C := fun W => Code.wp _ _ _ _ W) ?_
  intro wb hw k1 hB0
  have hown0 : wb.ownsRow w.heap.size 9 1 (.slice (some ⟨w.heap.size, 0, none⟩) 1 1) 1 [.string r] := own_of_heap k1 (Nat.le_refl _) (by unfold maxLen; omega) rfl
  clear k1
  go_loopw [0, 5, 12] (fun f o i wr => ∃ (k : Nat) (x : ByteArray) (A' : Option Addr) (q : Nat), k ≤ l.length ∧ i = .int .i64 k ∧ f = .string x ∧ x = runB r (l.take k) ∧ o = .slice A' (k + 1) q ∧ wr.ownsRow w.heap.size 9 1 (.slice A' (k + 1) q) (k + 1) ((scanB r (l.take k)).map Value.string) ∧ Below w.heap.size w wr) (fun _ _ i _ => l.length - (intOf i).toNat)
  case atStart => exact ⟨0, r, _, 1, by omega, rfl, rfl, rfl, rfl, hown0, hw⟩
  case round =>
    obtain ⟨k, x, A', q, hk, rfl, rfl, hx, rfl, hown, hB⟩ := hrel
    by_cases hlt : k < l.length
    · obtain ⟨ad, rfl, hC⟩ := strs_el hrd hlt
      have hC0 := hC wr hB
      have hxin : RowIn n x := by rw [hx]; exact runB_in hn _ hr
      have ho := Hok.out _ (List.getElem_mem hlt)
      have Hx : Hid (applyB x l[k] = runB r (l.take (k + 1))) := Lib.hid (by rw [run_take hlt, hx])
      have Hs : Hid (scanB r (l.take (k + 1)) = scanB r (l.take k) ++ [applyB x l[k]]) := Lib.hid (by rw [scan_take hlt, Hx.out])
      have Hap := Lib.hid (fun W => apply_any x l[k] W (by rw [hxin.1]; exact hn) ho.1 ho.2)
      obtain ⟨c', hc'⟩ : ∃ c, c = l[k] := ⟨_, rfl⟩
      rw [← hc'] at hC0 Hx Hs Hap
      clear hC hc' ho hxin hx
      go_wp2_with fail
      refine (Hap.out _).mono ?_; rintro e w2 ⟨rfl, hb2⟩
      have hown2 := own_to hown hb2
      have hB2 := bw_to hB hb2
      obtain ⟨y, hy⟩ : ∃ y, y = applyB x c' := ⟨_, rfl⟩
      rw [← hy] at Hx Hs ⊢
      clear hy
      go_wp2_with (at_builtin; go_must (refine wpList_app _ rfl _ _ _ rfl w.heap.size 9 _ 1 16 Tryz.underlying22 info_str rfl (by omega) hown2 [.string y] rfl rfl rfl (one_mem rfl) (by omega) (by omega) hB2.size ?_); intro v2 w3 hown3 hb3 hg3 _)
      obtain ⟨A2, q2, e2, _⟩ := sl_of_own hown3
      subst e2
      refine ⟨⟨k + 1, y, A2, q2, by omega, by go_num, rfl, Hx.out, rfl, ?_, hB2.trans hb3⟩, by simp [intOf]; omega⟩
      rw [← str_snoc Hs.out]
      exact hown3
    · obtain rfl : k = l.length := by omega
      rw [List.take_length] at hown
      clear hx
      go_wp2_with fail
      go_ret
      exact ⟨_, _, rfl, hown, hB⟩
structure MGood (m : Mt) (n : Nat) : Prop where
  st : m.stage = (n : Int)
  lo : 3 ≤ n
  hi : n ≤ 8
  len : 1 ≤ m.l.length ∧ m.l.length ≤ 40
  ok : ChsOk m.l
theorem changeB_size {n : Int} {l : List UInt8} (h : changeB n l = true) : l.length ≤ 6 := by
  unfold changeB at h
  rw [Bool.and_eq_true, Bool.and_eq_true] at h
  have h1 := of_decide_eq_true h.1
  have h2 := of_decide_eq_true h.2.1
  omega
theorem mgood_of {m : Mt} (h : methB m = true) : ∃ n, MGood m n := by
  unfold methB at h
  rw [Bool.and_eq_true, Bool.and_eq_true, Bool.and_eq_true] at h
  have h1 := of_decide_eq_true h.2.1
  have h2 := of_decide_eq_true h.2.2.1
  have h3 := h.2.2.2
  unfold chgs at h3
  rw [List.all_eq_true] at h3
  refine ⟨m.stage.toNat, by omega, by omega, by omega, h2, fun c hc => ⟨?_, chOk_of (h3 c hc)⟩⟩
  have := changeB_size (h3 c hc)
  rw [bytes_len] at this
  omega
theorem strs_some {w : World} {v : Value} {l : List ByteArray} (h : Strs w v l) (hl : 1 ≤ l.length) : ∃ ad c, v = .slice (some ad) l.length c := by
  obtain ⟨A, c, rfl, _, _, hr⟩ := h
  obtain ⟨ad, rfl, _⟩ := hr.2 (by omega)
  exact ⟨ad, c, rfl⟩
set_option maxRecDepth 10000 in
set_option maxHeartbeats 2000000 in
theorem leadHead_any (m : Mt) (v : Value) (n : Nat) (w : World) (hg : MGood m n) (hv : Strs w v m.l) : Calls Tryz.prog 188 #[m.v v] w fun e w' => e = .returned (.string (runB (roundsB n) m.l)) ∧ Below w.heap.size w w' := by
  have Hv := Lib.hid hv
  have hst := hg.st
  have hn := hg.hi
  have hl := hg.len
  have hsl := Lib.hid (scan_len m.l (roundsB n))
  have hlast := Lib.hid (scan_last m.l (roundsB n))
  have Hg := Lib.hid hg
  obtain ⟨A, c, rfl, h1, h2, hrd⟩ := hv
  unfold maxLen at h2
  unfold Mt.v
  rw [hst]
  clear hrd hst hg
  go_enter Tryz.func188, Tryz.ntmps188
  go_wp2_with fail
  refine box1 (C := fun W => Code.wp _ _ _ _ W) ?_
  intro wb hw k1 hB0
  have R1 := boxRule k1
  have Hru := Lib.hid (fun W hW => rowsUnder_any (roundsB n) (.slice A m.l.length c) m.l n W hn (rounds_in hn) (Hv.out.to (bw_to hw hW)) (by omega) Hg.out.ok)
  have hdr : Below wb.heap.size wb wb.drew := Below.drew (Below.refl _ _)
  clear k1
  go_region_held3 (fun W => Below wb.heap.size wb W) (first | exact Below.drew (by assumption) | exact bw_to (by assumption) hb')
    (first | (go_at_call 104; refine (rounds_any n _ hn).mono ?_; rintro e w' ⟨rfl, rfl⟩) | (go_at_call 214; refine (Hru.out _ (by assumption)).mono ?_; rintro e w' ⟨A1, q1, rfl, hown, hb'⟩; (have hq1 : m.l.length + 1 ≤ q1 := (sl_cap hown))))
  all_goals
    have hown1 := own_to hown (by first | exact Below.refl _ _ | exact Below.drew (Below.refl _ _))
    obtain ⟨A', c', e', _, _, hrd⟩ := sl_of_own hown1
    cases e'
    rw [← hsl.out] at hrd
    obtain ⟨ad, rfl, hC⟩ := strs_el (k := m.l.length) hrd (by rw [hsl.out]; omega)
    have hC0 := hC _ (Below.refl _ _)
    have he : (scanB (roundsB n) m.l)[m.l.length]'(by rw [hsl.out]; omega) = runB (roundsB n) m.l := by
      obtain ⟨h1, h2⟩ := List.getElem?_eq_some_iff.1 hlast.out
      exact h2
    rw [he] at hC0
    clear hC he hrd hown1 hown
    go_wp2_with fail
    go_ret
    exact ⟨rfl, bw_to hw (by assumption)⟩
set_option maxRecDepth 10000 in
set_option maxHeartbeats 2000000 in
theorem l4Lead_any (r : ByteArray) (v : Value) (l : List ByteArray) (n : Nat) (w : World) (hn : n ≤ 8) (hr : RowIn n r) (hv : Strs w v l) (hl : l.length ≤ 1000000) (hok : ChsOk l) : Calls Tryz.prog 213 #[v, .string r] w fun e w' =>
    ∃ A q, e = .returned (.tuple #[.slice A l.length q, .string (runB r l)]) ∧ w'.ownsRow w.heap.size 9 1 (.slice A l.length q) l.length ((leadB r l).map Value.string) ∧ Below w.heap.size w w' := by
  obtain ⟨A, c, rfl, h1, h2, hrd⟩ := hv
  unfold maxLen at h2
  have Hok := Lib.hid hok
  clear hok
  go_enter Tryz.func213, Tryz.ntmps213
  go_wp2_with fail
  go_loopw [6, 7, 13] (fun o f i wr => ∃ (k : Nat) (x : ByteArray) (A' : Option Addr) (q : Nat), k ≤ l.length ∧ i = .int .i64 k ∧ f = .string x ∧ x = runB r (l.take k) ∧ o = .slice A' k q ∧ wr.ownsRow w.heap.size 9 1 (.slice A' k q) k ((leadB r (l.take k)).map Value.string) ∧ Below w.heap.size w wr) (fun _ _ i _ => l.length - (intOf i).toNat)
  case atStart => exact ⟨0, r, none, 0, by omega, rfl, rfl, rfl, rfl, World.ownsRow_nil _ _ _ _, Below.refl _ _⟩
  case round =>
    obtain ⟨k, x, A', q, hk, rfl, rfl, hx, rfl, hown, hB⟩ := hrel
    by_cases hlt : k < l.length
    · obtain ⟨ad, rfl, hC⟩ := strs_el hrd hlt
      have hC0 := hC wr hB
      have hxin : RowIn n x := by rw [hx]; exact runB_in hn _ hr
      have ho := Hok.out _ (List.getElem_mem hlt)
      have Hx : Hid (applyB x l[k] = runB r (l.take (k + 1))) := Lib.hid (by rw [run_take hlt, hx])
      have Hs : Hid (leadB r (l.take (k + 1)) = leadB r (l.take k) ++ [x]) := Lib.hid (by rw [lead_take hlt, hx])
      have Hap := Lib.hid (fun W => l2Apply_any x l[k] W (by rw [hxin.1]; exact hn) ho.1)
      obtain ⟨c', hc'⟩ : ∃ c, c = l[k] := ⟨_, rfl⟩
      rw [← hc'] at Hx Hap
      have hCN : ∀ W, Below wr.heap.size wr W → W.cell? (ad.add k) = some (.string c') := fun W hW => by rw [hc']; exact hC W (bw_to hB hW)
      rw [← hc'] at hC0
      clear hC hc' ho hxin hx hCN
      go_wp2_with (at_builtin; go_must (refine wpList_app _ rfl _ _ _ rfl w.heap.size 9 _ 1 16 Tryz.underlying22 info_str rfl (by omega) hown [.string x] rfl rfl rfl (one_mem rfl) (by omega) (by omega) hB.size ?_); intro v2 w3 hown3 hb3 hg3 _)
      refine (Hap.out _).mono ?_; rintro e w2 ⟨rfl, hb2⟩
      have hown4 := own_to hown3 hb2
      obtain ⟨A2, q2, e2, _⟩ := sl_of_own hown4
      subst e2
      have hB2 := bw_to (hB.trans hb3) hb2
      rw [str_snoc Hs.out] at hown4
      obtain ⟨y, hy⟩ : ∃ y, y = applyB x c' := ⟨_, rfl⟩
      rw [← hy] at Hx ⊢
      clear hy hown hown3
      go_wp2_with fail
      exact ⟨⟨k + 1, y, A2, q2, by omega, by go_num, rfl, Hx.out, rfl, hown4, hB2⟩, by simp [intOf]; omega⟩
    · obtain rfl : k = l.length := by omega
      rw [List.take_length] at hown hx
      have Hx := Lib.hid hx
      clear hx
      go_wp2_with fail
      go_ret2
      exact ⟨A', q, by have := Hx.out; subst this; rfl, hown, hB⟩
set_option maxRecDepth 10000 in
set_option maxHeartbeats 2000000 in
theorem l4Head_any (m : Mt) (v : Value) (n : Nat) (w : World) (hg : MGood m n) (hv : Strs w v m.l) : Calls Tryz.prog 187 #[m.v v] w fun e w' => e = .returned (.string (runB (roundsB n) m.l)) ∧ Below w.heap.size w w' := by
  have Hv := Lib.hid hv
  have hst := hg.st
  have hn := hg.hi
  have hl := hg.len
  have Hg := Lib.hid hg
  obtain ⟨A, c, rfl, h1, h2, hrd⟩ := hv
  unfold maxLen at h2
  unfold Mt.v
  rw [hst]
  clear hrd hst hg
  go_enter Tryz.func187, Tryz.ntmps187
  go_wp2_with fail
  refine box1 (C := fun W => Code.wp _ _ _ _ W) ?_
  intro wb hw k1 hB0
  have R1 := boxRule k1
  have Hru := Lib.hid (fun W hW => l4Lead_any (roundsB n) (.slice A m.l.length c) m.l n W hn (rounds_in hn) (Hv.out.to (bw_to hw hW)) (by omega) Hg.out.ok)
  have hdr : Below wb.heap.size wb wb.drew := Below.drew (Below.refl _ _)
  clear k1
  go_region_held3 (fun W => Below wb.heap.size wb W) (first | exact Below.drew (by assumption) | exact bw_to (by assumption) hb')
    (first | (go_at_call 96; refine (l1Rounds_any n _ hn).mono ?_; rintro e w' ⟨rfl, rfl⟩) | (go_at_call 213; refine (Hru.out _ (by assumption)).mono ?_; rintro e w' ⟨A1, q1, rfl, hown, hb'⟩))
  all_goals
    clear hown
    go_wp2_with fail
    go_ret
    exact ⟨rfl, bw_to hw (by assumption)⟩
end Go.Proofs.YtimeecimaokldaaGreatDoor
