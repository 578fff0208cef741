/- Contracts: the rows of a lead, a lead head, both sides. -/
import Derived.Test.YtofpjbdelmmclaaGreatDoorPk7
import Derived.Test.YtofpjbdelmmclaaGreatDoorPk11
import Derived.Test.YtofpjbdelmmclaaGreatDoorPk10
import Derived.Maps.Own
import Derived.Maps.OwnOps
import Derived.Maps.Views
import Derived.Maps.StringElems
import Derived.Test.YtofpjbdelmmclaaGreatDoorPk4
namespace Go.Proofs.YtofpjbdelmmclaaGreatDoor
open Go Go.RowKit
set_option linter.unusedVariables false
set_option linter.unusedSimpArgs false

/-- Changes that can be applied. -/
def ChsOk (l : List ByteArray) : Prop := ∀ c ∈ l, c.size ≤ 1048576 ∧ chOk c.data.toList
theorem ChsOk.sub {l l' : List ByteArray} (h : ChsOk l) (hs : ∀ c ∈ l', c ∈ l) : ChsOk l' := fun c hc => h c (hs c hc)
theorem own_upto {w : World} {base : Nat} {e : TypeId} {A : Option Addr} {n c k : Nat} {xs : List Value} (h : w.ownsRow base e 1 (.slice A n c) n xs) (hk : k ≤ n) : w.ownsRow base e 1 (.slice A k c) k (xs.take k) := by
  obtain ⟨h1, h2⟩ := h
  refine ⟨by rw [List.length_take]; omega, ?_⟩
  rcases h2 with ⟨h2, h3⟩ | ⟨g, cap, cur, hv, hg, hh, hn, hm, hs, ht⟩
  · cases h2
    have : k = 0 := by omega
    subst this
    exact .inl ⟨rfl, by simp⟩
  · cases hv
    refine .inr ⟨g, c, cur, rfl, hg, hh, by omega, hm, hs, ?_⟩
    rw [← ht, List.take_take]; congr 1; omega
theorem sl_cap {w : World} {base : Nat} {e : TypeId} {A : Option Addr} {n c : Nat} {xs : List Value} (h : w.ownsRow base e 1 (.slice A n c) n xs) : n ≤ c := by
  obtain ⟨A', c', e', h1, _⟩ := sl_of_own h
  cases e'; exact h1
theorem str_snoc {l l' : List ByteArray} {x : ByteArray} (h : l' = l ++ [x]) : l.map Value.string ++ [.string x] = l'.map Value.string := by rw [h]; simp
set_option maxRecDepth 10000 in
set_option maxHeartbeats 2000000 in
theorem rowsUnder_any (r : ByteArray) (v : Value) (l : List ByteArray) (n : Nat) (w : World) (hn : n ≤ 8) (hr : RowIn n r) (hv : Strs w v l) (hl : l.length ≤ 1000000) (hok : ChsOk l) : Calls Tryz.prog 195 #[.string r, v] w fun e w' =>
    ∃ A q, e = .returned (.slice A (l.length + 1) q) ∧ w'.ownsRow w.heap.size 9 1 (.slice A (l.length + 1) q) (l.length + 1) ((scanB r l).map Value.string) ∧ Below w.heap.size w w' := by
  obtain ⟨A, c, rfl, h1, h2, hrd⟩ := hv
  unfold maxLen at h2
  have Hok := Lib.hid hok
  clear hok
  go_enter Tryz.func195, Tryz.ntmps195
  go_wp2_with fail
  refine box1 (C := fun W => Code.wp _ _ _ _ W) ?_
  intro wb hw k1 hB0
  have hown0 : wb.ownsRow w.heap.size 9 1 (.slice (some ⟨w.heap.size, 0, none⟩) 1 1) 1 [.string r] := own_of_heap k1 (Nat.le_refl _) (by unfold maxLen; omega) rfl
  clear k1
  go_loopw [0, 5, 12] (fun f o i wr => ∃ (k : Nat) (x : ByteArray) (A' : Option Addr) (q : Nat), k ≤ l.length ∧ i = .int .i64 k ∧ f = .string x ∧ x = runB r (l.take k) ∧ o = .slice A' (k + 1) q ∧ wr.ownsRow w.heap.size 9 1 (.slice A' (k + 1) q) (k + 1) ((scanB r (l.take k)).map Value.string) ∧ Below w.heap.size w wr) (fun _ _ i _ => l.length - (intOf i).toNat)
  case atStart => exact ⟨0, r, _, 1, by omega, rfl, rfl, rfl, rfl, hown0, hw⟩
  case round =>
    obtain ⟨k, x, A', q, hk, rfl, rfl, hx, rfl, hown, hB⟩ := hrel
    by_cases hlt : k < l.length
    · obtain ⟨ad, rfl, hC⟩ := strs_el hrd hlt
      have hC0 := hC wr hB
      have hxin : RowIn n x := by rw [hx]; exact runB_in hn _ hr
      have ho := Hok.out _ (List.getElem_mem hlt)
      have Hx : Hid (applyB x l[k] = runB r (l.take (k + 1))) := Lib.hid (by rw [run_take hlt, hx])
      have Hs : Hid (scanB r (l.take (k + 1)) = scanB r (l.take k) ++ [applyB x l[k]]) := Lib.hid (by rw [scan_take hlt, Hx.out])
      have Hap := Lib.hid (fun W => apply_any x l[k] W (by rw [hxin.1]; exact hn) ho.1 ho.2)
      obtain ⟨c', hc'⟩ : ∃ c, c = l[k] := ⟨_, rfl⟩
      rw [← hc'] at hC0 Hx Hs Hap
      clear hC hc' ho hxin hx
      go_wp2_with fail
      refine (Hap.out _).mono ?_; rintro e w2 ⟨rfl, hb2⟩
      have hown2 := own_to hown hb2
      have hB2 := bw_to hB hb2
      obtain ⟨y, hy⟩ : ∃ y, y = applyB x c' := ⟨_, rfl⟩
      rw [← hy] at Hx Hs ⊢
      clear hy
      go_wp2_with (at_builtin; go_must (refine wpList_app _ rfl _ _ _ rfl w.heap.size 9 _ 1 16 Tryz.underlying24 info_str rfl (by omega) hown2 [.string y] rfl rfl rfl (one_mem rfl) (by omega) (by omega) hB2.size ?_); intro v2 w3 hown3 hb3 hg3 _)
      obtain ⟨A2, q2, e2, _⟩ := sl_of_own hown3
      subst e2
      refine ⟨⟨k + 1, y, A2, q2, by omega, by go_num, rfl, Hx.out, rfl, ?_, hB2.trans hb3⟩, by simp [intOf]; omega⟩
      rw [← str_snoc Hs.out]
      exact hown3
    · obtain rfl : k = l.length := by omega
      rw [List.take_length] at hown
      clear hx
      go_wp2_with fail
      go_ret
      exact ⟨_, _, rfl, hown, hB⟩
set_option maxRecDepth 10000 in
set_option maxHeartbeats 2000000 in
theorem leadRows_any (m : Mt) (v : Value) (r : ByteArray) (n : Nat) (w : World) (hn : n ≤ 8) (hr : RowIn n r) (hv : Strs w v m.l) (hl : m.l.length ≤ 1000000) (hok : ChsOk m.l) : Calls Tryz.prog 160 #[m.v v, .string r] w fun e w' =>
    ∃ A q, e = .returned (.slice A m.l.length q) ∧ w'.ownsRow w.heap.size 9 1 (.slice A m.l.length q) m.l.length ((leadB r m.l).map Value.string) ∧ Below w.heap.size w w' := by
  have Hv := Lib.hid hv
  obtain ⟨A, c, rfl, h1, h2, hrd⟩ := hv
  unfold maxLen at h2
  unfold Mt.v
  clear hrd
  go_enter Tryz.func160, Tryz.ntmps160
  go_wp2_with fail
  refine box1 (C := fun W => Code.wp _ _ _ _ W) ?_
  intro wb hw k1 hB0
  have R1 := boxRule k1
  have Hru := Lib.hid (fun W hW => rowsUnder_any r (.slice A m.l.length c) m.l n W hn hr (Hv.out.to (bw_to hw hW)) hl hok)
  have hdr : Below wb.heap.size wb wb.drew := Below.drew (Below.refl _ _)
  clear k1 hok hr
  go_region_held3 (fun W => Below wb.heap.size wb W) (first | exact Below.drew (by assumption) | exact bw_to (by assumption) hb')
    (first | (go_at_call 195; refine (Hru.out _ (by assumption)).mono ?_; rintro e w' ⟨A1, q1, rfl, hown, hb'⟩; (have hq1 : m.l.length + 1 ≤ q1 := (sl_cap hown)); (have hq2 : (m.l.length : Int) ≤ (q1 : Int) := by omega); (have hq3 : (0 : Int) ≤ (m.l.length : Int) := by omega)))
  all_goals
    go_wp2_with fail
    go_ret
    refine ⟨_, _, rfl, ?_, bw_to hw (by assumption)⟩
    have h := own_upto (own_base hown hw.size) (Nat.le_succ m.l.length)
    rw [← List.map_take] at h
    exact own_to h (by first | exact Below.refl _ _ | exact Below.drew (Below.refl _ _))
structure MGood (m : Mt) (n : Nat) : Prop where
  st : m.stage = (n : Int)
  lo : 3 ≤ n
  hi : n ≤ 8
  len : 1 ≤ m.l.length ∧ m.l.length ≤ 40
  ok : ChsOk m.l
theorem changeB_size {n : Int} {l : List UInt8} (h : changeB n l = true) : l.length ≤ 6 := by
  unfold changeB at h
  rw [Bool.and_eq_true, Bool.and_eq_true] at h
  have h1 := of_decide_eq_true h.1
  have h2 := of_decide_eq_true h.2.1
  omega
theorem mgood_of {m : Mt} (h : methB m = true) : ∃ n, MGood m n := by
  unfold methB at h
  rw [Bool.and_eq_true, Bool.and_eq_true, Bool.and_eq_true] at h
  have h1 := of_decide_eq_true h.2.1
  have h2 := of_decide_eq_true h.2.2.1
  have h3 := h.2.2.2
  unfold chgs at h3
  rw [List.all_eq_true] at h3
  refine ⟨m.stage.toNat, by omega, by omega, by omega, h2, fun c hc => ⟨?_, chOk_of (h3 c hc)⟩⟩
  have := changeB_size (h3 c hc)
  rw [bytes_len] at this
  omega
theorem strs_some {w : World} {v : Value} {l : List ByteArray} (h : Strs w v l) (hl : 1 ≤ l.length) : ∃ ad c, v = .slice (some ad) l.length c := by
  obtain ⟨A, c, rfl, _, _, hr⟩ := h
  obtain ⟨ad, rfl, _⟩ := hr.2 (by omega)
  exact ⟨ad, c, rfl⟩
set_option maxRecDepth 10000 in
set_option maxHeartbeats 2000000 in
theorem leadHead_any (m : Mt) (v : Value) (n : Nat) (w : World) (hg : MGood m n) (hv : Strs w v m.l) : Calls Tryz.prog 196 #[m.v v] w fun e w' => e = .returned (.string (runB (roundsB n) m.l)) ∧ Below w.heap.size w w' := by
  have Hv := Lib.hid hv
  have hst := hg.st
  have hn := hg.hi
  have hl := hg.len
  have hsl := Lib.hid (scan_len m.l (roundsB n))
  have hlast := Lib.hid (scan_last m.l (roundsB n))
  have Hg := Lib.hid hg
  obtain ⟨A, c, rfl, h1, h2, hrd⟩ := hv
  unfold maxLen at h2
  unfold Mt.v
  rw [hst]
  clear hrd hst hg
  go_enter Tryz.func196, Tryz.ntmps196
  go_wp2_with fail
  refine box1 (C := fun W => Code.wp _ _ _ _ W) ?_
  intro wb hw k1 hB0
  have R1 := boxRule k1
  have Hru := Lib.hid (fun W hW => rowsUnder_any (roundsB n) (.slice A m.l.length c) m.l n W hn (rounds_in hn) (Hv.out.to (bw_to hw hW)) (by omega) Hg.out.ok)
  have hdr : Below wb.heap.size wb wb.drew := Below.drew (Below.refl _ _)
  clear k1
  go_region_held3 (fun W => Below wb.heap.size wb W) (first | exact Below.drew (by assumption) | exact bw_to (by assumption) hb')
    (first | (go_at_call 162; refine (rounds_any n _ hn).mono ?_; rintro e w' ⟨rfl, rfl⟩) | (go_at_call 195; refine (Hru.out _ (by assumption)).mono ?_; rintro e w' ⟨A1, q1, rfl, hown, hb'⟩; (have hq1 : m.l.length + 1 ≤ q1 := (sl_cap hown))))
  all_goals
    have hown1 := own_to hown (by first | exact Below.refl _ _ | exact Below.drew (Below.refl _ _))
    obtain ⟨A', c', e', _, _, hrd⟩ := sl_of_own hown1
    cases e'
    rw [← hsl.out] at hrd
    obtain ⟨ad, rfl, hC⟩ := strs_el (k := m.l.length) hrd (by rw [hsl.out]; omega)
    have hC0 := hC _ (Below.refl _ _)
    have he : (scanB (roundsB n) m.l)[m.l.length]'(by rw [hsl.out]; omega) = runB (roundsB n) m.l := by
      obtain ⟨h1, h2⟩ := List.getElem?_eq_some_iff.1 hlast.out
      exact h2
    rw [he] at hC0
    clear hC he hrd hown1 hown
    go_wp2_with fail
    go_ret
    exact ⟨rfl, bw_to hw (by assumption)⟩
set_option maxRecDepth 10000 in
set_option maxHeartbeats 2000000 in
theorem l4Lead_any (r : ByteArray) (v : Value) (l : List ByteArray) (n : Nat) (w : World) (hn : n ≤ 8) (hr : RowIn n r) (hv : Strs w v l) (hl : l.length ≤ 1000000) (hok : ChsOk l) : Calls Tryz.prog 107 #[v, .string r] w fun e w' =>
    ∃ A q, e = .returned (.tuple #[.slice A l.length q, .string (runB r l)]) ∧ w'.ownsRow w.heap.size 9 1 (.slice A l.length q) l.length ((leadB r l).map Value.string) ∧ Below w.heap.size w w' := by
  obtain ⟨A, c, rfl, h1, h2, hrd⟩ := hv
  unfold maxLen at h2
  have Hok := Lib.hid hok
  clear hok
  go_enter Tryz.func107, Tryz.ntmps107
  go_wp2_with fail
  go_loopw [6, 7, 13] (fun o f i wr => ∃ (k : Nat) (x : ByteArray) (A' : Option Addr) (q : Nat), k ≤ l.length ∧ i = .int .i64 k ∧ f = .string x ∧ x = runB r (l.take k) ∧ o = .slice A' k q ∧ wr.ownsRow w.heap.size 9 1 (.slice A' k q) k ((leadB r (l.take k)).map Value.string) ∧ Below w.heap.size w wr) (fun _ _ i _ => l.length - (intOf i).toNat)
  case atStart => exact ⟨0, r, none, 0, by omega, rfl, rfl, rfl, rfl, World.ownsRow_nil _ _ _ _, Below.refl _ _⟩
  case round =>
    obtain ⟨k, x, A', q, hk, rfl, rfl, hx, rfl, hown, hB⟩ := hrel
    by_cases hlt : k < l.length
    · obtain ⟨ad, rfl, hC⟩ := strs_el hrd hlt
      have hC0 := hC wr hB
      have hxin : RowIn n x := by rw [hx]; exact runB_in hn _ hr
      have ho := Hok.out _ (List.getElem_mem hlt)
      have Hx : Hid (applyB x l[k] = runB r (l.take (k + 1))) := Lib.hid (by rw [run_take hlt, hx])
      have Hs : Hid (leadB r (l.take (k + 1)) = leadB r (l.take k) ++ [x]) := Lib.hid (by rw [lead_take hlt, hx])
      have Hap := Lib.hid (fun W => l2Apply_any x l[k] W (by rw [hxin.1]; exact hn) ho.1)
      obtain ⟨c', hc'⟩ : ∃ c, c = l[k] := ⟨_, rfl⟩
      rw [← hc'] at Hx Hap
      have hCN : ∀ W, Below wr.heap.size wr W → W.cell? (ad.add k) = some (.string c') := fun W hW => by rw [hc']; exact hC W (bw_to hB hW)
      rw [← hc'] at hC0
      clear hC hc' ho hxin hx hCN
      go_wp2_with (at_builtin; go_must (refine wpList_app _ rfl _ _ _ rfl w.heap.size 9 _ 1 16 Tryz.underlying24 info_str rfl (by omega) hown [.string x] rfl rfl rfl (one_mem rfl) (by omega) (by omega) hB.size ?_); intro v2 w3 hown3 hb3 hg3 _)
      refine (Hap.out _).mono ?_; rintro e w2 ⟨rfl, hb2⟩
      have hown4 := own_to hown3 hb2
      obtain ⟨A2, q2, e2, _⟩ := sl_of_own hown4
      subst e2
      have hB2 := bw_to (hB.trans hb3) hb2
      rw [str_snoc Hs.out] at hown4
      obtain ⟨y, hy⟩ : ∃ y, y = applyB x c' := ⟨_, rfl⟩
      rw [← hy] at Hx ⊢
      clear hy hown hown3
      go_wp2_with fail
      exact ⟨⟨k + 1, y, A2, q2, by omega, by go_num, rfl, Hx.out, rfl, hown4, hB2⟩, by simp [intOf]; omega⟩
    · obtain rfl : k = l.length := by omega
      rw [List.take_length] at hown hx
      have Hx := Lib.hid hx
      clear hx
      go_wp2_with fail
      go_ret2
      exact ⟨A', q, by have := Hx.out; subst this; rfl, hown, hB⟩
set_option maxRecDepth 10000 in
set_option maxHeartbeats 2000000 in
theorem l4Head_any (m : Mt) (v : Value) (n : Nat) (w : World) (hg : MGood m n) (hv : Strs w v m.l) : Calls Tryz.prog 174 #[m.v v] w fun e w' => e = .returned (.string (runB (roundsB n) m.l)) ∧ Below w.heap.size w w' := by
  have Hv := Lib.hid hv
  have hst := hg.st
  have hn := hg.hi
  have hl := hg.len
  have Hg := Lib.hid hg
  obtain ⟨A, c, rfl, h1, h2, hrd⟩ := hv
  unfold maxLen at h2
  unfold Mt.v
  rw [hst]
  clear hrd hst hg
  go_enter Tryz.func174, Tryz.ntmps174
  go_wp2_with fail
  refine box1 (C := fun W => Code.wp _ _ _ _ W) ?_
  intro wb hw k1 hB0
  have R1 := boxRule k1
  have Hru := Lib.hid (fun W hW => l4Lead_any (roundsB n) (.slice A m.l.length c) m.l n W hn (rounds_in hn) (Hv.out.to (bw_to hw hW)) (by omega) Hg.out.ok)
  have hdr : Below wb.heap.size wb wb.drew := Below.drew (Below.refl _ _)
  clear k1
  go_region_held3 (fun W => Below wb.heap.size wb W) (first | exact Below.drew (by assumption) | exact bw_to (by assumption) hb')
    (first | (go_at_call 109; refine (l1Rounds_any n _ hn).mono ?_; rintro e w' ⟨rfl, rfl⟩) | (go_at_call 107; refine (Hru.out _ (by assumption)).mono ?_; rintro e w' ⟨A1, q1, rfl, hown, hb'⟩))
  all_goals
    clear hown
    go_wp2_with fail
    go_ret
    exact ⟨rfl, bw_to hw (by assumption)⟩
end Go.Proofs.YtofpjbdelmmclaaGreatDoor

/- A map from texts to truth of the call's own; no row occurs twice: the program's. -/
namespace Go.Proofs.YtofpjbdelmmclaaGreatDoor
open Go Go.RowKit
set_option linter.unusedVariables false
set_option linter.unusedSimpArgs false

theorem keysStr : Maps.Keyed Tryz.prog 9 := Maps.string_keyed Tryz.underlying9
/-- Block b is a map from texts to truth: it says f. -/
def SM (W : World) (b n : Nat) (f : ByteArray → Bool) : Prop :=
  ∃ D : DataW Unit, W.ownsMap Tryz.prog 9 (plainElem Tryz.prog 4) b n D ∧ Maps.IsMap D ∧ ∀ s : ByteArray, D.atKey (.string s.data.toList) (.lit (.bool false)) = .lit (.bool (f s))
theorem SM.kept {W W' : World} {b n : Nat} {f : ByteArray → Bool} {row : Option Nat} (h : SM W b n f) (hg : W.grownBy W' row) (hne : some b ≠ row) : SM W' b n f := by
  obtain ⟨D, h1, h2, h3⟩ := h; exact ⟨D, h1.kept hg hne, h2, h3⟩
theorem SM.lt {W : World} {b n : Nat} {f : ByteArray → Bool} (h : SM W b n f) : b < W.heap.size := by obtain ⟨D, h1, _⟩ := h; exact h1.lt
theorem SM.to {W W' : World} {b n : Nat} {f : ByteArray → Bool} (h : SM W b n f) (hb : Below W.heap.size W W') : SM W' b n f :=
  h.kept (row := none) ⟨hb.os, hb.tape, hb.output, hb.size, fun i hi _ => hb.block i hi⟩ (by simp)
theorem SM.made (W : World) : SM (W.alloc (.map #[] 0)) W.heap.size 0 (fun _ => false) := ⟨.map [], World.ownsMap_made _ _ _ _, Maps.isMap_empty, fun _ => rfl⟩
def updF (f : ByteArray → Bool) (s : ByteArray) : ByteArray → Bool := fun x => if x = s then true else f x
theorem SM.put {W : World} {b n : Nat} {f : ByteArray → Bool} (h : SM W b n f) (hn : n < 1000000000) (t : TypeId) (ht : Tryz.prog.underlying t = some (.map 9 4)) (s : ByteArray) (hs : s.size ≤ maxLen) :
    ∃ W', (Instr.mapUpdate t (.map (some b)) (.string s) (.bool true)).run Tryz.prog W = .ok () W' ∧ SM W' b (n + 1) (updF f s) ∧ W.grownBy W' (some b) := by
  obtain ⟨D, h1, h2, h3⟩ := h
  obtain ⟨W', hr, ho, hg⟩ := h1.update keysStr ht (by unfold maxLen; omega) (WideMaps.keyOf_string_mk Tryz.underlying9 hs) (plainElem_bool Tryz.underlying4 true)
  refine ⟨W', hr, ⟨_, ho, h2.put _ _, fun x => ?_⟩, hg⟩
  unfold updF
  by_cases hc : x = s
  · subst hc
    rw [if_pos rfl]
    exact Maps.atKey_put_same h2 (by simp [WideAt.IsKeyLit]) _ _
  · rw [if_neg hc, Maps.atKey_put_other (by intro e; injection e with e; exact hc (bytes_ext e))]
    exact h3 x
theorem zeroB' (W : World) : (zeroValue 4).run Tryz.prog W = .ok (.bool false) W := by kernel_rfl
theorem plainElem_bool_inv {P : Program} {e : TypeId} (he : P.underlying e = some .bool) {v : Value} {z : DataW Unit × List MemPlace} (h : plainElem P e v = some z) : ∃ x, v = .bool x ∧ z = (.lit (.bool x), []) := by
  unfold plainElem at h
  rw [he] at h
  cases v <;> simp at h
  exact ⟨_, rfl, h.symm⟩
set_option maxRecDepth 20000 in
theorem SM.look {W : World} {b n : Nat} {f : ByteArray → Bool} (h : SM W b n f) (t : TypeId) (ht : Tryz.prog.underlying t = some (.map 9 4)) (s : ByteArray) (hs : s.size ≤ maxLen) :
    (Instr.lookup t (.map (some b)) (.string s) false).run Tryz.prog W = .ok (.bool (f s)) W := by
  obtain ⟨D, h1, h2, h3⟩ := h
  obtain ⟨v, ps, hrun, hv⟩ := h1.lookup keysStr ht (zeroB' W) (plainElem_bool Tryz.underlying4 false) (WideMaps.keyOf_string_mk Tryz.underlying9 hs)
  obtain ⟨x, rfl, hx⟩ := plainElem_bool_inv Tryz.underlying4 hv
  have h4 := (h3 s).symm.trans (Prod.mk.inj hx).1
  injection h4 with h4
  injection h4 with h4
  rw [h4]
  exact hrun
set_option maxRecDepth 20000 in
theorem upon_mkS {o : Oper} {a : Act} {K : Act → World → Prop} {Q : Exit → Act → World → Prop} {t : TypeId} {w : World} (h : ∀ w', SM w' w.heap.size 0 (fun _ => false) → Below w.heap.size w w' → K (a.put o.dst (.map (some w.heap.size))) w') :
    Oper.upon Tryz.prog o a K Q ((Sem.run Tryz.prog (Instr.makeMap t none) w).andThen fun a w' => Result.ok (Next.value a) w') := by
  have e : Sem.run Tryz.prog (Instr.makeMap t none) w = .ok (.map (some w.heap.size)) (w.alloc (.map #[] 0)) := rfl
  rw [e]
  show K _ _
  exact h _ (SM.made w) (bw_al (Below.refl _ _) _)
set_option maxRecDepth 20000 in
theorem upon_insS {o : Oper} {a : Act} {K : Act → World → Prop} {Q : Exit → Act → World → Prop} {t : TypeId} {w : World} (ht : Tryz.prog.underlying t = some (.map 9 4)) {b n : Nat} {f : ByteArray → Bool} (hm : SM w b n f) (hn : n < 1000000000)
    (s : ByteArray) (hs : s.size ≤ maxLen) (h : ∀ w', SM w' b (n + 1) (updF f s) → w.grownBy w' (some b) → K (a.put o.dst undef) w') :
    Oper.upon Tryz.prog o a K Q ((Sem.run Tryz.prog (Instr.mapUpdate t (.map (some b)) (.string s) (.bool true)) w).andThen fun _ w' => Result.ok Next.skip w') := by
  obtain ⟨w', hr, h1, h2⟩ := hm.put hn t ht s hs
  rw [hr]
  exact h w' h1 h2
theorem updF_take {l : List ByteArray} {k : Nat} {f : ByteArray → Bool} (hk : k < l.length) (h : ∀ s, f s = true ↔ s ∈ l.take k) (s : ByteArray) : updF f l[k] s = true ↔ s ∈ l.take (k + 1) := by
  unfold updF
  rw [List.take_succ_eq_append_getElem hk, List.mem_append, List.mem_singleton, ← h s]
  by_cases e : s = l[k]
  · rw [if_pos e]; simp [e]
  · rw [if_neg e]; simp [e]
theorem nd_step {l : List ByteArray} {k : Nat} (hk : k < l.length) (h : (l.take k).Nodup) (hn : l[k] ∉ l.take k) : (l.take (k + 1)).Nodup := by
  rw [List.take_succ_eq_append_getElem hk, List.nodup_append]
  exact ⟨h, by simp, fun a ha b hb e => hn (by rw [List.mem_singleton.1 hb] at e; rw [← e]; exact ha)⟩
theorem nd_no {l : List ByteArray} {k : Nat} (hk : k < l.length) (hm : l[k] ∈ l.take k) : ¬ l.Nodup := by
  intro h
  obtain ⟨i, hi, e⟩ := List.getElem_of_mem hm
  rw [List.length_take] at hi
  rw [List.getElem_take] at e
  exact (List.pairwise_iff_getElem.1 h) i k (by omega) hk (by omega) e
theorem gr_lowS {wb w w' : World} {b : Nat} (h : Below wb.heap.size wb w) (hg : w.grownBy w' (some b)) (hb : wb.heap.size ≤ b) : Below wb.heap.size wb w' := h.grown hg h.size (fun k e => by cases e; exact hb)
end Go.Proofs.YtofpjbdelmmclaaGreatDoor

/- Rising rows, a row put into them, sets: a plain account. -/
namespace Go.Proofs.YtofpjbdelmmclaaGreatDoor
open Go Go.RowKit
set_option linter.unusedVariables false
set_option linter.unusedSimpArgs false

/-- Rising rows are known by what they hold. -/
theorem sorted_ext : ∀ {l m : List ByteArray}, SortedS l → l.Nodup → SortedS m → m.Nodup → (∀ x, x ∈ l ↔ x ∈ m) → l = m
  | [], [], _, _, _, _, _ => rfl
  | [], b :: m, _, _, _, _, h => by have := (h b).2 (List.mem_cons_self ..); cases this
  | a :: l, [], _, _, _, _, h => by have := (h a).1 (List.mem_cons_self ..); cases this
  | a :: l, b :: m, h1, d1, h2, d2, h => by
    rw [SortedS, List.pairwise_cons] at h1 h2
    rw [List.nodup_cons] at d1 d2
    have e : a = b := by
      have ha := (h a).1 (List.mem_cons_self ..)
      have hb := (h b).2 (List.mem_cons_self ..)
      rcases List.mem_cons.1 ha with e | ha
      · exact e
      · rcases List.mem_cons.1 hb with e | hb
        · exact e.symm
        · exact sl_tot (h2.1 a ha) (h1.1 b hb)
    subst e
    congr 1
    refine sorted_ext h1.2 d1.2 h2.2 d2.2 (fun x => ⟨fun hx => ?_, fun hx => ?_⟩)
    · rcases List.mem_cons.1 ((h x).1 (List.mem_cons_of_mem _ hx)) with e | hx'
      · subst e; exact absurd hx d1.1
      · exact hx'
    · rcases List.mem_cons.1 ((h x).2 (List.mem_cons_of_mem _ hx)) with e | hx'
      · subst e; exact absurd hx d2.1
      · exact hx'
theorem sortB_mem (l : List ByteArray) (x : ByteArray) : x ∈ sortB l ↔ x ∈ l := (sortB_perm l).mem_iff
theorem sortB_nodup {l : List ByteArray} (h : l.Nodup) : (sortB l).Nodup := (sortB_perm l).nodup_iff.2 h
/-- A row put before place k of rising rows. -/
theorem put_ok {l : List ByteArray} {r : ByteArray} {k : Nat} (hs : SortedS l) (hk : k ≤ l.length) (h1 : ∀ x ∈ l.take k, nmLt r x = false) (h2 : ∀ x ∈ l.drop k, nmLt r x = true) : SortedS (l.take k ++ r :: l.drop k) := by
  rw [SortedS, List.pairwise_append]
  have hs' := hs
  rw [← List.take_append_drop k l, SortedS, List.pairwise_append] at hs'
  refine ⟨hs'.1, ?_, ?_⟩
  · rw [List.pairwise_cons]
    exact ⟨fun x hx => sl_asym (h2 x hx), hs'.2.1⟩
  · intro a ha b hb
    rcases List.mem_cons.1 hb with e | hb
    · subst e; exact h1 a ha
    · exact hs'.2.2 a ha b hb
theorem put_perm (l : List ByteArray) (r : ByteArray) (k : Nat) : (l.take k ++ r :: l.drop k).Perm (r :: l) := by
  refine List.perm_middle.trans ?_
  rw [List.take_append_drop]
/-- What putting makes of rising rows. -/
def putS (l : List ByteArray) (r : ByteArray) : List ByteArray := sortB (visitB l r)
theorem putS_in {l : List ByteArray} {r : ByteArray} (hs : SortedS l) (h : r ∈ l) : putS l r = l := by
  unfold putS visitB
  rw [if_pos h]
  exact (perm_sorted (sortB_perm l).symm hs (sortB_sorted l)).symm
theorem putS_new {l : List ByteArray} {r : ByteArray} {k : Nat} (hs : SortedS l) (hn : r ∉ l) (hk : k ≤ l.length) (h1 : ∀ x ∈ l.take k, nmLt r x = false) (h2 : ∀ x ∈ l.drop k, nmLt r x = true) : putS l r = l.take k ++ r :: l.drop k := by
  unfold putS visitB
  rw [if_neg hn]
  refine (perm_sorted ?_ (put_ok hs hk h1 h2) (sortB_sorted _)).symm
  exact ((put_perm l r k).trans (List.perm_append_singleton r l).symm).trans (sortB_perm _).symm
theorem putS_sorted (l : List ByteArray) (r : ByteArray) : SortedS (putS l r) := sortB_sorted _
theorem putS_nodup {l : List ByteArray} (h : l.Nodup) (r : ByteArray) : (putS l r).Nodup := sortB_nodup (visit_nodup h r)
theorem putS_mem (l : List ByteArray) (r x : ByteArray) : x ∈ putS l r ↔ x ∈ l ∨ x = r := by
  unfold putS
  rw [sortB_mem]
  unfold visitB
  split
  · constructor
    · exact .inl
    · rintro (h | rfl)
      · exact h
      · assumption
  · rw [List.mem_append, List.mem_singleton]
theorem putS_len {l : List ByteArray} {r : ByteArray} : (putS l r).length ≤ l.length + 1 := by
  unfold putS
  rw [sortB_len]
  unfold visitB
  split <;> simp
/-- Where a search ends. -/
theorem search_mem {l : List ByteArray} {r : ByteArray} {i : Nat} (hs : SortedS l) (hi : i ≤ l.length) (h1 : ∀ k (h : k < l.length), k < i → nmLt l[k] r = true) (h2 : ∀ k (h : k < l.length), i ≤ k → nmLt l[k] r = false) :
    r ∈ l ↔ ∃ h : i < l.length, l[i] = r := by
  constructor
  · intro hm
    obtain ⟨k, hk, e⟩ := List.getElem_of_mem hm
    have hik : i ≤ k := by
      rcases Nat.lt_or_ge k i with hl | hl
      · have := h1 k hk hl; rw [e, sl_irr] at this; cases this
      · exact hl
    have hil : i < l.length := by omega
    refine ⟨hil, ?_⟩
    rcases Nat.eq_or_lt_of_le hik with e2 | hlt
    · subst e2; exact e
    · have h3 := (List.pairwise_iff_getElem.1 hs) i k hil hk hlt
      rw [e] at h3
      exact sl_tot (h2 i hil (Nat.le_refl _)) h3
  · rintro ⟨h, e⟩
    rw [← e]; exact List.getElem_mem h
/-- The set of a row. -/
def setB (n : Nat) (Q h : ByteArray) (K : Nat) : List ByteArray := (powL n Q K).map (timesB h)
theorem setB_len (n : Nat) (Q h : ByteArray) (K : Nat) : (setB n Q h K).length = K := by unfold setB; rw [List.length_map, powL_len]
theorem setB_succ (n : Nat) (Q h : ByteArray) (K : Nat) : setB n Q h (K + 1) = setB n Q h K ++ [timesB h (powB n Q K)] := by unfold setB; rw [powL_succ, List.map_append]; rfl
theorem pow_diff {n : Nat} (hn : n ≤ 8) {Q : ByteArray} (hQ : Inv n Q) {K : Nat} (hK : IsOrd n Q K) {i j : Nat} (hij : i < j) (hj : j < K) : powB n Q i ≠ powB n Q j := by
  intro e
  have e2 : powB n Q (j - i) = roundsB n := by
    rw [show j = (j - i) + i by omega, pow_add hn hQ.1 (j - i) i] at e
    apply (pow_inv hn hQ i).cancel hn (pow_in hn hQ.1 _) (rounds_in hn)
    rw [← e, rounds_times hn (pow_in hn hQ.1 i)]
  exact hK.2.2 (j - i) (by omega) (by omega) e2
theorem set_new {n : Nat} (hn : n ≤ 8) {Q h : ByteArray} (hQ : Inv n Q) (hh : Inv n h) {K : Nat} (hK : IsOrd n Q K) {j : Nat} (hj : j < K) : timesB h (powB n Q j) ∉ setB n Q h j := by
  intro hm
  unfold setB powL at hm
  rw [List.map_map] at hm
  obtain ⟨i, hi, e⟩ := List.mem_map.1 hm
  have hi := List.mem_range.1 hi
  exact pow_diff hn hQ hK hi hj (hh.cancel_left hn (pow_in hn hQ.1 i) (pow_in hn hQ.1 j) e)
theorem set_nodup {n : Nat} (hn : n ≤ 8) {Q h : ByteArray} (hQ : Inv n Q) (hh : Inv n h) {K : Nat} (hK : IsOrd n Q K) : ∀ j, j ≤ K → (setB n Q h j).Nodup
  | 0, _ => by simp [setB, powL]
  | j + 1, hj => by
    rw [setB_succ, List.nodup_append]
    refine ⟨set_nodup hn hQ hh hK j (by omega), by simp, fun a ha b hb e => ?_⟩
    rw [List.mem_singleton] at hb
    subst hb; subst e
    exact set_new hn hQ hh hK (by omega) ha
/-- A set grows by putting. -/
theorem set_put {n : Nat} (hn : n ≤ 8) {Q h : ByteArray} (hQ : Inv n Q) (hh : Inv n h) {K : Nat} (hK : IsOrd n Q K) {j : Nat} (hj : j < K) : putS (sortB (setB n Q h j)) (timesB h (powB n Q j)) = sortB (setB n Q h (j + 1)) := by
  have hnew := set_new hn hQ hh hK hj
  refine sorted_ext (putS_sorted _ _) (putS_nodup (sortB_nodup (set_nodup hn hQ hh hK j (by omega))) _) (sortB_sorted _) (sortB_nodup (set_nodup hn hQ hh hK (j + 1) (by omega))) (fun x => ?_)
  rw [putS_mem, sortB_mem, sortB_mem, setB_succ, List.mem_append, List.mem_singleton]
end Go.Proofs.YtofpjbdelmmclaaGreatDoor

/- Contracts: powers and order of a row, the rows of a plain course, both sides. -/
namespace Go.Proofs.YtofpjbdelmmclaaGreatDoor
open Go Go.RowKit
set_option linter.unusedVariables false
set_option linter.unusedSimpArgs false

def lenV : Value → Nat
  | .slice _ n _ => n
  | _ => 0
theorem eq_of_bl {x y : ByteArray} (h : (x.toList == y.toList) = true) : x = y := by
  have h := eq_of_beq h
  rw [bytes_toList, bytes_toList] at h
  exact bytes_ext h
theorem bl_of_eq {x y : ByteArray} (h : x = y) : (x.toList == y.toList) = true := by rw [h]; exact beq_self_eq_true _
theorem ord_stop {n K k : Nat} {a : ByteArray} (h : IsOrd n a K) (h1 : 1 ≤ k) (hk : k ≤ K) (e : ((powB n a k).toList == (roundsB n).toList) = true) : k = K := by
  rcases Nat.lt_or_ge k K with hl | hl
  · exact absurd (eq_of_bl e) (h.2.2 k h1 hl)
  · omega
theorem ord_go {n K k : Nat} {a : ByteArray} (h : IsOrd n a K) (hk : k ≤ K) (e : ((powB n a k).toList == (roundsB n).toList) = false) : k < K := by
  rcases Nat.lt_or_ge k K with hl | hl
  · exact hl
  · obtain rfl : k = K := by omega
    rw [bl_of_eq h.2.1] at e; cases e
theorem pow_head {n K : Nat} (a : ByteArray) (h : 1 ≤ K) : (powL n a K)[0]'(by rw [powL_len]; omega) = roundsB n := by simp [powL, powB]
set_option maxRecDepth 10000 in
set_option maxHeartbeats 2000000 in
theorem l1Order_any (a : ByteArray) (n K : Nat) (w : World) (hn : n ≤ 8) (ha : RowIn n a) (hK : IsOrd n a K) (hKb : K ≤ 16777216) : Calls Tryz.prog 173 #[.string a] w fun e w' => e = .returned (.int .i64 (K : Int)) ∧ w = w' := by
  have hsz := ha.1
  have HK := Lib.hid hK
  have hK1 := hK.1
  have h1a : Hid (a = powB n a 1) := Lib.hid (pow_one hn ha).symm
  have Htm := Lib.hid (fun k W => l1Times_any (powB n a k) a W (by rw [(pow_in hn ha k).1]; omega) (by rw [hsz]; omega) (row_hin (pow_in hn ha k).1 ha))
  clear hK ha
  go_enter Tryz.func173, Tryz.ntmps173
  go_wp2_with fail
  go_loop [3, 4] (fun o p => ∃ k : Nat, 1 ≤ k ∧ k ≤ K ∧ p = .string (powB n a k) ∧ o = .int .i64 k) (fun o _ => K - (intOf o).toNat)
  case atStart => exact ⟨1, by omega, by omega, by rw [← h1a.out], rfl⟩
  case round =>
    obtain ⟨k, h1k, hk, rfl, rfl⟩ := hrel
    have Hst := Lib.hid (ord_stop HK.out h1k hk)
    have Hgo := Lib.hid (ord_go HK.out hk)
    have Ht := Lib.hid (Htm.out k)
    have Hx : Hid (timesB (powB n a k) a = powB n a (k + 1)) := Lib.hid rfl
    obtain ⟨x, hx⟩ : ∃ x, x = powB n a k := ⟨_, rfl⟩
    rw [← hx] at Hst Hgo Ht Hx ⊢
    clear hx
    cases hb : (x.toList == (roundsB n).toList)
    · have hlt := Hgo.out hb
      go_wp2_with (first | (go_at_call 109; refine (l1Rounds_any n _ hn).mono ?_; rintro e w' ⟨rfl, rfl⟩) | (go_at_call 145; refine (Ht.out _).mono ?_; rintro e w' ⟨rfl, rfl⟩))
      exact ⟨⟨k + 1, by omega, by omega, by rw [Hx.out], by go_num⟩, by simp [intOf]; omega⟩
    · obtain rfl := Hst.out hb
      go_wp2_with (go_at_call 109; refine (l1Rounds_any n _ hn).mono ?_; rintro e w' ⟨rfl, rfl⟩)
      go_ret
      exact ⟨rfl, rfl⟩
/-- A good method, its stage, and the number of leads of its course. -/
structure MK (m : Mt) (n K : Nat) : Prop where
  ok : methB m = true
  g : MGood m n
  ord : IsOrd n (runB (roundsB n) m.l) K
  kb : K ≤ 16777216
theorem mk_of {m : Mt} (h : methB m = true) : ∃ n K, MK m n K := by
  obtain ⟨n, hg⟩ := mgood_of h
  obtain ⟨K, hb, hK⟩ := ord_ex hg.hi (run_inv hg.hi m.l (Inv.rounds hg.hi))
  exact ⟨n, K, h, hg, hK, hb⟩
def headM (m : Mt) (n : Nat) : ByteArray := runB (roundsB n) m.l
theorem MK.hin {m : Mt} {n K : Nat} (h : MK m n K) : RowIn n (runB (roundsB n) m.l) := runB_in h.g.hi _ (rounds_in h.g.hi)
def crsL (m : Mt) (n K : Nat) : List ByteArray := if K * m.l.length ≤ 800 then rowsB m.l (powL n (runB (roundsB n) m.l) K) else []
theorem rows_in {n K : Nat} {m : Mt} (h : MK m n K) : ∀ x ∈ rowsB m.l (powL n (runB (roundsB n) m.l) K), RowIn n x := by
  intro x hx
  unfold rowsB at hx
  obtain ⟨y, hy, hx⟩ := List.mem_flatMap.1 hx
  unfold powL at hy
  obtain ⟨j, _, rfl⟩ := List.mem_map.1 hy
  exact lead_in h.g.hi _ (pow_in h.g.hi h.hin j) x hx
theorem crs_len {n K : Nat} {m : Mt} (h : MK m n K) : (crsL m n K).length ≤ 800 := by
  unfold crsL
  split
  · rw [rows_len, powL_len]; assumption
  · simp
theorem own_ptr {w : World} {base : Nat} {e : TypeId} {size n c : Nat} {A : Option Addr} {xs : List Value} (h : w.ownsRow base e size (.slice A n c) n xs) (hn : 1 ≤ n) : ∃ g, A = some ⟨g, 0, none⟩ ∧ g < w.heap.size := by
  rcases h.2 with ⟨e, _⟩ | ⟨g, cap, cur, e, hb, hg, _⟩
  · injection e with _ e; omega
  · injection e with e1 e2 e3
    exact ⟨g, e1, (Array.getElem?_eq_some_iff.1 hg).1⟩
theorem own_neG {w : World} {base n G : Nat} {e : TypeId} {size : Nat} {v : Value} {xs : List Value} (h : w.ownsRow base e size v n xs) (hG : G < base ∨ w.heap.size ≤ G) : v.ownBlock = none ∨ v.ownBlock ≠ some G := by
  cases hb : v.ownBlock with
  | none => exact .inl rfl
  | some k =>
    have h1 := h.lt k hb
    refine .inr (fun e => ?_)
    injection e with e
    omega
end Go.Proofs.YtofpjbdelmmclaaGreatDoor
