/- Contracts: the rows of a lead, a lead head, both sides. -/
import Derived.Test.YtajffjkmmenaoaaGreatPk10
import Derived.Test.YtajffjkmmenaoaaGreatPk11
namespace Go.Proofs.YtajffjkmmenaoaaGreat
open Go Go.RowKit
set_option linter.unusedVariables false
set_option linter.unusedSimpArgs false

/-- Changes that can be applied. -/
def ChsOk (l : List ByteArray) : Prop := ∀ c ∈ l, c.size ≤ 1048576 ∧ chOk c.data.toList
theorem ChsOk.sub {l l' : List ByteArray} (h : ChsOk l) (hs : ∀ c ∈ l', c ∈ l) : ChsOk l' := fun c hc => h c (hs c hc)
theorem own_upto {w : World} {base : Nat} {e : TypeId} {A : Option Addr} {n c k : Nat} {xs : List Value} (h : w.ownsRow base e 1 (.slice A n c) n xs) (hk : k ≤ n) : w.ownsRow base e 1 (.slice A k c) k (xs.take k) := by
  obtain ⟨h1, h2⟩ := h
  refine ⟨by rw [List.length_take]; omega, ?_⟩
  rcases h2 with ⟨h2, h3⟩ | ⟨g, cap, cur, hv, hg, hh, hn, hm, hs, ht⟩
  · cases h2
    have : k = 0 := by omega
    subst this
    exact .inl ⟨rfl, by simp⟩
  · cases hv
    refine .inr ⟨g, c, cur, rfl, hg, hh, by omega, hm, hs, ?_⟩
    rw [← ht, List.take_take]; congr 1; omega
theorem sl_cap {w : World} {base : Nat} {e : TypeId} {A : Option Addr} {n c : Nat} {xs : List Value} (h : w.ownsRow base e 1 (.slice A n c) n xs) : n ≤ c := by
  obtain ⟨A', c', e', h1, _⟩ := sl_of_own h
  cases e'; exact h1
theorem str_snoc {l l' : List ByteArray} {x : ByteArray} (h : l' = l ++ [x]) : l.map Value.string ++ [.string x] = l'.map Value.string := by rw [h]; simp
set_option maxRecDepth 10000 in
set_option maxHeartbeats 2000000 in
theorem rowsUnder_any (r : ByteArray) (v : Value) (l : List ByteArray) (n : Nat) (w : World) (hn : n ≤ 8) (hr : RowIn n r) (hv : Strs w v l) (hl : l.length ≤ 1000000) (hok : ChsOk l) : Calls Tryz.prog 70 #[.string r, v] w fun e w' =>
    ∃ A q, e = .returned (.slice A (l.length + 1) q) ∧ w'.ownsRow w.heap.size 9 1 (.slice A (l.length + 1) q) (l.length + 1) ((scanB r l).map Value.string) ∧ Below w.heap.size w w' := by
  obtain ⟨A, c, rfl, h1, h2, hrd⟩ := hv
  unfold maxLen at h2
  have Hok := Lib.hid hok
  clear hok
  go_enter Tryz.func70, Tryz.ntmps70
  go_wp2_with fail
  refine box1 (C := fun W => Code.wp _ _ _ _ W) ?_
  intro wb hw k1 hB0
  have hown0 : wb.ownsRow w.heap.size 9 1 (.slice (some ⟨w.heap.size, 0, none⟩) 1 1) 1 [.string r] := own_of_heap k1 (Nat.le_refl _) (by unfold maxLen; omega) rfl
  clear k1
  go_loopw [0, 5, 12] (fun f o i wr => ∃ (k : Nat) (x : ByteArray) (A' : Option Addr) (q : Nat), k ≤ l.length ∧ i = .int .i64 k ∧ f = .string x ∧ x = runB r (l.take k) ∧ o = .slice A' (k + 1) q ∧ wr.ownsRow w.heap.size 9 1 (.slice A' (k + 1) q) (k + 1) ((scanB r (l.take k)).map Value.string) ∧ Below w.heap.size w wr) (fun _ _ i _ => l.length - (intOf i).toNat)
  case atStart => exact ⟨0, r, _, 1, by omega, rfl, rfl, rfl, rfl, hown0, hw⟩
  case round =>
    obtain ⟨k, x, A', q, hk, rfl, rfl, hx, rfl, hown, hB⟩ := hrel
    by_cases hlt : k < l.length
    · obtain ⟨ad, rfl, hC⟩ := strs_el hrd hlt
      have hC0 := hC wr hB
      have hxin : RowIn n x := by rw [hx]; exact runB_in hn _ hr
      have ho := Hok.out _ (List.getElem_mem hlt)
      have Hx : Hid (applyB x l[k] = runB r (l.take (k + 1))) := Lib.hid (by rw [run_take hlt, hx])
      have Hs : Hid (scanB r (l.take (k + 1)) = scanB r (l.take k) ++ [applyB x l[k]]) := Lib.hid (by rw [scan_take hlt, Hx.out])
      have Hap := Lib.hid (fun W => apply_any x l[k] W (by rw [hxin.1]; exact hn) ho.1 ho.2)
      obtain ⟨c', hc'⟩ : ∃ c, c = l[k] := ⟨_, rfl⟩
      rw [← hc'] at hC0 Hx Hs Hap
      clear hC hc' ho hxin hx
      go_wp2_with fail
      refine (Hap.out _).mono ?_; rintro e w2 ⟨rfl, hb2⟩
      have hown2 := own_to hown hb2
      have hB2 := bw_to hB hb2
      obtain ⟨y, hy⟩ : ∃ y, y = applyB x c' := ⟨_, rfl⟩
      rw [← hy] at Hx Hs ⊢
      clear hy
      go_wp2_with (at_builtin; go_must (refine wpList_app _ rfl _ _ _ rfl w.heap.size 9 _ 1 16 Tryz.underlying24 info_str rfl (by omega) hown2 [.string y] rfl rfl rfl (one_mem rfl) (by omega) (by omega) hB2.size ?_); intro v2 w3 hown3 hb3 hg3 _)
      obtain ⟨A2, q2, e2, _⟩ := sl_of_own hown3
      subst e2
      refine ⟨⟨k + 1, y, A2, q2, by omega, by go_num, rfl, Hx.out, rfl, ?_, hB2.trans hb3⟩, by simp [intOf]; omega⟩
      rw [← str_snoc Hs.out]
      exact hown3
    · obtain rfl : k = l.length := by omega
      rw [List.take_length] at hown
      clear hx
      go_wp2_with fail
      go_ret
      exact ⟨_, _, rfl, hown, hB⟩
set_option maxRecDepth 10000 in
set_option maxHeartbeats 2000000 in
theorem leadRows_any (m : Mt) (v : Value) (r : ByteArray) (n : Nat) (w : World) (hn : n ≤ 8) (hr : RowIn n r) (hv : Strs w v m.l) (hl : m.l.length ≤ 1000000) (hok : ChsOk m.l) : Calls Tryz.prog 109 #[m.v v, .string r] w fun e w' =>
    ∃ A q, e = .returned (.slice A m.l.length q) ∧ w'.ownsRow w.heap.size 9 1 (.slice A m.l.length q) m.l.length ((leadB r m.l).map Value.string) ∧ Below w.heap.size w w' := by
  have Hv := Lib.hid hv
  obtain ⟨A, c, rfl, h1, h2, hrd⟩ := hv
  unfold maxLen at h2
  unfold Mt.v
  clear hrd
  go_enter Tryz.func109, Tryz.ntmps109
  go_wp2_with fail
  refine box1 (C := fun W => Code.wp _ _ _ _ W) ?_
  intro wb hw k1 hB0
  have R1 := boxRule k1
  have Hru := Lib.hid (fun W hW => rowsUnder_any r (.slice A m.l.length c) m.l n W hn hr (Hv.out.to (bw_to hw hW)) hl hok)
  have hdr : Below wb.heap.size wb wb.drew := Below.drew (Below.refl _ _)
  clear k1 hok hr
  go_region_held3 (fun W => Below wb.heap.size wb W) (first | exact Below.drew (by assumption) | exact bw_to (by assumption) hb')
    (first | (go_at_call 70; refine (Hru.out _ (by assumption)).mono ?_; rintro e w' ⟨A1, q1, rfl, hown, hb'⟩; (have hq1 : m.l.length + 1 ≤ q1 := (sl_cap hown)); (have hq2 : (m.l.length : Int) ≤ (q1 : Int) := by omega); (have hq3 : (0 : Int) ≤ (m.l.length : Int) := by omega)))
  all_goals
    go_wp2_with fail
    go_ret
    refine ⟨_, _, rfl, ?_, bw_to hw (by assumption)⟩
    have h := own_upto (own_base hown hw.size) (Nat.le_succ m.l.length)
    rw [← List.map_take] at h
    exact own_to h (by first | exact Below.refl _ _ | exact Below.drew (Below.refl _ _))
structure MGood (m : Mt) (n : Nat) : Prop where
  st : m.stage = (n : Int)
  lo : 3 ≤ n
  hi : n ≤ 8
  len : 1 ≤ m.l.length ∧ m.l.length ≤ 40
  ok : ChsOk m.l
theorem changeB_size {n : Int} {l : List UInt8} (h : changeB n l = true) : l.length ≤ 6 := by
  unfold changeB at h
  rw [Bool.and_eq_true, Bool.and_eq_true] at h
  have h1 := of_decide_eq_true h.1
  have h2 := of_decide_eq_true h.2.1
  omega
theorem mgood_of {m : Mt} (h : methB m = true) : ∃ n, MGood m n := by
  unfold methB at h
  rw [Bool.and_eq_true, Bool.and_eq_true, Bool.and_eq_true] at h
  have h1 := of_decide_eq_true h.2.1
  have h2 := of_decide_eq_true h.2.2.1
  have h3 := h.2.2.2
  unfold chgs at h3
  rw [List.all_eq_true] at h3
  refine ⟨m.stage.toNat, by omega, by omega, by omega, h2, fun c hc => ⟨?_, chOk_of (h3 c hc)⟩⟩
  have := changeB_size (h3 c hc)
  rw [bytes_len] at this
  omega
theorem strs_some {w : World} {v : Value} {l : List ByteArray} (h : Strs w v l) (hl : 1 ≤ l.length) : ∃ ad c, v = .slice (some ad) l.length c := by
  obtain ⟨A, c, rfl, _, _, hr⟩ := h
  obtain ⟨ad, rfl, _⟩ := hr.2 (by omega)
  exact ⟨ad, c, rfl⟩
set_option maxRecDepth 10000 in
set_option maxHeartbeats 2000000 in
theorem leadHead_any (m : Mt) (v : Value) (n : Nat) (w : World) (hg : MGood m n) (hv : Strs w v m.l) : Calls Tryz.prog 85 #[m.v v] w fun e w' => e = .returned (.string (runB (roundsB n) m.l)) ∧ Below w.heap.size w w' := by
  have Hv := Lib.hid hv
  have hst := hg.st
  have hn := hg.hi
  have hl := hg.len
  have hsl := Lib.hid (scan_len m.l (roundsB n))
  have hlast := Lib.hid (scan_last m.l (roundsB n))
  have Hg := Lib.hid hg
  obtain ⟨A, c, rfl, h1, h2, hrd⟩ := hv
  unfold maxLen at h2
  unfold Mt.v
  rw [hst]
  clear hrd hst hg
  go_enter Tryz.func85, Tryz.ntmps85
  go_wp2_with fail
  refine box1 (C := fun W => Code.wp _ _ _ _ W) ?_
  intro wb hw k1 hB0
  have R1 := boxRule k1
  have Hru := Lib.hid (fun W hW => rowsUnder_any (roundsB n) (.slice A m.l.length c) m.l n W hn (rounds_in hn) (Hv.out.to (bw_to hw hW)) (by omega) Hg.out.ok)
  have hdr : Below wb.heap.size wb wb.drew := Below.drew (Below.refl _ _)
  clear k1
  go_region_held3 (fun W => Below wb.heap.size wb W) (first | exact Below.drew (by assumption) | exact bw_to (by assumption) hb')
    (first | (go_at_call 50; refine (rounds_any n _ hn).mono ?_; rintro e w' ⟨rfl, rfl⟩) | (go_at_call 70; refine (Hru.out _ (by assumption)).mono ?_; rintro e w' ⟨A1, q1, rfl, hown, hb'⟩; (have hq1 : m.l.length + 1 ≤ q1 := (sl_cap hown))))
  all_goals
    have hown1 := own_to hown (by first | exact Below.refl _ _ | exact Below.drew (Below.refl _ _))
    obtain ⟨A', c', e', _, _, hrd⟩ := sl_of_own hown1
    cases e'
    rw [← hsl.out] at hrd
    obtain ⟨ad, rfl, hC⟩ := strs_el (k := m.l.length) hrd (by rw [hsl.out]; omega)
    have hC0 := hC _ (Below.refl _ _)
    have he : (scanB (roundsB n) m.l)[m.l.length]'(by rw [hsl.out]; omega) = runB (roundsB n) m.l := by
      obtain ⟨h1, h2⟩ := List.getElem?_eq_some_iff.1 hlast.out
      exact h2
    rw [he] at hC0
    clear hC he hrd hown1 hown
    go_wp2_with fail
    go_ret
    exact ⟨rfl, bw_to hw (by assumption)⟩
set_option maxRecDepth 10000 in
set_option maxHeartbeats 2000000 in
theorem l4Lead_any (r : ByteArray) (v : Value) (l : List ByteArray) (n : Nat) (w : World) (hn : n ≤ 8) (hr : RowIn n r) (hv : Strs w v l) (hl : l.length ≤ 1000000) (hok : ChsOk l) : Calls Tryz.prog 28 #[v, .string r] w fun e w' =>
    ∃ A q, e = .returned (.tuple #[.slice A l.length q, .string (runB r l)]) ∧ w'.ownsRow w.heap.size 9 1 (.slice A l.length q) l.length ((leadB r l).map Value.string) ∧ Below w.heap.size w w' := by
  obtain ⟨A, c, rfl, h1, h2, hrd⟩ := hv
  unfold maxLen at h2
  have Hok := Lib.hid hok
  clear hok
  go_enter Tryz.func28, Tryz.ntmps28
  go_wp2_with fail
  go_loopw [6, 7, 13] (fun o f i wr => ∃ (k : Nat) (x : ByteArray) (A' : Option Addr) (q : Nat), k ≤ l.length ∧ i = .int .i64 k ∧ f = .string x ∧ x = runB r (l.take k) ∧ o = .slice A' k q ∧ wr.ownsRow w.heap.size 9 1 (.slice A' k q) k ((leadB r (l.take k)).map Value.string) ∧ Below w.heap.size w wr) (fun _ _ i _ => l.length - (intOf i).toNat)
  case atStart => exact ⟨0, r, none, 0, by omega, rfl, rfl, rfl, rfl, World.ownsRow_nil _ _ _ _, Below.refl _ _⟩
  case round =>
    obtain ⟨k, x, A', q, hk, rfl, rfl, hx, rfl, hown, hB⟩ := hrel
    by_cases hlt : k < l.length
    · obtain ⟨ad, rfl, hC⟩ := strs_el hrd hlt
      have hC0 := hC wr hB
      have hxin : RowIn n x := by rw [hx]; exact runB_in hn _ hr
      have ho := Hok.out _ (List.getElem_mem hlt)
      have Hx : Hid (applyB x l[k] = runB r (l.take (k + 1))) := Lib.hid (by rw [run_take hlt, hx])
      have Hs : Hid (leadB r (l.take (k + 1)) = leadB r (l.take k) ++ [x]) := Lib.hid (by rw [lead_take hlt, hx])
      have Hap := Lib.hid (fun W => l2Apply_any x l[k] W (by rw [hxin.1]; exact hn) ho.1)
      obtain ⟨c', hc'⟩ : ∃ c, c = l[k] := ⟨_, rfl⟩
      rw [← hc'] at Hx Hap
      have hCN : ∀ W, Below wr.heap.size wr W → W.cell? (ad.add k) = some (.string c') := fun W hW => by rw [hc']; exact hC W (bw_to hB hW)
      rw [← hc'] at hC0
      clear hC hc' ho hxin hx hCN
      go_wp2_with (at_builtin; go_must (refine wpList_app _ rfl _ _ _ rfl w.heap.size 9 _ 1 16 Tryz.underlying24 info_str rfl (by omega) hown [.string x] rfl rfl rfl (one_mem rfl) (by omega) (by omega) hB.size ?_); intro v2 w3 hown3 hb3 hg3 _)
      refine (Hap.out _).mono ?_; rintro e w2 ⟨rfl, hb2⟩
      have hown4 := own_to hown3 hb2
      obtain ⟨A2, q2, e2, _⟩ := sl_of_own hown4
      subst e2
      have hB2 := bw_to (hB.trans hb3) hb2
      rw [str_snoc Hs.out] at hown4
      obtain ⟨y, hy⟩ : ∃ y, y = applyB x c' := ⟨_, rfl⟩
      rw [← hy] at Hx ⊢
      clear hy hown hown3
      go_wp2_with fail
      exact ⟨⟨k + 1, y, A2, q2, by omega, by go_num, rfl, Hx.out, rfl, hown4, hB2⟩, by simp [intOf]; omega⟩
    · obtain rfl : k = l.length := by omega
      rw [List.take_length] at hown hx
      have Hx := Lib.hid hx
      clear hx
      go_wp2_with fail
      go_ret2
      exact ⟨A', q, by have := Hx.out; subst this; rfl, hown, hB⟩
set_option maxRecDepth 10000 in
set_option maxHeartbeats 2000000 in
theorem l4Head_any (m : Mt) (v : Value) (n : Nat) (w : World) (hg : MGood m n) (hv : Strs w v m.l) : Calls Tryz.prog 123 #[m.v v] w fun e w' => e = .returned (.string (runB (roundsB n) m.l)) ∧ Below w.heap.size w w' := by
  have Hv := Lib.hid hv
  have hst := hg.st
  have hn := hg.hi
  have hl := hg.len
  have Hg := Lib.hid hg
  obtain ⟨A, c, rfl, h1, h2, hrd⟩ := hv
  unfold maxLen at h2
  unfold Mt.v
  rw [hst]
  clear hrd hst hg
  go_enter Tryz.func123, Tryz.ntmps123
  go_wp2_with fail
  refine box1 (C := fun W => Code.wp _ _ _ _ W) ?_
  intro wb hw k1 hB0
  have R1 := boxRule k1
  have Hru := Lib.hid (fun W hW => l4Lead_any (roundsB n) (.slice A m.l.length c) m.l n W hn (rounds_in hn) (Hv.out.to (bw_to hw hW)) (by omega) Hg.out.ok)
  have hdr : Below wb.heap.size wb wb.drew := Below.drew (Below.refl _ _)
  clear k1
  go_region_held3 (fun W => Below wb.heap.size wb W) (first | exact Below.drew (by assumption) | exact bw_to (by assumption) hb')
    (first | (go_at_call 30; refine (l1Rounds_any n _ hn).mono ?_; rintro e w' ⟨rfl, rfl⟩) | (go_at_call 28; refine (Hru.out _ (by assumption)).mono ?_; rintro e w' ⟨A1, q1, rfl, hown, hb'⟩))
  all_goals
    clear hown
    go_wp2_with fail
    go_ret
    exact ⟨rfl, bw_to hw (by assumption)⟩
end Go.Proofs.YtajffjkmmenaoaaGreat

/- Contracts: calls: their goodness, the lead heads that they give, both sides. -/
namespace Go.Proofs.YtajffjkmmenaoaaGreat
open Go Go.RowKit
set_option linter.unusedVariables false
set_option linter.unusedSimpArgs false

structure Cl where
  bob : ByteArray
  single : ByteArray
def Cl.v (k : Cl) : Value := .agg #[.string k.bob, .string k.single]
def ClSmall (k : Cl) : Prop := k.bob.size ≤ 1048576 ∧ k.single.size ≤ 1048576
def ClFit (k : Cl) : Prop := k.bob.size ≤ maxLen ∧ k.single.size ≤ maxLen
theorem ClSmall.fit {k : Cl} (h : ClSmall k) : ClFit k := ⟨Nat.le_trans h.1 (by unfold maxLen; omega), Nat.le_trans h.2 (by unfold maxLen; omega)⟩
def callsB (m : Mt) (k : Cl) : Bool := methB m && (changeB m.stage k.bob.data.toList && changeB m.stage k.single.data.toList)
structure CGood (m : Mt) (k : Cl) (n : Nat) : Prop where
  m : MGood m n
  small : ClSmall k
  bob : chOk k.bob.data.toList
  single : chOk k.single.data.toList
theorem cgood_of {m : Mt} {k : Cl} (h : callsB m k = true) : ∃ n, CGood m k n := by
  unfold callsB at h
  rw [Bool.and_eq_true, Bool.and_eq_true] at h
  obtain ⟨n, hm⟩ := mgood_of h.1
  have h1 := changeB_size h.2.1
  have h2 := changeB_size h.2.2
  rw [bytes_len] at h1 h2
  exact ⟨n, hm, ⟨by omega, by omega⟩, chOk_of h.2.1, chOk_of h.2.2⟩
theorem calls_chs {m : Mt} {k : Cl} {n : Nat} (h : CGood m k n) (c : UInt8) : ChsOk (calledL m.l k.bob k.single c) := by
  intro x hx
  unfold calledL at hx
  rcases List.mem_append.1 hx with hx | hx
  · exact h.m.ok x (List.mem_of_mem_take hx)
  · rw [List.mem_singleton.1 hx]
    unfold callCh
    split
    · exact ⟨h.small.1, h.bob⟩
    · split
      · exact ⟨h.small.2, h.single⟩
      · rw [List.getLastD_eq_getLast?]
        cases hl : m.l.getLast? with
        | none => exact ⟨by show 0 ≤ _; omega, .inr rfl⟩
        | some y => exact h.m.ok y (List.mem_of_getLast? hl)
/-- The text of a call. -/
def callT (c : UInt8) : ByteArray := ⟨#[c]⟩
theorem callT_list (c : UInt8) : (callT c).toList = [c] := by rw [bytes_toList]; rfl
theorem callT_is (c d : UInt8) : ((callT c).toList == [d]) = decide (c = d) := by rw [callT_list, Bool.eq_iff_iff]; simp
set_option maxHeartbeats 2000000 in
theorem GoodCalls_any (m : Mt) (v : Value) (k : Cl) (w : World) (h : MethAt w m v) (hs : MtSmall m) (hk : ClSmall k) : Calls Tryz.prog 63 #[m.v v, k.v] w fun e w' => e = .returned (.bool (callsB m k)) ∧ Below w.heap.size w w' := by
  have HM := Lib.hid (fun W hW => implGoodMethod_any m v W (h.to hW) hs)
  have HB := Lib.hid (fun W => GoodChange_any m.stage k.bob W hk.1)
  have HS := Lib.hid (fun W => GoodChange_any m.stage k.single W hk.2)
  have HT : Hid (callsB m k = (methB m && (changeB m.stage k.bob.data.toList && changeB m.stage k.single.data.toList))) := Lib.hid rfl
  obtain ⟨A, c, hv⟩ := h.form
  subst hv
  obtain ⟨p, hp⟩ : ∃ p, p = methB m := ⟨_, rfl⟩
  obtain ⟨q, hq⟩ : ∃ q, q = changeB m.stage k.bob.data.toList := ⟨_, rfl⟩
  obtain ⟨r, hr⟩ : ∃ r, r = changeB m.stage k.single.data.toList := ⟨_, rfl⟩
  rw [← hp] at HM HT
  rw [← hq] at HB HT
  rw [← hr] at HS HT
  clear h hp hq hr
  unfold Mt.v Cl.v at *
  go_enter Tryz.func63, Tryz.ntmps63
  go_wp2_with fail
  refine box2 (C := fun W => Calls _ _ _ W _) ?_
  intro wb hw k1 k2 hB0
  have R1 := boxRule k1
  have R2 := boxRule k2
  clear k1 k2
  refine (HM.out _ hw).mono ?_; rintro e w1 ⟨rfl, hb1⟩
  cases p
  · go_wp2_with fail
    go_ret
    exact ⟨ret_bool (by rw [HT.out]; rfl), bw_to hw hb1⟩
  · go_wp2_with fail
    refine (HB.out _).mono ?_; rintro e w2 ⟨rfl, hb2⟩
    have hB2 := bw_to hb1 hb2
    cases q
    · go_wp2_with fail
      go_ret
      exact ⟨ret_bool (by rw [HT.out]; rfl), bw_to hw hB2⟩
    · go_wp2_with fail
      refine (HS.out _).mono ?_; rintro e w3 ⟨rfl, hb3⟩
      go_wp2_with fail
      go_ret
      exact ⟨ret_bool (by rw [HT.out]; rfl), bw_to hw (bw_to hB2 hb3)⟩
set_option maxHeartbeats 2000000 in
theorem l8Good_any (m : Mt) (v : Value) (k : Cl) (w : World) (h : MethAt w m v) (hs : MtSmall m) (hk : ClSmall k) : Calls Tryz.prog 100 #[m.v v, k.v] w fun e w' => e = .returned (.bool (callsB m k)) ∧ Below w.heap.size w w' := by
  have HM := Lib.hid (fun W hW => l4Good_any m v W (h.to hW) hs)
  have HB := Lib.hid (fun W => l2Change_any m.stage k.bob W hk.fit.1)
  have HS := Lib.hid (fun W => l2Change_any m.stage k.single W hk.fit.2)
  have HT : Hid (callsB m k = (methB m && (changeB m.stage k.bob.data.toList && changeB m.stage k.single.data.toList))) := Lib.hid rfl
  obtain ⟨A, c, hv⟩ := h.form
  subst hv
  obtain ⟨p, hp⟩ : ∃ p, p = methB m := ⟨_, rfl⟩
  obtain ⟨q, hq⟩ : ∃ q, q = changeB m.stage k.bob.data.toList := ⟨_, rfl⟩
  obtain ⟨r, hr⟩ : ∃ r, r = changeB m.stage k.single.data.toList := ⟨_, rfl⟩
  rw [← hp] at HM HT
  rw [← hq] at HB HT
  rw [← hr] at HS HT
  clear h hp hq hr
  unfold Mt.v Cl.v at *
  go_enter Tryz.func100, Tryz.ntmps100
  go_wp2_with fail
  refine box2 (C := fun W => Calls _ _ _ W _) ?_
  intro wb hw k1 k2 hB0
  have R1 := boxRule k1
  have R2 := boxRule k2
  clear k1 k2
  refine (HM.out _ hw).mono ?_; rintro e w1 ⟨rfl, hb1⟩
  cases p
  · go_wp2_with fail
    go_ret
    exact ⟨ret_bool (by rw [HT.out]; rfl), bw_to hw hb1⟩
  · go_wp2_with fail
    refine (HB.out _).mono ?_; rintro e w2 ⟨rfl, rfl⟩
    cases q
    · go_wp2_with fail
      go_ret
      exact ⟨ret_bool (by rw [HT.out]; rfl), bw_to hw hb1⟩
    · go_wp2_with fail
      refine (HS.out _).mono ?_; rintro e w3 ⟨rfl, rfl⟩
      go_wp2_with fail
      go_ret
      exact ⟨ret_bool (by rw [HT.out]; rfl), bw_to hw hb1⟩
set_option maxHeartbeats 1000000 in
theorem goodFor_any (m : Mt) (v : Value) (k : Cl) (t : ByteArray) (w : World) (h : MethAt w m v) (hs : MtSmall m) (hk : ClSmall k) (ht : t.size ≤ maxLen) : Calls Tryz.prog 33 #[m.v v, k.v, .string t] w fun e w' => e = .returned (.bool (callsB m k && touchB t.data.toList)) ∧ Below w.heap.size w w' := by
  have HM := Lib.hid (fun W hW => GoodCalls_any m v k W (h.to hW) hs hk)
  have HB := Lib.hid (fun W => GoodTouch_any t W ht)
  obtain ⟨A, c, hv⟩ := h.form
  subst hv
  obtain ⟨p, hp⟩ : ∃ p, p = callsB m k := ⟨_, rfl⟩
  obtain ⟨q, hq⟩ : ∃ q, q = touchB t.data.toList := ⟨_, rfl⟩
  rw [← hp, ← hq]
  rw [← hp] at HM
  rw [← hq] at HB
  clear h hp hq
  unfold Mt.v Cl.v at *
  go_enter Tryz.func33, Tryz.ntmps33
  go_wp2_with fail
  refine box2 (C := fun W => Calls _ _ _ W _) ?_
  intro wb hw k1 k2 hB0
  refine (HM.out _ hw).mono ?_; rintro e w1 ⟨rfl, hb1⟩
  cases p
  · go_wp2_with fail
    go_ret
    exact ⟨rfl, bw_to hw hb1⟩
  · go_wp2_with fail
    refine (HB.out _).mono ?_; rintro e w2 ⟨rfl, rfl⟩
    go_wp2_with fail
    go_ret
    exact ⟨ret_bool (by simp), bw_to hw hb1⟩
theorem last_get {l : List ByteArray} (h : 1 ≤ l.length) : l[l.length - 1]'(by omega) = l.getLastD ⟨#[]⟩ := by
  rw [List.getLastD_eq_getLast?, List.getLast?_eq_getElem?, List.getElem?_eq_getElem (by omega)]; rfl
set_option maxHeartbeats 1000000 in
theorem l8Change_any (m : Mt) (v : Value) (k : Cl) (c : UInt8) (w : World) (h : Strs w v m.l) (hl : 1 ≤ m.l.length ∧ m.l.length ≤ 40) : Calls Tryz.prog 131 #[m.v v, k.v, .string (callT c)] w fun e w' => e = .returned (.string (callCh m.l k.bob k.single c)) ∧ Below w.heap.size w w' := by
  have e1 := callT_is c 98
  have e2 := callT_is c 115
  have HT : Hid (callCh m.l k.bob k.single c = if c = 98 then k.bob else if c = 115 then k.single else m.l.getLastD ⟨#[]⟩) := Lib.hid rfl
  obtain ⟨A, q, hv, h1, h2, hrd⟩ := h
  subst hv
  unfold maxLen at h2
  obtain ⟨ad, rfl, hC⟩ := strs_el (k := m.l.length - 1) hrd (by omega)
  rw [last_get hl.1] at hC
  have hi0 : (0 : Int) ≤ (m.l.length : Int) - 1 := by omega
  have hi1 : ((m.l.length : Int) - 1).toNat = m.l.length - 1 := by omega
  obtain ⟨y, hy⟩ : ∃ y, y = m.l.getLastD ⟨#[]⟩ := ⟨_, rfl⟩
  rw [← hy] at hC HT
  unfold Mt.v Cl.v
  clear hrd hy
  by_cases c1 : c = 98
  · rw [decide_eq_true c1] at e1
    have HE : Hid (callCh m.l k.bob k.single c = k.bob) := Lib.hid (by rw [HT.out, if_pos c1])
    clear c1 HT
    go_enter Tryz.func131, Tryz.ntmps131
    go_wp2_with fail
    go_ret
    exact ⟨ret_str HE.out.symm, bw_al (bw_al (Below.refl _ _) _) _⟩
  · rw [decide_eq_false c1] at e1
    by_cases c2 : c = 115
    · rw [decide_eq_true c2] at e2
      have HE : Hid (callCh m.l k.bob k.single c = k.single) := Lib.hid (by rw [HT.out, if_neg c1, if_pos c2])
      clear c1 c2 HT
      go_enter Tryz.func131, Tryz.ntmps131
      go_wp2_with fail
      go_ret
      exact ⟨ret_str HE.out.symm, bw_al (bw_al (Below.refl _ _) _) _⟩
    · rw [decide_eq_false c2] at e2
      have HE : Hid (callCh m.l k.bob k.single c = y) := Lib.hid (by rw [HT.out, if_neg c1, if_neg c2])
      have hCA : ∀ o1 o2, ((w.alloc o1).alloc o2).cell? (ad.add (m.l.length - 1)) = some (.string y) := fun _ _ => hC _ (bw_al (bw_al (Below.refl _ _) _) _)
      clear c1 c2 HT hC
      go_enter Tryz.func131, Tryz.ntmps131
      go_wp2_with fail
      go_ret
      exact ⟨ret_str HE.out.symm, bw_al (bw_al (Below.refl _ _) _) _⟩
set_option maxRecDepth 10000 in
set_option maxHeartbeats 2000000 in
theorem l8Head_any (m : Mt) (v : Value) (k : Cl) (n : Nat) (c : UInt8) (w : World) (hg : CGood m k n) (hv : Strs w v m.l) : Calls Tryz.prog 103 #[m.v v, k.v, .string (callT c)] w fun e w' => e = .returned (.string (headB n m.l k.bob k.single c)) ∧ Below w.heap.size w w' := by
  have HT := Lib.hid (headB_last n m.l k.bob k.single c)
  have hst := hg.m.st
  have hn := hg.m.hi
  have hl := hg.m.len
  have Hg := Lib.hid hg
  obtain ⟨ad, q, rfl⟩ := strs_some hv hl.1
  have h1 : m.l.length ≤ q := let ⟨_, _, e, h1, _⟩ := hv; by cases e; exact h1
  have h2 : q ≤ maxLen := let ⟨_, _, e, _, h2, _⟩ := hv; by cases e; exact h2
  unfold maxLen at h2
  have Hv := Lib.hid hv
  have Hu := Lib.hid (strs_upto hv (k := m.l.length - 1) (by omega))
  have Hch := Lib.hid (fun W hW => l8Change_any m (.slice (some ad) m.l.length q) k c W (Hv.out.to hW) hl)
  have Hcc := Lib.hid (calls_chs hg c (callCh m.l k.bob k.single c) (by unfold calledL; simp))
  obtain ⟨L, hL⟩ : ∃ L, L = m.l.take (m.l.length - 1) := ⟨_, rfl⟩
  have hLl : L.length = m.l.length - 1 := by rw [hL]; simp
  have hLok : ChsOk L := hg.m.ok.sub (fun c hc => by rw [hL] at hc; exact List.mem_of_mem_take hc)
  rw [← hL] at HT Hu
  obtain ⟨y, hy⟩ : ∃ y, y = callCh m.l k.bob k.single c := ⟨_, rfl⟩
  rw [← hy] at HT Hch Hcc
  unfold Mt.v Cl.v at *
  rw [hst] at Hch
  rw [hst]
  have hi0 : (0 : Int) ≤ (m.l.length : Int) - 1 := by omega
  have hi1 : ((m.l.length : Int) - 1).toNat = m.l.length - 1 := by omega
  have hi2 : (m.l.length : Int) - 1 ≤ (q : Int) := by omega
  have hi3 : (1 : Int) ≤ (m.l.length : Int) := by omega
  have hi4 : (m.l.length : Int) ≤ (q : Int) + 1 := by omega
  have hi5 : 1 ≤ m.l.length := by omega
  have hi6 : m.l.length ≤ q + 1 := by omega
  have hi7 : m.l.length - 1 ≤ q := by omega
  have hLl2 : L.length ≤ 1000000 := by omega
  have HLl := Lib.hid hLl
  clear hv hst hg hL hy hLl
  go_enter Tryz.func103, Tryz.ntmps103
  go_wp2_with fail
  refine box2 (C := fun W => Code.wp _ _ _ _ W) ?_
  intro wb hw k1 k2 hB0
  have R1 := boxRule k1
  have R2 := boxRule k2
  have Hru := Lib.hid (fun W hW => l4Lead_any (roundsB n) (.slice (some ad) (m.l.length - 1) q) L n W hn (rounds_in hn) (Strs.to Hu.out (bw_to hw hW)) hLl2 hLok)
  have hdr : Below wb.heap.size wb wb.drew := Below.drew (Below.refl _ _)
  clear k1 k2 hLok
  go_region_held3 (fun W => Below wb.heap.size wb W) (first | exact Below.drew (by assumption) | exact bw_to (by assumption) hb')
    (first | (go_at_call 30; refine (l1Rounds_any n _ hn).mono ?_; rintro e w' ⟨rfl, rfl⟩) | (go_at_call 28; refine (Hru.out _ (by assumption)).mono ?_; rintro e w' ⟨A1, q1, rfl, hown, hb'⟩))
  all_goals
    clear hown
    have hb1 : Below wb.heap.size wb w' := by assumption
    have hin := runB_in hn L (rounds_in hn)
    have Hap := Lib.hid (fun W => l2Apply_any (runB (roundsB n) L) y W (by rw [hin.1]; exact hn) Hcc.out.1)
    obtain ⟨z, hz⟩ : ∃ z, z = runB (roundsB n) L := ⟨_, rfl⟩
    rw [← hz] at Hap HT ⊢
    clear hin hz
    go_wp2_with fail
    refine (Hch.out _ (bw_to hw (by first | exact hb1 | exact hb1.drew))).mono ?_; rintro e w3 ⟨rfl, hb3⟩
    have hB3 := bw_to hw (bw_to (by first | exact hb1 | exact hb1.drew) hb3)
    go_wp2_with fail
    refine (Hap.out _).mono ?_; rintro e w4 ⟨rfl, hb4⟩
    go_wp2_with fail
    go_ret
    exact ⟨ret_str HT.out.symm, bw_to hB3 hb4⟩
end Go.Proofs.YtajffjkmmenaoaaGreat
