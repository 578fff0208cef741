/- Rising rows without repetition: slices.Compact behind a sort, sets joined: a plain account. -/
import Derived.Test.YtofpjbdelmmclaaGreatDoorPk21
import Derived.Lib.SlicesCompact
import Derived.Test.YtofpjbdelmmclaaGreatDoorPk23
import Derived.Test.YtofpjbdelmmclaaGreatDoorPk11
namespace Go.Proofs.YtofpjbdelmmclaaGreatDoor
open Go Go.RowKit Go.Sort
set_option linter.unusedVariables false
set_option linter.unusedSimpArgs false

theorem get_at {α : Type} [Inhabited α] {zs : List α} {i : Nat} (h : i < zs.length) : zs.toArray[i]! = zs[i] := by
  rw [getElem!_pos zs.toArray i (by simpa using h)]
  simp
theorem compact_to {α : Type} [Inhabited α] [DecidableEq α] {le : α → α → Prop} (anti : ∀ a b, le a b → le b a → a = b) {zs : List α} (h : zs.Pairwise le) : ∀ m, m ≤ zs.length → (∀ x, x ∈ Lib.compactUpTo zs.toArray m ↔ x ∈ zs.take m) ∧ (Lib.compactUpTo zs.toArray m).Nodup
  | 0, _ => by simp [Lib.compactUpTo]
  | m + 1, hm => by
    obtain ⟨h1, h2⟩ := compact_to anti h m (by omega)
    have hp := List.pairwise_iff_getElem.1 h
    have hml : m < zs.length := by omega
    have em := get_at hml
    rw [Lib.compactUpTo_succ, em]
    have et : zs.take (m + 1) = zs.take m ++ [zs[m]] := List.take_succ_eq_append_getElem hml
    cases hk : Lib.keeps zs.toArray m
    · have hin : zs[m] ∈ zs.take m := by
        unfold Lib.keeps at hk
        have hk := of_decide_eq_false hk
        have hm0 : m ≠ 0 := fun e => hk (.inl e)
        have e1 : zs.toArray[m]! = zs.toArray[m - 1]! := Classical.byContradiction fun e => hk (.inr e)
        rw [em, get_at (show m - 1 < zs.length by omega)] at e1
        rw [e1, List.mem_take_iff_getElem]
        exact ⟨m - 1, by omega, rfl⟩
      rw [if_neg (by simp), List.append_nil]
      refine ⟨fun x => ?_, h2⟩
      rw [h1, et, List.mem_append, List.mem_singleton]
      exact ⟨.inl, fun hx => hx.elim id (fun e => by rw [e]; exact hin)⟩
    · rw [if_pos rfl]
      refine ⟨fun x => ?_, ?_⟩
      · rw [List.mem_append, h1, et, List.mem_append]
      · rw [List.nodup_append]
        refine ⟨h2, by simp, fun a ha b hb e => ?_⟩
        rw [List.mem_singleton] at hb
        subst hb; subst e
        rw [h1, List.mem_take_iff_getElem] at ha
        obtain ⟨j, hj, e⟩ := ha
        have hjm : j < m := by omega
        have hk := of_decide_eq_true hk
        have e1 : zs.toArray[m]! ≠ zs.toArray[m - 1]! := hk.resolve_left (by omega)
        rw [em, get_at (show m - 1 < zs.length by omega)] at e1
        rcases Nat.eq_or_lt_of_le (show j ≤ m - 1 by omega) with e2 | hlt
        · subst e2; exact e1 e.symm
        · have a1 := hp j (m - 1) (by omega) (by omega) hlt
          have a2 := hp (m - 1) m (by omega) hml (by omega)
          rw [e] at a1
          exact e1 (anti _ _ a1 a2)
theorem compact_sub {α : Type} [Inhabited α] [DecidableEq α] (zs : List α) : (Lib.compact zs).Sublist zs := by
  have h := (List.filter_sublist (p := Lib.keeps zs.toArray) (l := List.range zs.length)).map (fun j => zs.toArray[j]!)
  have e : (List.range zs.length).map (fun j => zs.toArray[j]!) = zs := by
    have := Lib.range_map_get zs.toArray
    simpa using this
  rw [e] at h
  exact h
/-- What slices.Compact makes of rows. -/
def compB (l : List ByteArray) : List ByteArray := (Lib.compact (l.map (·.data.toList))).map ofL
theorem ofL_data (x : ByteArray) : ofL x.data.toList = x := by unfold ofL; simp
theorem map_ofL (l : List ByteArray) : (l.map (·.data.toList)).map ofL = l := by
  rw [List.map_map]
  conv => rhs; rw [← List.map_id l]
  apply List.map_congr_left
  intro x _
  exact ofL_data x
theorem compB_sub (l : List ByteArray) : (compB l).Sublist l := by
  have h := (compact_sub (l.map (·.data.toList))).map ofL
  rw [map_ofL] at h
  exact h
theorem compB_ok {l : List ByteArray} (hs : SortedS l) : (∀ x, x ∈ compB l ↔ x ∈ l) ∧ (compB l).Nodup ∧ SortedS (compB l) := by
  have hp : (l.map (·.data.toList)).Pairwise (fun a b => nmLt (ofL b) (ofL a) = false) := by
    rw [List.pairwise_map]
    refine hs.imp ?_
    intro a b h
    rw [ofL_data, ofL_data]; exact h
  have inj : ∀ a b : List UInt8, ofL a = ofL b → a = b := fun a b h => by
    have := congrArg (fun x : ByteArray => x.data.toList) h
    simpa [ofL] using this
  obtain ⟨h1, h2⟩ := compact_to (fun a b h h' => inj a b (sl_tot h' h)) hp (l.map (·.data.toList)).length (Nat.le_refl _)
  rw [List.take_length] at h1
  refine ⟨fun x => ?_, ?_, hs.sublist (compB_sub l)⟩
  · unfold compB Lib.compact
    rw [List.mem_map]
    constructor
    · rintro ⟨a, ha, rfl⟩
      rw [h1] at ha
      obtain ⟨y, hy, rfl⟩ := List.mem_map.1 ha
      rw [ofL_data]; exact hy
    · intro hx
      exact ⟨x.data.toList, (h1 _).2 (List.mem_map.2 ⟨x, hx, rfl⟩), ofL_data x⟩
  · unfold compB Lib.compact
    rw [List.Nodup, List.pairwise_map]
    exact h2.imp (fun h e => h (inj _ _ e))
/-- Bobs with a set put into them. -/
def addS (bobs S : List ByteArray) : List ByteArray := S.foldl putS bobs
theorem addS_ok : ∀ (S : List ByteArray) {bobs : List ByteArray}, SortedS bobs → bobs.Nodup → SortedS (addS bobs S) ∧ (addS bobs S).Nodup ∧ ∀ x, x ∈ addS bobs S ↔ x ∈ bobs ∨ x ∈ S
  | [], bobs, h1, h2 => ⟨h1, h2, fun x => by simp [addS]⟩
  | y :: S, bobs, h1, h2 => by
    obtain ⟨a, b, c⟩ := addS_ok S (putS_sorted bobs y) (putS_nodup h2 y)
    refine ⟨a, b, fun x => ?_⟩
    show x ∈ addS (putS bobs y) S ↔ _
    rw [c, putS_mem, List.mem_cons, or_assoc]
theorem addS_comp {bobs S : List ByteArray} (h1 : SortedS bobs) (h2 : bobs.Nodup) : compB (sortB (bobs ++ S)) = addS bobs S := by
  obtain ⟨a, b, c⟩ := compB_ok (sortB_sorted (bobs ++ S))
  obtain ⟨a', b', c'⟩ := addS_ok S h1 h2
  refine sorted_ext c b a' b' (fun x => ?_)
  rw [a, sortB_mem, List.mem_append, c']
end Go.Proofs.YtofpjbdelmmclaaGreatDoor

/- Bobs: rising rows of a group that hold the set of each of theirs: a plain account. -/
namespace Go.Proofs.YtofpjbdelmmclaaGreatDoor
open Go Go.RowKit
set_option linter.unusedVariables false
set_option linter.unusedSimpArgs false

/-- Rows that rise strictly, as a loop looks at them. -/
def Rise (l : List ByteArray) (k : Nat) : Prop := ∀ i (h : i < l.length), i < k → 0 < i → nmLt (l[i - 1]'(by omega)) l[i] = true
theorem Rise.zero (l : List ByteArray) : Rise l 0 := fun i h h1 => absurd h1 (by omega)
theorem Rise.one (l : List ByteArray) : Rise l 1 := fun i h h1 h2 => absurd h1 (by omega)
theorem Rise.step {l : List ByteArray} {k : Nat} (h : Rise l k) (hk : k < l.length) (e : 0 < k → nmLt (l[k - 1]'(by omega)) l[k] = true) : Rise l (k + 1) := fun i hi h1 h2 => by
  rcases Nat.lt_or_ge i k with h3 | h3
  · exact h i hi h3 h2
  · obtain rfl : i = k := by omega
    exact e h2
theorem Rise.lt {l : List ByteArray} (h : Rise l l.length) : ∀ d i (hi : i + d + 1 < l.length), nmLt (l[i]'(by omega)) l[i + d + 1] = true
  | 0, i, hi => h (i + 1) hi hi (by omega)
  | d + 1, i, hi => sl_trans (h.lt d i (by omega)) (h (i + d + 1 + 1) hi hi (by omega))
theorem Rise.pair {l : List ByteArray} (h : Rise l l.length) : l.Pairwise (fun a b => nmLt a b = true) := by
  rw [List.pairwise_iff_getElem]
  intro i j hi hj hij
  have := h.lt (j - i - 1) i (by omega)
  have e : i + (j - i - 1) + 1 = j := by omega
  simp only [e] at this
  exact this
theorem Rise.sorted {l : List ByteArray} (h : Rise l l.length) : SortedS l := h.pair.imp (fun h => sl_asym h)
theorem Rise.nodup {l : List ByteArray} (h : Rise l l.length) : l.Nodup := h.pair.imp (fun h e => by rw [e, sl_irr] at h; cases h)
theorem rise_of {l : List ByteArray} (h1 : SortedS l) (h2 : l.Nodup) : Rise l l.length := fun i hi _ h0 => by
  have a := (List.pairwise_iff_getElem.1 h1) (i - 1) i (by omega) hi (by omega)
  have b := (List.pairwise_iff_getElem.1 h2) (i - 1) i (by omega) hi (by omega)
  cases hx : nmLt (l[i - 1]'(by omega)) l[i]
  · exact absurd (sl_tot hx a) b
  · rfl
/-- Rising rows of G. -/
def InG (G bobs : List ByteArray) : Prop := (∀ h ∈ bobs, h ∈ G) ∧ Rise bobs bobs.length
theorem InG.len {G bobs : List ByteArray} (h : InG G bobs) : bobs.length ≤ G.length := nodup_le bobs G h.2.nodup h.1
theorem InG.nil (G : List ByteArray) : InG G [] := ⟨fun h hh => (by cases hh), fun i h => absurd h (Nat.not_lt_zero _)⟩
theorem good_sets {n : Nat} (hn : n ≤ 8) {bobs : List ByteArray} {Q : ByteArray} {K : Nat} (hQ : Inv n Q) (hK : IsOrd n Q K) (hr : ∀ h ∈ bobs, RowIn n h) : goodQ bobs Q ↔ ∀ h ∈ bobs, ∀ g ∈ sortB (setB n Q h K), g ∈ bobs := by
  constructor
  · intro hg h hh g hgm
    rw [sortB_mem] at hgm
    unfold setB powL at hgm
    rw [List.map_map] at hgm
    obtain ⟨j, _, rfl⟩ := List.mem_map.1 hgm
    exact good_pow hn hQ.1 hg (hr h hh) hh j
  · intro hs h hh
    apply hs h hh
    rw [sortB_mem]
    unfold setB powL
    rw [List.map_map]
    rcases Nat.lt_or_ge 1 K with h1 | h1
    · exact List.mem_map.2 ⟨1, List.mem_range.2 h1, by show timesB h (powB n Q 1) = _; rw [pow_one hn hQ.1]⟩
    · have hK1 : K = 1 := by have := hK.1; omega
      subst hK1
      refine List.mem_map.2 ⟨0, List.mem_range.2 (by omega), ?_⟩
      show timesB h (roundsB n) = _
      have e := hK.2.1
      rw [pow_one hn hQ.1] at e
      rw [e]
theorem setB_in {n : Nat} (hn : n ≤ 8) {Q h : ByteArray} {K : Nat} (hQ : RowIn n Q) (hh : RowIn n h) : ∀ x ∈ setB n Q h K, RowIn n x := by
  intro x hx
  unfold setB powL at hx
  rw [List.map_map] at hx
  obtain ⟨j, _, rfl⟩ := List.mem_map.1 hx
  exact times_in hh (pow_in hn hQ j)
theorem powB_succ' {n : Nat} (hn : n ≤ 8) {Q : ByteArray} (hQ : RowIn n Q) (j : Nat) : timesB Q (powB n Q j) = powB n Q (j + 1) := by
  have h5 := pow_add hn hQ 1 j
  rw [pow_one hn hQ, Nat.add_comm] at h5
  exact h5.symm
/-- Bobs and a set: still closed under Q. -/
theorem addS_good {n : Nat} (hn : n ≤ 8) {bobs : List ByteArray} {Q h : ByteArray} {K : Nat} (hQ : Inv n Q) (hK : IsOrd n Q K) (hh : RowIn n h) (hs : SortedS bobs) (hd : bobs.Nodup) (hg : goodQ bobs Q) : goodQ (addS bobs (sortB (setB n Q h K))) Q := by
  obtain ⟨_, _, hm⟩ := addS_ok (sortB (setB n Q h K)) hs hd
  intro x hx
  rw [hm] at hx ⊢
  rcases hx with hx | hx
  · exact .inl (hg x hx)
  · right
    rw [sortB_mem] at hx ⊢
    unfold setB powL at hx ⊢
    rw [List.map_map] at hx ⊢
    obtain ⟨j, hj, rfl⟩ := List.mem_map.1 hx
    have hj := List.mem_range.1 hj
    have e : timesB ((timesB h ∘ powB n Q) j) Q = timesB h (powB n Q (j + 1)) := by
      show timesB (timesB h (powB n Q j)) Q = _
      rw [times_assoc h (pow_in hn hQ.1 j) hQ.1]; rfl
    rw [e]
    rcases Nat.lt_or_ge (j + 1) K with h1 | h1
    · exact List.mem_map.2 ⟨j + 1, List.mem_range.2 h1, rfl⟩
    · have : j + 1 = K := by omega
      refine List.mem_map.2 ⟨0, List.mem_range.2 (by have := hK.1; omega), ?_⟩
      show timesB h (roundsB n) = _
      rw [this, hK.2.1]
end Go.Proofs.YtofpjbdelmmclaaGreatDoor

/- slices.Compact at a row of texts of the call's own; impl.blocks.withSet, spec.l17C.add. -/
namespace Go.Proofs.YtofpjbdelmmclaaGreatDoor
open Go Go.RowKit Go.Sort
set_option linter.unusedVariables false
set_option linter.unusedSimpArgs false

theorem compB_len (l : List ByteArray) : (compB l).length = (Lib.compact (l.map (·.data.toList))).length := by unfold compB; rw [List.length_map]
theorem compB_enc (l : List ByteArray) : (Lib.compact (l.map (·.data.toList))).map encStr = (compB l).map Value.string := by
  unfold compB
  rw [List.map_map]
  rfl
theorem compB_le (l : List ByteArray) : (compB l).length ≤ l.length := (compB_sub l).length_le
theorem sortB_pos {l : List ByteArray} (h : 1 ≤ l.length) : 1 ≤ (sortB l).length := by rw [sortB_len]; exact h
theorem addS_len : ∀ (S bobs : List ByteArray), (addS bobs S).length ≤ bobs.length + S.length
  | [], bobs => by simp [addS]
  | y :: S, bobs => by
    show (addS (putS bobs y) S).length ≤ _
    have h1 := addS_len S (putS bobs y)
    have h2 := putS_len (l := bobs) (r := y)
    rw [List.length_cons]; omega
theorem addS_take {S : List ByteArray} {k : Nat} (hk : k < S.length) (bobs : List ByteArray) : addS bobs (S.take (k + 1)) = putS (addS bobs (S.take k)) S[k] := by
  unfold addS
  rw [List.take_succ_eq_append_getElem hk, List.foldl_append]
  rfl
theorem addS_sorted : ∀ (S : List ByteArray) {bobs : List ByteArray}, SortedS bobs → SortedS (addS bobs S)
  | [], bobs, h => h
  | y :: S, bobs, h => addS_sorted S (putS_sorted bobs y)
set_option maxRecDepth 100000 in
set_option maxHeartbeats 4000000 in
theorem addSetS_any (n K : Nat) (P B Q h : ByteArray) (gv Vb : Value) (bobs : List ByteArray) (w : World) (hn : n ≤ 8) (hQ : Inv n Q) (hh : Inv n h) (hK : IsOrd n Q K) (hKb : K ≤ 16777216) (hf : ∃ A l c, gv = .slice A l c) (hV : Strs w Vb bobs) (hN : NilOk Vb) (hs : SortedS bobs) (hbl : bobs.length ≤ 1000000) :
    Calls Tryz.prog 140 #[.agg #[.string P, .string B, .string Q, gv], Vb, .string h] w fun e w' =>
    ∃ A q, e = .returned (.slice A (addS bobs (sortB (setB n Q h K))).length q) ∧ w'.ownsRow w.heap.size 9 1 (.slice A (addS bobs (sortB (setB n Q h K))).length q) (addS bobs (sortB (setB n Q h K))).length ((addS bobs (sortB (setB n Q h K))).map Value.string) ∧ Below w.heap.size w w' := by
  have hK1 := hK.1
  have Hset := Lib.hid (fun W => setS_any n K P B Q h gv W hn hQ hh hK hKb hf)
  obtain ⟨S, hS⟩ : ∃ S, S = sortB (setB n Q h K) := ⟨_, rfl⟩
  have hSl : S.length = K := by rw [hS, sortB_len, setB_len]
  rw [← hS] at Hset ⊢
  have Hown := Lib.hid (fun W hW => l1OwnS_any Vb bobs W (hV.to hW) hN (by omega))
  have Hsr : Hid (∀ k, SortedS (addS bobs (S.take k))) := Lib.hid (fun k => addS_sorted _ hs)
  have Hln : Hid (∀ k, (addS bobs (S.take k)).length ≤ bobs.length + K) := Lib.hid (fun k => by have := addS_len (S.take k) bobs; rw [List.length_take] at this; omega)
  have HSl := Lib.hid hSl
  have H0 : Hid (addS bobs (S.take 0) = bobs) := Lib.hid (by simp [addS])
  have HE : Hid (addS bobs (S.take K) = addS bobs S) := Lib.hid (by rw [← hSl, List.take_length])
  obtain ⟨A, l, c, rfl⟩ := hf
  have HVf : ∃ A c, Vb = .slice A bobs.length c := by obtain ⟨A, c, e, _⟩ := hV; exact ⟨A, c, e⟩
  obtain ⟨Ab, cb, rfl⟩ := HVf
  clear hK hQ hh hV hN hS hs
  go_enter Tryz.func140, Tryz.ntmps140
  go_wp2_with fail
  refine box1 (C := fun W => Calls _ _ _ W _) ?_
  intro wb hw k1 hB0
  have R1 := boxRule k1
  clear k1
  refine (Hown.out _ hw).mono ?_; rintro e w1 ⟨v1, rfl, hown1, hb1⟩
  obtain ⟨A1, q1, rfl, _⟩ := sl_of_own hown1
  have hB1 := bw_to hB0 hb1
  have R2 := fun i => R1 w1 i hB1
  have Ho1 := Lib.hid hown1
  clear hown1
  go_wp2_with fail
  refine (Hset.out _).mono ?_; rintro e w2 ⟨A2, q2, rfl, hown2, hb2⟩
  have hB2 := bw_to hB1 hb2
  have S2 := Lib.hid (strs_own_n HSl.out hown2)
  have Ho2 := Lib.hid (own_base (own_to Ho1.out hb2) hw.size)
  have hc2 := sl_cap hown2
  clear hown2 R2
  go_wp2_with fail
  obtain ⟨wo, rfl⟩ : ∃ wo : World, wo = w2 := ⟨_, rfl⟩
  go_loopw [7, 16] (fun o i wr => ∃ (k : Nat) (A : Option Addr) (q : Nat), k ≤ K ∧ i = .int .i64 k ∧ o = .slice A (addS bobs (S.take k)).length q ∧ wr.ownsRow w.heap.size 9 1 (.slice A (addS bobs (S.take k)).length q) (addS bobs (S.take k)).length ((addS bobs (S.take k)).map Value.string) ∧ Below wb.heap.size wb wr ∧ Below wo.heap.size wo wr) (fun _ i _ => K - (intOf i).toNat)
  case atStart => exact ⟨0, A1, q1, by omega, rfl, by rw [H0.out], by rw [H0.out]; exact Ho2.out, hB2, Below.refl _ _⟩
  case round =>
    obtain ⟨k, Ak, qk, hk, rfl, rfl, hown, hB, hBo⟩ := hrel
    by_cases hlt : k < K
    · have hkS : k < S.length := by rw [HSl.out]; exact hlt
      have hS2 := S2.out
      obtain ⟨A6, q6, e6, _, _, hrdS⟩ := hS2
      injection e6 with ea eb ec
      subst ea ec
      obtain ⟨ad, rfl, hC⟩ := strs_el hrdS hkS
      have hC0 := hC _ hBo
      have Hst := Lib.hid (addS_take hkS bobs)
      have hSk := Lib.hid (strs_of_own hown)
      have hNk := Lib.hid (nilok_own hown)
      have hl1 := Hln.out k
      have hl2 := Hln.out (k + 1)
      have Hso := Lib.hid (Hsr.out k)
      obtain ⟨x, hx⟩ : ∃ x, x = S[k] := ⟨_, rfl⟩
      rw [← hx] at hC0 Hst
      obtain ⟨U, hU⟩ : ∃ U, U = addS bobs (S.take k) := ⟨_, rfl⟩
      rw [← hU] at hown hSk hNk Hst hl1 Hso ⊢
      have Hput := Lib.hid (fun W hW => l17Put_all (.slice Ak U.length qk) U x W hW hNk.out Hso.out (by omega))
      rw [← Hst.out] at Hput
      have HUe : Hid (x ∈ U → putS U x = U) := Lib.hid (fun h => putS_in Hso.out h)
      have HU2 := Lib.hid Hst.out
      clear hC hx hU eb hrdS
      go_wp2_with fail
      refine (Hput.out _ hSk.out).mono ?_; rintro e w3 ⟨A3, q3, rfl, hor, hb3⟩
      have hB3 := bw_to hB hb3
      have hBo3 := bw_to hBo hb3
      have ho3 : w3.ownsRow w.heap.size 9 1 (.slice A3 (addS bobs (S.take (k + 1))).length q3) (addS bobs (S.take (k + 1))).length ((addS bobs (S.take (k + 1))).map Value.string) := by
        rcases hor with h | ⟨hm, he⟩
        · exact own_base h (Nat.le_trans hw.size hB.size)
        · have e9 : addS bobs (S.take (k + 1)) = U := by rw [HU2.out]; exact HUe.out hm
          rw [e9] at he ⊢
          rw [← he]
          exact own_to hown hb3
      have Ho3 := Lib.hid ho3
      clear hor hown ho3
      go_wp2_with fail
      exact ⟨⟨k + 1, A3, q3, by omega, by go_num, rfl, Ho3.out, hB3, hBo3⟩, by simp [intOf]; omega⟩
    · obtain rfl : k = K := by omega
      have Ho := Lib.hid hown
      clear hown
      rw [HE.out] at Ho ⊢
      go_wp2_with fail
      go_ret
      exact ⟨_, _, rfl, Ho.out, bw_to hw hB⟩
end Go.Proofs.YtofpjbdelmmclaaGreatDoor

/- Bobs: are they rising rows of the group, do they hold the set of each of theirs: both sides; impl.goodBlocks, spec.l17Bobs. -/
namespace Go.Proofs.YtofpjbdelmmclaaGreatDoor
open Go Go.RowKit
set_option linter.unusedVariables false
set_option linter.unusedSimpArgs false

instance riseDec (l : List ByteArray) (k : Nat) : Decidable (Rise l k) := by unfold Rise; infer_instance
instance inGDec (G l : List ByteArray) : Decidable (InG G l) := by unfold InG; infer_instance
instance goodQDec (l : List ByteArray) (Q : ByteArray) : Decidable (goodQ l Q) := by unfold goodQ; infer_instance
theorem inG_of {G bobs : List ByteArray} (h1 : ∀ h ∈ bobs, h ∈ G) (h2 : Rise bobs bobs.length) : InG G bobs := ⟨h1, h2⟩
theorem quiet_left {P : Program} {f : FuncId} {args : Array Value} {w : World} {n : Nat} {v : Value}
    (h : Calls P f args (w.drewN n) fun e w' => e = .returned v ∧ w.drewN n = w') : Calls P f args (w.drewN n) fun e w'' => e = .returned v ∧ ∃ m, w'' = w.drewN m :=
  h.mono fun _ _ ⟨he, hm⟩ => ⟨he, n, hm.symm⟩
set_option maxRecDepth 100000 in
set_option maxHeartbeats 2000000 in
theorem rowsS_any (P B Q : ByteArray) (gv Vb : Value) (G bobs : List ByteArray) (w : World) (hG : Strs w gv G) (hV : Strs w Vb bobs) : Calls Tryz.prog 199 #[.agg #[.string P, .string B, .string Q, gv], Vb] w fun e w' => e = .returned (.bool (decide (InG G bobs))) ∧ Below w.heap.size w w' := by
  have Hh := Lib.hid (fun r W (hW : Below w.heap.size w W) => l1HasS_any gv G r W (hG.to hW))
  obtain ⟨A, c, rfl, h1, h2, hrd⟩ := hV
  obtain ⟨Ag, cg, rfl⟩ : ∃ A c, gv = .slice A G.length c := by obtain ⟨A, c, e, _⟩ := hG; exact ⟨A, c, e⟩
  unfold maxLen at h2
  clear hG
  go_enter Tryz.func199, Tryz.ntmps199
  go_wp2_with fail
  refine box1 (C := fun W => Code.wp _ _ _ _ W) ?_
  intro wb hw k1 hB0
  have R1 := boxRule k1
  clear k1
  go_loopw [9] (fun i wr => ∃ k : Nat, k ≤ bobs.length ∧ i = .int .i64 k ∧ (∀ h ∈ bobs.take k, h ∈ G) ∧ Rise bobs k ∧ Below w.heap.size w wr ∧ Below wb.heap.size wb wr) (fun i _ => bobs.length - (intOf i).toNat)
  case atStart => exact ⟨0, by omega, rfl, by simp, Rise.zero _, hw, hB0⟩
  case round =>
    obtain ⟨k, hk, rfl, hn, hri, hB, hBb⟩ := hrel
    have Hn := Lib.hid hn
    have Hri := Lib.hid hri
    clear hn hri
    have R2 := fun i => R1 wr i hBb
    by_cases hlt : k < bobs.length
    · obtain ⟨ad, rfl, hC⟩ := strs_el hrd hlt
      have hC0 := hC _ hB
      have Hyes : Hid (bobs[k] ∈ G → ∀ h ∈ bobs.take (k + 1), h ∈ G) := Lib.hid (fun hx h hh => by
        rw [List.take_succ_eq_append_getElem hlt, List.mem_append, List.mem_singleton] at hh
        rcases hh with hh | rfl
        · exact Hn.out h hh
        · exact hx)
      have Hno : Hid (bobs[k] ∉ G → ¬ InG G bobs) := Lib.hid (fun hx h => hx (h.1 _ (List.getElem_mem hlt)))
      cases hd : decide (bobs[k] ∈ G)
      · have Hd := Lib.hid (decide_eq_false (Hno.out (of_decide_eq_false hd)))
        obtain ⟨x, hx⟩ : ∃ x, x = bobs[k] := ⟨_, rfl⟩
        rw [← hx] at hC0 hd
        have hr := fun W hW => Hh.out x W hW
        rw [hd] at hr
        have Hr := Lib.hid hr
        clear hC hx Hyes Hno hr hd
        go_wp2_with (go_at_call 169; refine (Hr.out _ hB).mono ?_; rintro e w' ⟨rfl, rfl⟩)
        go_ret
        exact ⟨ret_bool Hd.out.symm, hB⟩
      · have Hy := Lib.hid (Hyes.out (of_decide_eq_true hd))
        clear Hyes Hno
        have hw8 : (k : Int) < bobs.length := by omega
        have hw9 : 0 ≤ (k : Int) := by omega
        rcases Nat.eq_zero_or_pos k with rfl | hk0
        · have Hr1 : Hid (Rise bobs (0 + 1)) := Lib.hid (Rise.one _)
          obtain ⟨x, hx⟩ : ∃ x, x = bobs[0] := ⟨_, rfl⟩
          rw [← hx] at hC0 hd
          rw [add_zero'] at hC0
          have hr := fun W hW => Hh.out x W hW
          rw [hd] at hr
          have Hr := Lib.hid hr
          clear hC hx hr hd hw8 hw9
          go_wp2_with (go_at_call 169; refine (Hr.out _ hB).mono ?_; rintro e w' ⟨rfl, rfl⟩)
          exact ⟨⟨0 + 1, by omega, by go_num, Hy.out, Hr1.out, hB, hBb⟩, by simp [intOf]; omega⟩
        · obtain ⟨_, ea, hD⟩ := strs_el hrd (show k - 1 < bobs.length by omega)
          cases ea
          have hD0 := hD _ hB
          have Hris : Hid (nmLt (bobs[k - 1]'(by omega)) bobs[k] = true → Rise bobs (k + 1)) := Lib.hid (fun e => Hri.out.step hlt (fun _ => e))
          have Hnor : Hid (nmLt (bobs[k - 1]'(by omega)) bobs[k] = false → ¬ InG G bobs) := Lib.hid (fun e h => by
            have := h.2 k hlt hlt (by omega)
            rw [e] at this; cases this)
          obtain ⟨x, hx⟩ : ∃ x, x = bobs[k] := ⟨_, rfl⟩
          obtain ⟨y, hy⟩ : ∃ y, y = bobs[k - 1]'(by omega) := ⟨_, rfl⟩
          rw [← hx] at hC0 hd Hris Hnor
          rw [← hy] at hD0 Hris Hnor
          have hr := fun W hW => Hh.out x W hW
          rw [hd] at hr
          have Hr := Lib.hid hr
          clear hC hx hD hy hr hd
          have hw2 : IntKind.i64.wrap ((k : Int) - 1) = (k : Int) - 1 := IntWalk.i64_in _ (by omega)
          have hw3 : 0 ≤ (k : Int) - 1 := by omega
          have hw4 : ((k : Int) - 1).toNat = k - 1 := by omega
          have hw5 : (k : Int) - 1 < bobs.length := by omega
          have hw6 : 1 ≤ (k : Int) := by omega
          have hw7 : (k : Int) ≤ bobs.length := by omega
          have hwd : decide ((0 : Int) < (k : Int)) = true := by simpa using hk0
          have hwe : decide (0 < k) = true := by simpa using hk0
          have Htot := Lib.hid (less_tot x.toList y.toList)
          cases hb : Op.bytesLess y.toList x.toList
          · have Hd := Lib.hid (decide_eq_false (Hnor.out hb))
            rw [hb] at Htot
            clear Hris Hnor
            cases hc : Op.bytesLess x.toList y.toList
            · have he : (x.toList == y.toList) = true := by have := Htot.out; rw [hc] at this; simpa using this
              go_wp2_with (go_at_call 169; refine (Hr.out _ hB).mono ?_; rintro e w' ⟨rfl, rfl⟩)
              go_ret
              exact ⟨ret_bool Hd.out.symm, hB⟩
            · go_wp2_with (go_at_call 169; refine (Hr.out _ hB).mono ?_; rintro e w' ⟨rfl, rfl⟩)
              go_ret
              exact ⟨ret_bool Hd.out.symm, hB⟩
          · have Hrr := Lib.hid (Hris.out hb)
            rw [hb] at Htot
            have hxx : Op.bytesLess x.toList y.toList = false ∧ (x.toList == y.toList) = false := by have := Htot.out; simpa using this
            obtain ⟨hx1, hx2⟩ := hxx
            clear Hris Hnor
            go_wp2_with (go_at_call 169; refine (Hr.out _ hB).mono ?_; rintro e w' ⟨rfl, rfl⟩)
            exact ⟨⟨k + 1, by omega, by go_num, Hy.out, Hrr.out, hB, hBb⟩, by simp [intOf]; omega⟩
    · have hin : InG G bobs := ⟨fun h hh => Hn.out h (by rw [List.take_of_length_le (by omega)]; exact hh), fun i hi h9 h0 => Hri.out i hi (by omega) h0⟩
      have Hd := Lib.hid (decide_eq_true hin)
      clear hin
      go_wp2_with fail
      go_ret
      exact ⟨ret_bool Hd.out.symm, hB⟩
set_option maxRecDepth 100000 in
set_option maxHeartbeats 2000000 in
theorem goodS_any (n : Nat) (P B Q : ByteArray) (gv Vb : Value) (bobs : List ByteArray) (w : World) (hn : n ≤ 8) (hQ : Inv n Q) (hf : ∃ A l c, gv = .slice A l c) (hV : Strs w Vb bobs) (hr : ∀ h ∈ bobs, RowIn n h) :
    Calls Tryz.prog 200 #[.agg #[.string P, .string B, .string Q, gv], Vb] w fun e w' => e = .returned (.bool (decide (goodQ bobs Q))) ∧ Below w.heap.size w w' := by
  have Hh := Lib.hid (fun r W (hW : Below w.heap.size w W) => l1HasS_any Vb bobs r W (hV.to hW))
  have Hti := Lib.hid (fun h (hh : h ∈ bobs) W => l1Times_any h Q W (by rw [(hr h hh).1]; omega) (by rw [hQ.1.1]; omega) (row_hin (hr h hh).1 hQ.1))
  obtain ⟨A, c, rfl, h1, h2, hrd⟩ := hV
  obtain ⟨Ag, lg, cg, rfl⟩ := hf
  unfold maxLen at h2
  clear hr hQ
  go_enter Tryz.func200, Tryz.ntmps200
  go_wp2_with fail
  refine box1 (C := fun W => Code.wp _ _ _ _ W) ?_
  intro wb hw k1 hB0
  have R1 := boxRule k1
  clear k1
  go_loop [9] (fun i => ∃ k : Nat, k ≤ bobs.length ∧ i = .int .i64 k ∧ (∀ h ∈ bobs.take k, timesB h Q ∈ bobs)) (fun i => bobs.length - (intOf i).toNat)
  case atStart => exact ⟨0, by omega, rfl, by simp⟩
  case round =>
    obtain ⟨k, hk, rfl, hn⟩ := hrel
    have Hn := Lib.hid hn
    clear hn
    by_cases hlt : k < bobs.length
    · obtain ⟨ad, rfl, hC⟩ := strs_el hrd hlt
      have hC0 := hC _ hw
      have Hyes : Hid (timesB bobs[k] Q ∈ bobs → ∀ h ∈ bobs.take (k + 1), timesB h Q ∈ bobs) := Lib.hid (fun hx h hh => by
        rw [List.take_succ_eq_append_getElem hlt, List.mem_append, List.mem_singleton] at hh
        rcases hh with hh | rfl
        · exact Hn.out h hh
        · exact hx)
      have Hno : Hid (timesB bobs[k] Q ∉ bobs → ¬ goodQ bobs Q) := Lib.hid (fun hx h => hx (h _ (List.getElem_mem hlt)))
      have Ht := Lib.hid (Hti.out _ (List.getElem_mem hlt))
      obtain ⟨x, hx⟩ : ∃ x, x = bobs[k] := ⟨_, rfl⟩
      rw [← hx] at hC0 Hyes Hno Ht
      obtain ⟨y, hy⟩ : ∃ y, y = timesB x Q := ⟨_, rfl⟩
      rw [← hy] at Hyes Hno Ht
      have Hr := Lib.hid (fun W hW => Hh.out y W hW)
      clear hC hx hy
      cases hd : decide (y ∈ bobs)
      · have Hd := Lib.hid (decide_eq_false (Hno.out (of_decide_eq_false hd)))
        rw [hd] at Hr
        go_wp2_with fail
        refine (Ht.out _).mono ?_; rintro e w1 ⟨rfl, rfl⟩
        go_wp2_with fail
        refine (Hr.out _ hw).mono ?_; rintro e w2 ⟨rfl, rfl⟩
        go_wp2_with fail
        go_ret
        exact ⟨ret_bool Hd.out.symm, hw⟩
      · have Hy := Lib.hid (Hyes.out (of_decide_eq_true hd))
        rw [hd] at Hr
        go_wp2_with fail
        refine (Ht.out _).mono ?_; rintro e w1 ⟨rfl, rfl⟩
        go_wp2_with fail
        refine (Hr.out _ hw).mono ?_; rintro e w2 ⟨rfl, rfl⟩
        go_wp2_with fail
        exact ⟨⟨k + 1, by omega, by go_num, Hy.out⟩, by simp [intOf]; omega⟩
    · have Hd := Lib.hid (decide_eq_true (show goodQ bobs Q from fun h hh => Hn.out h (by rw [List.take_of_length_le (by omega)]; exact hh)))
      go_wp2_with fail
      go_ret
      exact ⟨ret_bool Hd.out.symm, hw⟩
end Go.Proofs.YtofpjbdelmmclaaGreatDoor

/- Joining rings: a plain account; the sets of a group's rows. -/
namespace Go.Proofs.YtofpjbdelmmclaaGreatDoor
open Go Go.RowKit
set_option linter.unusedVariables false
set_option linter.unusedSimpArgs false

/-- The first set that makes a count less. -/
def joinF (cnt : List ByteArray → Nat) (S : ByteArray → List ByteArray) (b : List ByteArray) : List ByteArray → Option (List ByteArray)
  | [] => none
  | h :: t => if h ∈ b then joinF cnt S b t else if cnt (addS b (S h)) < cnt b then some (addS b (S h)) else joinF cnt S b t
theorem joinF_in {cnt : List ByteArray → Nat} {S : ByteArray → List ByteArray} {b G : List ByteArray} {k : Nat} (hk : k < G.length) (h : G[k] ∈ b) : joinF cnt S b (G.drop k) = joinF cnt S b (G.drop (k + 1)) := by
  rw [List.drop_eq_getElem_cons hk, joinF, if_pos h]
theorem joinF_yes {cnt : List ByteArray → Nat} {S : ByteArray → List ByteArray} {b G : List ByteArray} {k : Nat} (hk : k < G.length) (h : G[k] ∉ b) (h2 : cnt (addS b (S G[k])) < cnt b) : joinF cnt S b (G.drop k) = some (addS b (S G[k])) := by
  rw [List.drop_eq_getElem_cons hk, joinF, if_neg h, if_pos h2]
theorem joinF_no {cnt : List ByteArray → Nat} {S : ByteArray → List ByteArray} {b G : List ByteArray} {k : Nat} (hk : k < G.length) (h : G[k] ∉ b) (h2 : ¬ cnt (addS b (S G[k])) < cnt b) : joinF cnt S b (G.drop k) = joinF cnt S b (G.drop (k + 1)) := by
  rw [List.drop_eq_getElem_cons hk, joinF, if_neg h, if_neg h2]
theorem joinF_some {cnt : List ByteArray → Nat} {S : ByteArray → List ByteArray} {b m : List ByteArray} : ∀ {G : List ByteArray}, joinF cnt S b G = some m → cnt m < cnt b ∧ ∃ h ∈ G, m = addS b (S h)
  | [], e => by cases e
  | h :: t, e => by
    rw [joinF] at e
    by_cases h1 : h ∈ b
    · rw [if_pos h1] at e
      obtain ⟨h2, x, hx, h3⟩ := joinF_some e
      exact ⟨h2, x, List.mem_cons_of_mem _ hx, h3⟩
    · rw [if_neg h1] at e
      by_cases h2 : cnt (addS b (S h)) < cnt b
      · rw [if_pos h2] at e
        injection e with e
        subst e
        exact ⟨h2, h, List.mem_cons_self .., rfl⟩
      · rw [if_neg h2] at e
        obtain ⟨h2, x, hx, h3⟩ := joinF_some e
        exact ⟨h2, x, List.mem_cons_of_mem _ hx, h3⟩
/-- Sets are joined as long as one makes the count less. -/
def joinL (cnt : List ByteArray → Nat) (S : ByteArray → List ByteArray) (G : List ByteArray) : Nat → List ByteArray → List ByteArray
  | 0, b => b
  | f + 1, b => match joinF cnt S b G with
    | none => b
    | some m => joinL cnt S G f m
theorem joinL_none {cnt : List ByteArray → Nat} {S : ByteArray → List ByteArray} {G b : List ByteArray} (h : joinF cnt S b G = none) (f : Nat) : joinL cnt S G f b = b := by
  cases f with
  | zero => rfl
  | succ f => rw [joinL, h]
theorem joinL_some {cnt : List ByteArray → Nat} {S : ByteArray → List ByteArray} {G b m : List ByteArray} (h : joinF cnt S b G = some m) {f : Nat} (hf : cnt b ≤ f) : ∃ g, cnt m ≤ g ∧ joinL cnt S G f b = joinL cnt S G g m := by
  have h1 := (joinF_some h).1
  obtain ⟨g, rfl⟩ : ∃ g, f = g + 1 := ⟨f - 1, by omega⟩
  exact ⟨g, by omega, by rw [joinL, h]⟩
theorem sl_fun {w : World} {v : Value} {n m : Nat} {xs ys : List Value} (h1 : Sl w 1 v n xs) (h2 : Sl w 1 v m ys) : xs = ys := by
  obtain ⟨A, c, rfl, _, _, r1⟩ := h1
  obtain ⟨A', c', e, _, _, r2⟩ := h2
  injection e with ea eb ec
  subst ea eb ec
  have l1 := r1.1
  have l2 := r2.1
  rcases Nat.eq_zero_or_pos n with h0 | h0
  · subst h0
    have e1 : xs = [] := List.eq_nil_of_length_eq_zero (by simpa using l1)
    have e2 : ys = [] := List.eq_nil_of_length_eq_zero (by simpa using l2)
    rw [e1, e2]
  · obtain ⟨ad, ea, _, c1⟩ := r1.2 h0
    obtain ⟨ad', ea', _, c2⟩ := r2.2 h0
    rw [ea] at ea'
    cases ea'
    apply List.ext_getElem (by omega)
    intro i h3 h4
    have a1 := c1 i _ (List.getElem?_eq_getElem h3)
    have a2 := c2 i _ (List.getElem?_eq_getElem h4)
    rw [a1] at a2
    injection a2
theorem strs_fun {w : World} {v : Value} {a b : List ByteArray} (h1 : Strs w v a) (h2 : Strs w v b) : a = b := by
  have h := sl_fun h1 h2
  exact (List.map_inj_right (fun x y e => by injection e)).1 h
theorem meas_eq {cnt : List ByteArray → Nat} {w : World} {v : Value} {b : List ByteArray} (h : Strs w v b) : Classical.epsilon (fun z : Nat => ∃ b, Strs w v b ∧ z = cnt b) = cnt b := by
  obtain ⟨b', h1, h2⟩ := Classical.epsilon_spec (p := fun z : Nat => ∃ b, Strs w v b ∧ z = cnt b) ⟨_, b, h, rfl⟩
  rw [h2, strs_fun h1 h]

/-- A good set of bobs of a group. -/
def BG (G bobs : List ByteArray) (Q : ByteArray) : Prop := InG G bobs ∧ goodQ bobs Q
theorem BG.nil (G : List ByteArray) (Q : ByteArray) : BG G [] Q := ⟨InG.nil G, good_nil Q⟩
/-- A set closed under products with a row is closed under products with its powers. -/
theorem closed_pow {n : Nat} (hn : n ≤ 8) {F : List ByteArray} {A : ByteArray} (hA : RowIn n A) (hr : ∀ y ∈ F, RowIn n y) (hF : ∀ y ∈ F, timesB y A ∈ F) : ∀ j, ∀ y ∈ F, timesB y (powB n A j) ∈ F
  | 0, y, hy => by
    show timesB y (roundsB n) ∈ F
    rw [times_rounds hn (hr y hy)]; exact hy
  | j + 1, y, hy => by
    show timesB y (timesB (powB n A j) A) ∈ F
    rw [← times_assoc y (pow_in hn hA j) hA]
    exact hF _ (closed_pow hn hA hr hF j y hy)
theorem bk_setIn {m : Mt} {k : Cl} {n T : Nat} {P B B' Q : ByteArray} (h : BK m k n T P B B' Q) {K : Nat} {x : ByteArray} (hx : x ∈ cloB n [P, B] T) : ∀ g ∈ setB n Q x K, g ∈ cloB n [P, B] T := by
  have hn := h.hn
  obtain ⟨a1, _, _⟩ := bk_all h
  have cP : ∀ y ∈ cloB n [P, B] T, timesB y P ∈ cloB n [P, B] T := fun y hy => clo_closed h.clo hy (by simp)
  have cB : ∀ y ∈ cloB n [P, B] T, timesB y B ∈ cloB n [P, B] T := fun y hy => clo_closed h.clo hy (by simp)
  obtain ⟨F, hF⟩ : ∃ F, F = cloB n [P, B] T := ⟨_, rfl⟩
  rw [← hF] at a1 cP cB hx ⊢
  obtain ⟨KB, _, hKB⟩ := ord_ex hn h.invB
  obtain ⟨J, rfl⟩ : ∃ J, KB = J + 1 := ⟨KB - 1, by have := hKB.1; omega⟩
  have hB' : B' = powB n B J := by
    apply h.invB.cancel hn h.inv.hb (pow_in hn h.invB.1 J)
    rw [h.inv.ba]
    exact hKB.2.1.symm
  have cQ : ∀ y ∈ F, timesB y Q ∈ F := fun y hy => by
    rw [h.hQ, ← times_assoc y h.invP.1 h.inv.hb, hB']
    exact closed_pow hn h.invB.1 a1 cB J _ (cP y hy)
  intro g hg
  unfold setB powL at hg
  rw [List.map_map] at hg
  obtain ⟨j, _, rfl⟩ := List.mem_map.1 hg
  exact closed_pow hn h.invQ.1 a1 cQ j x hx
theorem bg_add {m : Mt} {k : Cl} {n T : Nat} {P B B' Q : ByteArray} (h : BK m k n T P B B' Q) {K : Nat} (hK : IsOrd n Q K) {bobs : List ByteArray} {x : ByteArray} (hx : x ∈ sortB (cloB n [P, B] T)) (hb : BG (sortB (cloB n [P, B] T)) bobs Q) : BG (sortB (cloB n [P, B] T)) (addS bobs (sortB (setB n Q x K))) Q := by
  obtain ⟨h1, h2⟩ := hb
  have ha := addS_ok (sortB (setB n Q x K)) h1.2.sorted h1.2.nodup
  have hi := (bk_all h).2.2 x ((sortB_mem _ _).1 hx)
  refine ⟨⟨fun g hg => ?_, rise_of ha.1 ha.2.1⟩, addS_good h.hn h.invQ hK hi.1 h1.2.sorted h1.2.nodup h2⟩
  rcases (ha.2.2 g).1 hg with hg | hg
  · exact h1.1 g hg
  · exact (sortB_mem _ _).2 (bk_setIn h ((sortB_mem _ _).1 hx) g ((sortB_mem _ _).1 hg))
/-- All sets of bobs have their rings. -/
theorem cx_all {m : Mt} {k : Cl} {n T : Nat} {P B B' Q : ByteArray} (h : BK m k n T P B B' Q) (hF : (cloB n [P, B] T).length ≤ 130) : ∃ (RR : List ByteArray → ByteArray → Nat) (K : Nat), IsOrd n Q K ∧ K ≤ 16777216 ∧ ∀ bobs, goodQ bobs Q → CX n P B Q bobs (sortB (cloB n [P, B] T)) (RR bobs) K := by
  obtain ⟨K, hKb, hK⟩ := ord_ex h.hn h.invQ
  have hex : ∀ bobs : List ByteArray, ∃ R : ByteArray → Nat, goodQ bobs Q → CX n P B Q bobs (sortB (cloB n [P, B] T)) R K := fun bobs => by
    by_cases hg : goodQ bobs Q
    · obtain ⟨R, K', hx⟩ := cx_of h hF hg
      refine ⟨R, fun _ => { hx with ord := hK, kb := hKb }⟩
    · exact ⟨fun _ => 0, fun h => absurd h hg⟩
  obtain ⟨RR, hRR⟩ := Classical.axiomOfChoice hex
  exact ⟨RR, K, hK, hKb, hRR⟩
end Go.Proofs.YtofpjbdelmmclaaGreatDoor
