/- Bobs: rising rows of a group that hold the set of each of theirs: a plain account. -/
import Derived.Test.YtofpjbdelmmclaaGreatDoorPk24
import Derived.Test.YtofpjbdelmmclaaGreatDoorPk17
import Derived.Test.YtofpjbdelmmclaaGreatDoorPk18
import Derived.Test.YtofpjbdelmmclaaGreatDoorPk22
import Derived.Maps.Own
import Derived.Maps.OwnOps
import Derived.Maps.Views
import Derived.Maps.StringElems
import Derived.Test.YtofpjbdelmmclaaGreatDoorPk21
namespace Go.Proofs.YtofpjbdelmmclaaGreatDoor
open Go Go.RowKit
set_option linter.unusedVariables false
set_option linter.unusedSimpArgs false

/-- Rows that rise strictly, as a loop looks at them. -/
def Rise (l : List ByteArray) (k : Nat) : Prop := ∀ i (h : i < l.length), i < k → 0 < i → nmLt (l[i - 1]'(by omega)) l[i] = true
theorem Rise.zero (l : List ByteArray) : Rise l 0 := fun i h h1 => absurd h1 (by omega)
theorem Rise.one (l : List ByteArray) : Rise l 1 := fun i h h1 h2 => absurd h1 (by omega)
theorem Rise.step {l : List ByteArray} {k : Nat} (h : Rise l k) (hk : k < l.length) (e : 0 < k → nmLt (l[k - 1]'(by omega)) l[k] = true) : Rise l (k + 1) := fun i hi h1 h2 => by
  rcases Nat.lt_or_ge i k with h3 | h3
  · exact h i hi h3 h2
  · obtain rfl : i = k := by omega
    exact e h2
theorem Rise.lt {l : List ByteArray} (h : Rise l l.length) : ∀ d i (hi : i + d + 1 < l.length), nmLt (l[i]'(by omega)) l[i + d + 1] = true
  | 0, i, hi => h (i + 1) hi hi (by omega)
  | d + 1, i, hi => sl_trans (h.lt d i (by omega)) (h (i + d + 1 + 1) hi hi (by omega))
theorem Rise.pair {l : List ByteArray} (h : Rise l l.length) : l.Pairwise (fun a b => nmLt a b = true) := by
  rw [List.pairwise_iff_getElem]
  intro i j hi hj hij
  have := h.lt (j - i - 1) i (by omega)
  have e : i + (j - i - 1) + 1 = j := by omega
  simp only [e] at this
  exact this
theorem Rise.sorted {l : List ByteArray} (h : Rise l l.length) : SortedS l := h.pair.imp (fun h => sl_asym h)
theorem Rise.nodup {l : List ByteArray} (h : Rise l l.length) : l.Nodup := h.pair.imp (fun h e => by rw [e, sl_irr] at h; cases h)
theorem rise_of {l : List ByteArray} (h1 : SortedS l) (h2 : l.Nodup) : Rise l l.length := fun i hi _ h0 => by
  have a := (List.pairwise_iff_getElem.1 h1) (i - 1) i (by omega) hi (by omega)
  have b := (List.pairwise_iff_getElem.1 h2) (i - 1) i (by omega) hi (by omega)
  cases hx : nmLt (l[i - 1]'(by omega)) l[i]
  · exact absurd (sl_tot hx a) b
  · rfl
/-- Rising rows of G. -/
def InG (G bobs : List ByteArray) : Prop := (∀ h ∈ bobs, h ∈ G) ∧ Rise bobs bobs.length
theorem InG.len {G bobs : List ByteArray} (h : InG G bobs) : bobs.length ≤ G.length := nodup_le bobs G h.2.nodup h.1
theorem InG.nil (G : List ByteArray) : InG G [] := ⟨fun h hh => (by cases hh), fun i h => absurd h (Nat.not_lt_zero _)⟩
theorem good_sets {n : Nat} (hn : n ≤ 8) {bobs : List ByteArray} {Q : ByteArray} {K : Nat} (hQ : Inv n Q) (hK : IsOrd n Q K) (hr : ∀ h ∈ bobs, RowIn n h) : goodQ bobs Q ↔ ∀ h ∈ bobs, ∀ g ∈ sortB (setB n Q h K), g ∈ bobs := by
  constructor
  · intro hg h hh g hgm
    rw [sortB_mem] at hgm
    unfold setB powL at hgm
    rw [List.map_map] at hgm
    obtain ⟨j, _, rfl⟩ := List.mem_map.1 hgm
    exact good_pow hn hQ.1 hg (hr h hh) hh j
  · intro hs h hh
    apply hs h hh
    rw [sortB_mem]
    unfold setB powL
    rw [List.map_map]
    rcases Nat.lt_or_ge 1 K with h1 | h1
    · exact List.mem_map.2 ⟨1, List.mem_range.2 h1, by show timesB h (powB n Q 1) = _; rw [pow_one hn hQ.1]⟩
    · have hK1 : K = 1 := by have := hK.1; omega
      subst hK1
      refine List.mem_map.2 ⟨0, List.mem_range.2 (by omega), ?_⟩
      show timesB h (roundsB n) = _
      have e := hK.2.1
      rw [pow_one hn hQ.1] at e
      rw [e]
theorem setB_in {n : Nat} (hn : n ≤ 8) {Q h : ByteArray} {K : Nat} (hQ : RowIn n Q) (hh : RowIn n h) : ∀ x ∈ setB n Q h K, RowIn n x := by
  intro x hx
  unfold setB powL at hx
  rw [List.map_map] at hx
  obtain ⟨j, _, rfl⟩ := List.mem_map.1 hx
  exact times_in hh (pow_in hn hQ j)
theorem powB_succ' {n : Nat} (hn : n ≤ 8) {Q : ByteArray} (hQ : RowIn n Q) (j : Nat) : timesB Q (powB n Q j) = powB n Q (j + 1) := by
  have h5 := pow_add hn hQ 1 j
  rw [pow_one hn hQ, Nat.add_comm] at h5
  exact h5.symm
/-- Bobs and a set: still closed under Q. -/
theorem addS_good {n : Nat} (hn : n ≤ 8) {bobs : List ByteArray} {Q h : ByteArray} {K : Nat} (hQ : Inv n Q) (hK : IsOrd n Q K) (hh : RowIn n h) (hs : SortedS bobs) (hd : bobs.Nodup) (hg : goodQ bobs Q) : goodQ (addS bobs (sortB (setB n Q h K))) Q := by
  obtain ⟨_, _, hm⟩ := addS_ok (sortB (setB n Q h K)) hs hd
  intro x hx
  rw [hm] at hx ⊢
  rcases hx with hx | hx
  · exact .inl (hg x hx)
  · right
    rw [sortB_mem] at hx ⊢
    unfold setB powL at hx ⊢
    rw [List.map_map] at hx ⊢
    obtain ⟨j, hj, rfl⟩ := List.mem_map.1 hx
    have hj := List.mem_range.1 hj
    have e : timesB ((timesB h ∘ powB n Q) j) Q = timesB h (powB n Q (j + 1)) := by
      show timesB (timesB h (powB n Q j)) Q = _
      rw [times_assoc h (pow_in hn hQ.1 j) hQ.1]; rfl
    rw [e]
    rcases Nat.lt_or_ge (j + 1) K with h1 | h1
    · exact List.mem_map.2 ⟨j + 1, List.mem_range.2 h1, rfl⟩
    · have : j + 1 = K := by omega
      refine List.mem_map.2 ⟨0, List.mem_range.2 (by have := hK.1; omega), ?_⟩
      show timesB h (roundsB n) = _
      rw [this, hK.2.1]
end Go.Proofs.YtofpjbdelmmclaaGreatDoor

/- Contracts: the inverse of a row, both sides. -/
namespace Go.Proofs.YtofpjbdelmmclaaGreatDoor
open Go Go.RowKit
set_option linter.unusedVariables false
set_option linter.unusedSimpArgs false

theorem made_rep (z : Value) (n : Nat) : (madeCells #[z] n).toList = List.replicate n z := by
  apply List.ext_getElem?
  intro i
  simp only [madeCells, Array.toList_map, Array.toList_range, List.getElem?_map]
  by_cases hi : i < n
  · rw [List.getElem?_eq_getElem (by simpa using hi), List.getElem?_eq_getElem (by simpa using hi)]
    simp [Nat.mod_one]
  · rw [List.getElem?_eq_none (by simpa using hi), List.getElem?_eq_none (by simpa using hi)]
    rfl
/-- a and b are inverse to each other. -/
structure Inv2 (n : Nat) (a b : ByteArray) : Prop where
  hn : n ≤ 8
  ha : RowIn n a
  hb : RowIn n b
  ab : timesB a b = roundsB n
  ba : timesB b a = roundsB n
theorem inv2_of {n : Nat} (hn : n ≤ 8) {a : ByteArray} (h : Inv n a) : ∃ b, Inv2 n a b := by
  obtain ⟨ha, b, hb, h1, h2⟩ := h; exact ⟨b, hn, ha, hb, h1, h2⟩
theorem Inv2.at_ {n : Nat} {a b : ByteArray} (h : Inv2 n a b) {i : Nat} (hi : i < n) : ∃ m, m < n ∧ (a[i]'(by rw [h.ha.1]; exact hi)).toNat = m + 49 ∧ b.data.toList[m]? = some (UInt8.ofNat (49 + i)) := by
  have hia : i < a.size := by rw [h.ha.1]; exact hi
  have hat := h.ha.at_ hia
  refine ⟨a[i].toNat - 49, by omega, by omega, ?_⟩
  rcases inv_at h.hn h.ha h.ba hia with e | e
  · exact e
  · rw [h.hb.1] at e; omega
/-- When all places are written, the inverse stands there. -/
theorem Inv2.whole {n : Nat} {a b : ByteArray} (h : Inv2 n a b) {l : List UInt8} (hl : l.length = n) (hw : ∀ i, i < n → ∀ m, a.data.toList[i]?.map (fun c => c.toNat) = some (m + 49) → l[m]? = some (UInt8.ofNat (49 + i))) : ofL l = b := by
  apply bytes_ext
  rw [ofL_list]
  apply List.ext_getElem?
  intro j
  by_cases hj : j < n
  · obtain ⟨i, hi, e⟩ := inv_cover h.hn h.ha h.hb h.ab hj
    have hin : i < n := by rw [← h.ha.1]; exact hi
    obtain ⟨m, hm, e1, e2⟩ := h.at_ hin
    have hmj : m = j := by omega
    subst hmj
    rw [e2]
    refine hw i hin m ?_
    rw [List.getElem?_eq_getElem (by rw [bytes_len]; exact hi), bytes_get a i hi]
    simp only [Option.map_some, e1]
  · rw [List.getElem?_eq_none (by omega), List.getElem?_eq_none (by rw [bytes_len, h.hb.1]; omega)]
/-- Some places are written. -/
def Wr (a : ByteArray) (k : Nat) (l : List UInt8) : Prop := ∀ i, i < k → ∀ m, a.data.toList[i]?.map (fun c => c.toNat) = some (m + 49) → l[m]? = some (UInt8.ofNat (49 + i))
theorem Wr.step {n : Nat} {a b : ByteArray} (h : Inv2 n a b) {k : Nat} {l : List UInt8} (hl : l.length = n) (hk : k < n) (hw : Wr a k l) {m : Nat} (hm : m < n) (e : (a[k]'(by rw [h.ha.1]; exact hk)).toNat = m + 49) : Wr a (k + 1) (l.set m (UInt8.ofNat (49 + k))) := by
  intro i hi m' e'
  have hka : k < a.size := by rw [h.ha.1]; exact hk
  by_cases hik : i = k
  · subst hik
    rw [List.getElem?_eq_getElem (by rw [bytes_len]; exact hka), bytes_get a i hka] at e'
    simp only [Option.map_some, Option.some.injEq] at e'
    obtain rfl : m' = m := by omega
    rw [List.getElem?_set_self (by omega)]
  · have hne : m' ≠ m := by
      intro e2
      subst e2
      have hia : i < a.size := by omega
      rw [List.getElem?_eq_getElem (by rw [bytes_len]; exact hia), bytes_get a i hia] at e'
      simp only [Option.map_some, Option.some.injEq] at e'
      obtain ⟨m1, _, f1, g1⟩ := h.at_ hk
      obtain ⟨m2, _, f2, g2⟩ := h.at_ (show i < n by omega)
      have hm12 : m1 = m2 := by omega
      subst hm12
      rw [g1] at g2
      have h9 := h.hn
      have h8 := congrArg UInt8.toNat (Option.some.inj g2)
      rw [u8_49 (by omega), u8_49 (by omega)] at h8
      omega
    rw [List.getElem?_set_ne (fun e => hne e.symm)]
    exact hw i (by omega) m' e'
theorem u8v_49 {k : Nat} (hk : k < 8) : u8v (UInt8.ofNat (49 + k)) = .int .u8 ((49 : Int) + k) := by
  unfold u8v; rw [u8_49 hk]; simp
set_option maxRecDepth 10000 in
set_option maxHeartbeats 1000000 in
theorem l1Turn_any (n : Nat) (a b : ByteArray) (w : World) (h : Inv2 n a b) : Calls Tryz.prog 166 #[.string a] w fun e w' => e = .returned (.string b) ∧ Below w.heap.size w w' := by
  have H := Lib.hid h
  have hsz := h.ha.1
  have hn := h.hn
  obtain ⟨w1, C, hcv, hrow, hb1⟩ := bytes_of a n hsz w
  have Hrow := Lib.hid hrow
  have hg0 := hrow.lt
  clear h hrow
  go_enter Tryz.func166, Tryz.ntmps166
  go_wp2_with fail
  go_loopw [4] (fun i wr => ∃ k : Nat, k ≤ n ∧ i = .int .i64 ((k : Int) + 1) ∧ Below w.heap.size w wr ∧ ∃ l : List UInt8, l.length = n ∧ BRow wr w.heap.size n l ∧ Wr a k l) (fun i _ => n + 1 - (intOf i).toNat)
  case atStart => exact ⟨0, by omega, rfl, hb1, _, by rw [bytes_len]; exact hsz, Hrow.out, fun i hi => absurd hi (by omega)⟩
  case round =>
    obtain ⟨k, hk, rfl, hB, l, hl, hrow, hw⟩ := hrel
    have Hw := Lib.hid hw
    clear hw
    by_cases hlt : k < n
    · have hka : k < a.size := by rw [hsz]; exact hlt
      obtain ⟨m, hm, e1, e2⟩ := H.out.at_ hlt
      have Hst := Lib.hid (Wr.step H.out hl hlt Hw.out hm e1)
      obtain ⟨y0, hy0⟩ : ∃ y, wr.cell? ⟨w.heap.size, m, none⟩ = some (u8v y) := ⟨_, hrow.cell (j := m) (by omega)⟩
      have hf := hrow.free (j := m) hm
      have hl1 := Lib.hid (l1At_any a k wr (by rw [hsz]; unfold maxLen; omega) hka (by omega))
      have hak : (a[k].toNat : Int) - 48 = m + 1 := by omega
      rw [hak] at hl1
      have hw9 : IntKind.u8.wrap ((48 : Int) + ((k : Int) + 1)) = 48 + ((k : Int) + 1) := IntWalk.u8_in _ ⟨by omega, by omega⟩
      have hm1 : (m : Int) + 1 - 1 = m := by omega
      have Hv : Hid (Value.int .u8 (48 + ((k : Int) + 1)) = u8v (UInt8.ofNat (49 + k))) := Lib.hid (by rw [u8v_49 (by omega)]; congr 1; omega)
      have hrow2 := Lib.hid (hrow.set (j := m) hm (UInt8.ofNat (49 + k)))
      rw [← Hv.out] at hrow2
      clear e1 e2 hrow
      go_wp2_with (go_at_call 176; refine (hl1.out).mono ?_; rintro e w' ⟨rfl, rfl⟩)
      exact ⟨⟨k + 1, by omega, by go_num, grow_set hB (Nat.le_refl _) _, _, by rw [List.length_set]; exact hl, hrow2.out, Hst.out⟩, by simp [intOf]; omega⟩
    · obtain rfl : k = n := by omega
      have hcv2 := hrow.conv (cap := C) Tryz.underlying22 Tryz.underlying5 Tryz.underlying9
      have HT := Lib.hid (H.out.whole hl Hw.out)
      clear hrow
      go_wp2_with fail
      go_ret
      exact ⟨ret_str HT.out, hB⟩
end Go.Proofs.YtofpjbdelmmclaaGreatDoor

/- A map from texts to truth of the call's own; no row occurs twice: the program's. -/
namespace Go.Proofs.YtofpjbdelmmclaaGreatDoor
open Go Go.RowKit
set_option linter.unusedVariables false
set_option linter.unusedSimpArgs false

theorem keysStr : Maps.Keyed Tryz.prog 9 := Maps.string_keyed Tryz.underlying9
/-- Block b is a map from texts to truth: it says f. -/
def SM (W : World) (b n : Nat) (f : ByteArray → Bool) : Prop :=
  ∃ D : DataW Unit, W.ownsMap Tryz.prog 9 (plainElem Tryz.prog 4) b n D ∧ Maps.IsMap D ∧ ∀ s : ByteArray, D.atKey (.string s.data.toList) (.lit (.bool false)) = .lit (.bool (f s))
theorem SM.kept {W W' : World} {b n : Nat} {f : ByteArray → Bool} {row : Option Nat} (h : SM W b n f) (hg : W.grownBy W' row) (hne : some b ≠ row) : SM W' b n f := by
  obtain ⟨D, h1, h2, h3⟩ := h; exact ⟨D, h1.kept hg hne, h2, h3⟩
theorem SM.lt {W : World} {b n : Nat} {f : ByteArray → Bool} (h : SM W b n f) : b < W.heap.size := by obtain ⟨D, h1, _⟩ := h; exact h1.lt
theorem SM.to {W W' : World} {b n : Nat} {f : ByteArray → Bool} (h : SM W b n f) (hb : Below W.heap.size W W') : SM W' b n f :=
  h.kept (row := none) ⟨hb.os, hb.tape, hb.output, hb.size, fun i hi _ => hb.block i hi⟩ (by simp)
theorem SM.made (W : World) : SM (W.alloc (.map #[] 0)) W.heap.size 0 (fun _ => false) := ⟨.map [], World.ownsMap_made _ _ _ _, Maps.isMap_empty, fun _ => rfl⟩
def updF (f : ByteArray → Bool) (s : ByteArray) : ByteArray → Bool := fun x => if x = s then true else f x
theorem SM.put {W : World} {b n : Nat} {f : ByteArray → Bool} (h : SM W b n f) (hn : n < 1000000000) (t : TypeId) (ht : Tryz.prog.underlying t = some (.map 9 4)) (s : ByteArray) (hs : s.size ≤ maxLen) :
    ∃ W', (Instr.mapUpdate t (.map (some b)) (.string s) (.bool true)).run Tryz.prog W = .ok () W' ∧ SM W' b (n + 1) (updF f s) ∧ W.grownBy W' (some b) := by
  obtain ⟨D, h1, h2, h3⟩ := h
  obtain ⟨W', hr, ho, hg⟩ := h1.update keysStr ht (by unfold maxLen; omega) (WideMaps.keyOf_string_mk Tryz.underlying9 hs) (plainElem_bool Tryz.underlying4 true)
  refine ⟨W', hr, ⟨_, ho, h2.put _ _, fun x => ?_⟩, hg⟩
  unfold updF
  by_cases hc : x = s
  · subst hc
    rw [if_pos rfl]
    exact Maps.atKey_put_same h2 (by simp [WideAt.IsKeyLit]) _ _
  · rw [if_neg hc, Maps.atKey_put_other (by intro e; injection e with e; exact hc (bytes_ext e))]
    exact h3 x
theorem zeroB' (W : World) : (zeroValue 4).run Tryz.prog W = .ok (.bool false) W := by kernel_rfl
theorem plainElem_bool_inv {P : Program} {e : TypeId} (he : P.underlying e = some .bool) {v : Value} {z : DataW Unit × List MemPlace} (h : plainElem P e v = some z) : ∃ x, v = .bool x ∧ z = (.lit (.bool x), []) := by
  unfold plainElem at h
  rw [he] at h
  cases v <;> simp at h
  exact ⟨_, rfl, h.symm⟩
set_option maxRecDepth 20000 in
theorem SM.look {W : World} {b n : Nat} {f : ByteArray → Bool} (h : SM W b n f) (t : TypeId) (ht : Tryz.prog.underlying t = some (.map 9 4)) (s : ByteArray) (hs : s.size ≤ maxLen) :
    (Instr.lookup t (.map (some b)) (.string s) false).run Tryz.prog W = .ok (.bool (f s)) W := by
  obtain ⟨D, h1, h2, h3⟩ := h
  obtain ⟨v, ps, hrun, hv⟩ := h1.lookup keysStr ht (zeroB' W) (plainElem_bool Tryz.underlying4 false) (WideMaps.keyOf_string_mk Tryz.underlying9 hs)
  obtain ⟨x, rfl, hx⟩ := plainElem_bool_inv Tryz.underlying4 hv
  have h4 := (h3 s).symm.trans (Prod.mk.inj hx).1
  injection h4 with h4
  injection h4 with h4
  rw [h4]
  exact hrun
set_option maxRecDepth 20000 in
theorem upon_mkS {o : Oper} {a : Act} {K : Act → World → Prop} {Q : Exit → Act → World → Prop} {t : TypeId} {w : World} (h : ∀ w', SM w' w.heap.size 0 (fun _ => false) → Below w.heap.size w w' → K (a.put o.dst (.map (some w.heap.size))) w') :
    Oper.upon Tryz.prog o a K Q ((Sem.run Tryz.prog (Instr.makeMap t none) w).andThen fun a w' => Result.ok (Next.value a) w') := by
  have e : Sem.run Tryz.prog (Instr.makeMap t none) w = .ok (.map (some w.heap.size)) (w.alloc (.map #[] 0)) := rfl
  rw [e]
  show K _ _
  exact h _ (SM.made w) (bw_al (Below.refl _ _) _)
set_option maxRecDepth 20000 in
theorem upon_insS {o : Oper} {a : Act} {K : Act → World → Prop} {Q : Exit → Act → World → Prop} {t : TypeId} {w : World} (ht : Tryz.prog.underlying t = some (.map 9 4)) {b n : Nat} {f : ByteArray → Bool} (hm : SM w b n f) (hn : n < 1000000000)
    (s : ByteArray) (hs : s.size ≤ maxLen) (h : ∀ w', SM w' b (n + 1) (updF f s) → w.grownBy w' (some b) → K (a.put o.dst undef) w') :
    Oper.upon Tryz.prog o a K Q ((Sem.run Tryz.prog (Instr.mapUpdate t (.map (some b)) (.string s) (.bool true)) w).andThen fun _ w' => Result.ok Next.skip w') := by
  obtain ⟨w', hr, h1, h2⟩ := hm.put hn t ht s hs
  rw [hr]
  exact h w' h1 h2
theorem updF_take {l : List ByteArray} {k : Nat} {f : ByteArray → Bool} (hk : k < l.length) (h : ∀ s, f s = true ↔ s ∈ l.take k) (s : ByteArray) : updF f l[k] s = true ↔ s ∈ l.take (k + 1) := by
  unfold updF
  rw [List.take_succ_eq_append_getElem hk, List.mem_append, List.mem_singleton, ← h s]
  by_cases e : s = l[k]
  · rw [if_pos e]; simp [e]
  · rw [if_neg e]; simp [e]
theorem nd_step {l : List ByteArray} {k : Nat} (hk : k < l.length) (h : (l.take k).Nodup) (hn : l[k] ∉ l.take k) : (l.take (k + 1)).Nodup := by
  rw [List.take_succ_eq_append_getElem hk, List.nodup_append]
  exact ⟨h, by simp, fun a ha b hb e => hn (by rw [List.mem_singleton.1 hb] at e; rw [← e]; exact ha)⟩
theorem nd_no {l : List ByteArray} {k : Nat} (hk : k < l.length) (hm : l[k] ∈ l.take k) : ¬ l.Nodup := by
  intro h
  obtain ⟨i, hi, e⟩ := List.getElem_of_mem hm
  rw [List.length_take] at hi
  rw [List.getElem_take] at e
  exact (List.pairwise_iff_getElem.1 h) i k (by omega) hk (by omega) e
theorem gr_lowS {wb w w' : World} {b : Nat} (h : Below wb.heap.size wb w) (hg : w.grownBy w' (some b)) (hb : wb.heap.size ≤ b) : Below wb.heap.size wb w' := h.grown hg h.size (fun k e => by cases e; exact hb)
end Go.Proofs.YtofpjbdelmmclaaGreatDoor

/- Contracts: powers and order of a row, the rows of a plain course, both sides. -/
namespace Go.Proofs.YtofpjbdelmmclaaGreatDoor
open Go Go.RowKit
set_option linter.unusedVariables false
set_option linter.unusedSimpArgs false

def lenV : Value → Nat
  | .slice _ n _ => n
  | _ => 0
theorem eq_of_bl {x y : ByteArray} (h : (x.toList == y.toList) = true) : x = y := by
  have h := eq_of_beq h
  rw [bytes_toList, bytes_toList] at h
  exact bytes_ext h
theorem bl_of_eq {x y : ByteArray} (h : x = y) : (x.toList == y.toList) = true := by rw [h]; exact beq_self_eq_true _
theorem ord_stop {n K k : Nat} {a : ByteArray} (h : IsOrd n a K) (h1 : 1 ≤ k) (hk : k ≤ K) (e : ((powB n a k).toList == (roundsB n).toList) = true) : k = K := by
  rcases Nat.lt_or_ge k K with hl | hl
  · exact absurd (eq_of_bl e) (h.2.2 k h1 hl)
  · omega
theorem ord_go {n K k : Nat} {a : ByteArray} (h : IsOrd n a K) (hk : k ≤ K) (e : ((powB n a k).toList == (roundsB n).toList) = false) : k < K := by
  rcases Nat.lt_or_ge k K with hl | hl
  · exact hl
  · obtain rfl : k = K := by omega
    rw [bl_of_eq h.2.1] at e; cases e
theorem pow_head {n K : Nat} (a : ByteArray) (h : 1 ≤ K) : (powL n a K)[0]'(by rw [powL_len]; omega) = roundsB n := by simp [powL, powB]
set_option maxRecDepth 10000 in
set_option maxHeartbeats 2000000 in
theorem l1Order_any (a : ByteArray) (n K : Nat) (w : World) (hn : n ≤ 8) (ha : RowIn n a) (hK : IsOrd n a K) (hKb : K ≤ 16777216) : Calls Tryz.prog 173 #[.string a] w fun e w' => e = .returned (.int .i64 (K : Int)) ∧ w = w' := by
  have hsz := ha.1
  have HK := Lib.hid hK
  have hK1 := hK.1
  have h1a : Hid (a = powB n a 1) := Lib.hid (pow_one hn ha).symm
  have Htm := Lib.hid (fun k W => l1Times_any (powB n a k) a W (by rw [(pow_in hn ha k).1]; omega) (by rw [hsz]; omega) (row_hin (pow_in hn ha k).1 ha))
  clear hK ha
  go_enter Tryz.func173, Tryz.ntmps173
  go_wp2_with fail
  go_loop [3, 4] (fun o p => ∃ k : Nat, 1 ≤ k ∧ k ≤ K ∧ p = .string (powB n a k) ∧ o = .int .i64 k) (fun o _ => K - (intOf o).toNat)
  case atStart => exact ⟨1, by omega, by omega, by rw [← h1a.out], rfl⟩
  case round =>
    obtain ⟨k, h1k, hk, rfl, rfl⟩ := hrel
    have Hst := Lib.hid (ord_stop HK.out h1k hk)
    have Hgo := Lib.hid (ord_go HK.out hk)
    have Ht := Lib.hid (Htm.out k)
    have Hx : Hid (timesB (powB n a k) a = powB n a (k + 1)) := Lib.hid rfl
    obtain ⟨x, hx⟩ : ∃ x, x = powB n a k := ⟨_, rfl⟩
    rw [← hx] at Hst Hgo Ht Hx ⊢
    clear hx
    cases hb : (x.toList == (roundsB n).toList)
    · have hlt := Hgo.out hb
      go_wp2_with (first | (go_at_call 109; refine (l1Rounds_any n _ hn).mono ?_; rintro e w' ⟨rfl, rfl⟩) | (go_at_call 145; refine (Ht.out _).mono ?_; rintro e w' ⟨rfl, rfl⟩))
      exact ⟨⟨k + 1, by omega, by omega, by rw [Hx.out], by go_num⟩, by simp [intOf]; omega⟩
    · obtain rfl := Hst.out hb
      go_wp2_with (go_at_call 109; refine (l1Rounds_any n _ hn).mono ?_; rintro e w' ⟨rfl, rfl⟩)
      go_ret
      exact ⟨rfl, rfl⟩
/-- A good method, its stage, and the number of leads of its course. -/
structure MK (m : Mt) (n K : Nat) : Prop where
  ok : methB m = true
  g : MGood m n
  ord : IsOrd n (runB (roundsB n) m.l) K
  kb : K ≤ 16777216
theorem mk_of {m : Mt} (h : methB m = true) : ∃ n K, MK m n K := by
  obtain ⟨n, hg⟩ := mgood_of h
  obtain ⟨K, hb, hK⟩ := ord_ex hg.hi (run_inv hg.hi m.l (Inv.rounds hg.hi))
  exact ⟨n, K, h, hg, hK, hb⟩
def headM (m : Mt) (n : Nat) : ByteArray := runB (roundsB n) m.l
theorem MK.hin {m : Mt} {n K : Nat} (h : MK m n K) : RowIn n (runB (roundsB n) m.l) := runB_in h.g.hi _ (rounds_in h.g.hi)
def crsL (m : Mt) (n K : Nat) : List ByteArray := if K * m.l.length ≤ 800 then rowsB m.l (powL n (runB (roundsB n) m.l) K) else []
theorem rows_in {n K : Nat} {m : Mt} (h : MK m n K) : ∀ x ∈ rowsB m.l (powL n (runB (roundsB n) m.l) K), RowIn n x := by
  intro x hx
  unfold rowsB at hx
  obtain ⟨y, hy, hx⟩ := List.mem_flatMap.1 hx
  unfold powL at hy
  obtain ⟨j, _, rfl⟩ := List.mem_map.1 hy
  exact lead_in h.g.hi _ (pow_in h.g.hi h.hin j) x hx
theorem crs_len {n K : Nat} {m : Mt} (h : MK m n K) : (crsL m n K).length ≤ 800 := by
  unfold crsL
  split
  · rw [rows_len, powL_len]; assumption
  · simp
theorem own_ptr {w : World} {base : Nat} {e : TypeId} {size n c : Nat} {A : Option Addr} {xs : List Value} (h : w.ownsRow base e size (.slice A n c) n xs) (hn : 1 ≤ n) : ∃ g, A = some ⟨g, 0, none⟩ ∧ g < w.heap.size := by
  rcases h.2 with ⟨e, _⟩ | ⟨g, cap, cur, e, hb, hg, _⟩
  · injection e with _ e; omega
  · injection e with e1 e2 e3
    exact ⟨g, e1, (Array.getElem?_eq_some_iff.1 hg).1⟩
theorem own_neG {w : World} {base n G : Nat} {e : TypeId} {size : Nat} {v : Value} {xs : List Value} (h : w.ownsRow base e size v n xs) (hG : G < base ∨ w.heap.size ≤ G) : v.ownBlock = none ∨ v.ownBlock ≠ some G := by
  cases hb : v.ownBlock with
  | none => exact .inl rfl
  | some k =>
    have h1 := h.lt k hb
    refine .inr (fun e => ?_)
    injection e with e
    omega
end Go.Proofs.YtofpjbdelmmclaaGreatDoor

/- The group that rows generate: the program's. -/
namespace Go.Proofs.YtofpjbdelmmclaaGreatDoor
open Go Go.RowKit
set_option linter.unusedVariables false
set_option linter.unusedSimpArgs false

def grpL (F : List ByteArray) : List ByteArray := if F.length ≤ 130 then sortB F else []
theorem grpL_yes {F : List ByteArray} (h : F.length ≤ 130) : grpL F = sortB F := by unfold grpL; rw [if_pos h]
theorem grpL_no {F : List ByteArray} (h : ¬ F.length ≤ 130) : grpL F = [] := by unfold grpL; rw [if_neg h]
theorem part_get {n : Nat} {gens : List ByteArray} {t : Nat} (h : t < (cloB n gens t).length) (j : Nat) (y : ByteArray) : (partB n gens t j y)[t]? = some (cloB n gens t)[t] := by
  obtain ⟨r, hr⟩ := exp_pre y (gens.take j) (cloB n gens t)
  unfold partB
  rw [← hr, List.getElem?_append_left h, List.getElem?_eq_getElem h]
theorem updF_app {L : List ByteArray} {x : ByteArray} {f : ByteArray → Bool} (h : ∀ s, f s = true ↔ s ∈ L) (s : ByteArray) : updF f x s = true ↔ s ∈ L ++ [x] := by
  unfold updF
  rw [List.mem_append, List.mem_singleton, ← h s]
  by_cases e : s = x
  · rw [if_pos e]; simp [e]
  · rw [if_neg e]; simp [e]
end Go.Proofs.YtofpjbdelmmclaaGreatDoor
