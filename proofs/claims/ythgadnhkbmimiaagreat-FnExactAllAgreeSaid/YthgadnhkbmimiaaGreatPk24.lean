/- Contracts: the inverse of a row, both sides. -/
import Derived.Test.YthgadnhkbmimiaaGreatPk8
import Derived.Test.YthgadnhkbmimiaaGreatPk18
namespace Go.Proofs.YthgadnhkbmimiaaGreat
open Go Go.RowKit
set_option linter.unusedVariables false
set_option linter.unusedSimpArgs false

theorem made_rep (z : Value) (n : Nat) : (madeCells #[z] n).toList = List.replicate n z := by
  apply List.ext_getElem?
  intro i
  simp only [madeCells, Array.toList_map, Array.toList_range, List.getElem?_map]
  by_cases hi : i < n
  · rw [List.getElem?_eq_getElem (by simpa using hi), List.getElem?_eq_getElem (by simpa using hi)]
    simp [Nat.mod_one]
  · rw [List.getElem?_eq_none (by simpa using hi), List.getElem?_eq_none (by simpa using hi)]
    rfl
/-- a and b are inverse to each other. -/
structure Inv2 (n : Nat) (a b : ByteArray) : Prop where
  hn : n ≤ 8
  ha : RowIn n a
  hb : RowIn n b
  ab : timesB a b = roundsB n
  ba : timesB b a = roundsB n
theorem inv2_of {n : Nat} (hn : n ≤ 8) {a : ByteArray} (h : Inv n a) : ∃ b, Inv2 n a b := by
  obtain ⟨ha, b, hb, h1, h2⟩ := h; exact ⟨b, hn, ha, hb, h1, h2⟩
theorem Inv2.at_ {n : Nat} {a b : ByteArray} (h : Inv2 n a b) {i : Nat} (hi : i < n) : ∃ m, m < n ∧ (a[i]'(by rw [h.ha.1]; exact hi)).toNat = m + 49 ∧ b.data.toList[m]? = some (UInt8.ofNat (49 + i)) := by
  have hia : i < a.size := by rw [h.ha.1]; exact hi
  have hat := h.ha.at_ hia
  refine ⟨a[i].toNat - 49, by omega, by omega, ?_⟩
  rcases inv_at h.hn h.ha h.ba hia with e | e
  · exact e
  · rw [h.hb.1] at e; omega
/-- When all places are written, the inverse stands there. -/
theorem Inv2.whole {n : Nat} {a b : ByteArray} (h : Inv2 n a b) {l : List UInt8} (hl : l.length = n) (hw : ∀ i, i < n → ∀ m, a.data.toList[i]?.map (fun c => c.toNat) = some (m + 49) → l[m]? = some (UInt8.ofNat (49 + i))) : ofL l = b := by
  apply bytes_ext
  rw [ofL_list]
  apply List.ext_getElem?
  intro j
  by_cases hj : j < n
  · obtain ⟨i, hi, e⟩ := inv_cover h.hn h.ha h.hb h.ab hj
    have hin : i < n := by rw [← h.ha.1]; exact hi
    obtain ⟨m, hm, e1, e2⟩ := h.at_ hin
    have hmj : m = j := by omega
    subst hmj
    rw [e2]
    refine hw i hin m ?_
    rw [List.getElem?_eq_getElem (by rw [bytes_len]; exact hi), bytes_get a i hi]
    simp only [Option.map_some, e1]
  · rw [List.getElem?_eq_none (by omega), List.getElem?_eq_none (by rw [bytes_len, h.hb.1]; omega)]
/-- Some places are written. -/
def Wr (a : ByteArray) (k : Nat) (l : List UInt8) : Prop := ∀ i, i < k → ∀ m, a.data.toList[i]?.map (fun c => c.toNat) = some (m + 49) → l[m]? = some (UInt8.ofNat (49 + i))
theorem Wr.step {n : Nat} {a b : ByteArray} (h : Inv2 n a b) {k : Nat} {l : List UInt8} (hl : l.length = n) (hk : k < n) (hw : Wr a k l) {m : Nat} (hm : m < n) (e : (a[k]'(by rw [h.ha.1]; exact hk)).toNat = m + 49) : Wr a (k + 1) (l.set m (UInt8.ofNat (49 + k))) := by
  intro i hi m' e'
  have hka : k < a.size := by rw [h.ha.1]; exact hk
  by_cases hik : i = k
  · subst hik
    rw [List.getElem?_eq_getElem (by rw [bytes_len]; exact hka), bytes_get a i hka] at e'
    simp only [Option.map_some, Option.some.injEq] at e'
    obtain rfl : m' = m := by omega
    rw [List.getElem?_set_self (by omega)]
  · have hne : m' ≠ m := by
      intro e2
      subst e2
      have hia : i < a.size := by omega
      rw [List.getElem?_eq_getElem (by rw [bytes_len]; exact hia), bytes_get a i hia] at e'
      simp only [Option.map_some, Option.some.injEq] at e'
      obtain ⟨m1, _, f1, g1⟩ := h.at_ hk
      obtain ⟨m2, _, f2, g2⟩ := h.at_ (show i < n by omega)
      have hm12 : m1 = m2 := by omega
      subst hm12
      rw [g1] at g2
      have h9 := h.hn
      have h8 := congrArg UInt8.toNat (Option.some.inj g2)
      rw [u8_49 (by omega), u8_49 (by omega)] at h8
      omega
    rw [List.getElem?_set_ne (fun e => hne e.symm)]
    exact hw i (by omega) m' e'
theorem u8v_49 {k : Nat} (hk : k < 8) : u8v (UInt8.ofNat (49 + k)) = .int .u8 ((49 : Int) + k) := by
  unfold u8v; rw [u8_49 hk]; simp
set_option maxRecDepth 10000 in
set_option maxHeartbeats 1000000 in
theorem turned_any (n : Nat) (a b : ByteArray) (w : World) (h : Inv2 n a b) : Calls Tryz.prog 117 #[.string a] w fun e w' => e = .returned (.string b) ∧ Below w.heap.size w w' := by
  obtain ⟨i0, hi0, hz0, hs0, hb0⟩ := info_parts info_u8
  have H := Lib.hid h
  have hsz := h.ha.1
  have hn := h.hn
  clear h
  go_enter Tryz.func117, Tryz.ntmps117
  go_wp2_with (at_make; refine wpList_make_full _ rfl _ _ _ rfl w.heap.size 5 i0 _ 1 Tryz.underlying100 hi0 hz0 hs0 _ _ _ _ n rfl rfl rfl rfl (by rw [hb0]; omega) (by unfold maxLen; omega) (Nat.le_refl _) ?_; intro w1 hown1 hgr1)
  have hB1 := bw_gr (Below.refl _ _) hgr1
  go_loopw [10] (fun i wr => ∃ k : Nat, k ≤ n ∧ i = .int .i64 k ∧ Below w.heap.size w wr ∧ ∃ l : List UInt8, l.length = n ∧ wr.ownsRow w.heap.size 5 1 (.slice (some ⟨w.heap.size, 0, none⟩) n n) n (l.map u8v) ∧ Wr a k l) (fun i _ => n - (intOf i).toNat)
  case atStart => exact ⟨0, by omega, rfl, hB1, List.replicate n 0, by simp, by rw [List.map_replicate, ← made_rep]; rw [Nat.mul_one] at hown1; exact hown1, fun i hi => absurd hi (by omega)⟩
  case round =>
    obtain ⟨k, hk, rfl, hB, l, hl, hown, hw⟩ := hrel
    have Hw := Lib.hid hw
    clear hw
    by_cases hlt : k < n
    · have hka : k < a.size := by rw [hsz]; exact hlt
      obtain ⟨m, hm, e1, e2⟩ := H.out.at_ hlt
      have Hst := Lib.hid (Wr.step H.out hl hlt Hw.out hm e1)
      obtain ⟨y0, hy0⟩ := own_some hown (j := m) (by omega)
      have hf := hown.frozenAt m
      have hak : (a[k].toNat : Int) = m + 49 := by omega
      have hw8 : IntKind.u8.wrap ((m : Int) + 49 - 49) = m := by rw [IntWalk.u8_in _ ⟨by omega, by omega⟩]; omega
      have hw9 : IntKind.u8.wrap ((49 : Int) + k) = 49 + k := IntWalk.u8_in _ ⟨by omega, by omega⟩
      have Hv := Lib.hid (u8v_49 (k := k) (by omega))
      clear e1 e2
      go_wp2_with fail
      have ho := own_set hown m (u8v (UInt8.ofNat (49 + k)))
      rw [← List.map_set, Hv.out] at ho
      exact ⟨⟨k + 1, by omega, by go_num, grow_set hB (Nat.le_refl _) _, _, by rw [List.length_set]; exact hl, ho, Hst.out⟩, by simp [intOf]; omega⟩
    · obtain rfl : k = n := by omega
      have hcv := conv_back Tryz.underlying100 Tryz.underlying5 Tryz.underlying9 hown rfl hl
      have HT := Lib.hid (H.out.whole hl Hw.out)
      go_wp2_with fail
      go_ret
      exact ⟨ret_str HT.out, hB⟩
set_option maxRecDepth 10000 in
set_option maxHeartbeats 1000000 in
theorem l1Turn_any (n : Nat) (a b : ByteArray) (w : World) (h : Inv2 n a b) : Calls Tryz.prog 114 #[.string a] w fun e w' => e = .returned (.string b) ∧ Below w.heap.size w w' := by
  have H := Lib.hid h
  have hsz := h.ha.1
  have hn := h.hn
  obtain ⟨w1, C, hcv, hrow, hb1⟩ := bytes_of a n hsz w
  have Hrow := Lib.hid hrow
  have hg0 := hrow.lt
  clear h hrow
  go_enter Tryz.func114, Tryz.ntmps114
  go_wp2_with fail
  go_loopw [4] (fun i wr => ∃ k : Nat, k ≤ n ∧ i = .int .i64 ((k : Int) + 1) ∧ Below w.heap.size w wr ∧ ∃ l : List UInt8, l.length = n ∧ BRow wr w.heap.size n l ∧ Wr a k l) (fun i _ => n + 1 - (intOf i).toNat)
  case atStart => exact ⟨0, by omega, rfl, hb1, _, by rw [bytes_len]; exact hsz, Hrow.out, fun i hi => absurd hi (by omega)⟩
  case round =>
    obtain ⟨k, hk, rfl, hB, l, hl, hrow, hw⟩ := hrel
    have Hw := Lib.hid hw
    clear hw
    by_cases hlt : k < n
    · have hka : k < a.size := by rw [hsz]; exact hlt
      obtain ⟨m, hm, e1, e2⟩ := H.out.at_ hlt
      have Hst := Lib.hid (Wr.step H.out hl hlt Hw.out hm e1)
      obtain ⟨y0, hy0⟩ : ∃ y, wr.cell? ⟨w.heap.size, m, none⟩ = some (u8v y) := ⟨_, hrow.cell (j := m) (by omega)⟩
      have hf := hrow.free (j := m) hm
      have hl1 := Lib.hid (l1At_any a k wr (by rw [hsz]; unfold maxLen; omega) hka (by omega))
      have hak : (a[k].toNat : Int) - 48 = m + 1 := by omega
      rw [hak] at hl1
      have hw9 : IntKind.u8.wrap ((48 : Int) + ((k : Int) + 1)) = 48 + ((k : Int) + 1) := IntWalk.u8_in _ ⟨by omega, by omega⟩
      have hm1 : (m : Int) + 1 - 1 = m := by omega
      have Hv : Hid (Value.int .u8 (48 + ((k : Int) + 1)) = u8v (UInt8.ofNat (49 + k))) := Lib.hid (by rw [u8v_49 (by omega)]; congr 1; omega)
      have hrow2 := Lib.hid (hrow.set (j := m) hm (UInt8.ofNat (49 + k)))
      rw [← Hv.out] at hrow2
      clear e1 e2 hrow
      go_wp2_with (go_at_call 71; refine (hl1.out).mono ?_; rintro e w' ⟨rfl, rfl⟩)
      exact ⟨⟨k + 1, by omega, by go_num, grow_set hB (Nat.le_refl _) _, _, by rw [List.length_set]; exact hl, hrow2.out, Hst.out⟩, by simp [intOf]; omega⟩
    · obtain rfl : k = n := by omega
      have hcv2 := hrow.conv (cap := C) Tryz.underlying100 Tryz.underlying5 Tryz.underlying9
      have HT := Lib.hid (H.out.whole hl Hw.out)
      clear hrow
      go_wp2_with fail
      go_ret
      exact ⟨ret_str HT.out, hB⟩
end Go.Proofs.YthgadnhkbmimiaaGreat
