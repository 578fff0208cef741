/- Contracts: the inverse of a row, both sides. -/
import Derived.Test.YtjiiflpoiaaccaaGreatPk6
import Derived.Test.YtjiiflpoiaaccaaGreatPk14
import Derived.Test.YtjiiflpoiaaccaaGreatPk11
import Derived.Test.YtjiiflpoiaaccaaGreatPk9
import Derived.Test.YtjiiflpoiaaccaaGreatPk17
import Derived.Test.YtjiiflpoiaaccaaGreatPk12
import Derived.Maps.Own
import Derived.Maps.OwnOps
import Derived.Maps.Views
import Derived.Maps.StringElems
namespace Go.Proofs.YtjiiflpoiaaccaaGreat
open Go Go.RowKit
set_option linter.unusedVariables false
set_option linter.unusedSimpArgs false

theorem made_rep (z : Value) (n : Nat) : (madeCells #[z] n).toList = List.replicate n z := by
  apply List.ext_getElem?
  intro i
  simp only [madeCells, Array.toList_map, Array.toList_range, List.getElem?_map]
  by_cases hi : i < n
  · rw [List.getElem?_eq_getElem (by simpa using hi), List.getElem?_eq_getElem (by simpa using hi)]
    simp [Nat.mod_one]
  · rw [List.getElem?_eq_none (by simpa using hi), List.getElem?_eq_none (by simpa using hi)]
    rfl
/-- a and b are inverse to each other. -/
structure Inv2 (n : Nat) (a b : ByteArray) : Prop where
  hn : n ≤ 8
  ha : RowIn n a
  hb : RowIn n b
  ab : timesB a b = roundsB n
  ba : timesB b a = roundsB n
theorem inv2_of {n : Nat} (hn : n ≤ 8) {a : ByteArray} (h : Inv n a) : ∃ b, Inv2 n a b := by
  obtain ⟨ha, b, hb, h1, h2⟩ := h; exact ⟨b, hn, ha, hb, h1, h2⟩
theorem Inv2.at_ {n : Nat} {a b : ByteArray} (h : Inv2 n a b) {i : Nat} (hi : i < n) : ∃ m, m < n ∧ (a[i]'(by rw [h.ha.1]; exact hi)).toNat = m + 49 ∧ b.data.toList[m]? = some (UInt8.ofNat (49 + i)) := by
  have hia : i < a.size := by rw [h.ha.1]; exact hi
  have hat := h.ha.at_ hia
  refine ⟨a[i].toNat - 49, by omega, by omega, ?_⟩
  rcases inv_at h.hn h.ha h.ba hia with e | e
  · exact e
  · rw [h.hb.1] at e; omega
/-- When all places are written, the inverse stands there. -/
theorem Inv2.whole {n : Nat} {a b : ByteArray} (h : Inv2 n a b) {l : List UInt8} (hl : l.length = n) (hw : ∀ i, i < n → ∀ m, a.data.toList[i]?.map (fun c => c.toNat) = some (m + 49) → l[m]? = some (UInt8.ofNat (49 + i))) : ofL l = b := by
  apply bytes_ext
  rw [ofL_list]
  apply List.ext_getElem?
  intro j
  by_cases hj : j < n
  · obtain ⟨i, hi, e⟩ := inv_cover h.hn h.ha h.hb h.ab hj
    have hin : i < n := by rw [← h.ha.1]; exact hi
    obtain ⟨m, hm, e1, e2⟩ := h.at_ hin
    have hmj : m = j := by omega
    subst hmj
    rw [e2]
    refine hw i hin m ?_
    rw [List.getElem?_eq_getElem (by rw [bytes_len]; exact hi), bytes_get a i hi]
    simp only [Option.map_some, e1]
  · rw [List.getElem?_eq_none (by omega), List.getElem?_eq_none (by rw [bytes_len, h.hb.1]; omega)]
/-- Some places are written. -/
def Wr (a : ByteArray) (k : Nat) (l : List UInt8) : Prop := ∀ i, i < k → ∀ m, a.data.toList[i]?.map (fun c => c.toNat) = some (m + 49) → l[m]? = some (UInt8.ofNat (49 + i))
theorem Wr.step {n : Nat} {a b : ByteArray} (h : Inv2 n a b) {k : Nat} {l : List UInt8} (hl : l.length = n) (hk : k < n) (hw : Wr a k l) {m : Nat} (hm : m < n) (e : (a[k]'(by rw [h.ha.1]; exact hk)).toNat = m + 49) : Wr a (k + 1) (l.set m (UInt8.ofNat (49 + k))) := by
  intro i hi m' e'
  have hka : k < a.size := by rw [h.ha.1]; exact hk
  by_cases hik : i = k
  · subst hik
    rw [List.getElem?_eq_getElem (by rw [bytes_len]; exact hka), bytes_get a i hka] at e'
    simp only [Option.map_some, Option.some.injEq] at e'
    obtain rfl : m' = m := by omega
    rw [List.getElem?_set_self (by omega)]
  · have hne : m' ≠ m := by
      intro e2
      subst e2
      have hia : i < a.size := by omega
      rw [List.getElem?_eq_getElem (by rw [bytes_len]; exact hia), bytes_get a i hia] at e'
      simp only [Option.map_some, Option.some.injEq] at e'
      obtain ⟨m1, _, f1, g1⟩ := h.at_ hk
      obtain ⟨m2, _, f2, g2⟩ := h.at_ (show i < n by omega)
      have hm12 : m1 = m2 := by omega
      subst hm12
      rw [g1] at g2
      have h9 := h.hn
      have h8 := congrArg UInt8.toNat (Option.some.inj g2)
      rw [u8_49 (by omega), u8_49 (by omega)] at h8
      omega
    rw [List.getElem?_set_ne (fun e => hne e.symm)]
    exact hw i (by omega) m' e'
theorem u8v_49 {k : Nat} (hk : k < 8) : u8v (UInt8.ofNat (49 + k)) = .int .u8 ((49 : Int) + k) := by
  unfold u8v; rw [u8_49 hk]; simp
set_option maxRecDepth 10000 in
set_option maxHeartbeats 1000000 in
theorem turned_any (n : Nat) (a b : ByteArray) (w : World) (h : Inv2 n a b) : Calls Tryz.prog 245 #[.string a] w fun e w' => e = .returned (.string b) ∧ Below w.heap.size w w' := by
  obtain ⟨i0, hi0, hz0, hs0, hb0⟩ := info_parts info_u8
  have H := Lib.hid h
  have hsz := h.ha.1
  have hn := h.hn
  clear h
  go_enter Tryz.func245, Tryz.ntmps245
  go_wp2_with (at_make; refine wpList_make_full _ rfl _ _ _ rfl w.heap.size 5 i0 _ 1 Tryz.underlying37 hi0 hz0 hs0 _ _ _ _ n rfl rfl rfl rfl (by rw [hb0]; omega) (by unfold maxLen; omega) (Nat.le_refl _) ?_; intro w1 hown1 hgr1)
  have hB1 := bw_gr (Below.refl _ _) hgr1
  go_loopw [10] (fun i wr => ∃ k : Nat, k ≤ n ∧ i = .int .i64 k ∧ Below w.heap.size w wr ∧ ∃ l : List UInt8, l.length = n ∧ wr.ownsRow w.heap.size 5 1 (.slice (some ⟨w.heap.size, 0, none⟩) n n) n (l.map u8v) ∧ Wr a k l) (fun i _ => n - (intOf i).toNat)
  case atStart => exact ⟨0, by omega, rfl, hB1, List.replicate n 0, by simp, by rw [List.map_replicate, ← made_rep]; rw [Nat.mul_one] at hown1; exact hown1, fun i hi => absurd hi (by omega)⟩
  case round =>
    obtain ⟨k, hk, rfl, hB, l, hl, hown, hw⟩ := hrel
    have Hw := Lib.hid hw
    clear hw
    by_cases hlt : k < n
    · have hka : k < a.size := by rw [hsz]; exact hlt
      obtain ⟨m, hm, e1, e2⟩ := H.out.at_ hlt
      have Hst := Lib.hid (Wr.step H.out hl hlt Hw.out hm e1)
      obtain ⟨y0, hy0⟩ := own_some hown (j := m) (by omega)
      have hf := hown.frozenAt m
      have hak : (a[k].toNat : Int) = m + 49 := by omega
      have hw8 : IntKind.u8.wrap ((m : Int) + 49 - 49) = m := by rw [IntWalk.u8_in _ ⟨by omega, by omega⟩]; omega
      have hw9 : IntKind.u8.wrap ((49 : Int) + k) = 49 + k := IntWalk.u8_in _ ⟨by omega, by omega⟩
      have Hv := Lib.hid (u8v_49 (k := k) (by omega))
      clear e1 e2
      go_wp2_with fail
      have ho := own_set hown m (u8v (UInt8.ofNat (49 + k)))
      rw [← List.map_set, Hv.out] at ho
      exact ⟨⟨k + 1, by omega, by go_num, grow_set hB (Nat.le_refl _) _, _, by rw [List.length_set]; exact hl, ho, Hst.out⟩, by simp [intOf]; omega⟩
    · obtain rfl : k = n := by omega
      have hcv := conv_back Tryz.underlying37 Tryz.underlying5 Tryz.underlying9 hown rfl hl
      have HT := Lib.hid (H.out.whole hl Hw.out)
      go_wp2_with fail
      go_ret
      exact ⟨ret_str HT.out, hB⟩
set_option maxRecDepth 10000 in
set_option maxHeartbeats 1000000 in
theorem l1Turn_any (n : Nat) (a b : ByteArray) (w : World) (h : Inv2 n a b) : Calls Tryz.prog 250 #[.string a] w fun e w' => e = .returned (.string b) ∧ Below w.heap.size w w' := by
  have H := Lib.hid h
  have hsz := h.ha.1
  have hn := h.hn
  obtain ⟨w1, C, hcv, hrow, hb1⟩ := bytes_of a n hsz w
  have Hrow := Lib.hid hrow
  have hg0 := hrow.lt
  clear h hrow
  go_enter Tryz.func250, Tryz.ntmps250
  go_wp2_with fail
  go_loopw [4] (fun i wr => ∃ k : Nat, k ≤ n ∧ i = .int .i64 ((k : Int) + 1) ∧ Below w.heap.size w wr ∧ ∃ l : List UInt8, l.length = n ∧ BRow wr w.heap.size n l ∧ Wr a k l) (fun i _ => n + 1 - (intOf i).toNat)
  case atStart => exact ⟨0, by omega, rfl, hb1, _, by rw [bytes_len]; exact hsz, Hrow.out, fun i hi => absurd hi (by omega)⟩
  case round =>
    obtain ⟨k, hk, rfl, hB, l, hl, hrow, hw⟩ := hrel
    have Hw := Lib.hid hw
    clear hw
    by_cases hlt : k < n
    · have hka : k < a.size := by rw [hsz]; exact hlt
      obtain ⟨m, hm, e1, e2⟩ := H.out.at_ hlt
      have Hst := Lib.hid (Wr.step H.out hl hlt Hw.out hm e1)
      obtain ⟨y0, hy0⟩ : ∃ y, wr.cell? ⟨w.heap.size, m, none⟩ = some (u8v y) := ⟨_, hrow.cell (j := m) (by omega)⟩
      have hf := hrow.free (j := m) hm
      have hl1 := Lib.hid (l1At_any a k wr (by rw [hsz]; unfold maxLen; omega) hka (by omega))
      have hak : (a[k].toNat : Int) - 48 = m + 1 := by omega
      rw [hak] at hl1
      have hw9 : IntKind.u8.wrap ((48 : Int) + ((k : Int) + 1)) = 48 + ((k : Int) + 1) := IntWalk.u8_in _ ⟨by omega, by omega⟩
      have hm1 : (m : Int) + 1 - 1 = m := by omega
      have Hv : Hid (Value.int .u8 (48 + ((k : Int) + 1)) = u8v (UInt8.ofNat (49 + k))) := Lib.hid (by rw [u8v_49 (by omega)]; congr 1; omega)
      have hrow2 := Lib.hid (hrow.set (j := m) hm (UInt8.ofNat (49 + k)))
      rw [← Hv.out] at hrow2
      clear e1 e2 hrow
      go_wp2_with (go_at_call 191; refine (hl1.out).mono ?_; rintro e w' ⟨rfl, rfl⟩)
      exact ⟨⟨k + 1, by omega, by go_num, grow_set hB (Nat.le_refl _) _, _, by rw [List.length_set]; exact hl, hrow2.out, Hst.out⟩, by simp [intOf]; omega⟩
    · obtain rfl : k = n := by omega
      have hcv2 := hrow.conv (cap := C) Tryz.underlying37 Tryz.underlying5 Tryz.underlying9
      have HT := Lib.hid (H.out.whole hl Hw.out)
      clear hrow
      go_wp2_with fail
      go_ret
      exact ⟨ret_str HT.out, hB⟩
end Go.Proofs.YtjiiflpoiaaccaaGreat

/- Contracts: powers and order of a row, the rows of a plain course, both sides. -/
namespace Go.Proofs.YtjiiflpoiaaccaaGreat
open Go Go.RowKit
set_option linter.unusedVariables false
set_option linter.unusedSimpArgs false

def lenV : Value → Nat
  | .slice _ n _ => n
  | _ => 0
theorem eq_of_bl {x y : ByteArray} (h : (x.toList == y.toList) = true) : x = y := by
  have h := eq_of_beq h
  rw [bytes_toList, bytes_toList] at h
  exact bytes_ext h
theorem bl_of_eq {x y : ByteArray} (h : x = y) : (x.toList == y.toList) = true := by rw [h]; exact beq_self_eq_true _
theorem ord_stop {n K k : Nat} {a : ByteArray} (h : IsOrd n a K) (h1 : 1 ≤ k) (hk : k ≤ K) (e : ((powB n a k).toList == (roundsB n).toList) = true) : k = K := by
  rcases Nat.lt_or_ge k K with hl | hl
  · exact absurd (eq_of_bl e) (h.2.2 k h1 hl)
  · omega
theorem ord_go {n K k : Nat} {a : ByteArray} (h : IsOrd n a K) (hk : k ≤ K) (e : ((powB n a k).toList == (roundsB n).toList) = false) : k < K := by
  rcases Nat.lt_or_ge k K with hl | hl
  · exact hl
  · obtain rfl : k = K := by omega
    rw [bl_of_eq h.2.1] at e; cases e
theorem pow_head {n K : Nat} (a : ByteArray) (h : 1 ≤ K) : (powL n a K)[0]'(by rw [powL_len]; omega) = roundsB n := by simp [powL, powB]
set_option maxRecDepth 10000 in
set_option maxHeartbeats 2000000 in
theorem powers_any (a : ByteArray) (n K : Nat) (w : World) (hn : n ≤ 8) (ha : RowIn n a) (hK : IsOrd n a K) (hKb : K ≤ 16777216) : Calls Tryz.prog 167 #[.string a] w fun e w' =>
    ∃ A q, e = .returned (.slice A K q) ∧ w'.ownsRow w.heap.size 9 1 (.slice A K q) K ((powL n a K).map Value.string) ∧ Below w.heap.size w w' := by
  have hsz := ha.1
  have HK := Lib.hid hK
  have Ha := Lib.hid ha
  have hK1 := hK.1
  have h1a : Hid (a = powB n a 1) := Lib.hid (pow_one hn ha).symm
  have Htm := Lib.hid (fun k W => times_any (powB n a k) a W (by rw [(pow_in hn ha k).1]; omega) (by rw [hsz]; omega) (row_hin (pow_in hn ha k).1 ha))
  clear hK ha
  go_enter Tryz.func167, Tryz.ntmps167
  go_wp2_with (go_at_call 195; refine (rounds_any n _ hn).mono ?_; rintro e w' ⟨rfl, rfl⟩)
  refine box1 (C := fun W => Code.wp _ _ _ _ W) ?_
  intro wb hw k1 hB0
  have hown0 : wb.ownsRow w.heap.size 9 1 (.slice (some ⟨w.heap.size, 0, none⟩) 1 1) 1 [.string (roundsB n)] := own_of_heap k1 (Nat.le_refl _) (by unfold maxLen; omega) rfl
  clear k1
  go_loopw [3, 4] (fun o p wr => ∃ (k : Nat) (A' : Option Addr) (q' : Nat), 1 ≤ k ∧ k ≤ K ∧ p = .string (powB n a k) ∧ o = .slice A' k q' ∧ wr.ownsRow w.heap.size 9 1 (.slice A' k q') k ((powL n a k).map Value.string) ∧ Below w.heap.size w wr) (fun o _ _ => K - lenV o)
  case atStart => exact ⟨1, _, 1, by omega, by omega, by rw [← h1a.out], rfl, hown0, hw⟩
  case round =>
    obtain ⟨k, A', q', h1k, hk, rfl, rfl, hown, hB⟩ := hrel
    have hS := sl_of_own hown
    obtain ⟨A2, c2, e2, _, _, hrd⟩ := hS
    injection e2 with ea eb ec
    subst ea ec
    obtain ⟨ad, rfl, hC⟩ := strs_el (k := 0) hrd (by rw [powL_len]; omega)
    have hC0 := hC _ (Below.refl _ _)
    rw [pow_head a h1k] at hC0
    have hC1 := hC0
    rw [add_zero'] at hC1
    have Hst := Lib.hid (ord_stop HK.out h1k hk)
    have Hgo := Lib.hid (ord_go HK.out hk)
    have Hs : Hid (powL n a (k + 1) = powL n a k ++ [powB n a k]) := Lib.hid (powL_succ n a k)
    have Ht := Lib.hid (Htm.out k)
    have Hx : Hid (timesB (powB n a k) a = powB n a (k + 1)) := Lib.hid rfl
    obtain ⟨x, hx⟩ : ∃ x, x = powB n a k := ⟨_, rfl⟩
    rw [← hx] at Hst Hgo Hs Ht Hx ⊢
    clear hC hrd hx
    cases hb : (x.toList == (roundsB n).toList)
    · have hlt := Hgo.out hb
      go_wp2_with (at_builtin; go_must (refine wpList_app _ rfl _ _ _ rfl w.heap.size 9 _ 1 16 Tryz.underlying22 info_str rfl (by omega) hown [.string x] rfl rfl rfl (one_mem rfl) (by omega) (by omega) hB.size ?_); intro v2 w3 hown3 hb3 hg3 _)
      refine (Ht.out _).mono ?_; rintro e w2 ⟨rfl, hb2⟩
      have hown4 := own_to hown3 hb2
      obtain ⟨A2, q2, e2, _⟩ := sl_of_own hown4
      subst e2
      rw [str_snoc Hs.out] at hown4
      have hB4 := bw_to (hB.trans hb3) hb2
      clear hown hown3
      go_wp2_with fail
      exact ⟨⟨k + 1, A2, q2, by omega, by omega, by rw [Hx.out], rfl, hown4, hB4⟩, by simp [lenV]; omega⟩
    · obtain rfl := Hst.out hb
      go_wp2_with fail
      go_ret
      exact ⟨_, _, rfl, hown, hB⟩
set_option maxRecDepth 10000 in
set_option maxHeartbeats 2000000 in
theorem l1Order_any (a : ByteArray) (n K : Nat) (w : World) (hn : n ≤ 8) (ha : RowIn n a) (hK : IsOrd n a K) (hKb : K ≤ 16777216) : Calls Tryz.prog 255 #[.string a] w fun e w' => e = .returned (.int .i64 (K : Int)) ∧ w = w' := by
  have hsz := ha.1
  have HK := Lib.hid hK
  have hK1 := hK.1
  have h1a : Hid (a = powB n a 1) := Lib.hid (pow_one hn ha).symm
  have Htm := Lib.hid (fun k W => l1Times_any (powB n a k) a W (by rw [(pow_in hn ha k).1]; omega) (by rw [hsz]; omega) (row_hin (pow_in hn ha k).1 ha))
  clear hK ha
  go_enter Tryz.func255, Tryz.ntmps255
  go_wp2_with fail
  go_loop [3, 4] (fun o p => ∃ k : Nat, 1 ≤ k ∧ k ≤ K ∧ p = .string (powB n a k) ∧ o = .int .i64 k) (fun o _ => K - (intOf o).toNat)
  case atStart => exact ⟨1, by omega, by omega, by rw [← h1a.out], rfl⟩
  case round =>
    obtain ⟨k, h1k, hk, rfl, rfl⟩ := hrel
    have Hst := Lib.hid (ord_stop HK.out h1k hk)
    have Hgo := Lib.hid (ord_go HK.out hk)
    have Ht := Lib.hid (Htm.out k)
    have Hx : Hid (timesB (powB n a k) a = powB n a (k + 1)) := Lib.hid rfl
    obtain ⟨x, hx⟩ : ∃ x, x = powB n a k := ⟨_, rfl⟩
    rw [← hx] at Hst Hgo Ht Hx ⊢
    clear hx
    cases hb : (x.toList == (roundsB n).toList)
    · have hlt := Hgo.out hb
      go_wp2_with (first | (go_at_call 139; refine (l1Rounds_any n _ hn).mono ?_; rintro e w' ⟨rfl, rfl⟩) | (go_at_call 229; refine (Ht.out _).mono ?_; rintro e w' ⟨rfl, rfl⟩))
      exact ⟨⟨k + 1, by omega, by omega, by rw [Hx.out], by go_num⟩, by simp [intOf]; omega⟩
    · obtain rfl := Hst.out hb
      go_wp2_with (go_at_call 139; refine (l1Rounds_any n _ hn).mono ?_; rintro e w' ⟨rfl, rfl⟩)
      go_ret
      exact ⟨rfl, rfl⟩
/-- A good method, its stage, and the number of leads of its course. -/
structure MK (m : Mt) (n K : Nat) : Prop where
  ok : methB m = true
  g : MGood m n
  ord : IsOrd n (runB (roundsB n) m.l) K
  kb : K ≤ 16777216
theorem mk_of {m : Mt} (h : methB m = true) : ∃ n K, MK m n K := by
  obtain ⟨n, hg⟩ := mgood_of h
  obtain ⟨K, hb, hK⟩ := ord_ex hg.hi (run_inv hg.hi m.l (Inv.rounds hg.hi))
  exact ⟨n, K, h, hg, hK, hb⟩
def headM (m : Mt) (n : Nat) : ByteArray := runB (roundsB n) m.l
theorem MK.hin {m : Mt} {n K : Nat} (h : MK m n K) : RowIn n (runB (roundsB n) m.l) := runB_in h.g.hi _ (rounds_in h.g.hi)
def crsL (m : Mt) (n K : Nat) : List ByteArray := if K * m.l.length ≤ 800 then rowsB m.l (powL n (runB (roundsB n) m.l) K) else []
theorem rows_in {n K : Nat} {m : Mt} (h : MK m n K) : ∀ x ∈ rowsB m.l (powL n (runB (roundsB n) m.l) K), RowIn n x := by
  intro x hx
  unfold rowsB at hx
  obtain ⟨y, hy, hx⟩ := List.mem_flatMap.1 hx
  unfold powL at hy
  obtain ⟨j, _, rfl⟩ := List.mem_map.1 hy
  exact lead_in h.g.hi _ (pow_in h.g.hi h.hin j) x hx
theorem crs_len {n K : Nat} {m : Mt} (h : MK m n K) : (crsL m n K).length ≤ 800 := by
  unfold crsL
  split
  · rw [rows_len, powL_len]; assumption
  · simp
theorem own_ptr {w : World} {base : Nat} {e : TypeId} {size n c : Nat} {A : Option Addr} {xs : List Value} (h : w.ownsRow base e size (.slice A n c) n xs) (hn : 1 ≤ n) : ∃ g, A = some ⟨g, 0, none⟩ ∧ g < w.heap.size := by
  rcases h.2 with ⟨e, _⟩ | ⟨g, cap, cur, e, hb, hg, _⟩
  · injection e with _ e; omega
  · injection e with e1 e2 e3
    exact ⟨g, e1, (Array.getElem?_eq_some_iff.1 hg).1⟩
theorem own_neG {w : World} {base n G : Nat} {e : TypeId} {size : Nat} {v : Value} {xs : List Value} (h : w.ownsRow base e size v n xs) (hG : G < base ∨ w.heap.size ≤ G) : v.ownBlock = none ∨ v.ownBlock ≠ some G := by
  cases hb : v.ownBlock with
  | none => exact .inl rfl
  | some k =>
    have h1 := h.lt k hb
    refine .inr (fun e => ?_)
    injection e with e
    omega
end Go.Proofs.YtjiiflpoiaaccaaGreat

/- Truth by lead heads, a touch that comes round: the program's. -/
namespace Go.Proofs.YtjiiflpoiaaccaaGreat
open Go Go.RowKit
set_option linter.unusedVariables false
set_option linter.unusedSimpArgs false

theorem scanB_inv {n : Nat} (hn : n ≤ 8) : ∀ (cs : List ByteArray) {r : ByteArray}, Inv n r → ∀ x ∈ scanB r cs, Inv n x
  | [], r, hr, x, hx => by rw [List.mem_singleton.1 hx]; exact hr
  | c :: cs, r, hr, x, hx => by
    rw [scanB] at hx
    rcases List.mem_cons.1 hx with rfl | hx
    · exact hr
    · exact scanB_inv hn cs (apply_inv hn hr c) x hx
theorem lead_inv {n : Nat} (hn : n ≤ 8) (cs : List ByteArray) {r : ByteArray} (hr : Inv n r) : ∀ x ∈ leadB r cs, Inv n x := fun x hx => scanB_inv hn cs hr x (List.mem_of_mem_take hx)
theorem heads_inv {n : Nat} (hn : n ≤ 8) {f : UInt8 → ByteArray} (hf : ∀ c, Inv n (f c)) : ∀ (t : List UInt8) {h : ByteArray}, Inv n h → ∀ x ∈ headsB f h t, Inv n x
  | [], h, hh, x, hx => by rw [List.mem_singleton.1 hx]; exact hh
  | c :: t, h, hh, x, hx => by
    rw [headsB] at hx
    rcases List.mem_cons.1 hx with rfl | hx
    · exact hh
    · exact heads_inv hn hf t (hh.times hn (hf c)) x hx
/-- The inverse of a row. -/
noncomputable def trB (n : Nat) (a : ByteArray) : ByteArray := Classical.epsilon fun b => Inv2 n a b
theorem trB_ok {n : Nat} (hn : n ≤ 8) {a : ByteArray} (h : Inv n a) : Inv2 n a (trB n a) := Classical.epsilon_spec (inv2_of hn h)
theorem Inv2.inv {n : Nat} {a b : ByteArray} (h : Inv2 n a b) : Inv n b := ⟨h.hb, a, h.ha, h.ba, h.ab⟩
noncomputable def quoB (n : Nat) (x y : ByteArray) : ByteArray := timesB x (trB n y)
noncomputable def prodL (n : Nat) (xs ys : List ByteArray) : List ByteArray := xs.flatMap fun x => ys.map (quoB n x)
theorem prod_take {n : Nat} {xs ys : List ByteArray} {i : Nat} (h : i < xs.length) : prodL n (xs.take (i + 1)) ys = prodL n (xs.take i) ys ++ ys.map (quoB n xs[i]) := by
  unfold prodL; rw [List.take_succ_eq_append_getElem h, List.flatMap_append]; simp
/-- No two of a row's first entries clash. -/
def PairsOk (P : Nat → Nat → Prop) (L i k : Nat) : Prop := (∀ a b, a < i → a < b → b < L → P a b) ∧ (∀ b, i < b → b < k → P i b)
theorem pairs_start (P : Nat → Nat → Prop) (L : Nat) : PairsOk P L 0 1 := ⟨fun a b h => by omega, fun b h1 h2 => by omega⟩
theorem pairs_yes {P : Nat → Nat → Prop} {L i k : Nat} (hp : P i k) : PairsOk P L i (k + 1) ↔ PairsOk P L i k :=
  ⟨fun h => ⟨h.1, fun b h1 h2 => h.2 b h1 (by omega)⟩, fun h => ⟨h.1, fun b h1 h2 => by
    by_cases e : b = k
    · rw [e]; exact hp
    · exact h.2 b h1 (by omega)⟩⟩
theorem pairs_no {P : Nat → Nat → Prop} {L i k : Nat} (hi : i < k) (hp : ¬ P i k) : ¬ PairsOk P L i (k + 1) := fun h => hp (h.2 k hi (by omega))
theorem pairs_next {P : Nat → Nat → Prop} {L i : Nat} (hi : i < L) : PairsOk P L (i + 1) (i + 1 + 1) ↔ PairsOk P L i L :=
  ⟨fun h => ⟨fun a b h1 h2 h3 => h.1 a b (by omega) h2 h3, fun b h1 h2 => h.1 i b (by omega) h1 h2⟩, fun h => ⟨fun a b h1 h2 h3 => by
    by_cases e : a = i
    · rw [e]; exact h.2 b (by omega) h3
    · exact h.1 a b (by omega) h2 h3, fun b h1 h2 => by omega⟩⟩
/-- Two heads clash. -/
noncomputable def NoClash (n : Nat) (S hs : List ByteArray) (a b : Nat) : Prop := timesB (trB n (hs.getD a ⟨#[]⟩)) (hs.getD b ⟨#[]⟩) ∉ S
noncomputable def Clear (n : Nat) (S hs : List ByteArray) : Prop := ∀ a b, a < b → b < hs.length → NoClash n S hs a b
theorem clear_end {n : Nat} {S hs : List ByteArray} : PairsOk (NoClash n S hs) hs.length hs.length (hs.length + 1) ↔ Clear n S hs :=
  ⟨fun h a b h1 h2 => h.1 a b (by omega) h1 h2, fun h => ⟨fun a b _ h2 h3 => h a b h2 h3, fun b h1 h2 => by omega⟩⟩
/-- Truth by lead heads. -/
noncomputable def leadR (n : Nat) (m : Mt) : List ByteArray := leadB (roundsB n) m.l
open Classical in
noncomputable def thB (n : Nat) (m : Mt) (k : Cl) (t : ByteArray) : Bool := decide (leadR n m).Nodup && decide (Clear n (prodL n (leadR n m) (leadR n m)) ((headsT m k t).take t.size))
def endT (m : Mt) (k : Cl) (t : ByteArray) : ByteArray := endB (headB m.stage.toNat m.l k.bob k.single) (roundsB m.stage.toNat) t.data.toList
theorem headsT_last (m : Mt) (k : Cl) (t : ByteArray) : (headsT m k t)[t.size]? = some (endT m k t) := by
  have := heads_last (headB m.stage.toNat m.l k.bob k.single) t.data.toList (roundsB m.stage.toNat)
  rw [bytes_len] at this
  exact this
theorem headsT_inv {m : Mt} {k : Cl} {n : Nat} (h : MGood m n) (t : ByteArray) : ∀ x ∈ headsT m k t, Inv n x := by
  rw [headsT_n h.st]
  exact heads_inv h.hi (fun c => run_inv h.hi _ (Inv.rounds h.hi)) _ (Inv.rounds h.hi)
set_option maxRecDepth 10000 in
set_option maxHeartbeats 2000000 in
theorem touchEnd_any (m : Mt) (v : Value) (k : Cl) (t : ByteArray) (n : Nat) (w : World) (hg : CGood m k n) (hv : Strs w v m.l) (ht : touchB t.data.toList = true) : Calls Tryz.prog 205 #[m.v v, k.v, .string t] w fun e w' => e = .returned (.string (endT m k t)) ∧ Below w.heap.size w w' := by
  have Hh := Lib.hid (fun W hW => heads_any m v k t n W hg (hv.to hW) ht)
  rw [← headsT_n hg.m.st] at Hh
  have Hhl := Lib.hid (headsT_len m k t)
  have Hlast := Lib.hid (headsT_last m k t)
  have hts := touch_size ht
  obtain ⟨A, c, hv', _⟩ := hv
  subst hv'
  unfold Mt.v Cl.v at *
  clear hg ht
  go_enter Tryz.func205, Tryz.ntmps205
  go_wp2_with fail
  refine box2 (C := fun W => Calls _ _ _ W _) ?_
  intro wb hw k1 k2 hB0
  have R1 := boxRule k1
  have R2 := boxRule k2
  clear k1 k2
  refine (Hh.out _ hw).mono ?_; rintro e w1 ⟨A1, q1, rfl, hown, hb1⟩
  obtain ⟨A', c', e', _, _, hrd⟩ := sl_of_own hown
  cases e'
  rw [← Hhl.out] at hrd
  obtain ⟨ad, rfl, hC⟩ := strs_el (k := t.size) hrd (by rw [Hhl.out]; omega)
  have hC0 := hC _ (Below.refl _ _)
  have he : (headsT m k t)[t.size]'(by rw [Hhl.out]; omega) = endT m k t := by
    obtain ⟨h1, h2⟩ := List.getElem?_eq_some_iff.1 Hlast.out
    exact h2
  rw [he] at hC0
  clear hC he hrd hown
  go_wp2_with fail
  go_ret
  exact ⟨rfl, bw_to hw hb1⟩
theorem str_beq (a b : ByteArray) : (a.toList == b.toList) = decide (a = b) := by
  rw [bytes_toList, bytes_toList, Bool.eq_iff_iff, beq_iff_eq, decide_eq_true_eq]
  exact ⟨bytes_ext, fun h => by rw [h]⟩
set_option maxHeartbeats 2000000 in
theorem comesRound_any (m : Mt) (v : Value) (k : Cl) (t : ByteArray) (n : Nat) (w : World) (hg : CGood m k n) (hv : Strs w v m.l) (ht : touchB t.data.toList = true) : Calls Tryz.prog 113 #[m.v v, k.v, .string t] w fun e w' => e = .returned (.bool (decide (endT m k t = roundsB n))) ∧ Below w.heap.size w w' := by
  have He := Lib.hid (fun W hW => touchEnd_any m v k t n W hg (hv.to hW) ht)
  have hn := hg.m.hi
  have hst := hg.m.st
  obtain ⟨A, c, hv', _⟩ := hv
  subst hv'
  unfold Mt.v Cl.v at *
  rw [hst] at He ⊢
  clear hg ht hst
  go_enter Tryz.func113, Tryz.ntmps113
  go_wp2_with fail
  refine box2 (C := fun W => Code.wp _ _ _ _ W) ?_
  intro wb hw k1 k2 hB0
  have R1 := boxRule k1
  have R2 := boxRule k2
  have hdr : Below wb.heap.size wb wb.drew := Below.drew (Below.refl _ _)
  clear k1 k2
  go_region_held3 (fun W => Below wb.heap.size wb W) (first | exact Below.drew (by assumption) | exact bw_to (by assumption) hb')
    (first | (go_at_call 195; refine (rounds_any n _ hn).mono ?_; rintro e w' ⟨rfl, rfl⟩) | (go_at_call 205; refine (He.out _ (bw_to hw (by assumption))).mono ?_; rintro e w' ⟨rfl, hb'⟩))
  all_goals
    have hBB : Below wb.heap.size wb w' := by assumption
    go_wp2_with fail
    go_ret
    exact ⟨ret_bool (str_beq _ _), bw_to hw hBB⟩
end Go.Proofs.YtjiiflpoiaaccaaGreat

/- A map from texts to truth of the call's own; no row occurs twice: the program's. -/
namespace Go.Proofs.YtjiiflpoiaaccaaGreat
open Go Go.RowKit
set_option linter.unusedVariables false
set_option linter.unusedSimpArgs false

theorem keysStr : Maps.Keyed Tryz.prog 9 := Maps.string_keyed Tryz.underlying9
/-- Block b is a map from texts to truth: it says f. -/
def SM (W : World) (b n : Nat) (f : ByteArray → Bool) : Prop :=
  ∃ D : DataW Unit, W.ownsMap Tryz.prog 9 (plainElem Tryz.prog 4) b n D ∧ Maps.IsMap D ∧ ∀ s : ByteArray, D.atKey (.string s.data.toList) (.lit (.bool false)) = .lit (.bool (f s))
theorem SM.kept {W W' : World} {b n : Nat} {f : ByteArray → Bool} {row : Option Nat} (h : SM W b n f) (hg : W.grownBy W' row) (hne : some b ≠ row) : SM W' b n f := by
  obtain ⟨D, h1, h2, h3⟩ := h; exact ⟨D, h1.kept hg hne, h2, h3⟩
theorem SM.lt {W : World} {b n : Nat} {f : ByteArray → Bool} (h : SM W b n f) : b < W.heap.size := by obtain ⟨D, h1, _⟩ := h; exact h1.lt
theorem SM.to {W W' : World} {b n : Nat} {f : ByteArray → Bool} (h : SM W b n f) (hb : Below W.heap.size W W') : SM W' b n f :=
  h.kept (row := none) ⟨hb.os, hb.tape, hb.output, hb.size, fun i hi _ => hb.block i hi⟩ (by simp)
theorem SM.made (W : World) : SM (W.alloc (.map #[] 0)) W.heap.size 0 (fun _ => false) := ⟨.map [], World.ownsMap_made _ _ _ _, Maps.isMap_empty, fun _ => rfl⟩
def updF (f : ByteArray → Bool) (s : ByteArray) : ByteArray → Bool := fun x => if x = s then true else f x
theorem SM.put {W : World} {b n : Nat} {f : ByteArray → Bool} (h : SM W b n f) (hn : n < 1000000000) (t : TypeId) (ht : Tryz.prog.underlying t = some (.map 9 4)) (s : ByteArray) (hs : s.size ≤ maxLen) :
    ∃ W', (Instr.mapUpdate t (.map (some b)) (.string s) (.bool true)).run Tryz.prog W = .ok () W' ∧ SM W' b (n + 1) (updF f s) ∧ W.grownBy W' (some b) := by
  obtain ⟨D, h1, h2, h3⟩ := h
  obtain ⟨W', hr, ho, hg⟩ := h1.update keysStr ht (by unfold maxLen; omega) (WideMaps.keyOf_string_mk Tryz.underlying9 hs) (plainElem_bool Tryz.underlying4 true)
  refine ⟨W', hr, ⟨_, ho, h2.put _ _, fun x => ?_⟩, hg⟩
  unfold updF
  by_cases hc : x = s
  · subst hc
    rw [if_pos rfl]
    exact Maps.atKey_put_same h2 (by simp [WideAt.IsKeyLit]) _ _
  · rw [if_neg hc, Maps.atKey_put_other (by intro e; injection e with e; exact hc (bytes_ext e))]
    exact h3 x
theorem zeroB' (W : World) : (zeroValue 4).run Tryz.prog W = .ok (.bool false) W := by kernel_rfl
theorem plainElem_bool_inv {P : Program} {e : TypeId} (he : P.underlying e = some .bool) {v : Value} {z : DataW Unit × List MemPlace} (h : plainElem P e v = some z) : ∃ x, v = .bool x ∧ z = (.lit (.bool x), []) := by
  unfold plainElem at h
  rw [he] at h
  cases v <;> simp at h
  exact ⟨_, rfl, h.symm⟩
set_option maxRecDepth 20000 in
theorem SM.look {W : World} {b n : Nat} {f : ByteArray → Bool} (h : SM W b n f) (t : TypeId) (ht : Tryz.prog.underlying t = some (.map 9 4)) (s : ByteArray) (hs : s.size ≤ maxLen) :
    (Instr.lookup t (.map (some b)) (.string s) false).run Tryz.prog W = .ok (.bool (f s)) W := by
  obtain ⟨D, h1, h2, h3⟩ := h
  obtain ⟨v, ps, hrun, hv⟩ := h1.lookup keysStr ht (zeroB' W) (plainElem_bool Tryz.underlying4 false) (WideMaps.keyOf_string_mk Tryz.underlying9 hs)
  obtain ⟨x, rfl, hx⟩ := plainElem_bool_inv Tryz.underlying4 hv
  have h4 := (h3 s).symm.trans (Prod.mk.inj hx).1
  injection h4 with h4
  injection h4 with h4
  rw [h4]
  exact hrun
set_option maxRecDepth 20000 in
theorem upon_mkS {o : Oper} {a : Act} {K : Act → World → Prop} {Q : Exit → Act → World → Prop} {t : TypeId} {w : World} (h : ∀ w', SM w' w.heap.size 0 (fun _ => false) → Below w.heap.size w w' → K (a.put o.dst (.map (some w.heap.size))) w') :
    Oper.upon Tryz.prog o a K Q ((Sem.run Tryz.prog (Instr.makeMap t none) w).andThen fun a w' => Result.ok (Next.value a) w') := by
  have e : Sem.run Tryz.prog (Instr.makeMap t none) w = .ok (.map (some w.heap.size)) (w.alloc (.map #[] 0)) := rfl
  rw [e]
  show K _ _
  exact h _ (SM.made w) (bw_al (Below.refl _ _) _)
set_option maxRecDepth 20000 in
theorem upon_insS {o : Oper} {a : Act} {K : Act → World → Prop} {Q : Exit → Act → World → Prop} {t : TypeId} {w : World} (ht : Tryz.prog.underlying t = some (.map 9 4)) {b n : Nat} {f : ByteArray → Bool} (hm : SM w b n f) (hn : n < 1000000000)
    (s : ByteArray) (hs : s.size ≤ maxLen) (h : ∀ w', SM w' b (n + 1) (updF f s) → w.grownBy w' (some b) → K (a.put o.dst undef) w') :
    Oper.upon Tryz.prog o a K Q ((Sem.run Tryz.prog (Instr.mapUpdate t (.map (some b)) (.string s) (.bool true)) w).andThen fun _ w' => Result.ok Next.skip w') := by
  obtain ⟨w', hr, h1, h2⟩ := hm.put hn t ht s hs
  rw [hr]
  exact h w' h1 h2
theorem updF_take {l : List ByteArray} {k : Nat} {f : ByteArray → Bool} (hk : k < l.length) (h : ∀ s, f s = true ↔ s ∈ l.take k) (s : ByteArray) : updF f l[k] s = true ↔ s ∈ l.take (k + 1) := by
  unfold updF
  rw [List.take_succ_eq_append_getElem hk, List.mem_append, List.mem_singleton, ← h s]
  by_cases e : s = l[k]
  · rw [if_pos e]; simp [e]
  · rw [if_neg e]; simp [e]
theorem nd_step {l : List ByteArray} {k : Nat} (hk : k < l.length) (h : (l.take k).Nodup) (hn : l[k] ∉ l.take k) : (l.take (k + 1)).Nodup := by
  rw [List.take_succ_eq_append_getElem hk, List.nodup_append]
  exact ⟨h, by simp, fun a ha b hb e => hn (by rw [List.mem_singleton.1 hb] at e; rw [← e]; exact ha)⟩
theorem nd_no {l : List ByteArray} {k : Nat} (hk : k < l.length) (hm : l[k] ∈ l.take k) : ¬ l.Nodup := by
  intro h
  obtain ⟨i, hi, e⟩ := List.getElem_of_mem hm
  rw [List.length_take] at hi
  rw [List.getElem_take] at e
  exact (List.pairwise_iff_getElem.1 h) i k (by omega) hk (by omega) e
theorem gr_lowS {wb w w' : World} {b : Nat} (h : Below wb.heap.size wb w) (hg : w.grownBy w' (some b)) (hb : wb.heap.size ≤ b) : Below wb.heap.size wb w' := h.grown hg h.size (fun k e => by cases e; exact hb)
set_option maxRecDepth 10000 in
set_option maxHeartbeats 2000000 in
theorem isTrue_any (v : Value) (l : List ByteArray) (w : World) (hv : Strs w v l) (hl : l.length ≤ 100000000) (hsz : ∀ s ∈ l, s.size ≤ 1048576) : Calls Tryz.prog 108 #[v] w fun e w' => e = .returned (.bool (decide l.Nodup)) ∧ Below w.heap.size w w' := by
  obtain ⟨A, c, rfl, h1, h2, hrd⟩ := hv
  unfold maxLen at h2
  have Hsz := Lib.hid hsz
  clear hsz
  go_enter Tryz.func108, Tryz.ntmps108
  go_wp2_with fail
  refine upon_mkS ?_
  intro wb hm0 hw
  go_wp2_with fail
  go_loopw [9] (fun i wr => ∃ (k : Nat) (f : ByteArray → Bool), k ≤ l.length ∧ i = .int .i64 k ∧ SM wr w.heap.size k f ∧ (∀ s, f s = true ↔ s ∈ l.take k) ∧ (l.take k).Nodup ∧ Below w.heap.size w wr) (fun i _ => l.length - (intOf i).toNat)
  case atStart => exact ⟨0, _, by omega, rfl, hm0, by simp, by simp, hw⟩
  case round =>
    obtain ⟨k, f, hk, rfl, hm, hf, hnd, hB⟩ := hrel
    by_cases hlt : k < l.length
    · obtain ⟨ad, rfl, hC⟩ := strs_el hrd hlt
      have hC0 := hC wr hB
      have hsk : l[k].size ≤ maxLen := Nat.le_trans (Hsz.out _ (List.getElem_mem hlt)) (by unfold maxLen; omega)
      have hlk := hm.look 197 Tryz.underlying197 l[k] hsk
      have Hm := Lib.hid hm
      have Hupd := Lib.hid (updF_take hlt hf)
      have Hno := Lib.hid (fun (h : f l[k] = true) => nd_no hlt ((hf _).1 h))
      have Hst := Lib.hid (fun (h : f l[k] = false) => nd_step hlt hnd (fun hc => by rw [(hf _).2 hc] at h; cases h))
      have Hsk := Lib.hid hsk
      obtain ⟨x, hx⟩ : ∃ x, x = l[k] := ⟨_, rfl⟩
      rw [← hx] at hC0 hlk Hupd Hno Hst Hsk
      clear hC hm hf hnd hx hsk
      cases hb : f x
      · rw [hb] at hlk
        go_wp2_with fail
        refine upon_insS Tryz.underlying197 Hm.out (by omega) x Hsk.out ?_
        intro w3 hm3 hg3
        have hB3 := gr_lowS hB hg3 (Nat.le_refl _)
        go_wp2_with fail
        exact ⟨⟨k + 1, _, by omega, by go_num, hm3, Hupd.out, Hst.out hb, hB3⟩, by simp [intOf]; omega⟩
      · rw [hb] at hlk
        have hd := decide_eq_false (Hno.out hb)
        go_wp2_with fail
        go_ret
        exact ⟨ret_bool hd.symm, hB⟩
    · obtain rfl : k = l.length := by omega
      rw [List.take_length] at hnd
      have hd := Lib.hid (decide_eq_true hnd)
      clear hnd hf hm
      go_wp2_with fail
      go_ret
      exact ⟨ret_bool hd.out.symm, hB⟩
end Go.Proofs.YtjiiflpoiaaccaaGreat
