/- Contracts: the inverse of a row, both sides. -/
import Derived.Test.YthgadnhkbmimiaaPk8
import Derived.Test.YthgadnhkbmimiaaPk21
import Derived.Test.YthgadnhkbmimiaaPk15
import Derived.Test.YthgadnhkbmimiaaPk19
import Derived.Maps.Own
import Derived.Maps.OwnOps
import Derived.Maps.Views
import Derived.Maps.StringElems
namespace Go.Proofs.Ythgadnhkbmimiaa
open Go Go.RowKit
set_option linter.unusedVariables false
set_option linter.unusedSimpArgs false

theorem made_rep (z : Value) (n : Nat) : (madeCells #[z] n).toList = List.replicate n z := by
  apply List.ext_getElem?
  intro i
  simp only [madeCells, Array.toList_map, Array.toList_range, List.getElem?_map]
  by_cases hi : i < n
  · rw [List.getElem?_eq_getElem (by simpa using hi), List.getElem?_eq_getElem (by simpa using hi)]
    simp [Nat.mod_one]
  · rw [List.getElem?_eq_none (by simpa using hi), List.getElem?_eq_none (by simpa using hi)]
    rfl
/-- a and b are inverse to each other. -/
structure Inv2 (n : Nat) (a b : ByteArray) : Prop where
  hn : n ≤ 8
  ha : RowIn n a
  hb : RowIn n b
  ab : timesB a b = roundsB n
  ba : timesB b a = roundsB n
theorem inv2_of {n : Nat} (hn : n ≤ 8) {a : ByteArray} (h : Inv n a) : ∃ b, Inv2 n a b := by
  obtain ⟨ha, b, hb, h1, h2⟩ := h; exact ⟨b, hn, ha, hb, h1, h2⟩
theorem Inv2.at_ {n : Nat} {a b : ByteArray} (h : Inv2 n a b) {i : Nat} (hi : i < n) : ∃ m, m < n ∧ (a[i]'(by rw [h.ha.1]; exact hi)).toNat = m + 49 ∧ b.data.toList[m]? = some (UInt8.ofNat (49 + i)) := by
  have hia : i < a.size := by rw [h.ha.1]; exact hi
  have hat := h.ha.at_ hia
  refine ⟨a[i].toNat - 49, by omega, by omega, ?_⟩
  rcases inv_at h.hn h.ha h.ba hia with e | e
  · exact e
  · rw [h.hb.1] at e; omega
/-- When all places are written, the inverse stands there. -/
theorem Inv2.whole {n : Nat} {a b : ByteArray} (h : Inv2 n a b) {l : List UInt8} (hl : l.length = n) (hw : ∀ i, i < n → ∀ m, a.data.toList[i]?.map (fun c => c.toNat) = some (m + 49) → l[m]? = some (UInt8.ofNat (49 + i))) : ofL l = b := by
  apply bytes_ext
  rw [ofL_list]
  apply List.ext_getElem?
  intro j
  by_cases hj : j < n
  · obtain ⟨i, hi, e⟩ := inv_cover h.hn h.ha h.hb h.ab hj
    have hin : i < n := by rw [← h.ha.1]; exact hi
    obtain ⟨m, hm, e1, e2⟩ := h.at_ hin
    have hmj : m = j := by omega
    subst hmj
    rw [e2]
    refine hw i hin m ?_
    rw [List.getElem?_eq_getElem (by rw [bytes_len]; exact hi), bytes_get a i hi]
    simp only [Option.map_some, e1]
  · rw [List.getElem?_eq_none (by omega), List.getElem?_eq_none (by rw [bytes_len, h.hb.1]; omega)]
/-- Some places are written. -/
def Wr (a : ByteArray) (k : Nat) (l : List UInt8) : Prop := ∀ i, i < k → ∀ m, a.data.toList[i]?.map (fun c => c.toNat) = some (m + 49) → l[m]? = some (UInt8.ofNat (49 + i))
theorem Wr.step {n : Nat} {a b : ByteArray} (h : Inv2 n a b) {k : Nat} {l : List UInt8} (hl : l.length = n) (hk : k < n) (hw : Wr a k l) {m : Nat} (hm : m < n) (e : (a[k]'(by rw [h.ha.1]; exact hk)).toNat = m + 49) : Wr a (k + 1) (l.set m (UInt8.ofNat (49 + k))) := by
  intro i hi m' e'
  have hka : k < a.size := by rw [h.ha.1]; exact hk
  by_cases hik : i = k
  · subst hik
    rw [List.getElem?_eq_getElem (by rw [bytes_len]; exact hka), bytes_get a i hka] at e'
    simp only [Option.map_some, Option.some.injEq] at e'
    obtain rfl : m' = m := by omega
    rw [List.getElem?_set_self (by omega)]
  · have hne : m' ≠ m := by
      intro e2
      subst e2
      have hia : i < a.size := by omega
      rw [List.getElem?_eq_getElem (by rw [bytes_len]; exact hia), bytes_get a i hia] at e'
      simp only [Option.map_some, Option.some.injEq] at e'
      obtain ⟨m1, _, f1, g1⟩ := h.at_ hk
      obtain ⟨m2, _, f2, g2⟩ := h.at_ (show i < n by omega)
      have hm12 : m1 = m2 := by omega
      subst hm12
      rw [g1] at g2
      have h9 := h.hn
      have h8 := congrArg UInt8.toNat (Option.some.inj g2)
      rw [u8_49 (by omega), u8_49 (by omega)] at h8
      omega
    rw [List.getElem?_set_ne (fun e => hne e.symm)]
    exact hw i (by omega) m' e'
theorem u8v_49 {k : Nat} (hk : k < 8) : u8v (UInt8.ofNat (49 + k)) = .int .u8 ((49 : Int) + k) := by
  unfold u8v; rw [u8_49 hk]; simp
set_option maxRecDepth 10000 in
set_option maxHeartbeats 1000000 in
theorem turned_any (n : Nat) (a b : ByteArray) (w : World) (h : Inv2 n a b) : Calls Try.prog 95 #[.string a] w fun e w' => e = .returned (.string b) ∧ Below w.heap.size w w' := by
  obtain ⟨i0, hi0, hz0, hs0, hb0⟩ := info_parts info_u8
  have H := Lib.hid h
  have hsz := h.ha.1
  have hn := h.hn
  clear h
  go_enter Try.func95, Try.ntmps95
  go_wp2_with (at_make; refine wpList_make_full _ rfl _ _ _ rfl w.heap.size 5 i0 _ 1 Try.underlying53 hi0 hz0 hs0 _ _ _ _ n rfl rfl rfl rfl (by rw [hb0]; omega) (by unfold maxLen; omega) (Nat.le_refl _) ?_; intro w1 hown1 hgr1)
  have hB1 := bw_gr (Below.refl _ _) hgr1
  go_loopw [10] (fun i wr => ∃ k : Nat, k ≤ n ∧ i = .int .i64 k ∧ Below w.heap.size w wr ∧ ∃ l : List UInt8, l.length = n ∧ wr.ownsRow w.heap.size 5 1 (.slice (some ⟨w.heap.size, 0, none⟩) n n) n (l.map u8v) ∧ Wr a k l) (fun i _ => n - (intOf i).toNat)
  case atStart => exact ⟨0, by omega, rfl, hB1, List.replicate n 0, by simp, by rw [List.map_replicate, ← made_rep]; rw [Nat.mul_one] at hown1; exact hown1, fun i hi => absurd hi (by omega)⟩
  case round =>
    obtain ⟨k, hk, rfl, hB, l, hl, hown, hw⟩ := hrel
    have Hw := Lib.hid hw
    clear hw
    by_cases hlt : k < n
    · have hka : k < a.size := by rw [hsz]; exact hlt
      obtain ⟨m, hm, e1, e2⟩ := H.out.at_ hlt
      have Hst := Lib.hid (Wr.step H.out hl hlt Hw.out hm e1)
      obtain ⟨y0, hy0⟩ := own_some hown (j := m) (by omega)
      have hf := hown.frozenAt m
      have hak : (a[k].toNat : Int) = m + 49 := by omega
      have hw8 : IntKind.u8.wrap ((m : Int) + 49 - 49) = m := by rw [IntWalk.u8_in _ ⟨by omega, by omega⟩]; omega
      have hw9 : IntKind.u8.wrap ((49 : Int) + k) = 49 + k := IntWalk.u8_in _ ⟨by omega, by omega⟩
      have Hv := Lib.hid (u8v_49 (k := k) (by omega))
      clear e1 e2
      go_wp2_with fail
      have ho := own_set hown m (u8v (UInt8.ofNat (49 + k)))
      rw [← List.map_set, Hv.out] at ho
      exact ⟨⟨k + 1, by omega, by go_num, grow_set hB (Nat.le_refl _) _, _, by rw [List.length_set]; exact hl, ho, Hst.out⟩, by simp [intOf]; omega⟩
    · obtain rfl : k = n := by omega
      have hcv := conv_back Try.underlying53 Try.underlying5 Try.underlying9 hown rfl hl
      have HT := Lib.hid (H.out.whole hl Hw.out)
      go_wp2_with fail
      go_ret
      exact ⟨ret_str HT.out, hB⟩
set_option maxRecDepth 10000 in
set_option maxHeartbeats 1000000 in
theorem l1Turn_any (n : Nat) (a b : ByteArray) (w : World) (h : Inv2 n a b) : Calls Try.prog 87 #[.string a] w fun e w' => e = .returned (.string b) ∧ Below w.heap.size w w' := by
  have H := Lib.hid h
  have hsz := h.ha.1
  have hn := h.hn
  obtain ⟨w1, C, hcv, hrow, hb1⟩ := bytes_of a n hsz w
  have Hrow := Lib.hid hrow
  have hg0 := hrow.lt
  clear h hrow
  go_enter Try.func87, Try.ntmps87
  go_wp2_with fail
  go_loopw [4] (fun i wr => ∃ k : Nat, k ≤ n ∧ i = .int .i64 ((k : Int) + 1) ∧ Below w.heap.size w wr ∧ ∃ l : List UInt8, l.length = n ∧ BRow wr w.heap.size n l ∧ Wr a k l) (fun i _ => n + 1 - (intOf i).toNat)
  case atStart => exact ⟨0, by omega, rfl, hb1, _, by rw [bytes_len]; exact hsz, Hrow.out, fun i hi => absurd hi (by omega)⟩
  case round =>
    obtain ⟨k, hk, rfl, hB, l, hl, hrow, hw⟩ := hrel
    have Hw := Lib.hid hw
    clear hw
    by_cases hlt : k < n
    · have hka : k < a.size := by rw [hsz]; exact hlt
      obtain ⟨m, hm, e1, e2⟩ := H.out.at_ hlt
      have Hst := Lib.hid (Wr.step H.out hl hlt Hw.out hm e1)
      obtain ⟨y0, hy0⟩ : ∃ y, wr.cell? ⟨w.heap.size, m, none⟩ = some (u8v y) := ⟨_, hrow.cell (j := m) (by omega)⟩
      have hf := hrow.free (j := m) hm
      have hl1 := Lib.hid (l1At_any a k wr (by rw [hsz]; unfold maxLen; omega) hka (by omega))
      have hak : (a[k].toNat : Int) - 48 = m + 1 := by omega
      rw [hak] at hl1
      have hw9 : IntKind.u8.wrap ((48 : Int) + ((k : Int) + 1)) = 48 + ((k : Int) + 1) := IntWalk.u8_in _ ⟨by omega, by omega⟩
      have hm1 : (m : Int) + 1 - 1 = m := by omega
      have Hv : Hid (Value.int .u8 (48 + ((k : Int) + 1)) = u8v (UInt8.ofNat (49 + k))) := Lib.hid (by rw [u8v_49 (by omega)]; congr 1; omega)
      have hrow2 := Lib.hid (hrow.set (j := m) hm (UInt8.ofNat (49 + k)))
      rw [← Hv.out] at hrow2
      clear e1 e2 hrow
      go_wp2_with (go_at_call 124; refine (hl1.out).mono ?_; rintro e w' ⟨rfl, rfl⟩)
      exact ⟨⟨k + 1, by omega, by go_num, grow_set hB (Nat.le_refl _) _, _, by rw [List.length_set]; exact hl, hrow2.out, Hst.out⟩, by simp [intOf]; omega⟩
    · obtain rfl : k = n := by omega
      have hcv2 := hrow.conv (cap := C) Try.underlying53 Try.underlying5 Try.underlying9
      have HT := Lib.hid (H.out.whole hl Hw.out)
      clear hrow
      go_wp2_with fail
      go_ret
      exact ⟨ret_str HT.out, hB⟩
end Go.Proofs.Ythgadnhkbmimiaa

/- A map from texts to truth of the call's own; no row occurs twice: the program's. -/
namespace Go.Proofs.Ythgadnhkbmimiaa
open Go Go.RowKit
set_option linter.unusedVariables false
set_option linter.unusedSimpArgs false

theorem keysStr : Maps.Keyed Try.prog 9 := Maps.string_keyed Try.underlying9
/-- Block b is a map from texts to truth: it says f. -/
def SM (W : World) (b n : Nat) (f : ByteArray → Bool) : Prop :=
  ∃ D : DataW Unit, W.ownsMap Try.prog 9 (plainElem Try.prog 4) b n D ∧ Maps.IsMap D ∧ ∀ s : ByteArray, D.atKey (.string s.data.toList) (.lit (.bool false)) = .lit (.bool (f s))
theorem SM.kept {W W' : World} {b n : Nat} {f : ByteArray → Bool} {row : Option Nat} (h : SM W b n f) (hg : W.grownBy W' row) (hne : some b ≠ row) : SM W' b n f := by
  obtain ⟨D, h1, h2, h3⟩ := h; exact ⟨D, h1.kept hg hne, h2, h3⟩
theorem SM.lt {W : World} {b n : Nat} {f : ByteArray → Bool} (h : SM W b n f) : b < W.heap.size := by obtain ⟨D, h1, _⟩ := h; exact h1.lt
theorem SM.to {W W' : World} {b n : Nat} {f : ByteArray → Bool} (h : SM W b n f) (hb : Below W.heap.size W W') : SM W' b n f :=
  h.kept (row := none) ⟨hb.os, hb.tape, hb.output, hb.size, fun i hi _ => hb.block i hi⟩ (by simp)
theorem SM.made (W : World) : SM (W.alloc (.map #[] 0)) W.heap.size 0 (fun _ => false) := ⟨.map [], World.ownsMap_made _ _ _ _, Maps.isMap_empty, fun _ => rfl⟩
def updF (f : ByteArray → Bool) (s : ByteArray) : ByteArray → Bool := fun x => if x = s then true else f x
theorem SM.put {W : World} {b n : Nat} {f : ByteArray → Bool} (h : SM W b n f) (hn : n < 1000000000) (t : TypeId) (ht : Try.prog.underlying t = some (.map 9 4)) (s : ByteArray) (hs : s.size ≤ maxLen) :
    ∃ W', (Instr.mapUpdate t (.map (some b)) (.string s) (.bool true)).run Try.prog W = .ok () W' ∧ SM W' b (n + 1) (updF f s) ∧ W.grownBy W' (some b) := by
  obtain ⟨D, h1, h2, h3⟩ := h
  obtain ⟨W', hr, ho, hg⟩ := h1.update keysStr ht (by unfold maxLen; omega) (WideMaps.keyOf_string_mk Try.underlying9 hs) (plainElem_bool Try.underlying4 true)
  refine ⟨W', hr, ⟨_, ho, h2.put _ _, fun x => ?_⟩, hg⟩
  unfold updF
  by_cases hc : x = s
  · subst hc
    rw [if_pos rfl]
    exact Maps.atKey_put_same h2 (by simp [WideAt.IsKeyLit]) _ _
  · rw [if_neg hc, Maps.atKey_put_other (by intro e; injection e with e; exact hc (bytes_ext e))]
    exact h3 x
theorem zeroB' (W : World) : (zeroValue 4).run Try.prog W = .ok (.bool false) W := by kernel_rfl
theorem plainElem_bool_inv {P : Program} {e : TypeId} (he : P.underlying e = some .bool) {v : Value} {z : DataW Unit × List MemPlace} (h : plainElem P e v = some z) : ∃ x, v = .bool x ∧ z = (.lit (.bool x), []) := by
  unfold plainElem at h
  rw [he] at h
  cases v <;> simp at h
  exact ⟨_, rfl, h.symm⟩
set_option maxRecDepth 20000 in
theorem SM.look {W : World} {b n : Nat} {f : ByteArray → Bool} (h : SM W b n f) (t : TypeId) (ht : Try.prog.underlying t = some (.map 9 4)) (s : ByteArray) (hs : s.size ≤ maxLen) :
    (Instr.lookup t (.map (some b)) (.string s) false).run Try.prog W = .ok (.bool (f s)) W := by
  obtain ⟨D, h1, h2, h3⟩ := h
  obtain ⟨v, ps, hrun, hv⟩ := h1.lookup keysStr ht (zeroB' W) (plainElem_bool Try.underlying4 false) (WideMaps.keyOf_string_mk Try.underlying9 hs)
  obtain ⟨x, rfl, hx⟩ := plainElem_bool_inv Try.underlying4 hv
  have h4 := (h3 s).symm.trans (Prod.mk.inj hx).1
  injection h4 with h4
  injection h4 with h4
  rw [h4]
  exact hrun
set_option maxRecDepth 20000 in
theorem upon_mkS {o : Oper} {a : Act} {K : Act → World → Prop} {Q : Exit → Act → World → Prop} {t : TypeId} {w : World} (h : ∀ w', SM w' w.heap.size 0 (fun _ => false) → Below w.heap.size w w' → K (a.put o.dst (.map (some w.heap.size))) w') :
    Oper.upon Try.prog o a K Q ((Sem.run Try.prog (Instr.makeMap t none) w).andThen fun a w' => Result.ok (Next.value a) w') := by
  have e : Sem.run Try.prog (Instr.makeMap t none) w = .ok (.map (some w.heap.size)) (w.alloc (.map #[] 0)) := rfl
  rw [e]
  show K _ _
  exact h _ (SM.made w) (bw_al (Below.refl _ _) _)
set_option maxRecDepth 20000 in
theorem upon_insS {o : Oper} {a : Act} {K : Act → World → Prop} {Q : Exit → Act → World → Prop} {t : TypeId} {w : World} (ht : Try.prog.underlying t = some (.map 9 4)) {b n : Nat} {f : ByteArray → Bool} (hm : SM w b n f) (hn : n < 1000000000)
    (s : ByteArray) (hs : s.size ≤ maxLen) (h : ∀ w', SM w' b (n + 1) (updF f s) → w.grownBy w' (some b) → K (a.put o.dst undef) w') :
    Oper.upon Try.prog o a K Q ((Sem.run Try.prog (Instr.mapUpdate t (.map (some b)) (.string s) (.bool true)) w).andThen fun _ w' => Result.ok Next.skip w') := by
  obtain ⟨w', hr, h1, h2⟩ := hm.put hn t ht s hs
  rw [hr]
  exact h w' h1 h2
theorem updF_take {l : List ByteArray} {k : Nat} {f : ByteArray → Bool} (hk : k < l.length) (h : ∀ s, f s = true ↔ s ∈ l.take k) (s : ByteArray) : updF f l[k] s = true ↔ s ∈ l.take (k + 1) := by
  unfold updF
  rw [List.take_succ_eq_append_getElem hk, List.mem_append, List.mem_singleton, ← h s]
  by_cases e : s = l[k]
  · rw [if_pos e]; simp [e]
  · rw [if_neg e]; simp [e]
theorem nd_step {l : List ByteArray} {k : Nat} (hk : k < l.length) (h : (l.take k).Nodup) (hn : l[k] ∉ l.take k) : (l.take (k + 1)).Nodup := by
  rw [List.take_succ_eq_append_getElem hk, List.nodup_append]
  exact ⟨h, by simp, fun a ha b hb e => hn (by rw [List.mem_singleton.1 hb] at e; rw [← e]; exact ha)⟩
theorem nd_no {l : List ByteArray} {k : Nat} (hk : k < l.length) (hm : l[k] ∈ l.take k) : ¬ l.Nodup := by
  intro h
  obtain ⟨i, hi, e⟩ := List.getElem_of_mem hm
  rw [List.length_take] at hi
  rw [List.getElem_take] at e
  exact (List.pairwise_iff_getElem.1 h) i k (by omega) hk (by omega) e
theorem gr_lowS {wb w w' : World} {b : Nat} (h : Below wb.heap.size wb w) (hg : w.grownBy w' (some b)) (hb : wb.heap.size ≤ b) : Below wb.heap.size wb w' := h.grown hg h.size (fun k e => by cases e; exact hb)
set_option maxRecDepth 10000 in
set_option maxHeartbeats 2000000 in
theorem isTrue_any (v : Value) (l : List ByteArray) (w : World) (hv : Strs w v l) (hl : l.length ≤ 100000000) (hsz : ∀ s ∈ l, s.size ≤ 1048576) : Calls Try.prog 79 #[v] w fun e w' => e = .returned (.bool (decide l.Nodup)) ∧ Below w.heap.size w w' := by
  obtain ⟨A, c, rfl, h1, h2, hrd⟩ := hv
  unfold maxLen at h2
  have Hsz := Lib.hid hsz
  clear hsz
  go_enter Try.func79, Try.ntmps79
  go_wp2_with fail
  refine upon_mkS ?_
  intro wb hm0 hw
  go_wp2_with fail
  go_loopw [9] (fun i wr => ∃ (k : Nat) (f : ByteArray → Bool), k ≤ l.length ∧ i = .int .i64 k ∧ SM wr w.heap.size k f ∧ (∀ s, f s = true ↔ s ∈ l.take k) ∧ (l.take k).Nodup ∧ Below w.heap.size w wr) (fun i _ => l.length - (intOf i).toNat)
  case atStart => exact ⟨0, _, by omega, rfl, hm0, by simp, by simp, hw⟩
  case round =>
    obtain ⟨k, f, hk, rfl, hm, hf, hnd, hB⟩ := hrel
    by_cases hlt : k < l.length
    · obtain ⟨ad, rfl, hC⟩ := strs_el hrd hlt
      have hC0 := hC wr hB
      have hsk : l[k].size ≤ maxLen := Nat.le_trans (Hsz.out _ (List.getElem_mem hlt)) (by unfold maxLen; omega)
      have hlk := hm.look 121 Try.underlying121 l[k] hsk
      have Hm := Lib.hid hm
      have Hupd := Lib.hid (updF_take hlt hf)
      have Hno := Lib.hid (fun (h : f l[k] = true) => nd_no hlt ((hf _).1 h))
      have Hst := Lib.hid (fun (h : f l[k] = false) => nd_step hlt hnd (fun hc => by rw [(hf _).2 hc] at h; cases h))
      have Hsk := Lib.hid hsk
      obtain ⟨x, hx⟩ : ∃ x, x = l[k] := ⟨_, rfl⟩
      rw [← hx] at hC0 hlk Hupd Hno Hst Hsk
      clear hC hm hf hnd hx hsk
      cases hb : f x
      · rw [hb] at hlk
        go_wp2_with fail
        refine upon_insS Try.underlying121 Hm.out (by omega) x Hsk.out ?_
        intro w3 hm3 hg3
        have hB3 := gr_lowS hB hg3 (Nat.le_refl _)
        go_wp2_with fail
        exact ⟨⟨k + 1, _, by omega, by go_num, hm3, Hupd.out, Hst.out hb, hB3⟩, by simp [intOf]; omega⟩
      · rw [hb] at hlk
        have hd := decide_eq_false (Hno.out hb)
        go_wp2_with fail
        go_ret
        exact ⟨ret_bool hd.symm, hB⟩
    · obtain rfl : k = l.length := by omega
      rw [List.take_length] at hnd
      have hd := Lib.hid (decide_eq_true hnd)
      clear hnd hf hm
      go_wp2_with fail
      go_ret
      exact ⟨ret_bool hd.out.symm, hB⟩
end Go.Proofs.Ythgadnhkbmimiaa
