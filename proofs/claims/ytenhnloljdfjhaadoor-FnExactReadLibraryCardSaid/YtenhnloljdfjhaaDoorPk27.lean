/- Contracts: the text of a library, both sides. -/
import Derived.Test.YtenhnloljdfjhaaDoorPk26
import Derived.Test.YtenhnloljdfjhaaDoorPk10
namespace Go.Proofs.YtenhnloljdfjhaaDoor
open Go Go.RowKit
set_option linter.unusedVariables false
set_option linter.unusedSimpArgs false

def lineT (m : Mt) : ByteArray := m.name ++ ⟨#[32]⟩ ++ numT m.stage ++ ⟨#[32]⟩ ++ shortT m.l ++ ⟨#[10]⟩
def libTo (ms : List Mt) : Nat → ByteArray
  | 0 => ⟨#[]⟩
  | k + 1 => libTo ms k ++ lineT (ms.getD k dM)
theorem libTo_succ {ms : List Mt} {k : Nat} (h : k < ms.length) : libTo ms (k + 1) = libTo ms k ++ lineT ms[k] := by rw [libTo, getD_at h]
def libT (ms : List Mt) : ByteArray := if libB ms then libTo ms ms.length else ⟨#[]⟩
theorem libT_no {ms : List Mt} (h : libB ms = false) : libT ms = ⟨#[]⟩ := by unfold libT; rw [h]; rfl
theorem libT_yes {ms : List Mt} (h : libB ms = true) : libT ms = libTo ms ms.length := by unfold libT; rw [h]; rfl
theorem lib_allN {ms : List Mt} (h : libB ms = true) : ms.length ≤ 30 ∧ ∀ x ∈ ms, methB x = true := by
  unfold libB at h
  rw [Bool.and_eq_true, decide_eq_true_eq, List.all_eq_true] at h
  refine ⟨h.1, fun x hx => ?_⟩
  obtain ⟨k, hk, rfl⟩ := List.getElem_of_mem hx
  have := h.2 k (List.mem_range.2 hk)
  unfold okAt at this
  rw [Bool.and_eq_true, List.getD_eq_getElem?_getD, List.getElem?_eq_getElem hk] at this
  exact this.1
theorem meth_parts {m : Mt} (h : methB m = true) : m.name.size ≤ 10 ∧ (3 ≤ m.stage ∧ m.stage ≤ 8) ∧ (1 ≤ m.l.length ∧ m.l.length ≤ 40) ∧ chgs m.stage m.l = true := by
  unfold methB wordB at h
  simp only [Bool.and_eq_true, decide_eq_true_eq] at h
  obtain ⟨⟨_, h1⟩, h2, h3, h4⟩ := h
  rw [bytes_len] at h1
  exact ⟨h1.2, h2, h3, h4⟩
theorem shortT_size {l : List ByteArray} (h : ∀ x ∈ l, x.size ≤ 1048576) (hl : l.length ≤ 1000) : (shortT l).size ≤ 1048577000 := by
  have ht := txt_size h hl
  unfold shortT
  split
  · rename_i hc
    simp only [Bool.and_eq_true, decide_eq_true_eq] at hc
    omega
  · exact ht
theorem lineT_size {m : Mt} (h : methB m = true) (hs : ∀ x ∈ m.l, x.size ≤ 1048576) : (lineT m).size ≤ 1048578000 ∧ (lineT m).size = m.name.size + 1 + (numT m.stage).size + 1 + (shortT m.l).size + 1 := by
  obtain ⟨h1, h2, h3, _⟩ := meth_parts h
  have hz := numT_size (n := m.stage) (by omega) (by omega)
  have hS := shortT_size hs (by omega)
  have e : (lineT m).size = m.name.size + 1 + (numT m.stage).size + 1 + (shortT m.l).size + 1 := by
    unfold lineT
    rw [ByteArray.size_append, ByteArray.size_append, ByteArray.size_append, ByteArray.size_append, ByteArray.size_append]; rfl
  exact ⟨by omega, e⟩
theorem libTo_size {ms : List Mt} (h : ∀ x ∈ ms, methB x = true ∧ ∀ y ∈ x.l, y.size ≤ 1048576) : ∀ k, k ≤ ms.length → (libTo ms k).size ≤ 1048578000 * k := by
  intro k
  induction k with
  | zero => intro _; exact Nat.zero_le _
  | succ k ih =>
    intro hk
    have ih' := ih (by omega)
    have hl := (lineT_size (h ms[k] (List.getElem_mem _)).1 (h ms[k] (List.getElem_mem _)).2).1
    rw [libTo_succ (by omega), ByteArray.size_append]; omega
set_option maxRecDepth 10000 in
set_option maxHeartbeats 2000000 in
theorem libraryText_any (V : Value) (ms : List Mt) (w : World) (h : Meths w V ms) (hs : AllSmall ms) (hl : libB ms = true) (ht : Tab10 w) : Calls Tryd.prog 19 #[V] w fun e w' => e = .returned (.string (libTo ms ms.length)) ∧ Below w.heap.size w w' := by
  have hlib := lib_allN hl
  have hln := hlib.1
  have Hall := Lib.hid (fun x (hx : x ∈ ms) => (⟨hlib.2 x hx, (hs.2 x hx).2.2⟩ : methB x = true ∧ ∀ y ∈ x.l, y.size ≤ 1048576))
  have Hsz := Lib.hid (libTo_size Hall.out)
  have Ht := Lib.hid ht
  clear ht
  obtain ⟨vs, hvl, ⟨A, c, rfl, h1, h2, hr⟩, hat⟩ := h
  unfold maxLen at h2
  have Hat := Lib.hid hat
  clear hat hs hl hlib
  go_enter Tryd.func19, Tryd.ntmps19
  go_wp2_with fail
  go_loopw [3, 8] (fun z i wr => ∃ (k : Nat) (s : ByteArray), k ≤ ms.length ∧ i = .int .i64 k ∧ z = .string s ∧ s = libTo ms k ∧ Below w.heap.size w wr) (fun _ i _ => ms.length - (intOf i).toNat)
  case atStart => exact ⟨0, _, by omega, rfl, rfl, rfl, Below.refl _ _⟩
  case round =>
    obtain ⟨k, s, hk, rfl, rfl, hs, hB⟩ := hrel
    have hss := Hsz.out k hk
    rw [← hs] at hss
    have Hs := Lib.hid hs
    clear hs
    by_cases hlt : k < ms.length
    · obtain ⟨ad, x, rfl, hmem, hC⟩ := meths_el hvl hr rfl hlt
      obtain ⟨c0, c1, c2⟩ := hC wr hB
      have Hsucc := Lib.hid (libTo_succ hlt)
      have hgo := Hall.out ms[k] (List.getElem_mem hlt)
      obtain ⟨y, hy⟩ : ∃ y, y = ms[k] := ⟨_, rfl⟩
      rw [← hy] at hmem c0 c1 hgo Hsucc
      have hxs : Strs w x y.l := (Hat.out _ hmem).1
      obtain ⟨Ax, cx, hxv, hx1, hx2, hxr⟩ := hxs
      have hpt := meth_parts hgo.1
      have hlz := lineT_size hgo.1 hgo.2
      have hSz := shortT_size hgo.2 (by have := hpt.2.2.1; omega)
      obtain ⟨ax, hax⟩ : ∃ a, Ax = some a := by
        obtain ⟨a, e, _⟩ := hxr.2 (by have := hpt.2.2.1; show 0 < y.l.length; omega)
        exact ⟨a, e⟩
      have Hx : Hid (Strs wr x y.l) := Lib.hid ((Hat.out _ hmem).1.to hB)
      subst hax
      subst hxv
      obtain ⟨S, hS⟩ : ∃ S, S = shortT y.l := ⟨_, rfl⟩
      have HS := Lib.hid hS
      rw [← hS] at hSz
      have hnz : (numT y.stage).size ≤ 14 := numT_size (by omega) (by omega)
      have hnm : y.name.size ≤ 10 := hpt.1
      have Hpt := Lib.hid hpt
      have Hgo := Lib.hid hgo
      have o1 : ¬ 9223372036854775807 < y.name.size + 1 := by omega
      have o2 : ¬ 9223372036854775807 < y.name.size + 1 + (numT y.stage).size := by omega
      have o3 : ¬ 9223372036854775807 < y.name.size + 1 + (numT y.stage).size + 1 := by omega
      have o4 : ¬ 9223372036854775807 < y.name.size + 1 + (numT y.stage).size + 1 + S.size := by omega
      have o5 : ¬ 9223372036854775807 < y.name.size + 1 + (numT y.stage).size + 1 + S.size + 1 := by omega
      have o6 : ¬ 9223372036854775807 < s.size + (y.name.size + 1 + (numT y.stage).size + 1 + S.size + 1) := by omega
      have HB := Lib.hid hB
      clear hmem hC hy hpt hgo hlz hS hxr hB
      go_wp2_with fail
      refine box1 (C := fun W => Code.wp _ _ _ _ W) ?_
      intro wb hw k1 hB0
      have R1 := boxRule k1
      have R3 : ∀ (x : Aft wb) (i : Nat), x.w.cell? ⟨wr.heap.size, i, none⟩ = #[.string y.name, .int .i64 y.stage, .slice (some ax) y.l.length cx][i]? := fun x i => R1 x.w i x.h
      have hsh := fun w' (hb' : Below wb.heap.size wb w') => shortNotation_any ax cx y.l w' (Hx.out.to (bw_to hw hb')) Hgo.out.2 (by have := Hpt.out; omega) (by have := Hpt.out; omega)
      simp only [← HS.out] at hsh
      have Hsh := Lib.hid hsh
      clear k1 R1 c0 c1 c2 hsh
      refine wp_region_aft (wb := wb) (by kernel_rfl) (by kernel_rfl) (Below.refl _ _) ?_
      repeat (go_big_quiet_step ((first | (go_at_call 35; exact calls_aft fun w' hb' => decimal_any _ w' (by have := Hpt.out; omega) (by have := Hpt.out; omega) (Ht.out.to (bw_to HB.out (bw_to hw hb')))) | (go_at_call 36; exact calls_aft fun w' hb' => Hsh.out w' hb'))))
      refine wpQuiet_nil ?_
      rintro _ ⟨⟨w4, hB4⟩, rfl⟩
      go_wp2_with fail
      refine ⟨⟨k + 1, _, by omega, by go_num, rfl, ?_, bw_to HB.out (bw_to hw hB4)⟩, by simp [intOf]; omega⟩
      rw [Hsucc.out, ← Hs.out]
      unfold lineT
      rw [← HS.out] <;> rfl
    · obtain rfl : k = ms.length := by omega
      go_wp2_with fail
      go_ret
      exact ⟨by rw [Hs.out]; rfl, hB⟩
set_option maxRecDepth 10000 in
set_option maxHeartbeats 2000000 in
theorem l29Text_any (V : Value) (ms : List Mt) (w : World) (h : Meths w V ms) (hs : AllSmall ms) (hl : libB ms = true) : Calls Tryd.prog 13 #[V] w fun e w' => e = .returned (.string (libTo ms ms.length)) ∧ Below w.heap.size w w' := by
  have hlib := lib_allN hl
  have hln := hlib.1
  have Hall := Lib.hid (fun x (hx : x ∈ ms) => (⟨hlib.2 x hx, (hs.2 x hx).2.2⟩ : methB x = true ∧ ∀ y ∈ x.l, y.size ≤ 1048576))
  have Hsz := Lib.hid (libTo_size Hall.out)
  obtain ⟨vs, hvl, ⟨A, c, rfl, h1, h2, hr⟩, hat⟩ := h
  unfold maxLen at h2
  have Hat := Lib.hid hat
  clear hat hs hl hlib
  go_enter Tryd.func13, Tryd.ntmps13
  go_wp2_with fail
  go_loopw [3, 10] (fun z i wr => ∃ (k : Nat) (s : ByteArray), k ≤ ms.length ∧ i = .int .i64 k ∧ z = .string s ∧ s = libTo ms k ∧ Below w.heap.size w wr) (fun _ i _ => ms.length - (intOf i).toNat)
  case atStart => exact ⟨0, _, by omega, rfl, rfl, rfl, Below.refl _ _⟩
  case round =>
    obtain ⟨k, s, hk, rfl, rfl, hs, hB⟩ := hrel
    have hss := Hsz.out k hk
    rw [← hs] at hss
    have Hs := Lib.hid hs
    clear hs
    by_cases hlt : k < ms.length
    · obtain ⟨ad, x, rfl, hmem, hC⟩ := meths_el hvl hr rfl hlt
      obtain ⟨c0, c1, c2⟩ := hC wr hB
      have Hsucc := Lib.hid (libTo_succ hlt)
      have hgo := Hall.out ms[k] (List.getElem_mem hlt)
      obtain ⟨y, hy⟩ : ∃ y, y = ms[k] := ⟨_, rfl⟩
      rw [← hy] at hmem c0 c1 hgo Hsucc
      have hxs : Strs w x y.l := (Hat.out _ hmem).1
      obtain ⟨Ax, cx, hxv, hx1, hx2, hxr⟩ := hxs
      have hpt := meth_parts hgo.1
      have hlz := lineT_size hgo.1 hgo.2
      have hSz := shortT_size hgo.2 (by have := hpt.2.2.1; omega)
      obtain ⟨ax, hax⟩ : ∃ a, Ax = some a := by
        obtain ⟨a, e, _⟩ := hxr.2 (by have := hpt.2.2.1; show 0 < y.l.length; omega)
        exact ⟨a, e⟩
      have Hx : Hid (Strs wr x y.l) := Lib.hid ((Hat.out _ hmem).1.to hB)
      subst hax
      subst hxv
      obtain ⟨S, hS⟩ : ∃ S, S = shortT y.l := ⟨_, rfl⟩
      have HS := Lib.hid hS
      rw [← hS] at hSz
      have hnz : (numT y.stage).size ≤ 14 := numT_size (by omega) (by omega)
      have hnm : y.name.size ≤ 10 := hpt.1
      have Hpt := Lib.hid hpt
      have Hgo := Lib.hid hgo
      have o1 : ¬ 9223372036854775807 < y.name.size + 1 := by omega
      have o2 : ¬ 9223372036854775807 < y.name.size + 1 + (numT y.stage).size := by omega
      have o3 : ¬ 9223372036854775807 < y.name.size + 1 + (numT y.stage).size + 1 := by omega
      have o4 : ¬ 9223372036854775807 < y.name.size + 1 + (numT y.stage).size + 1 + S.size := by omega
      have o5 : ¬ 9223372036854775807 < y.name.size + 1 + (numT y.stage).size + 1 + S.size + 1 := by omega
      have o6 : ¬ 9223372036854775807 < s.size + (y.name.size + 1 + (numT y.stage).size + 1 + S.size + 1) := by omega
      have HB := Lib.hid hB
      clear hmem hC hy hpt hgo hlz hS hxr hB
      go_wp2_with fail
      refine box1 (C := fun W => Calls _ _ _ W _) ?_
      intro wb hw k1 hB0
      have R1 := boxRule k1
      clear k1 c0 c1 c2
      have hsn := specShortNotation_any y.stage ax cx y.l wb (Hx.out.to hw) Hgo.out.2 Hpt.out.2.1 Hpt.out.2.2.1 Hpt.out.2.2.2
      rw [← HS.out] at hsn
      have Hsn := Lib.hid hsn
      clear hsn
      refine Hsn.out.mono ?_; rintro e w5 ⟨rfl, hb5⟩
      have R3 : ∀ (x : Aft w5) (i : Nat), x.w.cell? ⟨wr.heap.size, i, none⟩ = #[.string y.name, .int .i64 y.stage, .slice (some ax) y.l.length cx][i]? := fun x i => R1 x.w i (bw_to hb5 x.h)
      clear R1
      go_wp2_with fail
      refine wp_region_aft (wb := w5) (by kernel_rfl) (by kernel_rfl) (Below.refl _ _) ?_
      repeat (go_big_quiet_step ((first | (go_at_call 29; exact calls_aft fun w' hb' => l1Num_int _ w' (by have := Hpt.out; omega) (by have := Hpt.out; omega)))))
      refine wpQuiet_nil ?_
      rintro _ ⟨⟨w4, hB4⟩, rfl⟩
      go_wp2_with fail
      refine ⟨⟨k + 1, _, by omega, by go_num, rfl, ?_, bw_to HB.out (bw_to (bw_to hw hb5) hB4)⟩, by simp [intOf]; omega⟩
      rw [Hsucc.out, ← Hs.out]
      unfold lineT
      rw [← HS.out] <;> rfl
    · obtain rfl : k = ms.length := by omega
      go_wp2_with fail
      go_ret
      exact ⟨by rw [Hs.out]; rfl, hB⟩
end Go.Proofs.YtenhnloljdfjhaaDoor
