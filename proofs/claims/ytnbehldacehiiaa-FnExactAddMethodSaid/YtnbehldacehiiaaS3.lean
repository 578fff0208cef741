/- Contracts: slices of methods (size, copy, sameness). -/
import Derived.Test.YtnbehldacehiiaaS2
import Derived.Test.YtnbehldacehiiaaH1
namespace Go.Proofs.Ytnbehldacehiiaa
open Go Go.RowKit
set_option linter.unusedVariables false
set_option linter.unusedSimpArgs false

def AllSmall (ms : List Mt) : Prop := ms.length ≤ 1048576 ∧ ∀ m ∈ ms, MtSmall m
theorem take_allM {p : Mt → Prop} {ss : List Mt} {k : Nat} (hk : k < ss.length) (h : ∀ s ∈ ss.take k, p s) (h1 : p ss[k]) : ∀ s ∈ ss.take (k + 1), p s := by
  intro s hs
  rw [List.take_succ_eq_append_getElem hk] at hs
  rcases List.mem_append.1 hs with hs | hs
  · exact h s hs
  · rw [List.mem_singleton.1 hs]; exact h1
theorem frozen_of_heap {w w' : World} {g : Nat} {cs : Array Value} {t : TypeId} (h : w.heap[g]? = some (.cells cs t (0, 0))) (j : Nat) (hb : Below w.heap.size w w') : w'.frozen? ⟨g, j, none⟩ = false := by
  have hg : g < w.heap.size := by
    rcases Nat.lt_or_ge g w.heap.size with hlt | hge
    · exact hlt
    · rw [Array.getElem?_eq_none hge] at h; cases h
  rw [hb.frozen (p := ⟨g, j, none⟩) hg]
  simp [World.frozen?, h]
/-- A write below a row's base leaves the row. -/
theorem own_past {w : World} {base g : Nat} {e : TypeId} {size n : Nat} {v : Value} {xs : List Value} (h : w.ownsRow base e size v n xs) (hg : g < base) (j : Nat) (u : Value) : (w.setCell ⟨g, j, none⟩ u).ownsRow base e size v n xs :=
  h.kept (row := some g) (gr_set (gr_refl w (some g)) u) (by
    cases hv : v.ownBlock with
    | none => exact .inl rfl
    | some k => exact .inr (fun e => by cases e; have := (h.lt g hv).1; omega))
theorem box3s {C : World → Prop} {w : World} {o1 o2 o3 : Obj} (h : ∀ wb, Below w.heap.size w wb → wb.heap.size = w.heap.size + 3 → wb.heap[w.heap.size]? = some o1 → wb.heap[w.heap.size + 1]? = some o2 → wb.heap[w.heap.size + 2]? = some o3 → Below wb.heap.size wb wb → C wb) : C (((w.alloc o1).alloc o2).alloc o3) :=
  box3 (C := fun W => W.heap.size = w.heap.size + 3 → C W) (fun wb a b c d e f => h wb a f b c d e) (by simp)
set_option maxHeartbeats 1000000 in
theorem szMethodS_any (V : Value) (ms : List Mt) (k0 : Int) (w : World) (h : Meths w V ms) (h0 : 0 ≤ k0) (hk0 : k0 ≤ 1048576) : Calls Try.prog 10 #[V, .int .i64 k0] w fun e w' =>
    ∃ r : Int, e = .returned (.int .i64 r) ∧ -1 ≤ r ∧ r ≤ 1048576 ∧ (0 ≤ r → AllSmall ms) ∧ Below w.heap.size w w' := by
  obtain ⟨vs, hvl, ⟨A, c, rfl, h1, h2, hr⟩, hat⟩ := h
  unfold maxLen at h2
  have Hat := Lib.hid hat
  clear hat
  by_cases hbig : (ms.length : Int) ≤ k0
  · go_enter Try.func10, Try.ntmps10
    go_wp2_with fail
    go_loopw [1, 5] (fun l i wr => ∃ k : Nat, ∃ r : Int, k ≤ ms.length ∧ i = .int .i64 k ∧ l = .int .i64 r ∧ 0 ≤ r ∧ r ≤ 1048576 ∧ (∀ s ∈ ms.take k, MtSmall s) ∧ Below w.heap.size w wr) (fun _ i _ => ms.length - (intOf i).toNat)
    case atStart => exact ⟨0, k0 - ms.length, by omega, rfl, rfl, by omega, by omega, by simp, Below.refl _ _⟩
    case round =>
      obtain ⟨k, r, hk, rfl, rfl, hr0, hr1, hs, hB⟩ := hrel
      have Hs := Lib.hid hs
      clear hs
      by_cases hlt : k < ms.length
      · obtain ⟨ad, v, rfl, hmem, hC⟩ := meths_el hvl hr rfl hlt
        have hm := (Hat.out _ hmem).to hB
        go_wp2_with fail
        refine (szMethod_any ms[k] v _ _ hm hr0 hr1).mono ?_; rintro e w1 ⟨r', rfl, hr0', hr1', hsm, hb1⟩
        have Hsm := Lib.hid hsm
        clear hsm
        go_wp2_with fail
        · go_ret
          exact ⟨_, rfl, by omega, by omega, fun h => absurd h (by omega), bw_to hB hb1⟩
        · refine ⟨⟨k + 1, _, by omega, by go_num, rfl, by assumption, by omega, take_allM hlt Hs.out (Hsm.out (by omega)), bw_to hB hb1⟩, by simp [intOf]; omega⟩
      · go_wp2_with fail
        go_ret
        obtain rfl : k = ms.length := by omega
        refine ⟨_, rfl, by omega, by omega, fun _ => ⟨by omega, ?_⟩, hB⟩
        have := Hs.out
        rwa [List.take_length] at this
  · go_enter Try.func10, Try.ntmps10
    go_wp2_with fail
    go_ret
    exact ⟨_, rfl, by omega, by omega, fun h => absurd h (by omega), Below.refl _ _⟩
set_option maxHeartbeats 1000000 in
theorem toMethod_any (m : Mt) (v : Value) (w : World) (h : MethAt w m v) (hbig : MtSmall m) : Calls Try.prog 19 #[m.v v] w fun e w' =>
    ∃ r : Value, e = .returned (m.v r) ∧ w'.ownsRow w.heap.size 9 1 r m.l.length (m.l.map Value.string) ∧ Below w.heap.size w w' := by
  unfold Mt.v
  have hr := h.1
  clear h
  go_enter Try.func19, Try.ntmps19
  go_wp2_with fail
  refine box3s (C := fun W => Calls _ _ _ W _) ?_
  intro wb hw hwsz k1 k2 k3 hB0
  refine (toStringS_any _ _ _ (hr.to hw) hbig.2.1).mono ?_; rintro e w1 ⟨r, rfl, hown, hb1⟩
  have R2 := boxRule k2
  have R3 := boxRule k3
  have F2 := fun j => frozen_of_heap k2 j hb1
  have F3 := fun j => frozen_of_heap k3 j hb1
  have Hwsz := Lib.hid hwsz
  clear k1 k2 k3 hwsz
  obtain ⟨A, c, hrs⟩ : ∃ A c, r = .slice A m.l.length c := let ⟨A, c, e, _⟩ := sl_of_own hown; ⟨A, c, e⟩
  subst hrs
  go_wp2_with fail
  have hsz : wb.heap.size = w.heap.size + 3 := Hwsz.out
  refine bodyPost_ret (v := .agg #[.string m.name, .int .i64 m.stage, .slice A m.l.length c]) ?hr rfl ⟨_, rfl, ?ho, ?hb⟩
  case ho =>
    refine own_base (own_past (g := w.heap.size + 1) (own_past (g := w.heap.size + 1) (own_past (g := w.heap.size + 1) (own_past (g := w.heap.size + 1 + 1) hown ?_ _ _) ?_ _ _) ?_ _ _) ?_ _ _) hw.size <;> omega
  case hb =>
    exact grow_set (grow_set (grow_set (grow_set (bw_to hw hb1) (by omega) _) (by omega) _) (by omega) _) (by omega) _
  case hr =>
    have r0 := R2 w1 0 hb1
    have r1 := R2 w1 1 hb1
    have r2 := R2 w1 2 hb1
    simp [results, go_sem, r0, r1, r2]
theorem own3 {w : World} {base : Nat} {e : TypeId} {n g cap k : Nat} {xs : List Value} (h : w.ownsRow base e 3 (.slice (some ⟨g, 0, none⟩) n cap) n xs) (hk : k < n) :
    (∃ y0 y1 y2, w.cell? ⟨g, k * 3, none⟩ = some y0 ∧ w.cell? ⟨g, k * 3 + 1, none⟩ = some y1 ∧ w.cell? ⟨g, k * 3 + 2, none⟩ = some y2) ∧
    (w.frozen? ⟨g, k * 3, none⟩ = false ∧ w.frozen? ⟨g, k * 3 + 1, none⟩ = false ∧ w.frozen? ⟨g, k * 3 + 2, none⟩ = false) := by
  obtain ⟨y0, e0⟩ := own_some h (j := k * 3) (by omega)
  obtain ⟨y1, e1⟩ := own_some h (j := k * 3 + 1) (by omega)
  obtain ⟨y2, e2⟩ := own_some h (j := k * 3 + 2) (by omega)
  exact ⟨⟨y0, y1, y2, e0, e1, e2⟩, h.frozenAt _, h.frozenAt _, h.frozenAt _⟩
theorem take_set3 {cs ds : List Value} {k n : Nat} {v0 v1 v2 : Value} (hl : cs.length = n * 3) (hk : k < n) (h : cs.take (k * 3) = ds) :
    (((cs.set (k * 3) v0).set (k * 3 + 1) v1).set (k * 3 + 2) v2).take ((k + 1) * 3) = ds ++ [v0, v1, v2] := by
  rw [show (k + 1) * 3 = k * 3 + 2 + 1 from by omega, take_set_last (by simp; omega), take_set_last (by simp; omega), take_set_last (by omega), h]
  simp
theorem zip_snoc {ms : List Mt} {vs : List Value} {k : Nat} (hk : k < ms.length) (hv : vs.length = k) (v : Value) : (ms.take (k + 1)).zip (vs ++ [v]) = (ms.take k).zip vs ++ [(ms[k], v)] := by
  rw [List.take_succ_eq_append_getElem hk, List.zip_append (by simp; omega)]
  rfl
/-- A row of methods of the call's own, each with a slice of its own. -/
def OwnMeths (w : World) (base : Nat) (v : Value) (ms : List Mt) : Prop := ∃ vs : List Value, vs.length = ms.length ∧ w.ownsRow base 36 3 v ms.length ((ms.zip vs).flatMap mcells) ∧ ∀ p ∈ ms.zip vs, w.ownsRow base 9 1 p.2 p.1.l.length (p.1.l.map Value.string)
theorem OwnMeths.meths {w : World} {base : Nat} {v : Value} {ms : List Mt} (h : OwnMeths w base v ms) (hs : AllSmall ms) : Meths w v ms := by
  obtain ⟨vs, h1, h2, h3⟩ := h
  refine ⟨vs, h1, sl_of_own h2, fun p hp => ⟨strs_of_own (h3 p hp), ?_, ?_⟩⟩
  · exact Nat.le_trans (hs.2 p.1 (List.of_mem_zip hp).1).1 (by unfold maxLen; omega)
  · exact (hs.2 p.1 (List.of_mem_zip hp).1).2.fits
theorem OwnMeths.to {w w' : World} {base : Nat} {v : Value} {ms : List Mt} (h : OwnMeths w base v ms) (hb : Below w.heap.size w w') : OwnMeths w' base v ms :=
  let ⟨vs, h1, h2, h3⟩ := h; ⟨vs, h1, own_to h2 hb, fun p hp => own_to (h3 p hp) hb⟩
theorem info_meth : (Try.prog.info? 36).map (fun i => (i.zero, i.size, i.bytes)) = some (some (.agg #[.string ⟨#[]⟩, .int .i64 0, .slice none 0 0]), 3, 48) := by kernel_rfl
set_option maxHeartbeats 1000000 in
theorem toMethodS_any (V : Value) (ms : List Mt) (w : World) (h : Meths w V ms) (hbig : AllSmall ms) : Calls Try.prog 12 #[V] w fun e w' =>
    ∃ r : Value, e = .returned r ∧ OwnMeths w' w.heap.size r ms ∧ Below w.heap.size w w' := by
  obtain ⟨vs0, hvl, ⟨A, c, rfl, h1, h2, hr⟩, hat⟩ := h
  unfold maxLen at h2
  have Hat := Lib.hid hat
  have Hsm := Lib.hid hbig.2
  have hlen := hbig.1
  clear hat hbig
  obtain ⟨i0, hi0, hz0, hs0, hb0⟩ := info_parts info_meth
  go_enter Try.func12, Try.ntmps12
  go_wp2_with (at_make; refine wpList_make_full _ rfl _ _ _ rfl w.heap.size 36 i0 _ 3 Try.underlying25 hi0 hz0 hs0 _ _ _ _ ms.length rfl rfl rfl rfl (by rw [hb0]; omega) (by unfold maxLen; omega) (Nat.le_refl _) ?_; intro w1 hown1 hgr1)
  have hB1 := bw_gr (Below.refl _ _) hgr1
  have hsz1 : w.heap.size + 1 ≤ w1.heap.size := (hown1.lt w.heap.size rfl).2
  go_loopw [4] (fun i wr => ∃ k : Nat, k ≤ ms.length ∧ i = .int .i64 k ∧ Below w.heap.size w wr ∧ w.heap.size + 1 ≤ wr.heap.size ∧ ∃ vs : List Value, vs.length = k ∧ (∀ p ∈ (ms.take k).zip vs, wr.ownsRow (w.heap.size + 1) 9 1 p.2 p.1.l.length (p.1.l.map Value.string)) ∧
      ∃ cs : List Value, wr.ownsRow w.heap.size 36 3 (.slice (some ⟨w.heap.size, 0, none⟩) ms.length ms.length) ms.length cs ∧ cs.take (k * 3) = ((ms.take k).zip vs).flatMap mcells)
    (fun i _ => ms.length - (intOf i).toNat)
  case atStart => exact ⟨0, by omega, rfl, hB1, hsz1, [], rfl, by simp, _, hown1, by simp⟩
  case round =>
    obtain ⟨k, hk, rfl, hB, hsz, vs, hvk, hin, cs, hown, hcs⟩ := hrel
    have Hcs := Lib.hid hcs
    have Hin := Lib.hid hin
    clear hcs hin
    by_cases hlt : k < ms.length
    · obtain ⟨ad, v, rfl, hmem, hC⟩ := meths_el hvl hr rfl hlt
      have hm := (Hat.out _ hmem).to hB
      go_wp2_with fail
      refine (toMethod_any ms[k] v _ hm (Hsm.out _ (List.getElem_mem hlt))).mono ?_; rintro e w2 ⟨r, rfl, hownr, hb2⟩
      have hown2 := own_to hown hb2
      obtain ⟨⟨y0, y1, y2, hy⟩, hf⟩ := own3 hown2 hlt
      unfold Mt.v
      obtain ⟨A, c, hrs⟩ : ∃ A c, r = .slice A (ms[k]).l.length c := let ⟨A, c, e, _⟩ := sl_of_own hownr; ⟨A, c, e⟩
      subst hrs
      go_wp2_with fail
      refine ⟨⟨k + 1, by omega, by go_num, ?_, ?_, vs ++ [.slice A (ms[k]).l.length c], by simp [hvk], ?_, _, own_set (own_set (own_set hown2 _ _) _ _) _ _, ?_⟩, by simp [intOf]; omega⟩
      · exact grow_set (grow_set (grow_set (bw_to hB hb2) (Nat.le_refl _) _) (Nat.le_refl _) _) (Nat.le_refl _) _
      · simpa [World.setCell] using Nat.le_trans hsz hb2.size
      · rw [zip_snoc hlt hvk]
        intro p hp
        rcases List.mem_append.1 hp with hp | hp
        · exact own_past (own_past (own_past (own_to (Hin.out p hp) hb2) (by omega) _ _) (by omega) _ _) (by omega) _ _
        · rw [List.mem_singleton.1 hp]
          exact own_past (own_past (own_past (own_base hownr hsz) (by omega) _ _) (by omega) _ _) (by omega) _ _
      · rw [take_set3 hown.1 hlt Hcs.out, zip_snoc hlt hvk, List.flatMap_append]; rfl
    · go_wp2_with fail
      go_ret
      obtain rfl : k = ms.length := by omega
      have hcs := Hcs.out
      have hin := Hin.out
      rw [List.take_of_length_le (by rw [hown.1]; exact Nat.le_refl _), List.take_length] at hcs
      rw [List.take_length] at hin
      refine ⟨_, rfl, ⟨vs, hvk, ?_, fun p hp => own_base (hin p hp) (by omega)⟩, hB⟩
      rw [← hcs]
      exact hown
set_option maxHeartbeats 1000000 in
theorem eqMethod_same (m : Mt) (v v' : Value) (w : World) (h : Strs w v m.l) (h' : Strs w v' m.l) : Calls Try.prog 21 #[m.v v, m.v v'] w fun e w' => e = .returned (.bool true) ∧ Below w.heap.size w w' := by
  unfold Mt.v
  go_enter Try.func21, Try.ntmps21
  go_wp2_with fail
  refine box2 (C := fun W => Calls _ _ _ W _) ?_
  intro wb hw k1 k2 hB0
  refine (eqStringS_same _ _ _ _ (h.to hw) (h'.to hw)).mono ?_; rintro e w1 ⟨rfl, hb1⟩
  go_wp2_with fail
  go_ret
  exact ⟨rfl, bw_to hw hb1⟩
set_option maxHeartbeats 1000000 in
theorem eqMethodS_same (a b : Value) (ms : List Mt) (w : World) (ha : Meths w a ms) (hb : Meths w b ms) : Calls Try.prog 14 #[a, b] w fun e w' => e = .returned (.bool true) ∧ Below w.heap.size w w' := by
  obtain ⟨vs, hvl, ⟨A, c, rfl, h1, h2, hr⟩, hat⟩ := ha
  obtain ⟨vs', hvl', ⟨A', c', rfl, h1', h2', hr'⟩, hat'⟩ := hb
  unfold maxLen at h2 h2'
  have Hat := Lib.hid hat
  have Hat' := Lib.hid hat'
  clear hat hat'
  go_enter Try.func14, Try.ntmps14
  go_wp2_with fail
  go_loopw [5] (fun i wr => ∃ k : Nat, k ≤ ms.length ∧ i = .int .i64 k ∧ Below w.heap.size w wr) (fun i _ => ms.length - (intOf i).toNat)
  case atStart => exact ⟨0, by omega, rfl, Below.refl _ _⟩
  case round =>
    obtain ⟨k, hk, rfl, hB⟩ := hrel
    by_cases hlt : k < ms.length
    · obtain ⟨ad, v, rfl, hmem, hC⟩ := meths_el hvl hr rfl hlt
      obtain ⟨ad', v', rfl, hmem', hC'⟩ := meths_el hvl' hr' rfl hlt
      have hm := (Hat.out _ hmem).1
      have hm' := (Hat'.out _ hmem').1
      go_wp2_with fail
      go_region_held3 (fun w' => Below w.heap.size w w') (first | exact Below.drew (by assumption) | exact bw_to (by assumption) hb')
        (first | (go_at_call 21; refine (eqMethod_same ms[k] _ _ _ (hm.to (by assumption)) (hm'.to (by assumption))).mono ?_; rintro e w' ⟨rfl, hb'⟩))
      go_wp2_with fail
      exact ⟨⟨k + 1, by omega, by go_num, by assumption⟩, by simp [intOf]; omega⟩
    · go_wp2_with fail
      go_ret
      exact ⟨rfl, hB⟩
end Go.Proofs.Ytnbehldacehiiaa
