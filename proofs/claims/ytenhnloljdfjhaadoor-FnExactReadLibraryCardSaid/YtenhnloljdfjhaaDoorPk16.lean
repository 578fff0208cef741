/- Contract: a library of the call's own, marked. -/
import Derived.Test.YtenhnloljdfjhaaDoorPk15
import Derived.Test.YtenhnloljdfjhaaDoorPk13
namespace Go.Proofs.YtenhnloljdfjhaaDoor
open Go Go.RowKit
set_option linter.unusedVariables false
set_option linter.unusedSimpArgs false

/-- All blocks of w but those from lo to hi are as they were. -/
structure Out (lo hi : Nat) (w w' : World) : Prop where
  os : w'.os = w.os
  tape : w'.tape = w.tape
  output : w'.output = w.output
  size : w.heap.size ≤ w'.heap.size
  block : ∀ k, k < w.heap.size → (k < lo ∨ hi ≤ k) → w'.heap[k]? = w.heap[k]?
theorem Out.refl (lo hi : Nat) (w : World) : Out lo hi w w := ⟨rfl, rfl, rfl, Nat.le_refl _, fun _ _ _ => rfl⟩
theorem Out.trans {lo hi : Nat} {a b c : World} (h : Out lo hi a b) (h' : Out lo hi b c) : Out lo hi a c :=
  ⟨h'.os.trans h.os, h'.tape.trans h.tape, h'.output.trans h.output, Nat.le_trans h.size h'.size, fun k hk hn => (h'.block k (Nat.lt_of_lt_of_le hk h.size) hn).trans (h.block k hk hn)⟩
theorem Out.below {lo hi : Nat} {a b c : World} (h : Out lo hi a b) (hb : Below b.heap.size b c) : Out lo hi a c :=
  ⟨hb.os.trans h.os, hb.tape.trans h.tape, hb.output.trans h.output, Nat.le_trans h.size hb.size, fun k hk hn => (hb.block k (Nat.lt_of_lt_of_le hk h.size)).trans (h.block k hk hn)⟩
theorem Out.grown {lo hi : Nat} {a b c : World} {row : Option Nat} (h : Out lo hi a b) (hg : b.grownBy c row) (hr : ∀ k, row = some k → lo ≤ k ∧ k < hi) : Out lo hi a c :=
  ⟨hg.os.trans h.os, hg.tape.trans h.tape, hg.output.trans h.output, Nat.le_trans h.size hg.size, fun k hk hn => (hg.block k (Nat.lt_of_lt_of_le hk h.size) (fun e => by have := hr k e.symm; omega)).trans (h.block k hk hn)⟩
theorem Out.set {lo hi : Nat} {a b : World} {g j : Nat} (h : Out lo hi a b) (hg : lo ≤ g ∧ g < hi) (u : Value) : Out lo hi a (b.setCell ⟨g, j, none⟩ u) :=
  h.grown (gr_set (gr_refl b (some g)) u) (fun k e => by cases e; exact hg)
theorem Out.base {lo hi : Nat} {a b c : World} (hb : Below a.heap.size a b) (h : Out lo hi b c) (hlo : a.heap.size ≤ lo) : Below a.heap.size a c :=
  ⟨h.os.trans hb.os, h.tape.trans hb.tape, h.output.trans hb.output, Nat.le_trans hb.size h.size, fun k hk => (h.block k (Nat.lt_of_lt_of_le hk hb.size) (.inl (by omega))).trans (hb.block k hk)⟩
theorem own_out {w w' : World} {lo hi base n : Nat} {e : TypeId} {size : Nat} {v : Value} {xs : List Value} (h : w.ownsRow base e size v n xs) (ho : Out lo hi w w') (hn : ∀ k, v.ownBlock = some k → k < lo ∨ hi ≤ k) : w'.ownsRow base e size v n xs := by
  obtain ⟨h1, h2⟩ := h
  refine ⟨h1, ?_⟩
  rcases h2 with h2 | ⟨g, cap, cur, rfl, hb, hg, r⟩
  · exact .inl h2
  · exact .inr ⟨g, cap, cur, rfl, hb, (ho.block g (Array.getElem?_eq_some_iff.1 hg).1 (hn g rfl)).trans hg, r⟩
theorem mbox_out {w w' : World} {lo hi G : Nat} {m : Mt} {r : Value} (h : MBox w G m r) (ho : Out lo hi w w') (hn : G < lo ∨ hi ≤ G) : MBox w' G m r :=
  own_out (by unfold MBox at h; exact h) ho (fun k e => by cases e; exact hn)
/-- Rows of two kinds of elements lie in two blocks. -/
theorem own_kinds {w : World} {b1 b2 : Nat} {e1 e2 : TypeId} {s1 s2 n1 n2 : Nat} {v1 v2 : Value} {x1 x2 : List Value} (h1 : w.ownsRow b1 e1 s1 v1 n1 x1) (h2 : w.ownsRow b2 e2 s2 v2 n2 x2) (he : e1 ≠ e2) : v1.ownBlock = none ∨ v1.ownBlock ≠ v2.ownBlock := by
  rcases h1.2 with ⟨rfl, _⟩ | ⟨g, cap, cur, rfl, _, hg, _⟩
  · exact .inl rfl
  · refine .inr fun e => ?_
    rcases h2.2 with ⟨rfl, _⟩ | ⟨g', cap', cur', rfl, _, hg', _⟩
    · cases e
    · have : g = g' := by simpa [Value.ownBlock] using e
      subst this
      rw [hg] at hg'
      injection hg' with h
      injection h with _ h _
      exact he h
/-- A row is written: another row of that kind is a row still. -/
theorem own_still {w w' : World} {base : Nat} {e : TypeId} {n m : Nat} {u v : Value} {ds xs xs' : List Value} (h : w.ownsRow base e 1 v n ds) (hk : w.ownsRow base e 1 u m xs) (hk' : w'.ownsRow base e 1 u m xs') (hg : w.grownBy w' u.ownBlock) : ∃ ds, w'.ownsRow base e 1 v n ds := by
  by_cases hne : v.ownBlock = none ∨ v.ownBlock ≠ u.ownBlock
  · exact ⟨ds, h.kept hg hne⟩
  · rcases h.2 with ⟨rfl, rfl⟩ | ⟨g, cap, cur, rfl, hb, hh, hnc, hcm, hs, _⟩
    · exact ⟨[], World.ownsRow_nil _ _ _ _⟩
    · rcases hk.2 with ⟨rfl, _⟩ | ⟨g1, cap1, cur1, rfl, _, hh1, _, _, hs1, _⟩
      · exact absurd (.inr (by simp [Value.ownBlock])) hne
      · have hgg : g = g1 := by
          have : ¬ (Value.slice (some ⟨g, 0, none⟩) n cap).ownBlock ≠ (Value.slice (some ⟨g1, 0, none⟩) m cap1).ownBlock := fun e => hne (.inr e)
          simpa [Value.ownBlock] using this
        subst hgg
        rcases hk'.2 with ⟨h0, _⟩ | ⟨g2, cap2, cur2, hv2, _, hh2, _, _, hs2, _⟩
        · cases h0
        · cases hv2
          rw [hh] at hh1
          cases hh1
          refine ⟨cur2.toList.take (n * 1), by rw [List.length_take, Array.length_toList]; omega, .inr ⟨g, cap, cur2, rfl, hb, hh2, hnc, hcm, by omega, rfl⟩⟩
/-- As OwnMeths, all blocks before hi. -/
def OwnIn (w : World) (base hi : Nat) (v : Value) (ms : List Mt) : Prop := ∃ vs : List Value, vs.length = ms.length ∧ w.ownsRow base 34 3 v ms.length ((ms.zip vs).flatMap mcells) ∧ (∀ k, v.ownBlock = some k → k < hi) ∧
  ∀ p ∈ ms.zip vs, w.ownsRow base 9 1 p.2 p.1.l.length (p.1.l.map Value.string) ∧ ∀ k, p.2.ownBlock = some k → k < hi
theorem OwnMeths.inside {w : World} {base : Nat} {v : Value} {ms : List Mt} (h : OwnMeths w base v ms) : OwnIn w base w.heap.size v ms := by
  obtain ⟨vs, h1, h2, h3⟩ := h
  exact ⟨vs, h1, h2, fun k hk => (h2.lt k hk).2, fun p hp => ⟨h3 p hp, fun k hk => ((h3 p hp).lt k hk).2⟩⟩
theorem OwnIn.to {w w' : World} {base hi : Nat} {v : Value} {ms : List Mt} (h : OwnIn w base hi v ms) (hb : Below w.heap.size w w') : OwnIn w' base hi v ms := by
  obtain ⟨vs, h1, h2, h3, h4⟩ := h
  exact ⟨vs, h1, own_to h2 hb, h3, fun p hp => ⟨own_to (h4 p hp).1 hb, (h4 p hp).2⟩⟩
theorem OwnIn.own {w : World} {base hi : Nat} {v : Value} {ms : List Mt} (h : OwnIn w base hi v ms) : OwnMeths w base v ms :=
  let ⟨vs, h1, h2, _, h4⟩ := h; ⟨vs, h1, h2, fun p hp => (h4 p hp).1⟩
theorem cells3 {ms : List Mt} {vs : List Value} (hl : vs.length = ms.length) {i : Nat} (hi : i < ms.length) : ((ms.zip vs).flatMap mcells)[i * 3 + 2]? = some (vs[i]'(by omega)) := by
  rw [flat_get (C := mcells) (sz := 3) (fun _ _ => rfl) (i := i) (x := (ms[i], vs[i]'(by omega))) (by rw [List.getElem?_eq_getElem (by simp; omega), List.getElem_zip]) (by omega)]
  rfl
theorem own_set_past {w : World} {base g : Nat} {e : TypeId} {size n : Nat} {v : Value} {xs : List Value} (h : w.ownsRow base e size v n xs) (hne : v.ownBlock = none ∨ v.ownBlock ≠ some g) (j : Nat) (u : Value) : (w.setCell ⟨g, j, none⟩ u).ownsRow base e size v n xs :=
  h.kept (gr_set (gr_refl w (some g)) u) hne
set_option maxHeartbeats 2000000 in
theorem markMethodS_any (V : Value) (ms : List Mt) (base hi k0 : Nat) (w : World) (h : OwnIn w base hi V ms) (hs : AllSmall ms) (hk0 : k0 ≤ 1000) : Calls Tryd.prog 7 #[V, .int .i64 k0] w fun e w' =>
    ∃ r : Nat, e = .returned (.int .i64 (r : Int)) ∧ r ≤ k0 + 1048578 * ms.length ∧ Out base hi w w' := by
  obtain ⟨vs, hvl, hV, hVh, hrows⟩ := h
  have hlen := hs.1
  have Hs := Lib.hid hs.2
  clear hs
  have hV0 := hV
  rcases hV.2 with ⟨rfl, h0⟩ | ⟨g, cap, cur, rfl, hbg, hh, hnc, hcm, _⟩
  · rw [h0]
    clear hV hV0 hrows hVh hvl
    go_enter Tryd.func7, Tryd.ntmps7
    go_wp2_with fail
    go_loopw [1, 5] (fun q i wr => q = .int .i64 k0 ∧ i = .int .i64 0 ∧ wr = w) (fun _ _ _ => 0)
    case atStart => exact ⟨rfl, rfl, rfl⟩
    case round =>
      obtain ⟨rfl, rfl, rfl⟩ := hrel
      go_wp2_with fail
      go_ret
      exact ⟨k0, rfl, by omega, Out.refl _ _ _⟩
  · unfold maxLen at hcm
    have hgh : base ≤ g ∧ g < hi := ⟨hbg, hVh g rfl⟩
    have Hrows := Lib.hid hrows
    have HV := Lib.hid hV0
    clear hV hV0 hVh hrows hh
    go_enter Tryd.func7, Tryd.ntmps7
    go_wp2_with fail
    go_loopw [1, 5] (fun z i wr => ∃ k q : Nat, k ≤ ms.length ∧ i = .int .i64 k ∧ z = .int .i64 q ∧ q ≤ k0 + 1048578 * k ∧ Out base hi w wr ∧ (∃ ds, wr.ownsRow base 34 3 (.slice (some ⟨g, 0, none⟩) ms.length cap) ms.length ds ∧ ∀ (i : Nat) (hi : i < ms.length), ds[i * 3 + 2]? = some (vs[i]'(by omega))) ∧
        ∀ p ∈ ms.zip vs, ∃ ds, wr.ownsRow base 9 1 p.2 p.1.l.length ds) (fun _ i _ => ms.length - (intOf i).toNat)
    case atStart => exact ⟨0, k0, by omega, rfl, rfl, by omega, Out.refl _ _ _, ⟨_, HV.out, fun i hi => cells3 hvl hi⟩, fun p hp => ⟨_, (Hrows.out p hp).1⟩⟩
    case round =>
      obtain ⟨k, q, hk, rfl, rfl, hq, hout, ⟨ds, hown, hds⟩, hin⟩ := hrel
      by_cases hlt : k < ms.length
      · have Hin := Lib.hid hin
        have Hds := Lib.hid hds
        have Hout := Lib.hid hout
        have hmem : (ms[k], vs[k]'(by omega)) ∈ ms.zip vs := by
          have hz : k < (ms.zip vs).length := by simp; omega
          have := List.getElem_mem hz
          rwa [List.getElem_zip] at this
        obtain ⟨x, hx⟩ : ∃ x, x = vs[k]'(by omega) := ⟨_, rfl⟩
        obtain ⟨y, hy⟩ : ∃ y, y = ms[k] := ⟨_, rfl⟩
        rw [← hx, ← hy] at hmem
        have hyl : y.l.length ≤ 1048576 := (Hs.out y (by rw [hy]; exact List.getElem_mem hlt)).2.1
        have Hmem := Lib.hid hmem
        have Hx := Lib.hid hx
        clear hin hds hout hmem hx hy
        go_wp2_with fail
        refine (markText_any q _ (by omega)).mono ?_; rintro e w2 ⟨rfl, hb2⟩
        have hown2 := own_to hown hb2
        obtain ⟨⟨y0, y1, y2, hy0, hy1, hy2⟩, hf0, hf1, hf2⟩ := own3 hown2 hlt
        have hxe : y2 = x := by
          have h1 := hown2.cellAt (k * 3 + 2) (by omega)
          rw [hy2, Hds.out k hlt, ← Hx.out] at h1
          injection h1
        subst hxe
        have Hb2 := Lib.hid hb2
        obtain ⟨es, hes0⟩ := Hin.out _ Hmem.out
        have hes : wr.ownsRow base 9 1 y2 y.l.length es := hes0
        clear hes0
        have hes2 := own_to hes hb2
        have hne := own_kinds hes2 hown2 (by decide)
        have hne' : y2.ownBlock = none ∨ y2.ownBlock ≠ some g := hne
        obtain ⟨Ax, cx, hxs, _⟩ := sl_of_own hes
        subst hxs
        have Hes2 := Lib.hid hes2
        have Hown2 := Lib.hid hown2
        have Hne := Lib.hid hne'
        clear hown hb2 hes hes2 hown2 hne hne'
        go_wp2_with fail
        have hs2 := own_set (own_set Hown2.out (k * 3) (.string (mText q))) (k * 3 + 1) (.int .i64 ((q : Int) + 1))
        have he2 := own_set_past (own_set_past Hes2.out Hne.out (k * 3) (.string (mText q))) Hne.out (k * 3 + 1) (.int .i64 ((q : Int) + 1))
        refine (markStringS_any _ y.l.length (q + 2) es base _ he2 hyl (by omega)).mono ?_
        rintro e w3 ⟨rfl, hown3, hg3⟩
        have hout3 := (((Hout.out.below Hb2.out).set hgh (j := k * 3) (.string (mText q))).set hgh (j := k * 3 + 1) (.int .i64 ((q : Int) + 1))).grown hg3 (fun b hb => ⟨(he2.lt b hb).1, (Hrows.out _ Hmem.out).2 b hb⟩)
        have hs3 := hs2.kept hg3 (own_kinds hs2 he2 (by decide))
        have HIn := Lib.hid (fun p hp => let ⟨d, hd⟩ := Hin.out p hp
          own_still (own_set_past (own_set_past (own_to hd Hb2.out) (own_kinds (own_to hd Hb2.out) Hown2.out (by decide)) (k * 3) (.string (mText q))) (own_kinds (own_to hd Hb2.out) Hown2.out (by decide)) (k * 3 + 1) (.int .i64 ((q : Int) + 1))) he2 hown3 hg3)
        have Hs3 := Lib.hid hs3
        have Hout3 := Lib.hid hout3
        clear hs2 he2 hown3 hg3 hout3 hs3
        go_wp2_with fail
        refine ⟨⟨k + 1, q + 2 + y.l.length, by omega, by go_num, congrArg (Value.int .i64) (by omega), by omega, Hout3.out, ⟨_, Hs3.out, fun i hi => ?_⟩, fun p hp => HIn.out p hp⟩, by simp [intOf]; omega⟩
        rw [List.getElem?_set_ne (by omega), List.getElem?_set_ne (by omega)]
        exact Hds.out i hi
      · go_wp2_with fail
        go_ret
        obtain rfl : k = ms.length := by omega
        exact ⟨q, rfl, by omega, hout⟩
end Go.Proofs.YtenhnloljdfjhaaDoor

/- One method put into a row (slices.Insert). -/
namespace Go.Proofs.YtenhnloljdfjhaaDoor
open Go Go.RowKit
set_option linter.unusedVariables false
set_option linter.unusedSimpArgs false

theorem gr_setRow {a w : World} {g : Nat} (h : a.grownBy w (some g)) (cs : Array Value) : a.grownBy (w.setRow g cs) (some g) :=
  have b := bw_setRow (Below.refl 0 w) (Nat.zero_le g) cs
  ⟨b.os.trans h.os, b.tape.trans h.tape, b.output.trans h.output, Nat.le_trans h.size b.size, fun k hk hne => (setRow_other w g k cs (fun e => hne (by rw [e]))).trans (h.block k hk hne)⟩
theorem gr_bw {a w : World} (h : Below a.heap.size a w) (row : Option Nat) : a.grownBy w row := ⟨h.os, h.tape, h.output, h.size, fun k hk _ => h.block k hk⟩
end Go.Proofs.YtenhnloljdfjhaaDoor
