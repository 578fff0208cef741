/- Contracts: a library of the call's own, marked and found held. -/
import Derived.Test.YtenhnloljdfjhaaDoorPk18
namespace Go.Proofs.YtenhnloljdfjhaaDoor
open Go Go.RowKit
set_option linter.unusedVariables false
set_option linter.unusedSimpArgs false

/-- Methods as they lie in memory, whatever the sizes of their strings. -/
def MethsS (w : World) (v : Value) (ms : List Mt) : Prop := ∃ vs : List Value, vs.length = ms.length ∧ Sl w 3 v ms.length ((ms.zip vs).flatMap mcells) ∧ ∀ p ∈ ms.zip vs, Strs w p.2 p.1.l
theorem OwnMeths.strs {w : World} {base : Nat} {v : Value} {ms : List Mt} (h : OwnMeths w base v ms) : MethsS w v ms := by
  obtain ⟨vs, h1, h2, h3⟩ := h
  exact ⟨vs, h1, sl_of_own h2, fun p hp => strs_of_own (h3 p hp)⟩
theorem MethsS.to {w w' : World} {v : Value} {ms : List Mt} (h : MethsS w v ms) (hb : Below w.heap.size w w') : MethsS w' v ms :=
  let ⟨vs, h1, h2, h3⟩ := h; ⟨vs, h1, h2.to hb, fun p hp => (h3 p hp).to hb⟩
theorem OwnIn.out {w w' : World} {base hi lo hi' : Nat} {v : Value} {ms : List Mt} (h : OwnIn w base hi v ms) (ho : Out lo hi' w w') (hl : hi ≤ lo) : OwnIn w' base hi v ms := by
  obtain ⟨vs, h1, h2, h3, h4⟩ := h
  exact ⟨vs, h1, own_out h2 ho (fun k hk => .inl (Nat.lt_of_lt_of_le (h3 k hk) hl)), h3, fun p hp => ⟨own_out (h4 p hp).1 ho (fun k hk => .inl (Nat.lt_of_lt_of_le ((h4 p hp).2 k hk) hl)), (h4 p hp).2⟩⟩
theorem OwnIn.below {w w' : World} {base hi B : Nat} {v : Value} {ms : List Mt} (h : OwnIn w base hi v ms) (hb : Below B w w') (hl : hi ≤ B) : OwnIn w' base hi v ms :=
  h.out (lo := B) (hi' := w.heap.size) ⟨hb.os, hb.tape, hb.output, hb.size, fun k hk hn => hb.block k (by omega)⟩ hl
theorem OwnIn.kept {w w' : World} {base hi : Nat} {row : Option Nat} {v : Value} {ms : List Mt} (h : OwnIn w base hi v ms) (hg : w.grownBy w' row) (hr : ∀ k, row = some k → hi ≤ k) : OwnIn w' base hi v ms := by
  obtain ⟨vs, h1, h2, h3, h4⟩ := h
  have key : ∀ u : Value, (∀ k, u.ownBlock = some k → k < hi) → u.ownBlock = none ∨ u.ownBlock ≠ row := by
    intro u hu
    cases hb : u.ownBlock with
    | none => exact .inl rfl
    | some b => exact .inr fun e => by have := hr b e.symm; have := hu b hb; omega
  exact ⟨vs, h1, h2.kept hg (key _ h3), h3, fun p hp => ⟨(h4 p hp).1.kept hg (key _ (h4 p hp).2), (h4 p hp).2⟩⟩
theorem OwnD.out {w w' : World} {base lo hi : Nat} {v : Value} {ms : List Mt} (h : OwnD w base v ms) (ho : Out lo hi w w') (hb : hi ≤ base) : OwnD w' base v ms := by
  obtain ⟨ps, h1, h2, h3⟩ := h
  exact ⟨ps, h1, ⟨own_out h2.1 ho (fun k hk => .inr (Nat.le_trans hb (h2.1.lt k hk).1)), fun p hp => own_out (h2.2 p hp) ho (fun k hk => .inr (Nat.le_trans hb ((h2.2 p hp).lt k hk).1))⟩, h3⟩
theorem OwnD.kept {w w' : World} {base : Nat} {row : Option Nat} {v : Value} {ms : List Mt} (h : OwnD w base v ms) (hg : w.grownBy w' row) (hr : ∀ k, row = some k → k < base) : OwnD w' base v ms := by
  obtain ⟨ps, h1, h2, h3⟩ := h
  have key : ∀ {e : TypeId} {s n : Nat} {u : Value} {xs : List Value}, w.ownsRow base e s u n xs → w'.ownsRow base e s u n xs := by
    intro e s n u xs ho
    refine ho.kept hg ?_
    cases hb : u.ownBlock with
    | none => exact .inl rfl
    | some b => exact .inr fun e => by have := hr b e.symm; have := (ho.lt b hb).1; omega
  exact ⟨ps, h1, ⟨key h2.1, fun p hp => key (h2.2 p hp)⟩, h3⟩
def endM : Nat → List Mt → Nat
  | q, [] => q
  | q, m :: t => endM (q + 2 + m.l.length) t
def markOf (q : Nat) (m : Mt) : Mt := ⟨mText q, (q : Int) + 1, marksT (q + 2) m.l.length⟩
def marksM : Nat → List Mt → List Mt
  | _, [] => []
  | q, m :: t => markOf q m :: marksM (q + 2 + m.l.length) t
theorem marksM_len : ∀ (q : Nat) (ms : List Mt), (marksM q ms).length = ms.length
  | _, [] => rfl
  | q, m :: t => by rw [marksM, List.length_cons, List.length_cons, marksM_len]
theorem endM_le : ∀ (q : Nat) (ms : List Mt), (∀ m ∈ ms, m.l.length ≤ 1048576) → endM q ms ≤ q + 1048578 * ms.length
  | _, [], _ => by simp [endM]
  | q, m :: t, h => by
    have h1 := h m (by simp)
    have h2 := endM_le (q + 2 + m.l.length) t (fun x hx => h x (by simp [hx]))
    rw [endM, List.length_cons]; omega
theorem endM_step : ∀ (q : Nat) (ms : List Mt) (k : Nat) (h : k < ms.length), endM q (ms.take (k + 1)) = endM q (ms.take k) + 2 + (ms[k]'h).l.length
  | _, [], _, h => absurd h (Nat.not_lt_zero _)
  | q, m :: t, 0, _ => by simp [endM]
  | q, m :: t, k + 1, h => by
    rw [List.take_succ_cons, List.take_succ_cons, endM, endM, endM_step _ t k (by simpa using h)]; rfl
theorem marksM_get : ∀ (q : Nat) (ms : List Mt) (k : Nat) (h : k < ms.length), (marksM q ms)[k]'(by rw [marksM_len]; exact h) = markOf (endM q (ms.take k)) (ms[k]'h)
  | _, [], _, h => absurd h (Nat.not_lt_zero _)
  | q, m :: t, 0, _ => by simp [marksM, endM]
  | q, m :: t, k + 1, h => by
    have ih := marksM_get (q + 2 + m.l.length) t k (by simpa using h)
    rw [List.take_succ_cons, endM]
    exact ih
/-- Elements 0 .. k-1 are marked. -/
def part (q : Nat) (ms : List Mt) (k : Nat) : List Mt := (marksM q ms).take k ++ ms.drop k
theorem part_zero (q : Nat) (ms : List Mt) : part q ms 0 = ms := by simp [part]
theorem part_all (q : Nat) (ms : List Mt) : part q ms ms.length = marksM q ms := by
  unfold part
  rw [List.take_of_length_le (by rw [marksM_len]; omega), List.drop_of_length_le (by omega), List.append_nil]
theorem part_len (q : Nat) (ms : List Mt) (k : Nat) (h : k ≤ ms.length) : (part q ms k).length = ms.length := by
  unfold part; simp [marksM_len]; omega
theorem part_get (q : Nat) (ms : List Mt) (k : Nat) (h : k < ms.length) : (part q ms k)[k]? = some (ms[k]'h) := by
  unfold part
  rw [List.getElem?_append_right (by simp [marksM_len]; omega)]
  simp only [List.length_take, marksM_len, Nat.min_eq_left (Nat.le_of_lt h), Nat.sub_self, List.getElem?_drop, Nat.add_zero]
  exact List.getElem?_eq_getElem h
theorem part_step (q : Nat) (ms : List Mt) (k : Nat) (h : k < ms.length) : (part q ms k).set k (markOf (endM q (ms.take k)) (ms[k]'h)) = part q ms (k + 1) := by
  unfold part
  have e1 : (marksM q ms).take (k + 1) = (marksM q ms).take k ++ [markOf (endM q (ms.take k)) (ms[k]'h)] := by
    rw [List.take_succ_eq_append_getElem (by rw [marksM_len]; exact h), marksM_get q ms k h]
  have e2 : ms.drop k = ms[k] :: ms.drop (k + 1) := List.drop_eq_getElem_cons h
  have hl : ((marksM q ms).take k).length = k := by simp [marksM_len]; omega
  rw [e1, e2, List.set_append_right _ _ (by omega), hl, Nat.sub_self, List.set_cons_zero, List.append_assoc]
  rfl
theorem OwnP.mark {w w2 w3 : World} {base g n c k : Nat} {qs : List (Mt × Value)} {t : ByteArray} {s : Int} {L : List ByteArray} (hn : qs.length = n) (hk : k < n) (h : OwnP w base (.slice (some ⟨g, 0, none⟩) n c) qs) (ha : Apart qs)
    (e2 : w2 = (w.setCell ⟨g, k * 3, none⟩ (.string t)).setCell ⟨g, k * 3 + 1, none⟩ (.int .i64 s)) {x : Value} (hx : x = (qs[k]'(by omega)).2) (hg : w2.grownBy w3 x.ownBlock) (h3 : w3.ownsRow base 9 1 x L.length (L.map Value.string)) :
    OwnP w3 base (.slice (some ⟨g, 0, none⟩) n c) (qs.set k (⟨t, s, L⟩, x)) := by
  subst hn
  have hin : ∀ q : Mt × Value, w.ownsRow base 9 1 q.2 q.1.l.length (q.1.l.map Value.string) → w2.ownsRow base 9 1 q.2 q.1.l.length (q.1.l.map Value.string) := by
    intro q h2
    have hne : q.2.ownBlock = none ∨ q.2.ownBlock ≠ some g := own_kinds h2 h.1 (by decide)
    rw [e2]
    exact own_set_past (own_set_past h2 hne _ _) hne _ _
  have hrow2 : w2.ownsRow base 34 3 (.slice (some ⟨g, 0, none⟩) qs.length c) qs.length (((qs.flatMap mcells).set (k * 3) (.string t)).set (k * 3 + 1) (.int .i64 s)) := by
    rw [e2]; exact own_set (own_set h.1 _ _) _ _
  have hxin := hin _ (h.2 _ (List.getElem_mem (show k < qs.length from hk)))
  rw [← hx] at hxin
  have hrow3 := hrow2.kept hg (own_kinds hrow2 hxin (by decide))
  refine ⟨?_, ?_⟩
  · have e := mflat_set ((⟨t, s, L⟩ : Mt), x) qs k hk
    have hg2 := flat_get (C := mcells) (sz := 3) (xs := qs) (fun _ _ => rfl) (i := k) (j := 2) (List.getElem?_eq_getElem hk) (by omega)
    have hsame : (((qs.flatMap mcells).set (k * 3) (.string t)).set (k * 3 + 1) (.int .i64 s)).set (k * 3 + 2) x = ((qs.flatMap mcells).set (k * 3) (.string t)).set (k * 3 + 1) (.int .i64 s) := by
      apply List.ext_getElem?
      intro i
      rw [List.getElem?_set]
      split
      · rename_i e
        subst e
        rw [List.getElem?_set_ne (by omega), List.getElem?_set_ne (by omega), hg2]
        have hlen : k * 3 + 2 < (qs.flatMap mcells).length := (List.getElem?_eq_some_iff.1 hg2).1
        rw [if_pos (by simpa using hlen), hx]; rfl
      · rfl
    rw [List.length_set, ← e]
    dsimp only
    rw [hsame]
    exact hrow3
  · intro q hq
    obtain ⟨i, hi, rfl⟩ := List.getElem_of_mem hq
    rw [List.length_set] at hi
    by_cases hik : i = k
    · subst hik
      rw [List.getElem_set_self]
      exact h3
    · rw [List.getElem_set_ne (fun e => hik e.symm)]
      refine (hin _ (h.2 _ (List.getElem_mem hi))).kept hg ?_
      have hp := List.pairwise_iff_getElem.1 ha
      cases hb : (qs[i]).2.ownBlock with
      | none => exact .inl rfl
      | some b =>
        refine .inr ?_
        rw [hx]
        rcases Nat.lt_or_ge i k with hlt | hge
        · exact fun e => (hp i k hi hk hlt).1 b hb e.symm
        · exact fun e => (hp k i hk hi (by omega)).2 b hb e.symm
theorem Apart.set {qs : List (Mt × Value)} {k : Nat} (h : Apart qs) (hk : k < qs.length) (y : Mt) {x : Value} (hx : x = (qs[k]'hk).2) : Apart (qs.set k (y, x)) := by
  refine List.pairwise_iff_getElem.2 ?_
  intro i j hi hj hij
  rw [List.length_set] at hi hj
  have hs : ∀ i (hi : i < qs.length), ((qs.set k (y, x))[i]'(by rw [List.length_set]; exact hi)).2 = (qs[i]).2 := by
    intro i hi
    by_cases e : i = k
    · subst e; rw [List.getElem_set_self]; exact hx
    · rw [List.getElem_set_ne (fun h => e h.symm)]
  rw [hs i hi, hs j hj]
  exact List.pairwise_iff_getElem.1 h i j hi hj hij
set_option maxRecDepth 100000 in
set_option maxHeartbeats 2000000 in
theorem markMethodS_held (V : Value) (ms : List Mt) (base q0 : Nat) (w : World) (h : OwnD w base V ms) (hs : AllSmall ms) (hlen : ms.length ≤ 100) (hq0 : q0 ≤ 1000) : Calls Tryd.prog 7 #[V, .int .i64 q0] w fun e w' =>
    e = .returned (.int .i64 (endM q0 ms : Nat)) ∧ OwnD w' base V (marksM q0 ms) ∧ Below base w w' := by
  obtain ⟨ps, hps, hO, hA⟩ := h
  have hpl : ps.length = ms.length := by rw [← hps, List.length_map]
  have Hs := Lib.hid hs.2
  clear hs
  rcases hO.1.2 with ⟨rfl, h0⟩ | ⟨g, cap, cur, rfl, hbg, hh, hnc, hcm, _⟩
  · have h00 := hO.1.1
    have hp0 : ps = [] := List.eq_nil_of_length_eq_zero h0
    have hm0 : ms = [] := by rw [← hps, hp0]; rfl
    subst hm0
    clear hO hA hps hpl h0 h00 hp0
    go_enter Tryd.func7, Tryd.ntmps7
    go_wp2_with fail
    go_loopw [1, 5] (fun q i wr => q = .int .i64 q0 ∧ i = .int .i64 0 ∧ wr = w) (fun _ _ _ => 0)
    case atStart => exact ⟨rfl, rfl, rfl⟩
    case round =>
      obtain ⟨rfl, rfl, rfl⟩ := hrel
      go_wp2_with fail
      go_ret
      exact ⟨rfl, OwnD.nil _ _, Below.refl _ _⟩
  · unfold maxLen at hcm
    rw [hpl] at hO hnc
    have hbw : base ≤ w.heap.size := by have := hO.1.lt g rfl; omega
    have HO := Lib.hid hO
    have HA := Lib.hid hA
    have Hps := Lib.hid hps
    clear hO hA hps hh
    rw [hpl]
    go_enter Tryd.func7, Tryd.ntmps7
    go_wp2_with fail
    go_loopw [1, 5] (fun z i wr => ∃ k : Nat, ∃ qs, k ≤ ms.length ∧ i = .int .i64 k ∧ z = .int .i64 (endM q0 (ms.take k) : Nat) ∧ qs.map Prod.fst = part q0 ms k ∧ OwnP wr base (.slice (some ⟨g, 0, none⟩) ms.length cap) qs ∧ Apart qs ∧ Below base w wr) (fun _ i _ => ms.length - (intOf i).toNat)
    case atStart => exact ⟨0, ps, by omega, rfl, rfl, by rw [Hps.out, part_zero], HO.out, HA.out, Below.refl _ _⟩
    case round =>
      obtain ⟨k, qs, hk, rfl, rfl, hfq, hOq, hAq, hB⟩ := hrel
      have hql : qs.length = ms.length := by have := congrArg List.length hfq; rwa [List.length_map, part_len _ _ _ hk] at this
      by_cases hlt : k < ms.length
      · have hek := endM_le q0 (ms.take k) (fun x hx => (Hs.out x (List.mem_of_mem_take hx)).2.1)
        have hes := endM_step q0 ms k hlt
        have hps := part_step q0 ms k hlt
        have hyl := (Hs.out _ (List.getElem_mem hlt)).2.1
        have hqk : (qs[k]'(by omega)).1 = ms[k] := by
          have e := part_get q0 ms k hlt
          rw [← hfq, List.getElem?_map, List.getElem?_eq_getElem (by omega)] at e
          injection e
        rw [List.length_take] at hek
        obtain ⟨q, hq⟩ : ∃ q, q = endM q0 (ms.take k) := ⟨_, rfl⟩
        rw [← hq] at hek hes hps ⊢
        have hqb : q ≤ 1000000000 := by omega
        obtain ⟨y, hy⟩ : ∃ y, y = ms[k] := ⟨_, rfl⟩
        rw [← hy] at hes hps hyl hqk
        have Hes := Lib.hid hes
        have Hpt := Lib.hid hps
        have Hfq := Lib.hid hfq
        have HOq := Lib.hid hOq
        have HAq := Lib.hid hAq
        have Hqk := Lib.hid hqk
        clear hes hps hfq hOq hAq hqk hy hek hq
        go_wp2_with fail
        refine (markText_any q _ (by omega)).mono ?_; rintro e w2 ⟨rfl, hb2⟩
        have hO2 := HOq.out.to hb2
        obtain ⟨c0, c1, c2, f0, f1, f2⟩ := hO2.at hql hlt
        have hx2 := hO2.2 _ (List.getElem_mem (show k < qs.length by omega))
        obtain ⟨Ax, cx, hxs, _⟩ := sl_of_own hx2
        rw [Hqk.out] at hxs hx2 c0 c1
        have hne : (qs[k]'(by omega)).2.ownBlock = none ∨ (qs[k]'(by omega)).2.ownBlock ≠ some g := own_kinds hx2 hO2.1 (by decide)
        obtain ⟨x, hx⟩ : ∃ x, x = (qs[k]'(by omega)).2 := ⟨_, rfl⟩
        rw [← hx] at hxs hx2 c2 hne
        have Hx := Lib.hid hx
        clear hx
        subst hxs
        have hB2 := hB.trans (hb2.mono (Nat.le_trans hbw hB.size))
        have he2 := own_set_past (own_set_past hx2 hne (k * 3) (.string (mText q))) hne (k * 3 + 1) (.int .i64 ((q : Int) + 1))
        have HO2 := Lib.hid hO2
        have He2 := Lib.hid he2
        have hBs : Below base w ((w2.setCell ⟨g, k * 3, none⟩ (.string (mText q))).setCell ⟨g, k * 3 + 1, none⟩ (.int .i64 ((q : Int) + 1))) := (hB2.setCell (p := ⟨g, k * 3, none⟩) hbg _).setCell (p := ⟨g, k * 3 + 1, none⟩) hbg _
        have HBs := Lib.hid hBs
        clear hO2 hx2 he2 hBs hB2 hb2 hB hne
        go_wp2_with fail
        refine (markStringS_any _ y.l.length (q + 2) _ base _ He2.out hyl (by omega)).mono ?_
        rintro e w3 ⟨rfl, hown3, hg3⟩
        have hb3 : Below base w w3 := HBs.out.grown hg3 (Nat.le_trans hbw HBs.out.size) (fun b hb => (He2.out.lt b hb).1)
        have h3 := HO2.out.mark hql hlt HAq.out rfl Hx.out hg3 (L := marksT (q + 2) y.l.length) (by rw [marksT_length]; exact hown3)
        have hA3 := HAq.out.set (show k < qs.length by omega) (markOf q y) Hx.out
        have H3 := Lib.hid h3
        have HA3 := Lib.hid hA3
        have HB3 := Lib.hid hb3
        clear h3 hA3 hb3 hown3 hg3
        go_wp2_with fail
        refine ⟨⟨k + 1, _, by omega, by go_num, congrArg (Value.int .i64) (by rw [Hes.out]; omega), ?_, H3.out, HA3.out, HB3.out⟩, by simp [intOf]; omega⟩
        rw [List.map_set, Hfq.out]
        exact Hpt.out
      · obtain rfl : k = ms.length := by omega
        rw [List.take_length]
        rw [part_all] at hfq
        go_wp2_with fail
        go_ret
        exact ⟨rfl, ⟨qs, hfq, hOq, hAq⟩, hB⟩
set_option maxRecDepth 100000 in
set_option maxHeartbeats 2000000 in
theorem heldMethodS_any (V : Value) (ms : List Mt) (q0 : Nat) (w : World) (h : MethsS w V (marksM q0 ms)) (hs : AllSmall ms) (hlen : ms.length ≤ 100) (hq0 : q0 ≤ 1000) : Calls Tryd.prog 8 #[V, .int .i64 q0] w fun e w' =>
    e = .returned (.int .i64 (endM q0 ms : Nat)) ∧ Below w.heap.size w w' := by
  obtain ⟨vs, hvl, ⟨A, c, rfl, h1, h2, hr⟩, hat⟩ := h
  have hml := marksM_len q0 ms
  rw [hml] at h1 hr ⊢
  unfold maxLen at h2
  have Hat := Lib.hid hat
  have Hs := Lib.hid hs.2
  have Hml := Lib.hid hml
  clear hat hs hml
  go_enter Tryd.func8, Tryd.ntmps8
  go_wp2_with fail
  go_loopw [1, 5] (fun z i wr => ∃ k : Nat, k ≤ ms.length ∧ i = .int .i64 k ∧ z = .int .i64 (endM q0 (ms.take k) : Nat) ∧ Below w.heap.size w wr) (fun _ i _ => ms.length - (intOf i).toNat)
  case atStart => exact ⟨0, by omega, rfl, rfl, Below.refl _ _⟩
  case round =>
    obtain ⟨k, hk, rfl, rfl, hB⟩ := hrel
    by_cases hlt : k < ms.length
    · obtain ⟨ad, v, rfl, hmem, hC⟩ := meths_el hvl hr Hml.out.symm (k := k) (by rw [Hml.out]; exact hlt)
      have hek := endM_le q0 (ms.take k) (fun x hx => (Hs.out x (List.mem_of_mem_take hx)).2.1)
      have hes := endM_step q0 ms k hlt
      have hyl := (Hs.out _ (List.getElem_mem hlt)).2.1
      rw [marksM_get q0 ms k hlt] at hC hmem
      rw [List.length_take] at hek
      obtain ⟨q, hq⟩ : ∃ q, q = endM q0 (ms.take k) := ⟨_, rfl⟩
      rw [← hq] at hek hes hC hmem ⊢
      have hqb : q ≤ 1000000000 := by omega
      obtain ⟨y, hy⟩ : ∃ y, y = ms[k] := ⟨_, rfl⟩
      rw [← hy] at hes hyl hC hmem
      have hm := Hat.out _ hmem
      have Hes := Lib.hid hes
      have Hst : Hid (Strs w v (marksT (q + 2) y.l.length)) := Lib.hid hm
      obtain ⟨Av, cv, ev⟩ : ∃ A c, v = .slice A y.l.length c := by
        obtain ⟨A', c', e, _⟩ := Hst.out
        rw [marksT_length] at e; exact ⟨A', c', e⟩
      subst ev
      unfold markOf at hC
      dsimp only at hC
      have hC0 := fun w' hb => (hC w' hb).1
      have hC1 := fun w' hb => (hC w' hb).2.1
      have hC2 := fun w' hb => (hC w' hb).2.2
      have hq0' : (0 : Int) ≤ (k : Int) := by omega
      have hq1' : (k : Int) < (ms.length : Int) := by omega
      clear hes hm hy hek hq hmem hC
      go_wp2_with fail
      go_region_held3 (fun w' => Below w.heap.size w w') (first | exact Below.drew (by assumption) | exact bw_to (by assumption) hb')
        (first | (go_at_call 21; refine (markText_any q _ (by omega)).mono ?_; rintro e w' ⟨rfl, hb'⟩))
      have hB1 : Below w.heap.size w w' := by assumption
      go_wp2_with fail
      refine (heldStringS_any _ y.l.length (q + 2) _ (Hst.out.to hB1) hyl (by omega)).mono ?_; rintro e w2 ⟨rfl, hb2⟩
      have hnn : ¬ ((q + 2 + y.l.length : Nat) : Int) < 0 := by omega
      have hB2 := bw_to hB1 hb2
      go_wp2_with fail
      exact ⟨⟨k + 1, by omega, by go_num, congrArg (Value.int .i64) (by rw [Hes.out]; omega), hB2⟩, by simp [intOf]; omega⟩
    · obtain rfl : k = ms.length := by omega
      rw [List.take_length]
      go_wp2_with fail
      go_ret
      exact ⟨rfl, hB⟩
end Go.Proofs.YtenhnloljdfjhaaDoor
