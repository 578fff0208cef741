/- Contracts: one step of a band; both sides. -/
import Derived.Test.YtimeecimaokldaaGreatDoorPk20
namespace Go.Proofs.YtimeecimaokldaaGreatDoor
open Go Go.RowKit
set_option linter.unusedVariables false
set_option linter.unusedSimpArgs false

theorem rs_set0 : ∀ {l : List (Nat × Bool)} {i : Nat} (h : i < l.length) (q : Nat), (l.flatMap rsC).set (i * 2) (.int .i64 q) = (l.set i (q, (l[i]).2)).flatMap rsC
  | x :: l, 0, h, q => rfl
  | x :: l, i + 1, h, q => by
    have ih := rs_set0 (l := l) (i := i) (by simpa using h) q
    have e : (i + 1) * 2 = i * 2 + 1 + 1 := by omega
    rw [e]
    simp only [List.flatMap_cons, rsC, List.cons_append, List.nil_append, List.set_cons_succ, List.getElem_cons_succ]
    rw [← ih]
theorem rs_set1 : ∀ {l : List (Nat × Bool)} {i : Nat} (h : i < l.length) (q : Bool), (l.flatMap rsC).set (i * 2 + 1) (.bool q) = (l.set i ((l[i]).1, q)).flatMap rsC
  | x :: l, 0, h, q => rfl
  | x :: l, i + 1, h, q => by
    have ih := rs_set1 (l := l) (i := i) (by simpa using h) q
    have e : (i + 1) * 2 + 1 = (i * 2 + 1) + 1 + 1 := by omega
    rw [e]
    simp only [List.flatMap_cons, rsC, List.cons_append, List.nil_append, List.set_cons_succ, List.getElem_cons_succ]
    rw [← ih]
theorem rs_get : ∀ {l : List (Nat × Bool)} {i : Nat} (h : i < l.length), (l.flatMap rsC)[i * 2]? = some (.int .i64 (l[i]).1) ∧ (l.flatMap rsC)[i * 2 + 1]? = some (.bool (l[i]).2)
  | x :: l, 0, h => ⟨rfl, rfl⟩
  | x :: l, i + 1, h => by
    have ih := rs_get (l := l) (i := i) (by simpa using h)
    have e : (i + 1) * 2 = i * 2 + 1 + 1 := by omega
    rw [e]
    simpa [rsC] using ih
/-- The first i are turned by f. -/
def rsAt (f : Nat × Bool → Nat × Bool) (l : List (Nat × Bool)) (i : Nat) : List (Nat × Bool) := (l.take i).map f ++ l.drop i
theorem rsAt_len (f : Nat × Bool → Nat × Bool) {l : List (Nat × Bool)} {i : Nat} (h : i ≤ l.length) : (rsAt f l i).length = l.length := by simp [rsAt]; omega
theorem rsAt_zero (f : Nat × Bool → Nat × Bool) (l : List (Nat × Bool)) : rsAt f l 0 = l := by simp [rsAt]
theorem rsAt_all (f : Nat × Bool → Nat × Bool) (l : List (Nat × Bool)) : rsAt f l l.length = l.map f := by simp [rsAt]
theorem rsAt_get (f : Nat × Bool → Nat × Bool) {l : List (Nat × Bool)} {i : Nat} (h : i < l.length) (h2 : i < (rsAt f l i).length) : (rsAt f l i)[i] = l[i] := by
  have e : (rsAt f l i)[i]? = l[i]? := by
    unfold rsAt
    rw [List.getElem?_append_right (by simp; omega)]
    simp [Nat.min_eq_left (Nat.le_of_lt h)]
  rw [List.getElem?_eq_getElem h2, List.getElem?_eq_getElem h] at e
  exact Option.some.inj e
theorem rsAt_set (f : Nat × Bool → Nat × Bool) {l : List (Nat × Bool)} {i : Nat} (h : i < l.length) : (rsAt f l i).set i (f l[i]) = rsAt f l (i + 1) := by
  unfold rsAt
  rw [List.set_append_right _ _ (by simp; omega), List.drop_eq_getElem_cons h, List.take_succ_eq_append_getElem h, List.map_append, List.length_map, List.length_take, Nat.min_eq_left (Nat.le_of_lt h), Nat.sub_self, List.set_cons_zero, List.append_assoc]
  rfl
theorem own_ptrB {w : World} {base : Nat} {e : TypeId} {size n c : Nat} {A : Option Addr} {xs : List Value} (h : w.ownsRow base e size (.slice A n c) n xs) (hn : 1 ≤ n) : ∃ g, A = some ⟨g, 0, none⟩ ∧ base ≤ g ∧ g < w.heap.size := by
  rcases h.2 with ⟨h', _⟩ | ⟨g, cap, cur, h', hb, hg, _⟩
  · injection h' with h1 h2 h3; omega
  · injection h' with h1 h2 h3
    subst h1
    exact ⟨g, rfl, hb, blk_lt hg⟩
theorem own_blkB {w w' : World} {base : Nat} {e : TypeId} {size n g c : Nat} {xs : List Value} (h : w.ownsRow base e size (.slice (some ⟨g, 0, none⟩) n c) n xs) (hb : w'.heap[g]? = w.heap[g]?) : w'.ownsRow base e size (.slice (some ⟨g, 0, none⟩) n c) n xs := by
  obtain ⟨h1, h2⟩ := h
  refine ⟨h1, ?_⟩
  rcases h2 with h2 | ⟨g', cap, cur, e, hbase, hg, r⟩
  · exact .inl h2
  · have : g' = g := by injection e with e1; injection e1 with e1; injection e1 with e1; exact e1.symm
    subst this
    exact .inr ⟨g', cap, cur, e, hbase, hb.trans hg, r⟩
/-- All but one block is as it was. -/
structure Kp (wz : World) (g2 : Nat) (W : World) : Prop where
  sz : wz.heap.size ≤ W.heap.size
  blk : ∀ g, g < wz.heap.size → g ≠ g2 → W.heap[g]? = wz.heap[g]?
theorem Kp.refl (wz : World) (g2 : Nat) : Kp wz g2 wz := ⟨Nat.le_refl _, fun _ _ _ => rfl⟩
theorem Kp.to {wz W W' : World} {g2 : Nat} (h : Kp wz g2 W) (hb : Below W.heap.size W W') : Kp wz g2 W' := ⟨Nat.le_trans h.sz hb.size, fun g h1 h2 => (hb.block g (Nat.lt_of_lt_of_le h1 h.sz)).trans (h.blk g h1 h2)⟩
theorem Kp.set {wz W : World} {g2 : Nat} (h : Kp wz g2 W) (j : Nat) (x : Value) : Kp wz g2 (W.setCell ⟨g2, j, none⟩ x) := ⟨by simp [World.setCell]; exact h.sz, fun g h1 h2 => (set_othB h2).trans (h.blk g h1 h2)⟩
theorem callsStep_len (m : Mt) (k : Cl) (n : Nat) (b : Bd) : (stepB m k n b).rs.length = b.rs.length := by
  unfold stepB
  split <;> simp
theorem hear_get {m : Mt} {k : Cl} {n : Nat} {b : Bd} (h : BGood m k n b) {x : UInt8} (hx : b.call = callT x) : hearC m k b = (if b.st + 1 = m.l.length then callCh m.l k.bob k.single x else ownC m b) := by
  have hst := h.st
  have hc : callC1 b = x := by unfold callC1; rw [hx]; rfl
  unfold hearC calledL
  rw [hc]
  split
  · rename_i e
    rw [List.getD_eq_getElem?_getD, List.getElem?_append_right (by simp; omega)]
    simp
    rw [show b.st - (m.l.length - 1) = 0 by omega]
    rfl
  · rw [List.getD_eq_getElem?_getD, List.getElem?_append_left (by simp; omega)]
    unfold ownC
    rw [List.getElem?_take_of_lt (by omega), List.getD_eq_getElem?_getD]
set_option maxRecDepth 10000 in
set_option maxHeartbeats 4000000 in
theorem l24Change_any (m : Mt) (k : Cl) (n : Nat) (b : Bd) (v r : Value) (heard : Bool) (w : World) (hg : BGood m k n b) (hv : Strs w v m.l) : Calls Tryz.prog 166 #[b.v m k v r, .bool heard] w fun e w' =>
    e = .returned (.string (if heard then hearC m k b else ownC m b)) ∧ Below w.heap.size w w' := by
  obtain ⟨x, hx, hx3⟩ := hg.call
  have hh := hear_get hg hx
  have hst := hg.st
  have hl := hg.c.m.len
  obtain ⟨A, q, rfl, h1, h2, hr⟩ := hv
  unfold maxLen at h2
  obtain ⟨ad, rfl, hC⟩ := strs_el hr hst
  have hown : ownC m b = m.l[b.st] := by unfold ownC; rw [List.getD_eq_getElem?_getD, List.getElem?_eq_getElem hst]; rfl
  have HO := Lib.hid hown
  have HC := Lib.hid hC
  rw [← hown] at HC
  clear hown hC hr
  have Hh := Lib.hid hh
  have e1 := callT_is x 98
  have e2 := callT_is x 115
  unfold callCh at Hh
  have hlast : m.l.getLastD ⟨#[]⟩ = m.l[m.l.length - 1]'(by omega) := (last_get hl.1).symm
  have Hlast : Hid (b.st + 1 = m.l.length → m.l.getLastD ⟨#[]⟩ = ownC m b) := Lib.hid (fun e => by rw [hlast, HO.out]; congr 1; omega)
  clear hh hlast
  unfold Bd.v
  rw [hx]
  have w1 : IntKind.i64.wrap ((m.l.length : Int) - 1) = (m.l.length : Int) - 1 := IntWalk.i64_in _ ⟨by omega, by omega⟩
  have b1 : (b.st : Int) < (m.l.length : Int) := by omega
  obtain ⟨ow, how⟩ : ∃ o, o = ownC m b := ⟨_, rfl⟩
  obtain ⟨he, hhe⟩ : ∃ o, o = hearC m k b := ⟨_, rfl⟩
  simp only [← how, ← hhe] at HC Hh Hlast HO ⊢
  clear how hhe hg
  by_cases hla : b.st + 1 = m.l.length
  · have d1 : ((b.st : Int) == (m.l.length : Int) - 1) = true := by simp; omega
    rw [if_pos hla] at Hh
    have HL := Lib.hid (Hlast.out hla)
    cases heard
    · go_enter Tryz.func166, Tryz.ntmps166
      go_upto_region 1 with fail
      refine box1 (C := fun W => Code.wp _ _ _ _ W) ?_
      intro wb hw k1 hB0
      have R1 := boxRule k1
      have y2 := R1 wb 2 hB0
      have y5 := R1 wb 5 hB0
      have y6 := R1 wb 6 hB0
      have y := HC.out wb hw
      clear k1 R1
      go_wp2_with fail
      go_ret
      exact ⟨rfl, hw⟩
    · rcases hx3 with rfl | rfl | rfl
      · have e3 : he = ow := by rw [Hh.out, if_neg (by decide), if_neg (by decide), HL.out]
        rw [if_pos rfl, e3]
        clear e3
        go_enter Tryz.func166, Tryz.ntmps166
        go_upto_region 1 with fail
        refine box1 (C := fun W => Code.wp _ _ _ _ W) ?_
        intro wb hw k1 hB0
        have R1 := boxRule k1
        have y2 := R1 wb 2 hB0
        have y5 := R1 wb 5 hB0
        have y6 := R1 wb 6 hB0
        have y := HC.out wb hw
        clear k1 R1
        go_wp2_with fail
        go_ret
        exact ⟨rfl, hw⟩
      · have e3 : he = k.bob := by rw [Hh.out, if_pos rfl]
        rw [if_pos rfl, e3]
        clear e3
        go_enter Tryz.func166, Tryz.ntmps166
        go_upto_region 1 with fail
        refine box1 (C := fun W => Code.wp _ _ _ _ W) ?_
        intro wb hw k1 hB0
        have R1 := boxRule k1
        have y2 := R1 wb 2 hB0
        have y3 := R1 wb 3 hB0
        have y5 := R1 wb 5 hB0
        have y6 := R1 wb 6 hB0
        clear k1 R1
        go_wp2_with fail
        go_ret
        exact ⟨rfl, hw⟩
      · have e3 : he = k.single := by rw [Hh.out, if_neg (by decide), if_pos rfl]
        rw [if_pos rfl, e3]
        clear e3
        go_enter Tryz.func166, Tryz.ntmps166
        go_upto_region 1 with fail
        refine box1 (C := fun W => Code.wp _ _ _ _ W) ?_
        intro wb hw k1 hB0
        have R1 := boxRule k1
        have y2 := R1 wb 2 hB0
        have y4 := R1 wb 4 hB0
        have y5 := R1 wb 5 hB0
        have y6 := R1 wb 6 hB0
        clear k1 R1
        go_wp2_with fail
        go_ret
        exact ⟨rfl, hw⟩
  · have d1 : ((b.st : Int) == (m.l.length : Int) - 1) = false := by simp; omega
    rw [if_neg hla] at Hh
    have E4 : (if heard = true then he else ow) = ow := by cases heard; rfl; exact Hh.out
    rw [E4]
    clear E4
    cases heard
    all_goals
      go_enter Tryz.func166, Tryz.ntmps166
      go_upto_region 1 with fail
      refine box1 (C := fun W => Code.wp _ _ _ _ W) ?_
      intro wb hw k1 hB0
      have R1 := boxRule k1
      have y2 := R1 wb 2 hB0
      have y5 := R1 wb 5 hB0
      have y6 := R1 wb 6 hB0
      have y := HC.out wb hw
      clear k1 R1
      go_wp2_with fail
      go_ret
      exact ⟨rfl, hw⟩
end Go.Proofs.YtimeecimaokldaaGreatDoor
