/- Contract: a method added to a library, the program's side. -/
import Derived.Test.YtenhnloljdfjhaaDoorPk17
import Derived.Test.YtenhnloljdfjhaaDoorPk3
namespace Go.Proofs.YtenhnloljdfjhaaDoor
open Go Go.RowKit
set_option linter.unusedVariables false
set_option linter.unusedSimpArgs false

theorem mflat_cut (ps : List (Mt × Value)) (k : Nat) : (ps.flatMap mcells).take (k * 3) = (ps.take k).flatMap mcells ∧ (ps.flatMap mcells).drop (k * 3) = (ps.drop k).flatMap mcells := by
  induction ps generalizing k with
  | nil => simp
  | cons p ps ih =>
    cases k with
    | zero => simp
    | succ k =>
      have hc : mcells p = [.string p.1.name, .int .i64 p.1.stage, p.2] := rfl
      rw [List.flatMap_cons, List.take_succ_cons, List.drop_succ_cons, List.flatMap_cons, show (k + 1) * 3 = 3 + k * 3 by omega]
      have hl : (mcells p).length = 3 := rfl
      constructor
      · rw [List.take_append, List.take_of_length_le (by omega), hl, show 3 + k * 3 - 3 = k * 3 by omega, (ih k).1]
      · rw [List.drop_append, List.drop_of_length_le (by omega), hl, show 3 + k * 3 - 3 = k * 3 by omega, (ih k).2]; rfl
def insP (ps : List (Mt × Value)) (k : Nat) (p : Mt × Value) : List (Mt × Value) := ps.take k ++ [p] ++ ps.drop k
theorem insP_fst {ps : List (Mt × Value)} {ms : List Mt} (h : ps.map Prod.fst = ms) (k : Nat) (p : Mt × Value) : (insP ps k p).map Prod.fst = insAt ms k p.1 := by
  subst h
  unfold insP insAt
  simp [List.map_take, List.map_drop]
theorem insP_perm (ps : List (Mt × Value)) (k : Nat) (p : Mt × Value) : (ps ++ [p]).Perm (insP ps k p) := by
  unfold insP
  have h := List.take_append_drop k ps
  calc ps ++ [p] = ps.take k ++ (ps.drop k ++ [p]) := by rw [← List.append_assoc, h]
    _ |>.Perm (ps.take k ++ ([p] ++ ps.drop k)) := List.Perm.append_left _ List.perm_append_comm
    _ = _ := by rw [List.append_assoc]
theorem Apart.perm {ps qs : List (Mt × Value)} (h : Apart ps) (hp : ps.Perm qs) : Apart qs := (hp.pairwise_iff (fun h => ⟨h.2, h.1⟩)).1 h
theorem OwnP.ins {wA w3 : World} {base : Nat} {V V2 x : Value} {ps : List (Mt × Value)} {m : Mt} {k n : Nat} (hk : k ≤ ps.length) (hn : n = ps.length) (h : OwnP wA base V ps) (hx : wA.ownsRow base 9 1 x m.l.length (m.l.map Value.string))
    (h3 : w3.ownsRow base 34 3 V2 (n + 1) ((ps.flatMap mcells).take (k * 3) ++ [.string m.name, .int .i64 m.stage, x] ++ (ps.flatMap mcells).drop (k * 3))) (hg : wA.grownBy w3 V.ownBlock) : OwnP w3 base V2 (insP ps k (m, x)) := by
  subst hn
  refine ⟨?_, ?_⟩
  · have e : (insP ps k (m, x)).length = ps.length + 1 := by unfold insP; simp; omega
    have e2 : (insP ps k (m, x)).flatMap mcells = (ps.flatMap mcells).take (k * 3) ++ [.string m.name, .int .i64 m.stage, x] ++ (ps.flatMap mcells).drop (k * 3) := by
      rw [(mflat_cut ps k).1, (mflat_cut ps k).2]
      unfold insP
      rw [List.flatMap_append, List.flatMap_append]
      rfl
    rw [e, e2]; exact h3
  · intro p hp
    have hp' := (insP_perm ps k (m, x)).mem_iff.2 hp
    rcases List.mem_append.1 hp' with hp | hp
    · exact (h.2 p hp).kept hg (own_kinds (h.2 p hp) h.1 (by decide))
    · rw [List.mem_singleton.1 hp]; exact hx.kept hg (own_kinds hx h.1 (by decide))
theorem OwnD.base {w : World} {b b' : Nat} {v : Value} {ms : List Mt} (h : OwnD w b v ms) (hb : b' ≤ b) : OwnD w b' v ms :=
  let ⟨ps, e, h1, h2⟩ := h; ⟨ps, e, ⟨own_base h1.1 hb, fun p hp => own_base (h1.2 p hp) hb⟩, h2⟩
theorem ret_vb {v : Value} {p q : Bool} (k : q = p) : Ending.returned (.tuple #[v, .bool p]) = .returned (.tuple #[v, .bool q]) := by rw [k]
end Go.Proofs.YtenhnloljdfjhaaDoor

/- Contract: a method added to a library, the reference's side. -/
namespace Go.Proofs.YtenhnloljdfjhaaDoor
open Go Go.RowKit
set_option linter.unusedVariables false
set_option linter.unusedSimpArgs false

theorem pos_at (m : Mt) : ∀ ms : List Mt, PosAt ms m (posOf ms m)
  | [] => by
    refine ⟨Nat.zero_le _, fun x hx => ?_, fun h => absurd h (Nat.not_lt_zero _)⟩
    simp at hx
  | x :: t => by
    have ih := pos_at m t
    cases hx : nmLt x.name m.name
    · have e : posOf (x :: t) m = 0 := by unfold posOf; rw [List.takeWhile_cons, if_neg (by simp [hx])]; rfl
      rw [e]
      exact ⟨Nat.zero_le _, fun y hy => by simp at hy, fun _ => hx⟩
    · have e : posOf (x :: t) m = posOf t m + 1 := by unfold posOf; rw [List.takeWhile_cons, if_pos hx]; rfl
      rw [e]
      refine ⟨by simpa using ih.1, fun y hy => ?_, fun h => ih.2.2 (by simpa using h)⟩
      rw [List.take_succ_cons] at hy
      rcases List.mem_cons.1 hy with rfl | hy
      · exact hx
      · exact ih.2.1 y hy
theorem add_no3 {ms : List Mt} {m : Mt} (hl : libB ms = true) (hm : methB m = true) (h : ¬ (ixOf m.name 0 ms < 0 ∧ ms.length ≠ 30)) : addB ms m = false ∧ addM ms m = [] := by
  have h1 : addB ms m = false := by
    rw [(add_at (pos_at m ms) hl hm).1, Bool.eq_false_iff]
    exact fun e => h ((lib_ins (pos_at m ms) hl hm).1 e)
  exact ⟨h1, addM_no h1⟩
theorem add_yes {ms : List Mt} {m : Mt} {k : Nat} (hl : libB ms = true) (hm : methB m = true) (hix : ixOf m.name 0 ms < 0) (h30 : ms.length ≠ 30) (hk : k ≤ ms.length) (hup : ∀ x ∈ ms.drop k, nmLt m.name x.name = true) (he : ∀ h : 0 < k, nmLt m.name (ms[k - 1]'(by omega)).name = false) : addB ms m = true ∧ addM ms m = insAt ms k m := by
  have hp := pos_down hl hix hk hup he
  have hi := (lib_ins hp hl hm).2 ⟨hix, h30⟩
  exact ⟨(add_at hp hl hm).1.trans hi, (add_at hp hl hm).2 hi⟩
theorem mflat_set (p : Mt × Value) : ∀ (ps : List (Mt × Value)) (k : Nat), k < ps.length → (((ps.flatMap mcells).set (k * 3) (.string p.1.name)).set (k * 3 + 1) (.int .i64 p.1.stage)).set (k * 3 + 2) p.2 = (ps.set k p).flatMap mcells
  | [], k, h => absurd h (Nat.not_lt_zero _)
  | q :: t, 0, _ => rfl
  | q :: t, k + 1, h => by
    have ih := mflat_set p t k (by simpa using h)
    rw [List.set_cons_succ, List.flatMap_cons, List.flatMap_cons, ← ih, show (k + 1) * 3 = k * 3 + 1 + 1 + 1 by omega]
    rfl
theorem ins_full (ms : List Mt) (m : Mt) : insAt ms ms.length m = ms ++ [m] := by unfold insAt; simp
theorem ins_down {ms : List Mt} {m : Mt} {k : Nat} (h0 : 0 < k) (hk : k ≤ ms.length) : ((insAt ms k m).set k (ms[k - 1]'(by omega))).set (k - 1) m = insAt ms (k - 1) m := by
  obtain ⟨j, rfl⟩ : ∃ j, k = j + 1 := ⟨k - 1, by omega⟩
  have hj : j < ms.length := by omega
  have e1 : ms.take (j + 1) = ms.take j ++ [ms[j]] := List.take_succ_eq_append_getElem hj
  have e2 : ms.drop j = ms[j] :: ms.drop (j + 1) := List.drop_eq_getElem_cons hj
  have hl : (ms.take j).length = j := by simp; omega
  show ((insAt ms (j + 1) m).set (j + 1) ms[j]).set j m = insAt ms j m
  unfold insAt
  rw [e1, e2]
  obtain ⟨T, hT⟩ : ∃ T, T = ms.take j := ⟨_, rfl⟩
  rw [← hT] at hl ⊢
  subst hl
  simp [List.set_append]
theorem ins_get {ms : List Mt} {m : Mt} {k : Nat} (h0 : 0 < k) (hk : k ≤ ms.length) : (insAt ms k m)[k - 1]? = some (ms[k - 1]'(by omega)) := by
  unfold insAt
  rw [List.append_assoc, List.getElem?_append_left (by simp; omega), List.getElem?_take, if_pos (by omega), List.getElem?_eq_getElem (by omega)]
theorem drop_up {ms : List Mt} {m : Mt} {k : Nat} (h0 : 0 < k) (hk : k ≤ ms.length) (h : ∀ x ∈ ms.drop k, nmLt m.name x.name = true) (h1 : nmLt m.name (ms[k - 1]'(by omega)).name = true) : ∀ x ∈ ms.drop (k - 1), nmLt m.name x.name = true := by
  obtain ⟨j, rfl⟩ : ∃ j, k = j + 1 := ⟨k - 1, by omega⟩
  intro x hx
  have e2 : ms.drop j = ms[j] :: ms.drop (j + 1) := List.drop_eq_getElem_cons (by omega)
  have hx' : x ∈ ms.drop j := hx
  rw [e2] at hx'
  rcases List.mem_cons.1 hx' with rfl | hx'
  · exact h1
  · exact h x hx'
theorem OwnP.base {w : World} {b b' : Nat} {v : Value} {ps : List (Mt × Value)} (h : OwnP w b v ps) (hb : b' ≤ b) : OwnP w b' v ps := ⟨own_base h.1 hb, fun p hp => own_base (h.2 p hp) hb⟩
theorem OwnP.put {w : World} {base g n c k : Nat} {qs : List (Mt × Value)} (p : Mt × Value) (hn : qs.length = n) (hk : k < n) (h : OwnP w base (.slice (some ⟨g, 0, none⟩) n c) qs) (hp : w.ownsRow base 9 1 p.2 p.1.l.length (p.1.l.map Value.string)) :
    OwnP (((w.setCell ⟨g, k * 3, none⟩ (.string p.1.name)).setCell ⟨g, k * 3 + 1, none⟩ (.int .i64 p.1.stage)).setCell ⟨g, k * 3 + 2, none⟩ p.2) base (.slice (some ⟨g, 0, none⟩) n c) (qs.set k p) := by
  subst hn
  refine ⟨?_, ?_⟩
  · rw [List.length_set, ← mflat_set p qs k hk]
    exact own_set (own_set (own_set h.1 _ _) _ _) _ _
  · intro q hq
    have key : ∀ q : Mt × Value, w.ownsRow base 9 1 q.2 q.1.l.length (q.1.l.map Value.string) → (((w.setCell ⟨g, k * 3, none⟩ (.string p.1.name)).setCell ⟨g, k * 3 + 1, none⟩ (.int .i64 p.1.stage)).setCell ⟨g, k * 3 + 2, none⟩ p.2).ownsRow base 9 1 q.2 q.1.l.length (q.1.l.map Value.string) := by
      intro q h2
      have hne : q.2.ownBlock = none ∨ q.2.ownBlock ≠ some g := own_kinds h2 h.1 (by decide)
      exact own_set_past (own_set_past (own_set_past h2 hne _ _) hne _ _) hne _ _
    rcases List.mem_or_eq_of_mem_set hq with hq | rfl
    · exact key q (h.2 q hq)
    · exact key q hp
theorem OwnP.at {w : World} {base g n c k : Nat} {qs : List (Mt × Value)} (hn : qs.length = n) (hk : k < n) (h : OwnP w base (.slice (some ⟨g, 0, none⟩) n c) qs) :
    w.cell? ⟨g, k * 3, none⟩ = some (.string (qs[k]'(by omega)).1.name) ∧ w.cell? ⟨g, k * 3 + 1, none⟩ = some (.int .i64 (qs[k]'(by omega)).1.stage) ∧ w.cell? ⟨g, k * 3 + 2, none⟩ = some (qs[k]'(by omega)).2 ∧
    w.frozen? ⟨g, k * 3, none⟩ = false ∧ w.frozen? ⟨g, k * 3 + 1, none⟩ = false ∧ w.frozen? ⟨g, k * 3 + 2, none⟩ = false := by
  subst hn
  have hrow := h.1
  have hg := fun j (hj : j < 3) => flat_get (C := mcells) (sz := 3) (xs := qs) (fun _ _ => rfl) (i := k) (j := j) (List.getElem?_eq_getElem hk) hj
  refine ⟨?_, ?_, ?_, hrow.frozenAt _, hrow.frozenAt _, hrow.frozenAt _⟩
  · rw [hrow.cellAt (k * 3) (by omega)]; exact hg 0 (by omega)
  · rw [hrow.cellAt (k * 3 + 1) (by omega)]; exact hg 1 (by omega)
  · rw [hrow.cellAt (k * 3 + 2) (by omega)]; exact hg 2 (by omega)
end Go.Proofs.YtenhnloljdfjhaaDoor
