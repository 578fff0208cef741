/- Contract: a library read from its text, the program's. -/
import Derived.Test.YtenhnloljdfjhaaDoorPk38
import Derived.Test.YtenhnloljdfjhaaDoorPk39
import Derived.Test.YtenhnloljdfjhaaDoorPk10
import Derived.Test.YtenhnloljdfjhaaDoorPk27
namespace Go.Proofs.YtenhnloljdfjhaaDoor
open Go Go.RowKit
set_option linter.unusedVariables false
set_option linter.unusedSimpArgs false

theorem chg_small {n : Int} {l r : List UInt8} {c : ByteArray} (h : chgO n l = some (c, r)) : c.size ≤ 6 := by
  unfold chgO at h
  split at h
  · cases h
  · split at h
    · cases h
    · rename_i d hd
      cases h
      unfold tidyL at hd
      have h2 : changeB n d = true := by simpa using List.find?_some hd
      have := change_small h2
      show d.toArray.size ≤ 6
      simpa using this
theorem blk_small {n : Int} : ∀ {f : Nat} {l r : List UInt8} {cs : List ByteArray}, blkO n f l = some (cs, r) → ∀ c ∈ cs, c.size ≤ 6
  | 0, l, r, cs, h => by cases h
  | f + 1, l, r, cs, h => by
    rw [blkO] at h
    split at h
    · cases h
    · rename_i c hc
      cases h
      intro d hd
      simp at hd; subst hd
      exact chg_small hc
    · rename_i c b t hc
      split at h
      · cases h
        intro d hd
        simp at hd; subst hd
        exact chg_small hc
      · split at h
        · cases h
        · rename_i cs' r' hb
          cases h
          intro d hd
          rcases List.mem_cons.1 hd with rfl | hd
          · exact chg_small hc
          · exact blk_small hb d hd
theorem nt_small {n : Int} : ∀ {f : Nat} {l : List UInt8} {bs : List (List ByteArray)}, ntO n f l = some bs → ∀ b ∈ bs, ∀ c ∈ b, c.size ≤ 6
  | 0, l, bs, h => by cases h
  | f + 1, l, bs, h => by
    rw [ntO] at h
    split at h
    · cases h
    · rename_i b hb
      cases h
      intro d hd
      simp at hd; subst hd
      exact blk_small hb
    · rename_i b x t hb
      split at h
      · cases h
      · rename_i bs' hn
        cases h
        intro d hd
        rcases List.mem_cons.1 hd with rfl | hd
        · exact blk_small hb
        · exact nt_small hn d hd
theorem outL_mem {bs : List (List ByteArray)} {x : ByteArray} (h : x ∈ outL bs) : ∃ b ∈ bs, x ∈ b := by
  match bs, h with
  | [], h => simp [outL] at h
  | [b], h => exact ⟨b, by simp, h⟩
  | a :: b :: t, h =>
    have h : x ∈ (a :: b :: t).flatMap mirL := h
    obtain ⟨c, hc, hx⟩ := List.mem_flatMap.1 h
    refine ⟨c, hc, ?_⟩
    unfold mirL at hx
    rcases List.mem_append.1 hx with hx | hx
    · exact hx
    · exact List.dropLast_subset _ (List.mem_reverse.1 hx)
theorem ntn_small {n : Int} {s : ByteArray} {L : List ByteArray} (h : ntnO n s = some L) : L.length ≤ 40 ∧ ∀ x ∈ L, x.size ≤ 6 := by
  unfold ntnO at h
  split at h
  · split at h
    · cases h
    · rename_i bs hb
      split at h
      · rename_i hh
        cases h
        refine ⟨hh.2, fun x hx => ?_⟩
        obtain ⟨b, hb', hx'⟩ := outL_mem hx
        exact nt_small hb b hb' x hx'
      · cases h
  · cases h
theorem three_or {α : Type} (l : List α) : (∃ a b c, l = [a, b, c]) ∨ l.length ≠ 3 := by
  match l with
  | [] => exact .inr (by simp)
  | [a] => exact .inr (by simp)
  | [a, b] => exact .inr (by simp)
  | [a, b, c] => exact .inl ⟨a, b, c, rfl⟩
  | a :: b :: c :: d :: t => exact .inr (by simp)
theorem mtO_no {x : ByteArray} (h : (splitW 32 x).length ≠ 3) : mtO x = none := by
  unfold mtO
  split
  · rename_i e; rw [e] at h; exact absurd rfl h
  · rfl
theorem mtS_no {x : ByteArray} (h : (splitW 32 x).length ≠ 3) : mtS x = none := by
  unfold mtS
  split
  · rename_i e; rw [e] at h; exact absurd rfl h
  · rfl
theorem mtO_yes {x a b c : ByteArray} (h : splitW 32 x = [a, b, c]) : mtO x = if canB b.data.toList 1 then (ntnO (numV b.data.toList 1) c).map (fun l => ⟨a, numV b.data.toList 1, l⟩) else none := by
  unfold mtO
  rw [h]
  simp only
  split
  · cases ntnO (numV b.data.toList 1) c <;> rfl
  · rfl
theorem mtS_yes {x a b c : ByteArray} (h : splitW 32 x = [a, b, c]) : mtS x = some ⟨a, readV b.data.toList, (ntnO (readV b.data.toList) c).getD []⟩ := by
  unfold mtS
  rw [h]
/-- A row of methods of the call's own, with the methods' own rows. -/
def OwnM (w : World) (base : Nat) (v : Value) (ms : List Mt) (vs : List Value) : Prop :=
  w.ownsRow base 34 3 v ms.length ((ms.zip vs).flatMap mcells) ∧ vs.length = ms.length ∧ ∀ p ∈ ms.zip vs, w.ownsRow base 9 1 p.2 p.1.l.length (p.1.l.map Value.string)
theorem OwnM.own {w : World} {base : Nat} {v : Value} {ms : List Mt} {vs : List Value} (h : OwnM w base v ms vs) : OwnMeths w base v ms := ⟨vs, h.2.1, h.1, h.2.2⟩
theorem OwnM.to {w w' : World} {base : Nat} {v : Value} {ms : List Mt} {vs : List Value} (h : OwnM w base v ms vs) (hb : Below w.heap.size w w') : OwnM w' base v ms vs := ⟨own_to h.1 hb, h.2.1, fun p hp => own_to (h.2.2 p hp) hb⟩
theorem OwnM.nil (w : World) (base : Nat) : OwnM w base (.slice none 0 0) [] [] := ⟨World.ownsRow_nil _ _ _ _, rfl, fun p hp => by simp at hp⟩
theorem OwnM.push {wA w3 : World} {base : Nat} {V V2 x : Value} {ms : List Mt} {m : Mt} {vs : List Value} (h : OwnM wA base V ms vs) (hx : wA.ownsRow base 9 1 x m.l.length (m.l.map Value.string))
    (h3 : w3.ownsRow base 34 3 V2 (ms.length + 1) ((ms.zip vs).flatMap mcells ++ [.string m.name, .int .i64 m.stage, x])) (hg : wA.grownBy w3 V.ownBlock) : OwnM w3 base V2 (ms ++ [m]) (vs ++ [x]) := by
  have hl := h.2.1
  have hz : (ms ++ [m]).zip (vs ++ [x]) = ms.zip vs ++ [(m, x)] := by
    rw [List.zip_append hl.symm]; rfl
  refine ⟨?_, by simp [hl], ?_⟩
  · rw [List.length_append, hz, List.flatMap_append]
    exact h3
  · intro p hp
    rw [hz] at hp
    rcases List.mem_append.1 hp with hp | hp
    · have ho := h.2.2 p hp
      exact ho.kept hg (own_kindsB ho h.1 (by decide))
    · simp at hp
      subst hp
      exact hx.kept hg (own_kindsB hx h.1 (by decide))
def RLPost (w : World) (s : ByteArray) (e : Ending) (w' : World) : Prop := ∃ v vs, e = .returned (.tuple #[v, .bool (lbR s).isSome]) ∧ OwnM w' w.heap.size v ((lbR s).getD []) vs ∧ Below w.heap.size w w'
theorem rl_none {w w' : World} {s : ByteArray} (h : lbR s = none) (hb : Below w.heap.size w w') : RLPost w s (.returned (.tuple #[.slice none 0 0, .bool false])) w' :=
  ⟨_, [], by rw [h]; rfl, by rw [h]; exact OwnM.nil _ _, hb⟩
theorem rl_some {w w' : World} {s : ByteArray} {ms : List Mt} {v : Value} {vs : List Value} (h : lbR s = some ms) (ho : OwnM w' w.heap.size v ms vs) (hb : Below w.heap.size w w') : RLPost w s (.returned (.tuple #[v, .bool true])) w' :=
  ⟨v, vs, by rw [h]; rfl, by rw [h]; exact ho, hb⟩
/-- The methods' rows lie in blocks of their own. -/
def ApM (vs : List Value) : Prop := vs.Pairwise fun p q => (∀ k, p.ownBlock = some k → q.ownBlock ≠ some k) ∧ ∀ k, q.ownBlock = some k → p.ownBlock ≠ some k
theorem ApM.snoc {w : World} {base : Nat} {v x : Value} {ms : List Mt} {vs : List Value} (hA : ApM vs) (h : OwnM w base v ms vs) (hx : ∀ k, x.ownBlock = some k → w.heap.size ≤ k) : ApM (vs ++ [x]) := by
  refine List.pairwise_append.2 ⟨hA, List.pairwise_singleton _ _, ?_⟩
  intro p hp q hq
  rw [List.mem_singleton] at hq
  subst hq
  obtain ⟨i, hi, rfl⟩ := List.getElem_of_mem hp
  have hl := h.2.1
  have ho := h.2.2 (ms[i]'(by omega), vs[i]) (by
    rw [List.mem_iff_getElem]
    exact ⟨i, by simp; omega, by simp⟩)
  refine ⟨fun k hk e => ?_, fun k hk e => ?_⟩
  · have h1 := (ho.lt k hk).2
    have h2 := hx k e
    omega
  · have h1 := (ho.lt k e).2
    have h2 := hx k hk
    omega
def RLPostD (w : World) (s : ByteArray) (e : Ending) (w' : World) : Prop := ∃ v vs, e = .returned (.tuple #[v, .bool (lbR s).isSome]) ∧ OwnM w' w.heap.size v ((lbR s).getD []) vs ∧ ApM vs ∧ Below w.heap.size w w'
theorem rl_noneD {w w' : World} {s : ByteArray} (h : lbR s = none) (hb : Below w.heap.size w w') : RLPostD w s (.returned (.tuple #[.slice none 0 0, .bool false])) w' :=
  ⟨_, [], by rw [h]; rfl, by rw [h]; exact OwnM.nil _ _, List.Pairwise.nil, hb⟩
theorem rl_someD {w w' : World} {s : ByteArray} {ms : List Mt} {v : Value} {vs : List Value} (h : lbR s = some ms) (ho : OwnM w' w.heap.size v ms vs) (hA : ApM vs) (hb : Below w.heap.size w w') : RLPostD w s (.returned (.tuple #[v, .bool true])) w' :=
  ⟨v, vs, by rw [h]; rfl, by rw [h]; exact ho, hA, hb⟩
theorem lbG_no {f : ByteArray → Option Mt} {s : ByteArray} (h : rdM f (splitW 10 s).dropLast [] = none) : lbG f s = none := by
  unfold lbG; rw [h]
theorem lbG_some {f : ByteArray → Option Mt} {s : ByteArray} {ms : List Mt} (h : rdM f (splitW 10 s).dropLast [] = some ms) : lbG f s = if libB ms && decide (libTo ms ms.length = s) then some ms else none := by
  unfold lbG; rw [h]
def MSm (m : Mt) : Prop := m.name.size ≤ 1048576 ∧ m.l.length ≤ 40 ∧ ∀ x ∈ m.l, x.size ≤ 6
theorem allSmall_of {ms : List Mt} (hl : ms.length ≤ 1048576) (h : ∀ m ∈ ms, MSm m) : AllSmall ms :=
  ⟨hl, fun m hm => ⟨(h m hm).1, by have := (h m hm).2.1; omega, fun x hx => by have := (h m hm).2.2 x hx; omega⟩⟩
theorem splitX_anyL (s : ByteArray) (c : UInt8) (w : World) (hs : s.size ≤ 1048576) (hm : MaxOk w) : Calls Tryd.prog 15 #[.string s, .string ⟨#[c]⟩] w fun e w' =>
    e = .returned (.slice (some ⟨w.heap.size, 0, none⟩) (splitW c s).length (splitW c s).length) ∧ w' = w.alloc (.cells ((splitW c s).map Value.string).toArray 9) := by
  obtain ⟨m, hm'⟩ := hm w (Below.refl _ _)
  have h := Tryd.strings_Split s ⟨#[c]⟩ m w (by omega) hm' (by show 1 ≤ 1; omega)
  rw [splitB_W, ← splitW_len] at h
  exact h
theorem splitW_leL {c : UInt8} {s : ByteArray} : (splitW c s).length ≤ s.size + 1 := by
  rw [splitW_len]
  have := Lib.countB_le ⟨#[c]⟩ (by show 1 ≤ 1; omega) s.size s (Nat.le_refl _)
  have h1 : (⟨#[c]⟩ : ByteArray).size = 1 := rfl
  omega
theorem strs_newL (w : World) (l : List ByteArray) (hl : l.length ≤ 1048577) : (w.alloc (.cells (l.map Value.string).toArray 9)).ownsRow w.heap.size 9 1 (.slice (some ⟨w.heap.size, 0, none⟩) l.length l.length) l.length (l.map Value.string) := by
  have := own_of_heap (base := w.heap.size) (n := l.length) (size := 1) (heap_new w (.cells (l.map Value.string).toArray 9)) (Nat.le_refl _) (by unfold maxLen; omega) (by simp)
  simpa using this
theorem splitO_anyL (s : ByteArray) (c : UInt8) (w : World) (hs : s.size ≤ 1048576) (hm : MaxOk w) : Calls Tryd.prog 15 #[.string s, .string ⟨#[c]⟩] w fun e w' =>
    e = .returned (.slice (some ⟨w.heap.size, 0, none⟩) (splitW c s).length (splitW c s).length) ∧ w'.ownsRow w.heap.size 9 1 (.slice (some ⟨w.heap.size, 0, none⟩) (splitW c s).length (splitW c s).length) (splitW c s).length ((splitW c s).map Value.string) ∧ Below w.heap.size w w' := by
  refine (splitX_anyL s c w hs hm).mono ?_
  rintro e w' ⟨rfl, rfl⟩
  have := splitW_leL (c := c) (s := s)
  exact ⟨rfl, strs_newL w _ (by omega), bw_al (Below.refl _ _) _⟩
set_option maxRecDepth 10000 in
set_option maxHeartbeats 4000000 in
theorem linesOf_anyL (s : ByteArray) (X : List ByteArray) (x : ByteArray) (w : World) (hL : splitW 10 s = X ++ [x]) (hs : s.size ≤ 1048576) (hm : MaxOk w) : Calls Tryd.prog 14 #[.string s] w fun e w' =>
    e = .returned (.tuple #[.slice (some ⟨w.heap.size, 0, none⟩) X.length (X.length + 1), .bool x.toList.isEmpty]) ∧ Strs w' (.slice (some ⟨w.heap.size, 0, none⟩) X.length (X.length + 1)) X ∧ Below w.heap.size w w' := by
  have hsp := splitX_anyL s 10 w hs hm
  have hl := splitW_leL (c := 10) (s := s)
  rw [hL] at hsp hl
  have e1 : (X ++ [x]).length = X.length + 1 := by simp
  rw [e1] at hsp hl
  have hown := strs_newL w (X ++ [x]) (by rw [e1]; omega)
  rw [e1] at hown
  have hS : Strs (w.alloc (.cells ((X ++ [x]).map Value.string).toArray 9)) (.slice (some ⟨w.heap.size, 0, none⟩) (X.length + 1) (X.length + 1)) (X ++ [x]) := by
    have := strs_of_own (zs := X ++ [x]) (by rw [e1]; exact hown)
    exact this
  have hS1 : Strs (w.alloc (.cells ((X ++ [x]).map Value.string).toArray 9)) (.slice (some ⟨w.heap.size, 0, none⟩) (X ++ [x]).length (X.length + 1)) (X ++ [x]) := by rw [e1]; exact hS
  have hS2 := strs_upto (k := X.length) hS1 (by omega)
  rw [List.take_left' rfl] at hS2
  have hx := hown.cellAt X.length (by simp)
  have hx2 : (w.alloc (.cells ((X ++ [x]).map Value.string).toArray 9)).cell? ⟨w.heap.size, X.length, none⟩ = some (.string x) := by
    rw [hx]; simp
  have hb := bw_al (Below.refl w.heap.size w) (.cells ((X ++ [x]).map Value.string).toArray 9)
  obtain ⟨W, hW⟩ : ∃ W, W = w.alloc (.cells ((X ++ [x]).map Value.string).toArray 9) := ⟨_, rfl⟩
  rw [← hW] at hsp hS2 hx2 hb
  have Hsp := Lib.hid hsp
  have HS2 := Lib.hid hS2
  have hX : X.length ≤ 1048576 := by omega
  clear hL hs hm e1 hown hS hS1 hx hW hsp hl hS2
  go_enter Tryd.func14, Tryd.ntmps14
  go_wp2_with fail
  refine Hsp.out.mono ?_; rintro e w1 ⟨rfl, rfl⟩
  go_wp2_with fail
  go_big_quiet (fail)
  go_wp2_with fail
  go_ret2
  exact ⟨by rfl, HS2.out.to (bw_dr (Below.refl _ _) _), bw_dr hb _⟩
end Go.Proofs.YtenhnloljdfjhaaDoor
