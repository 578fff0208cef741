/- A method added to a library: the plain side; copies of methods; rows of methods as pairs. -/
import Derived.Test.YtenhnloljdfjhaaDoorPk16
import Derived.Test.YtenhnloljdfjhaaDoorPk14
namespace Go.Proofs.YtenhnloljdfjhaaDoor
open Go Go.RowKit
set_option linter.unusedVariables false
set_option linter.unusedSimpArgs false

theorem nl_trans {x y z : ByteArray} (h : nmLt x y = true) (h' : nmLt y z = true) : nmLt x z = true := bl_trans h h'
theorem bl_irr : ∀ x : List UInt8, Op.bytesLess x x = false
  | [] => rfl
  | a :: x => by rw [Op.bytesLess, bl_irr x]; simp
theorem nl_tot (x y : ByteArray) : (nmLt x y || x.toList == y.toList) = !nmLt y x := less_tot x.toList y.toList
theorem nl_ne {x y : ByteArray} (h : nmLt x y = true) : (x.toList == y.toList) = false := by
  cases e : (x.toList == y.toList)
  · rfl
  · have e' := eq_of_beq e
    unfold nmLt at h
    rw [e', bl_irr] at h; cases h
theorem nl_asym {x y : ByteArray} (h : nmLt x y = true) : nmLt y x = false := by
  have := nl_tot x y
  rw [h, Bool.true_or] at this
  simpa using this.symm
theorem nl_of {x y : ByteArray} (h : nmLt y x = false) (hne : (x.toList == y.toList) = false) : nmLt x y = true := by
  have := nl_tot x y
  rw [h, hne, Bool.or_false] at this
  simpa using this
abbrev Asc (ms : List Mt) : Prop := ms.Pairwise fun a b => nmLt a.name b.name = true
theorem lib_iff (ms : List Mt) : libB ms = true ↔ ms.length ≤ 30 ∧ (∀ x ∈ ms, methB x = true) ∧ Asc ms := by
  unfold libB
  rw [Bool.and_eq_true, decide_eq_true_iff, List.all_eq_true]
  constructor
  · rintro ⟨h1, h2⟩
    have hk : ∀ k (h : k < ms.length), methB ms[k] = true ∧ (0 < k → nmLt (ms[k - 1]'(by omega)).name ms[k].name = true) := by
      intro k h
      have := h2 k (List.mem_range.2 h)
      unfold okAt at this
      rw [getD_at h, getD_at (show k - 1 < ms.length by omega), Bool.and_eq_true, Bool.or_eq_true, decide_eq_true_iff] at this
      exact ⟨this.1, fun h0 => this.2.resolve_left (by omega)⟩
    refine ⟨h1, fun x hx => ?_, ?_⟩
    · obtain ⟨k, h, rfl⟩ := List.getElem_of_mem hx
      exact (hk k h).1
    · refine List.pairwise_iff_getElem.2 ?_
      have : ∀ d i (hi : i + d + 1 < ms.length), nmLt (ms[i]'(by omega)).name ms[i + d + 1].name = true := by
        intro d
        induction d with
        | zero => intro i hi; exact (hk (i + 1) hi).2 (by omega)
        | succ d ih => intro i hi; exact nl_trans (ih i (by omega)) ((hk (i + (d + 1) + 1) hi).2 (by omega))
      intro i j hi hj hij
      have := this (j - i - 1) i (by omega)
      have e : i + (j - i - 1) + 1 = j := by omega
      simpa only [e] using this
  · rintro ⟨h1, h2, h3⟩
    refine ⟨h1, fun k hk => ?_⟩
    have h := List.mem_range.1 hk
    have h3' := List.pairwise_iff_getElem.1 h3
    unfold okAt
    rw [getD_at h, getD_at (show k - 1 < ms.length by omega), Bool.and_eq_true, Bool.or_eq_true, decide_eq_true_iff]
    refine ⟨h2 _ (List.getElem_mem h), ?_⟩
    by_cases h0 : k = 0
    · exact .inl h0
    · exact .inr (h3' (k - 1) k (by omega) h (by omega))
theorem ix_none {s : ByteArray} : ∀ (ms : List Mt) (k : Nat), (∀ x ∈ ms, (x.name.toList == s.toList) = false) → ixOf s k ms = -1
  | [], _, _ => rfl
  | m :: t, k, h => by
    rw [ixOf, if_neg (by rw [h m (by simp)]; decide)]
    exact ix_none t (k + 1) fun x hx => h x (by simp [hx])
theorem ix_all {s : ByteArray} : ∀ (ms : List Mt) (k : Nat), ixOf s k ms < 0 → ∀ x ∈ ms, (x.name.toList == s.toList) = false
  | [], _, _, x, hx => by cases hx
  | m :: t, k, h, x, hx => by
    rw [ixOf] at h
    split at h
    · omega
    · rename_i hne
      rcases List.mem_cons.1 hx with rfl | hx
      · simpa using hne
      · exact ix_all t (k + 1) h x hx
def insAt (ms : List Mt) (k : Nat) (m : Mt) : List Mt := ms.take k ++ [m] ++ ms.drop k
theorem insAt_len {ms : List Mt} {k : Nat} {m : Mt} (h : k ≤ ms.length) : (insAt ms k m).length = ms.length + 1 := by unfold insAt; simp; omega
/-- The first k names are less, the next is not. -/
def PosAt (ms : List Mt) (m : Mt) (k : Nat) : Prop := k ≤ ms.length ∧ (∀ x ∈ ms.take k, nmLt x.name m.name = true) ∧ ∀ h : k < ms.length, nmLt ms[k].name m.name = false
def posOf (ms : List Mt) (m : Mt) : Nat := (ms.takeWhile fun x => nmLt x.name m.name).length
theorem pos_is {m : Mt} : ∀ {ms : List Mt} {k : Nat}, PosAt ms m k → posOf ms m = k
  | [], k, h => by have := h.1; unfold posOf; simp at this ⊢; omega
  | x :: t, 0, h => by
    have := h.2.2 (by simp)
    unfold posOf
    rw [List.takeWhile_cons, if_neg (by simpa using this)]; rfl
  | x :: t, k + 1, h => by
    have h0 := h.2.1 x (by simp)
    have ih := pos_is (m := m) (ms := t) (k := k) ⟨by have := h.1; simp at this; omega, fun y hy => h.2.1 y (by simp [hy]), fun hk => (h.2.2 (by simp; omega) :)⟩
    unfold posOf at ih ⊢
    rw [List.takeWhile_cons, if_pos h0, List.length_cons, ih]
def addB (ms : List Mt) (m : Mt) : Bool := libB ms && (methB m && libB (insAt ms (posOf ms m) m))
def addM (ms : List Mt) (m : Mt) : List Mt := if addB ms m then insAt ms (posOf ms m) m else []
theorem add_no1 {ms : List Mt} {m : Mt} (h : libB ms = false) : addB ms m = false := by unfold addB; rw [h]; rfl
theorem add_no2 {ms : List Mt} {m : Mt} (h : methB m = false) : addB ms m = false := by unfold addB; rw [h]; simp
theorem addM_no {ms : List Mt} {m : Mt} (h : addB ms m = false) : addM ms m = [] := by unfold addM; rw [h]; rfl
theorem add_at {ms : List Mt} {m : Mt} {k : Nat} (hp : PosAt ms m k) (hl : libB ms = true) (hm : methB m = true) : addB ms m = libB (insAt ms k m) ∧ (libB (insAt ms k m) = true → addM ms m = insAt ms k m) := by
  have e := pos_is hp
  have h1 : addB ms m = libB (insAt ms k m) := by unfold addB; rw [hl, hm, e]; rfl
  exact ⟨h1, fun h => by unfold addM; rw [h1, h, e]; rfl⟩
theorem lib_ins {ms : List Mt} {m : Mt} {k : Nat} (hp : PosAt ms m k) (hl : libB ms = true) (hm : methB m = true) : libB (insAt ms k m) = true ↔ ixOf m.name 0 ms < 0 ∧ ms.length ≠ 30 := by
  obtain ⟨h1, h2, h3⟩ := (lib_iff ms).1 hl
  have hs : ms.take k ++ ms.drop k = ms := List.take_append_drop k ms
  constructor
  · intro h
    obtain ⟨g1, _, g3⟩ := (lib_iff _).1 h
    rw [insAt_len hp.1] at g1
    refine ⟨?_, by omega⟩
    rw [ix_none]
    · omega
    · intro x hx
      unfold insAt Asc at g3
      rw [← hs] at hx
      rcases List.mem_append.1 hx with hx | hx
      · exact nl_ne (hp.2.1 x hx)
      · rw [List.append_assoc, List.pairwise_append] at g3
        have := (List.pairwise_cons.1 g3.2.1).1 x hx
        have := nl_ne this
        rw [Bool.eq_false_iff] at this ⊢
        intro e
        exact this (by rw [beq_iff_eq] at e ⊢; exact e.symm)
  · rintro ⟨hix, h30⟩
    have hne := ix_all ms 0 hix
    refine (lib_iff _).2 ⟨by rw [insAt_len hp.1]; omega, ?_, ?_⟩
    · intro x hx
      unfold insAt at hx
      rcases List.mem_append.1 hx with hx | hx
      · rcases List.mem_append.1 hx with hx | hx
        · exact h2 x (List.mem_of_mem_take hx)
        · rw [List.mem_singleton.1 hx]; exact hm
      · exact h2 x (List.mem_of_mem_drop hx)
    · have hup : ∀ x ∈ ms.drop k, nmLt m.name x.name = true := by
        intro x hx
        obtain ⟨j, hj, rfl⟩ := List.getElem_of_mem hx
        rw [List.length_drop] at hj
        rw [List.getElem_drop]
        have hk : k < ms.length := by omega
        have h0 : nmLt m.name ms[k].name = true := nl_of (hp.2.2 hk) (by
          have := hne _ (List.getElem_mem hk)
          rw [Bool.eq_false_iff] at this ⊢
          intro e
          exact this (by rw [beq_iff_eq] at e ⊢; exact e.symm))
        by_cases hj0 : j = 0
        · subst hj0; exact h0
        · exact nl_trans h0 (List.pairwise_iff_getElem.1 h3 k (k + j) hk (by omega) (by omega))
      unfold insAt Asc
      rw [List.append_assoc, List.pairwise_append]
      have h3' := h3
      unfold Asc at h3'
      rw [← hs, List.pairwise_append] at h3'
      refine ⟨h3'.1, List.pairwise_cons.2 ⟨hup, h3'.2.1⟩, ?_⟩
      intro a ha b hb
      rcases List.mem_cons.1 hb with rfl | hb
      · exact hp.2.1 a ha
      · exact h3'.2.2 a ha b hb
/-- Where the reference's walk down ends. -/
theorem pos_down {ms : List Mt} {m : Mt} {k : Nat} (hl : libB ms = true) (hix : ixOf m.name 0 ms < 0) (hk : k ≤ ms.length) (hup : ∀ x ∈ ms.drop k, nmLt m.name x.name = true) (he : ∀ h : 0 < k, nmLt m.name (ms[k - 1]'(by omega)).name = false) : PosAt ms m k := by
  obtain ⟨_, _, h3⟩ := (lib_iff ms).1 hl
  have hne := ix_all ms 0 hix
  refine ⟨hk, ?_, ?_⟩
  · intro x hx
    obtain ⟨j, hj, rfl⟩ := List.getElem_of_mem hx
    rw [List.length_take] at hj
    rw [List.getElem_take]
    have h0 : nmLt (ms[k - 1]'(by omega)).name m.name = true := nl_of (he (by omega)) (hne _ (List.getElem_mem _))
    by_cases e : j = k - 1
    · subst e; exact h0
    · exact nl_trans (List.pairwise_iff_getElem.1 h3 j (k - 1) (by omega) (by omega) (by omega)) h0
  · intro h
    refine nl_asym (hup _ ?_)
    rw [show ms.drop k = ms[k] :: ms.drop (k + 1) from List.drop_eq_getElem_cons h]; exact List.mem_cons_self ..
/-- A row of methods of the call's own, each with its slice, as pairs. -/
def OwnP (w : World) (base : Nat) (v : Value) (ps : List (Mt × Value)) : Prop := w.ownsRow base 34 3 v ps.length (ps.flatMap mcells) ∧ ∀ p ∈ ps, w.ownsRow base 9 1 p.2 p.1.l.length (p.1.l.map Value.string)
def Apart (ps : List (Mt × Value)) : Prop := ps.Pairwise fun p q => (∀ k, p.2.ownBlock = some k → q.2.ownBlock ≠ some k) ∧ ∀ k, q.2.ownBlock = some k → p.2.ownBlock ≠ some k
def OwnD (w : World) (base : Nat) (v : Value) (ms : List Mt) : Prop := ∃ ps, ps.map Prod.fst = ms ∧ OwnP w base v ps ∧ Apart ps
theorem zip_fs : ∀ ps : List (Mt × Value), (ps.map Prod.fst).zip (ps.map Prod.snd) = ps
  | [] => rfl
  | p :: ps => by simp [zip_fs ps]
theorem OwnP.own {w : World} {base : Nat} {v : Value} {ps : List (Mt × Value)} {ms : List Mt} (h : OwnP w base v ps) (he : ps.map Prod.fst = ms) : OwnMeths w base v ms := by
  subst he
  refine ⟨ps.map Prod.snd, by simp, ?_, ?_⟩
  · rw [zip_fs, List.length_map]; exact h.1
  · rw [zip_fs]; exact h.2
theorem OwnP.to {w w' : World} {base : Nat} {v : Value} {ps : List (Mt × Value)} (h : OwnP w base v ps) (hb : Below w.heap.size w w') : OwnP w' base v ps := ⟨own_to h.1 hb, fun p hp => own_to (h.2 p hp) hb⟩
theorem OwnD.own {w : World} {base : Nat} {v : Value} {ms : List Mt} (h : OwnD w base v ms) : OwnMeths w base v ms := let ⟨ps, e, h1, _⟩ := h; h1.own e
theorem OwnD.to {w w' : World} {base : Nat} {v : Value} {ms : List Mt} (h : OwnD w base v ms) (hb : Below w.heap.size w w') : OwnD w' base v ms := let ⟨ps, e, h1, h2⟩ := h; ⟨ps, e, h1.to hb, h2⟩
theorem OwnP.nil (w : World) (base : Nat) : OwnP w base (.slice none 0 0) [] := ⟨World.ownsRow_nil _ _ _ _, fun p hp => by cases hp⟩
theorem OwnD.nil (w : World) (base : Nat) : OwnD w base (.slice none 0 0) [] := ⟨[], rfl, OwnP.nil w base, List.Pairwise.nil⟩
theorem mc_one (ps : List (Mt × Value)) (hs : ∀ p ∈ ps, p.2.oneCell' = true) : ∀ u ∈ ps.flatMap mcells, u.oneCell' = true := by
  intro u hu
  obtain ⟨p, hp, hx⟩ := List.mem_flatMap.1 hu
  simp [mcells] at hx
  rcases hx with rfl | rfl | rfl
  · rfl
  · rfl
  · exact hs p hp
theorem own_one' {w : World} {base n : Nat} {e : TypeId} {s : Nat} {v : Value} {x : List Value} (h : w.ownsRow base e s v n x) : v.oneCell' = true := by
  obtain ⟨A, c, rfl, _⟩ := sl_of_own h; rfl
theorem OwnP.one {w : World} {base : Nat} {v : Value} {ps : List (Mt × Value)} (h : OwnP w base v ps) : ∀ u ∈ ps.flatMap mcells, u.oneCell' = true := mc_one ps fun p hp => own_one' (h.2 p hp)
theorem Apart.snoc {w : World} {base : Nat} {v x : Value} {ps : List (Mt × Value)} {m : Mt} (hA : Apart ps) (h : OwnP w base v ps) (hx : ∀ k, x.ownBlock = some k → w.heap.size ≤ k) : Apart (ps ++ [(m, x)]) := by
  unfold Apart at hA ⊢
  rw [List.pairwise_append]
  refine ⟨hA, List.pairwise_cons.2 ⟨fun _ h => (by cases h), List.Pairwise.nil⟩, ?_⟩
  intro p hp q hq
  rw [List.mem_singleton.1 hq]
  refine ⟨fun k hk e => ?_, fun k hk e => ?_⟩
  · have := hx k e; have := ((h.2 p hp).lt k hk).2; omega
  · have := hx k hk; have := ((h.2 p hp).lt k e).2; omega
/-- The row with one more. -/
theorem OwnP.push {wA w3 : World} {base : Nat} {V V2 x : Value} {ps : List (Mt × Value)} {m : Mt} (h : OwnP wA base V ps) (hx : wA.ownsRow base 9 1 x m.l.length (m.l.map Value.string))
    (h3 : w3.ownsRow base 34 3 V2 (ps.length + 1) (ps.flatMap mcells ++ [.string m.name, .int .i64 m.stage, x])) (hg : wA.grownBy w3 V.ownBlock) : OwnP w3 base V2 (ps ++ [(m, x)]) := by
  refine ⟨?_, ?_⟩
  · rw [List.flatMap_append, List.length_append]; exact h3
  · intro p hp
    rcases List.mem_append.1 hp with hp | hp
    · exact (h.2 p hp).kept hg (own_kinds (h.2 p hp) h.1 (by decide))
    · rw [List.mem_singleton.1 hp]; exact hx.kept hg (own_kinds hx h.1 (by decide))
theorem zip_memN {ms : List Mt} {vs : List Value} {k : Nat} (hvl : vs.length = ms.length) (hlt : k < ms.length) : (ms[k], vs[k]'(by omega)) ∈ ms.zip vs := by
  have hz : k < (ms.zip vs).length := by simp; omega
  have := List.getElem_mem hz
  rwa [List.getElem_zip] at this
end Go.Proofs.YtenhnloljdfjhaaDoor
