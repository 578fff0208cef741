/- A method added to a library: the plain side; copies of methods; rows of methods as pairs. -/
import Derived.Test.YtnbehldacehiiaaK1
import Derived.Test.YtnbehldacehiiaaP4
namespace Go.Proofs.Ytnbehldacehiiaa
open Go Go.RowKit
set_option linter.unusedVariables false
set_option linter.unusedSimpArgs false

theorem nl_trans {x y z : ByteArray} (h : nmLt x y = true) (h' : nmLt y z = true) : nmLt x z = true := bl_trans h h'
theorem bl_irr : ∀ x : List UInt8, Op.bytesLess x x = false
  | [] => rfl
  | a :: x => by rw [Op.bytesLess, bl_irr x]; simp
theorem nl_tot (x y : ByteArray) : (nmLt x y || x.toList == y.toList) = !nmLt y x := less_tot x.toList y.toList
theorem nl_ne {x y : ByteArray} (h : nmLt x y = true) : (x.toList == y.toList) = false := by
  cases e : (x.toList == y.toList)
  · rfl
  · have e' := eq_of_beq e
    unfold nmLt at h
    rw [e', bl_irr] at h; cases h
theorem nl_asym {x y : ByteArray} (h : nmLt x y = true) : nmLt y x = false := by
  have := nl_tot x y
  rw [h, Bool.true_or] at this
  simpa using this.symm
theorem nl_of {x y : ByteArray} (h : nmLt y x = false) (hne : (x.toList == y.toList) = false) : nmLt x y = true := by
  have := nl_tot x y
  rw [h, hne, Bool.or_false] at this
  simpa using this
abbrev Asc (ms : List Mt) : Prop := ms.Pairwise fun a b => nmLt a.name b.name = true
theorem lib_iff (ms : List Mt) : libB ms = true ↔ ms.length ≤ 30 ∧ (∀ x ∈ ms, methB x = true) ∧ Asc ms := by
  unfold libB
  rw [Bool.and_eq_true, decide_eq_true_iff, List.all_eq_true]
  constructor
  · rintro ⟨h1, h2⟩
    have hk : ∀ k (h : k < ms.length), methB ms[k] = true ∧ (0 < k → nmLt (ms[k - 1]'(by omega)).name ms[k].name = true) := by
      intro k h
      have := h2 k (List.mem_range.2 h)
      unfold okAt at this
      rw [getD_at h, getD_at (show k - 1 < ms.length by omega), Bool.and_eq_true, Bool.or_eq_true, decide_eq_true_iff] at this
      exact ⟨this.1, fun h0 => this.2.resolve_left (by omega)⟩
    refine ⟨h1, fun x hx => ?_, ?_⟩
    · obtain ⟨k, h, rfl⟩ := List.getElem_of_mem hx
      exact (hk k h).1
    · refine List.pairwise_iff_getElem.2 ?_
      have : ∀ d i (hi : i + d + 1 < ms.length), nmLt (ms[i]'(by omega)).name ms[i + d + 1].name = true := by
        intro d
        induction d with
        | zero => intro i hi; exact (hk (i + 1) hi).2 (by omega)
        | succ d ih => intro i hi; exact nl_trans (ih i (by omega)) ((hk (i + (d + 1) + 1) hi).2 (by omega))
      intro i j hi hj hij
      have := this (j - i - 1) i (by omega)
      have e : i + (j - i - 1) + 1 = j := by omega
      simpa only [e] using this
  · rintro ⟨h1, h2, h3⟩
    refine ⟨h1, fun k hk => ?_⟩
    have h := List.mem_range.1 hk
    have h3' := List.pairwise_iff_getElem.1 h3
    unfold okAt
    rw [getD_at h, getD_at (show k - 1 < ms.length by omega), Bool.and_eq_true, Bool.or_eq_true, decide_eq_true_iff]
    refine ⟨h2 _ (List.getElem_mem h), ?_⟩
    by_cases h0 : k = 0
    · exact .inl h0
    · exact .inr (h3' (k - 1) k (by omega) h (by omega))
theorem ix_none {s : ByteArray} : ∀ (ms : List Mt) (k : Nat), (∀ x ∈ ms, (x.name.toList == s.toList) = false) → ixOf s k ms = -1
  | [], _, _ => rfl
  | m :: t, k, h => by
    rw [ixOf, if_neg (by rw [h m (by simp)]; decide)]
    exact ix_none t (k + 1) fun x hx => h x (by simp [hx])
theorem ix_all {s : ByteArray} : ∀ (ms : List Mt) (k : Nat), ixOf s k ms < 0 → ∀ x ∈ ms, (x.name.toList == s.toList) = false
  | [], _, _, x, hx => by cases hx
  | m :: t, k, h, x, hx => by
    rw [ixOf] at h
    split at h
    · omega
    · rename_i hne
      rcases List.mem_cons.1 hx with rfl | hx
      · simpa using hne
      · exact ix_all t (k + 1) h x hx
def insAt (ms : List Mt) (k : Nat) (m : Mt) : List Mt := ms.take k ++ [m] ++ ms.drop k
theorem insAt_len {ms : List Mt} {k : Nat} {m : Mt} (h : k ≤ ms.length) : (insAt ms k m).length = ms.length + 1 := by unfold insAt; simp; omega
/-- The first k names are less, the next is not. -/
def PosAt (ms : List Mt) (m : Mt) (k : Nat) : Prop := k ≤ ms.length ∧ (∀ x ∈ ms.take k, nmLt x.name m.name = true) ∧ ∀ h : k < ms.length, nmLt ms[k].name m.name = false
def posOf (ms : List Mt) (m : Mt) : Nat := (ms.takeWhile fun x => nmLt x.name m.name).length
theorem pos_is {m : Mt} : ∀ {ms : List Mt} {k : Nat}, PosAt ms m k → posOf ms m = k
  | [], k, h => by have := h.1; unfold posOf; simp at this ⊢; omega
  | x :: t, 0, h => by
    have := h.2.2 (by simp)
    unfold posOf
    rw [List.takeWhile_cons, if_neg (by simpa using this)]; rfl
  | x :: t, k + 1, h => by
    have h0 := h.2.1 x (by simp)
    have ih := pos_is (m := m) (ms := t) (k := k) ⟨by have := h.1; simp at this; omega, fun y hy => h.2.1 y (by simp [hy]), fun hk => (h.2.2 (by simp; omega) :)⟩
    unfold posOf at ih ⊢
    rw [List.takeWhile_cons, if_pos h0, List.length_cons, ih]
def addB (ms : List Mt) (m : Mt) : Bool := libB ms && (methB m && libB (insAt ms (posOf ms m) m))
def addM (ms : List Mt) (m : Mt) : List Mt := if addB ms m then insAt ms (posOf ms m) m else []
theorem add_no1 {ms : List Mt} {m : Mt} (h : libB ms = false) : addB ms m = false := by unfold addB; rw [h]; rfl
theorem add_no2 {ms : List Mt} {m : Mt} (h : methB m = false) : addB ms m = false := by unfold addB; rw [h]; simp
theorem addM_no {ms : List Mt} {m : Mt} (h : addB ms m = false) : addM ms m = [] := by unfold addM; rw [h]; rfl
theorem add_at {ms : List Mt} {m : Mt} {k : Nat} (hp : PosAt ms m k) (hl : libB ms = true) (hm : methB m = true) : addB ms m = libB (insAt ms k m) ∧ (libB (insAt ms k m) = true → addM ms m = insAt ms k m) := by
  have e := pos_is hp
  have h1 : addB ms m = libB (insAt ms k m) := by unfold addB; rw [hl, hm, e]; rfl
  exact ⟨h1, fun h => by unfold addM; rw [h1, h, e]; rfl⟩
theorem lib_ins {ms : List Mt} {m : Mt} {k : Nat} (hp : PosAt ms m k) (hl : libB ms = true) (hm : methB m = true) : libB (insAt ms k m) = true ↔ ixOf m.name 0 ms < 0 ∧ ms.length ≠ 30 := by
  obtain ⟨h1, h2, h3⟩ := (lib_iff ms).1 hl
  have hs : ms.take k ++ ms.drop k = ms := List.take_append_drop k ms
  constructor
  · intro h
    obtain ⟨g1, _, g3⟩ := (lib_iff _).1 h
    rw [insAt_len hp.1] at g1
    refine ⟨?_, by omega⟩
    rw [ix_none]
    · omega
    · intro x hx
      unfold insAt Asc at g3
      rw [← hs] at hx
      rcases List.mem_append.1 hx with hx | hx
      · exact nl_ne (hp.2.1 x hx)
      · rw [List.append_assoc, List.pairwise_append] at g3
        have := (List.pairwise_cons.1 g3.2.1).1 x hx
        have := nl_ne this
        rw [Bool.eq_false_iff] at this ⊢
        intro e
        exact this (by rw [beq_iff_eq] at e ⊢; exact e.symm)
  · rintro ⟨hix, h30⟩
    have hne := ix_all ms 0 hix
    refine (lib_iff _).2 ⟨by rw [insAt_len hp.1]; omega, ?_, ?_⟩
    · intro x hx
      unfold insAt at hx
      rcases List.mem_append.1 hx with hx | hx
      · rcases List.mem_append.1 hx with hx | hx
        · exact h2 x (List.mem_of_mem_take hx)
        · rw [List.mem_singleton.1 hx]; exact hm
      · exact h2 x (List.mem_of_mem_drop hx)
    · have hup : ∀ x ∈ ms.drop k, nmLt m.name x.name = true := by
        intro x hx
        obtain ⟨j, hj, rfl⟩ := List.getElem_of_mem hx
        rw [List.length_drop] at hj
        rw [List.getElem_drop]
        have hk : k < ms.length := by omega
        have h0 : nmLt m.name ms[k].name = true := nl_of (hp.2.2 hk) (by
          have := hne _ (List.getElem_mem hk)
          rw [Bool.eq_false_iff] at this ⊢
          intro e
          exact this (by rw [beq_iff_eq] at e ⊢; exact e.symm))
        by_cases hj0 : j = 0
        · subst hj0; exact h0
        · exact nl_trans h0 (List.pairwise_iff_getElem.1 h3 k (k + j) hk (by omega) (by omega))
      unfold insAt Asc
      rw [List.append_assoc, List.pairwise_append]
      have h3' := h3
      unfold Asc at h3'
      rw [← hs, List.pairwise_append] at h3'
      refine ⟨h3'.1, List.pairwise_cons.2 ⟨hup, h3'.2.1⟩, ?_⟩
      intro a ha b hb
      rcases List.mem_cons.1 hb with rfl | hb
      · exact hp.2.1 a ha
      · exact h3'.2.2 a ha b hb
/-- Where the reference's walk down ends. -/
theorem pos_down {ms : List Mt} {m : Mt} {k : Nat} (hl : libB ms = true) (hix : ixOf m.name 0 ms < 0) (hk : k ≤ ms.length) (hup : ∀ x ∈ ms.drop k, nmLt m.name x.name = true) (he : ∀ h : 0 < k, nmLt m.name (ms[k - 1]'(by omega)).name = false) : PosAt ms m k := by
  obtain ⟨_, _, h3⟩ := (lib_iff ms).1 hl
  have hne := ix_all ms 0 hix
  refine ⟨hk, ?_, ?_⟩
  · intro x hx
    obtain ⟨j, hj, rfl⟩ := List.getElem_of_mem hx
    rw [List.length_take] at hj
    rw [List.getElem_take]
    have h0 : nmLt (ms[k - 1]'(by omega)).name m.name = true := nl_of (he (by omega)) (hne _ (List.getElem_mem _))
    by_cases e : j = k - 1
    · subst e; exact h0
    · exact nl_trans (List.pairwise_iff_getElem.1 h3 j (k - 1) (by omega) (by omega) (by omega)) h0
  · intro h
    refine nl_asym (hup _ ?_)
    rw [show ms.drop k = ms[k] :: ms.drop (k + 1) from List.drop_eq_getElem_cons h]; exact List.mem_cons_self ..
/-- A row of methods of the call's own, each with its slice, as pairs. -/
def OwnP (w : World) (base : Nat) (v : Value) (ps : List (Mt × Value)) : Prop := w.ownsRow base 36 3 v ps.length (ps.flatMap mcells) ∧ ∀ p ∈ ps, w.ownsRow base 9 1 p.2 p.1.l.length (p.1.l.map Value.string)
def Apart (ps : List (Mt × Value)) : Prop := ps.Pairwise fun p q => (∀ k, p.2.ownBlock = some k → q.2.ownBlock ≠ some k) ∧ ∀ k, q.2.ownBlock = some k → p.2.ownBlock ≠ some k
def OwnD (w : World) (base : Nat) (v : Value) (ms : List Mt) : Prop := ∃ ps, ps.map Prod.fst = ms ∧ OwnP w base v ps ∧ Apart ps
theorem zip_fs : ∀ ps : List (Mt × Value), (ps.map Prod.fst).zip (ps.map Prod.snd) = ps
  | [] => rfl
  | p :: ps => by simp [zip_fs ps]
theorem OwnP.own {w : World} {base : Nat} {v : Value} {ps : List (Mt × Value)} {ms : List Mt} (h : OwnP w base v ps) (he : ps.map Prod.fst = ms) : OwnMeths w base v ms := by
  subst he
  refine ⟨ps.map Prod.snd, by simp, ?_, ?_⟩
  · rw [zip_fs, List.length_map]; exact h.1
  · rw [zip_fs]; exact h.2
theorem OwnP.to {w w' : World} {base : Nat} {v : Value} {ps : List (Mt × Value)} (h : OwnP w base v ps) (hb : Below w.heap.size w w') : OwnP w' base v ps := ⟨own_to h.1 hb, fun p hp => own_to (h.2 p hp) hb⟩
theorem OwnD.own {w : World} {base : Nat} {v : Value} {ms : List Mt} (h : OwnD w base v ms) : OwnMeths w base v ms := let ⟨ps, e, h1, _⟩ := h; h1.own e
theorem OwnD.to {w w' : World} {base : Nat} {v : Value} {ms : List Mt} (h : OwnD w base v ms) (hb : Below w.heap.size w w') : OwnD w' base v ms := let ⟨ps, e, h1, h2⟩ := h; ⟨ps, e, h1.to hb, h2⟩
theorem OwnP.nil (w : World) (base : Nat) : OwnP w base (.slice none 0 0) [] := ⟨World.ownsRow_nil _ _ _ _, fun p hp => by cases hp⟩
theorem OwnD.nil (w : World) (base : Nat) : OwnD w base (.slice none 0 0) [] := ⟨[], rfl, OwnP.nil w base, List.Pairwise.nil⟩
theorem mc_one (ps : List (Mt × Value)) (hs : ∀ p ∈ ps, p.2.oneCell' = true) : ∀ u ∈ ps.flatMap mcells, u.oneCell' = true := by
  intro u hu
  obtain ⟨p, hp, hx⟩ := List.mem_flatMap.1 hu
  simp [mcells] at hx
  rcases hx with rfl | rfl | rfl
  · rfl
  · rfl
  · exact hs p hp
theorem own_one' {w : World} {base n : Nat} {e : TypeId} {s : Nat} {v : Value} {x : List Value} (h : w.ownsRow base e s v n x) : v.oneCell' = true := by
  obtain ⟨A, c, rfl, _⟩ := sl_of_own h; rfl
theorem OwnP.one {w : World} {base : Nat} {v : Value} {ps : List (Mt × Value)} (h : OwnP w base v ps) : ∀ u ∈ ps.flatMap mcells, u.oneCell' = true := mc_one ps fun p hp => own_one' (h.2 p hp)
theorem Apart.snoc {w : World} {base : Nat} {v x : Value} {ps : List (Mt × Value)} {m : Mt} (hA : Apart ps) (h : OwnP w base v ps) (hx : ∀ k, x.ownBlock = some k → w.heap.size ≤ k) : Apart (ps ++ [(m, x)]) := by
  unfold Apart at hA ⊢
  rw [List.pairwise_append]
  refine ⟨hA, List.pairwise_cons.2 ⟨fun _ h => (by cases h), List.Pairwise.nil⟩, ?_⟩
  intro p hp q hq
  rw [List.mem_singleton.1 hq]
  refine ⟨fun k hk e => ?_, fun k hk e => ?_⟩
  · have := hx k e; have := ((h.2 p hp).lt k hk).2; omega
  · have := hx k hk; have := ((h.2 p hp).lt k e).2; omega
/-- The row with one more. -/
theorem OwnP.push {wA w3 : World} {base : Nat} {V V2 x : Value} {ps : List (Mt × Value)} {m : Mt} (h : OwnP wA base V ps) (hx : wA.ownsRow base 9 1 x m.l.length (m.l.map Value.string))
    (h3 : w3.ownsRow base 36 3 V2 (ps.length + 1) (ps.flatMap mcells ++ [.string m.name, .int .i64 m.stage, x])) (hg : wA.grownBy w3 V.ownBlock) : OwnP w3 base V2 (ps ++ [(m, x)]) := by
  refine ⟨?_, ?_⟩
  · rw [List.flatMap_append, List.length_append]; exact h3
  · intro p hp
    rcases List.mem_append.1 hp with hp | hp
    · exact (h.2 p hp).kept hg (own_kinds (h.2 p hp) h.1 (by decide))
    · rw [List.mem_singleton.1 hp]; exact hx.kept hg (own_kinds hx h.1 (by decide))
set_option maxHeartbeats 1000000 in
theorem copyMethod_any (m : Mt) (v : Value) (w : World) (h : Strs w v m.l) (hn : NilOk v) (hlen : m.l.length ≤ 10000000) : Calls Try.prog 65 #[.agg #[.string m.name, .int .i64 m.stage, v]] w fun e w' =>
    ∃ A c, e = .returned (.agg #[.string m.name, .int .i64 m.stage, .slice A m.l.length c]) ∧ w'.ownsRow w.heap.size 9 1 (.slice A m.l.length c) m.l.length (m.l.map Value.string) ∧ Below w.heap.size w w' := by
  go_enter Try.func65, Try.ntmps65
  go_wp2_with fail
  refine box2 (C := fun W => Code.wp _ _ _ _ W) ?_
  intro wb hw k1 k2 hB0
  have R2 := boxRule k2
  have hds : ∀ w', Below wb.drew.heap.size wb.drew w' → Below wb.heap.size wb w' := fun w' hb => bw_to (Below.drew (Below.refl _ _)) hb
  have F2 := fun (j : Nat) w' hb => frozen_of_heap k2 j (w' := w') hb
  have Hh := Lib.hid h
  have hdr : Below wb.heap.size wb wb.drew := Below.drew (Below.refl _ _)
  have hlt2 : w.heap.size + 1 < wb.heap.size := blk_lt k2
  have R1' := fun w' i hb => boxRuleB k1 (Nat.lt_succ_self _) w' i hb
  have Hs := Lib.hid (Nat.le_of_lt hlt2)
  have hst := Below.refl (w.heap.size + 1) wb
  clear k1 k2 h
  go_region_held3 (fun w' => Below (w.heap.size + 1) wb w') (first | exact Below.drew (by assumption) | assumption | exact set3_low (by assumption) (Nat.le_refl _))
    (first | (go_at_call 56; refine (withChanges_agg m v _ _ _ _).mono ?_; rintro e w2 ⟨rfl, hb2⟩; (have hB2 : Below wb.heap.size wb w2 := bw_to hB1 hb2); (have hB2' : Below (w.heap.size + 1) wb w2 := hB2.mono Hs.out); (have c0 := R2 w2 0 hB2); (have c1 := R2 w2 1 hB2); (have c2 := R2 w2 2 hB2); (have f0 := F2 0 w2 hB2); (have f1 := F2 1 w2 hB2); (have f2 := F2 2 w2 hB2)) | (go_at_call 89; refine (cloneStr_any v m.l _ (Hh.out.to (bw_to hw hdr)) hn hlen).mono ?_; rintro e w1 ⟨r, rfl, hown, hb'⟩; (obtain ⟨A, c, hrs, _⟩ := sl_of_own hown); subst hrs; (have hB1 : Below wb.heap.size wb w1 := hds _ hb'); (have hB1' : Below (w.heap.size + 1) wb w1 := hB1.mono Hs.out)))
  go_wp2_with fail
  have hown2 := own_to hown (by assumption : Below w1.heap.size w1 w2)
  refine bodyPost_ret (v := .agg #[.string m.name, .int .i64 m.stage, .slice A m.l.length c]) ?hr rfl ⟨_, _, rfl, ?ho, ?hb⟩
  case ho => exact own_base (own_past (own_past (own_past hown2 hlt2 _ _) hlt2 _ _) hlt2 _ _) hw.size
  case hb => exact grow_set (grow_set (grow_set (bw_to hw hB2) (Nat.le_succ _) _) (Nat.le_succ _) _) (Nat.le_succ _) _
  case hr => simp [results, go_sem, c0, c1, c2]
theorem zip_memN {ms : List Mt} {vs : List Value} {k : Nat} (hvl : vs.length = ms.length) (hlt : k < ms.length) : (ms[k], vs[k]'(by omega)) ∈ ms.zip vs := by
  have hz : k < (ms.zip vs).length := by simp; omega
  have := List.getElem_mem hz
  rwa [List.getElem_zip] at this
set_option maxRecDepth 100000 in
set_option maxHeartbeats 2000000 in
theorem l29Own_any (V : Value) (ms : List Mt) (w : World) (h : MethsN w V ms) (hlen : ms.length ≤ 100) (hml : ∀ x ∈ ms, x.l.length ≤ 10000000) : Calls Try.prog 63 #[V] w fun e w' =>
    ∃ r ps, e = .returned r ∧ ps.map Prod.fst = ms ∧ OwnP w' w.heap.size r ps ∧ Below w.heap.size w w' := by
  obtain ⟨vs, hvl, ⟨A, c, rfl, h1, h2, hr⟩, hat⟩ := h
  unfold maxLen at h2
  have Hat := Lib.hid hat
  have Hml := Lib.hid hml
  clear hat hml
  go_enter Try.func63, Try.ntmps63
  go_wp2_with fail
  go_loopw [3, 8] (fun o i wr => ∃ k : Nat, ∃ ps, k ≤ ms.length ∧ i = .int .i64 k ∧ ps.map Prod.fst = ms.take k ∧ OwnP wr w.heap.size o ps ∧ Below w.heap.size w wr) (fun _ i _ => ms.length - (intOf i).toNat)
  case atStart => exact ⟨0, [], by omega, rfl, rfl, OwnP.nil _ _, Below.refl _ _⟩
  case round =>
    obtain ⟨k, ps, hk, rfl, hps, hO, hB⟩ := hrel
    have Hps := Lib.hid hps
    have HO := Lib.hid hO
    have hpl : ps.length = k := by have := congrArg List.length hps; simpa [Nat.min_eq_left hk] using this
    obtain ⟨Ao, co, e0, _⟩ := sl_of_own hO.1
    subst e0
    subst hpl
    clear hps hO
    by_cases hlt : ps.length < ms.length
    · obtain ⟨ad, v, rfl, hmem, hC⟩ := meths_el hvl hr rfl hlt
      have hm := (Hat.out _ hmem).1.to hB
      have hn := (Hat.out _ hmem).2
      have Htk := Lib.hid (List.take_succ_eq_append_getElem hlt)
      have hl := Hml.out _ (List.getElem_mem hlt)
      obtain ⟨m, em⟩ : ∃ m, m = ms[ps.length] := ⟨_, rfl⟩
      rw [← em] at hC hm hn Htk hl
      have Hm := Lib.hid hm
      have Hn := Lib.hid hn
      obtain ⟨Av, cv, hv⟩ : ∃ A c, v = .slice A m.l.length c := hm.form
      subst hv
      clear hmem em hm hn
      go_wp2_with fail
      refine (l4Own_any m _ _ (Hm.out.1.to (bw_al (Below.refl _ _) _)) Hn.out hl).mono ?_; rintro e w1 ⟨r, rfl, hown1, hb1⟩
      obtain ⟨A1, c1, e1, _⟩ := sl_of_own hown1
      subst e1
      have hb1' := bw_to (bw_al (Below.refl _ wr) _) hb1
      have hbA := bw_to hb1' (bw_al (Below.refl _ w1) (.cells #[.string m.name, .int .i64 m.stage, .slice A1 m.l.length c1] 36))
      have HOA := HO.out.to hbA
      have HBA := bw_to hB hbA
      have hx := own_base (own_to hown1 (bw_al (Below.refl _ w1) (.cells #[.string m.name, .int .i64 m.stage, .slice A1 m.l.length c1] 36))) (show w.heap.size ≤ _ from Nat.le_trans hB.size (by simp))
      have hnew : (w1.alloc (.cells #[.string m.name, .int .i64 m.stage, .slice A1 m.l.length c1] 36)).ownsRow 0 36 3 (.slice (some ⟨w1.heap.size, 0, none⟩) 1 1) 1 [.string m.name, .int .i64 m.stage, .slice A1 m.l.length c1] := own_of_heap (heap_new w1 _) (Nat.zero_le _) (by unfold maxLen; omega) rfl
      have hsl := sl_of_own hnew
      have hnl := nilok_own hnew
      have Hx := Lib.hid hx
      have HHA := Lib.hid HOA
      have hrow := HOA.1
      have hsz := HBA.size
      clear hx hown1 hnew HOA hb1' hbA hb1
      unfold Mt.v
      go_wp2_with (at_builtin; go_must (refine wpList_app_sl _ rfl _ _ _ rfl w.heap.size 36 _ 3 48 Try.underlying25 info_meth rfl (by omega) hrow rfl hsl hnl rfl (by simp [Value.oneCell']) (by omega) (by omega) hsz ?_); intro v2 w3 hown3 hb3 hg3 _)
      obtain ⟨A2, c2, e2, _⟩ := sl_of_own hown3
      subst e2
      exact ⟨⟨ps.length + 1, _, by omega, by go_num, by rw [List.map_append, Hps.out, Htk.out]; rfl, OwnP.push HHA.out Hx.out hown3 hg3, HBA.trans hb3⟩, by simp [intOf]; omega⟩
    · go_wp2_with fail
      go_ret
      exact ⟨_, ps, rfl, by rw [Hps.out, List.take_of_length_le (by omega)], HO.out, hB⟩
end Go.Proofs.Ytnbehldacehiiaa
