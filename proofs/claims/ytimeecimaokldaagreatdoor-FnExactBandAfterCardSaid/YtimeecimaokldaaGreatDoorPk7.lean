/- Contracts: libraries (their goodness). -/
import Derived.Test.YtimeecimaokldaaGreatDoorPk4
import Derived.Test.YtimeecimaokldaaGreatDoorPk1
import Derived.Maps.AppendAt
import Derived.WalkSpells
import Derived.Lib.Overlaps
import Derived.Lib.AppendZerosOnto
import Derived.Laws.NewBlocks
import Derived.Shelf.Spec.SlicesInsert
namespace Go.Proofs.YtimeecimaokldaaGreatDoor
open Go Go.RowKit
set_option linter.unusedVariables false
set_option linter.unusedSimpArgs false

def nmLt (p q : ByteArray) : Bool := Op.bytesLess p.toList q.toList
theorem less_tot : ∀ x y : List UInt8, (Op.bytesLess x y || x == y) = !Op.bytesLess y x
  | [], [] => rfl
  | [], _ :: _ => rfl
  | _ :: _, [] => rfl
  | a :: x, b :: y => by
    have ih := less_tot x y
    rw [Op.bytesLess, Op.bytesLess]
    by_cases h1 : a < b
    · have h2 : ¬ b < a := by simp only [UInt8.lt_iff_toNat_lt] at *; omega
      have h3 : ¬ b = a := by rintro rfl; simp only [UInt8.lt_iff_toNat_lt] at *; omega
      simp [h1, h2, h3]
    · by_cases h2 : b < a
      · have h3 : ¬ a = b := by rintro rfl; simp only [UInt8.lt_iff_toNat_lt] at *; omega
        simp [h1, h2, h3]
      · have h3 : a = b := by simp only [UInt8.lt_iff_toNat_lt] at *; exact UInt8.toNat_inj.1 (by omega)
        subst h3
        simp only [h1, decide_false, beq_self_eq_true, Bool.true_and, Bool.false_or]
        rw [← ih]
        simp
theorem MethAt.form {w : World} {m : Mt} {v : Value} (h : MethAt w m v) : ∃ A c, v = .slice A m.l.length c := let ⟨A, c, e, _⟩ := h.1; ⟨A, c, e⟩
def dM : Mt := ⟨⟨#[]⟩, 0, []⟩
def okAt (ms : List Mt) (k : Nat) : Bool := methB (ms.getD k dM) && (decide (k = 0) || nmLt (ms.getD (k - 1) dM).name (ms.getD k dM).name)
def libB (ms : List Mt) : Bool := decide (ms.length ≤ 30) && (List.range ms.length).all (okAt ms)
theorem getD_at {ms : List Mt} {k : Nat} (h : k < ms.length) : ms.getD k dM = ms[k] := by rw [List.getD_eq_getElem?_getD, List.getElem?_eq_getElem h]; rfl
theorem lib_no {ms : List Mt} {k : Nat} (h : k < ms.length) (ho : okAt ms k = false) : libB ms = false := by
  unfold libB
  have : (List.range ms.length).all (okAt ms) = false := by
    rw [List.all_eq_false]
    exact ⟨k, List.mem_range.2 h, by simp [ho]⟩
  rw [this, Bool.and_false]
theorem lib_step {ms : List Mt} {k : Nat} (ha : (List.range k).all (okAt ms) = true) (ho : okAt ms k = true) : (List.range (k + 1)).all (okAt ms) = true := by
  rw [List.range_succ, List.all_append, ha]; simp [ho]
theorem ok_bad {ms : List Mt} {k : Nat} (h : k < ms.length) (hm : methB ms[k] = false) : okAt ms k = false := by rw [okAt, getD_at h, hm]; rfl
theorem ok_first {ms : List Mt} (h : 0 < ms.length) (hm : methB ms[0] = true) : okAt ms 0 = true := by rw [okAt, getD_at h, hm]; rfl
theorem ok_next {ms : List Mt} {k : Nat} {b : Bool} (h : k < ms.length) (h0 : 0 < k) (hm : methB ms[k] = true) (hp : nmLt (ms[k - 1]'(by omega)).name ms[k].name = b) : okAt ms k = b := by
  rw [okAt, getD_at h, getD_at (show k - 1 < ms.length by omega), hm, hp, decide_eq_false (by omega)]; simp
theorem l4Good_as {m : Mt} {v : Value} {w : World} {r : Bool} (hr : methB m = r) (h : MethAt w m v) (hs : MtSmall m) : Calls Tryz.prog 89 #[m.v v] w fun e w' => e = .returned (.bool r) ∧ Below w.heap.size w w' := by subst hr; exact l4Good_any m v w h hs
theorem implGoodMethod_as {m : Mt} {v : Value} {w : World} {r : Bool} (hr : methB m = r) (h : MethAt w m v) (hs : MtSmall m) : Calls Tryz.prog 136 #[m.v v] w fun e w' => e = .returned (.bool r) ∧ Below w.heap.size w w' := by subst hr; exact implGoodMethod_any m v w h hs
end Go.Proofs.YtimeecimaokldaaGreatDoor

/- Appends of a whole slice, copies of rows whose elements have more than one cell, a row with an element put in. -/
namespace Go.Proofs.YtimeecimaokldaaGreatDoor
open Go Go.RowKit
set_option linter.unusedVariables false
set_option linter.unusedSimpArgs false

/-- A slice without an array has no room. -/
def NilOk (v : Value) : Prop := ∀ n c, v = .slice none n c → n = 0 ∧ c = 0
theorem nilok_own {w : World} {base : Nat} {e : TypeId} {size n : Nat} {v : Value} {xs : List Value} (h : w.ownsRow base e size v n xs) : NilOk v := by
  intro n' c' hv
  rcases h.2 with ⟨rfl, _⟩ | ⟨g, cap, cur, rfl, _⟩
  · injection hv with _ h1 h2; exact ⟨h1.symm, h2.symm⟩
  · injection hv with h0 _ _; cases h0
/-- 'append(v, x...)', v a row of the call's own, x any slice that can be read. -/
theorem wpList_app_sl {P : Program} (w : World) {ops : Array Oper} {rest : List Oper} {o : Oper} {a : Act} {Q : Exit → Act → World → Prop} (hgd : o.guard = none) (s x : Operand) (t : TypeId)
    (ho : o.op = .call { callee := .builtin .append, args := #[s, x], argTypes := #[t, t] })
    (base : Nat) (e : TypeId) (z : Value) (size bytes : Nat) (ht : P.underlying t = some (.slice e)) (hinfo : (P.info? e).map (fun i => (i.zero, i.size, i.bytes)) = some (some z, size, bytes))
    (hzs : z.cells.size = size) (hsz : 0 < size) {v : Value} {n : Nat} {xs : List Value} (hown : w.ownsRow base e size v n xs) (hs : a.eval s = v)
    {vx : Value} {m : Nat} {news : List Value} (hsl : Sl w size vx m news) (hnil : NilOk vx) (hx : a.eval x = vx) (h1 : ∀ u ∈ news, u.oneCell' = true) (hby : bytes ≤ 1024) (hn : n + m ≤ 100000000) (hbase : base ≤ w.heap.size)
    (h : ∀ v' w', w'.ownsRow base e size v' (n + m) (xs ++ news) → Below base w w' → w.grownBy w' v.ownBlock → (v'.ownBlock = v.ownBlock ∨ ∀ g, v'.ownBlock = some g → w.heap.size ≤ g) → wpList P ops Q rest (a.put o.dst v') w') :
    wpList P ops Q (o :: rest) a w := by
  obtain ⟨i0, hi, hz, hsi, hbi⟩ := info_parts hinfo
  obtain ⟨A, c, rfl, hmc, hc, hr⟩ := hsl
  refine wpList_plain hgd fun K hK => ?_
  cases A with
  | none =>
    obtain ⟨rfl, rfl⟩ := hnil m c rfl
    have hnews : news = [] := List.eq_nil_of_length_eq_zero (by simpa using hr.1)
    subst hnews
    have hrun := run_append_owned_none (P := P) w base t o.type e i0 size ht hi _ n xs hown
    unfold Oper.wp execOp
    simp only [ho, resolve, invoke, builtin, Sem.run_bind, Sem.run_pure, Result.andThen_ok, List.map_toArray, List.map_cons, List.map_nil, hs, hx, hrun]
    exact hK _ _ (h v w (by simpa using hown) (Below.refl _ _) (World.grownBy.refl _ _) (.inl rfl))
  | some ad =>
    have hcell : ∀ j u, news[j]? = some u → w.cell? (ad.add j) = some u := by
      intro j u hu
      have hm : 0 < m := by
        rcases Nat.eq_zero_or_pos m with h0 | h0
        · subst h0
          have := (List.getElem?_eq_some_iff.1 hu).1
          have := hr.1
          omega
        · exact h0
      obtain ⟨ad', e', _, hcc⟩ := hr.2 hm
      cases e'
      exact hcc j u hu
    obtain ⟨v', w', hrun, h2, h3, _, h5⟩ := run_append_own_at (P := P) w base t o.type e i0 z size bytes ht hi hz hsi hbi hzs hsz v n xs hown ad m c news hr.1 hcell h1
      (by unfold maxLen; omega) (Nat.le_trans (Nat.mul_le_mul_left _ hby) (by omega)) hbase
    unfold Oper.wp execOp
    simp only [ho, resolve, invoke, builtin, Sem.run_bind, Sem.run_pure, Result.andThen_ok, List.map_toArray, List.map_cons, List.map_nil, hs, hx, hrun]
    refine hK _ _ (h v' w' h2 ((Below.refl _ _).grown h3 hbase (fun k hk => (hown.lt k hk).1)) h3 ?_)
    rcases h5 with h5 | h5
    · exact .inl h5
    · exact .inr fun g hg' => by rw [h5] at hg'; injection hg' with hg'; omega
theorem strs_one (ss : List ByteArray) : ∀ u ∈ ss.map Value.string, u.oneCell' = true := by
  intro u hu; obtain ⟨s, _, rfl⟩ := List.mem_map.1 hu; rfl
theorem wp_app_sl {P : Program} (w : World) {o : Oper} {a : Act} {K : Act → World → Prop} {Q : Exit → Act → World → Prop} (s x : Operand) (t : TypeId)
    (ho : o.op = .call { callee := .builtin .append, args := #[s, x], argTypes := #[t, t] })
    (base : Nat) (e : TypeId) (z : Value) (size bytes : Nat) (ht : P.underlying t = some (.slice e)) (hinfo : (P.info? e).map (fun i => (i.zero, i.size, i.bytes)) = some (some z, size, bytes))
    (hzs : z.cells.size = size) (hsz : 0 < size) {v : Value} {n : Nat} {xs : List Value} (hown : w.ownsRow base e size v n xs) (hs : a.eval s = v)
    {vx : Value} {m : Nat} {news : List Value} (hsl : Sl w size vx m news) (hnil : NilOk vx) (hx : a.eval x = vx) (h1 : ∀ u ∈ news, u.oneCell' = true) (hby : bytes ≤ 1024) (hn : n + m ≤ 100000000) (hbase : base ≤ w.heap.size)
    (N : Nat) (hN : n + m = N) (h : ∀ A c w', w'.ownsRow base e size (.slice A N c) N (xs ++ news) → Below base w w' → w.grownBy w' v.ownBlock → K (a.put o.dst (.slice A N c)) w') : o.wp P a w K Q := by
  subst hN
  obtain ⟨i0, hi, hz, hsi, hbi⟩ := info_parts hinfo
  obtain ⟨A, c, rfl, hmc, hc, hr⟩ := hsl
  have fin : ∀ v' w', w'.ownsRow base e size v' (n + m) (xs ++ news) → Below base w w' → w.grownBy w' v.ownBlock → K (a.put o.dst v') w' := by
    intro v' w' ho' hb' hg'
    obtain ⟨A', c', e', _⟩ := sl_of_own ho'
    subst e'
    exact h A' c' w' ho' hb' hg'
  cases A with
  | none =>
    obtain ⟨rfl, rfl⟩ := hnil m c rfl
    have hnews : news = [] := List.eq_nil_of_length_eq_zero (by simpa using hr.1)
    subst hnews
    have hrun := run_append_owned_none (P := P) w base t o.type e i0 size ht hi _ n xs hown
    unfold Oper.wp execOp
    simp only [ho, resolve, invoke, builtin, Sem.run_bind, Sem.run_pure, Result.andThen_ok, List.map_toArray, List.map_cons, List.map_nil, hs, hx, hrun]
    exact fin v w (by simpa using hown) (Below.refl _ _) (World.grownBy.refl _ _)
  | some ad =>
    have hcell : ∀ j u, news[j]? = some u → w.cell? (ad.add j) = some u := by
      intro j u hu
      have hm : 0 < m := by
        rcases Nat.eq_zero_or_pos m with h0 | h0
        · subst h0
          have := (List.getElem?_eq_some_iff.1 hu).1
          have := hr.1
          omega
        · exact h0
      obtain ⟨ad', e', _, hcc⟩ := hr.2 hm
      cases e'
      exact hcc j u hu
    obtain ⟨v', w', hrun, h2, h3, _, h5⟩ := run_append_own_at (P := P) w base t o.type e i0 z size bytes ht hi hz hsi hbi hzs hsz v n xs hown ad m c news hr.1 hcell h1
      (by unfold maxLen; omega) (Nat.le_trans (Nat.mul_le_mul_left _ hby) (by omega)) hbase
    unfold Oper.wp execOp
    simp only [ho, resolve, invoke, builtin, Sem.run_bind, Sem.run_pure, Result.andThen_ok, List.map_toArray, List.map_cons, List.map_nil, hs, hx, hrun]
    exact fin v' w' h2 ((Below.refl _ _).grown h3 hbase (fun k hk => (hown.lt k hk).1)) h3
/-- 'append(v, x...)' at a step of a region that draws its order. -/
theorem step_app_sl {P : Program} (w : World) {ops : Array Oper} {o : Oper} {a : Act} {K : Act → World → Prop} {Q : Exit → Act → World → Prop} {E : Prop} (hgd : o.guard = none) (s x : Operand) (t : TypeId)
    (ho : o.op = .call { callee := .builtin .append, args := #[s, x], argTypes := #[t, t] })
    (base : Nat) (e : TypeId) (z : Value) (size bytes : Nat) (ht : P.underlying t = some (.slice e)) (hinfo : (P.info? e).map (fun i => (i.zero, i.size, i.bytes)) = some (some z, size, bytes))
    (hzs : z.cells.size = size) (hsz : 0 < size) {v : Value} {n : Nat} {xs : List Value} (hown : w.ownsRow base e size v n xs) (hs : a.eval s = v)
    {vx : Value} {m : Nat} {news : List Value} (hsl : Sl w size vx m news) (hnil : NilOk vx) (hx : a.eval x = vx) (h1 : ∀ u ∈ news, u.oneCell' = true) (hby : bytes ≤ 1024) (hn : n + m ≤ 100000000) (hbase : base ≤ w.heap.size)
    (N : Nat) (hN : n + m = N) (h : ∀ A c w', w'.ownsRow base e size (.slice A N c) N (xs ++ news) → Below base w w' → w.grownBy w' v.ownBlock → K (a.put o.dst (.slice A N c)) w') :
    if Region.wanted o (yielded ops a.tmps) = true then Oper.wp P o a w K Q else E := by
  have hw : Region.wanted o (yielded ops a.tmps) = true := by simp [Region.wanted, hgd]
  rw [if_pos hw]
  exact wp_app_sl w s x t ho base e z size bytes ht hinfo hzs hsz hown hs hsl hnil hx h1 hby hn hbase N hN h
theorem run_copy_rowN {P : Program} (w : World) (dT sT ty elem : TypeId) (sz g o dLen dCap : Nat) (a : Addr) (sLen sCap : Nat) (cur : Array Value) (t : TypeId) (cs : List Value)
    (hu : P.underlying dT = some (.slice elem)) (hs : (P.info? elem).map (·.size) = some sz)
    (hg : w.heap[g]? = some (.cells cur t (0, 0))) (hn : cs.length = Nat.min sLen dLen * sz)
    (hsrc : ∀ j v, cs[j]? = some v → w.cell? (a.add j) = some v) (hfit : o + cs.length ≤ cur.size) (h1 : ∀ v ∈ cs, v.oneCell' = true) :
    (Builtin.copy_ #[dT, sT] ty #[.slice (some ⟨g, o, none⟩) dLen dCap, .slice (some a) sLen sCap]).run P w =
      .ok (goInt (Nat.min sLen dLen)) (w.setRow g (cur.toList.take o ++ cs ++ cur.toList.drop (o + cs.length)).toArray) := by
  have hl := run_loadCells_list (P := P) w a cs hsrc
  have hst := run_storeCells_at P g o t cs 0 cur w hg (by simpa using hfit) h1
  rw [hn] at hl
  cases hq : P.info? elem with
  | none => simp [hq] at hs
  | some i =>
    have hi : i.size = sz := by simpa [hq] using hs
    simp [Builtin.copy_, run_underlying hu, Builtin.lenOf, Builtin.firstCells, sizeOf, typeInfo, hq, hi, hl, hst]
theorem bw_setRow {a w : World} {B g : Nat} (h : Below B a w) (hg : B ≤ g) (cs : Array Value) : Below B a (w.setRow g cs) := below_setRow h hg cs
/-- A row of an own block, whole. -/
theorem own_form {w : World} {base : Nat} {e : TypeId} {size n g c : Nat} {xs : List Value} (h : w.ownsRow base e size (.slice (some ⟨g, 0, none⟩) n c) n xs) :
    base ≤ g ∧ n ≤ c ∧ c ≤ maxLen ∧ ∃ cur : List Value, w.heap[g]? = some (.cells cur.toArray e (0, 0)) ∧ cur.length = c * size ∧ cur.take (n * size) = xs := by
  rcases h.2 with ⟨h', _⟩ | ⟨g', cap', cur, h', hb, hg, hnc, hcm, hcs, htake⟩
  · simp at h'
  · simp only [Value.slice.injEq, Option.some.injEq, Addr.mk.injEq, and_true, true_and] at h'
    obtain ⟨rfl, rfl⟩ := h'
    exact ⟨hb, hnc, hcm, cur.toList, by simpa using hg, by simpa using hcs, htake⟩
theorem own_mk {w : World} {base : Nat} {e : TypeId} {size n g c : Nat} {xs cur : List Value} (hb : base ≤ g) (hnc : n ≤ c) (hcm : c ≤ maxLen) (hg : w.heap[g]? = some (.cells cur.toArray e (0, 0))) (hc : cur.length = c * size) (ht : cur.take (n * size) = xs) (hx : xs.length = n * size) :
    w.ownsRow base e size (.slice (some ⟨g, 0, none⟩) n c) n xs :=
  ⟨hx, .inr ⟨g, c, cur.toArray, rfl, hb, hg, hnc, hcm, by simpa using hc, by simpa using ht⟩⟩
/-- Two splices that make room in a row and fill it. -/
theorem ins_splice {cur xs vs : List Value} {i n m : Nat} (hi : i ≤ n) (hm : vs.length = m) (hl : n + m ≤ cur.length) (hx : cur.take n = xs) :
    (splice (splice cur (i + m) (xs.drop i)) i vs).take (n + m) = xs.take i ++ vs ++ xs.drop i ∧ (splice (splice cur (i + m) (xs.drop i)) i vs).length = cur.length := by
  have hxl : xs.length = n := by rw [← hx]; simp; omega
  have hd : (xs.drop i).length = n - i := by rw [List.length_drop, hxl]
  have e1 : (splice cur (i + m) (xs.drop i)).length = cur.length := length_splice _ _ _ (by rw [hd]; omega)
  refine ⟨?_, by rw [length_splice _ _ _ (by rw [e1, hm]; omega), e1]⟩
  subst hm
  have hci : cur.take i = xs.take i := by rw [← hx, List.take_take]; congr 1; omega
  have hL : (cur.take (i + vs.length)).length = i + vs.length := by simp; omega
  have a1 : (splice cur (i + vs.length) (xs.drop i)).take i = xs.take i := by
    unfold splice
    rw [List.take_append_of_le_length (by omega), List.take_take, Nat.min_eq_left (by omega), hci]
  have a2 : (splice cur (i + vs.length) (xs.drop i)).drop (i + vs.length) = xs.drop i ++ cur.drop (i + vs.length + (xs.drop i).length) := by
    unfold splice
    rw [List.drop_append_of_le_length (by omega), List.drop_of_length_le (by omega), List.nil_append]
  obtain ⟨S, hS⟩ : ∃ S, S = splice cur (i + vs.length) (xs.drop i) := ⟨_, rfl⟩
  rw [← hS] at a1 a2 ⊢
  unfold splice
  rw [a1, a2, ← List.append_assoc, ← List.append_assoc, List.take_append_of_le_length (by simp; omega), List.take_of_length_le (by simp; omega)]
end Go.Proofs.YtimeecimaokldaaGreatDoor
