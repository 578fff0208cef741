/- Contracts: a method that begins with its change k; a method turned. -/
import Derived.Test.YtnbehldacehiiaaT6
namespace Go.Proofs.Ytnbehldacehiiaa
open Go Go.RowKit
set_option linter.unusedVariables false
set_option linter.unusedSimpArgs false

theorem wp_app_sl {P : Program} (w : World) {o : Oper} {a : Act} {K : Act → World → Prop} {Q : Exit → Act → World → Prop} (s x : Operand) (t : TypeId)
    (ho : o.op = .call { callee := .builtin .append, args := #[s, x], argTypes := #[t, t] })
    (base : Nat) (e : TypeId) (z : Value) (size bytes : Nat) (ht : P.underlying t = some (.slice e)) (hinfo : (P.info? e).map (fun i => (i.zero, i.size, i.bytes)) = some (some z, size, bytes))
    (hzs : z.cells.size = size) (hsz : 0 < size) {v : Value} {n : Nat} {xs : List Value} (hown : w.ownsRow base e size v n xs) (hs : a.eval s = v)
    {vx : Value} {m : Nat} {news : List Value} (hsl : Sl w size vx m news) (hnil : NilOk vx) (hx : a.eval x = vx) (h1 : ∀ u ∈ news, u.oneCell' = true) (hby : bytes ≤ 1024) (hn : n + m ≤ 100000000) (hbase : base ≤ w.heap.size)
    (N : Nat) (hN : n + m = N) (h : ∀ A c w', w'.ownsRow base e size (.slice A N c) N (xs ++ news) → Below base w w' → w.grownBy w' v.ownBlock → K (a.put o.dst (.slice A N c)) w') : o.wp P a w K Q := by
  subst hN
  obtain ⟨i0, hi, hz, hsi, hbi⟩ := info_parts hinfo
  obtain ⟨A, c, rfl, hmc, hc, hr⟩ := hsl
  have fin : ∀ v' w', w'.ownsRow base e size v' (n + m) (xs ++ news) → Below base w w' → w.grownBy w' v.ownBlock → K (a.put o.dst v') w' := by
    intro v' w' ho' hb' hg'
    obtain ⟨A', c', e', _⟩ := sl_of_own ho'
    subst e'
    exact h A' c' w' ho' hb' hg'
  cases A with
  | none =>
    obtain ⟨rfl, rfl⟩ := hnil m c rfl
    have hnews : news = [] := List.eq_nil_of_length_eq_zero (by simpa using hr.1)
    subst hnews
    have hrun := run_append_owned_none (P := P) w base t o.type e i0 size ht hi _ n xs hown
    unfold Oper.wp execOp
    simp only [ho, resolve, invoke, builtin, Sem.run_bind, Sem.run_pure, Result.andThen_ok, List.map_toArray, List.map_cons, List.map_nil, hs, hx, hrun]
    exact fin v w (by simpa using hown) (Below.refl _ _) (World.grownBy.refl _ _)
  | some ad =>
    have hcell : ∀ j u, news[j]? = some u → w.cell? (ad.add j) = some u := by
      intro j u hu
      have hm : 0 < m := by
        rcases Nat.eq_zero_or_pos m with h0 | h0
        · subst h0
          have := (List.getElem?_eq_some_iff.1 hu).1
          have := hr.1
          omega
        · exact h0
      obtain ⟨ad', e', _, hcc⟩ := hr.2 hm
      cases e'
      exact hcc j u hu
    obtain ⟨v', w', hrun, h2, h3, _, h5⟩ := run_append_own_at (P := P) w base t o.type e i0 z size bytes ht hi hz hsi hbi hzs hsz v n xs hown ad m c news hr.1 hcell h1
      (by unfold maxLen; omega) (Nat.le_trans (Nat.mul_le_mul_left _ hby) (by omega)) hbase
    unfold Oper.wp execOp
    simp only [ho, resolve, invoke, builtin, Sem.run_bind, Sem.run_pure, Result.andThen_ok, List.map_toArray, List.map_cons, List.map_nil, hs, hx, hrun]
    exact fin v' w' h2 ((Below.refl _ _).grown h3 hbase (fun k hk => (hown.lt k hk).1)) h3
/-- 'append(v, x...)' at a step of a region that draws its order. -/
theorem step_app_sl {P : Program} (w : World) {ops : Array Oper} {o : Oper} {a : Act} {K : Act → World → Prop} {Q : Exit → Act → World → Prop} {E : Prop} (hgd : o.guard = none) (s x : Operand) (t : TypeId)
    (ho : o.op = .call { callee := .builtin .append, args := #[s, x], argTypes := #[t, t] })
    (base : Nat) (e : TypeId) (z : Value) (size bytes : Nat) (ht : P.underlying t = some (.slice e)) (hinfo : (P.info? e).map (fun i => (i.zero, i.size, i.bytes)) = some (some z, size, bytes))
    (hzs : z.cells.size = size) (hsz : 0 < size) {v : Value} {n : Nat} {xs : List Value} (hown : w.ownsRow base e size v n xs) (hs : a.eval s = v)
    {vx : Value} {m : Nat} {news : List Value} (hsl : Sl w size vx m news) (hnil : NilOk vx) (hx : a.eval x = vx) (h1 : ∀ u ∈ news, u.oneCell' = true) (hby : bytes ≤ 1024) (hn : n + m ≤ 100000000) (hbase : base ≤ w.heap.size)
    (N : Nat) (hN : n + m = N) (h : ∀ A c w', w'.ownsRow base e size (.slice A N c) N (xs ++ news) → Below base w w' → w.grownBy w' v.ownBlock → K (a.put o.dst (.slice A N c)) w') :
    if Region.wanted o (yielded ops a.tmps) = true then Oper.wp P o a w K Q else E := by
  have hw : Region.wanted o (yielded ops a.tmps) = true := by simp [Region.wanted, hgd]
  rw [if_pos hw]
  exact wp_app_sl w s x t ho base e z size bytes ht hinfo hzs hsz hown hs hsl hnil hx h1 hby hn hbase N hN h
set_option maxRecDepth 100000 in
set_option maxHeartbeats 2000000 in
theorem l4Start_any (m : Mt) (ad : Addr) (c k : Nat) (w : World) (h : Strs w (.slice (some ad) m.l.length c) m.l) (hk : k < m.l.length) (hmax : m.l.length ≤ 1000000) : Calls Try.prog 70 #[m.v (.slice (some ad) m.l.length c), .int .i64 k] w fun e w' =>
    ∃ r : Value, e = .returned (m.v r) ∧ w'.ownsRow w.heap.size 9 1 r m.l.length ((m.l.drop k ++ m.l.take k).map Value.string) ∧ Below w.heap.size w w' := by
  have hfrom := strs_from h hk
  have hupto := strs_upto h hk
  have hc1 : m.l.length ≤ c := let ⟨_, _, e, h1, _⟩ := h; by cases e; exact h1
  have hc2 : c ≤ maxLen := let ⟨_, _, e, _, h2, _⟩ := h; by cases e; exact h2
  unfold maxLen at hc2
  unfold Mt.v
  have hkc : ¬ c = k := by omega
  have hk0 : (0 : Int) ≤ (k : Int) := by omega
  have hk1 : (k : Int) ≤ (m.l.length : Int) := by omega
  have hk2 : (k : Int) ≤ (c : Int) := by omega
  go_enter Try.func70, Try.ntmps70
  go_wp2_with fail
  refine box2 (C := fun W => Code.wp _ _ _ _ W) ?_
  intro wb hw k1 k2 hB0
  have R2 := boxRule k2
  have hds : ∀ w', Below wb.drew.heap.size wb.drew w' → Below wb.heap.size wb w' := fun w' hb => bw_to (Below.drew (Below.refl _ _)) hb
  have F2 := fun (j : Nat) w' hb => frozen_of_heap k2 j (w' := w') hb
  have hdr : Below wb.heap.size wb wb.drew := Below.drew (Below.refl _ _)
  have Hf := Lib.hid (hfrom.to (bw_to hw hdr))
  have Hu := Lib.hid (hupto.to (bw_to hw hdr))
  have hlt2 : w.heap.size + 1 < wb.heap.size := blk_lt k2
  have R1' := fun w' i hb => boxRuleB k1 (Nat.lt_succ_self _) w' i hb
  have Hs := Lib.hid (Nat.le_of_lt hlt2)
  have hst := Below.refl (w.heap.size + 1) wb
  have Hl : Hid (m.l.length - k ≤ 10000000) := Lib.hid (by omega)
  have Hn : Hid ((m.l.drop k).length + (m.l.take k).length = m.l.length) := Lib.hid (by simp; omega)
  clear k1 k2 h hfrom hupto
  go_region_held3 (fun w' => Below (w.heap.size + 1) wb w') (first | exact Below.drew (by assumption) | exact Below.mono (by assumption : Below wb.heap.size wb _) Hs.out | exact set3_low (by assumption) (Nat.le_refl _))
    (first | (go_at_call 92; refine (l1OwnS_any _ (m.l.drop k) _ (Hf.out) (nilok_some _ _ _) (by simpa using Hl.out)).mono ?_; rintro e w' ⟨r, rfl, hown, hb'⟩; (have hBn := hds _ hb')) | (refine step_app_sl _ (by rfl) _ _ _ (by rfl) wb.drew.heap.size 9 _ 1 16 Try.underlying32 info_str (by rfl) (by omega) hown (by rfl) (Hu.out.to hb') (nilok_some _ _ _) (by rfl) (strs_one _) (by omega) (by simp; omega) hb'.size m.l.length Hn.out ?_; intro A2 q2 w2 hown2 hb2 hg2; (have hBn := bw_tr hBn hb2 (Nat.le_refl _)); (have c0 := R2 w2 0 hBn); (have c1 := R2 w2 1 hBn); (have c2 := R2 w2 2 hBn); (have f0 := F2 0 w2 hBn); (have f1 := F2 1 w2 hBn); (have f2 := F2 2 w2 hBn)))
  go_wp2_with fail
  refine bodyPost_ret (v := .agg #[.string m.name, .int .i64 m.stage, .slice A2 m.l.length q2]) ?hr rfl ⟨_, rfl, ?ho, ?hb⟩
  case ho =>
    rw [List.map_append]
    exact own_base (own_past (own_past (own_past hown2 hlt2 _ _) hlt2 _ _) hlt2 _ _) hw.size
  case hb => exact grow_set (grow_set (grow_set (bw_to hw hBn) (Nat.le_succ _) _) (Nat.le_succ _) _) (Nat.le_succ _) _
  case hr => simp [results, go_sem, c0, c1, c2]
end Go.Proofs.Ytnbehldacehiiaa
