/- Contracts: slices of strings copied, cut, joined, reversed. -/
import Derived.Test.YtamneiffhohleaaDoorS4
import Derived.Maps.AppendAt
import Derived.WalkSpells
namespace Go.Proofs.YtamneiffhohleaaDoor
open Go Go.RowKit
set_option linter.unusedVariables false
set_option linter.unusedSimpArgs false

/-- A slice without an array has no room. -/
def NilOk (v : Value) : Prop := ∀ n c, v = .slice none n c → n = 0 ∧ c = 0
theorem nilok_own {w : World} {base : Nat} {e : TypeId} {size n : Nat} {v : Value} {xs : List Value} (h : w.ownsRow base e size v n xs) : NilOk v := by
  intro n' c' hv
  rcases h.2 with ⟨rfl, _⟩ | ⟨g, cap, cur, rfl, _⟩
  · injection hv with _ h1 h2; exact ⟨h1.symm, h2.symm⟩
  · injection hv with h0 _ _; cases h0
/-- 'append(v, x...)', v a row of the call's own, x any slice that can be read. -/
theorem wpList_app_sl {P : Program} (w : World) {ops : Array Oper} {rest : List Oper} {o : Oper} {a : Act} {Q : Exit → Act → World → Prop} (hgd : o.guard = none) (s x : Operand) (t : TypeId)
    (ho : o.op = .call { callee := .builtin .append, args := #[s, x], argTypes := #[t, t] })
    (base : Nat) (e : TypeId) (z : Value) (size bytes : Nat) (ht : P.underlying t = some (.slice e)) (hinfo : (P.info? e).map (fun i => (i.zero, i.size, i.bytes)) = some (some z, size, bytes))
    (hzs : z.cells.size = size) (hsz : 0 < size) {v : Value} {n : Nat} {xs : List Value} (hown : w.ownsRow base e size v n xs) (hs : a.eval s = v)
    {vx : Value} {m : Nat} {news : List Value} (hsl : Sl w size vx m news) (hnil : NilOk vx) (hx : a.eval x = vx) (h1 : ∀ u ∈ news, u.oneCell' = true) (hby : bytes ≤ 1024) (hn : n + m ≤ 100000000) (hbase : base ≤ w.heap.size)
    (h : ∀ v' w', w'.ownsRow base e size v' (n + m) (xs ++ news) → Below base w w' → w.grownBy w' v.ownBlock → (v'.ownBlock = v.ownBlock ∨ ∀ g, v'.ownBlock = some g → w.heap.size ≤ g) → wpList P ops Q rest (a.put o.dst v') w') :
    wpList P ops Q (o :: rest) a w := by
  obtain ⟨i0, hi, hz, hsi, hbi⟩ := info_parts hinfo
  obtain ⟨A, c, rfl, hmc, hc, hr⟩ := hsl
  refine wpList_plain hgd fun K hK => ?_
  cases A with
  | none =>
    obtain ⟨rfl, rfl⟩ := hnil m c rfl
    have hnews : news = [] := List.eq_nil_of_length_eq_zero (by simpa using hr.1)
    subst hnews
    have hrun := run_append_owned_none (P := P) w base t o.type e i0 size ht hi _ n xs hown
    unfold Oper.wp execOp
    simp only [ho, resolve, invoke, builtin, Sem.run_bind, Sem.run_pure, Result.andThen_ok, List.map_toArray, List.map_cons, List.map_nil, hs, hx, hrun]
    exact hK _ _ (h v w (by simpa using hown) (Below.refl _ _) (World.grownBy.refl _ _) (.inl rfl))
  | some ad =>
    have hcell : ∀ j u, news[j]? = some u → w.cell? (ad.add j) = some u := by
      intro j u hu
      have hm : 0 < m := by
        rcases Nat.eq_zero_or_pos m with h0 | h0
        · subst h0
          have := (List.getElem?_eq_some_iff.1 hu).1
          have := hr.1
          omega
        · exact h0
      obtain ⟨ad', e', _, hcc⟩ := hr.2 hm
      cases e'
      exact hcc j u hu
    obtain ⟨v', w', hrun, h2, h3, _, h5⟩ := run_append_own_at (P := P) w base t o.type e i0 z size bytes ht hi hz hsi hbi hzs hsz v n xs hown ad m c news hr.1 hcell h1
      (by unfold maxLen; omega) (Nat.le_trans (Nat.mul_le_mul_left _ hby) (by omega)) hbase
    unfold Oper.wp execOp
    simp only [ho, resolve, invoke, builtin, Sem.run_bind, Sem.run_pure, Result.andThen_ok, List.map_toArray, List.map_cons, List.map_nil, hs, hx, hrun]
    refine hK _ _ (h v' w' h2 ((Below.refl _ _).grown h3 hbase (fun k hk => (hown.lt k hk).1)) h3 ?_)
    rcases h5 with h5 | h5
    · exact .inl h5
    · exact .inr fun g hg' => by rw [h5] at hg'; injection hg' with hg'; omega
theorem strs_one (ss : List ByteArray) : ∀ u ∈ ss.map Value.string, u.oneCell' = true := by
  intro u hu; obtain ⟨s, _, rfl⟩ := List.mem_map.1 hu; rfl
set_option maxHeartbeats 1000000 in
set_option maxRecDepth 100000 in
theorem cloneStr_any (v : Value) (ss : List ByteArray) (w : World) (h : Strs w v ss) (hn : NilOk v) (hlen : ss.length ≤ 10000000) : Calls Tryd.prog 109 #[v] w fun e w' =>
    ∃ r : Value, e = .returned r ∧ w'.ownsRow w.heap.size 9 1 r ss.length (ss.map Value.string) ∧ Below w.heap.size w w' := by
  have h0 := h
  obtain ⟨A, c, rfl, h1, h2, hr⟩ := h
  unfold maxLen at h2
  cases A with
  | none =>
    obtain ⟨hl, rfl⟩ := hn _ _ rfl
    obtain rfl := List.eq_nil_of_length_eq_zero hl
    have hrun := fun W : World => Lib.run_eql_slice_nil (P := Tryd.prog) W 68 9 none 0 0 0 0 Tryd.underlying68
    simp only [Option.isNone_none] at hrun
    go_enter Tryd.func109, Tryd.ntmps109
    go_wp2_with fail
    go_ret
    exact ⟨_, rfl, World.ownsRow_nil _ _ _ _, Below.refl _ _⟩
  | some ad =>
    have hrun := fun W : World => Lib.run_eql_slice_nil (P := Tryd.prog) W 68 9 (some ad) ss.length c 0 0 Tryd.underlying68
    simp only [Option.isNone_some] at hrun
    go_enter Tryd.func109, Tryd.ntmps109
    go_wp2_with (at_builtin; go_must (refine wpList_app_sl (w.alloc (.cells #[] 9)) rfl _ _ _ rfl w.heap.size 9 _ 1 16 Tryd.underlying68 info_str rfl (by omega) (own_of_heap (cs := #[]) (n := 0) (heap_new w _) (Nat.le_refl _) (by unfold maxLen; omega) rfl) rfl (h0.to (bw_al (Below.refl _ _) _)) hn rfl (strs_one ss) (by omega) (by omega) (by simp) ?_); intro v2 w2 hown2 hb2 _ _)
    go_ret
    exact ⟨_, rfl, by simpa using hown2, bw_tr (bw_al (Below.refl _ _) _) hb2 (Nat.le_refl _)⟩
set_option maxRecDepth 100000 in
theorem l1OwnS_any (v : Value) (ss : List ByteArray) (w : World) (h : Strs w v ss) (hn : NilOk v) (hlen : ss.length ≤ 10000000) : Calls Tryd.prog 106 #[v] w fun e w' =>
    ∃ r : Value, e = .returned r ∧ w'.ownsRow w.heap.size 9 1 r ss.length (ss.map Value.string) ∧ Below w.heap.size w w' := by
  have h0 := h
  obtain ⟨A, c, rfl, h1, h2, hr⟩ := h
  unfold maxLen at h2
  go_enter Tryd.func106, Tryd.ntmps106
  go_wp2_with (at_builtin; go_must (refine wpList_app_sl (w.alloc (.cells #[] 9)) rfl _ _ _ rfl w.heap.size 9 _ 1 16 Tryd.underlying68 info_str rfl (by omega) (own_of_heap (cs := #[]) (n := 0) (heap_new w _) (Nat.le_refl _) (by unfold maxLen; omega) rfl) rfl (h0.to (bw_al (Below.refl _ _) _)) hn rfl (strs_one ss) (by omega) (by omega) (by simp) ?_); intro v2 w2 hown2 hb2 _ _)
  go_ret
  exact ⟨_, rfl, by simpa using hown2, bw_tr (bw_al (Below.refl _ _) _) hb2 (Nat.le_refl _)⟩
end Go.Proofs.YtamneiffhohleaaDoor
