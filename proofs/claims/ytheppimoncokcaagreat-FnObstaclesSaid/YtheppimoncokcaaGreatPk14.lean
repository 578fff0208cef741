/- A map from texts to truth of the call's own; no row occurs twice: the program's. -/
import Derived.Test.YtheppimoncokcaaGreatPk13
import Derived.Test.YtheppimoncokcaaGreatPk9
import Derived.Maps.Own
import Derived.Maps.OwnOps
import Derived.Maps.Views
import Derived.Maps.StringElems
import Derived.Test.YtheppimoncokcaaGreatPk5
import Derived.Test.YtheppimoncokcaaGreatPk11
namespace Go.Proofs.YtheppimoncokcaaGreat
open Go Go.RowKit
set_option linter.unusedVariables false
set_option linter.unusedSimpArgs false

theorem keysStr : Maps.Keyed Tryz.prog 9 := Maps.string_keyed Tryz.underlying9
/-- Block b is a map from texts to truth: it says f. -/
def SM (W : World) (b n : Nat) (f : ByteArray → Bool) : Prop :=
  ∃ D : DataW Unit, W.ownsMap Tryz.prog 9 (plainElem Tryz.prog 4) b n D ∧ Maps.IsMap D ∧ ∀ s : ByteArray, D.atKey (.string s.data.toList) (.lit (.bool false)) = .lit (.bool (f s))
theorem SM.kept {W W' : World} {b n : Nat} {f : ByteArray → Bool} {row : Option Nat} (h : SM W b n f) (hg : W.grownBy W' row) (hne : some b ≠ row) : SM W' b n f := by
  obtain ⟨D, h1, h2, h3⟩ := h; exact ⟨D, h1.kept hg hne, h2, h3⟩
theorem SM.lt {W : World} {b n : Nat} {f : ByteArray → Bool} (h : SM W b n f) : b < W.heap.size := by obtain ⟨D, h1, _⟩ := h; exact h1.lt
theorem SM.to {W W' : World} {b n : Nat} {f : ByteArray → Bool} (h : SM W b n f) (hb : Below W.heap.size W W') : SM W' b n f :=
  h.kept (row := none) ⟨hb.os, hb.tape, hb.output, hb.size, fun i hi _ => hb.block i hi⟩ (by simp)
theorem SM.made (W : World) : SM (W.alloc (.map #[] 0)) W.heap.size 0 (fun _ => false) := ⟨.map [], World.ownsMap_made _ _ _ _, Maps.isMap_empty, fun _ => rfl⟩
def updF (f : ByteArray → Bool) (s : ByteArray) : ByteArray → Bool := fun x => if x = s then true else f x
theorem SM.put {W : World} {b n : Nat} {f : ByteArray → Bool} (h : SM W b n f) (hn : n < 1000000000) (t : TypeId) (ht : Tryz.prog.underlying t = some (.map 9 4)) (s : ByteArray) (hs : s.size ≤ maxLen) :
    ∃ W', (Instr.mapUpdate t (.map (some b)) (.string s) (.bool true)).run Tryz.prog W = .ok () W' ∧ SM W' b (n + 1) (updF f s) ∧ W.grownBy W' (some b) := by
  obtain ⟨D, h1, h2, h3⟩ := h
  obtain ⟨W', hr, ho, hg⟩ := h1.update keysStr ht (by unfold maxLen; omega) (WideMaps.keyOf_string_mk Tryz.underlying9 hs) (plainElem_bool Tryz.underlying4 true)
  refine ⟨W', hr, ⟨_, ho, h2.put _ _, fun x => ?_⟩, hg⟩
  unfold updF
  by_cases hc : x = s
  · subst hc
    rw [if_pos rfl]
    exact Maps.atKey_put_same h2 (by simp [WideAt.IsKeyLit]) _ _
  · rw [if_neg hc, Maps.atKey_put_other (by intro e; injection e with e; exact hc (bytes_ext e))]
    exact h3 x
theorem zeroB' (W : World) : (zeroValue 4).run Tryz.prog W = .ok (.bool false) W := by kernel_rfl
theorem plainElem_bool_inv {P : Program} {e : TypeId} (he : P.underlying e = some .bool) {v : Value} {z : DataW Unit × List MemPlace} (h : plainElem P e v = some z) : ∃ x, v = .bool x ∧ z = (.lit (.bool x), []) := by
  unfold plainElem at h
  rw [he] at h
  cases v <;> simp at h
  exact ⟨_, rfl, h.symm⟩
set_option maxRecDepth 20000 in
theorem SM.look {W : World} {b n : Nat} {f : ByteArray → Bool} (h : SM W b n f) (t : TypeId) (ht : Tryz.prog.underlying t = some (.map 9 4)) (s : ByteArray) (hs : s.size ≤ maxLen) :
    (Instr.lookup t (.map (some b)) (.string s) false).run Tryz.prog W = .ok (.bool (f s)) W := by
  obtain ⟨D, h1, h2, h3⟩ := h
  obtain ⟨v, ps, hrun, hv⟩ := h1.lookup keysStr ht (zeroB' W) (plainElem_bool Tryz.underlying4 false) (WideMaps.keyOf_string_mk Tryz.underlying9 hs)
  obtain ⟨x, rfl, hx⟩ := plainElem_bool_inv Tryz.underlying4 hv
  have h4 := (h3 s).symm.trans (Prod.mk.inj hx).1
  injection h4 with h4
  injection h4 with h4
  rw [h4]
  exact hrun
set_option maxRecDepth 20000 in
theorem upon_mkS {o : Oper} {a : Act} {K : Act → World → Prop} {Q : Exit → Act → World → Prop} {t : TypeId} {w : World} (h : ∀ w', SM w' w.heap.size 0 (fun _ => false) → Below w.heap.size w w' → K (a.put o.dst (.map (some w.heap.size))) w') :
    Oper.upon Tryz.prog o a K Q ((Sem.run Tryz.prog (Instr.makeMap t none) w).andThen fun a w' => Result.ok (Next.value a) w') := by
  have e : Sem.run Tryz.prog (Instr.makeMap t none) w = .ok (.map (some w.heap.size)) (w.alloc (.map #[] 0)) := rfl
  rw [e]
  show K _ _
  exact h _ (SM.made w) (bw_al (Below.refl _ _) _)
set_option maxRecDepth 20000 in
theorem upon_insS {o : Oper} {a : Act} {K : Act → World → Prop} {Q : Exit → Act → World → Prop} {t : TypeId} {w : World} (ht : Tryz.prog.underlying t = some (.map 9 4)) {b n : Nat} {f : ByteArray → Bool} (hm : SM w b n f) (hn : n < 1000000000)
    (s : ByteArray) (hs : s.size ≤ maxLen) (h : ∀ w', SM w' b (n + 1) (updF f s) → w.grownBy w' (some b) → K (a.put o.dst undef) w') :
    Oper.upon Tryz.prog o a K Q ((Sem.run Tryz.prog (Instr.mapUpdate t (.map (some b)) (.string s) (.bool true)) w).andThen fun _ w' => Result.ok Next.skip w') := by
  obtain ⟨w', hr, h1, h2⟩ := hm.put hn t ht s hs
  rw [hr]
  exact h w' h1 h2
theorem updF_take {l : List ByteArray} {k : Nat} {f : ByteArray → Bool} (hk : k < l.length) (h : ∀ s, f s = true ↔ s ∈ l.take k) (s : ByteArray) : updF f l[k] s = true ↔ s ∈ l.take (k + 1) := by
  unfold updF
  rw [List.take_succ_eq_append_getElem hk, List.mem_append, List.mem_singleton, ← h s]
  by_cases e : s = l[k]
  · rw [if_pos e]; simp [e]
  · rw [if_neg e]; simp [e]
theorem nd_step {l : List ByteArray} {k : Nat} (hk : k < l.length) (h : (l.take k).Nodup) (hn : l[k] ∉ l.take k) : (l.take (k + 1)).Nodup := by
  rw [List.take_succ_eq_append_getElem hk, List.nodup_append]
  exact ⟨h, by simp, fun a ha b hb e => hn (by rw [List.mem_singleton.1 hb] at e; rw [← e]; exact ha)⟩
theorem nd_no {l : List ByteArray} {k : Nat} (hk : k < l.length) (hm : l[k] ∈ l.take k) : ¬ l.Nodup := by
  intro h
  obtain ⟨i, hi, e⟩ := List.getElem_of_mem hm
  rw [List.length_take] at hi
  rw [List.getElem_take] at e
  exact (List.pairwise_iff_getElem.1 h) i k (by omega) hk (by omega) e
theorem gr_lowS {wb w w' : World} {b : Nat} (h : Below wb.heap.size wb w) (hg : w.grownBy w' (some b)) (hb : wb.heap.size ≤ b) : Below wb.heap.size wb w' := h.grown hg h.size (fun k e => by cases e; exact hb)
end Go.Proofs.YtheppimoncokcaaGreat

/- Contracts: powers and order of a row, the rows of a plain course, both sides. -/
namespace Go.Proofs.YtheppimoncokcaaGreat
open Go Go.RowKit
set_option linter.unusedVariables false
set_option linter.unusedSimpArgs false

def lenV : Value → Nat
  | .slice _ n _ => n
  | _ => 0
theorem eq_of_bl {x y : ByteArray} (h : (x.toList == y.toList) = true) : x = y := by
  have h := eq_of_beq h
  rw [bytes_toList, bytes_toList] at h
  exact bytes_ext h
theorem bl_of_eq {x y : ByteArray} (h : x = y) : (x.toList == y.toList) = true := by rw [h]; exact beq_self_eq_true _
theorem ord_stop {n K k : Nat} {a : ByteArray} (h : IsOrd n a K) (h1 : 1 ≤ k) (hk : k ≤ K) (e : ((powB n a k).toList == (roundsB n).toList) = true) : k = K := by
  rcases Nat.lt_or_ge k K with hl | hl
  · exact absurd (eq_of_bl e) (h.2.2 k h1 hl)
  · omega
theorem ord_go {n K k : Nat} {a : ByteArray} (h : IsOrd n a K) (hk : k ≤ K) (e : ((powB n a k).toList == (roundsB n).toList) = false) : k < K := by
  rcases Nat.lt_or_ge k K with hl | hl
  · exact hl
  · obtain rfl : k = K := by omega
    rw [bl_of_eq h.2.1] at e; cases e
theorem pow_head {n K : Nat} (a : ByteArray) (h : 1 ≤ K) : (powL n a K)[0]'(by rw [powL_len]; omega) = roundsB n := by simp [powL, powB]
set_option maxRecDepth 10000 in
set_option maxHeartbeats 2000000 in
theorem powers_any (a : ByteArray) (n K : Nat) (w : World) (hn : n ≤ 8) (ha : RowIn n a) (hK : IsOrd n a K) (hKb : K ≤ 16777216) : Calls Tryz.prog 58 #[.string a] w fun e w' =>
    ∃ A q, e = .returned (.slice A K q) ∧ w'.ownsRow w.heap.size 9 1 (.slice A K q) K ((powL n a K).map Value.string) ∧ Below w.heap.size w w' := by
  have hsz := ha.1
  have HK := Lib.hid hK
  have Ha := Lib.hid ha
  have hK1 := hK.1
  have h1a : Hid (a = powB n a 1) := Lib.hid (pow_one hn ha).symm
  have Htm := Lib.hid (fun k W => times_any (powB n a k) a W (by rw [(pow_in hn ha k).1]; omega) (by rw [hsz]; omega) (row_hin (pow_in hn ha k).1 ha))
  clear hK ha
  go_enter Tryz.func58, Tryz.ntmps58
  go_wp2_with (go_at_call 96; refine (rounds_any n _ hn).mono ?_; rintro e w' ⟨rfl, rfl⟩)
  refine box1 (C := fun W => Code.wp _ _ _ _ W) ?_
  intro wb hw k1 hB0
  have hown0 : wb.ownsRow w.heap.size 9 1 (.slice (some ⟨w.heap.size, 0, none⟩) 1 1) 1 [.string (roundsB n)] := own_of_heap k1 (Nat.le_refl _) (by unfold maxLen; omega) rfl
  clear k1
  go_loopw [3, 4] (fun o p wr => ∃ (k : Nat) (A' : Option Addr) (q' : Nat), 1 ≤ k ∧ k ≤ K ∧ p = .string (powB n a k) ∧ o = .slice A' k q' ∧ wr.ownsRow w.heap.size 9 1 (.slice A' k q') k ((powL n a k).map Value.string) ∧ Below w.heap.size w wr) (fun o _ _ => K - lenV o)
  case atStart => exact ⟨1, _, 1, by omega, by omega, by rw [← h1a.out], rfl, hown0, hw⟩
  case round =>
    obtain ⟨k, A', q', h1k, hk, rfl, rfl, hown, hB⟩ := hrel
    have hS := sl_of_own hown
    obtain ⟨A2, c2, e2, _, _, hrd⟩ := hS
    injection e2 with ea eb ec
    subst ea ec
    obtain ⟨ad, rfl, hC⟩ := strs_el (k := 0) hrd (by rw [powL_len]; omega)
    have hC0 := hC _ (Below.refl _ _)
    rw [pow_head a h1k] at hC0
    have hC1 := hC0
    rw [add_zero'] at hC1
    have Hst := Lib.hid (ord_stop HK.out h1k hk)
    have Hgo := Lib.hid (ord_go HK.out hk)
    have Hs : Hid (powL n a (k + 1) = powL n a k ++ [powB n a k]) := Lib.hid (powL_succ n a k)
    have Ht := Lib.hid (Htm.out k)
    have Hx : Hid (timesB (powB n a k) a = powB n a (k + 1)) := Lib.hid rfl
    obtain ⟨x, hx⟩ : ∃ x, x = powB n a k := ⟨_, rfl⟩
    rw [← hx] at Hst Hgo Hs Ht Hx ⊢
    clear hC hrd hx
    cases hb : (x.toList == (roundsB n).toList)
    · have hlt := Hgo.out hb
      go_wp2_with (at_builtin; go_must (refine wpList_app _ rfl _ _ _ rfl w.heap.size 9 _ 1 16 Tryz.underlying24 info_str rfl (by omega) hown [.string x] rfl rfl rfl (one_mem rfl) (by omega) (by omega) hB.size ?_); intro v2 w3 hown3 hb3 hg3 _)
      refine (Ht.out _).mono ?_; rintro e w2 ⟨rfl, hb2⟩
      have hown4 := own_to hown3 hb2
      obtain ⟨A2, q2, e2, _⟩ := sl_of_own hown4
      subst e2
      rw [str_snoc Hs.out] at hown4
      have hB4 := bw_to (hB.trans hb3) hb2
      clear hown hown3
      go_wp2_with fail
      exact ⟨⟨k + 1, A2, q2, by omega, by omega, by rw [Hx.out], rfl, hown4, hB4⟩, by simp [lenV]; omega⟩
    · obtain rfl := Hst.out hb
      go_wp2_with fail
      go_ret
      exact ⟨_, _, rfl, hown, hB⟩
set_option maxRecDepth 10000 in
set_option maxHeartbeats 2000000 in
theorem l1Order_any (a : ByteArray) (n K : Nat) (w : World) (hn : n ≤ 8) (ha : RowIn n a) (hK : IsOrd n a K) (hKb : K ≤ 16777216) : Calls Tryz.prog 109 #[.string a] w fun e w' => e = .returned (.int .i64 (K : Int)) ∧ w = w' := by
  have hsz := ha.1
  have HK := Lib.hid hK
  have hK1 := hK.1
  have h1a : Hid (a = powB n a 1) := Lib.hid (pow_one hn ha).symm
  have Htm := Lib.hid (fun k W => l1Times_any (powB n a k) a W (by rw [(pow_in hn ha k).1]; omega) (by rw [hsz]; omega) (row_hin (pow_in hn ha k).1 ha))
  clear hK ha
  go_enter Tryz.func109, Tryz.ntmps109
  go_wp2_with fail
  go_loop [3, 4] (fun o p => ∃ k : Nat, 1 ≤ k ∧ k ≤ K ∧ p = .string (powB n a k) ∧ o = .int .i64 k) (fun o _ => K - (intOf o).toNat)
  case atStart => exact ⟨1, by omega, by omega, by rw [← h1a.out], rfl⟩
  case round =>
    obtain ⟨k, h1k, hk, rfl, rfl⟩ := hrel
    have Hst := Lib.hid (ord_stop HK.out h1k hk)
    have Hgo := Lib.hid (ord_go HK.out hk)
    have Ht := Lib.hid (Htm.out k)
    have Hx : Hid (timesB (powB n a k) a = powB n a (k + 1)) := Lib.hid rfl
    obtain ⟨x, hx⟩ : ∃ x, x = powB n a k := ⟨_, rfl⟩
    rw [← hx] at Hst Hgo Ht Hx ⊢
    clear hx
    cases hb : (x.toList == (roundsB n).toList)
    · have hlt := Hgo.out hb
      go_wp2_with (first | (go_at_call 127; refine (l1Rounds_any n _ hn).mono ?_; rintro e w' ⟨rfl, rfl⟩) | (go_at_call 88; refine (Ht.out _).mono ?_; rintro e w' ⟨rfl, rfl⟩))
      exact ⟨⟨k + 1, by omega, by omega, by rw [Hx.out], by go_num⟩, by simp [intOf]; omega⟩
    · obtain rfl := Hst.out hb
      go_wp2_with (go_at_call 127; refine (l1Rounds_any n _ hn).mono ?_; rintro e w' ⟨rfl, rfl⟩)
      go_ret
      exact ⟨rfl, rfl⟩
/-- A good method, its stage, and the number of leads of its course. -/
structure MK (m : Mt) (n K : Nat) : Prop where
  ok : methB m = true
  g : MGood m n
  ord : IsOrd n (runB (roundsB n) m.l) K
  kb : K ≤ 16777216
theorem mk_of {m : Mt} (h : methB m = true) : ∃ n K, MK m n K := by
  obtain ⟨n, hg⟩ := mgood_of h
  obtain ⟨K, hb, hK⟩ := ord_ex hg.hi (run_inv hg.hi m.l (Inv.rounds hg.hi))
  exact ⟨n, K, h, hg, hK, hb⟩
def headM (m : Mt) (n : Nat) : ByteArray := runB (roundsB n) m.l
theorem MK.hin {m : Mt} {n K : Nat} (h : MK m n K) : RowIn n (runB (roundsB n) m.l) := runB_in h.g.hi _ (rounds_in h.g.hi)
def crsL (m : Mt) (n K : Nat) : List ByteArray := if K * m.l.length ≤ 800 then rowsB m.l (powL n (runB (roundsB n) m.l) K) else []
theorem rows_in {n K : Nat} {m : Mt} (h : MK m n K) : ∀ x ∈ rowsB m.l (powL n (runB (roundsB n) m.l) K), RowIn n x := by
  intro x hx
  unfold rowsB at hx
  obtain ⟨y, hy, hx⟩ := List.mem_flatMap.1 hx
  unfold powL at hy
  obtain ⟨j, _, rfl⟩ := List.mem_map.1 hy
  exact lead_in h.g.hi _ (pow_in h.g.hi h.hin j) x hx
theorem crs_len {n K : Nat} {m : Mt} (h : MK m n K) : (crsL m n K).length ≤ 800 := by
  unfold crsL
  split
  · rw [rows_len, powL_len]; assumption
  · simp
theorem own_ptr {w : World} {base : Nat} {e : TypeId} {size n c : Nat} {A : Option Addr} {xs : List Value} (h : w.ownsRow base e size (.slice A n c) n xs) (hn : 1 ≤ n) : ∃ g, A = some ⟨g, 0, none⟩ ∧ g < w.heap.size := by
  rcases h.2 with ⟨e, _⟩ | ⟨g, cap, cur, e, hb, hg, _⟩
  · injection e with _ e; omega
  · injection e with e1 e2 e3
    exact ⟨g, e1, (Array.getElem?_eq_some_iff.1 hg).1⟩
theorem own_neG {w : World} {base n G : Nat} {e : TypeId} {size : Nat} {v : Value} {xs : List Value} (h : w.ownsRow base e size v n xs) (hG : G < base ∨ w.heap.size ≤ G) : v.ownBlock = none ∨ v.ownBlock ≠ some G := by
  cases hb : v.ownBlock with
  | none => exact .inl rfl
  | some k =>
    have h1 := h.lt k hb
    refine .inr (fun e => ?_)
    injection e with e
    omega
end Go.Proofs.YtheppimoncokcaaGreat

/- The group that rows generate: the program's. -/
namespace Go.Proofs.YtheppimoncokcaaGreat
open Go Go.RowKit
set_option linter.unusedVariables false
set_option linter.unusedSimpArgs false

def grpL (F : List ByteArray) : List ByteArray := if F.length ≤ 130 then sortB F else []
theorem grpL_yes {F : List ByteArray} (h : F.length ≤ 130) : grpL F = sortB F := by unfold grpL; rw [if_pos h]
theorem grpL_no {F : List ByteArray} (h : ¬ F.length ≤ 130) : grpL F = [] := by unfold grpL; rw [if_neg h]
theorem part_get {n : Nat} {gens : List ByteArray} {t : Nat} (h : t < (cloB n gens t).length) (j : Nat) (y : ByteArray) : (partB n gens t j y)[t]? = some (cloB n gens t)[t] := by
  obtain ⟨r, hr⟩ := exp_pre y (gens.take j) (cloB n gens t)
  unfold partB
  rw [← hr, List.getElem?_append_left h, List.getElem?_eq_getElem h]
theorem updF_app {L : List ByteArray} {x : ByteArray} {f : ByteArray → Bool} (h : ∀ s, f s = true ↔ s ∈ L) (s : ByteArray) : updF f x s = true ↔ s ∈ L ++ [x] := by
  unfold updF
  rw [List.mem_append, List.mem_singleton, ← h s]
  by_cases e : s = x
  · rw [if_pos e]; simp [e]
  · rw [if_neg e]; simp [e]
set_option maxRecDepth 100000 in
set_option maxHeartbeats 8000000 in
theorem generated_any (n T : Nat) (gens : List ByteArray) (V : Value) (w : World) (hn : n ≤ 8) (hg : ∀ g ∈ gens, RowIn n g) (hV : Strs w V gens) (hgl : gens.length ≤ 1000) (hT : IsClo n gens T) (hTb : T ≤ 16777216) :
    Calls Tryz.prog 91 #[.int .i64 n, V, .int .i64 130] w fun e w' => ∃ A q, e = .returned (.tuple #[.slice A (grpL (cloB n gens T)).length q, .bool (decide ((cloB n gens T).length ≤ 130))]) ∧ w'.ownsRow w.heap.size 9 1 (.slice A (grpL (cloB n gens T)).length q) (grpL (cloB n gens T)).length ((grpL (cloB n gens T)).map Value.string) ∧ Below w.heap.size w w' := by
  have Hall := Lib.hid (clo_all (P := RowIn n) (n := n) (gens := gens) (rounds_in hn) (fun x g hx hg' => times_in hx (hg g hg')))
  have HT := Lib.hid hT
  have Hg := Lib.hid hg
  have Hyes := Lib.hid (fun h => grpL_yes (F := cloB n gens T) h)
  have Hno := Lib.hid (fun h => grpL_no (F := cloB n gens T) h)
  obtain ⟨A0, c0, rfl, hgc, hgm, hrd⟩ := hV
  unfold maxLen at hgm
  have hrs : (roundsB n).size ≤ maxLen := by rw [rounds_size hn]; unfold maxLen; omega
  have Hrs := Lib.hid hrs
  clear hT hg hrs
  go_enter Tryz.func91, Tryz.ntmps91
  go_wp2_with fail
  refine upon_mkS ?_
  intro w1 hm1 hb1
  go_wp2_with (go_at_call 96; refine (rounds_any n _ hn).mono ?_; rintro e w' ⟨rfl, rfl⟩)
  refine upon_insS Tryz.underlying111 hm1 (by omega) (roundsB n) Hrs.out ?_
  intro w2 hm2 hg2
  have hb2 := gr_lowS hb1 hg2 (Nat.le_refl _)
  go_wp2_with (go_at_call 96; refine (rounds_any n _ hn).mono ?_; rintro e w' ⟨rfl, rfl⟩)
  refine box1 (C := fun W => Code.wp _ _ _ _ W) ?_
  intro w3 hw3 k3 hB03
  have hbl : w.heap.size < w2.heap.size := hm2.lt
  have hown0 : w3.ownsRow w2.heap.size 9 1 (.slice (some ⟨w2.heap.size, 0, none⟩) 1 1) 1 ([roundsB n].map Value.string) := own_of_heap k3 (Nat.le_refl _) (by unfold maxLen; omega) rfl
  have hm3 := hm2.to hw3
  have hB3 := bw_to hb2 hw3
  have hs3 : w2.heap.size ≤ w3.heap.size := hw3.size
  clear k3 hm1 hg2
  go_wp2_with fail
  go_loopw [9, 10] (fun o i wr => ∃ (t : Nat) (L : List ByteArray) (A : Option Addr) (q cnt : Nat) (f : ByteArray → Bool), t ≤ T ∧ i = .int .i64 t ∧ L = cloB n gens t ∧ o = .slice A L.length q ∧ wr.ownsRow w2.heap.size 9 1 (.slice A L.length q) L.length (L.map Value.string) ∧ SM wr w.heap.size cnt f ∧ (∀ s, f s = true ↔ s ∈ L) ∧ cnt ≤ 200 ∧ cnt ≤ L.length ∧ L.length ≤ 130 ∧ Below w.heap.size w wr ∧ w2.heap.size ≤ wr.heap.size) (fun _ i _ => T + 1 - (intOf i).toNat)
  case atStart => exact ⟨0, [roundsB n], _, 1, 1, _, by omega, rfl, rfl, rfl, hown0, hm3, fun s => by unfold updF; by_cases e : s = roundsB n <;> simp [e], by omega, by simp, by simp, hB3, hs3⟩
  case round =>
    obtain ⟨t, L, A, q, cnt, f, ht, rfl, hL, rfl, hown, hm, hf, hc1, hc2, hl, hB, hsz⟩ := hrel
    have hlq := sl_cap hown
    have HL := Lib.hid hL
    have Hf := Lib.hid hf
    have Hm := Lib.hid hm
    clear hL hf hm
    by_cases hlt : t < L.length
    · have htT : t < T := by
        rcases Nat.lt_or_ge t T with h | h
        · exact h
        · have e : t = T := by omega
          have := HT.out.1
          rw [← e, ← HL.out] at this; omega
      have hlt' : t < (cloB n gens t).length := by rw [← HL.out]; exact hlt
      obtain ⟨y, hy⟩ : ∃ y, y = (cloB n gens t)[t] := ⟨_, rfl⟩
      have Hy : Hid (RowIn n y) := Lib.hid (by rw [hy]; exact Hall.out t _ (List.getElem_mem hlt'))
      have Hpl : Hid (∀ j, (partB n gens t j y).length ≤ (cloB n gens T).length) := Lib.hid (fun j => by rw [hy]; exact part_len HT.out htT)
      have Hpg : Hid (∀ j, (partB n gens t j y)[t]? = some y) := Lib.hid (fun j => by rw [part_get hlt' j y, hy])
      have Hpa : Hid (partB n gens t gens.length y = cloB n gens (t + 1)) := Lib.hid (by rw [hy]; exact part_all hlt')
      have Hp0 : Hid (L = partB n gens t 0 y) := Lib.hid HL.out
      clear hy hlt'
      go_wp2_with fail
      obtain ⟨wo, rfl⟩ : ∃ wo : World, wo = wr := ⟨_, rfl⟩
      go_loopw [9, 29] (fun o i wr => ∃ (j : Nat) (L : List ByteArray) (A : Option Addr) (q cnt : Nat) (f : ByteArray → Bool), j ≤ gens.length ∧ i = .int .i64 j ∧ L = partB n gens t j y ∧ o = .slice A L.length q ∧ wr.ownsRow w2.heap.size 9 1 (.slice A L.length q) L.length (L.map Value.string) ∧ SM wr w.heap.size cnt f ∧ (∀ s, f s = true ↔ s ∈ L) ∧ cnt ≤ 200 ∧ cnt ≤ L.length ∧ L.length ≤ 130 ∧ Below w.heap.size w wr ∧ w2.heap.size ≤ wr.heap.size) (fun _ i _ => gens.length - (intOf i).toNat)
      case atStart => exact ⟨0, L, A, q, cnt, f, by omega, rfl, Hp0.out, rfl, hown, Hm.out, Hf.out, hc1, hc2, hl, hB, hsz⟩
      case round =>
        clear hown hlq hc2 hl hlt HL Hf Hm Hp0
        obtain ⟨j, L, A, q, cnt, f, hj, rfl, hL, rfl, hown, hm, hf, hc1, hc2, hl, hB, hsz⟩ := hrel
        have hlq := sl_cap hown
        have HL := Lib.hid hL
        clear hL
        by_cases hlt : j < gens.length
        · obtain ⟨ad, rfl, hC⟩ := strs_el hrd hlt
          have hC0 := hC _ hB
          have hgin := Hg.out _ (List.getElem_mem hlt)
          obtain ⟨A', c', e', hx1, hx2, hrdL⟩ := sl_of_own hown
          injection e' with ea _ ec
          subst ea ec
          have htL : t < L.length := by
            have h := Hpg.out j
            rw [← HL.out] at h
            exact (List.getElem?_eq_some_iff.1 h).1
          obtain ⟨ad2, rfl, hC2⟩ := strs_el hrdL htL
          have hC20 := hC2 _ (Below.refl _ _)
          have ey : L[t] = y := by
            have h := Hpg.out j
            rw [← HL.out] at h
            exact (List.getElem?_eq_some_iff.1 h).2
          rw [ey] at hC20
          obtain ⟨g, eg⟩ : ∃ g, g = gens[j] := ⟨_, rfl⟩
          have Hps : Hid (partB n gens t (j + 1) y = visitB L (timesB y g)) := Lib.hid (by rw [part_succ hlt, ← HL.out, eg])
          rw [← eg] at hC0 hgin
          have Hti := Lib.hid (times_in Hy.out hgin)
          have Htm := Lib.hid (fun W => times_any y g W (by rw [Hy.out.1]; omega) (by rw [hgin.1]; omega) (row_hin Hy.out.1 hgin))
          have hownH := Lib.hid hown
          have Hm := Lib.hid hm
          have Hf := Lib.hid hf
          clear hC hC2 ey eg hgin hrdL hx2 hown hm hf
          go_wp2_with fail
          refine (Htm.out _).mono ?_; rintro e w5 ⟨rfl, hb5⟩
          obtain ⟨x, hx⟩ : ∃ x, x = timesB y g := ⟨_, rfl⟩
          rw [← hx] at Hps Hti ⊢
          have hxs : x.size ≤ maxLen := by rw [Hti.out.1]; unfold maxLen; omega
          have hm5 := Hm.out.to hb5
          have hown5 := own_to hownH.out hb5
          have hB5 := bw_to hB hb5
          have hsz5 : w2.heap.size ≤ w5.heap.size := Nat.le_trans hsz hb5.size
          have hlk := hm5.look 111 Tryz.underlying111 x hxs
          have Hm5 := Lib.hid hm5
          have Hxs := Lib.hid hxs
          clear hx hm5 hxs
          cases hb : f x
          · have hnm : x ∉ L := fun h => by rw [(Hf.out x).2 h] at hb; cases hb
            have Hv : Hid (partB n gens t (j + 1) y = L ++ [x]) := Lib.hid (by rw [Hps.out]; unfold visitB; rw [if_neg hnm])
            rw [hb] at hlk
            by_cases h130 : L.length = 130
            · have HF : Hid (¬ (cloB n gens T).length ≤ 130) := Lib.hid (by
                have h := Hpl.out (j + 1)
                rw [Hv.out, List.length_append, h130] at h
                simp at h
                omega)
              have hd : ((L.length : Int) == 130) = true := by simp; omega
              have hdd := Lib.hid (decide_eq_false HF.out)
              have HE := Lib.hid (Hno.out HF.out)
              clear hown5
              go_wp2_with fail
              go_ret2
              refine ⟨none, 0, by rw [hdd.out, HE.out]; rfl, by rw [HE.out]; exact World.ownsRow_nil _ _ _ _, hB5⟩
            · have hd : ((L.length : Int) == 130) = false := by simp; omega
              go_wp2_with fail
              refine upon_insS Tryz.underlying111 Hm5.out (by omega) x Hxs.out ?_
              intro w6 hm6 hg6
              have hown6 := hown5.kept hg6 (own_neG hown5 (.inl hbl))
              have hB6 := gr_lowS hB5 hg6 (Nat.le_refl _)
              have hsz6 : w2.heap.size ≤ w6.heap.size := Nat.le_trans hsz5 hg6.size
              have Hm6 := Lib.hid hm6
              clear hown5 hm6 hg6
              go_wp2_with (at_builtin; go_must (refine wpList_app _ rfl _ _ _ rfl w2.heap.size 9 _ 1 16 Tryz.underlying24 info_str rfl (by omega) hown6 [.string x] rfl rfl rfl (one_mem rfl) (by omega) (by omega) hsz6 ?_); intro v7 w7 hown7 hb7 hg7 _)
              obtain ⟨A7, q7, e7, _⟩ := sl_of_own hown7
              subst e7
              have hm7 := Hm6.out.kept hg7 ((own_neG (G := w.heap.size) hown6 (.inl hbl)).elim (fun h => by rw [h]; simp) (fun h e => h e.symm))
              rw [str_snoc (rfl : L ++ [x] = L ++ [x])] at hown7
              have e8 : (L ++ [x]).length = L.length + 1 := by simp
              exact ⟨⟨j + 1, L ++ [x], A7, q7, _, _, by omega, by go_num, Hv.out.symm, by rw [e8], by rw [e8]; exact hown7, hm7, updF_app Hf.out, by omega, by rw [e8]; omega, by rw [e8]; omega, hB6.trans (hb7.mono (by omega)), by have := hg7.size; omega⟩, by simp [intOf]; omega⟩
          · have hmem := (Hf.out x).1 hb
            have Hv : Hid (partB n gens t (j + 1) y = L) := Lib.hid (by rw [Hps.out]; unfold visitB; rw [if_pos hmem])
            rw [hb] at hlk
            clear hmem
            go_wp2_with fail
            exact ⟨⟨j + 1, L, _, q, cnt, f, by omega, by go_num, Hv.out.symm, rfl, hown5, Hm5.out, Hf.out, by omega, by omega, by omega, hB5, hsz5⟩, by simp [intOf]; omega⟩
        · obtain rfl : j = gens.length := by omega
          have Hm := Lib.hid hm
          have Hf := Lib.hid hf
          clear hm hf
          go_wp2_with fail
          exact ⟨⟨t + 1, L, A, q, cnt, f, by omega, by go_num, by rw [HL.out, Hpa.out], rfl, hown, Hm.out, Hf.out, by omega, by omega, by omega, hB, hsz⟩, by simp [intOf]; omega⟩
    · have htT : t = T := by
        rcases Nat.lt_or_ge t T with h | h
        · have := HT.out.2 t h; rw [← HL.out] at this; omega
        · omega
      subst htT
      have hF : (cloB n gens t).length ≤ 130 := by rw [← HL.out]; exact hl
      have hdd := Lib.hid (decide_eq_true hF)
      have HE := Lib.hid (Hyes.out hF)
      obtain ⟨g, hA, hgl2⟩ := own_ptr hown (by
        have := clo_len_mono (n := n) (gens := gens) (Nat.zero_le t)
        rw [← HL.out] at this
        exact this)
      subst hA
      have Hso := Lib.hid (sortS_any g L.length q w2.heap.size L wr hown (by omega))
      clear hown hF
      go_wp2_with fail
      refine Hso.out.mono ?_; rintro e w8 ⟨rfl, hown8, hb8, hs8⟩
      have Hown8 := Lib.hid hown8
      clear hown8
      go_wp2_with fail
      go_ret2
      have e9 : (grpL (cloB n gens t)).length = L.length := by rw [HE.out, sortB_len, ← HL.out]
      refine ⟨_, q, by rw [hdd.out, e9]; rfl, ?_, hB.trans (hb8.mono (by omega))⟩
      rw [e9, HE.out, ← HL.out]
      exact own_base Hown8.out (by omega)
end Go.Proofs.YtheppimoncokcaaGreat
