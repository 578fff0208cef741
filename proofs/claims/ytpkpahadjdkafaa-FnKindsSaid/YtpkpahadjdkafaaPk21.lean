/- A map from texts to truth of the call's own; no row occurs twice: the program's. -/
import Derived.Test.YtpkpahadjdkafaaPk17
import Derived.Test.YtpkpahadjdkafaaPk20
import Derived.Maps.Own
import Derived.Maps.OwnOps
import Derived.Maps.Views
import Derived.Maps.StringElems
namespace Go.Proofs.Ytpkpahadjdkafaa
open Go Go.RowKit
set_option linter.unusedVariables false
set_option linter.unusedSimpArgs false

theorem keysStr : Maps.Keyed Try.prog 9 := Maps.string_keyed Try.underlying9
/-- Block b is a map from texts to truth: it says f. -/
def SM (W : World) (b n : Nat) (f : ByteArray → Bool) : Prop :=
  ∃ D : DataW Unit, W.ownsMap Try.prog 9 (plainElem Try.prog 4) b n D ∧ Maps.IsMap D ∧ ∀ s : ByteArray, D.atKey (.string s.data.toList) (.lit (.bool false)) = .lit (.bool (f s))
theorem SM.kept {W W' : World} {b n : Nat} {f : ByteArray → Bool} {row : Option Nat} (h : SM W b n f) (hg : W.grownBy W' row) (hne : some b ≠ row) : SM W' b n f := by
  obtain ⟨D, h1, h2, h3⟩ := h; exact ⟨D, h1.kept hg hne, h2, h3⟩
theorem SM.lt {W : World} {b n : Nat} {f : ByteArray → Bool} (h : SM W b n f) : b < W.heap.size := by obtain ⟨D, h1, _⟩ := h; exact h1.lt
theorem SM.to {W W' : World} {b n : Nat} {f : ByteArray → Bool} (h : SM W b n f) (hb : Below W.heap.size W W') : SM W' b n f :=
  h.kept (row := none) ⟨hb.os, hb.tape, hb.output, hb.size, fun i hi _ => hb.block i hi⟩ (by simp)
theorem SM.made (W : World) : SM (W.alloc (.map #[] 0)) W.heap.size 0 (fun _ => false) := ⟨.map [], World.ownsMap_made _ _ _ _, Maps.isMap_empty, fun _ => rfl⟩
def updF (f : ByteArray → Bool) (s : ByteArray) : ByteArray → Bool := fun x => if x = s then true else f x
theorem SM.put {W : World} {b n : Nat} {f : ByteArray → Bool} (h : SM W b n f) (hn : n < 1000000000) (t : TypeId) (ht : Try.prog.underlying t = some (.map 9 4)) (s : ByteArray) (hs : s.size ≤ maxLen) :
    ∃ W', (Instr.mapUpdate t (.map (some b)) (.string s) (.bool true)).run Try.prog W = .ok () W' ∧ SM W' b (n + 1) (updF f s) ∧ W.grownBy W' (some b) := by
  obtain ⟨D, h1, h2, h3⟩ := h
  obtain ⟨W', hr, ho, hg⟩ := h1.update keysStr ht (by unfold maxLen; omega) (WideMaps.keyOf_string_mk Try.underlying9 hs) (plainElem_bool Try.underlying4 true)
  refine ⟨W', hr, ⟨_, ho, h2.put _ _, fun x => ?_⟩, hg⟩
  unfold updF
  by_cases hc : x = s
  · subst hc
    rw [if_pos rfl]
    exact Maps.atKey_put_same h2 (by simp [WideAt.IsKeyLit]) _ _
  · rw [if_neg hc, Maps.atKey_put_other (by intro e; injection e with e; exact hc (bytes_ext e))]
    exact h3 x
theorem zeroB' (W : World) : (zeroValue 4).run Try.prog W = .ok (.bool false) W := by kernel_rfl
theorem plainElem_bool_inv {P : Program} {e : TypeId} (he : P.underlying e = some .bool) {v : Value} {z : DataW Unit × List MemPlace} (h : plainElem P e v = some z) : ∃ x, v = .bool x ∧ z = (.lit (.bool x), []) := by
  unfold plainElem at h
  rw [he] at h
  cases v <;> simp at h
  exact ⟨_, rfl, h.symm⟩
set_option maxRecDepth 20000 in
theorem SM.look {W : World} {b n : Nat} {f : ByteArray → Bool} (h : SM W b n f) (t : TypeId) (ht : Try.prog.underlying t = some (.map 9 4)) (s : ByteArray) (hs : s.size ≤ maxLen) :
    (Instr.lookup t (.map (some b)) (.string s) false).run Try.prog W = .ok (.bool (f s)) W := by
  obtain ⟨D, h1, h2, h3⟩ := h
  obtain ⟨v, ps, hrun, hv⟩ := h1.lookup keysStr ht (zeroB' W) (plainElem_bool Try.underlying4 false) (WideMaps.keyOf_string_mk Try.underlying9 hs)
  obtain ⟨x, rfl, hx⟩ := plainElem_bool_inv Try.underlying4 hv
  have h4 := (h3 s).symm.trans (Prod.mk.inj hx).1
  injection h4 with h4
  injection h4 with h4
  rw [h4]
  exact hrun
set_option maxRecDepth 20000 in
theorem upon_mkS {o : Oper} {a : Act} {K : Act → World → Prop} {Q : Exit → Act → World → Prop} {t : TypeId} {w : World} (h : ∀ w', SM w' w.heap.size 0 (fun _ => false) → Below w.heap.size w w' → K (a.put o.dst (.map (some w.heap.size))) w') :
    Oper.upon Try.prog o a K Q ((Sem.run Try.prog (Instr.makeMap t none) w).andThen fun a w' => Result.ok (Next.value a) w') := by
  have e : Sem.run Try.prog (Instr.makeMap t none) w = .ok (.map (some w.heap.size)) (w.alloc (.map #[] 0)) := rfl
  rw [e]
  show K _ _
  exact h _ (SM.made w) (bw_al (Below.refl _ _) _)
set_option maxRecDepth 20000 in
theorem upon_insS {o : Oper} {a : Act} {K : Act → World → Prop} {Q : Exit → Act → World → Prop} {t : TypeId} {w : World} (ht : Try.prog.underlying t = some (.map 9 4)) {b n : Nat} {f : ByteArray → Bool} (hm : SM w b n f) (hn : n < 1000000000)
    (s : ByteArray) (hs : s.size ≤ maxLen) (h : ∀ w', SM w' b (n + 1) (updF f s) → w.grownBy w' (some b) → K (a.put o.dst undef) w') :
    Oper.upon Try.prog o a K Q ((Sem.run Try.prog (Instr.mapUpdate t (.map (some b)) (.string s) (.bool true)) w).andThen fun _ w' => Result.ok Next.skip w') := by
  obtain ⟨w', hr, h1, h2⟩ := hm.put hn t ht s hs
  rw [hr]
  exact h w' h1 h2
theorem updF_take {l : List ByteArray} {k : Nat} {f : ByteArray → Bool} (hk : k < l.length) (h : ∀ s, f s = true ↔ s ∈ l.take k) (s : ByteArray) : updF f l[k] s = true ↔ s ∈ l.take (k + 1) := by
  unfold updF
  rw [List.take_succ_eq_append_getElem hk, List.mem_append, List.mem_singleton, ← h s]
  by_cases e : s = l[k]
  · rw [if_pos e]; simp [e]
  · rw [if_neg e]; simp [e]
theorem nd_step {l : List ByteArray} {k : Nat} (hk : k < l.length) (h : (l.take k).Nodup) (hn : l[k] ∉ l.take k) : (l.take (k + 1)).Nodup := by
  rw [List.take_succ_eq_append_getElem hk, List.nodup_append]
  exact ⟨h, by simp, fun a ha b hb e => hn (by rw [List.mem_singleton.1 hb] at e; rw [← e]; exact ha)⟩
theorem nd_no {l : List ByteArray} {k : Nat} (hk : k < l.length) (hm : l[k] ∈ l.take k) : ¬ l.Nodup := by
  intro h
  obtain ⟨i, hi, e⟩ := List.getElem_of_mem hm
  rw [List.length_take] at hi
  rw [List.getElem_take] at e
  exact (List.pairwise_iff_getElem.1 h) i k (by omega) hk (by omega) e
theorem gr_lowS {wb w w' : World} {b : Nat} (h : Below wb.heap.size wb w) (hg : w.grownBy w' (some b)) (hb : wb.heap.size ≤ b) : Below wb.heap.size wb w' := h.grown hg h.size (fun k e => by cases e; exact hb)
set_option maxRecDepth 10000 in
set_option maxHeartbeats 2000000 in
theorem isTrue_any (v : Value) (l : List ByteArray) (w : World) (hv : Strs w v l) (hl : l.length ≤ 100000000) (hsz : ∀ s ∈ l, s.size ≤ 1048576) : Calls Try.prog 95 #[v] w fun e w' => e = .returned (.bool (decide l.Nodup)) ∧ Below w.heap.size w w' := by
  obtain ⟨A, c, rfl, h1, h2, hrd⟩ := hv
  unfold maxLen at h2
  have Hsz := Lib.hid hsz
  clear hsz
  go_enter Try.func95, Try.ntmps95
  go_wp2_with fail
  refine upon_mkS ?_
  intro wb hm0 hw
  go_wp2_with fail
  go_loopw [9] (fun i wr => ∃ (k : Nat) (f : ByteArray → Bool), k ≤ l.length ∧ i = .int .i64 k ∧ SM wr w.heap.size k f ∧ (∀ s, f s = true ↔ s ∈ l.take k) ∧ (l.take k).Nodup ∧ Below w.heap.size w wr) (fun i _ => l.length - (intOf i).toNat)
  case atStart => exact ⟨0, _, by omega, rfl, hm0, by simp, by simp, hw⟩
  case round =>
    obtain ⟨k, f, hk, rfl, hm, hf, hnd, hB⟩ := hrel
    by_cases hlt : k < l.length
    · obtain ⟨ad, rfl, hC⟩ := strs_el hrd hlt
      have hC0 := hC wr hB
      have hsk : l[k].size ≤ maxLen := Nat.le_trans (Hsz.out _ (List.getElem_mem hlt)) (by unfold maxLen; omega)
      have hlk := hm.look 131 Try.underlying131 l[k] hsk
      have Hm := Lib.hid hm
      have Hupd := Lib.hid (updF_take hlt hf)
      have Hno := Lib.hid (fun (h : f l[k] = true) => nd_no hlt ((hf _).1 h))
      have Hst := Lib.hid (fun (h : f l[k] = false) => nd_step hlt hnd (fun hc => by rw [(hf _).2 hc] at h; cases h))
      have Hsk := Lib.hid hsk
      obtain ⟨x, hx⟩ : ∃ x, x = l[k] := ⟨_, rfl⟩
      rw [← hx] at hC0 hlk Hupd Hno Hst Hsk
      clear hC hm hf hnd hx hsk
      cases hb : f x
      · rw [hb] at hlk
        go_wp2_with fail
        refine upon_insS Try.underlying131 Hm.out (by omega) x Hsk.out ?_
        intro w3 hm3 hg3
        have hB3 := gr_lowS hB hg3 (Nat.le_refl _)
        go_wp2_with fail
        exact ⟨⟨k + 1, _, by omega, by go_num, hm3, Hupd.out, Hst.out hb, hB3⟩, by simp [intOf]; omega⟩
      · rw [hb] at hlk
        have hd := decide_eq_false (Hno.out hb)
        go_wp2_with fail
        go_ret
        exact ⟨ret_bool hd.symm, hB⟩
    · obtain rfl : k = l.length := by omega
      rw [List.take_length] at hnd
      have hd := Lib.hid (decide_eq_true hnd)
      clear hnd hf hm
      go_wp2_with fail
      go_ret
      exact ⟨ret_bool hd.out.symm, hB⟩
end Go.Proofs.Ytpkpahadjdkafaa
