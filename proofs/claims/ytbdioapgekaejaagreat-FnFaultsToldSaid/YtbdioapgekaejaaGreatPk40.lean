/- A map from texts to numbers of the call's own; the first pair of equal rows: the program's. -/
import Derived.Test.YtbdioapgekaejaaGreatPk39
import Derived.Test.YtbdioapgekaejaaGreatPk37
import Derived.Maps.OwnSet
import Derived.Test.YtbdioapgekaejaaGreatPk31
import Derived.Test.YtbdioapgekaejaaGreatPk35
import Derived.Test.YtbdioapgekaejaaGreatPk28
namespace Go.Proofs.YtbdioapgekaejaaGreat
open Go Go.RowKit
set_option linter.unusedVariables false
set_option linter.unusedSimpArgs false

/-- Block b is a map from texts to numbers: it says f. -/
def IMp (W : World) (b n : Nat) (f : ByteArray → Option Nat) : Prop :=
  ∃ D : DataW Unit, W.ownsMap Tryz.prog 9 (plainElem Tryz.prog 3) b n D ∧ Maps.IsMap D ∧ ∀ s : ByteArray, Maps.has D (.string s.data.toList) = (f s).isSome ∧ D.atKey (.string s.data.toList) (.lit (.int .i64 0)) = .lit (.int .i64 (((f s).getD 0 : Nat) : Int))
theorem IMp.kept {W W' : World} {b n : Nat} {f : ByteArray → Option Nat} {row : Option Nat} (h : IMp W b n f) (hg : W.grownBy W' row) (hne : some b ≠ row) : IMp W' b n f := by
  obtain ⟨D, h1, h2, h3⟩ := h; exact ⟨D, h1.kept hg hne, h2, h3⟩
theorem IMp.to {W W' : World} {b n : Nat} {f : ByteArray → Option Nat} (h : IMp W b n f) (hb : Below W.heap.size W W') : IMp W' b n f :=
  h.kept (row := none) ⟨hb.os, hb.tape, hb.output, hb.size, fun i hi _ => hb.block i hi⟩ (by simp)
theorem IMp.made (W : World) : IMp (W.alloc (.map #[] 0)) W.heap.size 0 (fun _ => none) := ⟨.map [], World.ownsMap_made _ _ _ _, Maps.isMap_empty, fun _ => ⟨rfl, rfl⟩⟩
def updI (f : ByteArray → Option Nat) (s : ByteArray) (k : Nat) : ByteArray → Option Nat := fun x => if x = s then some k else f x
theorem int_wf (k : Nat) (hk : k < 1000000000) : (Lit.int .i64 (k : Int)).wf = true := by
  have e1 : IntKind.i64.min = -9223372036854775808 := rfl
  have e2 : IntKind.i64.max = 9223372036854775807 := rfl
  show (decide (IntKind.i64.min ≤ (k : Int)) && decide ((k : Int) ≤ IntKind.i64.max)) = true
  rw [e1, e2, decide_eq_true (show (-9223372036854775808 : Int) ≤ (k : Int) by omega), decide_eq_true (show (k : Int) ≤ 9223372036854775807 by omega)]
  rfl
theorem IMp.put {W : World} {b n : Nat} {f : ByteArray → Option Nat} (h : IMp W b n f) (hn : n < 1000000000) (t : TypeId) (ht : Tryz.prog.underlying t = some (.map 9 3)) (s : ByteArray) (hs : s.size ≤ maxLen) (k : Nat) (hk : k < 1000000000) :
    ∃ W', (Instr.mapUpdate t (.map (some b)) (.string s) (.int .i64 (k : Int))).run Tryz.prog W = .ok () W' ∧ IMp W' b (n + 1) (updI f s k) ∧ W.grownBy W' (some b) := by
  obtain ⟨D, h1, h2, h3⟩ := h
  obtain ⟨W', hr, ho, hg⟩ := h1.update keysStr ht (by unfold maxLen; omega) (WideMaps.keyOf_string_mk Tryz.underlying9 hs) (plainElem_int Tryz.underlying3 (int_wf k hk))
  refine ⟨W', hr, ⟨_, ho, h2.put _ _, fun x => ?_⟩, hg⟩
  unfold updI
  by_cases hc : x = s
  · subst hc
    rw [if_pos rfl]
    exact ⟨Maps.has_put_same h2 (by simp [WideAt.IsKeyLit]) _, Maps.atKey_put_same h2 (by simp [WideAt.IsKeyLit]) _ _⟩
  · have hne : (Lit.string x.data.toList) ≠ .string s.data.toList := by intro e; injection e with e; exact hc (bytes_ext e)
    rw [if_neg hc, Maps.atKey_put_other hne, Maps.has_put_other hne]
    exact h3 x
theorem zeroI' (W : World) : (zeroValue 3).run Tryz.prog W = .ok (.int .i64 0) W := by kernel_rfl
set_option maxRecDepth 20000 in
theorem IMp.look {W : World} {b n : Nat} {f : ByteArray → Option Nat} (h : IMp W b n f) (t : TypeId) (ht : Tryz.prog.underlying t = some (.map 9 3)) (s : ByteArray) (hs : s.size ≤ maxLen) :
    (Instr.lookup t (.map (some b)) (.string s) true).run Tryz.prog W = .ok (.tuple #[.int .i64 (((f s).getD 0 : Nat) : Int), .bool (f s).isSome]) W := by
  obtain ⟨D, h1, h2, h3⟩ := h
  obtain ⟨v, ps, hrun, hv⟩ := h1.look_ok keysStr ht (zeroI' W) (plainElem_int Tryz.underlying3 (int_wf 0 (by omega))) (WideMaps.keyOf_string_mk Tryz.underlying9 hs)
  obtain ⟨c, rfl, hc, hwc⟩ := plainElem_int_inv Tryz.underlying3 hv
  have h4 := (h3 s).2.symm.trans (Prod.mk.inj hc).1
  injection h4 with h4
  injection h4 with _ h4
  rw [h4, ← (h3 s).1]
  exact hrun
set_option maxRecDepth 20000 in
theorem upon_mkI {o : Oper} {a : Act} {K : Act → World → Prop} {Q : Exit → Act → World → Prop} {t : TypeId} {w : World} (h : ∀ w', IMp w' w.heap.size 0 (fun _ => none) → Below w.heap.size w w' → K (a.put o.dst (.map (some w.heap.size))) w') :
    Oper.upon Tryz.prog o a K Q ((Sem.run Tryz.prog (Instr.makeMap t none) w).andThen fun a w' => Result.ok (Next.value a) w') := by
  have e : Sem.run Tryz.prog (Instr.makeMap t none) w = .ok (.map (some w.heap.size)) (w.alloc (.map #[] 0)) := rfl
  rw [e]
  show K _ _
  exact h _ (IMp.made w) (bw_al (Below.refl _ _) _)
set_option maxRecDepth 20000 in
theorem upon_insI {o : Oper} {a : Act} {K : Act → World → Prop} {Q : Exit → Act → World → Prop} {t : TypeId} {w : World} (ht : Tryz.prog.underlying t = some (.map 9 3)) {b n : Nat} {f : ByteArray → Option Nat} (hm : IMp w b n f) (hn : n < 1000000000)
    (s : ByteArray) (hs : s.size ≤ maxLen) (k : Nat) (hk : k < 1000000000) (h : ∀ w', IMp w' b (n + 1) (updI f s k) → w.grownBy w' (some b) → K (a.put o.dst undef) w') :
    Oper.upon Tryz.prog o a K Q ((Sem.run Tryz.prog (Instr.mapUpdate t (.map (some b)) (.string s) (.int .i64 (k : Int))) w).andThen fun _ w' => Result.ok Next.skip w') := by
  obtain ⟨w', hr, h1, h2⟩ := hm.put hn t ht s hs k hk
  rw [hr]
  exact h w' h1 h2
theorem RepOut.near {l : List ByteArray} {i k base : Nat} {W : World} {A : Option Addr} {q : Nat} (h : RepOut l i (i + 1) base W A 0 q) (hk : 0 < k) (hx : NextIs l i k) : RepOut l i k base W A 0 q := by
  obtain ⟨xs, h1, h2⟩ := h
  have hlen : xs.length = 0 := by have := h1.1; omega
  rcases h2 with ⟨h2, h3⟩ | ⟨a, b, g2, q2, e1, e2, e3⟩
  · refine ⟨xs, h1, .inl ⟨h2, fun a b hr hc => ?_⟩⟩
    rcases hc with hc | ⟨rfl, hc⟩
    · exact h3 a b hr (.inl hc)
    · have := (hx.pos hk).2 b hr; omega
  · have := (List.getElem?_eq_some_iff.1 e1).1; omega
theorem RepOut.none_ {l : List ByteArray} {i base : Nat} {W : World} {A : Option Addr} {N q : Nat} (h : RepOut l i (i + 1) base W A N q) (hx : N = 0 → NextIs l i 0) : RepOut l (i + 1) (i + 2) base W A N q := by
  obtain ⟨xs, h1, h2⟩ := h
  rcases h2 with ⟨h2, h3⟩ | h2
  · refine ⟨xs, h1, .inl ⟨h2, fun a b hr hc => ?_⟩⟩
    have hlt := hr.1
    by_cases he : a = i
    · subst he; exact (hx h2).zero rfl b hr
    · exact h3 a b hr (by omega)
  · exact ⟨xs, h1, .inr h2⟩
theorem RepOut.any {l : List ByteArray} {i k i' k' base : Nat} {W : World} {A : Option Addr} {N q : Nat} (h : RepOut l i k base W A N q) (hN : 0 < N) : RepOut l i' k' base W A N q := by
  obtain ⟨xs, h1, h2⟩ := h
  exact ⟨xs, h1, h2.imp (fun h => by omega) id⟩
/-- Rows from i on know the next equal row; the others are at 0. -/
def NxtUp (l : List ByteArray) (i : Nat) (nx : Nat → Nat) : Prop := (∀ p, i ≤ p → p < l.length → NextIs l p (nx p)) ∧ ∀ p, p < i → nx p = 0
theorem NxtUp.lt {l : List ByteArray} {nx : Nat → Nat} (h : NxtUp l 0 nx) {p : Nat} (hp : p < l.length) : nx p < l.length := by
  have h1 := h.1 p (Nat.zero_le _) hp
  by_cases h0 : 0 < nx p
  · exact (h1.pos h0).1.2.1
  · omega
/-- The map knows of each text the first row from i on. -/
def LatUp (l : List ByteArray) (i : Nat) (f : ByteArray → Option Nat) : Prop := (∀ x k, f x = some k → i ≤ k ∧ k < l.length ∧ l[k]? = some x ∧ ∀ j, i ≤ j → l[j]? = some x → k ≤ j) ∧ ∀ x, f x = none → ∀ j, i ≤ j → l[j]? ≠ some x
theorem LatUp.next {l : List ByteArray} {i : Nat} {f : ByteArray → Option Nat} (h : LatUp l (i + 1) f) (hi : i < l.length) : NextIs l i ((f l[i]).getD 0) := by
  have h2 : LaterIs l i f := ⟨fun x k e => by obtain ⟨a, b, c, d⟩ := h.1 x k e; exact ⟨by omega, b, c, fun j hj => d j (by omega)⟩, fun x e j hj => h.2 x e j (by omega)⟩
  exact h2.next (List.getElem?_eq_getElem hi)
theorem LatUp.put {l : List ByteArray} {i : Nat} {f : ByteArray → Option Nat} (h : LatUp l (i + 1) f) (hi : i < l.length) : LatUp l i (updI f l[i] i) := by
  constructor
  · intro y k e
    unfold updI at e
    by_cases hc : y = l[i]
    · rw [if_pos hc] at e
      injection e with e
      subst e
      exact ⟨Nat.le_refl _, hi, by rw [hc]; exact List.getElem?_eq_getElem hi, fun j hj _ => hj⟩
    · rw [if_neg hc] at e
      obtain ⟨h1, h2, h3, h4⟩ := h.1 y k e
      refine ⟨by omega, h2, h3, fun j hj hy => ?_⟩
      by_cases hji : j = i
      · subst hji; rw [List.getElem?_eq_getElem hi] at hy; injection hy with hy; exact absurd hy.symm hc
      · exact h4 j (by omega) hy
  · intro y e j hj hy
    unfold updI at e
    by_cases hc : y = l[i]
    · rw [if_pos hc] at e; cases e
    · rw [if_neg hc] at e
      by_cases hji : j = i
      · subst hji; rw [List.getElem?_eq_getElem hi] at hy; injection hy with hy; exact hc hy.symm
      · exact h.2 y e j (by omega) hy
theorem LatUp.empty (l : List ByteArray) : LatUp l l.length (fun _ => none) := ⟨fun x k e => (by cases e), fun x _ j hj e => by have := (List.getElem?_eq_some_iff.1 e).1; omega⟩
theorem NxtUp.put {l : List ByteArray} {i v : Nat} {nx : Nat → Nat} (h : NxtUp l (i + 1) nx) (hv : NextIs l i v) : NxtUp l i (fun j => if j = i then v else nx j) := by
  refine ⟨fun p hp hpl => ?_, fun p hp => ?_⟩
  · by_cases e : p = i
    · subst e; simpa using hv
    · simp only [e, if_false]; exact h.1 p (by omega) hpl
  · simp only [show p ≠ i by omega, if_false]; exact h.2 p (by omega)
theorem NxtUp.skip {l : List ByteArray} {i : Nat} {nx : Nat → Nat} (h : NxtUp l (i + 1) nx) (hv : NextIs l i 0) : NxtUp l i nx := by
  refine ⟨fun p hp hpl => ?_, fun p hp => h.2 p (by omega)⟩
  by_cases e : p = i
  · subst e; rw [h.2 p (by omega)]; exact hv
  · exact h.1 p (by omega) hpl
def slLenV : Value → Nat
  | .slice _ n _ => n
  | _ => 0
set_option maxRecDepth 20000 in
set_option maxHeartbeats 4000000 in
theorem repeats_any (v : Value) (l : List ByteArray) (w : World) (hv : Strs w v l) (hl : l.length ≤ 800) (hsz : ∀ s ∈ l, s.size ≤ 1048576) : Calls Tryz.prog 58 #[v, .int .i64 1] w fun e w' => ∃ A N q, e = .returned (.slice A N q) ∧ RepPost l w w' A N ∧ Below w.heap.size w w' := by
  obtain ⟨A0, c, rfl, hc, hm, hr⟩ := hv
  unfold maxLen at hm
  have Hsz := Lib.hid (fun k (hk : k < l.length) => (show l[k].size ≤ maxLen from Nat.le_trans (hsz _ (List.getElem_mem hk)) (by unfold maxLen; omega)))
  obtain ⟨i0, hi0, hz0, hs0, hb0⟩ := info_parts info_int2
  clear hsz
  go_enter Tryz.func58, Tryz.ntmps58
  go_wp2_with (at_make; refine wpList_make_full _ rfl _ _ _ rfl w.heap.size 3 i0 _ 1 Tryz.underlying72 hi0 hz0 hs0 _ _ _ _ l.length rfl rfl rfl rfl (by rw [hb0]; omega) (by unfold maxLen; omega) (Nat.le_refl _) ?_; intro w1 hl1 hgr1; (have hB1 := bw_gr (Below.refl w.heap.size w) hgr1))
  rw [Nat.mul_one] at hl1
  have hsi : SI w1 w.heap.size w.heap.size l.length (fun _ => ((0 : Nat) : Int)) := by unfold SI; show w1.ownsRow _ _ _ _ _ ((List.range l.length).map fun _ => Value.int .i64 0); rw [← zeros_si]; exact hl1
  have Hsi := Lib.hid hsi
  have hLl : w.heap.size < w1.heap.size := (World.ownsRow.lt hsi w.heap.size rfl).2
  clear hl1 hsi hgr1
  go_wp2_with fail
  refine upon_mkI ?_
  intro w2 hm0 hb2
  have Hsi2 := Lib.hid (Hsi.out.to hb2)
  have hB2 := bw_to hB1 hb2
  have hm2 : w1.heap.size < w2.heap.size := by obtain ⟨D, h1, _⟩ := hm0; exact h1.lt
  have Hm0 := Lib.hid hm0
  clear Hsi hm0
  go_wp2_with fail
  go_loopw [7] (fun s wr => ∃ (i : Nat) (nx : Nat → Nat) (f : ByteArray → Option Nat), i ≤ l.length ∧ s = .int .i64 ((i : Int) - 1) ∧ SI wr w.heap.size w.heap.size l.length (fun p => ((nx p : Nat) : Int)) ∧ IMp wr w1.heap.size (l.length - i) f ∧ NxtUp l i nx ∧ LatUp l i f ∧ Below w.heap.size w wr ∧ w2.heap.size ≤ wr.heap.size) (fun s _ => (intOf s + 1).toNat)
  case atStart => exact ⟨l.length, fun _ => 0, fun _ => none, Nat.le_refl _, by go_num, Hsi2.out, by rw [Nat.sub_self]; exact Hm0.out, ⟨fun p hp hpl => by omega, fun p _ => rfl⟩, LatUp.empty l, hB2, Nat.le_refl _⟩
  case round =>
    obtain ⟨i, nx, f, hi, rfl, hs, hm, hn, hf, hB, hz⟩ := hrel
    have Hs := Lib.hid hs
    have Hm := Lib.hid hm
    have Hn := Lib.hid hn
    have Hf := Lib.hid hf
    clear hs hm hn hf
    by_cases hpos : 0 < i
    · obtain ⟨d, rfl⟩ : ∃ d, i = d + 1 := ⟨i - 1, by omega⟩
      rw [show ((d + 1 : Nat) : Int) - 1 = (d : Int) by omega]
      have hdl : d < l.length := by omega
      have hdz : (d : Int) < (l.length : Int) := by omega
      obtain ⟨ad, rfl, hC⟩ := strs_el hr hdl
      have hC0 := hC wr hB
      have hsk := Hsz.out d hdl
      have Hnx := Lib.hid (Hf.out.next hdl)
      have Hput := Lib.hid (Hf.out.put hdl)
      obtain ⟨x, hx⟩ : ∃ x, x = l[d] := ⟨_, rfl⟩
      have HC := Lib.hid hC
      rw [← hx] at hC0 hsk Hnx Hput HC
      have hlk := Hm.out.look 114 Tryz.underlying114 x hsk
      have Hsk := Lib.hid hsk
      clear hC hx hsk
      cases e : f x with
      | none =>
        rw [e] at hlk Hnx
        simp only [Option.getD_none, Option.isSome_none] at hlk
        clear e
        go_wp2_with fail
        refine upon_insI Tryz.underlying114 Hm.out (by omega) x Hsk.out d (by omega) ?_
        intro w3 hm3 hg3
        have hB3 := hB.grown hg3 hB.size (fun k e => by cases e; omega)
        have hz3 := hg3.size
        have hs3 : SI w3 w.heap.size w.heap.size l.length (fun p => ((nx p : Nat) : Int)) := World.ownsRow.kept Hs.out hg3 (.inr (by simp [Value.ownBlock]; omega))
        clear hlk hC0
        go_wp2_with fail
        exact ⟨⟨d, nx, _, by omega, by go_num, hs3, by (first | exact hm3 | (rw [show l.length - d = l.length - (d + 1) + 1 by omega]; exact hm3)), Hn.out.skip Hnx.out, Hput.out, hB3, by omega⟩, by simp [intOf] <;> omega⟩
      | some k =>
        rw [e] at hlk Hnx
        simp only [Option.getD_some, Option.isSome_some] at hlk
        have Hkl := Lib.hid ((Hf.out.1 x k e).2.1)
        clear e
        have hfr := Hs.out.free d
        have hcl := Hs.out.cell hdl
        go_upto_region 9 with fail
        have hg4 := gb_set (gb_refl wr w.heap.size) d (.int .i64 (k : Int))
        have hB4 := grow_setB9 (j := d) hB (Nat.le_refl _) (.int .i64 (k : Int))
        have Hm4 := Lib.hid (Hm.out.kept hg4 (by simp; omega))
        have hc4 := HC.out _ hB4
        have hs4 : SI (wr.setCell ⟨w.heap.size, d, none⟩ (.int .i64 (k : Int))) w.heap.size w.heap.size l.length (fun p => (((if p = d then k else nx p) : Nat) : Int)) := by
          have := Hs.out.set hdl (k : Int)
          have e : (fun j => if j = d then (k : Int) else ((nx j : Nat) : Int)) = (fun p => (((if p = d then k else nx p) : Nat) : Int)) := by funext j; split <;> rfl
          rw [e] at this
          exact this
        have Hs4 := Lib.hid hs4
        have hz4 := hg4.size
        generalize wr.setCell ⟨w.heap.size, d, none⟩ (.int .i64 (k : Int)) = w4 at Hm4 hc4 Hs4 hB4 hz4 ⊢
        clear hs4 hg4 hfr hcl hlk hC0
        go_wp2_with fail
        refine upon_insI Tryz.underlying114 Hm4.out (by omega) x Hsk.out d (by omega) ?_
        intro w3 hm3 hg3
        have hB3 := hB4.grown hg3 hB4.size (fun k e => by cases e; omega)
        have hz3 := hg3.size
        have hs3 : SI w3 w.heap.size w.heap.size l.length (fun p => (((if p = d then k else nx p) : Nat) : Int)) := World.ownsRow.kept Hs4.out hg3 (.inr (by simp [Value.ownBlock]; omega))
        go_wp2_with fail
        exact ⟨⟨d, _, _, by omega, by go_num, hs3, by (first | exact hm3 | (rw [show l.length - d = l.length - (d + 1) + 1 by omega]; exact hm3)), Hn.out.put Hnx.out, Hput.out, hB3, by omega⟩, by simp [intOf] <;> omega⟩
    · obtain rfl : i = 0 := by omega
      have Hn0 := Lib.hid Hn.out
      clear Hm Hf
      go_upto_region 12 with fail
      refine box1 (C := fun W => Code.wp _ _ _ _ W) ?_
      intro w5 hw5 k5 hB5
      have hown0 : w5.ownsRow wr.heap.size 72 1 (.slice (some ⟨wr.heap.size, 0, none⟩) 0 0) 0 [] := own_of_heap (cs := #[]) k5 (Nat.le_refl _) (by unfold maxLen; omega) rfl
      have Hr0 := Lib.hid (show RepOut l 0 1 wr.heap.size w5 (some ⟨wr.heap.size, 0, none⟩) 0 0 from ⟨[], hown0, .inl ⟨rfl, NoUp.start l⟩⟩)
      have hzr : w.heap.size < wr.heap.size := by omega
      have HL := Lib.hid (fun W (hW : Below wr.heap.size wr W) => Hs.out.low hW hzr)
      have hB05 := bw_to hB hw5
      have HBw := Lib.hid (fun W (hW : Below wr.heap.size wr W) => bw_to hB hW)
      clear Hs hown0 k5
      obtain ⟨ws, rfl⟩ : ∃ ws : World, ws = wr := ⟨_, rfl⟩
      go_loopw [10, 47] (fun o s wq => ∃ (i N : Nat) (A : Option Addr) (q : Nat), i ≤ l.length ∧ s = .int .i64 (i : Int) ∧ o = .slice A N q ∧ N ≤ 1 ∧ RepOut l i (i + 1) ws.heap.size wq A N q ∧ Below ws.heap.size ws wq) (fun _ s _ => l.length - (intOf s).toNat)
      case atStart => exact ⟨0, 0, _, 0, by omega, rfl, rfl, by omega, Hr0.out, hw5⟩
      case round =>
        obtain ⟨i, N, A, q, hi, rfl, rfl, hN, hO, hBq⟩ := hrel
        have Ho := Lib.hid hO
        clear hO
        by_cases hlt : i < l.length
        · have hli : (i : Int) < (l.length : Int) := by omega
          have hcl := (HL.out _ hBq).cell hlt
          have hnl := Hn0.out.lt hlt
          have Hni := Lib.hid (Hn0.out.1 i (Nat.zero_le _) hlt)
          go_wp2_with fail
          obtain ⟨wo, rfl⟩ : ∃ wo : World, wo = wr := ⟨_, rfl⟩
          go_loopw [10, 12] (fun o s wq => ∃ (k N : Nat) (A : Option Addr) (q : Nat), k < l.length ∧ s = .int .i64 (k : Int) ∧ o = .slice A N q ∧ N ≤ 1 ∧ (N = 0 → k = nx i) ∧ RepOut l i (i + 1) ws.heap.size wq A N q ∧ Below ws.heap.size ws wq) (fun o _ _ => 1 - slLenV o)
          case atStart => exact ⟨nx i, N, A, q, hnl, rfl, rfl, hN, fun _ => rfl, Ho.out, hBq⟩
          case round =>
            clear hBq Ho hN hcl
            obtain ⟨k, N, A, q, hk, rfl, rfl, hN, hNk, hO, hBq⟩ := hrel
            have Ho := Lib.hid hO
            clear hO
            by_cases hk0 : 0 < k
            · have hkz : (0 : Int) < k := by omega
              by_cases hN0 : N = 0
              · subst hN0
                obtain rfl := hNk rfl
                have hO2 := Ho.out.near hk0 Hni.out
                have Hrp := Lib.hid ((Hni.out.pos hk0).1)
                obtain ⟨xs, hs, h2⟩ := hO2
                have Hs := Lib.hid hs
                have H2 := Lib.hid h2
                have hwd := hBq.size
                clear hs h2 hNk
                go_wp2_with (at_builtin; go_must (refine wpList_app_at _ rfl _ _ _ rfl ws.heap.size 72 _ 1 24 Tryz.underlying87 info_islS2 rfl (by omega) (Hs.out.alloc _) [.slice (some ⟨_, 0, none⟩) 2 2] rfl rfl rfl (by simp) (one_mem rfl) (by omega) (by omega) (by simp; omega) ?_); intro v8 w8 hown8 hb8 hg8 _; (have hB8 := (bw_al hBq (.cells #[.int .i64 (i : Int), .int .i64 ((nx i : Nat) : Int)] 3)).trans hb8); (have hc8 := (HL.out _ hB8).cell hk))
                obtain ⟨A8, q8, e8, _⟩ := sl_of_own hown8
                subst e8
                have hal := bw_al (Below.refl wr.heap.size wr) (.cells #[.int .i64 (i : Int), .int .i64 ((nx i : Nat) : Int)] 3)
                have hO8 := RepOut.add (N := 0) (l := l) (i := i) (k := nx i) (own_to Hs.out hal) (H2.out.imp (fun h => ⟨rfl, h.2⟩) (fun ⟨a, b, g2, q2, e1, e2, e3⟩ => ⟨a, b, g2, q2, e1, e2, own_to e3 hal⟩)) Hrp.out (own_of_heap (base := ws.heap.size) (n := 2) (size := 1) (heap_new wr _) (by omega) (by unfold maxLen; omega) rfl) hown8 hg8
                exact ⟨⟨_, _, _, ⟨nx (nx i), Hn0.out.lt hk, rfl, 1, A8, q8, rfl, by omega, by omega, hO8.any (by omega)⟩, rfl, rfl, rfl⟩, by simp [slLenV]⟩
              · obtain rfl : N = 1 := by omega
                go_wp2_with fail
                go_ret
                exact ⟨A, 1, q, rfl, Ho.out.post (.inr (by omega)) (by omega), HBw.out _ hBq⟩
            · obtain rfl : k = 0 := by omega
              have HO2 := Lib.hid (Ho.out.none_ (fun h => by have := hNk h; rw [← this] at Hni; exact Hni.out))
              go_wp2_with fail
              exact ⟨⟨i + 1, N, A, q, by omega, by go_num, rfl, hN, HO2.out, hBq⟩, by simp [intOf] <;> omega⟩
        · obtain rfl : i = l.length := by omega
          go_wp2_with fail
          go_ret
          exact ⟨A, N, q, rfl, Ho.out.post (.inl (Nat.le_refl _)) (by omega), HBw.out _ hBq⟩
end Go.Proofs.YtbdioapgekaejaaGreat

/- The rings of a group hold each row once: a plain account. -/
namespace Go.Proofs.YtbdioapgekaejaaGreat
open Go Go.RowKit
set_option linter.unusedVariables false
set_option linter.unusedSimpArgs false

theorem iter_mem {f : ByteArray → ByteArray} {G : List ByteArray} (hf : ∀ x ∈ G, f x ∈ G) {h : ByteArray} (hh : h ∈ G) : ∀ j, iterB f h j ∈ G
  | 0 => hh
  | j + 1 => hf _ (iter_mem hf hh j)
theorem iter_pull {f : ByteArray → ByteArray} {G S : List ByteArray} (hf : ∀ x ∈ G, f x ∈ G) (hS : ∀ x ∈ G, f x ∈ S → x ∈ S) {h : ByteArray} (hh : h ∈ G) : ∀ j, iterB f h j ∈ S → h ∈ S
  | 0, e => e
  | j + 1, e => iter_pull hf hS hh j (hS _ (iter_mem hf hh j) e)
theorem ring_mem {f : ByteArray → ByteArray} {h x : ByteArray} {R : Nat} : x ∈ ringL f h R ↔ ∃ j, j < R ∧ iterB f h j = x := by
  unfold ringL
  rw [List.mem_map]
  constructor
  · rintro ⟨j, h1, h2⟩; exact ⟨j, List.mem_range.1 h1, h2⟩
  · rintro ⟨j, h1, h2⟩; exact ⟨j, List.mem_range.2 h1, h2⟩
theorem ring_nodup {f : ByteArray → ByteArray} {G : List ByteArray} (hf : ∀ x ∈ G, f x ∈ G) (hi : ∀ x ∈ G, ∀ y ∈ G, f x = f y → x = y) {h : ByteArray} (hh : h ∈ G) {R : Nat} (hR : IsRing f h R) : (ringL f h R).Nodup := by
  have key : ∀ i d, iterB f h i = iterB f h (i + d) → h = iterB f h d := fun i => by
    induction i with
    | zero => intro d e; rw [Nat.zero_add] at e; exact e
    | succ i ih =>
      intro d e
      rw [Nat.succ_add] at e
      exact ih d (hi _ (iter_mem hf hh i) _ (iter_mem hf hh (i + d)) e)
  unfold ringL
  rw [List.nodup_iff_pairwise_ne, List.pairwise_map]
  refine (List.pairwise_lt_range (n := R)).imp_of_mem ?_
  intro i j h1 h2 hlt e
  have hj := List.mem_range.1 h2
  obtain ⟨d, rfl⟩ : ∃ d, j = i + d := ⟨j - i, by omega⟩
  exact hR.2.2 d (by omega) (by omega) (key i d e).symm
theorem rgs_sum {f : ByteArray → ByteArray} {RR : ByteArray → Nat} {G : List ByteArray} (hd : G.Nodup) (hf : ∀ x ∈ G, f x ∈ G) (hi : ∀ x ∈ G, ∀ y ∈ G, f x = f y → x = y) (hR : ∀ x ∈ G, IsRing f x (RR x)) (hn : ∀ x ∈ G, (ringL f x (RR x)).Nodup) : ∀ (l seen : List ByteArray), (∀ x ∈ l, x ∈ G) → (∀ x ∈ G, x ∈ l ∨ x ∈ seen) → seen.Nodup → (∀ x ∈ seen, x ∈ G) → (∀ x ∈ G, f x ∈ seen → x ∈ seen) → ((rgs f RR l seen).map List.length).sum + seen.length = G.length
  | [], seen, _, hc, hs, hg, _ => by
    rw [rgs]
    have hp : seen.Perm G := (List.perm_ext_iff_of_nodup hs hd).2 (fun x => ⟨hg x, fun h => (hc x h).resolve_left (by simp)⟩)
    simpa using hp.length_eq
  | h :: t, seen, hl, hc, hs, hg, hb => by
    rw [rgs]
    have hhG := hl h (by simp)
    by_cases hm : h ∈ seen
    · rw [if_pos hm]
      refine rgs_sum hd hf hi hR hn t seen (fun x hx => hl x (by simp [hx])) (fun x hx => ?_) hs hg hb
      rcases hc x hx with h1 | h1
      · rcases List.mem_cons.1 h1 with rfl | h1
        · exact .inr hm
        · exact .inl h1
      · exact .inr h1
    · rw [if_neg hm]
      have ih := rgs_sum hd hf hi hR hn t (seen ++ ringL f h (RR h)) (fun x hx => hl x (by simp [hx])) (fun x hx => ?_) ?_ (fun x hx => ?_) (fun x hx hx2 => ?_)
      · rw [List.map_cons, List.sum_cons, ringL_len]
        rw [List.length_append, ringL_len] at ih
        omega
      · rcases hc x hx with h1 | h1
        · rcases List.mem_cons.1 h1 with rfl | h1
          · exact .inr (List.mem_append.2 (.inr (ring_mem.2 ⟨0, by have := (hR _ hhG).1; omega, rfl⟩)))
          · exact .inl h1
        · exact .inr (List.mem_append.2 (.inl h1))
      · refine List.nodup_append.2 ⟨hs, hn h hhG, ?_⟩
        intro a ha b hb2 e
        obtain ⟨j, _, hj⟩ := ring_mem.1 hb2
        refine hm (iter_pull hf hb hhG j ?_)
        rw [hj, ← e]; exact ha
      · rcases List.mem_append.1 hx with h1 | h1
        · exact hg x h1
        · obtain ⟨j, _, rfl⟩ := ring_mem.1 h1
          exact iter_mem hf hhG j
      · rcases List.mem_append.1 hx2 with h1 | h1
        · exact List.mem_append.2 (.inl (hb x hx h1))
        · obtain ⟨j, hj, e⟩ := ring_mem.1 h1
          refine List.mem_append.2 (.inr ?_)
          cases j with
          | succ j =>
            have e2 := hi _ (iter_mem hf hhG j) x hx e
            exact ring_mem.2 ⟨j, by omega, e2⟩
          | zero =>
            have h1 := (hR h hhG).1
            have h2 := (hR h hhG).2.1
            obtain ⟨r, hr⟩ : ∃ r, RR h = r + 1 := ⟨RR h - 1, by omega⟩
            rw [hr] at h2
            have e2 := hi _ (iter_mem hf hhG r) x hx (by show iterB f h (r + 1) = f x; rw [h2]; exact e)
            exact ring_mem.2 ⟨r, by omega, e2⟩
theorem rgs_from (nx : ByteArray → ByteArray) (RR : ByteArray → Nat) : ∀ (l seen : List ByteArray), ∀ x ∈ rgs nx RR l seen, ∃ h ∈ l, x = ringL nx h (RR h)
  | [], seen, x, hx => by simp [rgs] at hx
  | h :: t, seen, x, hx => by
    rw [rgs] at hx
    split at hx
    · obtain ⟨y, hy, e⟩ := rgs_from nx RR t _ x hx
      exact ⟨y, List.mem_cons_of_mem _ hy, e⟩
    · rcases List.mem_cons.1 hx with rfl | hx
      · exact ⟨h, List.mem_cons_self .., rfl⟩
      · obtain ⟨y, hy, e⟩ := rgs_from nx RR t _ x hx
        exact ⟨y, List.mem_cons_of_mem _ hy, e⟩
end Go.Proofs.YtbdioapgekaejaaGreat

/- The law on rings: what is asked of a touch along a ring. -/
namespace Go.Proofs.YtbdioapgekaejaaGreat
open Go Go.RowKit
set_option linter.unusedVariables false
set_option linter.unusedSimpArgs false

set_option maxHeartbeats 2000000 in
theorem isRound_yes (m : Mt) (v : Value) (k : Cl) (t : ByteArray) (n : Nat) (w : World) (hg : CGood m k n) (hok : callsB m k = true) (hm : MethAt w m v) (hs : MtSmall m) (hk : ClSmall k) (ht : touchB t.data.toList = true) (htz : t.size ≤ maxLen) : Calls Tryz.prog 13 #[m.v v, k.v, .string t] w fun e w' => e = .returned (.tuple #[.bool (decide (endT m k t = roundsB n)), .bool true]) ∧ Below w.heap.size w w' := by
  have HG := Lib.hid (fun W (hW : Below w.heap.size w W) => goodFor_any m v k t W (hm.to hW) hs hk htz)
  have HC := Lib.hid (fun W (hW : Below w.heap.size w W) => comesRound_any m v k t n W hg (hm.to hW).1 ht)
  have eg : (callsB m k && touchB t.data.toList) = true := by rw [hok, ht]; rfl
  rw [eg] at HG
  obtain ⟨d, hd⟩ : ∃ d, d = decide (endT m k t = roundsB n) := ⟨_, rfl⟩
  rw [← hd] at HC ⊢
  obtain ⟨A, c, hv⟩ := hm.form
  subst hv
  clear hm hg hok ht eg hd
  unfold Mt.v Cl.v at *
  go_enter Tryz.func13, Tryz.ntmps13
  go_wp2_with fail
  refine box2 (C := fun W => Calls _ _ _ W _) ?_
  intro wb hw k1 k2 hB0
  have R1 := boxRule k1
  have R2 := boxRule k2
  refine (HG.out _ hw).mono ?_; rintro e w1 ⟨rfl, hb1⟩
  have hB1 := bw_to hw hb1
  go_wp2_with fail
  refine (HC.out _ hB1).mono ?_; rintro e w2 ⟨rfl, hb2⟩
  have hB2 := bw_to hB1 hb2
  go_wp2_with fail
  go_ret2
  exact ⟨rfl, hB2⟩
/-- A row of a row of rows, in every later world. -/
theorem sv_el {w : World} {base : Nat} {A : Option Addr} {c : Nat} {L : List (List ByteArray)} {vs : List Value} (h : OwnSV w base (.slice A L.length c) L vs) {j : Nat} (hj : j < L.length) : ∃ g u, A = some ⟨g, 0, none⟩ ∧ ∀ W, Below w.heap.size w W → W.cell? ⟨g, j, none⟩ = some u ∧ Strs W u L[j] := by
  have hl := h.len
  rcases h.row with ⟨e, e2⟩ | ⟨g, c2, e, _, _⟩
  · subst e2
    exact absurd hj (Nat.not_lt_zero _)
  · injection e with ea eb ec
    subst ea ec
    refine ⟨g, vs[j]'(by omega), rfl, fun W hW => ⟨(h.to hW).at hj (by omega), strs_of_own ((h.to hW).2 j hj (by omega))⟩⟩
end Go.Proofs.YtbdioapgekaejaaGreat

/- A list without equal rows; the fault of a touch, both sides. -/
namespace Go.Proofs.YtbdioapgekaejaaGreat
open Go Go.RowKit
set_option linter.unusedVariables false
set_option linter.unusedSimpArgs false

set_option maxRecDepth 10000 in
set_option maxHeartbeats 2000000 in
theorem goodRows_yes (v : Value) (l : List ByteArray) (n : Nat) (w : World) (hv : Strs w v l) (hn : n ≤ 8) (h3 : 3 ≤ n) (hp : ∀ x ∈ l, PermR n x) (hl : l.length ≤ 800) : Calls Tryz.prog 46 #[v] w fun e w' => e = .returned (.bool true) ∧ Below w.heap.size w w' := by
  have Hp := Lib.hid (fun (k : Nat) (hk : k < l.length) => (perm_in hn (hp _ (List.getElem_mem hk))).1)
  have Hr := Lib.hid (fun (k : Nat) (hk : k < l.length) W => isRowOf_yes n l[k] W hn h3 (hp _ (List.getElem_mem hk)))
  obtain ⟨A, c, rfl, hc, hm, hr⟩ := hv
  unfold maxLen at hm
  clear hp
  have hle : ¬ (800 : Int) < (l.length : Int) := by omega
  go_enter Tryz.func46, Tryz.ntmps46
  go_wp2_with fail
  go_loopw [10] (fun i wr => ∃ k : Nat, k ≤ l.length ∧ i = .int .i64 k ∧ Below w.heap.size w wr) (fun i _ => l.length - (intOf i).toNat)
  case atStart => exact ⟨0, by omega, rfl, Below.refl _ _⟩
  case round =>
    obtain ⟨k, hk, rfl, hB⟩ := hrel
    by_cases hlt : k < l.length
    · obtain ⟨ad, rfl, hC⟩ := strs_el hr hlt
      obtain ⟨ad', e', hC0⟩ := strs_el hr (k := 0) (by omega)
      injection e' with e'
      subst e'
      have h0 := Hp.out 0 (by omega)
      have hr1 := Lib.hid (fun W => Hr.out k hlt W)
      have hCk := hC wr hB
      have hc0 := hC0 wr hB
      rw [add_zero'] at hc0
      obtain ⟨x, hx⟩ : ∃ x, x = l[k] := ⟨_, rfl⟩
      obtain ⟨y, hy⟩ : ∃ y, y = l[0]'(by omega) := ⟨_, rfl⟩
      rw [← hx] at hr1 hCk
      rw [← hy] at h0 hc0
      have h0z : (y.size : Int) = (n : Int) := by rw [h0]
      have h0l : (0 : Int) < (l.length : Int) := by omega
      clear hC hC0 hx hy h0
      go_wp2_with (go_at_call 82; (first | rw [h0z] | skip); refine (hr1.out wr).mono ?_; rintro e w1 ⟨rfl, rfl⟩)
      exact ⟨⟨k + 1, by omega, by go_num, hB⟩, by simp [intOf] <;> omega⟩
    · obtain rfl : k = l.length := by omega
      go_wp2_with fail
      go_ret
      exact ⟨rfl, hB⟩
set_option maxHeartbeats 1000000 in
theorem isTrueList_yes (v : Value) (l : List ByteArray) (n : Nat) (w : World) (hv : Strs w v l) (hn : n ≤ 8) (h3 : 3 ≤ n) (hp : ∀ x ∈ l, PermR n x) (hl : l.length ≤ 800) : Calls Tryz.prog 12 #[v] w fun e w' => e = .returned (.tuple #[.bool (decide l.Nodup), .bool true]) ∧ Below w.heap.size w w' := by
  have Hg := Lib.hid (fun W (hW : Below w.heap.size w W) => goodRows_yes v l n W (hv.to hW) hn h3 hp hl)
  have Ht := Lib.hid (fun W (hW : Below w.heap.size w W) => isTrue_any v l W (hv.to hW) (by omega) (fun s hs => by have := (perm_in hn (hp _ hs)).1; omega))
  clear hv hp
  go_enter Tryz.func12, Tryz.ntmps12
  go_wp2_with fail
  refine (Hg.out _ (Below.refl _ _)).mono ?_; rintro e w1 ⟨rfl, hb1⟩
  go_wp2_with fail
  refine (Ht.out _ hb1).mono ?_; rintro e w2 ⟨rfl, hb2⟩
  go_wp2_with fail
  go_ret2
  exact ⟨rfl, bw_to hb1 hb2⟩
end Go.Proofs.YtbdioapgekaejaaGreat
