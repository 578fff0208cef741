/- Contracts: where a change moves a bell; both sides. -/
import Derived.Test.YtimeecimaokldaaGreatDoorPk13
import Derived.Test.YtimeecimaokldaaGreatDoorPk18
import Derived.Test.YtimeecimaokldaaGreatDoorPk1
import Derived.StillTailTactics
import Derived.BigQuiet
namespace Go.Proofs.YtimeecimaokldaaGreatDoor
open Go Go.RowKit
set_option linter.unusedVariables false
set_option linter.unusedSimpArgs false

set_option maxHeartbeats 2000000 in
theorem l5Place_any (r : ByteArray) (i k : Nat) (w : World) (hr : r.size ≤ 8) (hin : ∀ p (h : p < r.size), 49 ≤ r[p].toNat) (hk : k < r.size) (hki : r[k].toNat = i + 48) (hno : ∀ p (h : p < r.size), p < k → r[p].toNat ≠ i + 48) : Calls Tryz.prog 120 #[.string r, .int .i64 i] w fun e w' =>
    e = .returned (.int .i64 ((k : Int) + 1)) ∧ w = w' := by
  have Hat := Lib.hid (fun (q : Nat) W (hq : q < r.size) => l1At_any r q W (by unfold maxLen; omega) hq (by have := hin q hq; omega))
  have Hno := Lib.hid hno
  have Hki := Lib.hid hki
  clear hin hno hki
  go_enter Tryz.func120, Tryz.ntmps120
  go_wp2_with fail
  go_loopw [5] (fun x wr => ∃ q : Nat, q ≤ k ∧ x = .int .i64 ((q : Int) + 1) ∧ wr = w) (fun x _ => r.size + 1 - (intOf x).toNat)
  case atStart => exact ⟨0, by omega, rfl, rfl⟩
  case round =>
    obtain ⟨q, hq, rfl, rfl⟩ := hrel
    have hqr : q < r.size := by omega
    have hqi : ((q : Int) + 1 ≤ (r.size : Int)) := by omega
    have Hq := Lib.hid (fun W => Hat.out q W hqr)
    have wq : IntKind.i64.wrap ((q : Int) + 1 + 1) = (q : Int) + 1 + 1 := IntWalk.i64_in _ ⟨by omega, by omega⟩
    by_cases e : q = k
    · subst e
      have hd : ((r[q].toNat : Int) - 48 == (i : Int)) = true := by have := Hki.out; simp; omega
      obtain ⟨x, hx⟩ : ∃ x, x = ((r[q].toNat : Int) - 48) := ⟨_, rfl⟩
      simp only [← hx] at Hq hd
      clear hx Hat
      go_wp2_with (go_at_call 141; refine (Hq.out _).mono ?_; rintro e w3 ⟨rfl, rfl⟩)
      go_ret
      exact ⟨rfl, rfl⟩
    · have hne := Hno.out q hqr (by omega)
      have hd : ((r[q].toNat : Int) - 48 == (i : Int)) = false := by simp; omega
      obtain ⟨x, hx⟩ : ∃ x, x = ((r[q].toNat : Int) - 48) := ⟨_, rfl⟩
      simp only [← hx] at Hq hd
      clear hx Hat hne
      go_wp2_with (go_at_call 141; refine (Hq.out _).mono ?_; rintro e w3 ⟨rfl, rfl⟩)
      exact ⟨⟨q + 1, by omega, rfl, trivial⟩, by simp [intOf]; omega⟩
theorem l24Moved_any (n p : Nat) (c : ByteArray) (w : World) (hn : n ≤ 8) (hs : c.size ≤ 1048576) (h1 : 1 ≤ p) (h2 : p ≤ n) : Calls Tryz.prog 167 #[.int .i64 n, .string c, .int .i64 p] w fun e w' =>
    e = .returned (.int .i64 (movB n c p)) ∧ Below w.heap.size w w' := by
  have hri := ch_in hn c
  have hm := movB_rng c h1 h2
  have hz := hri.1
  have hin : ∀ q (h : q < (chB n c).size), 49 ≤ (chB n c)[q].toNat := fun q h => by have := (hri.at_ h).1; omega
  have hk : movB n c p - 1 < (chB n c).size := by rw [hz]; omega
  have hki : (chB n c)[movB n c p - 1].toNat = p + 48 := by rw [ch_at hn c hm.1 hm.2 hk, movB_inv]
  have hno : ∀ q (h : q < (chB n c).size), q < movB n c p - 1 → (chB n c)[q].toNat ≠ p + 48 := fun q h hq e => by
    have h3 := ch_at (y := q + 1) hn c (by omega) (by omega) h
    have h4 : movB n c (q + 1) = p := by
      have : (chB n c)[q + 1 - 1].toNat = (chB n c)[q].toNat := rfl
      omega
    have h5 := movB_inv (n := n) c (q + 1)
    rw [h4] at h5
    omega
  have HP := Lib.hid (fun W => l5Place_any (chB n c) p (movB n c p - 1) W (by omega) hin hk hki hno)
  have e0 : (((movB n c p - 1 : Nat) : Int) + 1) = (movB n c p : Int) := by omega
  rw [e0] at HP
  have HR := Lib.hid (fun W => l2Row_any n c W hn hs)
  clear hno hki hk hin hz hm hri e0
  go_enter Tryz.func167, Tryz.ntmps167
  go_wp2_with fail
  refine (HR.out _).mono ?_; rintro e w1 ⟨rfl, hb1⟩
  go_wp2_with (go_at_call 120; refine (HP.out _).mono ?_; rintro e w3 ⟨rfl, rfl⟩)
  go_ret
  exact ⟨rfl, hb1⟩
set_option maxHeartbeats 2000000 in
theorem movedTo_any (n p : Nat) (c : ByteArray) (w : World) (hn : n ≤ 8) (hs : c.size ≤ 1048576) (hok : chOk c.data.toList) (h1 : 1 ≤ p) (h2 : p ≤ n) : Calls Tryz.prog 174 #[.int .i64 n, .string c, .int .i64 p] w fun e w' =>
    e = .returned (.int .i64 (movB n c p)) ∧ Below w.heap.size w w' := by
  have HS := Lib.hid (fun W => swapsOf_any n c W hn hs hok)
  obtain ⟨L, hL⟩ : ∃ L, L = swapsW c.data.toList n 1 := ⟨_, rfl⟩
  have hq : ∀ q ∈ L, 1 ≤ q ∧ q < n := by rw [hL]; exact swaps_in
  have HM : Hid (movB n c p = movL L p) := Lib.hid (by rw [hL]; rfl)
  have HQ := Lib.hid hq
  have hL8 : L.length ≤ 8 := by rw [hL]; have := swapsW_len (c := c.data.toList) (n := n) (n - 1) 1 (by omega); omega
  simp only [← hL] at HS
  clear hL hq hok
  go_enter Tryz.func174, Tryz.ntmps174
  go_wp2_with fail
  refine (HS.out _).mono ?_; rintro e w1 ⟨r, rfl, hown, hb1⟩
  obtain ⟨A1, c1, rfl⟩ := nb_sliceE hown
  have Hown := Lib.hid hown
  clear hown
  go_wp2_with fail
  go_loopw [13] (fun x wr => ∃ q : Nat, q ≤ L.length ∧ x = .int .i64 q ∧ movL L p = movL (L.drop q) p ∧ wr = w1) (fun x _ => L.length - (intOf x).toNat)
  case atStart => exact ⟨0, by omega, rfl, rfl, rfl⟩
  case round =>
    obtain ⟨q, hq, rfl, hm, rfl⟩ := hrel
    by_cases hlt : q < L.length
    · obtain ⟨ad, rfl, hd⟩ := nats_el Hown.out hlt
      have hx := HQ.out _ (List.getElem_mem hlt)
      rw [List.drop_eq_getElem_cons hlt] at hm
      obtain ⟨x, hxe⟩ : ∃ x, x = L[q] := ⟨_, rfl⟩
      rw [← hxe] at hd hx hm
      have Hm := Lib.hid hm
      clear hm hxe
      have w2 : IntKind.i64.wrap ((x : Int) + 1) = (x : Int) + 1 := IntWalk.i64_in _ ⟨by omega, by omega⟩
      by_cases e1 : p = x
      · have d1 : ((p : Int) == (x : Int)) = true := by simp; omega
        have He : Hid (movL L p = x + 1) := Lib.hid (by rw [Hm.out, movL, if_pos e1])
        go_wp2_with fail
        go_ret
        exact ⟨by rw [HM.out, He.out]; rfl, hb1⟩
      · have d1 : ((p : Int) == (x : Int)) = false := by simp; omega
        by_cases e2 : p = x + 1
        · have d2 : ((p : Int) == (x : Int) + 1) = true := by simp; omega
          have He : Hid (movL L p = x) := Lib.hid (by rw [Hm.out, movL, if_neg e1, if_pos e2])
          clear e1 e2
          go_wp2_with fail
          go_ret
          exact ⟨by rw [HM.out, He.out]; rfl, hb1⟩
        · have d2 : ((p : Int) == (x : Int) + 1) = false := by simp; omega
          have He : Hid (movL L p = movL (L.drop (q + 1)) p) := Lib.hid (by rw [Hm.out, movL, if_neg e1, if_neg e2])
          clear e1 e2
          go_wp2_with fail
          exact ⟨⟨q + 1, by omega, by go_num, He.out, trivial⟩, by simp [intOf]; omega⟩
    · obtain rfl : q = L.length := by omega
      have He : Hid (movL L p = p) := Lib.hid (by rw [hm, List.drop_length]; rfl)
      clear hm
      go_wp2_with fail
      go_ret
      exact ⟨by rw [HM.out, He.out]; rfl, hb1⟩
end Go.Proofs.YtimeecimaokldaaGreatDoor

/- A region that draws its order and ends in one forced order (a store behind calls): its head is walked once, its calls leaving all below a base world as it was. -/
namespace Go.Proofs.YtimeecimaokldaaGreatDoor
open Go Go.RowKit
set_option linter.unusedVariables false
set_option linter.unusedSimpArgs false

/-- Whatever order is picked, the operations ahead of number n come up first. -/
def headQ (P : Program) (md : Region.Mode) (ops : Array Oper) (C : World → Prop) (n : Nat) (L : Array Bool → Act → Prop) : Nat → Array Bool → Act → Prop
  | 0, done, a => L done a
  | f + 1, done, a => Region.ready md ops done ≠ [] ∧ ∀ i ∈ Region.ready md ops done, i < n ∧ qOp P ops C i (headQ P md ops C n L f (done.setIfInBounds i true)) a
theorem head_any {P : Program} {md : Region.Mode} {ops : Array Oper} {C : World → Prop} {n g : Nat} {L : Array Bool → Act → Prop} {Q' : Exit → Act → World → Prop} (hL : ∀ done a w, C w → L done a → wpAny P md ops Q' g done a w) :
    ∀ (f : Nat) (done : Array Bool) (a : Act) (w : World), C w → headQ P md ops C n L f done a → wpAny P md ops Q' (f + g) done a w
  | 0, done, a, w, hw, h => by rw [Nat.zero_add]; exact hL _ _ _ hw h
  | f + 1, done, a, w, hw, h => by
    have e : f + 1 + g = (f + g) + 1 := by omega
    rw [e]
    exact ⟨fun h0 => absurd h0 h.1, fun i hi => wpOp_of_qOp hw (fun a' w' hw' h' => head_any hL f _ a' w' hw' h') (h.2 i hi).2⟩
theorem head_first {P : Program} {md : Region.Mode} {ops : Array Oper} {C : World → Prop} {n i : Nat} {oi : Oper} {v : Value} {L : Array Bool → Act → Prop} (hi : ops[i]? = some oi) (hsel : ∀ (j : Nat) (o : Oper) cs b, ops[j]? = some o → o.op ≠ .select cs b)
    (hs : Region.sinkB md ops n = true) (hc : Region.chainB md ops n = true) (hn : n < ops.size) (hin : i < n) (hdone : ∀ done a, L done a → ∀ j ∈ Region.ready md ops done, n ≤ j) (f : Nat) :
    ∀ (done : Array Bool) (a : Act), HeadInv md ops n done → (∀ j oj, ops[j]? = some oj → j ≠ i → done.getD j true = false → (∀ e ∈ oj.after, Region.binds md e = true → e.on ≠ i) → oi.apart ops oj = true) →
      i ∈ Region.ready md ops done → YieldsIn P ops C oi v a → headQ P md ops C n L f (done.setIfInBounds i true) (a.put oi.dst v) → headQ P md ops C n L (f + 1) done a := by
  induction f with
  | zero =>
    intro done a inv _ hr hy H
    refine ⟨fun h => (by rw [h] at hr; cases hr), fun j hj => ?_⟩
    have hjn : j < n := Nat.lt_of_not_le fun h => tail_waits hs hc hn inv _ i rfl hin (mem_ready.1 hr).1 j h hj
    refine ⟨hjn, ?_⟩
    by_cases hji : j = i
    · subst hji; exact hy.qOp hi H
    · exact absurd (hdone _ _ H j (ready_mono hj hji)) (by omega)
  | succ f ih =>
    intro done a inv hfree hr hy H
    have hun := (mem_ready.1 hr).1
    refine ⟨fun h => (by rw [h] at hr; cases hr), fun j hj => ?_⟩
    have hjn : j < n := Nat.lt_of_not_le fun h => tail_waits hs hc hn inv _ i rfl hin hun j h hj
    refine ⟨hjn, ?_⟩
    by_cases hji : j = i
    · subst hji; exact hy.qOp hi H
    obtain ⟨hjun, oj, hoj, hall⟩ := mem_ready.1 hj
    have hnot : ∀ e ∈ oj.after, Region.binds md e = true → e.on ≠ i := fun e he hb heq => by
      have h1 := hall e he hb
      rw [heq, getD_both hun] at h1
      cases h1
    refine qOp_mono (fun a' h3 => ih (done.setIfInBounds j true) a' (inv.set hj hjn) (fun k ok hk hki hkun hno => ?_) (ready_mono hr (Ne.symm hji)) h3.1 ?_)
      (qOp_put hoj (hfree j oj hoj hji hjun hnot) (fun cs b => hsel i oi cs b hi) (fun cs b => hsel j oj cs b hoj) hy (H.2 j (ready_mono hj hji)).2)
    · refine hfree k ok hk hki ?_ hno
      by_cases hjk : j = k
      · subst hjk; exact hjun
      · rwa [getD_set_ne true hjk] at hkun
    · rw [Array.setIfInBounds_comm _ _ hji]
      exact h3.2
theorem head_lex {P : Program} {md : Region.Mode} {ops : Array Oper} {C : World → Prop} {n g : Nat} {Lq : Act → Prop} (hsel : Region.noSelect ops = true) (hs : Region.sinkB md ops n = true) (hc : Region.chainB md ops n = true) (hn : n < ops.size) :
    ∀ (l : List Oper) (k : Nat) (done : Array Bool) (a : Act), (∀ j, j < l.length → l[j]? = ops[k + j]?) → k + l.length = n → HeadInv md ops n done →
    Region.lexHead md ops g l.length k done = true → wpQuiet P ops C Lq l a → headQ P md ops C n (fun done' a' => Region.seqB md ops g n done' = true ∧ Lq a') l.length done a
  | [], k, done, a, hl, hk, inv, hB, h => by
    obtain rfl : k = n := by simpa using hk
    exact ⟨by simpa [Region.lexHead] using hB, h⟩
  | o :: l, k, done, a, hl, hk, inv, hB, h => by
    have h0 : ops[k]? = some o := by simpa using (hl 0 (by simp)).symm
    simp only [List.length_cons, Region.lexHead, Bool.and_eq_true] at hB
    simp only [List.length_cons] at hk
    have hr : k ∈ Region.ready md ops done := by simpa using hB.1.1
    have hst : qOp P ops C k (wpQuiet P ops C Lq l) a := by unfold qOp; simp only [h0]; exact h
    obtain ⟨v, hy, hK⟩ := yieldsIn_of_qOp h0 hst
    exact head_first h0 (Region.noSelect_spec hsel) hs hc hn (by omega) (fun _ _ hL => seqB_ready hL.1) l.length done a inv (Region.free_spec h0 hB.1.2) hr hy
      (head_lex hsel hs hc hn l (k + 1) _ _ (fun j hj => by have := hl (j + 1) (by simp; omega); simpa [Nat.add_assoc, Nat.add_comm 1 j] using this) (by omega) (inv.set hr (by omega)) hB.2 hK)
theorem wp_region_head {P : Program} {C : World → Prop} {id : Nat} {Q : Exit → Act → World → Prop} {a : Act} {w : World} {l : List Oper} (n : Nat) (hm : P.follows .mixedOrders = true) (hB : Region.lexTailB .any l.toArray n = true) (hC : C w.drew)
    (h : wpQuiet P l.toArray C (fun a' => ∀ w', C w' → wpList P l.toArray Q (l.drop n) a' w') (l.take n) a) : (Code.region id l.toArray true).wp P Q a w := by
  simp only [Region.lexTailB, Bool.and_eq_true, decide_eq_true_eq] at hB
  obtain ⟨⟨⟨⟨hsel, hn⟩, hs⟩, hc⟩, hlex⟩ := hB
  have hn' : n < l.length := by simpa using hn
  have ht : (l.take n).length = n := by simp; omega
  have hd : (l.drop n).length = l.toArray.size - n := by simp
  have inv : HeadInv .any l.toArray n (Array.replicate l.toArray.size false) :=
    ⟨by simp, fun j oj _ hl => (by rw [getD_replicate_false] at hl; cases hl), fun t _ hlt => getD_in (by simpa using hlt) (getD_replicate_false _ _)⟩
  have H := head_lex (g := l.toArray.size - n) hsel hs hc hn (l.take n) 0 _ a (fun j hj => by rw [ht] at hj; simp [hj]) (by simpa using ht) inv (by rw [ht]; exact hlex) h
  have H2 := head_any (Q' := Q) (g := l.toArray.size - n) (fun done a' w' hw' hL => by
    have := wpAny_of_seq (md := .any) (Q' := Q) (l.drop n) n done a' w' (fun j => by simp [List.getElem?_drop]) (by rw [hd]; exact hL.1) (hL.2 w' hw')
    rwa [hd] at this) _ _ _ w.drew hC H
  rw [ht, show n + (l.toArray.size - n) = l.toArray.size by omega] at H2
  exact wp_region_any hm H2
theorem wp_region_aft_tail {P : Program} {wb : World} {id : Nat} {Q : Exit → Act → World → Prop} {a : Act} {w : World} {l : List Oper} (n : Nat) (hm : P.follows .mixedOrders = true) (hB : Region.lexTailB .any l.toArray n = true) (hw : Below wb.heap.size wb w)
    (h : wpQuiet P l.toArray (fun w' => ∃ x : Aft wb, w' = x.w) (fun a' => ∀ w', (∃ x : Aft wb, w' = x.w) → wpList P l.toArray Q (l.drop n) a' w') (l.take n) a) : (Code.region id l.toArray true).wp P Q a w :=
  wp_region_head (C := fun w' => ∃ x : Aft wb, w' = x.w) n hm hB ⟨⟨_, hw.drew⟩, rfl⟩ h
end Go.Proofs.YtimeecimaokldaaGreatDoor
