/- Contracts: records that are alike, the first such in a slice, good books. -/
import Derived.Test.YtpkpahadjdkafaaGreatDoorV1
namespace Go.Proofs.YtpkpahadjdkafaaGreatDoor
open Go Go.RowKit
set_option linter.unusedVariables false
set_option linter.unusedSimpArgs false

def alikeP (m t : ByteArray) (x : Rc) : Bool := (x.meth.toList == m.toList) && ((leastB x.touch true).toList == (leastB t true).toList)
def goodT (t : ByteArray) : Prop := touchB t.data.toList = true
theorem recB_touch {x : Rc} (h : recB x = true) : goodT x.touch := by
  unfold recB at h
  simp only [Bool.and_eq_true] at h
  exact h.2.2.1
set_option maxHeartbeats 1000000 in
theorem alike_any (x : Rc) (m t : ByteArray) (w : World) (hx : goodT x.touch) (ht : goodT t) : Calls Tryz.prog 37 #[x.v, .string m, .string t] w fun e w' => e = .returned (.bool (alikeP m t x)) ∧ Below w.heap.size w w' := by
  unfold Rc.v
  have zx := touch_size hx
  have zt := touch_size ht
  have Hx := Lib.hid (fun w => leastTurn_any x.touch w (by omega) (by omega))
  have Ht := Lib.hid (fun w => leastTurn_any t w (by omega) (by omega))
  have hd : alikeP m t x = ((x.meth.toList == m.toList) && ((leastB x.touch true).toList == (leastB t true).toList)) := rfl
  rw [hd]
  obtain ⟨p, ep⟩ : ∃ p, p = leastB x.touch true := ⟨_, rfl⟩
  obtain ⟨q, eq⟩ : ∃ q, q = leastB t true := ⟨_, rfl⟩
  rw [← ep] at Hx
  rw [← eq] at Ht
  rw [← ep, ← eq]
  clear hd ep eq zx zt hx ht
  cases hm : (x.meth.toList == m.toList)
  · go_enter Tryz.func37, Tryz.ntmps37
    go_wp2_with fail
    go_ret
    exact ⟨rfl, bw_al (Below.refl _ _) _⟩
  · go_enter Tryz.func37, Tryz.ntmps37
    go_wp2_with fail
    refine (Hx.out _).mono ?_; rintro e w1 ⟨rfl, hb1⟩
    go_wp2_with fail
    refine (Ht.out _).mono ?_; rintro e w2 ⟨rfl, hb2⟩
    go_wp2_with fail
    go_ret
    exact ⟨ret_bool (by simp), bw_to (bw_to (bw_al (Below.refl _ _) _) hb1) hb2⟩
set_option maxHeartbeats 1000000 in
theorem l28Alike_any (x r : Rc) (w : World) (hx : goodT x.touch) (ht : goodT r.touch) : Calls Tryz.prog 41 #[x.v, r.v] w fun e w' => e = .returned (.bool (alikeP r.meth r.touch x)) ∧ Below w.heap.size w w' := by
  unfold Rc.v
  have Hx := Lib.hid (fun w => LeastTurn_any x.touch w hx)
  have Ht := Lib.hid (fun w => LeastTurn_any r.touch w ht)
  have hd : alikeP r.meth r.touch x = ((x.meth.toList == r.meth.toList) && ((leastB x.touch true).toList == (leastB r.touch true).toList)) := rfl
  rw [hd]
  obtain ⟨p, ep⟩ : ∃ p, p = leastB x.touch true := ⟨_, rfl⟩
  obtain ⟨q, eq⟩ : ∃ q, q = leastB r.touch true := ⟨_, rfl⟩
  rw [← ep] at Hx
  rw [← eq] at Ht
  rw [← ep, ← eq]
  clear hd ep eq hx ht
  go_enter Tryz.func41, Tryz.ntmps41
  go_wp2_with fail
  refine box2 (C := fun W => Calls _ _ _ W _) ?_
  intro wb hw k1 k2 hB0
  have R1 := boxRule k1
  have R2 := boxRule k2
  clear k1 k2
  refine (Hx.out _).mono ?_; rintro e w1 ⟨rfl, hb1⟩
  go_wp2_with fail
  refine (Ht.out _).mono ?_; rintro e w2 ⟨rfl, hb2⟩
  have hB2 := bw_to hb1 hb2
  cases hm : (x.meth.toList == r.meth.toList)
  · go_wp2_with fail
    go_ret
    exact ⟨ret_bool (by simp at hm; simp [hm]), bw_to hw hB2⟩
  · go_wp2_with fail
    go_ret
    exact ⟨ret_bool (by simp at hm; simp [hm]), bw_to hw hB2⟩
def ixR (p : Rc → Bool) : Nat → List Rc → Int
  | _, [] => -1
  | k, x :: t => if p x = true then k else ixR p (k + 1) t
theorem ixR_hit {p : Rc → Bool} {xs : List Rc} {k : Nat} {r : Int} (hk : k < xs.length) (h : ixR p k (xs.drop k) = r) (hh : p xs[k] = true) : r = k := by
  rw [List.drop_eq_getElem_cons hk, ixR, if_pos hh] at h; exact h.symm
theorem ixR_step {p : Rc → Bool} {xs : List Rc} {k : Nat} {r : Int} (hk : k < xs.length) (h : ixR p k (xs.drop k) = r) (hh : p xs[k] = false) : ixR p (k + 1) (xs.drop (k + 1)) = r := by
  rw [List.drop_eq_getElem_cons hk, ixR, if_neg (by rw [hh]; decide)] at h; exact h
theorem ixR_end {p : Rc → Bool} {xs : List Rc} {k : Nat} {r : Int} (hk : xs.length ≤ k) (h : ixR p k (xs.drop k) = r) : r = -1 := by
  rw [List.drop_of_length_le hk] at h; exact h.symm
theorem ixR_rng (p : Rc → Bool) : ∀ (xs : List Rc) (k : Nat), ixR p k xs = -1 ∨ (0 ≤ ixR p k xs ∧ ixR p k xs < k + xs.length)
  | [], k => .inl rfl
  | x :: t, k => by
    rw [ixR]
    split
    · right; simp only [List.length_cons]; omega
    · rcases ixR_rng p t (k + 1) with h | h
      · exact .inl h
      · right; simp only [List.length_cons]; omega
theorem any_ixR (p : Rc → Bool) : ∀ (xs : List Rc) (k : Nat), xs.any p = decide (0 ≤ ixR p k xs)
  | [], k => rfl
  | x :: t, k => by
    rw [List.any_cons, ixR]
    cases h : p x
    · rw [if_neg (by decide), Bool.false_or]; exact any_ixR p t (k + 1)
    · rw [if_pos rfl, Bool.true_or]; simp
set_option maxRecDepth 10000 in
set_option maxHeartbeats 2000000 in
theorem indexFuncR_gb (V : Value) (xs : List Rc) (p : Rc → Bool) (ptr : Value) (w : World) (h : Recs w V xs)
    (hp : ∀ x ∈ xs, ∀ w', Below w.heap.size w w' → Calls Tryz.prog 36 #[x.v, ptr] w' fun e w'' => e = .returned (.bool (p x)) ∧ Below w'.heap.size w' w'') :
    Calls Tryz.prog 56 #[V, .func (.func 36) #[] #[ptr]] w fun e w' => e = .returned (.int .i64 (ixR p 0 xs)) ∧ Below w.heap.size w w' := by
  obtain ⟨A, c, rfl, h1, h2, hr⟩ := h
  unfold maxLen at h2
  have Hp := Lib.hid hp
  clear hp
  go_enter Tryz.func56, Tryz.ntmps56
  go_wp2_with fail
  go_loopw [8] (fun i wr => ∃ k : Nat, k ≤ xs.length ∧ i = .int .i64 k ∧ ixR p k (xs.drop k) = ixR p 0 xs ∧ Below w.heap.size w wr) (fun i _ => xs.length - (intOf i).toNat)
  case atStart => exact ⟨0, by omega, rfl, rfl, Below.refl _ _⟩
  case round =>
    obtain ⟨k, hk, rfl, hok, hB⟩ := hrel
    have Hok := Lib.hid hok
    clear hok
    by_cases hlt : k < xs.length
    · obtain ⟨ad, rfl, hC⟩ := recs_el hr rfl hlt
      have H1 := Lib.hid (ixR_hit hlt Hok.out)
      have H2 := Lib.hid (ixR_step hlt Hok.out)
      have Hc := Lib.hid (Hp.out _ (List.getElem_mem hlt))
      unfold Rc.v at Hc
      obtain ⟨b, hb⟩ : ∃ b, b = p xs[k] := ⟨_, rfl⟩
      rw [← hb] at H1 H2 Hc
      clear hb
      go_wp2_with fail
      refine (Hc.out _ hB).mono ?_; rintro e w1 ⟨rfl, hb1⟩
      cases b
      · go_wp2_with fail
        exact ⟨⟨k + 1, by omega, by go_num, H2.out (by simp), bw_to hB hb1⟩, by simp [intOf]; omega⟩
      · go_wp2_with fail
        go_ret
        exact ⟨ret_int (H1.out (by simp)).symm, bw_to hB hb1⟩
    · go_wp2_with fail
      go_ret
      exact ⟨ret_int (ixR_end (by omega) Hok.out).symm, hB⟩
set_option maxHeartbeats 2000000 in
theorem containsR_gb (V : Value) (xs : List Rc) (p : Rc → Bool) (ptr : Value) (w : World) (h : Recs w V xs)
    (hp : ∀ x ∈ xs, ∀ w', Below w.heap.size w w' → Calls Tryz.prog 36 #[x.v, ptr] w' fun e w'' => e = .returned (.bool (p x)) ∧ Below w'.heap.size w' w'') :
    Calls Tryz.prog 35 #[V, .func (.func 36) #[] #[ptr]] w fun e w' => e = .returned (.bool (xs.any p)) ∧ Below w.heap.size w w' := by
  have Hc := Lib.hid (indexFuncR_gb V xs p ptr w h hp)
  rw [any_ixR p xs 0]
  obtain ⟨z, hz⟩ : ∃ z, z = ixR p 0 xs := ⟨_, rfl⟩
  rw [← hz] at Hc
  rw [← hz]
  clear hz hp h
  go_enter Tryz.func35, Tryz.ntmps35
  go_wp2_with fail
  refine Hc.out.mono ?_; rintro e w1 ⟨rfl, hb1⟩
  go_wp2_with fail
  go_ret
  exact ⟨rfl, hb1⟩
theorem recs_upto {w : World} {ad : Addr} {c k n : Nat} {xs : List Rc} (h : Recs w (.slice (some ad) n c) xs) (hn : xs.length = n) (hk : k ≤ n) : Recs w (.slice (some ad) k c) (xs.take k) := by
  subst hn
  obtain ⟨A, c', e, h1, h2, hr⟩ := h
  cases e
  have hlk : (xs.take k).length = k := by simp; omega
  refine ⟨some ad, c, by rw [hlk], by rw [hlk]; omega, h2, ?_⟩
  rw [hlk]
  refine ⟨by rw [flat_length (C := Rc.cells) (sz := 5) (fun _ _ => rfl), hlk], fun h0 => ?_⟩
  obtain ⟨ad', hA, hb, hcell⟩ := hr.2 (by omega)
  refine ⟨ad', hA, hb, fun j u hj => hcell j u ?_⟩
  have hpre : xs.flatMap Rc.cells = (xs.take k).flatMap Rc.cells ++ (xs.drop k).flatMap Rc.cells := by rw [← List.flatMap_append, List.take_append_drop]
  rw [hpre, List.getElem?_append_left (List.getElem?_eq_some_iff.1 hj).1]
  exact hj
end Go.Proofs.YtpkpahadjdkafaaGreatDoor
