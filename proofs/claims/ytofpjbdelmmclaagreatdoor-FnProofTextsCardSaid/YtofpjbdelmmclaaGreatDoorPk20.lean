/- The number of rings of a permutation changes its parity with each exchange of two rows: a plain account. -/
import Derived.Test.YtofpjbdelmmclaaGreatDoorPk12
namespace Go.Proofs.YtofpjbdelmmclaaGreatDoor
open Go Go.RowKit
set_option linter.unusedVariables false
set_option linter.unusedSimpArgs false

/-- A function that leaves out a row. -/
def skipF (a : ByteArray) (f : ByteArray → ByteArray) (x : ByteArray) : ByteArray := if f x = a then f a else f x
/-- The number of cycles. -/
def cycN : List ByteArray → (ByteArray → ByteArray) → Nat
  | [], _ => 0
  | a :: l, f => (if f a = a then 1 else 0) + cycN l (skipF a f)
theorem cyc_congr : ∀ (l : List ByteArray) (f g : ByteArray → ByteArray), (∀ x ∈ l, f x = g x) → cycN l f = cycN l g
  | [], _, _, _ => rfl
  | a :: l, f, g, h => by
    have ha := h a (List.mem_cons_self ..)
    have h2 := cyc_congr l (skipF a f) (skipF a g) (fun x hx => by
      unfold skipF
      rw [ha, h x (List.mem_cons_of_mem _ hx)])
    unfold cycN
    rw [ha, h2]
/-- A permutation of a list's rows. -/
def PermF (l : List ByteArray) (f : ByteArray → ByteArray) : Prop := (∀ x ∈ l, f x ∈ l) ∧ ∀ x ∈ l, ∀ y ∈ l, f x = f y → x = y
theorem PermF.onto {l : List ByteArray} {f : ByteArray → ByteArray} (h : PermF l f) (hd : l.Nodup) {y : ByteArray} (hy : y ∈ l) : ∃ x ∈ l, f x = y := by
  apply Classical.byContradiction
  intro hn
  have hnd : (y :: l.map f).Nodup := by
    rw [List.nodup_cons]
    refine ⟨fun hm => ?_, ?_⟩
    · obtain ⟨x, hx, e⟩ := List.mem_map.1 hm
      exact hn ⟨x, hx, e⟩
    · rw [List.Nodup, List.pairwise_map]
      exact hd.imp_of_mem (fun {a b} ha hb hab e => hab (h.2 a ha b hb e))
  have := nodup_le _ l hnd (fun x hx => by
    rcases List.mem_cons.1 hx with rfl | hx
    · exact hy
    · obtain ⟨z, hz, rfl⟩ := List.mem_map.1 hx
      exact h.1 z hz)
  rw [List.length_cons, List.length_map] at this
  omega
theorem PermF.skip {a : ByteArray} {l : List ByteArray} {f : ByteArray → ByteArray} (h : PermF (a :: l) f) (hd : (a :: l).Nodup) : PermF l (skipF a f) := by
  rw [List.nodup_cons] at hd
  have ma : a ∈ a :: l := List.mem_cons_self ..
  have ml : ∀ x ∈ l, x ∈ a :: l := fun x hx => List.mem_cons_of_mem _ hx
  have hne : ∀ x ∈ l, x ≠ a := fun x hx e => hd.1 (by rw [← e]; exact hx)
  refine ⟨fun x hx => ?_, fun x hx y hy e => ?_⟩
  · unfold skipF
    split
    · rename_i e
      rcases List.mem_cons.1 (h.1 a ma) with e2 | e2
      · exact absurd (h.2 x (ml x hx) a ma (by rw [e, e2])) (hne x hx)
      · exact e2
    · rename_i e
      rcases List.mem_cons.1 (h.1 x (ml x hx)) with e2 | e2
      · exact absurd e2 e
      · exact e2
  · unfold skipF at e
    split at e
    · rename_i e1
      split at e
      · rename_i e2
        exact h.2 x (ml x hx) y (ml y hy) (by rw [e1, e2])
      · exact absurd (h.2 a ma y (ml y hy) e).symm (hne y hy)
    · split at e
      · exact absurd (h.2 x (ml x hx) a ma e) (hne x hx)
      · exact h.2 x (ml x hx) y (ml y hy) e
/-- Two rows exchanged. -/
def swapF (u v x : ByteArray) : ByteArray := if x = u then v else if x = v then u else x
theorem swapF_l (u v : ByteArray) : swapF u v u = v := by simp [swapF]
theorem swapF_r (u v : ByteArray) : swapF u v v = u := by unfold swapF; split <;> simp_all
theorem swapF_o {u v x : ByteArray} (h1 : x ≠ u) (h2 : x ≠ v) : swapF u v x = x := by simp [swapF, h1, h2]
theorem swapF_comm (u v : ByteArray) : swapF u v = swapF v u := by
  funext x
  by_cases h1 : x = u
  · subst h1; rw [swapF_l, swapF_r]
  · by_cases h2 : x = v
    · subst h2; rw [swapF_l, swapF_r]
    · rw [swapF_o h1 h2, swapF_o h2 h1]
theorem swapF_in {l : List ByteArray} {u v x : ByteArray} (hu : u ∈ l) (hv : v ∈ l) (hx : x ∈ l) : swapF u v x ∈ l := by
  unfold swapF; split
  · exact hv
  · split
    · exact hu
    · exact hx
theorem swapF_inv (u v x : ByteArray) : swapF u v (swapF u v x) = x := by
  by_cases h1 : x = u
  · subst h1; rw [swapF_l, swapF_r]
  · by_cases h2 : x = v
    · subst h2; rw [swapF_r, swapF_l]
    · rw [swapF_o h1 h2, swapF_o h1 h2]
theorem PermF.swap {l : List ByteArray} {f : ByteArray → ByteArray} (h : PermF l f) {u v : ByteArray} (hu : u ∈ l) (hv : v ∈ l) : PermF l (fun x => f (swapF u v x)) :=
  ⟨fun x hx => h.1 _ (swapF_in hu hv hx), fun x hx y hy e => by
    have := h.2 _ (swapF_in hu hv hx) _ (swapF_in hu hv hy) e
    rw [← swapF_inv u v x, this, swapF_inv]⟩
theorem cyc_cons (a : ByteArray) (l : List ByteArray) (f : ByteArray → ByteArray) : cycN (a :: l) f = (if f a = a then 1 else 0) + cycN l (skipF a f) := rfl
theorem cyc_swap : ∀ (l : List ByteArray), l.Nodup → ∀ (f : ByteArray → ByteArray), PermF l f → ∀ u v, u ∈ l → v ∈ l → u ≠ v → (cycN l (fun x => f (swapF u v x)) + cycN l f) % 2 = 1
  | [], _, _, _, u, v, hu, _, _ => by cases hu
  | a :: l, hd, f, hp, u, v, hu, hv, huv => by
    have hd2 := hd
    rw [List.nodup_cons] at hd2
    have ma : a ∈ a :: l := List.mem_cons_self ..
    have ml : ∀ x ∈ l, x ∈ a :: l := fun x hx => List.mem_cons_of_mem _ hx
    have hne : ∀ x ∈ l, x ≠ a := fun x hx e => hd2.1 (by rw [← e]; exact hx)
    have head : ∀ v ∈ l, (cycN (a :: l) (fun x => f (swapF a v x)) + cycN (a :: l) f) % 2 = 1 := by
      intro v hv
      have hva := hne v hv
      obtain ⟨g, hg⟩ : ∃ g : ByteArray → ByteArray, g = fun x => f (swapF a v x) := ⟨_, rfl⟩
      have ga : g a = f v := by rw [hg]; show f (swapF a v a) = f v; rw [swapF_l]
      have gv : g v = f a := by rw [hg]; show f (swapF a v v) = f a; rw [swapF_r]
      have go : ∀ x, x ≠ a → x ≠ v → g x = f x := fun x h1 h2 => by rw [hg]; show f (swapF a v x) = f x; rw [swapF_o h1 h2]
      rw [← hg, cyc_cons, cyc_cons, ga]
      by_cases h1 : f a = a
      · have h2 : f v ≠ a := fun e => hva (hp.2 v (ml v hv) a ma (by rw [e, h1]))
        have h3 : ∀ x ∈ l, f x ≠ a := fun x hx e => hne x hx (hp.2 x (ml x hx) a ma (by rw [e, h1]))
        have e1 : cycN l (skipF a f) = cycN l f := cyc_congr l _ _ (fun x hx => by unfold skipF; rw [if_neg (h3 x hx)])
        have e2 : cycN l (skipF a g) = cycN l f := cyc_congr l _ _ (fun x hx => by
          unfold skipF
          by_cases hxv : x = v
          · subst hxv; rw [gv, if_pos h1, ga]
          · rw [go x (hne x hx) hxv, if_neg (h3 x hx)])
        rw [e1, e2, if_pos h1, if_neg h2]
        omega
      · by_cases h2 : f v = a
        · have h3 : ∀ x ∈ l, x ≠ v → f x ≠ a := fun x hx hxv e => hxv (hp.2 x (ml x hx) v (ml v hv) (by rw [e, h2]))
          have e2 : cycN l (skipF a g) = cycN l (skipF a f) := cyc_congr l _ _ (fun x hx => by
            unfold skipF
            by_cases hxv : x = v
            · subst hxv; rw [gv, if_neg h1, if_pos h2]
            · rw [go x (hne x hx) hxv, if_neg (h3 x hx hxv), if_neg (h3 x hx hxv)])
          rw [e2, if_neg h1, if_pos h2]
          omega
        · obtain ⟨p, hpm, hpe⟩ := hp.onto hd ma
          have hpa : p ≠ a := fun e => h1 (by rw [← e]; rw [hpe, e])
          have hpv : p ≠ v := fun e => h2 (by rw [← e]; exact hpe)
          have hpl : p ∈ l := by
            rcases List.mem_cons.1 hpm with e | e
            · exact absurd e hpa
            · exact e
          have h3 : ∀ x ∈ l, x ≠ p → f x ≠ a := fun x hx hxp e => hxp (hp.2 x (ml x hx) p hpm (by rw [e, hpe]))
          have ih := cyc_swap l hd2.2 (skipF a f) (hp.skip hd) p v hpl hv hpv
          have e2 : cycN l (skipF a g) = cycN l (fun x => skipF a f (swapF p v x)) := cyc_congr l _ _ (fun x hx => by
            by_cases hxp : x = p
            · subst hxp
              show skipF a g x = skipF a f (swapF x v x)
              rw [swapF_l]
              unfold skipF
              rw [go x (hne x hx) hpv, if_pos hpe, ga, if_neg h2]
            · by_cases hxv : x = v
              · subst hxv
                show skipF a g x = skipF a f (swapF p x x)
                rw [swapF_r]
                unfold skipF
                rw [gv, if_neg h1, if_pos hpe]
              · show skipF a g x = skipF a f (swapF p v x)
                rw [swapF_o hxp hxv]
                unfold skipF
                rw [go x (hne x hx) hxv, ga, if_neg (h3 x hx hxp), if_neg (h3 x hx hxp)])
          rw [e2, if_neg h1, if_neg h2]
          omega
    rcases List.mem_cons.1 hu with rfl | hul
    · rcases List.mem_cons.1 hv with rfl | hvl
      · exact absurd rfl huv
      · exact head v hvl
    · rcases List.mem_cons.1 hv with rfl | hvl
      · rw [swapF_comm]; exact head u hul
      · have ih := cyc_swap l hd2.2 (skipF a f) (hp.skip hd) u v hul hvl huv
        have hau : a ≠ u := fun e => hne u hul e.symm
        have hav : a ≠ v := fun e => hne v hvl e.symm
        rw [cyc_cons, cyc_cons]
        have e1 : f (swapF u v a) = f a := by rw [swapF_o hau hav]
        have e2 : cycN l (skipF a fun x => f (swapF u v x)) = cycN l (fun x => skipF a f (swapF u v x)) := cyc_congr l _ _ (fun x hx => by
          show (if f (swapF u v x) = a then f (swapF u v a) else f (swapF u v x)) = (if f (swapF u v x) = a then f a else f (swapF u v x))
          rw [e1])
        rw [e2]
        show ((if f (swapF u v a) = a then 1 else 0) + _ + _) % 2 = 1
        rw [e1]
        omega
/-- A ring of rows turned by one. -/
theorem cyc_turn {l : List ByteArray} (hd : l.Nodup) {f : ByteArray → ByteArray} {c : Nat → ByteArray} : ∀ (j : Nat) (g : ByteArray → ByteArray), PermF l g → (∀ i, i ≤ j → c i ∈ l) → (∀ i k, i < k → k ≤ j → c i ≠ c k) →
    g (c 0) = f (c j) → (∀ i, i < j → g (c (i + 1)) = f (c i)) → (∀ x ∈ l, (∀ i, i ≤ j → x ≠ c i) → g x = f x) → (cycN l g + cycN l f) % 2 = j % 2
  | 0, g, _, _, _, h0, _, ho => by
    have e : cycN l g = cycN l f := cyc_congr l _ _ (fun x hx => by
      by_cases hx0 : x = c 0
      · rw [hx0]; exact h0
      · exact ho x hx (fun i hi => by
          obtain rfl : i = 0 := by omega
          exact hx0))
    rw [e]; omega
  | j + 1, g, hp, hc, hne, h0, hs, ho => by
    have h1 := cyc_swap l hd g hp (c 0) (c (j + 1)) (hc 0 (by omega)) (hc _ (Nat.le_refl _)) (hne 0 (j + 1) (by omega) (Nat.le_refl _))
    have h2 := cyc_turn hd j (fun x => g (swapF (c 0) (c (j + 1)) x)) (hp.swap (hc 0 (by omega)) (hc _ (Nat.le_refl _))) (fun i hi => hc i (by omega)) (fun i k h1 h2 => hne i k h1 (by omega))
      (by show g (swapF (c 0) (c (j + 1)) (c 0)) = f (c j); rw [swapF_l]; exact hs j (by omega))
      (fun i hi => by
        show g (swapF (c 0) (c (j + 1)) (c (i + 1))) = f (c i)
        rw [swapF_o (fun e => hne 0 (i + 1) (by omega) (by omega) e.symm) (hne (i + 1) (j + 1) (by omega) (Nat.le_refl _))]
        exact hs i (by omega))
      (fun x hx hxn => by
        show g (swapF (c 0) (c (j + 1)) x) = f x
        by_cases hxj : x = c (j + 1)
        · rw [hxj, swapF_r]; exact h0
        · rw [swapF_o (hxn 0 (by omega)) hxj]
          exact ho x hx (fun i hi => by
            rcases Nat.lt_or_ge j i with h | h
            · obtain rfl : i = j + 1 := by omega
              exact hxj
            · exact hxn i h))
    omega
/-- From a row to another one. -/
def reachF (f : ByteArray → ByteArray) (x y : ByteArray) : Prop := ∃ k, iterB f x k = y
theorem iter_add (f : ByteArray → ByteArray) (x : ByteArray) (i : Nat) : ∀ j, iterB f x (i + j) = iterB f (iterB f x i) j
  | 0 => rfl
  | j + 1 => by
    show f (iterB f x (i + j)) = f (iterB f (iterB f x i) j)
    rw [iter_add f x i j]
theorem iter_succ (f : ByteArray → ByteArray) (x : ByteArray) (k : Nat) : iterB f x (k + 1) = iterB f (f x) k := by
  rw [Nat.add_comm]; exact iter_add f x 1 k
theorem reachF.trans {f : ByteArray → ByteArray} {x y z : ByteArray} (h : reachF f x y) (h2 : reachF f y z) : reachF f x z := by
  obtain ⟨i, rfl⟩ := h
  obtain ⟨j, rfl⟩ := h2
  exact ⟨i + j, iter_add f x i j⟩
theorem reachF.refl (f : ByteArray → ByteArray) (x : ByteArray) : reachF f x x := ⟨0, rfl⟩
theorem reachF.one (f : ByteArray → ByteArray) (x : ByteArray) : reachF f x (f x) := ⟨1, rfl⟩
open Classical in
/-- The number of classes: of the rows that no later one reaches. -/
noncomputable def clsN (E : ByteArray → ByteArray → Prop) : List ByteArray → Nat
  | [] => 0
  | a :: l => (if ∃ b ∈ l, E b a then 0 else 1) + clsN E l
theorem cls_congr (E E' : ByteArray → ByteArray → Prop) : ∀ l : List ByteArray, (∀ x ∈ l, ∀ y ∈ l, (E x y ↔ E' x y)) → clsN E l = clsN E' l
  | [], _ => rfl
  | a :: l, h => by
    have ih := cls_congr E E' l (fun x hx y hy => h x (List.mem_cons_of_mem _ hx) y (List.mem_cons_of_mem _ hy))
    have e : (∃ b ∈ l, E b a) ↔ ∃ b ∈ l, E' b a := ⟨fun ⟨b, hb, h2⟩ => ⟨b, hb, (h b (List.mem_cons_of_mem _ hb) a (List.mem_cons_self ..)).1 h2⟩, fun ⟨b, hb, h2⟩ => ⟨b, hb, (h b (List.mem_cons_of_mem _ hb) a (List.mem_cons_self ..)).2 h2⟩⟩
    unfold clsN
    rw [ih]
    by_cases hx : ∃ b ∈ l, E b a
    · rw [if_pos hx, if_pos (e.1 hx)]
    · rw [if_neg hx, if_neg (fun h => hx (e.2 h))]
theorem skip_reach {a : ByteArray} {l : List ByteArray} {f : ByteArray → ByteArray} (hp : PermF (a :: l) f) (hd : (a :: l).Nodup) {x y : ByteArray} (hx : x ∈ l) (hy : y ∈ l) : reachF f x y ↔ reachF (skipF a f) x y := by
  have hd2 := hd
  rw [List.nodup_cons] at hd2
  have ma : a ∈ a :: l := List.mem_cons_self ..
  have ml : ∀ x ∈ l, x ∈ a :: l := fun x hx => List.mem_cons_of_mem _ hx
  have hne : ∀ x ∈ l, x ≠ a := fun x hx e => hd2.1 (by rw [← e]; exact hx)
  constructor
  · rintro ⟨k, hk⟩
    have key : ∀ N k x, k ≤ N → x ∈ l → iterB f x k = y → reachF (skipF a f) x y := by
      intro N
      induction N with
      | zero =>
        intro k x hkN hx e
        obtain rfl : k = 0 := by omega
        exact ⟨0, e⟩
      | succ N ih =>
        intro k x hkN hx e
        cases k with
        | zero => exact ⟨0, e⟩
        | succ k =>
          rw [iter_succ] at e
          by_cases hfa : f x = a
          · cases k with
            | zero => exact absurd (by rw [← e]; exact hfa) (hne y hy)
            | succ k =>
              rw [iter_succ, hfa] at e
              have es : skipF a f x = f a := by unfold skipF; rw [if_pos hfa]
              have hin := (hp.skip hd).1 x hx
              rw [es] at hin
              have h2 := ih k (f a) (by omega) hin e
              have h3 := reachF.one (skipF a f) x
              rw [es] at h3
              exact h3.trans h2
          · have es : skipF a f x = f x := by unfold skipF; rw [if_neg hfa]
            have hin := (hp.skip hd).1 x hx
            rw [es] at hin
            have h2 := ih k (f x) (by omega) hin e
            have h3 := reachF.one (skipF a f) x
            rw [es] at h3
            exact h3.trans h2
    exact key k k x (Nat.le_refl _) hx hk
  · rintro ⟨k, rfl⟩
    clear hy
    induction k with
    | zero => exact ⟨0, rfl⟩
    | succ k ih =>
      refine ih.trans ?_
      show reachF f (iterB (skipF a f) x k) (skipF a f (iterB (skipF a f) x k))
      generalize iterB (skipF a f) x k = z
      unfold skipF
      split
      · rename_i e
        have h3 := reachF.one f z
        rw [e] at h3
        exact h3.trans (reachF.one f a)
      · exact reachF.one f _
theorem reach_home {l : List ByteArray} {f : ByteArray → ByteArray} (hp : PermF l f) {x : ByteArray} (hx : x ∈ l) : reachF f (f x) x := by
  obtain ⟨R, _, h1, h2, _⟩ := ring_ex hp.1 hp.2 hx
  obtain ⟨r, rfl⟩ : ∃ r, R = r + 1 := ⟨R - 1, by omega⟩
  exact ⟨r, by rw [← iter_succ]; exact h2⟩
theorem cls_cyc : ∀ (l : List ByteArray), l.Nodup → ∀ f : ByteArray → ByteArray, PermF l f → clsN (reachF f) l = cycN l f
  | [], _, _, _ => rfl
  | a :: l, hd, f, hp => by
    have hd2 := hd
    rw [List.nodup_cons] at hd2
    have ma : a ∈ a :: l := List.mem_cons_self ..
    have ml : ∀ x ∈ l, x ∈ a :: l := fun x hx => List.mem_cons_of_mem _ hx
    have hne : ∀ x ∈ l, x ≠ a := fun x hx e => hd2.1 (by rw [← e]; exact hx)
    have ih := cls_cyc l hd2.2 (skipF a f) (hp.skip hd)
    have e1 := cls_congr (reachF f) (reachF (skipF a f)) l (fun x hx y hy => skip_reach hp hd hx hy)
    rw [cyc_cons]
    unfold clsN
    rw [e1, ih]
    by_cases h1 : f a = a
    · have hn : ¬ ∃ b ∈ l, reachF f b a := by
        rintro ⟨b, hb, k, hk⟩
        have key : ∀ k, iterB f b k ∈ l := by
          intro k
          induction k with
          | zero => exact hb
          | succ k ih =>
            show f (iterB f b k) ∈ l
            rcases List.mem_cons.1 (hp.1 _ (ml _ ih)) with e | e
            · exact absurd (hp.2 _ (ml _ ih) a ma (by rw [e, h1])) (hne _ ih)
            · exact e
        exact hne _ (key k) hk
      rw [if_pos h1, if_neg hn]
    · have hy : ∃ b ∈ l, reachF f b a := by
        rcases List.mem_cons.1 (hp.1 a ma) with e | e
        · exact absurd e h1
        · exact ⟨f a, e, reach_home hp ma⟩
      rw [if_neg h1, if_pos hy]
/-- A ring's rows are those that its first reaches. -/
theorem ring_reach {f : ByteArray → ByteArray} {h : ByteArray} {R : Nat} (hR : IsRing f h R) (x : ByteArray) : x ∈ ringL f h R ↔ reachF f h x := by
  constructor
  · intro hx
    obtain ⟨k, _, rfl⟩ := List.mem_map.1 hx
    exact ⟨k, rfl⟩
  · rintro ⟨k, rfl⟩
    have key : ∀ N k, k ≤ N → iterB f h k ∈ ringL f h R := by
      intro N
      induction N with
      | zero =>
        intro k hk
        obtain rfl : k = 0 := by omega
        exact List.mem_map.2 ⟨0, List.mem_range.2 hR.1, rfl⟩
      | succ N ih =>
        intro k hk
        rcases Nat.lt_or_ge k R with h1 | h1
        · exact List.mem_map.2 ⟨k, List.mem_range.2 h1, rfl⟩
        · have e : iterB f h k = iterB f h (k - R) := by
            have := iter_add f h R (k - R)
            rw [hR.2.1, show R + (k - R) = k by omega] at this
            exact this
          rw [e]
          exact ih (k - R) (by have := hR.1; omega)
    exact key k k (Nat.le_refl _)
theorem rgs_cls (f : ByteArray → ByteArray) (RR : ByteArray → Nat) : ∀ (l pre seen : List ByteArray), (∀ x ∈ l, IsRing f x (RR x)) → (∀ x, x ∈ seen ↔ ∃ b ∈ pre, reachF f b x) → (rgs f RR l seen).length + clsN (reachF f) pre.reverse = clsN (reachF f) (pre ++ l).reverse
  | [], pre, seen, _, _ => by rw [rgs]; simp
  | h :: t, pre, seen, hR, hs => by
    have hh := hR h (List.mem_cons_self ..)
    have hex : (∃ b ∈ pre.reverse, reachF f b h) ↔ h ∈ seen := by
      rw [hs h]
      constructor
      · rintro ⟨b, hb, h2⟩; exact ⟨b, List.mem_reverse.1 hb, h2⟩
      · rintro ⟨b, hb, h2⟩; exact ⟨b, List.mem_reverse.2 hb, h2⟩
    have e1 : clsN (reachF f) (pre ++ [h]).reverse = (if h ∈ seen then 0 else 1) + clsN (reachF f) pre.reverse := by
      rw [List.reverse_append]
      show clsN (reachF f) (h :: pre.reverse) = _
      unfold clsN
      by_cases hx : h ∈ seen
      · rw [if_pos hx, if_pos (hex.2 hx)]
        cases pre.reverse <;> rfl
      · rw [if_neg hx, if_neg (fun h2 => hx (hex.1 h2))]
        cases pre.reverse <;> rfl
    have e2 : pre ++ h :: t = (pre ++ [h]) ++ t := by simp
    rw [e2, rgs]
    by_cases hx : h ∈ seen
    · rw [if_pos hx] at e1 ⊢
      have ih := rgs_cls f RR t (pre ++ [h]) seen (fun x hx => hR x (List.mem_cons_of_mem _ hx)) (fun x => by
        rw [hs x]
        constructor
        · rintro ⟨b, hb, h2⟩; exact ⟨b, List.mem_append_left _ hb, h2⟩
        · rintro ⟨b, hb, h2⟩
          rcases List.mem_append.1 hb with hb | hb
          · exact ⟨b, hb, h2⟩
          · rw [List.mem_singleton.1 hb] at h2
            obtain ⟨b', hb', h3⟩ := (hs h).1 hx
            exact ⟨b', hb', h3.trans h2⟩)
      omega
    · rw [if_neg hx] at e1 ⊢
      have ih := rgs_cls f RR t (pre ++ [h]) (seen ++ ringL f h (RR h)) (fun x hx => hR x (List.mem_cons_of_mem _ hx)) (fun x => by
        rw [List.mem_append, hs x, ring_reach hh]
        constructor
        · rintro (⟨b, hb, h2⟩ | h2)
          · exact ⟨b, List.mem_append_left _ hb, h2⟩
          · exact ⟨h, by simp, h2⟩
        · rintro ⟨b, hb, h2⟩
          rcases List.mem_append.1 hb with hb | hb
          · exact .inl ⟨b, hb, h2⟩
          · rw [List.mem_singleton.1 hb] at h2
            exact .inr h2)
      rw [List.length_cons]
      omega
theorem rgs_cyc {f : ByteArray → ByteArray} {RR : ByteArray → Nat} {G : List ByteArray} (hd : G.Nodup) (hp : PermF G f) (hR : ∀ x ∈ G, IsRing f x (RR x)) : (rgs f RR G []).length = cycN G.reverse f := by
  have h1 := rgs_cls f RR G [] [] hR (fun x => by simp)
  have h2 := cls_cyc G.reverse ((List.reverse_perm G).nodup_iff.2 hd) f ⟨fun x hx => List.mem_reverse.2 (hp.1 x (List.mem_reverse.1 hx)), fun x hx y hy e => hp.2 x (List.mem_reverse.1 hx) y (List.mem_reverse.1 hy) e⟩
  rw [List.nil_append, h2] at h1
  rw [← h1]
  simp [clsN]
end Go.Proofs.YtofpjbdelmmclaaGreatDoor

/- Contracts: the reference's course; the number of leads, both sides. -/
namespace Go.Proofs.YtofpjbdelmmclaaGreatDoor
open Go Go.RowKit
set_option linter.unusedVariables false
set_option linter.unusedSimpArgs false

theorem rows_pow (l : List ByteArray) (n : Nat) (H : ByteArray) (j : Nat) : rowsB l (powL n H (j + 1)) = rowsB l (powL n H j) ++ leadB (powB n H j) l := by
  rw [powL_succ]; unfold rowsB; rw [List.flatMap_append]; simp
set_option maxHeartbeats 2000000 in
theorem specLeadsIn_yes (m : Mt) (v : Value) (n K : Nat) (w : World) (hK : MK m n K) (h : MethAt w m v) (hs : MtSmall m) : Calls Tryz.prog 141 #[m.v v] w fun e w' => e = .returned (.tuple #[.int .i64 (K : Int), .bool true]) ∧ Below w.heap.size w w' := by
  have Hg := Lib.hid (fun W (hW : Below w.heap.size w W) => l4Good_any m v W (h.to hW) hs)
  have Hh := Lib.hid (fun W (hW : Below w.heap.size w W) => l4Head_any m v n W hK.g (h.1.to hW))
  have Hp := Lib.hid (fun W => l1Order_any (runB (roundsB n) m.l) n K W hK.g.hi hK.hin hK.ord hK.kb)
  rw [hK.ok] at Hg
  obtain ⟨A, c, hv⟩ := h.form
  subst hv
  unfold Mt.v at *
  clear h hK
  go_enter Tryz.func141, Tryz.ntmps141
  go_wp2_with fail
  refine box1 (C := fun W => Calls _ _ _ W _) ?_
  intro wb hw k1 hB0
  have R1 := boxRule k1
  clear k1
  refine (Hg.out _ hw).mono ?_; rintro e w1 ⟨rfl, hb1⟩
  have hB1 := bw_to hw hb1
  go_wp2_with fail
  refine (Hh.out _ hB1).mono ?_; rintro e w2 ⟨rfl, hb2⟩
  have hB2 := bw_to hB1 hb2
  go_wp2_with fail
  refine (Hp.out _).mono ?_; rintro e w3 ⟨rfl, rfl⟩
  go_wp2_with fail
  go_ret2
  exact ⟨rfl, hB2⟩
set_option maxHeartbeats 2000000 in
theorem specLeadsIn_no (m : Mt) (v : Value) (w : World) (hn : methB m = false) (h : MethAt w m v) (hs : MtSmall m) : Calls Tryz.prog 141 #[m.v v] w fun e w' => e = .returned (.tuple #[.int .i64 0, .bool false]) ∧ Below w.heap.size w w' := by
  have Hg := Lib.hid (fun W (hW : Below w.heap.size w W) => l4Good_any m v W (h.to hW) hs)
  rw [hn] at Hg
  obtain ⟨A, c, hv⟩ := h.form
  subst hv
  unfold Mt.v at *
  clear h hn
  go_enter Tryz.func141, Tryz.ntmps141
  go_wp2_with fail
  refine box1 (C := fun W => Calls _ _ _ W _) ?_
  intro wb hw k1 hB0
  have R1 := boxRule k1
  clear k1
  refine (Hg.out _ hw).mono ?_; rintro e w1 ⟨rfl, hb1⟩
  go_wp2_with fail
  go_ret2
  exact ⟨rfl, bw_to hw hb1⟩
end Go.Proofs.YtofpjbdelmmclaaGreatDoor

/- The repair of a touch: a plain account. -/
namespace Go.Proofs.YtofpjbdelmmclaaGreatDoor
open Go Go.RowKit
set_option linter.unusedVariables false
set_option linter.unusedSimpArgs false

def visitAll (S xs : List ByteArray) : List ByteArray := xs.foldl visitB S
theorem va_cons (S : List ByteArray) (x : ByteArray) (xs : List ByteArray) : visitAll S (x :: xs) = visitAll (visitB S x) xs := rfl
theorem va_snoc (S xs : List ByteArray) (x : ByteArray) : visitAll S (xs ++ [x]) = visitB (visitAll S xs) x := by simp [visitAll]
theorem va_pre : ∀ (xs S : List ByteArray), S <+: visitAll S xs
  | [], S => List.prefix_refl _
  | x :: xs, S => (visit_pre S x).trans (va_pre xs (visitB S x))
theorem va_nodup : ∀ (xs : List ByteArray) {S : List ByteArray}, S.Nodup → (visitAll S xs).Nodup
  | [], S, h => h
  | x :: xs, S, h => va_nodup xs (visit_nodup h x)
theorem visit_iff (L : List ByteArray) (x z : ByteArray) : z ∈ visitB L x ↔ z ∈ L ∨ z = x := by
  unfold visitB
  by_cases h : x ∈ L
  · rw [if_pos h]
    constructor
    · exact .inl
    · rintro (h1 | rfl)
      · exact h1
      · exact h
  · rw [if_neg h]; simp
theorem va_mem : ∀ (xs S : List ByteArray) (z : ByteArray), z ∈ visitAll S xs ↔ z ∈ S ∨ z ∈ xs
  | [], S, z => by simp [visitAll]
  | x :: xs, S, z => by rw [va_cons, va_mem xs, visit_iff, List.mem_cons, or_assoc]
theorem va_len : ∀ (xs S : List ByteArray), (visitAll S xs).length ≤ S.length + xs.length
  | [], S => by simp [visitAll]
  | x :: xs, S => by
    have h := va_len xs (visitB S x)
    have h2 : (visitB S x).length ≤ S.length + 1 := by
      unfold visitB
      by_cases h : x ∈ S
      · rw [if_pos h]; omega
      · rw [if_neg h]; simp
    rw [va_cons, List.length_cons]; omega
/-- What is new behind a list. -/
def newsB (S xs : List ByteArray) : List ByteArray := (visitAll S xs).drop S.length
theorem news_app (S xs : List ByteArray) : S ++ newsB S xs = visitAll S xs := by
  obtain ⟨r, hr⟩ := va_pre xs S
  unfold newsB
  rw [← hr, List.drop_left]
theorem news_nodup {S : List ByteArray} (h : S.Nodup) (xs : List ByteArray) : (newsB S xs).Nodup := by
  have h1 := va_nodup xs h
  rw [← news_app, List.nodup_append] at h1
  exact h1.2.1
theorem news_mem {S : List ByteArray} (h : S.Nodup) (xs : List ByteArray) (z : ByteArray) : z ∈ newsB S xs ↔ z ∈ xs ∧ z ∉ S := by
  have h1 := va_nodup xs h
  rw [← news_app, List.nodup_append] at h1
  have h2 := va_mem xs S z
  rw [← news_app, List.mem_append] at h2
  constructor
  · intro hz
    have hns : z ∉ S := fun hS => h1.2.2 z hS z hz rfl
    rcases h2.1 (.inr hz) with h3 | h3
    · exact absurd h3 hns
    · exact ⟨h3, hns⟩
  · rintro ⟨hz, hn⟩
    rcases h2.2 (.inr hz) with h3 | h3
    · exact absurd h3 hn
    · exact h3
def prodsB (hs L : List ByteArray) : List ByteArray := L.flatMap fun r => hs.map (timesB r)
theorem prods_mem {hs L : List ByteArray} {z : ByteArray} : z ∈ prodsB hs L ↔ ∃ r ∈ L, ∃ h ∈ hs, timesB r h = z := by
  unfold prodsB
  rw [List.mem_flatMap]
  constructor
  · rintro ⟨r, hr, hz⟩
    obtain ⟨h, hh, e⟩ := List.mem_map.1 hz
    exact ⟨r, hr, h, hh, e⟩
  · rintro ⟨r, hr, h, hh, e⟩
    exact ⟨r, hr, List.mem_map.2 ⟨h, hh, e⟩⟩
theorem prods_take {hs L : List ByteArray} {k : Nat} (h : k < L.length) : prodsB hs (L.take (k + 1)) = prodsB hs (L.take k) ++ hs.map (timesB L[k]) := by
  unfold prodsB; rw [List.take_succ_eq_append_getElem h, List.flatMap_append]; simp
theorem prods_len (hs : List ByteArray) : ∀ L : List ByteArray, (prodsB hs L).length = L.length * hs.length
  | [] => by simp [prodsB]
  | r :: L => by
    have ih := prods_len hs L
    unfold prodsB at ih ⊢
    rw [List.flatMap_cons, List.length_append, ih, List.length_map, List.length_cons, Nat.succ_mul, Nat.add_comm]
/-- The layers, and what is seen with each. -/
def lsR (hs : List ByteArray) (fr : ByteArray) : Nat → List ByteArray × List ByteArray
  | 0 => ([fr], [fr])
  | i + 1 => (sortB (newsB (lsR hs fr i).2 (prodsB hs (lsR hs fr i).1)), visitAll (lsR hs fr i).2 (prodsB hs (lsR hs fr i).1))
def layR (hs : List ByteArray) (fr : ByteArray) (i : Nat) : List ByteArray := (lsR hs fr i).1
def seenR (hs : List ByteArray) (fr : ByteArray) (i : Nat) : List ByteArray := (lsR hs fr i).2
theorem layR_succ (hs : List ByteArray) (fr : ByteArray) (i : Nat) : layR hs fr (i + 1) = sortB (newsB (seenR hs fr i) (prodsB hs (layR hs fr i))) := rfl
theorem seenR_succ (hs : List ByteArray) (fr : ByteArray) (i : Nat) : seenR hs fr (i + 1) = visitAll (seenR hs fr i) (prodsB hs (layR hs fr i)) := rfl
theorem seenR_nodup (hs : List ByteArray) (fr : ByteArray) : ∀ i, (seenR hs fr i).Nodup
  | 0 => by simp [seenR, lsR]
  | i + 1 => by rw [seenR_succ]; exact va_nodup _ (seenR_nodup hs fr i)
theorem layR_new {hs : List ByteArray} {fr : ByteArray} {i : Nat} {z : ByteArray} : z ∈ layR hs fr (i + 1) ↔ z ∈ prodsB hs (layR hs fr i) ∧ z ∉ seenR hs fr i := by
  rw [layR_succ, sortB_mem]; exact news_mem (seenR_nodup hs fr i) _ _
theorem layR_nodup (hs : List ByteArray) (fr : ByteArray) : ∀ i, (layR hs fr i).Nodup
  | 0 => by simp [layR, lsR]
  | i + 1 => by rw [layR_succ]; exact sortB_nodup (news_nodup (seenR_nodup hs fr i) _)
theorem layR_sorted (hs : List ByteArray) (fr : ByteArray) (i : Nat) : SortedS (layR hs fr (i + 1)) := by rw [layR_succ]; exact sortB_sorted _
theorem seenR_mem {hs : List ByteArray} {fr : ByteArray} : ∀ (k : Nat) (z : ByteArray), z ∈ seenR hs fr k ↔ ∃ i, i ≤ k ∧ z ∈ layR hs fr i
  | 0, z => by
    constructor
    · intro h; exact ⟨0, by omega, h⟩
    · rintro ⟨i, hi, h⟩
      obtain rfl : i = 0 := by omega
      exact h
  | k + 1, z => by
    have ih := seenR_mem (hs := hs) (fr := fr) k z
    rw [seenR_succ, va_mem]
    constructor
    · rintro (h | h)
      · obtain ⟨i, hi, h2⟩ := ih.1 h
        exact ⟨i, by omega, h2⟩
      · by_cases hs' : z ∈ seenR hs fr k
        · obtain ⟨i, hi, h2⟩ := ih.1 hs'
          exact ⟨i, by omega, h2⟩
        · exact ⟨k + 1, by omega, layR_new.2 ⟨h, hs'⟩⟩
    · rintro ⟨i, hi, h⟩
      by_cases e : i = k + 1
      · subst e; exact .inr (layR_new.1 h).1
      · exact .inl (ih.2 ⟨i, by omega, h⟩)
theorem layR_apart {hs : List ByteArray} {fr z : ByteArray} {i j : Nat} (hi : z ∈ layR hs fr i) (hj : z ∈ layR hs fr j) : i = j := by
  have key : ∀ a b, a < b → z ∈ layR hs fr a → z ∈ layR hs fr b → False := fun a b hab ha hb => by
    obtain ⟨c, rfl⟩ : ∃ c, b = c + 1 := ⟨b - 1, by omega⟩
    exact (layR_new.1 hb).2 ((seenR_mem c z).2 ⟨a, by omega, ha⟩)
  rcases Nat.lt_trichotomy i j with h | h | h
  · exact (key i j h hi hj).elim
  · exact h
  · exact (key j i h hj hi).elim
theorem layR_step {hs : List ByteArray} {fr x h : ByteArray} {i : Nat} (hx : x ∈ layR hs fr i) (hh : h ∈ hs) : ∃ k, k ≤ i + 1 ∧ timesB x h ∈ layR hs fr k := by
  have h1 : timesB x h ∈ seenR hs fr (i + 1) := by
    rw [seenR_succ, va_mem]
    exact .inr (prods_mem.2 ⟨x, hx, h, hh, rfl⟩)
  obtain ⟨k, hk, h2⟩ := (seenR_mem (i + 1) _).1 h1
  exact ⟨k, hk, h2⟩
theorem layR_pred {hs : List ByteArray} {fr y : ByteArray} {i : Nat} (hy : y ∈ layR hs fr (i + 1)) : ∃ x ∈ layR hs fr i, ∃ h ∈ hs, timesB x h = y := prods_mem.1 (layR_new.1 hy).1
theorem seenR_len (hs : List ByteArray) (fr : ByteArray) (i : Nat) : (seenR hs fr (i + 1)).length = (seenR hs fr i).length + (layR hs fr (i + 1)).length := by
  rw [layR_succ, sortB_len, seenR_succ, ← news_app, List.length_append]
theorem layR_le (hs : List ByteArray) (fr : ByteArray) : ∀ i, (layR hs fr i).length ≤ (seenR hs fr i).length
  | 0 => by simp [layR, seenR, lsR]
  | i + 1 => by rw [seenR_len]; omega
/-- How many steps the search takes. -/
def repGo (hs : List ByteArray) (fr tg : ByteArray) : Nat → Nat → Option Nat
  | 0, _ => none
  | f + 1, i => if 800 < (seenR hs fr i).length then none else if tg ∈ layR hs fr (i + 1) then some (i + 1) else repGo hs fr tg f (i + 1)
def repB (hs : List ByteArray) (fr tg : ByteArray) : Option Nat := repGo hs fr tg 8 0
theorem repGo_some {hs : List ByteArray} {fr tg : ByteArray} : ∀ (f i N : Nat), repGo hs fr tg f i = some N → i < N ∧ N ≤ i + f ∧ tg ∈ layR hs fr N ∧ (seenR hs fr (N - 1)).length ≤ 800
  | 0, i, N, h => by cases h
  | f + 1, i, N, h => by
    rw [repGo] at h
    by_cases h1 : 800 < (seenR hs fr i).length
    · rw [if_pos h1] at h; cases h
    · rw [if_neg h1] at h
      by_cases h2 : tg ∈ layR hs fr (i + 1)
      · rw [if_pos h2] at h
        cases h
        exact ⟨by omega, by omega, h2, by simpa using Nat.not_lt.1 h1⟩
      · rw [if_neg h2] at h
        obtain ⟨h3, h4, h5, h6⟩ := repGo_some f (i + 1) N h
        exact ⟨by omega, by omega, h5, h6⟩
/-- The least touch of n calls that leads there. -/
def leastB (F : UInt8 → ByteArray) (tg : ByteArray) : Nat → ByteArray → Option (List UInt8)
  | 0, r => if r = tg then some [] else none
  | n + 1, r => match leastB F tg n (timesB r (F 98)) with
    | some t => some (98 :: t)
    | none => match leastB F tg n (timesB r (F 112)) with
      | some t => some (112 :: t)
      | none => match leastB F tg n (timesB r (F 115)) with
        | some t => some (115 :: t)
        | none => none
def headsR (F : UInt8 → ByteArray) : List ByteArray := [F 112, F 98, F 115]
theorem least_step {F : UInt8 → ByteArray} {tg : ByteArray} {n : Nat} {r : ByteArray} : (leastB F tg (n + 1) r).isSome = true ↔ ∃ h ∈ headsR F, (leastB F tg n (timesB r h)).isSome = true := by
  rw [leastB]
  unfold headsR
  cases h1 : leastB F tg n (timesB r (F 98))
  · cases h2 : leastB F tg n (timesB r (F 112))
    · cases h3 : leastB F tg n (timesB r (F 115))
      · simp [h1, h2, h3]
      · simp [h1, h2, h3]
    · simp [h1, h2]
  · simp [h1]
/-- From a layer no row leads there faster. -/
theorem least_far {F : UInt8 → ByteArray} {fr tg : ByteArray} {N : Nat} (ht : tg ∈ layR (headsR F) fr N) : ∀ (d k : Nat) (x : ByteArray), x ∈ layR (headsR F) fr k → (leastB F tg d x).isSome = true → N ≤ k + d
  | 0, k, x, hx, h => by
    rw [leastB] at h
    by_cases e : x = tg
    · subst e; have := layR_apart hx ht; omega
    · rw [if_neg e] at h; cases h
  | d + 1, k, x, hx, h => by
    obtain ⟨g, hg, h2⟩ := least_step.1 h
    obtain ⟨j, hj, hy⟩ := layR_step hx hg
    have := least_far ht d j _ hy h2
    omega
/-- The rows from which the way on leads there. -/
def goodR (F : UInt8 → ByteArray) (fr tg : ByteArray) (N i : Nat) (r : ByteArray) : Prop := r ∈ layR (headsR F) fr i ∧ (leastB F tg (N - i) r).isSome = true
theorem goodR_top {F : UInt8 → ByteArray} {fr tg : ByteArray} {N : Nat} (ht : tg ∈ layR (headsR F) fr N) (r : ByteArray) : goodR F fr tg N N r ↔ r = tg := by
  unfold goodR
  rw [Nat.sub_self, leastB]
  constructor
  · rintro ⟨_, h⟩
    by_cases e : r = tg
    · exact e
    · rw [if_neg e] at h; cases h
  · rintro rfl
    exact ⟨ht, by simp⟩
theorem goodR_next {F : UInt8 → ByteArray} {fr tg : ByteArray} {N i : Nat} (ht : tg ∈ layR (headsR F) fr N) (hi : i < N) {r h : ByteArray} (hr : r ∈ layR (headsR F) fr i) (hh : h ∈ headsR F) : goodR F fr tg N (i + 1) (timesB r h) ↔ (leastB F tg (N - (i + 1)) (timesB r h)).isSome = true := by
  constructor
  · exact fun h => h.2
  · intro h2
    obtain ⟨k, hk, hy⟩ := layR_step hr hh
    have := least_far ht _ k _ hy h2
    obtain rfl : k = i + 1 := by omega
    exact ⟨hy, h2⟩
theorem goodR_step {F : UInt8 → ByteArray} {fr tg : ByteArray} {N i : Nat} (ht : tg ∈ layR (headsR F) fr N) (hi : i < N) {r : ByteArray} (hr : r ∈ layR (headsR F) fr i) : goodR F fr tg N i r ↔ ∃ h ∈ headsR F, goodR F fr tg N (i + 1) (timesB r h) := by
  have e : N - i = N - (i + 1) + 1 := by omega
  have h1 : goodR F fr tg N i r ↔ (leastB F tg (N - (i + 1) + 1) r).isSome = true := by
    unfold goodR; rw [e]
    exact ⟨fun h => h.2, fun h => ⟨hr, h⟩⟩
  rw [h1, least_step]
  constructor
  · rintro ⟨h, hh, h2⟩; exact ⟨h, hh, (goodR_next ht hi hr hh).2 h2⟩
  · rintro ⟨h, hh, h2⟩; exact ⟨h, hh, h2.2⟩
theorem goodR_from {F : UInt8 → ByteArray} {fr tg : ByteArray} {N : Nat} (ht : tg ∈ layR (headsR F) fr N) : ∀ d, d ≤ N → ∃ r ∈ layR (headsR F) fr (N - d), (leastB F tg d r).isSome = true
  | 0, _ => ⟨tg, by simpa using ht, by simp [leastB]⟩
  | d + 1, hd => by
    obtain ⟨y, hy, h⟩ := goodR_from ht d (by omega)
    have e : N - d = N - (d + 1) + 1 := by omega
    rw [e] at hy
    obtain ⟨x, hx, g, hg, rfl⟩ := layR_pred hy
    exact ⟨x, hx, least_step.2 ⟨g, hg, h⟩⟩
theorem least_from {F : UInt8 → ByteArray} {fr tg : ByteArray} {N : Nat} (ht : tg ∈ layR (headsR F) fr N) : (leastB F tg N fr).isSome = true := by
  obtain ⟨r, hr, h⟩ := goodR_from ht N (Nat.le_refl _)
  rw [Nat.sub_self] at hr
  have e : r = fr := by simpa [layR, lsR] using hr
  rw [← e]; exact h
/-- The repair's answer. -/
def mendB (F : UInt8 → ByteArray) (fr tg : ByteArray) : Option (List UInt8) := match repB (headsR F) fr tg with
  | some N => leastB F tg N fr
  | none => none
end Go.Proofs.YtofpjbdelmmclaaGreatDoor
