/- The number of rings of a permutation changes its parity with each exchange of two rows: a plain account. -/
import Derived.Test.YtajffjkmmenaoaaGreatPk17
namespace Go.Proofs.YtajffjkmmenaoaaGreat
open Go Go.RowKit
set_option linter.unusedVariables false
set_option linter.unusedSimpArgs false

/-- A function that leaves out a row. -/
def skipF (a : ByteArray) (f : ByteArray → ByteArray) (x : ByteArray) : ByteArray := if f x = a then f a else f x
/-- The number of cycles. -/
def cycN : List ByteArray → (ByteArray → ByteArray) → Nat
  | [], _ => 0
  | a :: l, f => (if f a = a then 1 else 0) + cycN l (skipF a f)
theorem cyc_congr : ∀ (l : List ByteArray) (f g : ByteArray → ByteArray), (∀ x ∈ l, f x = g x) → cycN l f = cycN l g
  | [], _, _, _ => rfl
  | a :: l, f, g, h => by
    have ha := h a (List.mem_cons_self ..)
    have h2 := cyc_congr l (skipF a f) (skipF a g) (fun x hx => by
      unfold skipF
      rw [ha, h x (List.mem_cons_of_mem _ hx)])
    unfold cycN
    rw [ha, h2]
/-- A permutation of a list's rows. -/
def PermF (l : List ByteArray) (f : ByteArray → ByteArray) : Prop := (∀ x ∈ l, f x ∈ l) ∧ ∀ x ∈ l, ∀ y ∈ l, f x = f y → x = y
theorem PermF.onto {l : List ByteArray} {f : ByteArray → ByteArray} (h : PermF l f) (hd : l.Nodup) {y : ByteArray} (hy : y ∈ l) : ∃ x ∈ l, f x = y := by
  apply Classical.byContradiction
  intro hn
  have hnd : (y :: l.map f).Nodup := by
    rw [List.nodup_cons]
    refine ⟨fun hm => ?_, ?_⟩
    · obtain ⟨x, hx, e⟩ := List.mem_map.1 hm
      exact hn ⟨x, hx, e⟩
    · rw [List.Nodup, List.pairwise_map]
      exact hd.imp_of_mem (fun {a b} ha hb hab e => hab (h.2 a ha b hb e))
  have := nodup_le _ l hnd (fun x hx => by
    rcases List.mem_cons.1 hx with rfl | hx
    · exact hy
    · obtain ⟨z, hz, rfl⟩ := List.mem_map.1 hx
      exact h.1 z hz)
  rw [List.length_cons, List.length_map] at this
  omega
theorem PermF.skip {a : ByteArray} {l : List ByteArray} {f : ByteArray → ByteArray} (h : PermF (a :: l) f) (hd : (a :: l).Nodup) : PermF l (skipF a f) := by
  rw [List.nodup_cons] at hd
  have ma : a ∈ a :: l := List.mem_cons_self ..
  have ml : ∀ x ∈ l, x ∈ a :: l := fun x hx => List.mem_cons_of_mem _ hx
  have hne : ∀ x ∈ l, x ≠ a := fun x hx e => hd.1 (by rw [← e]; exact hx)
  refine ⟨fun x hx => ?_, fun x hx y hy e => ?_⟩
  · unfold skipF
    split
    · rename_i e
      rcases List.mem_cons.1 (h.1 a ma) with e2 | e2
      · exact absurd (h.2 x (ml x hx) a ma (by rw [e, e2])) (hne x hx)
      · exact e2
    · rename_i e
      rcases List.mem_cons.1 (h.1 x (ml x hx)) with e2 | e2
      · exact absurd e2 e
      · exact e2
  · unfold skipF at e
    split at e
    · rename_i e1
      split at e
      · rename_i e2
        exact h.2 x (ml x hx) y (ml y hy) (by rw [e1, e2])
      · exact absurd (h.2 a ma y (ml y hy) e).symm (hne y hy)
    · split at e
      · exact absurd (h.2 x (ml x hx) a ma e) (hne x hx)
      · exact h.2 x (ml x hx) y (ml y hy) e
/-- Two rows exchanged. -/
def swapF (u v x : ByteArray) : ByteArray := if x = u then v else if x = v then u else x
theorem swapF_l (u v : ByteArray) : swapF u v u = v := by simp [swapF]
theorem swapF_r (u v : ByteArray) : swapF u v v = u := by unfold swapF; split <;> simp_all
theorem swapF_o {u v x : ByteArray} (h1 : x ≠ u) (h2 : x ≠ v) : swapF u v x = x := by simp [swapF, h1, h2]
theorem swapF_comm (u v : ByteArray) : swapF u v = swapF v u := by
  funext x
  by_cases h1 : x = u
  · subst h1; rw [swapF_l, swapF_r]
  · by_cases h2 : x = v
    · subst h2; rw [swapF_l, swapF_r]
    · rw [swapF_o h1 h2, swapF_o h2 h1]
theorem swapF_in {l : List ByteArray} {u v x : ByteArray} (hu : u ∈ l) (hv : v ∈ l) (hx : x ∈ l) : swapF u v x ∈ l := by
  unfold swapF; split
  · exact hv
  · split
    · exact hu
    · exact hx
theorem swapF_inv (u v x : ByteArray) : swapF u v (swapF u v x) = x := by
  by_cases h1 : x = u
  · subst h1; rw [swapF_l, swapF_r]
  · by_cases h2 : x = v
    · subst h2; rw [swapF_r, swapF_l]
    · rw [swapF_o h1 h2, swapF_o h1 h2]
theorem PermF.swap {l : List ByteArray} {f : ByteArray → ByteArray} (h : PermF l f) {u v : ByteArray} (hu : u ∈ l) (hv : v ∈ l) : PermF l (fun x => f (swapF u v x)) :=
  ⟨fun x hx => h.1 _ (swapF_in hu hv hx), fun x hx y hy e => by
    have := h.2 _ (swapF_in hu hv hx) _ (swapF_in hu hv hy) e
    rw [← swapF_inv u v x, this, swapF_inv]⟩
theorem cyc_cons (a : ByteArray) (l : List ByteArray) (f : ByteArray → ByteArray) : cycN (a :: l) f = (if f a = a then 1 else 0) + cycN l (skipF a f) := rfl
theorem cyc_swap : ∀ (l : List ByteArray), l.Nodup → ∀ (f : ByteArray → ByteArray), PermF l f → ∀ u v, u ∈ l → v ∈ l → u ≠ v → (cycN l (fun x => f (swapF u v x)) + cycN l f) % 2 = 1
  | [], _, _, _, u, v, hu, _, _ => by cases hu
  | a :: l, hd, f, hp, u, v, hu, hv, huv => by
    have hd2 := hd
    rw [List.nodup_cons] at hd2
    have ma : a ∈ a :: l := List.mem_cons_self ..
    have ml : ∀ x ∈ l, x ∈ a :: l := fun x hx => List.mem_cons_of_mem _ hx
    have hne : ∀ x ∈ l, x ≠ a := fun x hx e => hd2.1 (by rw [← e]; exact hx)
    have head : ∀ v ∈ l, (cycN (a :: l) (fun x => f (swapF a v x)) + cycN (a :: l) f) % 2 = 1 := by
      intro v hv
      have hva := hne v hv
      obtain ⟨g, hg⟩ : ∃ g : ByteArray → ByteArray, g = fun x => f (swapF a v x) := ⟨_, rfl⟩
      have ga : g a = f v := by rw [hg]; show f (swapF a v a) = f v; rw [swapF_l]
      have gv : g v = f a := by rw [hg]; show f (swapF a v v) = f a; rw [swapF_r]
      have go : ∀ x, x ≠ a → x ≠ v → g x = f x := fun x h1 h2 => by rw [hg]; show f (swapF a v x) = f x; rw [swapF_o h1 h2]
      rw [← hg, cyc_cons, cyc_cons, ga]
      by_cases h1 : f a = a
      · have h2 : f v ≠ a := fun e => hva (hp.2 v (ml v hv) a ma (by rw [e, h1]))
        have h3 : ∀ x ∈ l, f x ≠ a := fun x hx e => hne x hx (hp.2 x (ml x hx) a ma (by rw [e, h1]))
        have e1 : cycN l (skipF a f) = cycN l f := cyc_congr l _ _ (fun x hx => by unfold skipF; rw [if_neg (h3 x hx)])
        have e2 : cycN l (skipF a g) = cycN l f := cyc_congr l _ _ (fun x hx => by
          unfold skipF
          by_cases hxv : x = v
          · subst hxv; rw [gv, if_pos h1, ga]
          · rw [go x (hne x hx) hxv, if_neg (h3 x hx)])
        rw [e1, e2, if_pos h1, if_neg h2]
        omega
      · by_cases h2 : f v = a
        · have h3 : ∀ x ∈ l, x ≠ v → f x ≠ a := fun x hx hxv e => hxv (hp.2 x (ml x hx) v (ml v hv) (by rw [e, h2]))
          have e2 : cycN l (skipF a g) = cycN l (skipF a f) := cyc_congr l _ _ (fun x hx => by
            unfold skipF
            by_cases hxv : x = v
            · subst hxv; rw [gv, if_neg h1, if_pos h2]
            · rw [go x (hne x hx) hxv, if_neg (h3 x hx hxv), if_neg (h3 x hx hxv)])
          rw [e2, if_neg h1, if_pos h2]
          omega
        · obtain ⟨p, hpm, hpe⟩ := hp.onto hd ma
          have hpa : p ≠ a := fun e => h1 (by rw [← e]; rw [hpe, e])
          have hpv : p ≠ v := fun e => h2 (by rw [← e]; exact hpe)
          have hpl : p ∈ l := by
            rcases List.mem_cons.1 hpm with e | e
            · exact absurd e hpa
            · exact e
          have h3 : ∀ x ∈ l, x ≠ p → f x ≠ a := fun x hx hxp e => hxp (hp.2 x (ml x hx) p hpm (by rw [e, hpe]))
          have ih := cyc_swap l hd2.2 (skipF a f) (hp.skip hd) p v hpl hv hpv
          have e2 : cycN l (skipF a g) = cycN l (fun x => skipF a f (swapF p v x)) := cyc_congr l _ _ (fun x hx => by
            by_cases hxp : x = p
            · subst hxp
              show skipF a g x = skipF a f (swapF x v x)
              rw [swapF_l]
              unfold skipF
              rw [go x (hne x hx) hpv, if_pos hpe, ga, if_neg h2]
            · by_cases hxv : x = v
              · subst hxv
                show skipF a g x = skipF a f (swapF p x x)
                rw [swapF_r]
                unfold skipF
                rw [gv, if_neg h1, if_pos hpe]
              · show skipF a g x = skipF a f (swapF p v x)
                rw [swapF_o hxp hxv]
                unfold skipF
                rw [go x (hne x hx) hxv, ga, if_neg (h3 x hx hxp), if_neg (h3 x hx hxp)])
          rw [e2, if_neg h1, if_neg h2]
          omega
    rcases List.mem_cons.1 hu with rfl | hul
    · rcases List.mem_cons.1 hv with rfl | hvl
      · exact absurd rfl huv
      · exact head v hvl
    · rcases List.mem_cons.1 hv with rfl | hvl
      · rw [swapF_comm]; exact head u hul
      · have ih := cyc_swap l hd2.2 (skipF a f) (hp.skip hd) u v hul hvl huv
        have hau : a ≠ u := fun e => hne u hul e.symm
        have hav : a ≠ v := fun e => hne v hvl e.symm
        rw [cyc_cons, cyc_cons]
        have e1 : f (swapF u v a) = f a := by rw [swapF_o hau hav]
        have e2 : cycN l (skipF a fun x => f (swapF u v x)) = cycN l (fun x => skipF a f (swapF u v x)) := cyc_congr l _ _ (fun x hx => by
          show (if f (swapF u v x) = a then f (swapF u v a) else f (swapF u v x)) = (if f (swapF u v x) = a then f a else f (swapF u v x))
          rw [e1])
        rw [e2]
        show ((if f (swapF u v a) = a then 1 else 0) + _ + _) % 2 = 1
        rw [e1]
        omega
/-- A ring of rows turned by one. -/
theorem cyc_turn {l : List ByteArray} (hd : l.Nodup) {f : ByteArray → ByteArray} {c : Nat → ByteArray} : ∀ (j : Nat) (g : ByteArray → ByteArray), PermF l g → (∀ i, i ≤ j → c i ∈ l) → (∀ i k, i < k → k ≤ j → c i ≠ c k) →
    g (c 0) = f (c j) → (∀ i, i < j → g (c (i + 1)) = f (c i)) → (∀ x ∈ l, (∀ i, i ≤ j → x ≠ c i) → g x = f x) → (cycN l g + cycN l f) % 2 = j % 2
  | 0, g, _, _, _, h0, _, ho => by
    have e : cycN l g = cycN l f := cyc_congr l _ _ (fun x hx => by
      by_cases hx0 : x = c 0
      · rw [hx0]; exact h0
      · exact ho x hx (fun i hi => by
          obtain rfl : i = 0 := by omega
          exact hx0))
    rw [e]; omega
  | j + 1, g, hp, hc, hne, h0, hs, ho => by
    have h1 := cyc_swap l hd g hp (c 0) (c (j + 1)) (hc 0 (by omega)) (hc _ (Nat.le_refl _)) (hne 0 (j + 1) (by omega) (Nat.le_refl _))
    have h2 := cyc_turn hd j (fun x => g (swapF (c 0) (c (j + 1)) x)) (hp.swap (hc 0 (by omega)) (hc _ (Nat.le_refl _))) (fun i hi => hc i (by omega)) (fun i k h1 h2 => hne i k h1 (by omega))
      (by show g (swapF (c 0) (c (j + 1)) (c 0)) = f (c j); rw [swapF_l]; exact hs j (by omega))
      (fun i hi => by
        show g (swapF (c 0) (c (j + 1)) (c (i + 1))) = f (c i)
        rw [swapF_o (fun e => hne 0 (i + 1) (by omega) (by omega) e.symm) (hne (i + 1) (j + 1) (by omega) (Nat.le_refl _))]
        exact hs i (by omega))
      (fun x hx hxn => by
        show g (swapF (c 0) (c (j + 1)) x) = f x
        by_cases hxj : x = c (j + 1)
        · rw [hxj, swapF_r]; exact h0
        · rw [swapF_o (hxn 0 (by omega)) hxj]
          exact ho x hx (fun i hi => by
            rcases Nat.lt_or_ge j i with h | h
            · obtain rfl : i = j + 1 := by omega
              exact hxj
            · exact hxn i h))
    omega
/-- From a row to another one. -/
def reachF (f : ByteArray → ByteArray) (x y : ByteArray) : Prop := ∃ k, iterB f x k = y
theorem iter_add (f : ByteArray → ByteArray) (x : ByteArray) (i : Nat) : ∀ j, iterB f x (i + j) = iterB f (iterB f x i) j
  | 0 => rfl
  | j + 1 => by
    show f (iterB f x (i + j)) = f (iterB f (iterB f x i) j)
    rw [iter_add f x i j]
theorem iter_succ (f : ByteArray → ByteArray) (x : ByteArray) (k : Nat) : iterB f x (k + 1) = iterB f (f x) k := by
  rw [Nat.add_comm]; exact iter_add f x 1 k
theorem reachF.trans {f : ByteArray → ByteArray} {x y z : ByteArray} (h : reachF f x y) (h2 : reachF f y z) : reachF f x z := by
  obtain ⟨i, rfl⟩ := h
  obtain ⟨j, rfl⟩ := h2
  exact ⟨i + j, iter_add f x i j⟩
theorem reachF.refl (f : ByteArray → ByteArray) (x : ByteArray) : reachF f x x := ⟨0, rfl⟩
theorem reachF.one (f : ByteArray → ByteArray) (x : ByteArray) : reachF f x (f x) := ⟨1, rfl⟩
open Classical in
/-- The number of classes: of the rows that no later one reaches. -/
noncomputable def clsN (E : ByteArray → ByteArray → Prop) : List ByteArray → Nat
  | [] => 0
  | a :: l => (if ∃ b ∈ l, E b a then 0 else 1) + clsN E l
theorem cls_congr (E E' : ByteArray → ByteArray → Prop) : ∀ l : List ByteArray, (∀ x ∈ l, ∀ y ∈ l, (E x y ↔ E' x y)) → clsN E l = clsN E' l
  | [], _ => rfl
  | a :: l, h => by
    have ih := cls_congr E E' l (fun x hx y hy => h x (List.mem_cons_of_mem _ hx) y (List.mem_cons_of_mem _ hy))
    have e : (∃ b ∈ l, E b a) ↔ ∃ b ∈ l, E' b a := ⟨fun ⟨b, hb, h2⟩ => ⟨b, hb, (h b (List.mem_cons_of_mem _ hb) a (List.mem_cons_self ..)).1 h2⟩, fun ⟨b, hb, h2⟩ => ⟨b, hb, (h b (List.mem_cons_of_mem _ hb) a (List.mem_cons_self ..)).2 h2⟩⟩
    unfold clsN
    rw [ih]
    by_cases hx : ∃ b ∈ l, E b a
    · rw [if_pos hx, if_pos (e.1 hx)]
    · rw [if_neg hx, if_neg (fun h => hx (e.2 h))]
theorem skip_reach {a : ByteArray} {l : List ByteArray} {f : ByteArray → ByteArray} (hp : PermF (a :: l) f) (hd : (a :: l).Nodup) {x y : ByteArray} (hx : x ∈ l) (hy : y ∈ l) : reachF f x y ↔ reachF (skipF a f) x y := by
  have hd2 := hd
  rw [List.nodup_cons] at hd2
  have ma : a ∈ a :: l := List.mem_cons_self ..
  have ml : ∀ x ∈ l, x ∈ a :: l := fun x hx => List.mem_cons_of_mem _ hx
  have hne : ∀ x ∈ l, x ≠ a := fun x hx e => hd2.1 (by rw [← e]; exact hx)
  constructor
  · rintro ⟨k, hk⟩
    have key : ∀ N k x, k ≤ N → x ∈ l → iterB f x k = y → reachF (skipF a f) x y := by
      intro N
      induction N with
      | zero =>
        intro k x hkN hx e
        obtain rfl : k = 0 := by omega
        exact ⟨0, e⟩
      | succ N ih =>
        intro k x hkN hx e
        cases k with
        | zero => exact ⟨0, e⟩
        | succ k =>
          rw [iter_succ] at e
          by_cases hfa : f x = a
          · cases k with
            | zero => exact absurd (by rw [← e]; exact hfa) (hne y hy)
            | succ k =>
              rw [iter_succ, hfa] at e
              have es : skipF a f x = f a := by unfold skipF; rw [if_pos hfa]
              have hin := (hp.skip hd).1 x hx
              rw [es] at hin
              have h2 := ih k (f a) (by omega) hin e
              have h3 := reachF.one (skipF a f) x
              rw [es] at h3
              exact h3.trans h2
          · have es : skipF a f x = f x := by unfold skipF; rw [if_neg hfa]
            have hin := (hp.skip hd).1 x hx
            rw [es] at hin
            have h2 := ih k (f x) (by omega) hin e
            have h3 := reachF.one (skipF a f) x
            rw [es] at h3
            exact h3.trans h2
    exact key k k x (Nat.le_refl _) hx hk
  · rintro ⟨k, rfl⟩
    clear hy
    induction k with
    | zero => exact ⟨0, rfl⟩
    | succ k ih =>
      refine ih.trans ?_
      show reachF f (iterB (skipF a f) x k) (skipF a f (iterB (skipF a f) x k))
      generalize iterB (skipF a f) x k = z
      unfold skipF
      split
      · rename_i e
        have h3 := reachF.one f z
        rw [e] at h3
        exact h3.trans (reachF.one f a)
      · exact reachF.one f _
theorem reach_home {l : List ByteArray} {f : ByteArray → ByteArray} (hp : PermF l f) {x : ByteArray} (hx : x ∈ l) : reachF f (f x) x := by
  obtain ⟨R, _, h1, h2, _⟩ := ring_ex hp.1 hp.2 hx
  obtain ⟨r, rfl⟩ : ∃ r, R = r + 1 := ⟨R - 1, by omega⟩
  exact ⟨r, by rw [← iter_succ]; exact h2⟩
theorem cls_cyc : ∀ (l : List ByteArray), l.Nodup → ∀ f : ByteArray → ByteArray, PermF l f → clsN (reachF f) l = cycN l f
  | [], _, _, _ => rfl
  | a :: l, hd, f, hp => by
    have hd2 := hd
    rw [List.nodup_cons] at hd2
    have ma : a ∈ a :: l := List.mem_cons_self ..
    have ml : ∀ x ∈ l, x ∈ a :: l := fun x hx => List.mem_cons_of_mem _ hx
    have hne : ∀ x ∈ l, x ≠ a := fun x hx e => hd2.1 (by rw [← e]; exact hx)
    have ih := cls_cyc l hd2.2 (skipF a f) (hp.skip hd)
    have e1 := cls_congr (reachF f) (reachF (skipF a f)) l (fun x hx y hy => skip_reach hp hd hx hy)
    rw [cyc_cons]
    unfold clsN
    rw [e1, ih]
    by_cases h1 : f a = a
    · have hn : ¬ ∃ b ∈ l, reachF f b a := by
        rintro ⟨b, hb, k, hk⟩
        have key : ∀ k, iterB f b k ∈ l := by
          intro k
          induction k with
          | zero => exact hb
          | succ k ih =>
            show f (iterB f b k) ∈ l
            rcases List.mem_cons.1 (hp.1 _ (ml _ ih)) with e | e
            · exact absurd (hp.2 _ (ml _ ih) a ma (by rw [e, h1])) (hne _ ih)
            · exact e
        exact hne _ (key k) hk
      rw [if_pos h1, if_neg hn]
    · have hy : ∃ b ∈ l, reachF f b a := by
        rcases List.mem_cons.1 (hp.1 a ma) with e | e
        · exact absurd e h1
        · exact ⟨f a, e, reach_home hp ma⟩
      rw [if_neg h1, if_pos hy]
/-- A ring's rows are those that its first reaches. -/
theorem ring_reach {f : ByteArray → ByteArray} {h : ByteArray} {R : Nat} (hR : IsRing f h R) (x : ByteArray) : x ∈ ringL f h R ↔ reachF f h x := by
  constructor
  · intro hx
    obtain ⟨k, _, rfl⟩ := List.mem_map.1 hx
    exact ⟨k, rfl⟩
  · rintro ⟨k, rfl⟩
    have key : ∀ N k, k ≤ N → iterB f h k ∈ ringL f h R := by
      intro N
      induction N with
      | zero =>
        intro k hk
        obtain rfl : k = 0 := by omega
        exact List.mem_map.2 ⟨0, List.mem_range.2 hR.1, rfl⟩
      | succ N ih =>
        intro k hk
        rcases Nat.lt_or_ge k R with h1 | h1
        · exact List.mem_map.2 ⟨k, List.mem_range.2 h1, rfl⟩
        · have e : iterB f h k = iterB f h (k - R) := by
            have := iter_add f h R (k - R)
            rw [hR.2.1, show R + (k - R) = k by omega] at this
            exact this
          rw [e]
          exact ih (k - R) (by have := hR.1; omega)
    exact key k k (Nat.le_refl _)
theorem rgs_cls (f : ByteArray → ByteArray) (RR : ByteArray → Nat) : ∀ (l pre seen : List ByteArray), (∀ x ∈ l, IsRing f x (RR x)) → (∀ x, x ∈ seen ↔ ∃ b ∈ pre, reachF f b x) → (rgs f RR l seen).length + clsN (reachF f) pre.reverse = clsN (reachF f) (pre ++ l).reverse
  | [], pre, seen, _, _ => by rw [rgs]; simp
  | h :: t, pre, seen, hR, hs => by
    have hh := hR h (List.mem_cons_self ..)
    have hex : (∃ b ∈ pre.reverse, reachF f b h) ↔ h ∈ seen := by
      rw [hs h]
      constructor
      · rintro ⟨b, hb, h2⟩; exact ⟨b, List.mem_reverse.1 hb, h2⟩
      · rintro ⟨b, hb, h2⟩; exact ⟨b, List.mem_reverse.2 hb, h2⟩
    have e1 : clsN (reachF f) (pre ++ [h]).reverse = (if h ∈ seen then 0 else 1) + clsN (reachF f) pre.reverse := by
      rw [List.reverse_append]
      show clsN (reachF f) (h :: pre.reverse) = _
      unfold clsN
      by_cases hx : h ∈ seen
      · rw [if_pos hx, if_pos (hex.2 hx)]
        cases pre.reverse <;> rfl
      · rw [if_neg hx, if_neg (fun h2 => hx (hex.1 h2))]
        cases pre.reverse <;> rfl
    have e2 : pre ++ h :: t = (pre ++ [h]) ++ t := by simp
    rw [e2, rgs]
    by_cases hx : h ∈ seen
    · rw [if_pos hx] at e1 ⊢
      have ih := rgs_cls f RR t (pre ++ [h]) seen (fun x hx => hR x (List.mem_cons_of_mem _ hx)) (fun x => by
        rw [hs x]
        constructor
        · rintro ⟨b, hb, h2⟩; exact ⟨b, List.mem_append_left _ hb, h2⟩
        · rintro ⟨b, hb, h2⟩
          rcases List.mem_append.1 hb with hb | hb
          · exact ⟨b, hb, h2⟩
          · rw [List.mem_singleton.1 hb] at h2
            obtain ⟨b', hb', h3⟩ := (hs h).1 hx
            exact ⟨b', hb', h3.trans h2⟩)
      omega
    · rw [if_neg hx] at e1 ⊢
      have ih := rgs_cls f RR t (pre ++ [h]) (seen ++ ringL f h (RR h)) (fun x hx => hR x (List.mem_cons_of_mem _ hx)) (fun x => by
        rw [List.mem_append, hs x, ring_reach hh]
        constructor
        · rintro (⟨b, hb, h2⟩ | h2)
          · exact ⟨b, List.mem_append_left _ hb, h2⟩
          · exact ⟨h, by simp, h2⟩
        · rintro ⟨b, hb, h2⟩
          rcases List.mem_append.1 hb with hb | hb
          · exact .inl ⟨b, hb, h2⟩
          · rw [List.mem_singleton.1 hb] at h2
            exact .inr h2)
      rw [List.length_cons]
      omega
theorem rgs_cyc {f : ByteArray → ByteArray} {RR : ByteArray → Nat} {G : List ByteArray} (hd : G.Nodup) (hp : PermF G f) (hR : ∀ x ∈ G, IsRing f x (RR x)) : (rgs f RR G []).length = cycN G.reverse f := by
  have h1 := rgs_cls f RR G [] [] hR (fun x => by simp)
  have h2 := cls_cyc G.reverse ((List.reverse_perm G).nodup_iff.2 hd) f ⟨fun x hx => List.mem_reverse.2 (hp.1 x (List.mem_reverse.1 hx)), fun x hx y hy e => hp.2 x (List.mem_reverse.1 hx) y (List.mem_reverse.1 hy) e⟩
  rw [List.nil_append, h2] at h1
  rw [← h1]
  simp [clsN]
end Go.Proofs.YtajffjkmmenaoaaGreat
