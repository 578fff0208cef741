/- The group that some rows generate, the rank of a row: a plain account. -/
import Derived.Test.YtjiiflpoiaaccaaGreatPk5
import Derived.Test.YtjiiflpoiaaccaaGreatPk9
namespace Go.Proofs.YtjiiflpoiaaccaaGreat
open Go Go.RowKit
set_option linter.unusedVariables false
set_option linter.unusedSimpArgs false

instance decMemB (x : ByteArray) (L : List ByteArray) : Decidable (x ∈ L) := decidable_of_iff (L.any (fun y => decide (y = x)) = true) (by simp)
def visitB (L : List ByteArray) (x : ByteArray) : List ByteArray := if x ∈ L then L else L ++ [x]
def visitG (y : ByteArray) (L : List ByteArray) (g : ByteArray) : List ByteArray := visitB L (timesB y g)
def expB (gens L : List ByteArray) (y : ByteArray) : List ByteArray := gens.foldl (visitG y) L
theorem visit_pre (L : List ByteArray) (x : ByteArray) : L <+: visitB L x := by
  unfold visitB; split
  · exact List.prefix_refl _
  · exact List.prefix_append _ _
theorem visit_mem (L : List ByteArray) (x : ByteArray) : x ∈ visitB L x := by
  unfold visitB; split
  · assumption
  · simp
theorem visit_nodup {L : List ByteArray} (h : L.Nodup) (x : ByteArray) : (visitB L x).Nodup := by
  unfold visitB; split
  · exact h
  · rw [List.nodup_append]
    refine ⟨h, by simp, fun a ha b hb e => ?_⟩
    rw [List.mem_singleton] at hb
    subst hb; subst e
    contradiction
theorem visit_all {P : ByteArray → Prop} {L : List ByteArray} (h : ∀ x ∈ L, P x) {x : ByteArray} (hx : P x) : ∀ z ∈ visitB L x, P z := by
  unfold visitB; split
  · exact h
  · intro z hz
    rcases List.mem_append.1 hz with hz | hz
    · exact h z hz
    · rw [List.mem_singleton.1 hz]; exact hx
theorem exp_pre (y : ByteArray) : ∀ (gens L : List ByteArray), L <+: expB gens L y
  | [], L => List.prefix_refl _
  | g :: gens, L => (visit_pre L (timesB y g)).trans (exp_pre y gens (visitG y L g))
theorem exp_mem (y : ByteArray) : ∀ (gens L : List ByteArray) (g : ByteArray), g ∈ gens → timesB y g ∈ expB gens L y
  | h :: gens, L, g, hg => by
    rcases List.mem_cons.1 hg with rfl | hg
    · exact (exp_pre y gens (visitG y L g)).subset (visit_mem L (timesB y g))
    · exact exp_mem y gens (visitG y L h) g hg
theorem exp_nodup (y : ByteArray) : ∀ (gens L : List ByteArray), L.Nodup → (expB gens L y).Nodup
  | [], L, h => h
  | g :: gens, L, h => exp_nodup y gens (visitG y L g) (visit_nodup h _)
theorem exp_all {P : ByteArray → Prop} (y : ByteArray) : ∀ (gens L : List ByteArray), (∀ x ∈ L, P x) → (∀ g ∈ gens, P (timesB y g)) → ∀ z ∈ expB gens L y, P z
  | [], L, h, _ => h
  | g :: gens, L, h, hg => exp_all y gens (visitG y L g) (visit_all h (hg g (List.mem_cons_self ..))) (fun g' h' => hg g' (List.mem_cons_of_mem _ h'))
/-- The list behind t rounds. -/
def cloB (n : Nat) (gens : List ByteArray) : Nat → List ByteArray
  | 0 => [roundsB n]
  | t + 1 => match (cloB n gens t)[t]? with
    | some y => expB gens (cloB n gens t) y
    | none => cloB n gens t
theorem clo_step {n : Nat} {gens : List ByteArray} {t : Nat} (h : t < (cloB n gens t).length) : cloB n gens (t + 1) = expB gens (cloB n gens t) ((cloB n gens t)[t]) := by
  rw [cloB, List.getElem?_eq_getElem h]
theorem clo_pre1 (n : Nat) (gens : List ByteArray) (t : Nat) : cloB n gens t <+: cloB n gens (t + 1) := by
  rw [cloB]
  split
  · exact exp_pre _ _ _
  · exact List.prefix_refl _
theorem clo_pre (n : Nat) (gens : List ByteArray) (t : Nat) : ∀ d, cloB n gens t <+: cloB n gens (t + d)
  | 0 => List.prefix_refl _
  | d + 1 => (clo_pre n gens t d).trans (clo_pre1 n gens (t + d))
theorem clo_all {P : ByteArray → Prop} {n : Nat} {gens : List ByteArray} (h0 : P (roundsB n)) (hs : ∀ x g, P x → g ∈ gens → P (timesB x g)) : ∀ t, ∀ x ∈ cloB n gens t, P x
  | 0 => by intro x hx; rw [List.mem_singleton.1 hx]; exact h0
  | t + 1 => by
    have ih := clo_all (P := P) h0 hs t
    rw [cloB]
    split
    · rename_i y hy
      have hy := List.mem_of_getElem? hy
      exact exp_all y gens _ ih (fun g hg => hs y g (ih y hy) hg)
    · exact ih
theorem clo_nodup (n : Nat) (gens : List ByteArray) : ∀ t, (cloB n gens t).Nodup
  | 0 => by simp [cloB]
  | t + 1 => by
    rw [cloB]
    split
    · exact exp_nodup _ _ _ (clo_nodup n gens t)
    · exact clo_nodup n gens t
theorem rows_few {n : Nat} (hn : n ≤ 8) {l : List ByteArray} (hd : l.Nodup) (hr : ∀ x ∈ l, RowIn n x) : l.length ≤ 16777216 := by
  have h8 : 8 ^ n ≤ 16777216 := Nat.le_trans (Nat.pow_le_pow_right (by omega) hn) (by decide)
  rcases Nat.lt_or_ge 16777216 l.length with hl | hl
  · exfalso
    obtain ⟨i, j, hij, hj, e⟩ := pigeon (8 ^ n) (fun k => if h : k < l.length then codeL l[k].data.toList else 0) (fun k hk => by
      have hkl : k < l.length := by omega
      have hk' := hr _ (List.getElem_mem hkl)
      have h := codeL_lt _ (hk'.eight hn)
      rw [hk'.len] at h
      simp only [hkl, dif_pos]
      exact h)
    have hil : i < l.length := by omega
    have hjl : j < l.length := by omega
    simp only [hil, hjl, dif_pos] at e
    have hi' := hr _ (List.getElem_mem hil)
    have hj' := hr _ (List.getElem_mem hjl)
    have e2 := bytes_ext (codeL_inj _ _ (by rw [hi'.len, hj'.len]) (hi'.eight hn) (hj'.eight hn) e)
    exact (List.pairwise_iff_getElem.1 hd) i j hil hjl hij e2
  · exact hl
/-- The group is whole behind T rounds. -/
def IsClo (n : Nat) (gens : List ByteArray) (T : Nat) : Prop := (cloB n gens T).length ≤ T ∧ ∀ t, t < T → t < (cloB n gens t).length
theorem clo_ex {n : Nat} (hn : n ≤ 8) {gens : List ByteArray} (hg : ∀ g ∈ gens, RowIn n g) : ∃ T, T ≤ 16777216 ∧ IsClo n gens T := by
  have hall := clo_all (P := RowIn n) (n := n) (gens := gens) (rounds_in hn) (fun x g hx hg' => times_in hx (hg g hg'))
  obtain ⟨T, h1, h2, h3⟩ := least_of (P := fun t => (cloB n gens t).length ≤ t) 16777216 (rows_few hn (clo_nodup n gens _) (hall _))
  exact ⟨T, h1, h2, fun t ht => Nat.lt_of_not_le (h3 t ht)⟩
theorem clo_len_mono {n : Nat} {gens : List ByteArray} {s t : Nat} (h : s ≤ t) : (cloB n gens s).length ≤ (cloB n gens t).length := by
  obtain ⟨d, rfl⟩ : ∃ d, t = s + d := ⟨t - s, by omega⟩
  exact (clo_pre n gens s d).length_le
theorem clo_get {n : Nat} {gens : List ByteArray} {s t i : Nat} (h : s ≤ t) (hi : i < (cloB n gens s).length) : (cloB n gens t)[i]? = some (cloB n gens s)[i] := by
  obtain ⟨d, rfl⟩ : ∃ d, t = s + d := ⟨t - s, by omega⟩
  obtain ⟨r, hr⟩ := clo_pre n gens s d
  rw [← hr, List.getElem?_append_left hi, List.getElem?_eq_getElem hi]
/-- The group is closed. -/
theorem clo_closed {n T : Nat} {gens : List ByteArray} (h : IsClo n gens T) {x g : ByteArray} (hx : x ∈ cloB n gens T) (hg : g ∈ gens) : timesB x g ∈ cloB n gens T := by
  obtain ⟨i, hi, e⟩ := List.getElem_of_mem hx
  have hiT : i < T := by have := h.1; omega
  have hi2 := h.2 i hiT
  have h1 := clo_get (t := T) (by omega : i ≤ T) hi2
  rw [List.getElem?_eq_getElem hi] at h1
  have h2 := Option.some.inj h1
  have h3 := exp_mem ((cloB n gens i)[i]) gens (cloB n gens i) g hg
  rw [← clo_step hi2, ← h2, e] at h3
  obtain ⟨d, hd⟩ : ∃ d, T = (i + 1) + d := ⟨T - (i + 1), by omega⟩
  rw [hd]
  exact (clo_pre n gens (i + 1) d).subset h3
theorem clo_rounds (n : Nat) (gens : List ByteArray) (T : Nat) : roundsB n ∈ cloB n gens T := by
  have := clo_pre n gens 0 T
  rw [Nat.zero_add] at this
  exact this.subset (by simp [cloB])
/-- Part of a round. -/
def partB (n : Nat) (gens : List ByteArray) (t j : Nat) (y : ByteArray) : List ByteArray := expB (gens.take j) (cloB n gens t) y
theorem part_zero (n : Nat) (gens : List ByteArray) (t : Nat) (y : ByteArray) : partB n gens t 0 y = cloB n gens t := rfl
theorem part_succ {n : Nat} {gens : List ByteArray} {t j : Nat} {y : ByteArray} (h : j < gens.length) : partB n gens t (j + 1) y = visitB (partB n gens t j y) (timesB y gens[j]) := by
  unfold partB expB
  rw [List.take_succ_eq_append_getElem h, List.foldl_append]; rfl
theorem part_all {n : Nat} {gens : List ByteArray} {t : Nat} (h : t < (cloB n gens t).length) : partB n gens t gens.length (cloB n gens t)[t] = cloB n gens (t + 1) := by
  rw [clo_step h]; unfold partB; rw [List.take_length]
theorem part_len {n T : Nat} {gens : List ByteArray} (hT : IsClo n gens T) {t j : Nat} (ht : t < T) : (partB n gens t j ((cloB n gens t)[t]'(hT.2 t ht))).length ≤ (cloB n gens T).length := by
  have h1 : partB n gens t j ((cloB n gens t)[t]'(hT.2 t ht)) <+: cloB n gens (t + 1) := by
    rw [clo_step (hT.2 t ht)]
    generalize (cloB n gens t)[t]'(hT.2 t ht) = y
    have e : expB gens (cloB n gens t) y = expB (gens.drop j) (partB n gens t j y) y := by
      unfold partB expB
      rw [← List.foldl_append, List.take_append_drop]
    rw [e]
    exact exp_pre _ (gens.drop j) _
  exact Nat.le_trans h1.length_le (clo_len_mono (by omega))
/-- A row that holds each bell once. -/
def PermR (n : Nat) (a : ByteArray) : Prop := a.data.toList.Perm (roundsL n)
theorem PermR.rounds {n : Nat} (hn : n ≤ 8) : PermR n (roundsB n) := by unfold PermR; rw [rounds_list hn]
theorem PermR.times {n : Nat} (hn : n ≤ 8) {a b : ByteArray} (ha : PermR n a) (hb : PermR n b) : PermR n (timesB a b) := by
  unfold PermR timesB
  rw [ofL_list]
  have hl : a.data.toList.length = n := by rw [ha.length_eq, roundsL_len]
  have h1 : (timesL a.data.toList b.data.toList).Perm (timesL a.data.toList (roundsL n)) := by unfold timesL; exact hb.map _
  rw [timesL_rounds hn hl] at h1
  exact h1.trans ha
theorem fold_perm : ∀ (ps : List Nat) (l : List UInt8), (∀ p ∈ ps, 1 ≤ p ∧ p < l.length) → (ps.foldl swapAt l).Perm l
  | [], l, _ => List.Perm.refl _
  | p :: ps, l, h => by
    have h0 := h p (List.mem_cons_self ..)
    exact (fold_perm ps (swapAt l p) (fun q hq => by rw [swapAt_len]; exact h q (List.mem_cons_of_mem _ hq))).trans (swapAt_perm h0.1 h0.2)
theorem ch_perm {n : Nat} (hn : n ≤ 8) (c : ByteArray) : PermR n (chB n c) := by
  have hm := fun p hp => swapsW_mem (c := c.data.toList) (n := n) (n - 1) 1 (by omega) p hp
  unfold PermR chB chL
  rw [ofL_list]
  exact fold_perm _ _ (fun p hp => by rw [roundsL_len]; exact hm p hp)
theorem run_perm {n : Nat} (hn : n ≤ 8) : ∀ (cs : List ByteArray) {r : ByteArray}, RowIn n r → PermR n r → PermR n (runB r cs)
  | [], r, _, hr => hr
  | c :: cs, r, hi, hr => by
    refine run_perm hn cs (apply_in hn hi c) ?_
    unfold applyB
    rw [hi.1]
    exact hr.times hn (ch_perm hn c)
/-- The rank of a row. -/
def lessN (x : UInt8) (t : List UInt8) : Nat := t.countP fun y => decide (y < x)
def placeF : Nat → List UInt8 → Nat
  | k, [] => k
  | k, x :: t => placeF (k * (t.length + 1) + lessN x t) t
def factB : Nat → Nat
  | 0 => 1
  | n + 1 => (n + 1) * factB n
def placeB (s : ByteArray) : Nat := placeF 0 s.data.toList
theorem lessN_le (x : UInt8) (t : List UInt8) : lessN x t ≤ t.length := List.countP_le_length
theorem placeF_add : ∀ (l : List UInt8) (k : Nat), placeF k l = k * factB l.length + placeF 0 l
  | [], k => by simp [placeF, factB]
  | x :: t, k => by
    rw [placeF, placeF, placeF_add t (k * (t.length + 1) + lessN x t), placeF_add t (0 * (t.length + 1) + lessN x t), List.length_cons, factB]
    rw [Nat.zero_mul, Nat.zero_add, Nat.add_mul, Nat.mul_assoc]
    omega
theorem fact_pos : ∀ n, 1 ≤ factB n
  | 0 => Nat.le_refl _
  | n + 1 => by rw [factB]; exact Nat.mul_pos (by omega) (fact_pos n)
theorem placeF_lt : ∀ (l : List UInt8), placeF 0 l < factB l.length
  | [] => by simp [placeF, factB]
  | x :: t => by
    rw [placeF, placeF_add, Nat.zero_mul, Nat.zero_add, List.length_cons, factB]
    have h1 := placeF_lt t
    have h2 : lessN x t * factB t.length ≤ t.length * factB t.length := Nat.mul_le_mul_right _ (lessN_le x t)
    have h3 : (t.length + 1) * factB t.length = t.length * factB t.length + factB t.length := Nat.succ_mul _ _
    omega
theorem u8_irr (x : UInt8) : ¬ x < x := by rw [UInt8.lt_iff_toNat_lt]; omega
theorem count_lt {x y : UInt8} (h : x < y) {s t : List UInt8} (hp : (x :: s).Perm (y :: t)) : lessN x s < lessN y t := by
  have h1 : lessN x s = (x :: s).countP fun z => decide (z < x) := by rw [List.countP_cons]; simp [lessN, u8_irr]
  have h2 : lessN y t = (x :: s).countP fun z => decide (z < y) := by rw [hp.countP_eq, List.countP_cons]; simp [lessN, u8_irr]
  rw [h1, h2, List.countP_cons, List.countP_cons]
  have h3 : s.countP (fun z => decide (z < x)) ≤ s.countP (fun z => decide (z < y)) := by
    apply List.countP_mono_left
    intro z _ hz
    simp only [decide_eq_true_eq] at hz ⊢
    rw [UInt8.lt_iff_toNat_lt] at *
    omega
  simp only [decide_eq_true_eq]
  rw [if_neg (u8_irr x), if_pos h]
  omega
theorem placeF_inj : ∀ (a b : List UInt8), a.Perm b → placeF 0 a = placeF 0 b → a = b
  | [], b, h, _ => (List.nil_perm.1 h).symm ▸ rfl
  | x :: s, [], h, _ => by have := h.length_eq; simp at this
  | x :: s, y :: t, h, e => by
    have hl : s.length = t.length := by have := h.length_eq; simpa using this
    rw [placeF, placeF, placeF_add s, placeF_add t, Nat.zero_mul, Nat.zero_add, Nat.zero_mul, Nat.zero_add, hl] at e
    have h1 := placeF_lt s
    have h2 := placeF_lt t
    rw [hl] at h1
    have hdiv : lessN x s = lessN y t := by
      rcases Nat.lt_trichotomy (lessN x s) (lessN y t) with hlt | heq | hlt
      · exfalso
        have : (lessN x s + 1) * factB t.length ≤ lessN y t * factB t.length := Nat.mul_le_mul_right _ hlt
        rw [Nat.succ_mul] at this; omega
      · exact heq
      · exfalso
        have : (lessN y t + 1) * factB t.length ≤ lessN x s * factB t.length := Nat.mul_le_mul_right _ hlt
        rw [Nat.succ_mul] at this; omega
    have hxy : x = y := by
      rcases Nat.lt_trichotomy x.toNat y.toNat with hlt | heq | hlt
      · have := count_lt (UInt8.lt_iff_toNat_lt.2 hlt) h; omega
      · exact UInt8.toNat_inj.1 heq
      · have := count_lt (UInt8.lt_iff_toNat_lt.2 hlt) h.symm; omega
    subst hxy
    rw [placeF_inj s t (List.perm_cons x |>.1 h) (by rw [hdiv] at e; omega)]
theorem place_inj {n : Nat} {a b : ByteArray} (ha : PermR n a) (hb : PermR n b) (h : placeB a = placeB b) : a = b := bytes_ext (placeF_inj _ _ (ha.trans hb.symm) h)
theorem place_lt {n : Nat} {a : ByteArray} (ha : PermR n a) : placeB a < factB n := by
  have := placeF_lt a.data.toList
  rw [ha.length_eq, roundsL_len] at this
  exact this
end Go.Proofs.YtjiiflpoiaaccaaGreat

/- Rings: a plain account. -/
namespace Go.Proofs.YtjiiflpoiaaccaaGreat
open Go Go.RowKit
set_option linter.unusedVariables false
set_option linter.unusedSimpArgs false

theorem nodup_le : ∀ (l F : List ByteArray), l.Nodup → (∀ x ∈ l, x ∈ F) → l.length ≤ F.length
  | [], F, _, _ => Nat.zero_le _
  | x :: t, F, hd, h => by
    rw [List.nodup_cons] at hd
    have hx := h x (List.mem_cons_self ..)
    have ih := nodup_le t (F.filter fun y => decide (y ≠ x)) hd.2 (fun y hy => List.mem_filter.2 ⟨h y (List.mem_cons_of_mem _ hy), decide_eq_true (fun e => hd.1 (by rw [← e]; exact hy))⟩)
    have hlt : (F.filter fun y => decide (y ≠ x)).length < F.length := by
      rw [List.length_filter_lt_length_iff_exists]
      exact ⟨x, hx, by simp⟩
    rw [List.length_cons]; omega
def iterB (nx : ByteArray → ByteArray) (h : ByteArray) : Nat → ByteArray
  | 0 => h
  | k + 1 => nx (iterB nx h k)
theorem iter_in {nx : ByteArray → ByteArray} {F : List ByteArray} (hF : ∀ x ∈ F, nx x ∈ F) {h : ByteArray} (hh : h ∈ F) : ∀ k, iterB nx h k ∈ F
  | 0 => hh
  | k + 1 => hF _ (iter_in hF hh k)
theorem iter_back {nx : ByteArray → ByteArray} {F : List ByteArray} (hF : ∀ x ∈ F, nx x ∈ F) (hi : ∀ x ∈ F, ∀ y ∈ F, nx x = nx y → x = y) {h : ByteArray} (hh : h ∈ F) : ∀ i d, iterB nx h i = iterB nx h (i + d) → h = iterB nx h d
  | 0, d, e => by rw [Nat.zero_add] at e; exact e
  | i + 1, d, e => by
    refine iter_back hF hi hh i d (hi _ (iter_in hF hh i) _ (iter_in hF hh (i + d)) ?_)
    rw [Nat.succ_add] at e
    exact e
/-- The length of the ring of a row. -/
def IsRing (nx : ByteArray → ByteArray) (h : ByteArray) (R : Nat) : Prop := 1 ≤ R ∧ iterB nx h R = h ∧ ∀ j, 1 ≤ j → j < R → iterB nx h j ≠ h
def ringL (nx : ByteArray → ByteArray) (h : ByteArray) (R : Nat) : List ByteArray := (List.range R).map (iterB nx h)
theorem ringL_len (nx : ByteArray → ByteArray) (h : ByteArray) (R : Nat) : (ringL nx h R).length = R := by simp [ringL]
theorem ringL_succ (nx : ByteArray → ByteArray) (h : ByteArray) (R : Nat) : ringL nx h (R + 1) = ringL nx h R ++ [iterB nx h R] := by simp [ringL, List.range_succ]
theorem ring_ex {nx : ByteArray → ByteArray} {F : List ByteArray} (hF : ∀ x ∈ F, nx x ∈ F) (hi : ∀ x ∈ F, ∀ y ∈ F, nx x = nx y → x = y) {h : ByteArray} (hh : h ∈ F) : ∃ R, R ≤ F.length ∧ IsRing nx h R := by
  have hc : ∃ i j, i < j ∧ j ≤ F.length ∧ iterB nx h i = iterB nx h j := by
    apply Classical.byContradiction
    intro hn
    have hd : (ringL nx h (F.length + 1)).Nodup := by
      unfold ringL
      rw [List.Nodup, List.pairwise_map, List.pairwise_iff_getElem]
      intro i j hi' hj' hij e
      rw [List.getElem_range, List.getElem_range] at e
      rw [List.length_range] at hj'
      exact hn ⟨i, j, hij, by omega, e⟩
    have := nodup_le _ F hd (fun x hx => by
      unfold ringL at hx
      obtain ⟨k, _, rfl⟩ := List.mem_map.1 hx
      exact iter_in hF hh k)
    rw [ringL_len] at this
    omega
  obtain ⟨i, j, hij, hj, e⟩ := hc
  have e2 := iter_back hF hi hh i (j - i) (by rw [e]; congr 1; omega)
  obtain ⟨R, h1, h2, h3⟩ := least_of (P := fun k => 1 ≤ k ∧ iterB nx h k = h) (j - i) ⟨by omega, e2.symm⟩
  exact ⟨R, by omega, h2.1, h2.2, fun q hq hlt hp => h3 q hlt ⟨hq, hp⟩⟩
theorem ring_stop {nx : ByteArray → ByteArray} {h : ByteArray} {R k : Nat} (hR : IsRing nx h R) (h1 : 1 ≤ k) (hk : k ≤ R) (e : iterB nx h k = h) : k = R := by
  rcases Nat.lt_or_ge k R with hl | hl
  · exact absurd e (hR.2.2 k h1 hl)
  · omega
theorem ring_go {nx : ByteArray → ByteArray} {h : ByteArray} {R k : Nat} (hR : IsRing nx h R) (hk : k ≤ R) (e : iterB nx h k ≠ h) : k < R := by
  rcases Nat.lt_or_ge k R with hl | hl
  · exact hl
  · obtain rfl : k = R := by omega
    exact absurd hR.2.1 e
/-- The rings of some rows, but for those that are seen. -/
def rgs (nx : ByteArray → ByteArray) (RR : ByteArray → Nat) : List ByteArray → List ByteArray → List (List ByteArray)
  | [], _ => []
  | h :: t, seen => if h ∈ seen then rgs nx RR t seen else ringL nx h (RR h) :: rgs nx RR t (seen ++ ringL nx h (RR h))
theorem rgs_len (nx : ByteArray → ByteArray) (RR : ByteArray → Nat) : ∀ (l seen : List ByteArray), (rgs nx RR l seen).length ≤ l.length
  | [], _ => Nat.le_refl _
  | h :: t, seen => by
    rw [rgs]; split
    · exact Nat.le_trans (rgs_len nx RR t seen) (by simp)
    · rw [List.length_cons, List.length_cons]; exact Nat.succ_le_succ (rgs_len nx RR t _)
theorem rgs_seen {nx : ByteArray → ByteArray} {RR : ByteArray → Nat} {G seen : List ByteArray} {k : Nat} (hk : k < G.length) (h : G[k] ∈ seen) : rgs nx RR (G.drop k) seen = rgs nx RR (G.drop (k + 1)) seen := by
  rw [List.drop_eq_getElem_cons hk, rgs, if_pos h]
theorem rgs_new {nx : ByteArray → ByteArray} {RR : ByteArray → Nat} {G seen : List ByteArray} {k : Nat} (hk : k < G.length) (h : G[k] ∉ seen) : rgs nx RR (G.drop k) seen = ringL nx G[k] (RR G[k]) :: rgs nx RR (G.drop (k + 1)) (seen ++ ringL nx G[k] (RR G[k])) := by
  rw [List.drop_eq_getElem_cons hk, rgs, if_neg h]
/-- The next head. -/
def nxB (bobs : List ByteArray) (P B : ByteArray) (h : ByteArray) : ByteArray := if h ∈ bobs then timesB h B else timesB h P
def goodQ (bobs : List ByteArray) (Q : ByteArray) : Prop := ∀ h ∈ bobs, timesB h Q ∈ bobs
theorem good_pow {n : Nat} (hn : n ≤ 8) {bobs : List ByteArray} {Q : ByteArray} (hQ : RowIn n Q) (hg : goodQ bobs Q) {h : ByteArray} (hr : RowIn n h) (hh : h ∈ bobs) : ∀ k, timesB h (powB n Q k) ∈ bobs
  | 0 => by show timesB h (roundsB n) ∈ bobs; rw [times_rounds hn hr]; exact hh
  | k + 1 => by
    show timesB h (timesB (powB n Q k) Q) ∈ bobs
    rw [← times_assoc h (pow_in hn hQ k) hQ]
    exact hg _ (good_pow hn hQ hg hr hh k)
theorem nx_inj {n : Nat} (hn : n ≤ 8) {bobs : List ByteArray} {P B B' Q : ByteArray} (hP : Inv n P) (hB : Inv n B) (hB' : RowIn n B') (h1 : timesB B B' = roundsB n) (hQd : Q = timesB P B') (hQ : Inv n Q) (hg : goodQ bobs Q)
    {x y : ByteArray} (hx : RowIn n x) (hy : RowIn n y) (e : nxB bobs P B x = nxB bobs P B y) : x = y := by
  have key : ∀ a b : ByteArray, RowIn n a → RowIn n b → a ∈ bobs → b ∉ bobs → timesB a B = timesB b P → False := by
    intro a b ha hb hma hmb e
    have e2 : timesB b Q = a := by
      rw [hQd, ← times_assoc b hP.1 hB', ← e, times_assoc a hB.1 hB', h1, times_rounds hn ha]
    obtain ⟨K, _, hK⟩ := ord_ex hn hQ
    have h3 := good_pow hn hQ.1 hg ha hma (K - 1)
    have h4 : timesB a (powB n Q (K - 1)) = b := by
      rw [← e2, times_assoc b hQ.1 (pow_in hn hQ.1 _)]
      have e3 : timesB Q (powB n Q (K - 1)) = powB n Q K := by
        have h5 := pow_add hn hQ.1 1 (K - 1)
        rw [pow_one hn hQ.1, show 1 + (K - 1) = K by have := hK.1; omega] at h5
        exact h5.symm
      rw [e3, hK.2.1, times_rounds hn hb]
    rw [h4] at h3
    exact hmb h3
  unfold nxB at e
  split at e
  · split at e
    · exact hB.cancel hn hx hy e
    · exact (key x y hx hy (by assumption) (by assumption) e).elim
  · split at e
    · exact (key y x hy hx (by assumption) (by assumption) e.symm).elim
    · exact hP.cancel hn hx hy e
theorem good_nil (Q : ByteArray) : goodQ [] Q := fun h hh => by cases hh
/-- What an inverse says of places. -/
theorem inv_at {n : Nat} (hn : n ≤ 8) {a b : ByteArray} (ha : RowIn n a) (h : timesB b a = roundsB n) {i : Nat} (hi : i < a.size) : b.data.toList[a[i].toNat - 49]? = some (UInt8.ofNat (49 + i)) ∨ b.size ≤ a[i].toNat - 49 := by
  by_cases hb : a[i].toNat - 49 < b.size
  · left
    have e : (timesL b.data.toList a.data.toList)[i]? = (roundsL n)[i]? := by
      have h3 : (timesB b a).data.toList = (roundsB n).data.toList := by rw [h]
      rw [rounds_list hn] at h3
      unfold timesB at h3
      rw [ofL_list] at h3
      rw [h3]
    have hin : i < n := by rw [← ha.1]; exact hi
    rw [roundsL_get hin] at e
    unfold timesL at e
    rw [List.getElem?_map, List.getElem?_eq_getElem (by rw [bytes_len]; exact hi), bytes_get a i hi, Option.map_some, List.getD_eq_getElem?_getD, List.getElem?_eq_getElem (by rw [bytes_len]; exact hb), Option.getD_some] at e
    rw [List.getElem?_eq_getElem (by rw [bytes_len]; exact hb)]
    exact e
  · right; omega
theorem inv_cover {n : Nat} (hn : n ≤ 8) {a b : ByteArray} (ha : RowIn n a) (hb : RowIn n b) (h : timesB a b = roundsB n) {j : Nat} (hj : j < n) : ∃ i, ∃ hi : i < a.size, a[i].toNat - 49 = j := by
  have hjb : j < b.size := by rw [hb.1]; exact hj
  have hat := hb.at_ hjb
  have hi : b[j].toNat - 49 < a.size := by rw [ha.1]; omega
  refine ⟨b[j].toNat - 49, hi, ?_⟩
  have e := inv_at hn hb h hjb
  rcases e with e | e
  · rw [List.getElem?_eq_getElem (by rw [bytes_len]; exact hi), bytes_get a _ hi] at e
    have := congrArg UInt8.toNat (Option.some.inj e)
    rw [u8_49 (by omega)] at this
    omega
  · omega
end Go.Proofs.YtjiiflpoiaaccaaGreat

/- Rising rows, a row put into them, sets: a plain account. -/
namespace Go.Proofs.YtjiiflpoiaaccaaGreat
open Go Go.RowKit
set_option linter.unusedVariables false
set_option linter.unusedSimpArgs false

/-- Rising rows are known by what they hold. -/
theorem sorted_ext : ∀ {l m : List ByteArray}, SortedS l → l.Nodup → SortedS m → m.Nodup → (∀ x, x ∈ l ↔ x ∈ m) → l = m
  | [], [], _, _, _, _, _ => rfl
  | [], b :: m, _, _, _, _, h => by have := (h b).2 (List.mem_cons_self ..); cases this
  | a :: l, [], _, _, _, _, h => by have := (h a).1 (List.mem_cons_self ..); cases this
  | a :: l, b :: m, h1, d1, h2, d2, h => by
    rw [SortedS, List.pairwise_cons] at h1 h2
    rw [List.nodup_cons] at d1 d2
    have e : a = b := by
      have ha := (h a).1 (List.mem_cons_self ..)
      have hb := (h b).2 (List.mem_cons_self ..)
      rcases List.mem_cons.1 ha with e | ha
      · exact e
      · rcases List.mem_cons.1 hb with e | hb
        · exact e.symm
        · exact sl_tot (h2.1 a ha) (h1.1 b hb)
    subst e
    congr 1
    refine sorted_ext h1.2 d1.2 h2.2 d2.2 (fun x => ⟨fun hx => ?_, fun hx => ?_⟩)
    · rcases List.mem_cons.1 ((h x).1 (List.mem_cons_of_mem _ hx)) with e | hx'
      · subst e; exact absurd hx d1.1
      · exact hx'
    · rcases List.mem_cons.1 ((h x).2 (List.mem_cons_of_mem _ hx)) with e | hx'
      · subst e; exact absurd hx d2.1
      · exact hx'
theorem sortB_mem (l : List ByteArray) (x : ByteArray) : x ∈ sortB l ↔ x ∈ l := (sortB_perm l).mem_iff
theorem sortB_nodup {l : List ByteArray} (h : l.Nodup) : (sortB l).Nodup := (sortB_perm l).nodup_iff.2 h
/-- A row put before place k of rising rows. -/
theorem put_ok {l : List ByteArray} {r : ByteArray} {k : Nat} (hs : SortedS l) (hk : k ≤ l.length) (h1 : ∀ x ∈ l.take k, nmLt r x = false) (h2 : ∀ x ∈ l.drop k, nmLt r x = true) : SortedS (l.take k ++ r :: l.drop k) := by
  rw [SortedS, List.pairwise_append]
  have hs' := hs
  rw [← List.take_append_drop k l, SortedS, List.pairwise_append] at hs'
  refine ⟨hs'.1, ?_, ?_⟩
  · rw [List.pairwise_cons]
    exact ⟨fun x hx => sl_asym (h2 x hx), hs'.2.1⟩
  · intro a ha b hb
    rcases List.mem_cons.1 hb with e | hb
    · subst e; exact h1 a ha
    · exact hs'.2.2 a ha b hb
theorem put_perm (l : List ByteArray) (r : ByteArray) (k : Nat) : (l.take k ++ r :: l.drop k).Perm (r :: l) := by
  refine List.perm_middle.trans ?_
  rw [List.take_append_drop]
/-- What putting makes of rising rows. -/
def putS (l : List ByteArray) (r : ByteArray) : List ByteArray := sortB (visitB l r)
theorem putS_in {l : List ByteArray} {r : ByteArray} (hs : SortedS l) (h : r ∈ l) : putS l r = l := by
  unfold putS visitB
  rw [if_pos h]
  exact (perm_sorted (sortB_perm l).symm hs (sortB_sorted l)).symm
theorem putS_new {l : List ByteArray} {r : ByteArray} {k : Nat} (hs : SortedS l) (hn : r ∉ l) (hk : k ≤ l.length) (h1 : ∀ x ∈ l.take k, nmLt r x = false) (h2 : ∀ x ∈ l.drop k, nmLt r x = true) : putS l r = l.take k ++ r :: l.drop k := by
  unfold putS visitB
  rw [if_neg hn]
  refine (perm_sorted ?_ (put_ok hs hk h1 h2) (sortB_sorted _)).symm
  exact ((put_perm l r k).trans (List.perm_append_singleton r l).symm).trans (sortB_perm _).symm
theorem putS_sorted (l : List ByteArray) (r : ByteArray) : SortedS (putS l r) := sortB_sorted _
theorem putS_nodup {l : List ByteArray} (h : l.Nodup) (r : ByteArray) : (putS l r).Nodup := sortB_nodup (visit_nodup h r)
theorem putS_mem (l : List ByteArray) (r x : ByteArray) : x ∈ putS l r ↔ x ∈ l ∨ x = r := by
  unfold putS
  rw [sortB_mem]
  unfold visitB
  split
  · constructor
    · exact .inl
    · rintro (h | rfl)
      · exact h
      · assumption
  · rw [List.mem_append, List.mem_singleton]
theorem putS_len {l : List ByteArray} {r : ByteArray} : (putS l r).length ≤ l.length + 1 := by
  unfold putS
  rw [sortB_len]
  unfold visitB
  split <;> simp
/-- Where a search ends. -/
theorem search_mem {l : List ByteArray} {r : ByteArray} {i : Nat} (hs : SortedS l) (hi : i ≤ l.length) (h1 : ∀ k (h : k < l.length), k < i → nmLt l[k] r = true) (h2 : ∀ k (h : k < l.length), i ≤ k → nmLt l[k] r = false) :
    r ∈ l ↔ ∃ h : i < l.length, l[i] = r := by
  constructor
  · intro hm
    obtain ⟨k, hk, e⟩ := List.getElem_of_mem hm
    have hik : i ≤ k := by
      rcases Nat.lt_or_ge k i with hl | hl
      · have := h1 k hk hl; rw [e, sl_irr] at this; cases this
      · exact hl
    have hil : i < l.length := by omega
    refine ⟨hil, ?_⟩
    rcases Nat.eq_or_lt_of_le hik with e2 | hlt
    · subst e2; exact e
    · have h3 := (List.pairwise_iff_getElem.1 hs) i k hil hk hlt
      rw [e] at h3
      exact sl_tot (h2 i hil (Nat.le_refl _)) h3
  · rintro ⟨h, e⟩
    rw [← e]; exact List.getElem_mem h
/-- The set of a row. -/
def setB (n : Nat) (Q h : ByteArray) (K : Nat) : List ByteArray := (powL n Q K).map (timesB h)
theorem setB_len (n : Nat) (Q h : ByteArray) (K : Nat) : (setB n Q h K).length = K := by unfold setB; rw [List.length_map, powL_len]
theorem setB_succ (n : Nat) (Q h : ByteArray) (K : Nat) : setB n Q h (K + 1) = setB n Q h K ++ [timesB h (powB n Q K)] := by unfold setB; rw [powL_succ, List.map_append]; rfl
theorem pow_diff {n : Nat} (hn : n ≤ 8) {Q : ByteArray} (hQ : Inv n Q) {K : Nat} (hK : IsOrd n Q K) {i j : Nat} (hij : i < j) (hj : j < K) : powB n Q i ≠ powB n Q j := by
  intro e
  have e2 : powB n Q (j - i) = roundsB n := by
    rw [show j = (j - i) + i by omega, pow_add hn hQ.1 (j - i) i] at e
    apply (pow_inv hn hQ i).cancel hn (pow_in hn hQ.1 _) (rounds_in hn)
    rw [← e, rounds_times hn (pow_in hn hQ.1 i)]
  exact hK.2.2 (j - i) (by omega) (by omega) e2
theorem set_new {n : Nat} (hn : n ≤ 8) {Q h : ByteArray} (hQ : Inv n Q) (hh : Inv n h) {K : Nat} (hK : IsOrd n Q K) {j : Nat} (hj : j < K) : timesB h (powB n Q j) ∉ setB n Q h j := by
  intro hm
  unfold setB powL at hm
  rw [List.map_map] at hm
  obtain ⟨i, hi, e⟩ := List.mem_map.1 hm
  have hi := List.mem_range.1 hi
  exact pow_diff hn hQ hK hi hj (hh.cancel_left hn (pow_in hn hQ.1 i) (pow_in hn hQ.1 j) e)
theorem set_nodup {n : Nat} (hn : n ≤ 8) {Q h : ByteArray} (hQ : Inv n Q) (hh : Inv n h) {K : Nat} (hK : IsOrd n Q K) : ∀ j, j ≤ K → (setB n Q h j).Nodup
  | 0, _ => by simp [setB, powL]
  | j + 1, hj => by
    rw [setB_succ, List.nodup_append]
    refine ⟨set_nodup hn hQ hh hK j (by omega), by simp, fun a ha b hb e => ?_⟩
    rw [List.mem_singleton] at hb
    subst hb; subst e
    exact set_new hn hQ hh hK (by omega) ha
/-- A set grows by putting. -/
theorem set_put {n : Nat} (hn : n ≤ 8) {Q h : ByteArray} (hQ : Inv n Q) (hh : Inv n h) {K : Nat} (hK : IsOrd n Q K) {j : Nat} (hj : j < K) : putS (sortB (setB n Q h j)) (timesB h (powB n Q j)) = sortB (setB n Q h (j + 1)) := by
  have hnew := set_new hn hQ hh hK hj
  refine sorted_ext (putS_sorted _ _) (putS_nodup (sortB_nodup (set_nodup hn hQ hh hK j (by omega))) _) (sortB_sorted _) (sortB_nodup (set_nodup hn hQ hh hK (j + 1) (by omega))) (fun x => ?_)
  rw [putS_mem, sortB_mem, sortB_mem, setB_succ, List.mem_append, List.mem_singleton]
end Go.Proofs.YtjiiflpoiaaccaaGreat
