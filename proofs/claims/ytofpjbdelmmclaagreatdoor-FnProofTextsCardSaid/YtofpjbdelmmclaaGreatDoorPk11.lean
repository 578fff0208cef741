/- The group that some rows generate, the rank of a row: a plain account. -/
import Derived.Test.YtofpjbdelmmclaaGreatDoorPk8
import Derived.Test.YtofpjbdelmmclaaGreatDoorPk10
import Derived.Test.YtofpjbdelmmclaaGreatDoorPk7
import Derived.Lib.AppendZeros
namespace Go.Proofs.YtofpjbdelmmclaaGreatDoor
open Go Go.RowKit
set_option linter.unusedVariables false
set_option linter.unusedSimpArgs false

instance decMemB (x : ByteArray) (L : List ByteArray) : Decidable (x ∈ L) := decidable_of_iff (L.any (fun y => decide (y = x)) = true) (by simp)
def visitB (L : List ByteArray) (x : ByteArray) : List ByteArray := if x ∈ L then L else L ++ [x]
def visitG (y : ByteArray) (L : List ByteArray) (g : ByteArray) : List ByteArray := visitB L (timesB y g)
def expB (gens L : List ByteArray) (y : ByteArray) : List ByteArray := gens.foldl (visitG y) L
theorem visit_pre (L : List ByteArray) (x : ByteArray) : L <+: visitB L x := by
  unfold visitB; split
  · exact List.prefix_refl _
  · exact List.prefix_append _ _
theorem visit_mem (L : List ByteArray) (x : ByteArray) : x ∈ visitB L x := by
  unfold visitB; split
  · assumption
  · simp
theorem visit_nodup {L : List ByteArray} (h : L.Nodup) (x : ByteArray) : (visitB L x).Nodup := by
  unfold visitB; split
  · exact h
  · rw [List.nodup_append]
    refine ⟨h, by simp, fun a ha b hb e => ?_⟩
    rw [List.mem_singleton] at hb
    subst hb; subst e
    contradiction
theorem visit_all {P : ByteArray → Prop} {L : List ByteArray} (h : ∀ x ∈ L, P x) {x : ByteArray} (hx : P x) : ∀ z ∈ visitB L x, P z := by
  unfold visitB; split
  · exact h
  · intro z hz
    rcases List.mem_append.1 hz with hz | hz
    · exact h z hz
    · rw [List.mem_singleton.1 hz]; exact hx
theorem exp_pre (y : ByteArray) : ∀ (gens L : List ByteArray), L <+: expB gens L y
  | [], L => List.prefix_refl _
  | g :: gens, L => (visit_pre L (timesB y g)).trans (exp_pre y gens (visitG y L g))
theorem exp_mem (y : ByteArray) : ∀ (gens L : List ByteArray) (g : ByteArray), g ∈ gens → timesB y g ∈ expB gens L y
  | h :: gens, L, g, hg => by
    rcases List.mem_cons.1 hg with rfl | hg
    · exact (exp_pre y gens (visitG y L g)).subset (visit_mem L (timesB y g))
    · exact exp_mem y gens (visitG y L h) g hg
theorem exp_nodup (y : ByteArray) : ∀ (gens L : List ByteArray), L.Nodup → (expB gens L y).Nodup
  | [], L, h => h
  | g :: gens, L, h => exp_nodup y gens (visitG y L g) (visit_nodup h _)
theorem exp_all {P : ByteArray → Prop} (y : ByteArray) : ∀ (gens L : List ByteArray), (∀ x ∈ L, P x) → (∀ g ∈ gens, P (timesB y g)) → ∀ z ∈ expB gens L y, P z
  | [], L, h, _ => h
  | g :: gens, L, h, hg => exp_all y gens (visitG y L g) (visit_all h (hg g (List.mem_cons_self ..))) (fun g' h' => hg g' (List.mem_cons_of_mem _ h'))
/-- The list behind t rounds. -/
def cloB (n : Nat) (gens : List ByteArray) : Nat → List ByteArray
  | 0 => [roundsB n]
  | t + 1 => match (cloB n gens t)[t]? with
    | some y => expB gens (cloB n gens t) y
    | none => cloB n gens t
theorem clo_step {n : Nat} {gens : List ByteArray} {t : Nat} (h : t < (cloB n gens t).length) : cloB n gens (t + 1) = expB gens (cloB n gens t) ((cloB n gens t)[t]) := by
  rw [cloB, List.getElem?_eq_getElem h]
theorem clo_pre1 (n : Nat) (gens : List ByteArray) (t : Nat) : cloB n gens t <+: cloB n gens (t + 1) := by
  rw [cloB]
  split
  · exact exp_pre _ _ _
  · exact List.prefix_refl _
theorem clo_pre (n : Nat) (gens : List ByteArray) (t : Nat) : ∀ d, cloB n gens t <+: cloB n gens (t + d)
  | 0 => List.prefix_refl _
  | d + 1 => (clo_pre n gens t d).trans (clo_pre1 n gens (t + d))
theorem clo_all {P : ByteArray → Prop} {n : Nat} {gens : List ByteArray} (h0 : P (roundsB n)) (hs : ∀ x g, P x → g ∈ gens → P (timesB x g)) : ∀ t, ∀ x ∈ cloB n gens t, P x
  | 0 => by intro x hx; rw [List.mem_singleton.1 hx]; exact h0
  | t + 1 => by
    have ih := clo_all (P := P) h0 hs t
    rw [cloB]
    split
    · rename_i y hy
      have hy := List.mem_of_getElem? hy
      exact exp_all y gens _ ih (fun g hg => hs y g (ih y hy) hg)
    · exact ih
theorem clo_nodup (n : Nat) (gens : List ByteArray) : ∀ t, (cloB n gens t).Nodup
  | 0 => by simp [cloB]
  | t + 1 => by
    rw [cloB]
    split
    · exact exp_nodup _ _ _ (clo_nodup n gens t)
    · exact clo_nodup n gens t
theorem rows_few {n : Nat} (hn : n ≤ 8) {l : List ByteArray} (hd : l.Nodup) (hr : ∀ x ∈ l, RowIn n x) : l.length ≤ 16777216 := by
  have h8 : 8 ^ n ≤ 16777216 := Nat.le_trans (Nat.pow_le_pow_right (by omega) hn) (by decide)
  rcases Nat.lt_or_ge 16777216 l.length with hl | hl
  · exfalso
    obtain ⟨i, j, hij, hj, e⟩ := pigeon (8 ^ n) (fun k => if h : k < l.length then codeL l[k].data.toList else 0) (fun k hk => by
      have hkl : k < l.length := by omega
      have hk' := hr _ (List.getElem_mem hkl)
      have h := codeL_lt _ (hk'.eight hn)
      rw [hk'.len] at h
      simp only [hkl, dif_pos]
      exact h)
    have hil : i < l.length := by omega
    have hjl : j < l.length := by omega
    simp only [hil, hjl, dif_pos] at e
    have hi' := hr _ (List.getElem_mem hil)
    have hj' := hr _ (List.getElem_mem hjl)
    have e2 := bytes_ext (codeL_inj _ _ (by rw [hi'.len, hj'.len]) (hi'.eight hn) (hj'.eight hn) e)
    exact (List.pairwise_iff_getElem.1 hd) i j hil hjl hij e2
  · exact hl
/-- The group is whole behind T rounds. -/
def IsClo (n : Nat) (gens : List ByteArray) (T : Nat) : Prop := (cloB n gens T).length ≤ T ∧ ∀ t, t < T → t < (cloB n gens t).length
theorem clo_ex {n : Nat} (hn : n ≤ 8) {gens : List ByteArray} (hg : ∀ g ∈ gens, RowIn n g) : ∃ T, T ≤ 16777216 ∧ IsClo n gens T := by
  have hall := clo_all (P := RowIn n) (n := n) (gens := gens) (rounds_in hn) (fun x g hx hg' => times_in hx (hg g hg'))
  obtain ⟨T, h1, h2, h3⟩ := least_of (P := fun t => (cloB n gens t).length ≤ t) 16777216 (rows_few hn (clo_nodup n gens _) (hall _))
  exact ⟨T, h1, h2, fun t ht => Nat.lt_of_not_le (h3 t ht)⟩
theorem clo_len_mono {n : Nat} {gens : List ByteArray} {s t : Nat} (h : s ≤ t) : (cloB n gens s).length ≤ (cloB n gens t).length := by
  obtain ⟨d, rfl⟩ : ∃ d, t = s + d := ⟨t - s, by omega⟩
  exact (clo_pre n gens s d).length_le
theorem clo_get {n : Nat} {gens : List ByteArray} {s t i : Nat} (h : s ≤ t) (hi : i < (cloB n gens s).length) : (cloB n gens t)[i]? = some (cloB n gens s)[i] := by
  obtain ⟨d, rfl⟩ : ∃ d, t = s + d := ⟨t - s, by omega⟩
  obtain ⟨r, hr⟩ := clo_pre n gens s d
  rw [← hr, List.getElem?_append_left hi, List.getElem?_eq_getElem hi]
/-- The group is closed. -/
theorem clo_closed {n T : Nat} {gens : List ByteArray} (h : IsClo n gens T) {x g : ByteArray} (hx : x ∈ cloB n gens T) (hg : g ∈ gens) : timesB x g ∈ cloB n gens T := by
  obtain ⟨i, hi, e⟩ := List.getElem_of_mem hx
  have hiT : i < T := by have := h.1; omega
  have hi2 := h.2 i hiT
  have h1 := clo_get (t := T) (by omega : i ≤ T) hi2
  rw [List.getElem?_eq_getElem hi] at h1
  have h2 := Option.some.inj h1
  have h3 := exp_mem ((cloB n gens i)[i]) gens (cloB n gens i) g hg
  rw [← clo_step hi2, ← h2, e] at h3
  obtain ⟨d, hd⟩ : ∃ d, T = (i + 1) + d := ⟨T - (i + 1), by omega⟩
  rw [hd]
  exact (clo_pre n gens (i + 1) d).subset h3
theorem clo_rounds (n : Nat) (gens : List ByteArray) (T : Nat) : roundsB n ∈ cloB n gens T := by
  have := clo_pre n gens 0 T
  rw [Nat.zero_add] at this
  exact this.subset (by simp [cloB])
/-- Part of a round. -/
def partB (n : Nat) (gens : List ByteArray) (t j : Nat) (y : ByteArray) : List ByteArray := expB (gens.take j) (cloB n gens t) y
theorem part_zero (n : Nat) (gens : List ByteArray) (t : Nat) (y : ByteArray) : partB n gens t 0 y = cloB n gens t := rfl
theorem part_succ {n : Nat} {gens : List ByteArray} {t j : Nat} {y : ByteArray} (h : j < gens.length) : partB n gens t (j + 1) y = visitB (partB n gens t j y) (timesB y gens[j]) := by
  unfold partB expB
  rw [List.take_succ_eq_append_getElem h, List.foldl_append]; rfl
theorem part_all {n : Nat} {gens : List ByteArray} {t : Nat} (h : t < (cloB n gens t).length) : partB n gens t gens.length (cloB n gens t)[t] = cloB n gens (t + 1) := by
  rw [clo_step h]; unfold partB; rw [List.take_length]
theorem part_len {n T : Nat} {gens : List ByteArray} (hT : IsClo n gens T) {t j : Nat} (ht : t < T) : (partB n gens t j ((cloB n gens t)[t]'(hT.2 t ht))).length ≤ (cloB n gens T).length := by
  have h1 : partB n gens t j ((cloB n gens t)[t]'(hT.2 t ht)) <+: cloB n gens (t + 1) := by
    rw [clo_step (hT.2 t ht)]
    generalize (cloB n gens t)[t]'(hT.2 t ht) = y
    have e : expB gens (cloB n gens t) y = expB (gens.drop j) (partB n gens t j y) y := by
      unfold partB expB
      rw [← List.foldl_append, List.take_append_drop]
    rw [e]
    exact exp_pre _ (gens.drop j) _
  exact Nat.le_trans h1.length_le (clo_len_mono (by omega))
/-- A row that holds each bell once. -/
def PermR (n : Nat) (a : ByteArray) : Prop := a.data.toList.Perm (roundsL n)
theorem PermR.rounds {n : Nat} (hn : n ≤ 8) : PermR n (roundsB n) := by unfold PermR; rw [rounds_list hn]
theorem PermR.times {n : Nat} (hn : n ≤ 8) {a b : ByteArray} (ha : PermR n a) (hb : PermR n b) : PermR n (timesB a b) := by
  unfold PermR timesB
  rw [ofL_list]
  have hl : a.data.toList.length = n := by rw [ha.length_eq, roundsL_len]
  have h1 : (timesL a.data.toList b.data.toList).Perm (timesL a.data.toList (roundsL n)) := by unfold timesL; exact hb.map _
  rw [timesL_rounds hn hl] at h1
  exact h1.trans ha
theorem fold_perm : ∀ (ps : List Nat) (l : List UInt8), (∀ p ∈ ps, 1 ≤ p ∧ p < l.length) → (ps.foldl swapAt l).Perm l
  | [], l, _ => List.Perm.refl _
  | p :: ps, l, h => by
    have h0 := h p (List.mem_cons_self ..)
    exact (fold_perm ps (swapAt l p) (fun q hq => by rw [swapAt_len]; exact h q (List.mem_cons_of_mem _ hq))).trans (swapAt_perm h0.1 h0.2)
theorem ch_perm {n : Nat} (hn : n ≤ 8) (c : ByteArray) : PermR n (chB n c) := by
  have hm := fun p hp => swapsW_mem (c := c.data.toList) (n := n) (n - 1) 1 (by omega) p hp
  unfold PermR chB chL
  rw [ofL_list]
  exact fold_perm _ _ (fun p hp => by rw [roundsL_len]; exact hm p hp)
theorem run_perm {n : Nat} (hn : n ≤ 8) : ∀ (cs : List ByteArray) {r : ByteArray}, RowIn n r → PermR n r → PermR n (runB r cs)
  | [], r, _, hr => hr
  | c :: cs, r, hi, hr => by
    refine run_perm hn cs (apply_in hn hi c) ?_
    unfold applyB
    rw [hi.1]
    exact hr.times hn (ch_perm hn c)
/-- The rank of a row. -/
def lessN (x : UInt8) (t : List UInt8) : Nat := t.countP fun y => decide (y < x)
def placeF : Nat → List UInt8 → Nat
  | k, [] => k
  | k, x :: t => placeF (k * (t.length + 1) + lessN x t) t
def factB : Nat → Nat
  | 0 => 1
  | n + 1 => (n + 1) * factB n
def placeB (s : ByteArray) : Nat := placeF 0 s.data.toList
theorem lessN_le (x : UInt8) (t : List UInt8) : lessN x t ≤ t.length := List.countP_le_length
theorem placeF_add : ∀ (l : List UInt8) (k : Nat), placeF k l = k * factB l.length + placeF 0 l
  | [], k => by simp [placeF, factB]
  | x :: t, k => by
    rw [placeF, placeF, placeF_add t (k * (t.length + 1) + lessN x t), placeF_add t (0 * (t.length + 1) + lessN x t), List.length_cons, factB]
    rw [Nat.zero_mul, Nat.zero_add, Nat.add_mul, Nat.mul_assoc]
    omega
theorem fact_pos : ∀ n, 1 ≤ factB n
  | 0 => Nat.le_refl _
  | n + 1 => by rw [factB]; exact Nat.mul_pos (by omega) (fact_pos n)
theorem placeF_lt : ∀ (l : List UInt8), placeF 0 l < factB l.length
  | [] => by simp [placeF, factB]
  | x :: t => by
    rw [placeF, placeF_add, Nat.zero_mul, Nat.zero_add, List.length_cons, factB]
    have h1 := placeF_lt t
    have h2 : lessN x t * factB t.length ≤ t.length * factB t.length := Nat.mul_le_mul_right _ (lessN_le x t)
    have h3 : (t.length + 1) * factB t.length = t.length * factB t.length + factB t.length := Nat.succ_mul _ _
    omega
theorem u8_irr (x : UInt8) : ¬ x < x := by rw [UInt8.lt_iff_toNat_lt]; omega
theorem count_lt {x y : UInt8} (h : x < y) {s t : List UInt8} (hp : (x :: s).Perm (y :: t)) : lessN x s < lessN y t := by
  have h1 : lessN x s = (x :: s).countP fun z => decide (z < x) := by rw [List.countP_cons]; simp [lessN, u8_irr]
  have h2 : lessN y t = (x :: s).countP fun z => decide (z < y) := by rw [hp.countP_eq, List.countP_cons]; simp [lessN, u8_irr]
  rw [h1, h2, List.countP_cons, List.countP_cons]
  have h3 : s.countP (fun z => decide (z < x)) ≤ s.countP (fun z => decide (z < y)) := by
    apply List.countP_mono_left
    intro z _ hz
    simp only [decide_eq_true_eq] at hz ⊢
    rw [UInt8.lt_iff_toNat_lt] at *
    omega
  simp only [decide_eq_true_eq]
  rw [if_neg (u8_irr x), if_pos h]
  omega
theorem placeF_inj : ∀ (a b : List UInt8), a.Perm b → placeF 0 a = placeF 0 b → a = b
  | [], b, h, _ => (List.nil_perm.1 h).symm ▸ rfl
  | x :: s, [], h, _ => by have := h.length_eq; simp at this
  | x :: s, y :: t, h, e => by
    have hl : s.length = t.length := by have := h.length_eq; simpa using this
    rw [placeF, placeF, placeF_add s, placeF_add t, Nat.zero_mul, Nat.zero_add, Nat.zero_mul, Nat.zero_add, hl] at e
    have h1 := placeF_lt s
    have h2 := placeF_lt t
    rw [hl] at h1
    have hdiv : lessN x s = lessN y t := by
      rcases Nat.lt_trichotomy (lessN x s) (lessN y t) with hlt | heq | hlt
      · exfalso
        have : (lessN x s + 1) * factB t.length ≤ lessN y t * factB t.length := Nat.mul_le_mul_right _ hlt
        rw [Nat.succ_mul] at this; omega
      · exact heq
      · exfalso
        have : (lessN y t + 1) * factB t.length ≤ lessN x s * factB t.length := Nat.mul_le_mul_right _ hlt
        rw [Nat.succ_mul] at this; omega
    have hxy : x = y := by
      rcases Nat.lt_trichotomy x.toNat y.toNat with hlt | heq | hlt
      · have := count_lt (UInt8.lt_iff_toNat_lt.2 hlt) h; omega
      · exact UInt8.toNat_inj.1 heq
      · have := count_lt (UInt8.lt_iff_toNat_lt.2 hlt) h.symm; omega
    subst hxy
    rw [placeF_inj s t (List.perm_cons x |>.1 h) (by rw [hdiv] at e; omega)]
theorem place_inj {n : Nat} {a b : ByteArray} (ha : PermR n a) (hb : PermR n b) (h : placeB a = placeB b) : a = b := bytes_ext (placeF_inj _ _ (ha.trans hb.symm) h)
theorem place_lt {n : Nat} {a : ByteArray} (ha : PermR n a) : placeB a < factB n := by
  have := placeF_lt a.data.toList
  rw [ha.length_eq, roundsL_len] at this
  exact this
end Go.Proofs.YtofpjbdelmmclaaGreatDoor

/- Rings: a plain account. -/
namespace Go.Proofs.YtofpjbdelmmclaaGreatDoor
open Go Go.RowKit
set_option linter.unusedVariables false
set_option linter.unusedSimpArgs false

theorem nodup_le : ∀ (l F : List ByteArray), l.Nodup → (∀ x ∈ l, x ∈ F) → l.length ≤ F.length
  | [], F, _, _ => Nat.zero_le _
  | x :: t, F, hd, h => by
    rw [List.nodup_cons] at hd
    have hx := h x (List.mem_cons_self ..)
    have ih := nodup_le t (F.filter fun y => decide (y ≠ x)) hd.2 (fun y hy => List.mem_filter.2 ⟨h y (List.mem_cons_of_mem _ hy), decide_eq_true (fun e => hd.1 (by rw [← e]; exact hy))⟩)
    have hlt : (F.filter fun y => decide (y ≠ x)).length < F.length := by
      rw [List.length_filter_lt_length_iff_exists]
      exact ⟨x, hx, by simp⟩
    rw [List.length_cons]; omega
def iterB (nx : ByteArray → ByteArray) (h : ByteArray) : Nat → ByteArray
  | 0 => h
  | k + 1 => nx (iterB nx h k)
theorem iter_in {nx : ByteArray → ByteArray} {F : List ByteArray} (hF : ∀ x ∈ F, nx x ∈ F) {h : ByteArray} (hh : h ∈ F) : ∀ k, iterB nx h k ∈ F
  | 0 => hh
  | k + 1 => hF _ (iter_in hF hh k)
theorem iter_back {nx : ByteArray → ByteArray} {F : List ByteArray} (hF : ∀ x ∈ F, nx x ∈ F) (hi : ∀ x ∈ F, ∀ y ∈ F, nx x = nx y → x = y) {h : ByteArray} (hh : h ∈ F) : ∀ i d, iterB nx h i = iterB nx h (i + d) → h = iterB nx h d
  | 0, d, e => by rw [Nat.zero_add] at e; exact e
  | i + 1, d, e => by
    refine iter_back hF hi hh i d (hi _ (iter_in hF hh i) _ (iter_in hF hh (i + d)) ?_)
    rw [Nat.succ_add] at e
    exact e
/-- The length of the ring of a row. -/
def IsRing (nx : ByteArray → ByteArray) (h : ByteArray) (R : Nat) : Prop := 1 ≤ R ∧ iterB nx h R = h ∧ ∀ j, 1 ≤ j → j < R → iterB nx h j ≠ h
def ringL (nx : ByteArray → ByteArray) (h : ByteArray) (R : Nat) : List ByteArray := (List.range R).map (iterB nx h)
theorem ringL_len (nx : ByteArray → ByteArray) (h : ByteArray) (R : Nat) : (ringL nx h R).length = R := by simp [ringL]
theorem ringL_succ (nx : ByteArray → ByteArray) (h : ByteArray) (R : Nat) : ringL nx h (R + 1) = ringL nx h R ++ [iterB nx h R] := by simp [ringL, List.range_succ]
theorem ring_ex {nx : ByteArray → ByteArray} {F : List ByteArray} (hF : ∀ x ∈ F, nx x ∈ F) (hi : ∀ x ∈ F, ∀ y ∈ F, nx x = nx y → x = y) {h : ByteArray} (hh : h ∈ F) : ∃ R, R ≤ F.length ∧ IsRing nx h R := by
  have hc : ∃ i j, i < j ∧ j ≤ F.length ∧ iterB nx h i = iterB nx h j := by
    apply Classical.byContradiction
    intro hn
    have hd : (ringL nx h (F.length + 1)).Nodup := by
      unfold ringL
      rw [List.Nodup, List.pairwise_map, List.pairwise_iff_getElem]
      intro i j hi' hj' hij e
      rw [List.getElem_range, List.getElem_range] at e
      rw [List.length_range] at hj'
      exact hn ⟨i, j, hij, by omega, e⟩
    have := nodup_le _ F hd (fun x hx => by
      unfold ringL at hx
      obtain ⟨k, _, rfl⟩ := List.mem_map.1 hx
      exact iter_in hF hh k)
    rw [ringL_len] at this
    omega
  obtain ⟨i, j, hij, hj, e⟩ := hc
  have e2 := iter_back hF hi hh i (j - i) (by rw [e]; congr 1; omega)
  obtain ⟨R, h1, h2, h3⟩ := least_of (P := fun k => 1 ≤ k ∧ iterB nx h k = h) (j - i) ⟨by omega, e2.symm⟩
  exact ⟨R, by omega, h2.1, h2.2, fun q hq hlt hp => h3 q hlt ⟨hq, hp⟩⟩
theorem ring_stop {nx : ByteArray → ByteArray} {h : ByteArray} {R k : Nat} (hR : IsRing nx h R) (h1 : 1 ≤ k) (hk : k ≤ R) (e : iterB nx h k = h) : k = R := by
  rcases Nat.lt_or_ge k R with hl | hl
  · exact absurd e (hR.2.2 k h1 hl)
  · omega
theorem ring_go {nx : ByteArray → ByteArray} {h : ByteArray} {R k : Nat} (hR : IsRing nx h R) (hk : k ≤ R) (e : iterB nx h k ≠ h) : k < R := by
  rcases Nat.lt_or_ge k R with hl | hl
  · exact hl
  · obtain rfl : k = R := by omega
    exact absurd hR.2.1 e
/-- The rings of some rows, but for those that are seen. -/
def rgs (nx : ByteArray → ByteArray) (RR : ByteArray → Nat) : List ByteArray → List ByteArray → List (List ByteArray)
  | [], _ => []
  | h :: t, seen => if h ∈ seen then rgs nx RR t seen else ringL nx h (RR h) :: rgs nx RR t (seen ++ ringL nx h (RR h))
theorem rgs_len (nx : ByteArray → ByteArray) (RR : ByteArray → Nat) : ∀ (l seen : List ByteArray), (rgs nx RR l seen).length ≤ l.length
  | [], _ => Nat.le_refl _
  | h :: t, seen => by
    rw [rgs]; split
    · exact Nat.le_trans (rgs_len nx RR t seen) (by simp)
    · rw [List.length_cons, List.length_cons]; exact Nat.succ_le_succ (rgs_len nx RR t _)
theorem rgs_seen {nx : ByteArray → ByteArray} {RR : ByteArray → Nat} {G seen : List ByteArray} {k : Nat} (hk : k < G.length) (h : G[k] ∈ seen) : rgs nx RR (G.drop k) seen = rgs nx RR (G.drop (k + 1)) seen := by
  rw [List.drop_eq_getElem_cons hk, rgs, if_pos h]
theorem rgs_new {nx : ByteArray → ByteArray} {RR : ByteArray → Nat} {G seen : List ByteArray} {k : Nat} (hk : k < G.length) (h : G[k] ∉ seen) : rgs nx RR (G.drop k) seen = ringL nx G[k] (RR G[k]) :: rgs nx RR (G.drop (k + 1)) (seen ++ ringL nx G[k] (RR G[k])) := by
  rw [List.drop_eq_getElem_cons hk, rgs, if_neg h]
/-- The next head. -/
def nxB (bobs : List ByteArray) (P B : ByteArray) (h : ByteArray) : ByteArray := if h ∈ bobs then timesB h B else timesB h P
def goodQ (bobs : List ByteArray) (Q : ByteArray) : Prop := ∀ h ∈ bobs, timesB h Q ∈ bobs
theorem good_pow {n : Nat} (hn : n ≤ 8) {bobs : List ByteArray} {Q : ByteArray} (hQ : RowIn n Q) (hg : goodQ bobs Q) {h : ByteArray} (hr : RowIn n h) (hh : h ∈ bobs) : ∀ k, timesB h (powB n Q k) ∈ bobs
  | 0 => by show timesB h (roundsB n) ∈ bobs; rw [times_rounds hn hr]; exact hh
  | k + 1 => by
    show timesB h (timesB (powB n Q k) Q) ∈ bobs
    rw [← times_assoc h (pow_in hn hQ k) hQ]
    exact hg _ (good_pow hn hQ hg hr hh k)
theorem nx_inj {n : Nat} (hn : n ≤ 8) {bobs : List ByteArray} {P B B' Q : ByteArray} (hP : Inv n P) (hB : Inv n B) (hB' : RowIn n B') (h1 : timesB B B' = roundsB n) (hQd : Q = timesB P B') (hQ : Inv n Q) (hg : goodQ bobs Q)
    {x y : ByteArray} (hx : RowIn n x) (hy : RowIn n y) (e : nxB bobs P B x = nxB bobs P B y) : x = y := by
  have key : ∀ a b : ByteArray, RowIn n a → RowIn n b → a ∈ bobs → b ∉ bobs → timesB a B = timesB b P → False := by
    intro a b ha hb hma hmb e
    have e2 : timesB b Q = a := by
      rw [hQd, ← times_assoc b hP.1 hB', ← e, times_assoc a hB.1 hB', h1, times_rounds hn ha]
    obtain ⟨K, _, hK⟩ := ord_ex hn hQ
    have h3 := good_pow hn hQ.1 hg ha hma (K - 1)
    have h4 : timesB a (powB n Q (K - 1)) = b := by
      rw [← e2, times_assoc b hQ.1 (pow_in hn hQ.1 _)]
      have e3 : timesB Q (powB n Q (K - 1)) = powB n Q K := by
        have h5 := pow_add hn hQ.1 1 (K - 1)
        rw [pow_one hn hQ.1, show 1 + (K - 1) = K by have := hK.1; omega] at h5
        exact h5.symm
      rw [e3, hK.2.1, times_rounds hn hb]
    rw [h4] at h3
    exact hmb h3
  unfold nxB at e
  split at e
  · split at e
    · exact hB.cancel hn hx hy e
    · exact (key x y hx hy (by assumption) (by assumption) e).elim
  · split at e
    · exact (key y x hy hx (by assumption) (by assumption) e.symm).elim
    · exact hP.cancel hn hx hy e
theorem good_nil (Q : ByteArray) : goodQ [] Q := fun h hh => by cases hh
/-- What an inverse says of places. -/
theorem inv_at {n : Nat} (hn : n ≤ 8) {a b : ByteArray} (ha : RowIn n a) (h : timesB b a = roundsB n) {i : Nat} (hi : i < a.size) : b.data.toList[a[i].toNat - 49]? = some (UInt8.ofNat (49 + i)) ∨ b.size ≤ a[i].toNat - 49 := by
  by_cases hb : a[i].toNat - 49 < b.size
  · left
    have e : (timesL b.data.toList a.data.toList)[i]? = (roundsL n)[i]? := by
      have h3 : (timesB b a).data.toList = (roundsB n).data.toList := by rw [h]
      rw [rounds_list hn] at h3
      unfold timesB at h3
      rw [ofL_list] at h3
      rw [h3]
    have hin : i < n := by rw [← ha.1]; exact hi
    rw [roundsL_get hin] at e
    unfold timesL at e
    rw [List.getElem?_map, List.getElem?_eq_getElem (by rw [bytes_len]; exact hi), bytes_get a i hi, Option.map_some, List.getD_eq_getElem?_getD, List.getElem?_eq_getElem (by rw [bytes_len]; exact hb), Option.getD_some] at e
    rw [List.getElem?_eq_getElem (by rw [bytes_len]; exact hb)]
    exact e
  · right; omega
theorem inv_cover {n : Nat} (hn : n ≤ 8) {a b : ByteArray} (ha : RowIn n a) (hb : RowIn n b) (h : timesB a b = roundsB n) {j : Nat} (hj : j < n) : ∃ i, ∃ hi : i < a.size, a[i].toNat - 49 = j := by
  have hjb : j < b.size := by rw [hb.1]; exact hj
  have hat := hb.at_ hjb
  have hi : b[j].toNat - 49 < a.size := by rw [ha.1]; omega
  refine ⟨b[j].toNat - 49, hi, ?_⟩
  have e := inv_at hn hb h hjb
  rcases e with e | e
  · rw [List.getElem?_eq_getElem (by rw [bytes_len]; exact hi), bytes_get a _ hi] at e
    have := congrArg UInt8.toNat (Option.some.inj e)
    rw [u8_49 (by omega)] at this
    omega
  · omega
end Go.Proofs.YtofpjbdelmmclaaGreatDoor

/- Contracts: the inverse of a row, both sides. -/
namespace Go.Proofs.YtofpjbdelmmclaaGreatDoor
open Go Go.RowKit
set_option linter.unusedVariables false
set_option linter.unusedSimpArgs false

theorem made_rep (z : Value) (n : Nat) : (madeCells #[z] n).toList = List.replicate n z := by
  apply List.ext_getElem?
  intro i
  simp only [madeCells, Array.toList_map, Array.toList_range, List.getElem?_map]
  by_cases hi : i < n
  · rw [List.getElem?_eq_getElem (by simpa using hi), List.getElem?_eq_getElem (by simpa using hi)]
    simp [Nat.mod_one]
  · rw [List.getElem?_eq_none (by simpa using hi), List.getElem?_eq_none (by simpa using hi)]
    rfl
/-- a and b are inverse to each other. -/
structure Inv2 (n : Nat) (a b : ByteArray) : Prop where
  hn : n ≤ 8
  ha : RowIn n a
  hb : RowIn n b
  ab : timesB a b = roundsB n
  ba : timesB b a = roundsB n
theorem inv2_of {n : Nat} (hn : n ≤ 8) {a : ByteArray} (h : Inv n a) : ∃ b, Inv2 n a b := by
  obtain ⟨ha, b, hb, h1, h2⟩ := h; exact ⟨b, hn, ha, hb, h1, h2⟩
theorem Inv2.at_ {n : Nat} {a b : ByteArray} (h : Inv2 n a b) {i : Nat} (hi : i < n) : ∃ m, m < n ∧ (a[i]'(by rw [h.ha.1]; exact hi)).toNat = m + 49 ∧ b.data.toList[m]? = some (UInt8.ofNat (49 + i)) := by
  have hia : i < a.size := by rw [h.ha.1]; exact hi
  have hat := h.ha.at_ hia
  refine ⟨a[i].toNat - 49, by omega, by omega, ?_⟩
  rcases inv_at h.hn h.ha h.ba hia with e | e
  · exact e
  · rw [h.hb.1] at e; omega
/-- When all places are written, the inverse stands there. -/
theorem Inv2.whole {n : Nat} {a b : ByteArray} (h : Inv2 n a b) {l : List UInt8} (hl : l.length = n) (hw : ∀ i, i < n → ∀ m, a.data.toList[i]?.map (fun c => c.toNat) = some (m + 49) → l[m]? = some (UInt8.ofNat (49 + i))) : ofL l = b := by
  apply bytes_ext
  rw [ofL_list]
  apply List.ext_getElem?
  intro j
  by_cases hj : j < n
  · obtain ⟨i, hi, e⟩ := inv_cover h.hn h.ha h.hb h.ab hj
    have hin : i < n := by rw [← h.ha.1]; exact hi
    obtain ⟨m, hm, e1, e2⟩ := h.at_ hin
    have hmj : m = j := by omega
    subst hmj
    rw [e2]
    refine hw i hin m ?_
    rw [List.getElem?_eq_getElem (by rw [bytes_len]; exact hi), bytes_get a i hi]
    simp only [Option.map_some, e1]
  · rw [List.getElem?_eq_none (by omega), List.getElem?_eq_none (by rw [bytes_len, h.hb.1]; omega)]
/-- Some places are written. -/
def Wr (a : ByteArray) (k : Nat) (l : List UInt8) : Prop := ∀ i, i < k → ∀ m, a.data.toList[i]?.map (fun c => c.toNat) = some (m + 49) → l[m]? = some (UInt8.ofNat (49 + i))
theorem Wr.step {n : Nat} {a b : ByteArray} (h : Inv2 n a b) {k : Nat} {l : List UInt8} (hl : l.length = n) (hk : k < n) (hw : Wr a k l) {m : Nat} (hm : m < n) (e : (a[k]'(by rw [h.ha.1]; exact hk)).toNat = m + 49) : Wr a (k + 1) (l.set m (UInt8.ofNat (49 + k))) := by
  intro i hi m' e'
  have hka : k < a.size := by rw [h.ha.1]; exact hk
  by_cases hik : i = k
  · subst hik
    rw [List.getElem?_eq_getElem (by rw [bytes_len]; exact hka), bytes_get a i hka] at e'
    simp only [Option.map_some, Option.some.injEq] at e'
    obtain rfl : m' = m := by omega
    rw [List.getElem?_set_self (by omega)]
  · have hne : m' ≠ m := by
      intro e2
      subst e2
      have hia : i < a.size := by omega
      rw [List.getElem?_eq_getElem (by rw [bytes_len]; exact hia), bytes_get a i hia] at e'
      simp only [Option.map_some, Option.some.injEq] at e'
      obtain ⟨m1, _, f1, g1⟩ := h.at_ hk
      obtain ⟨m2, _, f2, g2⟩ := h.at_ (show i < n by omega)
      have hm12 : m1 = m2 := by omega
      subst hm12
      rw [g1] at g2
      have h9 := h.hn
      have h8 := congrArg UInt8.toNat (Option.some.inj g2)
      rw [u8_49 (by omega), u8_49 (by omega)] at h8
      omega
    rw [List.getElem?_set_ne (fun e => hne e.symm)]
    exact hw i (by omega) m' e'
theorem u8v_49 {k : Nat} (hk : k < 8) : u8v (UInt8.ofNat (49 + k)) = .int .u8 ((49 : Int) + k) := by
  unfold u8v; rw [u8_49 hk]; simp
set_option maxRecDepth 10000 in
set_option maxHeartbeats 1000000 in
theorem l1Turn_any (n : Nat) (a b : ByteArray) (w : World) (h : Inv2 n a b) : Calls Tryz.prog 166 #[.string a] w fun e w' => e = .returned (.string b) ∧ Below w.heap.size w w' := by
  have H := Lib.hid h
  have hsz := h.ha.1
  have hn := h.hn
  obtain ⟨w1, C, hcv, hrow, hb1⟩ := bytes_of a n hsz w
  have Hrow := Lib.hid hrow
  have hg0 := hrow.lt
  clear h hrow
  go_enter Tryz.func166, Tryz.ntmps166
  go_wp2_with fail
  go_loopw [4] (fun i wr => ∃ k : Nat, k ≤ n ∧ i = .int .i64 ((k : Int) + 1) ∧ Below w.heap.size w wr ∧ ∃ l : List UInt8, l.length = n ∧ BRow wr w.heap.size n l ∧ Wr a k l) (fun i _ => n + 1 - (intOf i).toNat)
  case atStart => exact ⟨0, by omega, rfl, hb1, _, by rw [bytes_len]; exact hsz, Hrow.out, fun i hi => absurd hi (by omega)⟩
  case round =>
    obtain ⟨k, hk, rfl, hB, l, hl, hrow, hw⟩ := hrel
    have Hw := Lib.hid hw
    clear hw
    by_cases hlt : k < n
    · have hka : k < a.size := by rw [hsz]; exact hlt
      obtain ⟨m, hm, e1, e2⟩ := H.out.at_ hlt
      have Hst := Lib.hid (Wr.step H.out hl hlt Hw.out hm e1)
      obtain ⟨y0, hy0⟩ : ∃ y, wr.cell? ⟨w.heap.size, m, none⟩ = some (u8v y) := ⟨_, hrow.cell (j := m) (by omega)⟩
      have hf := hrow.free (j := m) hm
      have hl1 := Lib.hid (l1At_any a k wr (by rw [hsz]; unfold maxLen; omega) hka (by omega))
      have hak : (a[k].toNat : Int) - 48 = m + 1 := by omega
      rw [hak] at hl1
      have hw9 : IntKind.u8.wrap ((48 : Int) + ((k : Int) + 1)) = 48 + ((k : Int) + 1) := IntWalk.u8_in _ ⟨by omega, by omega⟩
      have hm1 : (m : Int) + 1 - 1 = m := by omega
      have Hv : Hid (Value.int .u8 (48 + ((k : Int) + 1)) = u8v (UInt8.ofNat (49 + k))) := Lib.hid (by rw [u8v_49 (by omega)]; congr 1; omega)
      have hrow2 := Lib.hid (hrow.set (j := m) hm (UInt8.ofNat (49 + k)))
      rw [← Hv.out] at hrow2
      clear e1 e2 hrow
      go_wp2_with (go_at_call 176; refine (hl1.out).mono ?_; rintro e w' ⟨rfl, rfl⟩)
      exact ⟨⟨k + 1, by omega, by go_num, grow_set hB (Nat.le_refl _) _, _, by rw [List.length_set]; exact hl, hrow2.out, Hst.out⟩, by simp [intOf]; omega⟩
    · obtain rfl : k = n := by omega
      have hcv2 := hrow.conv (cap := C) Tryz.underlying22 Tryz.underlying5 Tryz.underlying9
      have HT := Lib.hid (H.out.whole hl Hw.out)
      clear hrow
      go_wp2_with fail
      go_ret
      exact ⟨ret_str HT.out, hB⟩
end Go.Proofs.YtofpjbdelmmclaaGreatDoor

/- Contracts: room for a slice of strings; two slices joined. -/
namespace Go.Proofs.YtofpjbdelmmclaaGreatDoor
open Go Go.RowKit
set_option linter.unusedVariables false
set_option linter.unusedSimpArgs false

end Go.Proofs.YtofpjbdelmmclaaGreatDoor

/- Contracts: a list that begins with its element k. -/
namespace Go.Proofs.YtofpjbdelmmclaaGreatDoor
open Go Go.RowKit
set_option linter.unusedVariables false
set_option linter.unusedSimpArgs false

theorem strs_from {w : World} {ad : Addr} {c k : Nat} {ss : List ByteArray} (h : Strs w (.slice (some ad) ss.length c) ss) (hk : k < ss.length) : Strs w (.slice (some (ad.add k)) (ss.length - k) (c - k)) (ss.drop k) := by
  obtain ⟨A', c', hA, h1, h2, hr⟩ := h
  cases hA
  have hc := hr.cut (k := k) (cap := c) (by omega) h1
  rw [if_neg (by omega)] at hc
  simp only [Option.map_some, Nat.mul_one] at hc
  refine ⟨some (ad.add k), c - k, by rw [List.length_drop], by rw [List.length_drop]; omega, by omega, ?_⟩
  rw [List.length_drop, List.map_drop]
  exact hc
theorem strs_upto {w : World} {ad : Addr} {c k : Nat} {ss : List ByteArray} (h : Strs w (.slice (some ad) ss.length c) ss) (hk : k < ss.length) : Strs w (.slice (some ad) k c) (ss.take k) := by
  obtain ⟨A', c', hA, h1, h2, hr⟩ := h
  cases hA
  have hl : (ss.take k).length = k := by rw [List.length_take]; omega
  refine ⟨some ad, c, by rw [hl], by rw [hl]; omega, h2, ?_⟩
  rw [hl]
  refine ⟨by simp; omega, fun h0 => ?_⟩
  obtain ⟨ad', e, hb, hc⟩ := hr.2 (by omega)
  refine ⟨ad', e, hb, fun j u hu => hc j u ?_⟩
  rw [List.map_take] at hu
  have hj : j < k := by have := (List.getElem?_eq_some_iff.1 hu).1; simp at this; omega
  rwa [List.getElem?_take_of_lt hj] at hu
theorem nilok_some (a : Addr) (n c : Nat) : NilOk (.slice (some a) n c) := by intro n' c' h; cases h
end Go.Proofs.YtofpjbdelmmclaaGreatDoor

/- Contracts: a method with other changes; a method's copy of the reference. -/
namespace Go.Proofs.YtofpjbdelmmclaaGreatDoor
open Go Go.RowKit
set_option linter.unusedVariables false
set_option linter.unusedSimpArgs false

set_option maxHeartbeats 1000000 in
theorem withChanges_any (m : Mt) (v : Value) (A : Option Addr) (n c : Nat) (w : World) : Calls Tryz.prog 211 #[m.v v, .slice A n c] w fun e w' => e = .returned (m.v (.slice A n c)) ∧ Below w.heap.size w w' := by
  unfold Mt.v
  go_enter Tryz.func211, Tryz.ntmps211
  go_wp2
  refine bodyPost_ret (v := .agg #[.string m.name, .int .i64 m.stage, .slice A n c]) (by simp [results, go_sem]) rfl ⟨rfl, ?_⟩
  exact bw_al (bw_al (Below.refl _ _) _) _
theorem blk_lt {w : World} {g : Nat} {o : Obj} (h : w.heap[g]? = some o) : g < w.heap.size := by
  rcases Nat.lt_or_ge g w.heap.size with hlt | hge
  · exact hlt
  · rw [Array.getElem?_eq_none hge] at h; cases h
theorem boxRuleB {wb : World} {g B : Nat} {cs : Array Value} {t : TypeId} (h : wb.heap[g]? = some (.cells cs t (0, 0))) (hB : g < B) : ∀ (w' : World) (i : Nat), Below B wb w' → w'.cell? ⟨g, i, none⟩ = cs[i]? := by
  intro w' i hb
  exact cell_of_row w' g i cs t (0, 0) ((hb.block g hB).trans h)
theorem set3_low {a w : World} {B g : Nat} {p q r : Nat} {x y z : Value} (h : Below B a w) (hg : B ≤ g) : Below B a (((w.setCell ⟨g, p, none⟩ x).setCell ⟨g, q, none⟩ y).setCell ⟨g, r, none⟩ z) :=
  ((h.setCell (p := ⟨g, p, none⟩) hg x).setCell (p := ⟨g, q, none⟩) hg y).setCell (p := ⟨g, r, none⟩) hg z
end Go.Proofs.YtofpjbdelmmclaaGreatDoor

/- Contracts: a method that begins with its change k; a method turned. -/
namespace Go.Proofs.YtofpjbdelmmclaaGreatDoor
open Go Go.RowKit
set_option linter.unusedVariables false
set_option linter.unusedSimpArgs false

end Go.Proofs.YtofpjbdelmmclaaGreatDoor
