/- The group that some rows generate, the rank of a row: a plain account. -/
import Derived.Test.YtofpjbdelmmclaaGreatDoorPk22
namespace Go.Proofs.YtofpjbdelmmclaaGreatDoor
open Go Go.RowKit
set_option linter.unusedVariables false
set_option linter.unusedSimpArgs false

instance decMemB (x : ByteArray) (L : List ByteArray) : Decidable (x ∈ L) := decidable_of_iff (L.any (fun y => decide (y = x)) = true) (by simp)
def visitB (L : List ByteArray) (x : ByteArray) : List ByteArray := if x ∈ L then L else L ++ [x]
def visitG (y : ByteArray) (L : List ByteArray) (g : ByteArray) : List ByteArray := visitB L (timesB y g)
def expB (gens L : List ByteArray) (y : ByteArray) : List ByteArray := gens.foldl (visitG y) L
theorem visit_pre (L : List ByteArray) (x : ByteArray) : L <+: visitB L x := by
  unfold visitB; split
  · exact List.prefix_refl _
  · exact List.prefix_append _ _
theorem visit_mem (L : List ByteArray) (x : ByteArray) : x ∈ visitB L x := by
  unfold visitB; split
  · assumption
  · simp
theorem visit_nodup {L : List ByteArray} (h : L.Nodup) (x : ByteArray) : (visitB L x).Nodup := by
  unfold visitB; split
  · exact h
  · rw [List.nodup_append]
    refine ⟨h, by simp, fun a ha b hb e => ?_⟩
    rw [List.mem_singleton] at hb
    subst hb; subst e
    contradiction
theorem visit_all {P : ByteArray → Prop} {L : List ByteArray} (h : ∀ x ∈ L, P x) {x : ByteArray} (hx : P x) : ∀ z ∈ visitB L x, P z := by
  unfold visitB; split
  · exact h
  · intro z hz
    rcases List.mem_append.1 hz with hz | hz
    · exact h z hz
    · rw [List.mem_singleton.1 hz]; exact hx
theorem exp_pre (y : ByteArray) : ∀ (gens L : List ByteArray), L <+: expB gens L y
  | [], L => List.prefix_refl _
  | g :: gens, L => (visit_pre L (timesB y g)).trans (exp_pre y gens (visitG y L g))
theorem exp_mem (y : ByteArray) : ∀ (gens L : List ByteArray) (g : ByteArray), g ∈ gens → timesB y g ∈ expB gens L y
  | h :: gens, L, g, hg => by
    rcases List.mem_cons.1 hg with rfl | hg
    · exact (exp_pre y gens (visitG y L g)).subset (visit_mem L (timesB y g))
    · exact exp_mem y gens (visitG y L h) g hg
theorem exp_nodup (y : ByteArray) : ∀ (gens L : List ByteArray), L.Nodup → (expB gens L y).Nodup
  | [], L, h => h
  | g :: gens, L, h => exp_nodup y gens (visitG y L g) (visit_nodup h _)
theorem exp_all {P : ByteArray → Prop} (y : ByteArray) : ∀ (gens L : List ByteArray), (∀ x ∈ L, P x) → (∀ g ∈ gens, P (timesB y g)) → ∀ z ∈ expB gens L y, P z
  | [], L, h, _ => h
  | g :: gens, L, h, hg => exp_all y gens (visitG y L g) (visit_all h (hg g (List.mem_cons_self ..))) (fun g' h' => hg g' (List.mem_cons_of_mem _ h'))
/-- The list behind t rounds. -/
def cloB (n : Nat) (gens : List ByteArray) : Nat → List ByteArray
  | 0 => [roundsB n]
  | t + 1 => match (cloB n gens t)[t]? with
    | some y => expB gens (cloB n gens t) y
    | none => cloB n gens t
theorem clo_step {n : Nat} {gens : List ByteArray} {t : Nat} (h : t < (cloB n gens t).length) : cloB n gens (t + 1) = expB gens (cloB n gens t) ((cloB n gens t)[t]) := by
  rw [cloB, List.getElem?_eq_getElem h]
theorem clo_pre1 (n : Nat) (gens : List ByteArray) (t : Nat) : cloB n gens t <+: cloB n gens (t + 1) := by
  rw [cloB]
  split
  · exact exp_pre _ _ _
  · exact List.prefix_refl _
theorem clo_pre (n : Nat) (gens : List ByteArray) (t : Nat) : ∀ d, cloB n gens t <+: cloB n gens (t + d)
  | 0 => List.prefix_refl _
  | d + 1 => (clo_pre n gens t d).trans (clo_pre1 n gens (t + d))
theorem clo_all {P : ByteArray → Prop} {n : Nat} {gens : List ByteArray} (h0 : P (roundsB n)) (hs : ∀ x g, P x → g ∈ gens → P (timesB x g)) : ∀ t, ∀ x ∈ cloB n gens t, P x
  | 0 => by intro x hx; rw [List.mem_singleton.1 hx]; exact h0
  | t + 1 => by
    have ih := clo_all (P := P) h0 hs t
    rw [cloB]
    split
    · rename_i y hy
      have hy := List.mem_of_getElem? hy
      exact exp_all y gens _ ih (fun g hg => hs y g (ih y hy) hg)
    · exact ih
theorem clo_nodup (n : Nat) (gens : List ByteArray) : ∀ t, (cloB n gens t).Nodup
  | 0 => by simp [cloB]
  | t + 1 => by
    rw [cloB]
    split
    · exact exp_nodup _ _ _ (clo_nodup n gens t)
    · exact clo_nodup n gens t
theorem rows_few {n : Nat} (hn : n ≤ 8) {l : List ByteArray} (hd : l.Nodup) (hr : ∀ x ∈ l, RowIn n x) : l.length ≤ 16777216 := by
  have h8 : 8 ^ n ≤ 16777216 := Nat.le_trans (Nat.pow_le_pow_right (by omega) hn) (by decide)
  rcases Nat.lt_or_ge 16777216 l.length with hl | hl
  · exfalso
    obtain ⟨i, j, hij, hj, e⟩ := pigeon (8 ^ n) (fun k => if h : k < l.length then codeL l[k].data.toList else 0) (fun k hk => by
      have hkl : k < l.length := by omega
      have hk' := hr _ (List.getElem_mem hkl)
      have h := codeL_lt _ (hk'.eight hn)
      rw [hk'.len] at h
      simp only [hkl, dif_pos]
      exact h)
    have hil : i < l.length := by omega
    have hjl : j < l.length := by omega
    simp only [hil, hjl, dif_pos] at e
    have hi' := hr _ (List.getElem_mem hil)
    have hj' := hr _ (List.getElem_mem hjl)
    have e2 := bytes_ext (codeL_inj _ _ (by rw [hi'.len, hj'.len]) (hi'.eight hn) (hj'.eight hn) e)
    exact (List.pairwise_iff_getElem.1 hd) i j hil hjl hij e2
  · exact hl
/-- The group is whole behind T rounds. -/
def IsClo (n : Nat) (gens : List ByteArray) (T : Nat) : Prop := (cloB n gens T).length ≤ T ∧ ∀ t, t < T → t < (cloB n gens t).length
theorem clo_ex {n : Nat} (hn : n ≤ 8) {gens : List ByteArray} (hg : ∀ g ∈ gens, RowIn n g) : ∃ T, T ≤ 16777216 ∧ IsClo n gens T := by
  have hall := clo_all (P := RowIn n) (n := n) (gens := gens) (rounds_in hn) (fun x g hx hg' => times_in hx (hg g hg'))
  obtain ⟨T, h1, h2, h3⟩ := least_of (P := fun t => (cloB n gens t).length ≤ t) 16777216 (rows_few hn (clo_nodup n gens _) (hall _))
  exact ⟨T, h1, h2, fun t ht => Nat.lt_of_not_le (h3 t ht)⟩
theorem clo_len_mono {n : Nat} {gens : List ByteArray} {s t : Nat} (h : s ≤ t) : (cloB n gens s).length ≤ (cloB n gens t).length := by
  obtain ⟨d, rfl⟩ : ∃ d, t = s + d := ⟨t - s, by omega⟩
  exact (clo_pre n gens s d).length_le
theorem clo_get {n : Nat} {gens : List ByteArray} {s t i : Nat} (h : s ≤ t) (hi : i < (cloB n gens s).length) : (cloB n gens t)[i]? = some (cloB n gens s)[i] := by
  obtain ⟨d, rfl⟩ : ∃ d, t = s + d := ⟨t - s, by omega⟩
  obtain ⟨r, hr⟩ := clo_pre n gens s d
  rw [← hr, List.getElem?_append_left hi, List.getElem?_eq_getElem hi]
/-- The group is closed. -/
theorem clo_closed {n T : Nat} {gens : List ByteArray} (h : IsClo n gens T) {x g : ByteArray} (hx : x ∈ cloB n gens T) (hg : g ∈ gens) : timesB x g ∈ cloB n gens T := by
  obtain ⟨i, hi, e⟩ := List.getElem_of_mem hx
  have hiT : i < T := by have := h.1; omega
  have hi2 := h.2 i hiT
  have h1 := clo_get (t := T) (by omega : i ≤ T) hi2
  rw [List.getElem?_eq_getElem hi] at h1
  have h2 := Option.some.inj h1
  have h3 := exp_mem ((cloB n gens i)[i]) gens (cloB n gens i) g hg
  rw [← clo_step hi2, ← h2, e] at h3
  obtain ⟨d, hd⟩ : ∃ d, T = (i + 1) + d := ⟨T - (i + 1), by omega⟩
  rw [hd]
  exact (clo_pre n gens (i + 1) d).subset h3
theorem clo_rounds (n : Nat) (gens : List ByteArray) (T : Nat) : roundsB n ∈ cloB n gens T := by
  have := clo_pre n gens 0 T
  rw [Nat.zero_add] at this
  exact this.subset (by simp [cloB])
/-- Part of a round. -/
def partB (n : Nat) (gens : List ByteArray) (t j : Nat) (y : ByteArray) : List ByteArray := expB (gens.take j) (cloB n gens t) y
theorem part_zero (n : Nat) (gens : List ByteArray) (t : Nat) (y : ByteArray) : partB n gens t 0 y = cloB n gens t := rfl
theorem part_succ {n : Nat} {gens : List ByteArray} {t j : Nat} {y : ByteArray} (h : j < gens.length) : partB n gens t (j + 1) y = visitB (partB n gens t j y) (timesB y gens[j]) := by
  unfold partB expB
  rw [List.take_succ_eq_append_getElem h, List.foldl_append]; rfl
theorem part_all {n : Nat} {gens : List ByteArray} {t : Nat} (h : t < (cloB n gens t).length) : partB n gens t gens.length (cloB n gens t)[t] = cloB n gens (t + 1) := by
  rw [clo_step h]; unfold partB; rw [List.take_length]
theorem part_len {n T : Nat} {gens : List ByteArray} (hT : IsClo n gens T) {t j : Nat} (ht : t < T) : (partB n gens t j ((cloB n gens t)[t]'(hT.2 t ht))).length ≤ (cloB n gens T).length := by
  have h1 : partB n gens t j ((cloB n gens t)[t]'(hT.2 t ht)) <+: cloB n gens (t + 1) := by
    rw [clo_step (hT.2 t ht)]
    generalize (cloB n gens t)[t]'(hT.2 t ht) = y
    have e : expB gens (cloB n gens t) y = expB (gens.drop j) (partB n gens t j y) y := by
      unfold partB expB
      rw [← List.foldl_append, List.take_append_drop]
    rw [e]
    exact exp_pre _ (gens.drop j) _
  exact Nat.le_trans h1.length_le (clo_len_mono (by omega))
/-- A row that holds each bell once. -/
def PermR (n : Nat) (a : ByteArray) : Prop := a.data.toList.Perm (roundsL n)
theorem PermR.rounds {n : Nat} (hn : n ≤ 8) : PermR n (roundsB n) := by unfold PermR; rw [rounds_list hn]
theorem PermR.times {n : Nat} (hn : n ≤ 8) {a b : ByteArray} (ha : PermR n a) (hb : PermR n b) : PermR n (timesB a b) := by
  unfold PermR timesB
  rw [ofL_list]
  have hl : a.data.toList.length = n := by rw [ha.length_eq, roundsL_len]
  have h1 : (timesL a.data.toList b.data.toList).Perm (timesL a.data.toList (roundsL n)) := by unfold timesL; exact hb.map _
  rw [timesL_rounds hn hl] at h1
  exact h1.trans ha
theorem fold_perm : ∀ (ps : List Nat) (l : List UInt8), (∀ p ∈ ps, 1 ≤ p ∧ p < l.length) → (ps.foldl swapAt l).Perm l
  | [], l, _ => List.Perm.refl _
  | p :: ps, l, h => by
    have h0 := h p (List.mem_cons_self ..)
    exact (fold_perm ps (swapAt l p) (fun q hq => by rw [swapAt_len]; exact h q (List.mem_cons_of_mem _ hq))).trans (swapAt_perm h0.1 h0.2)
theorem ch_perm {n : Nat} (hn : n ≤ 8) (c : ByteArray) : PermR n (chB n c) := by
  have hm := fun p hp => swapsW_mem (c := c.data.toList) (n := n) (n - 1) 1 (by omega) p hp
  unfold PermR chB chL
  rw [ofL_list]
  exact fold_perm _ _ (fun p hp => by rw [roundsL_len]; exact hm p hp)
theorem run_perm {n : Nat} (hn : n ≤ 8) : ∀ (cs : List ByteArray) {r : ByteArray}, RowIn n r → PermR n r → PermR n (runB r cs)
  | [], r, _, hr => hr
  | c :: cs, r, hi, hr => by
    refine run_perm hn cs (apply_in hn hi c) ?_
    unfold applyB
    rw [hi.1]
    exact hr.times hn (ch_perm hn c)
/-- The rank of a row. -/
def lessN (x : UInt8) (t : List UInt8) : Nat := t.countP fun y => decide (y < x)
def placeF : Nat → List UInt8 → Nat
  | k, [] => k
  | k, x :: t => placeF (k * (t.length + 1) + lessN x t) t
def factB : Nat → Nat
  | 0 => 1
  | n + 1 => (n + 1) * factB n
def placeB (s : ByteArray) : Nat := placeF 0 s.data.toList
theorem lessN_le (x : UInt8) (t : List UInt8) : lessN x t ≤ t.length := List.countP_le_length
theorem placeF_add : ∀ (l : List UInt8) (k : Nat), placeF k l = k * factB l.length + placeF 0 l
  | [], k => by simp [placeF, factB]
  | x :: t, k => by
    rw [placeF, placeF, placeF_add t (k * (t.length + 1) + lessN x t), placeF_add t (0 * (t.length + 1) + lessN x t), List.length_cons, factB]
    rw [Nat.zero_mul, Nat.zero_add, Nat.add_mul, Nat.mul_assoc]
    omega
theorem fact_pos : ∀ n, 1 ≤ factB n
  | 0 => Nat.le_refl _
  | n + 1 => by rw [factB]; exact Nat.mul_pos (by omega) (fact_pos n)
theorem placeF_lt : ∀ (l : List UInt8), placeF 0 l < factB l.length
  | [] => by simp [placeF, factB]
  | x :: t => by
    rw [placeF, placeF_add, Nat.zero_mul, Nat.zero_add, List.length_cons, factB]
    have h1 := placeF_lt t
    have h2 : lessN x t * factB t.length ≤ t.length * factB t.length := Nat.mul_le_mul_right _ (lessN_le x t)
    have h3 : (t.length + 1) * factB t.length = t.length * factB t.length + factB t.length := Nat.succ_mul _ _
    omega
theorem u8_irr (x : UInt8) : ¬ x < x := by rw [UInt8.lt_iff_toNat_lt]; omega
theorem count_lt {x y : UInt8} (h : x < y) {s t : List UInt8} (hp : (x :: s).Perm (y :: t)) : lessN x s < lessN y t := by
  have h1 : lessN x s = (x :: s).countP fun z => decide (z < x) := by rw [List.countP_cons]; simp [lessN, u8_irr]
  have h2 : lessN y t = (x :: s).countP fun z => decide (z < y) := by rw [hp.countP_eq, List.countP_cons]; simp [lessN, u8_irr]
  rw [h1, h2, List.countP_cons, List.countP_cons]
  have h3 : s.countP (fun z => decide (z < x)) ≤ s.countP (fun z => decide (z < y)) := by
    apply List.countP_mono_left
    intro z _ hz
    simp only [decide_eq_true_eq] at hz ⊢
    rw [UInt8.lt_iff_toNat_lt] at *
    omega
  simp only [decide_eq_true_eq]
  rw [if_neg (u8_irr x), if_pos h]
  omega
theorem placeF_inj : ∀ (a b : List UInt8), a.Perm b → placeF 0 a = placeF 0 b → a = b
  | [], b, h, _ => (List.nil_perm.1 h).symm ▸ rfl
  | x :: s, [], h, _ => by have := h.length_eq; simp at this
  | x :: s, y :: t, h, e => by
    have hl : s.length = t.length := by have := h.length_eq; simpa using this
    rw [placeF, placeF, placeF_add s, placeF_add t, Nat.zero_mul, Nat.zero_add, Nat.zero_mul, Nat.zero_add, hl] at e
    have h1 := placeF_lt s
    have h2 := placeF_lt t
    rw [hl] at h1
    have hdiv : lessN x s = lessN y t := by
      rcases Nat.lt_trichotomy (lessN x s) (lessN y t) with hlt | heq | hlt
      · exfalso
        have : (lessN x s + 1) * factB t.length ≤ lessN y t * factB t.length := Nat.mul_le_mul_right _ hlt
        rw [Nat.succ_mul] at this; omega
      · exact heq
      · exfalso
        have : (lessN y t + 1) * factB t.length ≤ lessN x s * factB t.length := Nat.mul_le_mul_right _ hlt
        rw [Nat.succ_mul] at this; omega
    have hxy : x = y := by
      rcases Nat.lt_trichotomy x.toNat y.toNat with hlt | heq | hlt
      · have := count_lt (UInt8.lt_iff_toNat_lt.2 hlt) h; omega
      · exact UInt8.toNat_inj.1 heq
      · have := count_lt (UInt8.lt_iff_toNat_lt.2 hlt) h.symm; omega
    subst hxy
    rw [placeF_inj s t (List.perm_cons x |>.1 h) (by rw [hdiv] at e; omega)]
theorem place_inj {n : Nat} {a b : ByteArray} (ha : PermR n a) (hb : PermR n b) (h : placeB a = placeB b) : a = b := bytes_ext (placeF_inj _ _ (ha.trans hb.symm) h)
theorem place_lt {n : Nat} {a : ByteArray} (ha : PermR n a) : placeB a < factB n := by
  have := placeF_lt a.data.toList
  rw [ha.length_eq, roundsL_len] at this
  exact this
end Go.Proofs.YtofpjbdelmmclaaGreatDoor
