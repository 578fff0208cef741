/- Lists of changes in order: a plain account of the least one. -/
import Derived.Test.YtheppimoncokcaaGreatPk8
import Derived.Test.YtheppimoncokcaaGreatPk6
namespace Go.Proofs.YtheppimoncokcaaGreat
open Go Go.RowKit
set_option linter.unusedVariables false
set_option linter.unusedSimpArgs false

theorem bl_trans : ∀ {x y z : List UInt8}, Op.bytesLess x y = true → Op.bytesLess y z = true → Op.bytesLess x z = true
  | _, [], _, h, _ => by cases ‹List UInt8› <;> simp [Op.bytesLess] at h
  | _, _ :: _, [], _, h => by simp [Op.bytesLess] at h
  | [], _ :: _, _ :: _, _, _ => rfl
  | a :: x, b :: y, c :: z, h1, h2 => by
    rw [Op.bytesLess, Bool.or_eq_true, Bool.and_eq_true, decide_eq_true_eq] at h1 h2
    rw [Op.bytesLess, Bool.or_eq_true, Bool.and_eq_true, decide_eq_true_eq]
    rcases h1 with h1 | ⟨e1, h1⟩
    · rcases h2 with h2 | ⟨e2, h2⟩
      · left; simp only [UInt8.lt_iff_toNat_lt] at *; omega
      · left; rw [← eq_of_beq e2]; exact h1
    · rw [eq_of_beq e1]
      rcases h2 with h2 | ⟨e2, h2⟩
      · left; exact h2
      · right; exact ⟨e2, bl_trans h1 h2⟩
theorem lessS_irr : ∀ x : List ByteArray, lessS x x = false
  | [] => rfl
  | a :: r => by rw [lessS, if_pos (beq_self_eq_true _)]; exact lessS_irr r
theorem lessS_trans : ∀ {x y z : List ByteArray}, lessS x y = true → lessS y z = true → lessS x z = true
  | [], _, _, h, _ => by simp [lessS] at h
  | _ :: _, [], _, h, _ => by simp [lessS] at h
  | _ :: _, _ :: _, [], _, h => by simp [lessS] at h
  | a :: x, b :: y, c :: z, h1, h2 => by
    rw [lessS] at h1 h2 ⊢
    by_cases e1 : (a.toList == b.toList) = true
    · rw [if_pos e1] at h1
      have e := eq_of_beq e1
      rw [e]
      by_cases e2 : (b.toList == c.toList) = true
      · rw [if_pos e2] at h2 ⊢
        exact lessS_trans h1 h2
      · rw [if_neg e2] at h2 ⊢
        unfold nmLt at h2 ⊢
        rw [e]; exact h2
    · rw [if_neg e1] at h1
      by_cases e2 : (b.toList == c.toList) = true
      · have e := eq_of_beq e2
        rw [← e, if_neg e1]
        unfold nmLt at h1 ⊢
        rw [← e]; exact h1
      · rw [if_neg e2] at h2
        unfold nmLt at h1 h2
        have h3 := bl_trans h1 h2
        have e3 : ¬ (a.toList == c.toList) = true := by
          intro e
          rw [eq_of_beq e, less_irr] at h3
          cases h3
        rw [if_neg e3]; exact h3
theorem lessS_tot : ∀ {x y : List ByteArray}, x.length = y.length → lessS x y = false → lessS y x = false → x = y
  | [], [], _, _, _ => rfl
  | [], _ :: _, h, _, _ => by simp at h
  | _ :: _, [], h, _, _ => by simp at h
  | a :: x, b :: y, hl, h1, h2 => by
    rw [lessS] at h1 h2
    cases e : (a.toList == b.toList)
    · have e' : (b.toList == a.toList) = false := by rw [beq_eq_false_iff_ne] at e ⊢; exact fun h => e h.symm
      rw [e, if_neg (by simp)] at h1
      rw [e', if_neg (by simp)] at h2
      have ht := less_tot a.toList b.toList
      unfold nmLt at h1 h2
      rw [h1, h2, e] at ht
      cases ht
    · have e' : (b.toList == a.toList) = true := by rw [eq_of_beq e]; exact beq_self_eq_true _
      rw [e, if_pos rfl] at h1
      rw [e', if_pos rfl] at h2
      have hab : a = b := by
        have h := eq_of_beq e
        rw [bytes_toList, bytes_toList] at h
        cases a; cases b; simp only [ByteArray.mk.injEq]; exact Array.toList_inj.1 h
      rw [hab, lessS_tot (by simpa using hl) h1 h2]
def minS (b c : List ByteArray) : List ByteArray := if lessS c b then c else b
theorem min_len {b d : List ByteArray} (h : d.length = b.length) : (minS b d).length = b.length := by unfold minS; split <;> omega
theorem min_least : ∀ (cs : List (List ByteArray)) (b : List ByteArray), (∀ c ∈ cs, c.length = b.length) → cs.foldl minS b ∈ b :: cs ∧ ∀ c ∈ b :: cs, lessS c (cs.foldl minS b) = false
  | [], b, _ => ⟨by simp, fun c hc => by rw [List.mem_singleton.1 hc]; exact lessS_irr b⟩
  | d :: cs, b, hl => by
    have hd := hl d (List.mem_cons_self ..)
    obtain ⟨h1, h2⟩ := min_least cs (minS b d) (fun c hc => by rw [min_len hd]; exact hl c (List.mem_cons_of_mem _ hc))
    rw [List.foldl_cons]
    constructor
    · rcases List.mem_cons.1 h1 with h | h
      · rw [h]; unfold minS; split <;> simp
      · exact List.mem_cons_of_mem _ (List.mem_cons_of_mem _ h)
    · have hm := h2 (minS b d) (List.mem_cons_self ..)
      have h3 : ∀ c ∈ cs, lessS c (cs.foldl minS (minS b d)) = false := fun c hc => h2 c (List.mem_cons_of_mem _ hc)
      generalize cs.foldl minS (minS b d) = R at hm h3
      have hb : lessS b R = false ∧ lessS d R = false := by
        unfold minS at hm
        cases hdb : lessS d b
        · rw [hdb, if_neg (by simp)] at hm
          refine ⟨hm, ?_⟩
          cases hx : lessS d R
          · rfl
          · cases hbd : lessS b d
            · rw [lessS_tot hd hdb hbd] at hx; rw [hx] at hm; exact hm
            · rw [lessS_trans hbd hx] at hm; exact hm
        · rw [hdb, if_pos rfl] at hm
          refine ⟨?_, hm⟩
          cases hx : lessS b R
          · rfl
          · rw [lessS_trans hdb hx] at hm; exact hm
      intro c hc
      rcases List.mem_cons.1 hc with rfl | hc
      · exact hb.1
      · rcases List.mem_cons.1 hc with rfl | hc
        · exact hb.2
        · exact h3 c hc
/-- Two folds over the same lists, in whatever order, give the same least one. -/
theorem min_same {cs ds : List (List ByteArray)} {b d : List ByteArray} (hc : ∀ c ∈ cs, c.length = b.length) (hd : ∀ c ∈ ds, c.length = d.length) (hbd : b.length = d.length) (h : ∀ x, x ∈ b :: cs ↔ x ∈ d :: ds) : cs.foldl minS b = ds.foldl minS d := by
  obtain ⟨m1, l1⟩ := min_least cs b hc
  obtain ⟨m2, l2⟩ := min_least ds d hd
  have e1 : (cs.foldl minS b).length = b.length := by
    rcases List.mem_cons.1 m1 with h | h
    · rw [h]
    · exact hc _ h
  have e2 : (ds.foldl minS d).length = d.length := by
    rcases List.mem_cons.1 m2 with h | h
    · rw [h]
    · exact hd _ h
  exact lessS_tot (by omega) (l2 _ ((h _).1 m1)) (l1 _ ((h _).2 m2))
end Go.Proofs.YtheppimoncokcaaGreat

/- Texts in order: a sorted row is known by what it holds; doubles lie side by side. -/
namespace Go.Proofs.YtheppimoncokcaaGreat
open Go Go.RowKit
set_option linter.unusedVariables false
set_option linter.unusedSimpArgs false

theorem sl_trans {x y z : ByteArray} (h : nmLt x y = true) (h' : nmLt y z = true) : nmLt x z = true := bl_trans h h'
theorem sl_irr (x : ByteArray) : nmLt x x = false := less_irr x.toList
theorem bl_list {x y : ByteArray} (h : (x.toList == y.toList) = true) : x = y := by
  have h := eq_of_beq h
  rw [bytes_toList, bytes_toList] at h
  cases x; cases y; simp only [ByteArray.mk.injEq]; exact Array.toList_inj.1 h
theorem sl_tot {x y : ByteArray} (h1 : nmLt x y = false) (h2 : nmLt y x = false) : x = y := by
  have h := less_tot x.toList y.toList
  unfold nmLt at h1 h2
  rw [h1, h2] at h
  exact bl_list (by simpa using h)
theorem sl_asym {x y : ByteArray} (h : nmLt x y = true) : nmLt y x = false := by
  cases hb : nmLt y x
  · rfl
  · have := sl_trans h hb; rw [sl_irr] at this; cases this
theorem sl_beq (x y : ByteArray) : (x.toList == y.toList) = decide (x = y) := by
  by_cases h : x = y
  · rw [decide_eq_true h, h]; exact beq_self_eq_true _
  · rw [decide_eq_false h, beq_eq_false_iff_ne]
    intro e
    exact h (bl_list (by rw [e]; exact beq_self_eq_true _))
/-- x is not behind y. -/
theorem le_trans' {x y z : ByteArray} (h : nmLt y x = false) (h' : nmLt z y = false) : nmLt z x = false := by
  cases hb : nmLt z x
  · rfl
  · cases hc : nmLt x y
    · have := sl_tot hc h; subst this; rw [hb] at h'; cases h'
    · have := sl_trans hb hc; rw [h'] at this; cases this
abbrev SortedS (l : List ByteArray) : Prop := l.Pairwise fun a b => nmLt b a = false
theorem perm_sorted : ∀ {l m : List ByteArray}, l.Perm m → SortedS l → SortedS m → l = m
  | [], m, h, _, _ => by rw [List.nil_perm.1 h]
  | a :: l, [], h, _, _ => by have := h.length_eq; simp at this
  | a :: l, b :: m, h, h1, h2 => by
    rw [SortedS, List.pairwise_cons] at h1 h2
    have e : a = b := by
      have ha : a ∈ b :: m := h.mem_iff.1 (List.mem_cons_self ..)
      have hb : b ∈ a :: l := h.mem_iff.2 (List.mem_cons_self ..)
      rcases List.mem_cons.1 ha with e | ha
      · exact e
      · rcases List.mem_cons.1 hb with e | hb
        · exact e.symm
        · exact sl_tot (h2.1 a ha) (h1.1 b hb)
    subst e
    rw [perm_sorted (List.perm_cons a |>.1 h) h1.2 h2.2]
theorem nodup_sorted : ∀ {l : List ByteArray}, SortedS l → (∀ k (h : k + 1 < l.length), l[k + 1] ≠ l[k]) → l.Nodup
  | [], _, _ => List.nodup_nil
  | [a], _, _ => by simp
  | a :: b :: l, h, hk => by
    have h0 := h
    rw [SortedS, List.pairwise_cons] at h
    have ih := nodup_sorted h.2 (fun k hk' => hk (k + 1) (by simpa using hk'))
    rw [List.nodup_cons]
    refine ⟨fun hm => ?_, ih⟩
    rcases List.mem_cons.1 hm with e | hm
    · exact hk 0 (by simp) e.symm
    · have h1 := (List.pairwise_cons.1 h.2).1 a hm
      have h2 := h.1 b (List.mem_cons_self ..)
      have e : b = a := (sl_tot h1 h2).symm
      exact hk 0 (by simp) e
theorem nodup_adj {l : List ByteArray} (h : l.Nodup) {k : Nat} (hk : k + 1 < l.length) : l[k + 1] ≠ l[k] := by
  intro e
  have := (List.pairwise_iff_getElem.1 h) k (k + 1) (by omega) hk (by omega)
  exact this e.symm
/-- Merging. -/
def mergeW : List ByteArray → List ByteArray → List ByteArray
  | [], b => b
  | a, [] => a
  | x :: a, y :: b => if nmLt y x then y :: mergeW (x :: a) b else x :: mergeW a (y :: b)
termination_by a b => a.length + b.length
theorem merge_nil (a : List ByteArray) : mergeW a [] = a := by cases a <;> simp [mergeW]
theorem merge_l {x y : ByteArray} {a b : List ByteArray} (h : nmLt y x = true) : mergeW (x :: a) (y :: b) = y :: mergeW (x :: a) b := by rw [mergeW, if_pos h]
theorem merge_r {x y : ByteArray} {a b : List ByteArray} (h : nmLt y x = false) : mergeW (x :: a) (y :: b) = x :: mergeW a (y :: b) := by rw [mergeW, if_neg (by rw [h]; decide)]
theorem merge_perm : ∀ (n : Nat) (a b : List ByteArray), a.length + b.length ≤ n → (mergeW a b).Perm (a ++ b) := by
  intro n
  induction n with
  | zero =>
    intro a b h
    obtain rfl : a = [] := List.eq_nil_of_length_eq_zero (by omega)
    simp [mergeW]
  | succ n ih =>
    intro a b h
    match a, b with
    | [], b => simp [mergeW]
    | x :: a, [] => rw [merge_nil, List.append_nil]
    | x :: a, y :: b =>
      cases hb : nmLt y x
      · rw [merge_r hb, List.cons_append]
        exact (ih a (y :: b) (by simp only [List.length_cons] at h ⊢; omega)).cons x
      · rw [merge_l hb]
        exact ((ih (x :: a) b (by simp only [List.length_cons] at h ⊢; omega)).cons y).trans List.perm_middle.symm
theorem merge_sorted : ∀ (n : Nat) (a b : List ByteArray), a.length + b.length ≤ n → SortedS a → SortedS b → SortedS (mergeW a b) := by
  intro n
  induction n with
  | zero =>
    intro a b h h1 h2
    obtain rfl : a = [] := List.eq_nil_of_length_eq_zero (by omega)
    simpa [mergeW] using h2
  | succ n ih =>
    intro a b h h1 h2
    match a, b with
    | [], b => simpa [mergeW] using h2
    | x :: a, [] => rw [merge_nil]; exact h1
    | x :: a, y :: b =>
      have p1 := List.pairwise_cons.1 h1
      have p2 := List.pairwise_cons.1 h2
      cases hb : nmLt y x
      · rw [merge_r hb, SortedS, List.pairwise_cons]
        refine ⟨fun z hz => ?_, ih a (y :: b) (by simp only [List.length_cons] at h ⊢; omega) p1.2 h2⟩
        have hz := (merge_perm _ a (y :: b) (Nat.le_refl _)).mem_iff.1 hz
        rcases List.mem_append.1 hz with hz | hz
        · exact p1.1 z hz
        · rcases List.mem_cons.1 hz with e | hz
          · rw [e]; exact hb
          · exact le_trans' hb (p2.1 z hz)
      · rw [merge_l hb, SortedS, List.pairwise_cons]
        refine ⟨fun z hz => ?_, ih (x :: a) b (by simp only [List.length_cons] at h ⊢; omega) h1 p2.2⟩
        have hz := (merge_perm _ (x :: a) b (Nat.le_refl _)).mem_iff.1 hz
        rcases List.mem_append.1 hz with hz | hz
        · rcases List.mem_cons.1 hz with e | hz
          · rw [e]; exact sl_asym hb
          · exact le_trans' (sl_asym hb) (p1.1 z hz)
        · exact p2.1 z hz
def sortB (l : List ByteArray) : List ByteArray := if h : l.length < 2 then l else mergeW (sortB (l.take (l.length / 2))) (sortB (l.drop (l.length / 2)))
termination_by l.length
decreasing_by
  · rw [List.length_take]; omega
  · rw [List.length_drop]; omega
theorem sortB_short {l : List ByteArray} (h : l.length < 2) : sortB l = l := by rw [sortB, dif_pos h]
theorem sortB_long {l : List ByteArray} (h : ¬ l.length < 2) : sortB l = mergeW (sortB (l.take (l.length / 2))) (sortB (l.drop (l.length / 2))) := by rw [sortB, dif_neg h]
theorem sortB_ok : ∀ (n : Nat) (l : List ByteArray), l.length ≤ n → (sortB l).Perm l ∧ SortedS (sortB l) := by
  intro n
  induction n with
  | zero =>
    intro l h
    obtain rfl : l = [] := List.eq_nil_of_length_eq_zero (by omega)
    rw [sortB_short (by simp)]
    exact ⟨List.Perm.refl _, List.Pairwise.nil⟩
  | succ n ih =>
    intro l h
    by_cases hs : l.length < 2
    · rw [sortB_short hs]
      refine ⟨List.Perm.refl _, ?_⟩
      match l, hs with
      | [], _ => exact List.Pairwise.nil
      | [a], _ => simp
    · rw [sortB_long hs]
      obtain ⟨p1, s1⟩ := ih (l.take (l.length / 2)) (by rw [List.length_take]; omega)
      obtain ⟨p2, s2⟩ := ih (l.drop (l.length / 2)) (by rw [List.length_drop]; omega)
      refine ⟨?_, merge_sorted _ _ _ (Nat.le_refl _) s1 s2⟩
      exact ((merge_perm _ _ _ (Nat.le_refl _)).trans (p1.append p2)).trans (by rw [List.take_append_drop])
theorem sortB_perm (l : List ByteArray) : (sortB l).Perm l := (sortB_ok _ l (Nat.le_refl _)).1
theorem sortB_sorted (l : List ByteArray) : SortedS (sortB l) := (sortB_ok _ l (Nat.le_refl _)).2
theorem sortB_len (l : List ByteArray) : (sortB l).length = l.length := (sortB_perm l).length_eq
theorem sorted_uniq {l m : List ByteArray} (h : l.Perm m) (hs : SortedS l) : l = sortB m := perm_sorted (h.trans (sortB_perm m).symm) hs (sortB_sorted m)
theorem nodup_perm {l m : List ByteArray} (h : l.Perm m) : l.Nodup ↔ m.Nodup := h.nodup_iff
end Go.Proofs.YtheppimoncokcaaGreat

/- The group that some rows generate, the rank of a row: a plain account. -/
namespace Go.Proofs.YtheppimoncokcaaGreat
open Go Go.RowKit
set_option linter.unusedVariables false
set_option linter.unusedSimpArgs false

instance decMemB (x : ByteArray) (L : List ByteArray) : Decidable (x ∈ L) := decidable_of_iff (L.any (fun y => decide (y = x)) = true) (by simp)
def visitB (L : List ByteArray) (x : ByteArray) : List ByteArray := if x ∈ L then L else L ++ [x]
def visitG (y : ByteArray) (L : List ByteArray) (g : ByteArray) : List ByteArray := visitB L (timesB y g)
def expB (gens L : List ByteArray) (y : ByteArray) : List ByteArray := gens.foldl (visitG y) L
theorem visit_pre (L : List ByteArray) (x : ByteArray) : L <+: visitB L x := by
  unfold visitB; split
  · exact List.prefix_refl _
  · exact List.prefix_append _ _
theorem visit_mem (L : List ByteArray) (x : ByteArray) : x ∈ visitB L x := by
  unfold visitB; split
  · assumption
  · simp
theorem visit_nodup {L : List ByteArray} (h : L.Nodup) (x : ByteArray) : (visitB L x).Nodup := by
  unfold visitB; split
  · exact h
  · rw [List.nodup_append]
    refine ⟨h, by simp, fun a ha b hb e => ?_⟩
    rw [List.mem_singleton] at hb
    subst hb; subst e
    contradiction
theorem visit_all {P : ByteArray → Prop} {L : List ByteArray} (h : ∀ x ∈ L, P x) {x : ByteArray} (hx : P x) : ∀ z ∈ visitB L x, P z := by
  unfold visitB; split
  · exact h
  · intro z hz
    rcases List.mem_append.1 hz with hz | hz
    · exact h z hz
    · rw [List.mem_singleton.1 hz]; exact hx
theorem exp_pre (y : ByteArray) : ∀ (gens L : List ByteArray), L <+: expB gens L y
  | [], L => List.prefix_refl _
  | g :: gens, L => (visit_pre L (timesB y g)).trans (exp_pre y gens (visitG y L g))
theorem exp_mem (y : ByteArray) : ∀ (gens L : List ByteArray) (g : ByteArray), g ∈ gens → timesB y g ∈ expB gens L y
  | h :: gens, L, g, hg => by
    rcases List.mem_cons.1 hg with rfl | hg
    · exact (exp_pre y gens (visitG y L g)).subset (visit_mem L (timesB y g))
    · exact exp_mem y gens (visitG y L h) g hg
theorem exp_nodup (y : ByteArray) : ∀ (gens L : List ByteArray), L.Nodup → (expB gens L y).Nodup
  | [], L, h => h
  | g :: gens, L, h => exp_nodup y gens (visitG y L g) (visit_nodup h _)
theorem exp_all {P : ByteArray → Prop} (y : ByteArray) : ∀ (gens L : List ByteArray), (∀ x ∈ L, P x) → (∀ g ∈ gens, P (timesB y g)) → ∀ z ∈ expB gens L y, P z
  | [], L, h, _ => h
  | g :: gens, L, h, hg => exp_all y gens (visitG y L g) (visit_all h (hg g (List.mem_cons_self ..))) (fun g' h' => hg g' (List.mem_cons_of_mem _ h'))
/-- The list behind t rounds. -/
def cloB (n : Nat) (gens : List ByteArray) : Nat → List ByteArray
  | 0 => [roundsB n]
  | t + 1 => match (cloB n gens t)[t]? with
    | some y => expB gens (cloB n gens t) y
    | none => cloB n gens t
theorem clo_step {n : Nat} {gens : List ByteArray} {t : Nat} (h : t < (cloB n gens t).length) : cloB n gens (t + 1) = expB gens (cloB n gens t) ((cloB n gens t)[t]) := by
  rw [cloB, List.getElem?_eq_getElem h]
theorem clo_pre1 (n : Nat) (gens : List ByteArray) (t : Nat) : cloB n gens t <+: cloB n gens (t + 1) := by
  rw [cloB]
  split
  · exact exp_pre _ _ _
  · exact List.prefix_refl _
theorem clo_pre (n : Nat) (gens : List ByteArray) (t : Nat) : ∀ d, cloB n gens t <+: cloB n gens (t + d)
  | 0 => List.prefix_refl _
  | d + 1 => (clo_pre n gens t d).trans (clo_pre1 n gens (t + d))
theorem clo_all {P : ByteArray → Prop} {n : Nat} {gens : List ByteArray} (h0 : P (roundsB n)) (hs : ∀ x g, P x → g ∈ gens → P (timesB x g)) : ∀ t, ∀ x ∈ cloB n gens t, P x
  | 0 => by intro x hx; rw [List.mem_singleton.1 hx]; exact h0
  | t + 1 => by
    have ih := clo_all (P := P) h0 hs t
    rw [cloB]
    split
    · rename_i y hy
      have hy := List.mem_of_getElem? hy
      exact exp_all y gens _ ih (fun g hg => hs y g (ih y hy) hg)
    · exact ih
theorem clo_nodup (n : Nat) (gens : List ByteArray) : ∀ t, (cloB n gens t).Nodup
  | 0 => by simp [cloB]
  | t + 1 => by
    rw [cloB]
    split
    · exact exp_nodup _ _ _ (clo_nodup n gens t)
    · exact clo_nodup n gens t
theorem rows_few {n : Nat} (hn : n ≤ 8) {l : List ByteArray} (hd : l.Nodup) (hr : ∀ x ∈ l, RowIn n x) : l.length ≤ 16777216 := by
  have h8 : 8 ^ n ≤ 16777216 := Nat.le_trans (Nat.pow_le_pow_right (by omega) hn) (by decide)
  rcases Nat.lt_or_ge 16777216 l.length with hl | hl
  · exfalso
    obtain ⟨i, j, hij, hj, e⟩ := pigeon (8 ^ n) (fun k => if h : k < l.length then codeL l[k].data.toList else 0) (fun k hk => by
      have hkl : k < l.length := by omega
      have hk' := hr _ (List.getElem_mem hkl)
      have h := codeL_lt _ (hk'.eight hn)
      rw [hk'.len] at h
      simp only [hkl, dif_pos]
      exact h)
    have hil : i < l.length := by omega
    have hjl : j < l.length := by omega
    simp only [hil, hjl, dif_pos] at e
    have hi' := hr _ (List.getElem_mem hil)
    have hj' := hr _ (List.getElem_mem hjl)
    have e2 := bytes_ext (codeL_inj _ _ (by rw [hi'.len, hj'.len]) (hi'.eight hn) (hj'.eight hn) e)
    exact (List.pairwise_iff_getElem.1 hd) i j hil hjl hij e2
  · exact hl
/-- The group is whole behind T rounds. -/
def IsClo (n : Nat) (gens : List ByteArray) (T : Nat) : Prop := (cloB n gens T).length ≤ T ∧ ∀ t, t < T → t < (cloB n gens t).length
theorem clo_ex {n : Nat} (hn : n ≤ 8) {gens : List ByteArray} (hg : ∀ g ∈ gens, RowIn n g) : ∃ T, T ≤ 16777216 ∧ IsClo n gens T := by
  have hall := clo_all (P := RowIn n) (n := n) (gens := gens) (rounds_in hn) (fun x g hx hg' => times_in hx (hg g hg'))
  obtain ⟨T, h1, h2, h3⟩ := least_of (P := fun t => (cloB n gens t).length ≤ t) 16777216 (rows_few hn (clo_nodup n gens _) (hall _))
  exact ⟨T, h1, h2, fun t ht => Nat.lt_of_not_le (h3 t ht)⟩
theorem clo_len_mono {n : Nat} {gens : List ByteArray} {s t : Nat} (h : s ≤ t) : (cloB n gens s).length ≤ (cloB n gens t).length := by
  obtain ⟨d, rfl⟩ : ∃ d, t = s + d := ⟨t - s, by omega⟩
  exact (clo_pre n gens s d).length_le
theorem clo_get {n : Nat} {gens : List ByteArray} {s t i : Nat} (h : s ≤ t) (hi : i < (cloB n gens s).length) : (cloB n gens t)[i]? = some (cloB n gens s)[i] := by
  obtain ⟨d, rfl⟩ : ∃ d, t = s + d := ⟨t - s, by omega⟩
  obtain ⟨r, hr⟩ := clo_pre n gens s d
  rw [← hr, List.getElem?_append_left hi, List.getElem?_eq_getElem hi]
/-- The group is closed. -/
theorem clo_closed {n T : Nat} {gens : List ByteArray} (h : IsClo n gens T) {x g : ByteArray} (hx : x ∈ cloB n gens T) (hg : g ∈ gens) : timesB x g ∈ cloB n gens T := by
  obtain ⟨i, hi, e⟩ := List.getElem_of_mem hx
  have hiT : i < T := by have := h.1; omega
  have hi2 := h.2 i hiT
  have h1 := clo_get (t := T) (by omega : i ≤ T) hi2
  rw [List.getElem?_eq_getElem hi] at h1
  have h2 := Option.some.inj h1
  have h3 := exp_mem ((cloB n gens i)[i]) gens (cloB n gens i) g hg
  rw [← clo_step hi2, ← h2, e] at h3
  obtain ⟨d, hd⟩ : ∃ d, T = (i + 1) + d := ⟨T - (i + 1), by omega⟩
  rw [hd]
  exact (clo_pre n gens (i + 1) d).subset h3
theorem clo_rounds (n : Nat) (gens : List ByteArray) (T : Nat) : roundsB n ∈ cloB n gens T := by
  have := clo_pre n gens 0 T
  rw [Nat.zero_add] at this
  exact this.subset (by simp [cloB])
/-- Part of a round. -/
def partB (n : Nat) (gens : List ByteArray) (t j : Nat) (y : ByteArray) : List ByteArray := expB (gens.take j) (cloB n gens t) y
theorem part_zero (n : Nat) (gens : List ByteArray) (t : Nat) (y : ByteArray) : partB n gens t 0 y = cloB n gens t := rfl
theorem part_succ {n : Nat} {gens : List ByteArray} {t j : Nat} {y : ByteArray} (h : j < gens.length) : partB n gens t (j + 1) y = visitB (partB n gens t j y) (timesB y gens[j]) := by
  unfold partB expB
  rw [List.take_succ_eq_append_getElem h, List.foldl_append]; rfl
theorem part_all {n : Nat} {gens : List ByteArray} {t : Nat} (h : t < (cloB n gens t).length) : partB n gens t gens.length (cloB n gens t)[t] = cloB n gens (t + 1) := by
  rw [clo_step h]; unfold partB; rw [List.take_length]
theorem part_len {n T : Nat} {gens : List ByteArray} (hT : IsClo n gens T) {t j : Nat} (ht : t < T) : (partB n gens t j ((cloB n gens t)[t]'(hT.2 t ht))).length ≤ (cloB n gens T).length := by
  have h1 : partB n gens t j ((cloB n gens t)[t]'(hT.2 t ht)) <+: cloB n gens (t + 1) := by
    rw [clo_step (hT.2 t ht)]
    generalize (cloB n gens t)[t]'(hT.2 t ht) = y
    have e : expB gens (cloB n gens t) y = expB (gens.drop j) (partB n gens t j y) y := by
      unfold partB expB
      rw [← List.foldl_append, List.take_append_drop]
    rw [e]
    exact exp_pre _ (gens.drop j) _
  exact Nat.le_trans h1.length_le (clo_len_mono (by omega))
/-- A row that holds each bell once. -/
def PermR (n : Nat) (a : ByteArray) : Prop := a.data.toList.Perm (roundsL n)
theorem PermR.rounds {n : Nat} (hn : n ≤ 8) : PermR n (roundsB n) := by unfold PermR; rw [rounds_list hn]
theorem PermR.times {n : Nat} (hn : n ≤ 8) {a b : ByteArray} (ha : PermR n a) (hb : PermR n b) : PermR n (timesB a b) := by
  unfold PermR timesB
  rw [ofL_list]
  have hl : a.data.toList.length = n := by rw [ha.length_eq, roundsL_len]
  have h1 : (timesL a.data.toList b.data.toList).Perm (timesL a.data.toList (roundsL n)) := by unfold timesL; exact hb.map _
  rw [timesL_rounds hn hl] at h1
  exact h1.trans ha
theorem fold_perm : ∀ (ps : List Nat) (l : List UInt8), (∀ p ∈ ps, 1 ≤ p ∧ p < l.length) → (ps.foldl swapAt l).Perm l
  | [], l, _ => List.Perm.refl _
  | p :: ps, l, h => by
    have h0 := h p (List.mem_cons_self ..)
    exact (fold_perm ps (swapAt l p) (fun q hq => by rw [swapAt_len]; exact h q (List.mem_cons_of_mem _ hq))).trans (swapAt_perm h0.1 h0.2)
theorem ch_perm {n : Nat} (hn : n ≤ 8) (c : ByteArray) : PermR n (chB n c) := by
  have hm := fun p hp => swapsW_mem (c := c.data.toList) (n := n) (n - 1) 1 (by omega) p hp
  unfold PermR chB chL
  rw [ofL_list]
  exact fold_perm _ _ (fun p hp => by rw [roundsL_len]; exact hm p hp)
theorem run_perm {n : Nat} (hn : n ≤ 8) : ∀ (cs : List ByteArray) {r : ByteArray}, RowIn n r → PermR n r → PermR n (runB r cs)
  | [], r, _, hr => hr
  | c :: cs, r, hi, hr => by
    refine run_perm hn cs (apply_in hn hi c) ?_
    unfold applyB
    rw [hi.1]
    exact hr.times hn (ch_perm hn c)
/-- The rank of a row. -/
def lessN (x : UInt8) (t : List UInt8) : Nat := t.countP fun y => decide (y < x)
def placeF : Nat → List UInt8 → Nat
  | k, [] => k
  | k, x :: t => placeF (k * (t.length + 1) + lessN x t) t
def factB : Nat → Nat
  | 0 => 1
  | n + 1 => (n + 1) * factB n
def placeB (s : ByteArray) : Nat := placeF 0 s.data.toList
theorem lessN_le (x : UInt8) (t : List UInt8) : lessN x t ≤ t.length := List.countP_le_length
theorem placeF_add : ∀ (l : List UInt8) (k : Nat), placeF k l = k * factB l.length + placeF 0 l
  | [], k => by simp [placeF, factB]
  | x :: t, k => by
    rw [placeF, placeF, placeF_add t (k * (t.length + 1) + lessN x t), placeF_add t (0 * (t.length + 1) + lessN x t), List.length_cons, factB]
    rw [Nat.zero_mul, Nat.zero_add, Nat.add_mul, Nat.mul_assoc]
    omega
theorem fact_pos : ∀ n, 1 ≤ factB n
  | 0 => Nat.le_refl _
  | n + 1 => by rw [factB]; exact Nat.mul_pos (by omega) (fact_pos n)
theorem placeF_lt : ∀ (l : List UInt8), placeF 0 l < factB l.length
  | [] => by simp [placeF, factB]
  | x :: t => by
    rw [placeF, placeF_add, Nat.zero_mul, Nat.zero_add, List.length_cons, factB]
    have h1 := placeF_lt t
    have h2 : lessN x t * factB t.length ≤ t.length * factB t.length := Nat.mul_le_mul_right _ (lessN_le x t)
    have h3 : (t.length + 1) * factB t.length = t.length * factB t.length + factB t.length := Nat.succ_mul _ _
    omega
theorem u8_irr (x : UInt8) : ¬ x < x := by rw [UInt8.lt_iff_toNat_lt]; omega
theorem count_lt {x y : UInt8} (h : x < y) {s t : List UInt8} (hp : (x :: s).Perm (y :: t)) : lessN x s < lessN y t := by
  have h1 : lessN x s = (x :: s).countP fun z => decide (z < x) := by rw [List.countP_cons]; simp [lessN, u8_irr]
  have h2 : lessN y t = (x :: s).countP fun z => decide (z < y) := by rw [hp.countP_eq, List.countP_cons]; simp [lessN, u8_irr]
  rw [h1, h2, List.countP_cons, List.countP_cons]
  have h3 : s.countP (fun z => decide (z < x)) ≤ s.countP (fun z => decide (z < y)) := by
    apply List.countP_mono_left
    intro z _ hz
    simp only [decide_eq_true_eq] at hz ⊢
    rw [UInt8.lt_iff_toNat_lt] at *
    omega
  simp only [decide_eq_true_eq]
  rw [if_neg (u8_irr x), if_pos h]
  omega
theorem placeF_inj : ∀ (a b : List UInt8), a.Perm b → placeF 0 a = placeF 0 b → a = b
  | [], b, h, _ => (List.nil_perm.1 h).symm ▸ rfl
  | x :: s, [], h, _ => by have := h.length_eq; simp at this
  | x :: s, y :: t, h, e => by
    have hl : s.length = t.length := by have := h.length_eq; simpa using this
    rw [placeF, placeF, placeF_add s, placeF_add t, Nat.zero_mul, Nat.zero_add, Nat.zero_mul, Nat.zero_add, hl] at e
    have h1 := placeF_lt s
    have h2 := placeF_lt t
    rw [hl] at h1
    have hdiv : lessN x s = lessN y t := by
      rcases Nat.lt_trichotomy (lessN x s) (lessN y t) with hlt | heq | hlt
      · exfalso
        have : (lessN x s + 1) * factB t.length ≤ lessN y t * factB t.length := Nat.mul_le_mul_right _ hlt
        rw [Nat.succ_mul] at this; omega
      · exact heq
      · exfalso
        have : (lessN y t + 1) * factB t.length ≤ lessN x s * factB t.length := Nat.mul_le_mul_right _ hlt
        rw [Nat.succ_mul] at this; omega
    have hxy : x = y := by
      rcases Nat.lt_trichotomy x.toNat y.toNat with hlt | heq | hlt
      · have := count_lt (UInt8.lt_iff_toNat_lt.2 hlt) h; omega
      · exact UInt8.toNat_inj.1 heq
      · have := count_lt (UInt8.lt_iff_toNat_lt.2 hlt) h.symm; omega
    subst hxy
    rw [placeF_inj s t (List.perm_cons x |>.1 h) (by rw [hdiv] at e; omega)]
theorem place_inj {n : Nat} {a b : ByteArray} (ha : PermR n a) (hb : PermR n b) (h : placeB a = placeB b) : a = b := bytes_ext (placeF_inj _ _ (ha.trans hb.symm) h)
theorem place_lt {n : Nat} {a : ByteArray} (ha : PermR n a) : placeB a < factB n := by
  have := placeF_lt a.data.toList
  rw [ha.length_eq, roundsL_len] at this
  exact this
end Go.Proofs.YtheppimoncokcaaGreat
