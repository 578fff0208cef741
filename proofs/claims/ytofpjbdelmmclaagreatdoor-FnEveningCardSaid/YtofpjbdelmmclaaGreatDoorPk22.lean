/- The sign of a row: a plain account. -/
import Derived.Test.YtofpjbdelmmclaaGreatDoorPk21
import Derived.Test.YtofpjbdelmmclaaGreatDoorPk18
namespace Go.Proofs.YtofpjbdelmmclaaGreatDoor
open Go Go.RowKit
set_option linter.unusedVariables false
set_option linter.unusedSimpArgs false

/-- What the inner loop makes of a sign. -/
def inE (x : UInt8) : List UInt8 → Bool → Bool
  | [], b => b
  | y :: t, b => inE x t (if x < y then !b else b)
theorem inE_snoc (x : UInt8) : ∀ (l : List UInt8) (y : UInt8) (b : Bool), inE x (l ++ [y]) b = if x < y then !(inE x l b) else inE x l b
  | [], y, b => by simp [inE]
  | z :: l, y, b => by rw [List.cons_append, inE, inE_snoc x l, inE]
theorem inE_take {x : UInt8} {l : List UInt8} {k : Nat} (b : Bool) (hk : k < l.length) : inE x (l.take (k + 1)) b = if x < l[k] then !(inE x (l.take k) b) else inE x (l.take k) b := by
  rw [List.take_succ_eq_append_getElem hk, inE_snoc]
/-- The sign so far, behind some bells. -/
def evF (b : Bool) (pre : List UInt8) : List UInt8 → Bool
  | [] => b
  | x :: t => evF (inE x pre b) (pre ++ [x]) t
theorem evF_snoc : ∀ (t : List UInt8) (b : Bool) (pre : List UInt8) (x : UInt8), evF b pre (t ++ [x]) = inE x (pre ++ t) (evF b pre t)
  | [], b, pre, x => by simp [evF]
  | y :: t, b, pre, x => by rw [List.cons_append, evF, evF_snoc t, evF, List.append_assoc]; rfl
def evenB (s : ByteArray) : Bool := evF true [] s.data.toList
theorem evF_take {l : List UInt8} {k : Nat} (hk : k < l.length) : evF true [] (l.take (k + 1)) = inE l[k] (l.take k) (evF true [] (l.take k)) := by
  rw [List.take_succ_eq_append_getElem hk, evF_snoc]; rfl
theorem inE_not (x : UInt8) : ∀ (l : List UInt8) (b : Bool), inE x l (!b) = !(inE x l b)
  | [], b => rfl
  | y :: t, b => by
    rw [inE, inE]
    split
    · exact inE_not x t (!b)
    · exact inE_not x t b
theorem evF_not : ∀ (l : List UInt8) (b : Bool) (pre : List UInt8), evF (!b) pre l = !(evF b pre l)
  | [], b, pre => rfl
  | x :: t, b, pre => by rw [evF, evF, inE_not, evF_not t]
theorem inE_swap (x y z : UInt8) (b : Bool) : ∀ (p q : List UInt8), inE x (p ++ y :: z :: q) b = inE x (p ++ z :: y :: q) b := by
  intro p q
  induction p generalizing b with
  | nil =>
    simp only [List.nil_append, inE]
    split <;> split <;> rfl
  | cons w p ih => rw [List.cons_append, List.cons_append, inE, inE, ih]
theorem evF_pre : ∀ (l : List UInt8) (b : Bool) (p q : List UInt8) (y z : UInt8), evF b (p ++ y :: z :: q) l = evF b (p ++ z :: y :: q) l
  | [], b, p, q, y, z => rfl
  | x :: t, b, p, q, y, z => by
    rw [evF, evF, inE_swap, show (p ++ y :: z :: q) ++ [x] = p ++ y :: z :: (q ++ [x]) by simp, show (p ++ z :: y :: q) ++ [x] = p ++ z :: y :: (q ++ [x]) by simp, evF_pre t]
theorem inE_two {x y : UInt8} (h : x ≠ y) (pre : List UInt8) (b : Bool) : inE x (pre ++ [y]) (inE y pre b) = !(inE y (pre ++ [x]) (inE x pre b)) := by
  rw [inE_snoc, inE_snoc]
  have key : ∀ (l : List UInt8) (b : Bool), inE x l (inE y l b) = inE y l (inE x l b) := by
    have hx : ∀ (z : UInt8) (l : List UInt8) (b : Bool), inE z l b = (b == inE z l true) := by
      intro z l b
      cases b
      · have := inE_not z l true
        simp only [Bool.not_true] at this
        rw [this]; cases inE z l true <;> rfl
      · cases inE z l true <;> rfl
    intro l b
    rw [hx x l (inE y l b), hx y l b, hx y l (inE x l b), hx x l b]
    cases b <;> cases inE x l true <;> cases inE y l true <;> rfl
  rw [key]
  rcases Nat.lt_trichotomy x.toNat y.toNat with hl | hl | hl
  · have h1 : x < y := UInt8.lt_iff_toNat_lt.2 hl
    have h2 : ¬ y < x := by rw [UInt8.lt_iff_toNat_lt]; omega
    rw [if_pos h1, if_neg h2]
  · exact absurd (UInt8.toNat_inj.1 hl) h
  · have h1 : y < x := UInt8.lt_iff_toNat_lt.2 hl
    have h2 : ¬ x < y := by rw [UInt8.lt_iff_toNat_lt]; omega
    rw [if_neg h2, if_pos h1, Bool.not_not]
theorem evF_flip {x y : UInt8} (h : x ≠ y) : ∀ (p q : List UInt8) (b : Bool) (pre : List UInt8), evF b pre (p ++ x :: y :: q) = !(evF b pre (p ++ y :: x :: q))
  | [], q, b, pre => by
    simp only [List.nil_append, evF]
    rw [inE_two h.symm, evF_not, List.append_assoc, List.append_assoc]
    congr 1
    exact evF_pre q _ pre [] x y
  | z :: p, q, b, pre => by rw [List.cons_append, List.cons_append, evF, evF, evF_flip h p]
theorem swapAt_form {l : List UInt8} {p : Nat} (h1 : 1 ≤ p) (h2 : p < l.length) : l = l.take (p - 1) ++ l[p - 1] :: l[p] :: l.drop (p + 1) ∧ swapAt l p = l.take (p - 1) ++ l[p] :: l[p - 1] :: l.drop (p + 1) := by
  have e : l = l.take (p - 1) ++ l[p - 1] :: l[p] :: l.drop (p + 1) := by
    conv => lhs; rw [← List.take_append_drop (p - 1) l]
    congr 1
    rw [List.drop_eq_getElem_cons (by omega), show p - 1 + 1 = p by omega, List.drop_eq_getElem_cons h2]
  refine ⟨e, ?_⟩
  apply List.ext_getElem?
  intro i
  by_cases hi : i < l.length
  · rw [swapAt_get h1 h2 hi]
    by_cases a : i + 1 = p
    · rw [if_pos a, List.getElem?_append_right (by rw [List.length_take]; omega), show i - (l.take (p - 1)).length = 0 by rw [List.length_take]; omega, List.getElem?_eq_getElem (by omega)]
      simp only [a]; rfl
    · rw [if_neg a]
      by_cases b : i = p
      · rw [if_pos b, List.getElem?_append_right (by rw [List.length_take]; omega), show i - (l.take (p - 1)).length = 1 by rw [List.length_take]; omega, List.getElem?_eq_getElem (by omega)]
        simp only [b]; rfl
      · rw [if_neg b]
        by_cases c : i < p - 1
        · rw [List.getElem?_append_left (by rw [List.length_take]; omega), List.getElem?_take_of_lt c]
        · rw [List.getElem?_append_right (by rw [List.length_take]; omega), show i - (l.take (p - 1)).length = (i - p - 1) + 1 + 1 by rw [List.length_take]; omega, List.getElem?_cons_succ, List.getElem?_cons_succ, List.getElem?_drop]
          congr 1; omega
  · rw [List.getElem?_eq_none (by rw [swapAt_len]; omega), List.getElem?_eq_none (by simp only [List.length_append, List.length_take, List.length_cons, List.length_drop]; omega)]
theorem ev_swap {l : List UInt8} (hd : l.Nodup) {p : Nat} (h1 : 1 ≤ p) (h2 : p < l.length) : evF true [] (swapAt l p) = !(evF true [] l) := by
  obtain ⟨e1, e2⟩ := swapAt_form h1 h2
  have hne : l[p] ≠ l[p - 1] := fun e => (List.pairwise_iff_getElem.1 hd) (p - 1) p (by omega) h2 (by omega) e.symm
  rw [e2, evF_flip hne, ← e1]
theorem swapAt_perm {l : List UInt8} {p : Nat} (h1 : 1 ≤ p) (h2 : p < l.length) : (swapAt l p).Perm l := by
  obtain ⟨e1, e2⟩ := swapAt_form h1 h2
  rw [e2]
  conv => rhs; rw [e1]
  exact List.Perm.append_left _ (List.Perm.swap ..)
theorem ev_fold : ∀ (ps : List Nat) (l : List UInt8), l.Nodup → (∀ p ∈ ps, 1 ≤ p ∧ p < l.length) → evF true [] (ps.foldl swapAt l) = (evF true [] l ^^ decide (ps.length % 2 = 1)) ∧ (ps.foldl swapAt l).Perm l
  | [], l, _, _ => by simp
  | p :: ps, l, hd, hp => by
    have h0 := hp p (List.mem_cons_self ..)
    have hperm := swapAt_perm h0.1 h0.2
    obtain ⟨i1, i2⟩ := ev_fold ps (swapAt l p) (hperm.nodup_iff.2 hd) (fun q hq => by rw [swapAt_len]; exact hp q (List.mem_cons_of_mem _ hq))
    rw [List.foldl_cons]
    refine ⟨?_, i2.trans hperm⟩
    rw [i1, ev_swap hd h0.1 h0.2, List.length_cons]
    have e : decide ((ps.length + 1) % 2 = 1) = !decide (ps.length % 2 = 1) := by
      rcases Nat.mod_two_eq_zero_or_one ps.length with h | h
      · rw [decide_eq_false (by omega : ¬ ps.length % 2 = 1), decide_eq_true (by omega)]; rfl
      · rw [decide_eq_true h, decide_eq_false (by omega)]; rfl
    rw [e]
    cases evF true [] l <;> cases decide (ps.length % 2 = 1) <;> rfl
theorem timesL_set (a : List UInt8) (b : List UInt8) (i : Nat) (x : UInt8) : timesL a (b.set i x) = (timesL a b).set i (a.getD (x.toNat - 49) 0) := by
  unfold timesL; rw [List.map_set]
theorem timesL_swap (a : List UInt8) {b : List UInt8} {p : Nat} (h : p < b.length) : timesL a (swapAt b p) = swapAt (timesL a b) p := by
  have g : ∀ i, i < b.length → (timesL a b).getD i 0 = a.getD ((b.getD i 0).toNat - 49) 0 := fun i hi => by
    unfold timesL
    rw [List.getD_eq_getElem?_getD, List.getElem?_map, List.getElem?_eq_getElem hi, List.getD_eq_getElem?_getD, List.getD_eq_getElem?_getD, List.getElem?_eq_getElem hi]
    simp [List.getD_eq_getElem?_getD]
  unfold swapAt
  rw [timesL_set, timesL_set, g _ h, g _ (by omega)]
theorem timesL_fold (a : List UInt8) : ∀ (ps : List Nat) (b : List UInt8), (∀ p ∈ ps, p < b.length) → timesL a (ps.foldl swapAt b) = ps.foldl swapAt (timesL a b)
  | [], b, _ => rfl
  | p :: ps, b, h => by
    rw [List.foldl_cons, List.foldl_cons, timesL_fold a ps _ (fun q hq => by rw [swapAt_len]; exact h q (List.mem_cons_of_mem _ hq)), timesL_swap a (h p (List.mem_cons_self ..))]
theorem Inv.nodup {n : Nat} (hn : n ≤ 8) {a : ByteArray} (h : Inv n a) : a.data.toList.Nodup := by
  obtain ⟨ha, b, hb, _, h2⟩ := h
  have e : timesL b.data.toList a.data.toList = roundsL n := by
    have h3 : (timesB b a).data.toList = (roundsB n).data.toList := by rw [h2]
    rw [rounds_list hn] at h3
    rw [← h3]; unfold timesB; rw [ofL_list]
  rw [List.Nodup, List.pairwise_iff_getElem]
  intro i j hi hj hij hx
  have hl := ha.len
  have ei : (timesL b.data.toList a.data.toList)[i]? = (roundsL n)[i]? := by rw [e]
  have ej : (timesL b.data.toList a.data.toList)[j]? = (roundsL n)[j]? := by rw [e]
  unfold timesL at ei ej
  rw [List.getElem?_map, List.getElem?_eq_getElem hi, roundsL_get (by omega), Option.map_some] at ei
  rw [List.getElem?_map, List.getElem?_eq_getElem hj, roundsL_get (by omega), Option.map_some] at ej
  rw [hx] at ei
  have e2 := Option.some.inj (ei.symm.trans ej)
  have := congrArg UInt8.toNat e2
  rw [u8_49 (by omega), u8_49 (by omega)] at this
  omega
theorem ev_apply {n : Nat} (hn : n ≤ 8) {r : ByteArray} (hr : Inv n r) (c : ByteArray) : evenB (applyB r c) = (evenB r ^^ decide ((swapsW c.data.toList n 1).length % 2 = 1)) := by
  have hm := fun p hp => swapsW_mem (c := c.data.toList) (n := n) (n - 1) 1 (by omega) p hp
  have e : (applyB r c).data.toList = (swapsW c.data.toList n 1).foldl swapAt r.data.toList := by
    unfold applyB timesB chB
    rw [ofL_list, ofL_list, hr.1.1]
    unfold chL
    rw [timesL_fold _ _ _ (fun p hp => by rw [roundsL_len]; exact (hm p hp).2), timesL_rounds hn hr.1.len]
  unfold evenB
  rw [e]
  exact (ev_fold _ _ (hr.nodup hn) (fun p hp => by rw [hr.1.len]; exact hm p hp)).1
def swapCount (n : Nat) (cs : List ByteArray) : Nat := (cs.map fun c => (swapsW c.data.toList n 1).length).sum
theorem ev_run {n : Nat} (hn : n ≤ 8) : ∀ (cs : List ByteArray) {r : ByteArray}, Inv n r → evenB (runB r cs) = (evenB r ^^ decide (swapCount n cs % 2 = 1))
  | [], r, hr => by simp [runB, swapCount]
  | c :: cs, r, hr => by
    show evenB (runB (applyB r c) cs) = _
    rw [ev_run hn cs (apply_inv hn hr c), ev_apply hn hr]
    have e : swapCount n (c :: cs) = (swapsW c.data.toList n 1).length + swapCount n cs := by simp [swapCount]
    rw [e]
    generalize (swapsW c.data.toList n 1).length = x
    generalize swapCount n cs = y
    rcases Nat.mod_two_eq_zero_or_one x with h | h <;> rcases Nat.mod_two_eq_zero_or_one y with h' | h'
    · rw [decide_eq_false (by omega : ¬ x % 2 = 1), decide_eq_false (by omega : ¬ y % 2 = 1), decide_eq_false (by omega : ¬ (x + y) % 2 = 1)]; simp
    · rw [decide_eq_false (by omega : ¬ x % 2 = 1), decide_eq_true h', decide_eq_true (by omega : (x + y) % 2 = 1)]; simp
    · rw [decide_eq_true h, decide_eq_false (by omega : ¬ y % 2 = 1), decide_eq_true (by omega : (x + y) % 2 = 1)]; simp
    · rw [decide_eq_true h, decide_eq_true h', decide_eq_false (by omega : ¬ (x + y) % 2 = 1)]; simp
theorem ev_reverse {n : Nat} (hn : n ≤ 8) (cs : List ByteArray) : evenB (runB (roundsB n) cs.reverse) = evenB (runB (roundsB n) cs) := by
  rw [ev_run hn _ (Inv.rounds hn), ev_run hn _ (Inv.rounds hn)]
  have e : swapCount n cs.reverse = swapCount n cs := by
    unfold swapCount
    rw [List.map_reverse]
    exact (List.reverse_perm _).sum_nat
  rw [e]
end Go.Proofs.YtofpjbdelmmclaaGreatDoor

/- Lists of changes in order: a plain account of the least one. -/
namespace Go.Proofs.YtofpjbdelmmclaaGreatDoor
open Go Go.RowKit
set_option linter.unusedVariables false
set_option linter.unusedSimpArgs false

theorem bl_trans : ∀ {x y z : List UInt8}, Op.bytesLess x y = true → Op.bytesLess y z = true → Op.bytesLess x z = true
  | _, [], _, h, _ => by cases ‹List UInt8› <;> simp [Op.bytesLess] at h
  | _, _ :: _, [], _, h => by simp [Op.bytesLess] at h
  | [], _ :: _, _ :: _, _, _ => rfl
  | a :: x, b :: y, c :: z, h1, h2 => by
    rw [Op.bytesLess, Bool.or_eq_true, Bool.and_eq_true, decide_eq_true_eq] at h1 h2
    rw [Op.bytesLess, Bool.or_eq_true, Bool.and_eq_true, decide_eq_true_eq]
    rcases h1 with h1 | ⟨e1, h1⟩
    · rcases h2 with h2 | ⟨e2, h2⟩
      · left; simp only [UInt8.lt_iff_toNat_lt] at *; omega
      · left; rw [← eq_of_beq e2]; exact h1
    · rw [eq_of_beq e1]
      rcases h2 with h2 | ⟨e2, h2⟩
      · left; exact h2
      · right; exact ⟨e2, bl_trans h1 h2⟩
theorem lessS_irr : ∀ x : List ByteArray, lessS x x = false
  | [] => rfl
  | a :: r => by rw [lessS, if_pos (beq_self_eq_true _)]; exact lessS_irr r
theorem lessS_trans : ∀ {x y z : List ByteArray}, lessS x y = true → lessS y z = true → lessS x z = true
  | [], _, _, h, _ => by simp [lessS] at h
  | _ :: _, [], _, h, _ => by simp [lessS] at h
  | _ :: _, _ :: _, [], _, h => by simp [lessS] at h
  | a :: x, b :: y, c :: z, h1, h2 => by
    rw [lessS] at h1 h2 ⊢
    by_cases e1 : (a.toList == b.toList) = true
    · rw [if_pos e1] at h1
      have e := eq_of_beq e1
      rw [e]
      by_cases e2 : (b.toList == c.toList) = true
      · rw [if_pos e2] at h2 ⊢
        exact lessS_trans h1 h2
      · rw [if_neg e2] at h2 ⊢
        unfold nmLt at h2 ⊢
        rw [e]; exact h2
    · rw [if_neg e1] at h1
      by_cases e2 : (b.toList == c.toList) = true
      · have e := eq_of_beq e2
        rw [← e, if_neg e1]
        unfold nmLt at h1 ⊢
        rw [← e]; exact h1
      · rw [if_neg e2] at h2
        unfold nmLt at h1 h2
        have h3 := bl_trans h1 h2
        have e3 : ¬ (a.toList == c.toList) = true := by
          intro e
          rw [eq_of_beq e, less_irr] at h3
          cases h3
        rw [if_neg e3]; exact h3
theorem lessS_tot : ∀ {x y : List ByteArray}, x.length = y.length → lessS x y = false → lessS y x = false → x = y
  | [], [], _, _, _ => rfl
  | [], _ :: _, h, _, _ => by simp at h
  | _ :: _, [], h, _, _ => by simp at h
  | a :: x, b :: y, hl, h1, h2 => by
    rw [lessS] at h1 h2
    cases e : (a.toList == b.toList)
    · have e' : (b.toList == a.toList) = false := by rw [beq_eq_false_iff_ne] at e ⊢; exact fun h => e h.symm
      rw [e, if_neg (by simp)] at h1
      rw [e', if_neg (by simp)] at h2
      have ht := less_tot a.toList b.toList
      unfold nmLt at h1 h2
      rw [h1, h2, e] at ht
      cases ht
    · have e' : (b.toList == a.toList) = true := by rw [eq_of_beq e]; exact beq_self_eq_true _
      rw [e, if_pos rfl] at h1
      rw [e', if_pos rfl] at h2
      have hab : a = b := by
        have h := eq_of_beq e
        rw [bytes_toList, bytes_toList] at h
        cases a; cases b; simp only [ByteArray.mk.injEq]; exact Array.toList_inj.1 h
      rw [hab, lessS_tot (by simpa using hl) h1 h2]
def minS (b c : List ByteArray) : List ByteArray := if lessS c b then c else b
theorem min_len {b d : List ByteArray} (h : d.length = b.length) : (minS b d).length = b.length := by unfold minS; split <;> omega
theorem min_least : ∀ (cs : List (List ByteArray)) (b : List ByteArray), (∀ c ∈ cs, c.length = b.length) → cs.foldl minS b ∈ b :: cs ∧ ∀ c ∈ b :: cs, lessS c (cs.foldl minS b) = false
  | [], b, _ => ⟨by simp, fun c hc => by rw [List.mem_singleton.1 hc]; exact lessS_irr b⟩
  | d :: cs, b, hl => by
    have hd := hl d (List.mem_cons_self ..)
    obtain ⟨h1, h2⟩ := min_least cs (minS b d) (fun c hc => by rw [min_len hd]; exact hl c (List.mem_cons_of_mem _ hc))
    rw [List.foldl_cons]
    constructor
    · rcases List.mem_cons.1 h1 with h | h
      · rw [h]; unfold minS; split <;> simp
      · exact List.mem_cons_of_mem _ (List.mem_cons_of_mem _ h)
    · have hm := h2 (minS b d) (List.mem_cons_self ..)
      have h3 : ∀ c ∈ cs, lessS c (cs.foldl minS (minS b d)) = false := fun c hc => h2 c (List.mem_cons_of_mem _ hc)
      generalize cs.foldl minS (minS b d) = R at hm h3
      have hb : lessS b R = false ∧ lessS d R = false := by
        unfold minS at hm
        cases hdb : lessS d b
        · rw [hdb, if_neg (by simp)] at hm
          refine ⟨hm, ?_⟩
          cases hx : lessS d R
          · rfl
          · cases hbd : lessS b d
            · rw [lessS_tot hd hdb hbd] at hx; rw [hx] at hm; exact hm
            · rw [lessS_trans hbd hx] at hm; exact hm
        · rw [hdb, if_pos rfl] at hm
          refine ⟨?_, hm⟩
          cases hx : lessS b R
          · rfl
          · rw [lessS_trans hdb hx] at hm; exact hm
      intro c hc
      rcases List.mem_cons.1 hc with rfl | hc
      · exact hb.1
      · rcases List.mem_cons.1 hc with rfl | hc
        · exact hb.2
        · exact h3 c hc
/-- Two folds over the same lists, in whatever order, give the same least one. -/
theorem min_same {cs ds : List (List ByteArray)} {b d : List ByteArray} (hc : ∀ c ∈ cs, c.length = b.length) (hd : ∀ c ∈ ds, c.length = d.length) (hbd : b.length = d.length) (h : ∀ x, x ∈ b :: cs ↔ x ∈ d :: ds) : cs.foldl minS b = ds.foldl minS d := by
  obtain ⟨m1, l1⟩ := min_least cs b hc
  obtain ⟨m2, l2⟩ := min_least ds d hd
  have e1 : (cs.foldl minS b).length = b.length := by
    rcases List.mem_cons.1 m1 with h | h
    · rw [h]
    · exact hc _ h
  have e2 : (ds.foldl minS d).length = d.length := by
    rcases List.mem_cons.1 m2 with h | h
    · rw [h]
    · exact hd _ h
  exact lessS_tot (by omega) (l2 _ ((h _).1 m1)) (l1 _ ((h _).2 m2))
end Go.Proofs.YtofpjbdelmmclaaGreatDoor

/- Texts in order: a sorted row is known by what it holds; doubles lie side by side. -/
namespace Go.Proofs.YtofpjbdelmmclaaGreatDoor
open Go Go.RowKit
set_option linter.unusedVariables false
set_option linter.unusedSimpArgs false

theorem sl_trans {x y z : ByteArray} (h : nmLt x y = true) (h' : nmLt y z = true) : nmLt x z = true := bl_trans h h'
theorem sl_irr (x : ByteArray) : nmLt x x = false := less_irr x.toList
theorem bl_list {x y : ByteArray} (h : (x.toList == y.toList) = true) : x = y := by
  have h := eq_of_beq h
  rw [bytes_toList, bytes_toList] at h
  cases x; cases y; simp only [ByteArray.mk.injEq]; exact Array.toList_inj.1 h
theorem sl_tot {x y : ByteArray} (h1 : nmLt x y = false) (h2 : nmLt y x = false) : x = y := by
  have h := less_tot x.toList y.toList
  unfold nmLt at h1 h2
  rw [h1, h2] at h
  exact bl_list (by simpa using h)
theorem sl_asym {x y : ByteArray} (h : nmLt x y = true) : nmLt y x = false := by
  cases hb : nmLt y x
  · rfl
  · have := sl_trans h hb; rw [sl_irr] at this; cases this
theorem sl_beq (x y : ByteArray) : (x.toList == y.toList) = decide (x = y) := by
  by_cases h : x = y
  · rw [decide_eq_true h, h]; exact beq_self_eq_true _
  · rw [decide_eq_false h, beq_eq_false_iff_ne]
    intro e
    exact h (bl_list (by rw [e]; exact beq_self_eq_true _))
/-- x is not behind y. -/
theorem le_trans' {x y z : ByteArray} (h : nmLt y x = false) (h' : nmLt z y = false) : nmLt z x = false := by
  cases hb : nmLt z x
  · rfl
  · cases hc : nmLt x y
    · have := sl_tot hc h; subst this; rw [hb] at h'; cases h'
    · have := sl_trans hb hc; rw [h'] at this; cases this
abbrev SortedS (l : List ByteArray) : Prop := l.Pairwise fun a b => nmLt b a = false
theorem perm_sorted : ∀ {l m : List ByteArray}, l.Perm m → SortedS l → SortedS m → l = m
  | [], m, h, _, _ => by rw [List.nil_perm.1 h]
  | a :: l, [], h, _, _ => by have := h.length_eq; simp at this
  | a :: l, b :: m, h, h1, h2 => by
    rw [SortedS, List.pairwise_cons] at h1 h2
    have e : a = b := by
      have ha : a ∈ b :: m := h.mem_iff.1 (List.mem_cons_self ..)
      have hb : b ∈ a :: l := h.mem_iff.2 (List.mem_cons_self ..)
      rcases List.mem_cons.1 ha with e | ha
      · exact e
      · rcases List.mem_cons.1 hb with e | hb
        · exact e.symm
        · exact sl_tot (h2.1 a ha) (h1.1 b hb)
    subst e
    rw [perm_sorted (List.perm_cons a |>.1 h) h1.2 h2.2]
theorem nodup_sorted : ∀ {l : List ByteArray}, SortedS l → (∀ k (h : k + 1 < l.length), l[k + 1] ≠ l[k]) → l.Nodup
  | [], _, _ => List.nodup_nil
  | [a], _, _ => by simp
  | a :: b :: l, h, hk => by
    have h0 := h
    rw [SortedS, List.pairwise_cons] at h
    have ih := nodup_sorted h.2 (fun k hk' => hk (k + 1) (by simpa using hk'))
    rw [List.nodup_cons]
    refine ⟨fun hm => ?_, ih⟩
    rcases List.mem_cons.1 hm with e | hm
    · exact hk 0 (by simp) e.symm
    · have h1 := (List.pairwise_cons.1 h.2).1 a hm
      have h2 := h.1 b (List.mem_cons_self ..)
      have e : b = a := (sl_tot h1 h2).symm
      exact hk 0 (by simp) e
theorem nodup_adj {l : List ByteArray} (h : l.Nodup) {k : Nat} (hk : k + 1 < l.length) : l[k + 1] ≠ l[k] := by
  intro e
  have := (List.pairwise_iff_getElem.1 h) k (k + 1) (by omega) hk (by omega)
  exact this e.symm
/-- Merging. -/
def mergeW : List ByteArray → List ByteArray → List ByteArray
  | [], b => b
  | a, [] => a
  | x :: a, y :: b => if nmLt y x then y :: mergeW (x :: a) b else x :: mergeW a (y :: b)
termination_by a b => a.length + b.length
theorem merge_nil (a : List ByteArray) : mergeW a [] = a := by cases a <;> simp [mergeW]
theorem merge_l {x y : ByteArray} {a b : List ByteArray} (h : nmLt y x = true) : mergeW (x :: a) (y :: b) = y :: mergeW (x :: a) b := by rw [mergeW, if_pos h]
theorem merge_r {x y : ByteArray} {a b : List ByteArray} (h : nmLt y x = false) : mergeW (x :: a) (y :: b) = x :: mergeW a (y :: b) := by rw [mergeW, if_neg (by rw [h]; decide)]
theorem merge_perm : ∀ (n : Nat) (a b : List ByteArray), a.length + b.length ≤ n → (mergeW a b).Perm (a ++ b) := by
  intro n
  induction n with
  | zero =>
    intro a b h
    obtain rfl : a = [] := List.eq_nil_of_length_eq_zero (by omega)
    simp [mergeW]
  | succ n ih =>
    intro a b h
    match a, b with
    | [], b => simp [mergeW]
    | x :: a, [] => rw [merge_nil, List.append_nil]
    | x :: a, y :: b =>
      cases hb : nmLt y x
      · rw [merge_r hb, List.cons_append]
        exact (ih a (y :: b) (by simp only [List.length_cons] at h ⊢; omega)).cons x
      · rw [merge_l hb]
        exact ((ih (x :: a) b (by simp only [List.length_cons] at h ⊢; omega)).cons y).trans List.perm_middle.symm
theorem merge_sorted : ∀ (n : Nat) (a b : List ByteArray), a.length + b.length ≤ n → SortedS a → SortedS b → SortedS (mergeW a b) := by
  intro n
  induction n with
  | zero =>
    intro a b h h1 h2
    obtain rfl : a = [] := List.eq_nil_of_length_eq_zero (by omega)
    simpa [mergeW] using h2
  | succ n ih =>
    intro a b h h1 h2
    match a, b with
    | [], b => simpa [mergeW] using h2
    | x :: a, [] => rw [merge_nil]; exact h1
    | x :: a, y :: b =>
      have p1 := List.pairwise_cons.1 h1
      have p2 := List.pairwise_cons.1 h2
      cases hb : nmLt y x
      · rw [merge_r hb, SortedS, List.pairwise_cons]
        refine ⟨fun z hz => ?_, ih a (y :: b) (by simp only [List.length_cons] at h ⊢; omega) p1.2 h2⟩
        have hz := (merge_perm _ a (y :: b) (Nat.le_refl _)).mem_iff.1 hz
        rcases List.mem_append.1 hz with hz | hz
        · exact p1.1 z hz
        · rcases List.mem_cons.1 hz with e | hz
          · rw [e]; exact hb
          · exact le_trans' hb (p2.1 z hz)
      · rw [merge_l hb, SortedS, List.pairwise_cons]
        refine ⟨fun z hz => ?_, ih (x :: a) b (by simp only [List.length_cons] at h ⊢; omega) h1 p2.2⟩
        have hz := (merge_perm _ (x :: a) b (Nat.le_refl _)).mem_iff.1 hz
        rcases List.mem_append.1 hz with hz | hz
        · rcases List.mem_cons.1 hz with e | hz
          · rw [e]; exact sl_asym hb
          · exact le_trans' (sl_asym hb) (p1.1 z hz)
        · exact p2.1 z hz
def sortB (l : List ByteArray) : List ByteArray := if h : l.length < 2 then l else mergeW (sortB (l.take (l.length / 2))) (sortB (l.drop (l.length / 2)))
termination_by l.length
decreasing_by
  · rw [List.length_take]; omega
  · rw [List.length_drop]; omega
theorem sortB_short {l : List ByteArray} (h : l.length < 2) : sortB l = l := by rw [sortB, dif_pos h]
theorem sortB_long {l : List ByteArray} (h : ¬ l.length < 2) : sortB l = mergeW (sortB (l.take (l.length / 2))) (sortB (l.drop (l.length / 2))) := by rw [sortB, dif_neg h]
theorem sortB_ok : ∀ (n : Nat) (l : List ByteArray), l.length ≤ n → (sortB l).Perm l ∧ SortedS (sortB l) := by
  intro n
  induction n with
  | zero =>
    intro l h
    obtain rfl : l = [] := List.eq_nil_of_length_eq_zero (by omega)
    rw [sortB_short (by simp)]
    exact ⟨List.Perm.refl _, List.Pairwise.nil⟩
  | succ n ih =>
    intro l h
    by_cases hs : l.length < 2
    · rw [sortB_short hs]
      refine ⟨List.Perm.refl _, ?_⟩
      match l, hs with
      | [], _ => exact List.Pairwise.nil
      | [a], _ => simp
    · rw [sortB_long hs]
      obtain ⟨p1, s1⟩ := ih (l.take (l.length / 2)) (by rw [List.length_take]; omega)
      obtain ⟨p2, s2⟩ := ih (l.drop (l.length / 2)) (by rw [List.length_drop]; omega)
      refine ⟨?_, merge_sorted _ _ _ (Nat.le_refl _) s1 s2⟩
      exact ((merge_perm _ _ _ (Nat.le_refl _)).trans (p1.append p2)).trans (by rw [List.take_append_drop])
theorem sortB_perm (l : List ByteArray) : (sortB l).Perm l := (sortB_ok _ l (Nat.le_refl _)).1
theorem sortB_sorted (l : List ByteArray) : SortedS (sortB l) := (sortB_ok _ l (Nat.le_refl _)).2
theorem sortB_len (l : List ByteArray) : (sortB l).length = l.length := (sortB_perm l).length_eq
theorem sorted_uniq {l m : List ByteArray} (h : l.Perm m) (hs : SortedS l) : l = sortB m := perm_sorted (h.trans (sortB_perm m).symm) hs (sortB_sorted m)
theorem nodup_perm {l m : List ByteArray} (h : l.Perm m) : l.Nodup ↔ m.Nodup := h.nodup_iff
end Go.Proofs.YtofpjbdelmmclaaGreatDoor
