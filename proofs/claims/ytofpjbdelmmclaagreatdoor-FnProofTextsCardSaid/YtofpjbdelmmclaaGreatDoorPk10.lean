/- Contracts: slices of strings compared. -/
import Derived.Test.YtofpjbdelmmclaaGreatDoorPk9
namespace Go.Proofs.YtofpjbdelmmclaaGreatDoor
open Go Go.RowKit
set_option linter.unusedVariables false
set_option linter.unusedSimpArgs false

theorem str_ne {a b : ByteArray} (h : a ≠ b) : (a.toList == b.toList) = false := by
  rw [beq_eq_false_iff_ne]
  intro e
  rw [bytes_toList, bytes_toList] at e
  exact h (by cases a; cases b; simp only [ByteArray.mk.injEq]; exact Array.toList_inj.1 e)
set_option maxHeartbeats 1000000 in
theorem l1SameS_any (u v : Value) (xs ys : List ByteArray) (w : World) (hu : Strs w u xs) (hv : Strs w v ys) : Calls Tryz.prog 45 #[u, v] w fun e w' => e = .returned (.bool (decide (xs = ys))) ∧ Below w.heap.size w w' := by
  obtain ⟨A, c, rfl, h1, h2, hr⟩ := hu
  obtain ⟨A', c', rfl, h1', h2', hr'⟩ := hv
  unfold maxLen at h2 h2'
  by_cases hl : xs.length = ys.length
  · have hle : ((xs.length : Int) == ys.length) = true := by rw [hl]; simp
    have hne : ((xs.length : Int) != ys.length) = false := by rw [hl]; simp
    have Hl := Lib.hid hl
    clear hl
    go_enter Tryz.func45, Tryz.ntmps45
    go_wp2_with fail
    go_loopw [13] (fun i wr => ∃ k : Nat, k ≤ xs.length ∧ i = .int .i64 k ∧ Below w.heap.size w wr ∧ xs.take k = ys.take k) (fun i _ => xs.length - (intOf i).toNat)
    case atStart => exact ⟨0, by omega, rfl, Below.refl _ _, by simp⟩
    case round =>
      obtain ⟨k, hk, rfl, hB, ht⟩ := hrel
      have Ht := Lib.hid ht
      clear ht
      by_cases hlt : k < xs.length
      · have hlt' : k < ys.length := by have := Hl.out; omega
        obtain ⟨ad, rfl, hC⟩ := strs_el hr hlt
        obtain ⟨ad', rfl, hC'⟩ := strs_el hr' hlt'
        by_cases he : xs[k] = ys[k]
        · have He := Lib.hid (takes_step Ht.out hlt hlt' he)
          have hb : (xs[k].toList == ys[k].toList) = true := by rw [he]; exact beq_self_eq_true _
          clear he
          go_wp2_with fail
          go_big_quiet (fail)
          go_wp2_with fail
          exact ⟨⟨k + 1, by omega, by go_num, bw_dr hB _, He.out⟩, by simp [intOf]; omega⟩
        · have He := Lib.hid (eq_no_at hlt hlt' he)
          have hb : (xs[k].toList == ys[k].toList) = false := str_ne he
          clear he
          go_wp2_with fail
          go_big_quiet (fail)
          go_wp2_with fail
          go_ret
          exact ⟨ret_bool He.out.symm, bw_dr hB _⟩
      · have He := Lib.hid (eq_yes Ht.out hlt Hl.out)
        go_wp2_with fail
        go_ret
        exact ⟨ret_bool He.out.symm, hB⟩
  · have He := Lib.hid (eq_no_len hl)
    have hle : ((xs.length : Int) == ys.length) = false := by simp; omega
    have hne : ((xs.length : Int) != ys.length) = true := by simp; omega
    clear hl
    go_enter Tryz.func45, Tryz.ntmps45
    go_wp2_with fail
    go_ret
    exact ⟨ret_bool He.out.symm, Below.refl _ _⟩
def cmpB (a b : ByteArray) : Int := if nmLt a b then -1 else if (a.toList == b.toList) then 0 else 1
def cmpSS : List ByteArray → List ByteArray → Int
  | [], [] => 0
  | [], _ :: _ => -1
  | _ :: _, [] => 1
  | a :: r, b :: s => if cmpB a b = 0 then cmpSS r s else cmpB a b
def lessS : List ByteArray → List ByteArray → Bool
  | a :: r, b :: s => if (a.toList == b.toList) then lessS r s else nmLt a b
  | _, _ => false
theorem less_irr (x : List UInt8) : Op.bytesLess x x = false := by
  have h := less_tot x x
  cases e : Op.bytesLess x x
  · rfl
  · rw [e] at h; simp at h
theorem cmpB_zero (a b : ByteArray) : cmpB a b = 0 ↔ (a.toList == b.toList) = true := by
  unfold cmpB nmLt
  cases e : (a.toList == b.toList)
  · cases Op.bytesLess a.toList b.toList <;> simp
  · rw [eq_of_beq e, less_irr]; simp
theorem less_cmp : ∀ {xs ys : List ByteArray}, xs.length = ys.length → lessS xs ys = decide (cmpSS xs ys < 0)
  | [], [], _ => rfl
  | [], _ :: _, h => by simp at h
  | _ :: _, [], h => by simp at h
  | a :: r, b :: s, h => by
    rw [lessS, cmpSS]
    have hz := cmpB_zero a b
    cases e : (a.toList == b.toList)
    · rw [e] at hz
      rw [if_neg (by simp), if_neg (by simp [hz])]
      unfold cmpB
      rw [e]
      cases nmLt a b <;> rfl
    · rw [if_pos rfl, if_pos (hz.2 e)]
      exact less_cmp (by simpa using h)
theorem cmp_step {xs ys : List ByteArray} {k : Nat} {r : Int} (hx : k < xs.length) (hy : k < ys.length) (h : cmpSS (xs.drop k) (ys.drop k) = r) (hz : cmpB xs[k] ys[k] = 0) : cmpSS (xs.drop (k + 1)) (ys.drop (k + 1)) = r := by
  rw [List.drop_eq_getElem_cons hx, List.drop_eq_getElem_cons hy, cmpSS, if_pos hz] at h; exact h
theorem cmp_at {xs ys : List ByteArray} {k : Nat} {r : Int} (hx : k < xs.length) (hy : k < ys.length) (h : cmpSS (xs.drop k) (ys.drop k) = r) (hz : ¬ cmpB xs[k] ys[k] = 0) : r = cmpB xs[k] ys[k] := by
  rw [List.drop_eq_getElem_cons hx, List.drop_eq_getElem_cons hy, cmpSS, if_neg hz] at h; exact h.symm
theorem cmp_end {xs ys : List ByteArray} {k : Nat} {r : Int} (hx : xs.length ≤ k) (hy : ys.length ≤ k) (h : cmpSS (xs.drop k) (ys.drop k) = r) : r = 0 := by
  rw [List.drop_of_length_le hx, List.drop_of_length_le hy] at h; exact h.symm
end Go.Proofs.YtofpjbdelmmclaaGreatDoor

/- Contracts: slices of strings: less, reversed. -/
namespace Go.Proofs.YtofpjbdelmmclaaGreatDoor
open Go Go.RowKit
set_option linter.unusedVariables false
set_option linter.unusedSimpArgs false

theorem lessS_step {xs ys : List ByteArray} {k : Nat} {r : Bool} (hx : k < xs.length) (hy : k < ys.length) (h : lessS (xs.drop k) (ys.drop k) = r) (hz : (xs[k].toList == ys[k].toList) = true) : lessS (xs.drop (k + 1)) (ys.drop (k + 1)) = r := by
  rw [List.drop_eq_getElem_cons hx, List.drop_eq_getElem_cons hy, lessS, if_pos hz] at h; exact h
theorem lessS_at {xs ys : List ByteArray} {k : Nat} {r : Bool} (hx : k < xs.length) (hy : k < ys.length) (h : lessS (xs.drop k) (ys.drop k) = r) (hz : (xs[k].toList == ys[k].toList) = false) : r = Op.bytesLess xs[k].toList ys[k].toList := by
  rw [List.drop_eq_getElem_cons hx, List.drop_eq_getElem_cons hy, lessS, if_neg (by rw [hz]; decide)] at h; exact h.symm
theorem lessS_end {xs ys : List ByteArray} {k : Nat} {r : Bool} (hx : xs.length ≤ k) (h : lessS (xs.drop k) (ys.drop k) = r) : r = false := by
  rw [List.drop_of_length_le hx] at h
  rw [← h]; rfl
/-- The list xs, its first k and its last k elements changed about. -/
def Turned {α : Type} (xs cs : List α) (k : Nat) : Prop := cs.length = xs.length ∧ ∀ t, t < xs.length → cs[t]? = if t < k ∨ xs.length - k ≤ t then xs[xs.length - 1 - t]? else xs[t]?
theorem turned_zero {α : Type} (xs : List α) : Turned xs xs 0 := ⟨rfl, fun t ht => by rw [if_neg (by omega)]⟩
theorem turned_end {α : Type} {xs cs : List α} {k : Nat} (h : Turned xs cs k) (hk : xs.length ≤ 2 * k + 1) : cs = xs.reverse := by
  apply List.ext_getElem?
  intro t
  by_cases ht : t < xs.length
  · rw [h.2 t ht, List.getElem?_reverse ht]
    split
    · rfl
    · rw [show xs.length - 1 - t = t from by omega]
  · rw [List.getElem?_eq_none (by have := h.1; omega), List.getElem?_eq_none (by simp; omega)]
theorem turned_step {α : Type} {xs cs : List α} {k j : Nat} (h : Turned xs cs k) (hk : 2 * k + 1 < xs.length) (hj : j = xs.length - 1 - k) {a b : α} (ha : cs[k]? = some a) (hb : cs[j]? = some b) : Turned xs ((cs.set k b).set j a) (k + 1) := by
  have hka := h.2 k (by omega)
  have hjb := h.2 j (by omega)
  rw [if_neg (by omega)] at hka hjb
  refine ⟨by simp [h.1], fun t ht => ?_⟩
  by_cases e1 : t = j
  · subst e1
    rw [List.getElem?_set_self (by simp; have := h.1; omega), if_pos (by omega), show xs.length - 1 - t = k from by omega, ← hka, ha]
  · rw [List.getElem?_set_ne (by omega)]
    by_cases e2 : t = k
    · subst e2
      rw [List.getElem?_set_self (by have := h.1; omega), if_pos (by omega), show xs.length - 1 - t = j from by omega, ← hjb, hb]
    · rw [List.getElem?_set_ne (by omega), h.2 t ht]
      by_cases e3 : t < k ∨ xs.length - k ≤ t
      · rw [if_pos e3, if_pos (by omega)]
      · rw [if_neg e3, if_neg (by omega)]
end Go.Proofs.YtofpjbdelmmclaaGreatDoor

/- Lists of changes in order: a plain account of the least one. -/
namespace Go.Proofs.YtofpjbdelmmclaaGreatDoor
open Go Go.RowKit
set_option linter.unusedVariables false
set_option linter.unusedSimpArgs false

theorem bl_trans : ∀ {x y z : List UInt8}, Op.bytesLess x y = true → Op.bytesLess y z = true → Op.bytesLess x z = true
  | _, [], _, h, _ => by cases ‹List UInt8› <;> simp [Op.bytesLess] at h
  | _, _ :: _, [], _, h => by simp [Op.bytesLess] at h
  | [], _ :: _, _ :: _, _, _ => rfl
  | a :: x, b :: y, c :: z, h1, h2 => by
    rw [Op.bytesLess, Bool.or_eq_true, Bool.and_eq_true, decide_eq_true_eq] at h1 h2
    rw [Op.bytesLess, Bool.or_eq_true, Bool.and_eq_true, decide_eq_true_eq]
    rcases h1 with h1 | ⟨e1, h1⟩
    · rcases h2 with h2 | ⟨e2, h2⟩
      · left; simp only [UInt8.lt_iff_toNat_lt] at *; omega
      · left; rw [← eq_of_beq e2]; exact h1
    · rw [eq_of_beq e1]
      rcases h2 with h2 | ⟨e2, h2⟩
      · left; exact h2
      · right; exact ⟨e2, bl_trans h1 h2⟩
theorem lessS_irr : ∀ x : List ByteArray, lessS x x = false
  | [] => rfl
  | a :: r => by rw [lessS, if_pos (beq_self_eq_true _)]; exact lessS_irr r
theorem lessS_trans : ∀ {x y z : List ByteArray}, lessS x y = true → lessS y z = true → lessS x z = true
  | [], _, _, h, _ => by simp [lessS] at h
  | _ :: _, [], _, h, _ => by simp [lessS] at h
  | _ :: _, _ :: _, [], _, h => by simp [lessS] at h
  | a :: x, b :: y, c :: z, h1, h2 => by
    rw [lessS] at h1 h2 ⊢
    by_cases e1 : (a.toList == b.toList) = true
    · rw [if_pos e1] at h1
      have e := eq_of_beq e1
      rw [e]
      by_cases e2 : (b.toList == c.toList) = true
      · rw [if_pos e2] at h2 ⊢
        exact lessS_trans h1 h2
      · rw [if_neg e2] at h2 ⊢
        unfold nmLt at h2 ⊢
        rw [e]; exact h2
    · rw [if_neg e1] at h1
      by_cases e2 : (b.toList == c.toList) = true
      · have e := eq_of_beq e2
        rw [← e, if_neg e1]
        unfold nmLt at h1 ⊢
        rw [← e]; exact h1
      · rw [if_neg e2] at h2
        unfold nmLt at h1 h2
        have h3 := bl_trans h1 h2
        have e3 : ¬ (a.toList == c.toList) = true := by
          intro e
          rw [eq_of_beq e, less_irr] at h3
          cases h3
        rw [if_neg e3]; exact h3
theorem lessS_tot : ∀ {x y : List ByteArray}, x.length = y.length → lessS x y = false → lessS y x = false → x = y
  | [], [], _, _, _ => rfl
  | [], _ :: _, h, _, _ => by simp at h
  | _ :: _, [], h, _, _ => by simp at h
  | a :: x, b :: y, hl, h1, h2 => by
    rw [lessS] at h1 h2
    cases e : (a.toList == b.toList)
    · have e' : (b.toList == a.toList) = false := by rw [beq_eq_false_iff_ne] at e ⊢; exact fun h => e h.symm
      rw [e, if_neg (by simp)] at h1
      rw [e', if_neg (by simp)] at h2
      have ht := less_tot a.toList b.toList
      unfold nmLt at h1 h2
      rw [h1, h2, e] at ht
      cases ht
    · have e' : (b.toList == a.toList) = true := by rw [eq_of_beq e]; exact beq_self_eq_true _
      rw [e, if_pos rfl] at h1
      rw [e', if_pos rfl] at h2
      have hab : a = b := by
        have h := eq_of_beq e
        rw [bytes_toList, bytes_toList] at h
        cases a; cases b; simp only [ByteArray.mk.injEq]; exact Array.toList_inj.1 h
      rw [hab, lessS_tot (by simpa using hl) h1 h2]
def minS (b c : List ByteArray) : List ByteArray := if lessS c b then c else b
theorem min_len {b d : List ByteArray} (h : d.length = b.length) : (minS b d).length = b.length := by unfold minS; split <;> omega
theorem min_least : ∀ (cs : List (List ByteArray)) (b : List ByteArray), (∀ c ∈ cs, c.length = b.length) → cs.foldl minS b ∈ b :: cs ∧ ∀ c ∈ b :: cs, lessS c (cs.foldl minS b) = false
  | [], b, _ => ⟨by simp, fun c hc => by rw [List.mem_singleton.1 hc]; exact lessS_irr b⟩
  | d :: cs, b, hl => by
    have hd := hl d (List.mem_cons_self ..)
    obtain ⟨h1, h2⟩ := min_least cs (minS b d) (fun c hc => by rw [min_len hd]; exact hl c (List.mem_cons_of_mem _ hc))
    rw [List.foldl_cons]
    constructor
    · rcases List.mem_cons.1 h1 with h | h
      · rw [h]; unfold minS; split <;> simp
      · exact List.mem_cons_of_mem _ (List.mem_cons_of_mem _ h)
    · have hm := h2 (minS b d) (List.mem_cons_self ..)
      have h3 : ∀ c ∈ cs, lessS c (cs.foldl minS (minS b d)) = false := fun c hc => h2 c (List.mem_cons_of_mem _ hc)
      generalize cs.foldl minS (minS b d) = R at hm h3
      have hb : lessS b R = false ∧ lessS d R = false := by
        unfold minS at hm
        cases hdb : lessS d b
        · rw [hdb, if_neg (by simp)] at hm
          refine ⟨hm, ?_⟩
          cases hx : lessS d R
          · rfl
          · cases hbd : lessS b d
            · rw [lessS_tot hd hdb hbd] at hx; rw [hx] at hm; exact hm
            · rw [lessS_trans hbd hx] at hm; exact hm
        · rw [hdb, if_pos rfl] at hm
          refine ⟨?_, hm⟩
          cases hx : lessS b R
          · rfl
          · rw [lessS_trans hdb hx] at hm; exact hm
      intro c hc
      rcases List.mem_cons.1 hc with rfl | hc
      · exact hb.1
      · rcases List.mem_cons.1 hc with rfl | hc
        · exact hb.2
        · exact h3 c hc
/-- Two folds over the same lists, in whatever order, give the same least one. -/
theorem min_same {cs ds : List (List ByteArray)} {b d : List ByteArray} (hc : ∀ c ∈ cs, c.length = b.length) (hd : ∀ c ∈ ds, c.length = d.length) (hbd : b.length = d.length) (h : ∀ x, x ∈ b :: cs ↔ x ∈ d :: ds) : cs.foldl minS b = ds.foldl minS d := by
  obtain ⟨m1, l1⟩ := min_least cs b hc
  obtain ⟨m2, l2⟩ := min_least ds d hd
  have e1 : (cs.foldl minS b).length = b.length := by
    rcases List.mem_cons.1 m1 with h | h
    · rw [h]
    · exact hc _ h
  have e2 : (ds.foldl minS d).length = d.length := by
    rcases List.mem_cons.1 m2 with h | h
    · rw [h]
    · exact hd _ h
  exact lessS_tot (by omega) (l2 _ ((h _).1 m1)) (l1 _ ((h _).2 m2))
end Go.Proofs.YtofpjbdelmmclaaGreatDoor

/- Texts in order: a sorted row is known by what it holds; doubles lie side by side. -/
namespace Go.Proofs.YtofpjbdelmmclaaGreatDoor
open Go Go.RowKit
set_option linter.unusedVariables false
set_option linter.unusedSimpArgs false

theorem sl_trans {x y z : ByteArray} (h : nmLt x y = true) (h' : nmLt y z = true) : nmLt x z = true := bl_trans h h'
theorem sl_irr (x : ByteArray) : nmLt x x = false := less_irr x.toList
theorem bl_list {x y : ByteArray} (h : (x.toList == y.toList) = true) : x = y := by
  have h := eq_of_beq h
  rw [bytes_toList, bytes_toList] at h
  cases x; cases y; simp only [ByteArray.mk.injEq]; exact Array.toList_inj.1 h
theorem sl_tot {x y : ByteArray} (h1 : nmLt x y = false) (h2 : nmLt y x = false) : x = y := by
  have h := less_tot x.toList y.toList
  unfold nmLt at h1 h2
  rw [h1, h2] at h
  exact bl_list (by simpa using h)
theorem sl_asym {x y : ByteArray} (h : nmLt x y = true) : nmLt y x = false := by
  cases hb : nmLt y x
  · rfl
  · have := sl_trans h hb; rw [sl_irr] at this; cases this
theorem sl_beq (x y : ByteArray) : (x.toList == y.toList) = decide (x = y) := by
  by_cases h : x = y
  · rw [decide_eq_true h, h]; exact beq_self_eq_true _
  · rw [decide_eq_false h, beq_eq_false_iff_ne]
    intro e
    exact h (bl_list (by rw [e]; exact beq_self_eq_true _))
/-- x is not behind y. -/
theorem le_trans' {x y z : ByteArray} (h : nmLt y x = false) (h' : nmLt z y = false) : nmLt z x = false := by
  cases hb : nmLt z x
  · rfl
  · cases hc : nmLt x y
    · have := sl_tot hc h; subst this; rw [hb] at h'; cases h'
    · have := sl_trans hb hc; rw [h'] at this; cases this
abbrev SortedS (l : List ByteArray) : Prop := l.Pairwise fun a b => nmLt b a = false
theorem perm_sorted : ∀ {l m : List ByteArray}, l.Perm m → SortedS l → SortedS m → l = m
  | [], m, h, _, _ => by rw [List.nil_perm.1 h]
  | a :: l, [], h, _, _ => by have := h.length_eq; simp at this
  | a :: l, b :: m, h, h1, h2 => by
    rw [SortedS, List.pairwise_cons] at h1 h2
    have e : a = b := by
      have ha : a ∈ b :: m := h.mem_iff.1 (List.mem_cons_self ..)
      have hb : b ∈ a :: l := h.mem_iff.2 (List.mem_cons_self ..)
      rcases List.mem_cons.1 ha with e | ha
      · exact e
      · rcases List.mem_cons.1 hb with e | hb
        · exact e.symm
        · exact sl_tot (h2.1 a ha) (h1.1 b hb)
    subst e
    rw [perm_sorted (List.perm_cons a |>.1 h) h1.2 h2.2]
theorem nodup_sorted : ∀ {l : List ByteArray}, SortedS l → (∀ k (h : k + 1 < l.length), l[k + 1] ≠ l[k]) → l.Nodup
  | [], _, _ => List.nodup_nil
  | [a], _, _ => by simp
  | a :: b :: l, h, hk => by
    have h0 := h
    rw [SortedS, List.pairwise_cons] at h
    have ih := nodup_sorted h.2 (fun k hk' => hk (k + 1) (by simpa using hk'))
    rw [List.nodup_cons]
    refine ⟨fun hm => ?_, ih⟩
    rcases List.mem_cons.1 hm with e | hm
    · exact hk 0 (by simp) e.symm
    · have h1 := (List.pairwise_cons.1 h.2).1 a hm
      have h2 := h.1 b (List.mem_cons_self ..)
      have e : b = a := (sl_tot h1 h2).symm
      exact hk 0 (by simp) e
theorem nodup_adj {l : List ByteArray} (h : l.Nodup) {k : Nat} (hk : k + 1 < l.length) : l[k + 1] ≠ l[k] := by
  intro e
  have := (List.pairwise_iff_getElem.1 h) k (k + 1) (by omega) hk (by omega)
  exact this e.symm
/-- Merging. -/
def mergeW : List ByteArray → List ByteArray → List ByteArray
  | [], b => b
  | a, [] => a
  | x :: a, y :: b => if nmLt y x then y :: mergeW (x :: a) b else x :: mergeW a (y :: b)
termination_by a b => a.length + b.length
theorem merge_nil (a : List ByteArray) : mergeW a [] = a := by cases a <;> simp [mergeW]
theorem merge_l {x y : ByteArray} {a b : List ByteArray} (h : nmLt y x = true) : mergeW (x :: a) (y :: b) = y :: mergeW (x :: a) b := by rw [mergeW, if_pos h]
theorem merge_r {x y : ByteArray} {a b : List ByteArray} (h : nmLt y x = false) : mergeW (x :: a) (y :: b) = x :: mergeW a (y :: b) := by rw [mergeW, if_neg (by rw [h]; decide)]
theorem merge_perm : ∀ (n : Nat) (a b : List ByteArray), a.length + b.length ≤ n → (mergeW a b).Perm (a ++ b) := by
  intro n
  induction n with
  | zero =>
    intro a b h
    obtain rfl : a = [] := List.eq_nil_of_length_eq_zero (by omega)
    simp [mergeW]
  | succ n ih =>
    intro a b h
    match a, b with
    | [], b => simp [mergeW]
    | x :: a, [] => rw [merge_nil, List.append_nil]
    | x :: a, y :: b =>
      cases hb : nmLt y x
      · rw [merge_r hb, List.cons_append]
        exact (ih a (y :: b) (by simp only [List.length_cons] at h ⊢; omega)).cons x
      · rw [merge_l hb]
        exact ((ih (x :: a) b (by simp only [List.length_cons] at h ⊢; omega)).cons y).trans List.perm_middle.symm
theorem merge_sorted : ∀ (n : Nat) (a b : List ByteArray), a.length + b.length ≤ n → SortedS a → SortedS b → SortedS (mergeW a b) := by
  intro n
  induction n with
  | zero =>
    intro a b h h1 h2
    obtain rfl : a = [] := List.eq_nil_of_length_eq_zero (by omega)
    simpa [mergeW] using h2
  | succ n ih =>
    intro a b h h1 h2
    match a, b with
    | [], b => simpa [mergeW] using h2
    | x :: a, [] => rw [merge_nil]; exact h1
    | x :: a, y :: b =>
      have p1 := List.pairwise_cons.1 h1
      have p2 := List.pairwise_cons.1 h2
      cases hb : nmLt y x
      · rw [merge_r hb, SortedS, List.pairwise_cons]
        refine ⟨fun z hz => ?_, ih a (y :: b) (by simp only [List.length_cons] at h ⊢; omega) p1.2 h2⟩
        have hz := (merge_perm _ a (y :: b) (Nat.le_refl _)).mem_iff.1 hz
        rcases List.mem_append.1 hz with hz | hz
        · exact p1.1 z hz
        · rcases List.mem_cons.1 hz with e | hz
          · rw [e]; exact hb
          · exact le_trans' hb (p2.1 z hz)
      · rw [merge_l hb, SortedS, List.pairwise_cons]
        refine ⟨fun z hz => ?_, ih (x :: a) b (by simp only [List.length_cons] at h ⊢; omega) h1 p2.2⟩
        have hz := (merge_perm _ (x :: a) b (Nat.le_refl _)).mem_iff.1 hz
        rcases List.mem_append.1 hz with hz | hz
        · rcases List.mem_cons.1 hz with e | hz
          · rw [e]; exact sl_asym hb
          · exact le_trans' (sl_asym hb) (p1.1 z hz)
        · exact p2.1 z hz
def sortB (l : List ByteArray) : List ByteArray := if h : l.length < 2 then l else mergeW (sortB (l.take (l.length / 2))) (sortB (l.drop (l.length / 2)))
termination_by l.length
decreasing_by
  · rw [List.length_take]; omega
  · rw [List.length_drop]; omega
theorem sortB_short {l : List ByteArray} (h : l.length < 2) : sortB l = l := by rw [sortB, dif_pos h]
theorem sortB_long {l : List ByteArray} (h : ¬ l.length < 2) : sortB l = mergeW (sortB (l.take (l.length / 2))) (sortB (l.drop (l.length / 2))) := by rw [sortB, dif_neg h]
theorem sortB_ok : ∀ (n : Nat) (l : List ByteArray), l.length ≤ n → (sortB l).Perm l ∧ SortedS (sortB l) := by
  intro n
  induction n with
  | zero =>
    intro l h
    obtain rfl : l = [] := List.eq_nil_of_length_eq_zero (by omega)
    rw [sortB_short (by simp)]
    exact ⟨List.Perm.refl _, List.Pairwise.nil⟩
  | succ n ih =>
    intro l h
    by_cases hs : l.length < 2
    · rw [sortB_short hs]
      refine ⟨List.Perm.refl _, ?_⟩
      match l, hs with
      | [], _ => exact List.Pairwise.nil
      | [a], _ => simp
    · rw [sortB_long hs]
      obtain ⟨p1, s1⟩ := ih (l.take (l.length / 2)) (by rw [List.length_take]; omega)
      obtain ⟨p2, s2⟩ := ih (l.drop (l.length / 2)) (by rw [List.length_drop]; omega)
      refine ⟨?_, merge_sorted _ _ _ (Nat.le_refl _) s1 s2⟩
      exact ((merge_perm _ _ _ (Nat.le_refl _)).trans (p1.append p2)).trans (by rw [List.take_append_drop])
theorem sortB_perm (l : List ByteArray) : (sortB l).Perm l := (sortB_ok _ l (Nat.le_refl _)).1
theorem sortB_sorted (l : List ByteArray) : SortedS (sortB l) := (sortB_ok _ l (Nat.le_refl _)).2
theorem sortB_len (l : List ByteArray) : (sortB l).length = l.length := (sortB_perm l).length_eq
theorem sorted_uniq {l m : List ByteArray} (h : l.Perm m) (hs : SortedS l) : l = sortB m := perm_sorted (h.trans (sortB_perm m).symm) hs (sortB_sorted m)
theorem nodup_perm {l m : List ByteArray} (h : l.Perm m) : l.Nodup ↔ m.Nodup := h.nodup_iff
end Go.Proofs.YtofpjbdelmmclaaGreatDoor
