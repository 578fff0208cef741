/- Lists of changes in order: a plain account of the least one. -/
import Derived.Test.YtpkpahadjdkafaaT3
namespace Go.Proofs.Ytpkpahadjdkafaa
open Go Go.RowKit
set_option linter.unusedVariables false
set_option linter.unusedSimpArgs false

theorem bl_trans : ∀ {x y z : List UInt8}, Op.bytesLess x y = true → Op.bytesLess y z = true → Op.bytesLess x z = true
  | _, [], _, h, _ => by cases ‹List UInt8› <;> simp [Op.bytesLess] at h
  | _, _ :: _, [], _, h => by simp [Op.bytesLess] at h
  | [], _ :: _, _ :: _, _, _ => rfl
  | a :: x, b :: y, c :: z, h1, h2 => by
    rw [Op.bytesLess, Bool.or_eq_true, Bool.and_eq_true, decide_eq_true_eq] at h1 h2
    rw [Op.bytesLess, Bool.or_eq_true, Bool.and_eq_true, decide_eq_true_eq]
    rcases h1 with h1 | ⟨e1, h1⟩
    · rcases h2 with h2 | ⟨e2, h2⟩
      · left; simp only [UInt8.lt_iff_toNat_lt] at *; omega
      · left; rw [← eq_of_beq e2]; exact h1
    · rw [eq_of_beq e1]
      rcases h2 with h2 | ⟨e2, h2⟩
      · left; exact h2
      · right; exact ⟨e2, bl_trans h1 h2⟩
theorem lessS_irr : ∀ x : List ByteArray, lessS x x = false
  | [] => rfl
  | a :: r => by rw [lessS, if_pos (beq_self_eq_true _)]; exact lessS_irr r
theorem lessS_trans : ∀ {x y z : List ByteArray}, lessS x y = true → lessS y z = true → lessS x z = true
  | [], _, _, h, _ => by simp [lessS] at h
  | _ :: _, [], _, h, _ => by simp [lessS] at h
  | _ :: _, _ :: _, [], _, h => by simp [lessS] at h
  | a :: x, b :: y, c :: z, h1, h2 => by
    rw [lessS] at h1 h2 ⊢
    by_cases e1 : (a.toList == b.toList) = true
    · rw [if_pos e1] at h1
      have e := eq_of_beq e1
      rw [e]
      by_cases e2 : (b.toList == c.toList) = true
      · rw [if_pos e2] at h2 ⊢
        exact lessS_trans h1 h2
      · rw [if_neg e2] at h2 ⊢
        unfold nmLt at h2 ⊢
        rw [e]; exact h2
    · rw [if_neg e1] at h1
      by_cases e2 : (b.toList == c.toList) = true
      · have e := eq_of_beq e2
        rw [← e, if_neg e1]
        unfold nmLt at h1 ⊢
        rw [← e]; exact h1
      · rw [if_neg e2] at h2
        unfold nmLt at h1 h2
        have h3 := bl_trans h1 h2
        have e3 : ¬ (a.toList == c.toList) = true := by
          intro e
          rw [eq_of_beq e, less_irr] at h3
          cases h3
        rw [if_neg e3]; exact h3
theorem lessS_tot : ∀ {x y : List ByteArray}, x.length = y.length → lessS x y = false → lessS y x = false → x = y
  | [], [], _, _, _ => rfl
  | [], _ :: _, h, _, _ => by simp at h
  | _ :: _, [], h, _, _ => by simp at h
  | a :: x, b :: y, hl, h1, h2 => by
    rw [lessS] at h1 h2
    cases e : (a.toList == b.toList)
    · have e' : (b.toList == a.toList) = false := by rw [beq_eq_false_iff_ne] at e ⊢; exact fun h => e h.symm
      rw [e, if_neg (by simp)] at h1
      rw [e', if_neg (by simp)] at h2
      have ht := less_tot a.toList b.toList
      unfold nmLt at h1 h2
      rw [h1, h2, e] at ht
      cases ht
    · have e' : (b.toList == a.toList) = true := by rw [eq_of_beq e]; exact beq_self_eq_true _
      rw [e, if_pos rfl] at h1
      rw [e', if_pos rfl] at h2
      have hab : a = b := by
        have h := eq_of_beq e
        rw [bytes_toList, bytes_toList] at h
        cases a; cases b; simp only [ByteArray.mk.injEq]; exact Array.toList_inj.1 h
      rw [hab, lessS_tot (by simpa using hl) h1 h2]
def minS (b c : List ByteArray) : List ByteArray := if lessS c b then c else b
theorem min_len {b d : List ByteArray} (h : d.length = b.length) : (minS b d).length = b.length := by unfold minS; split <;> omega
theorem min_least : ∀ (cs : List (List ByteArray)) (b : List ByteArray), (∀ c ∈ cs, c.length = b.length) → cs.foldl minS b ∈ b :: cs ∧ ∀ c ∈ b :: cs, lessS c (cs.foldl minS b) = false
  | [], b, _ => ⟨by simp, fun c hc => by rw [List.mem_singleton.1 hc]; exact lessS_irr b⟩
  | d :: cs, b, hl => by
    have hd := hl d (List.mem_cons_self ..)
    obtain ⟨h1, h2⟩ := min_least cs (minS b d) (fun c hc => by rw [min_len hd]; exact hl c (List.mem_cons_of_mem _ hc))
    rw [List.foldl_cons]
    constructor
    · rcases List.mem_cons.1 h1 with h | h
      · rw [h]; unfold minS; split <;> simp
      · exact List.mem_cons_of_mem _ (List.mem_cons_of_mem _ h)
    · have hm := h2 (minS b d) (List.mem_cons_self ..)
      have h3 : ∀ c ∈ cs, lessS c (cs.foldl minS (minS b d)) = false := fun c hc => h2 c (List.mem_cons_of_mem _ hc)
      generalize cs.foldl minS (minS b d) = R at hm h3
      have hb : lessS b R = false ∧ lessS d R = false := by
        unfold minS at hm
        cases hdb : lessS d b
        · rw [hdb, if_neg (by simp)] at hm
          refine ⟨hm, ?_⟩
          cases hx : lessS d R
          · rfl
          · cases hbd : lessS b d
            · rw [lessS_tot hd hdb hbd] at hx; rw [hx] at hm; exact hm
            · rw [lessS_trans hbd hx] at hm; exact hm
        · rw [hdb, if_pos rfl] at hm
          refine ⟨?_, hm⟩
          cases hx : lessS b R
          · rfl
          · rw [lessS_trans hdb hx] at hm; exact hm
      intro c hc
      rcases List.mem_cons.1 hc with rfl | hc
      · exact hb.1
      · rcases List.mem_cons.1 hc with rfl | hc
        · exact hb.2
        · exact h3 c hc
/-- Two folds over the same lists, in whatever order, give the same least one. -/
theorem min_same {cs ds : List (List ByteArray)} {b d : List ByteArray} (hc : ∀ c ∈ cs, c.length = b.length) (hd : ∀ c ∈ ds, c.length = d.length) (hbd : b.length = d.length) (h : ∀ x, x ∈ b :: cs ↔ x ∈ d :: ds) : cs.foldl minS b = ds.foldl minS d := by
  obtain ⟨m1, l1⟩ := min_least cs b hc
  obtain ⟨m2, l2⟩ := min_least ds d hd
  have e1 : (cs.foldl minS b).length = b.length := by
    rcases List.mem_cons.1 m1 with h | h
    · rw [h]
    · exact hc _ h
  have e2 : (ds.foldl minS d).length = d.length := by
    rcases List.mem_cons.1 m2 with h | h
    · rw [h]
    · exact hd _ h
  exact lessS_tot (by omega) (l2 _ ((h _).1 m1)) (l1 _ ((h _).2 m2))
end Go.Proofs.Ytpkpahadjdkafaa
