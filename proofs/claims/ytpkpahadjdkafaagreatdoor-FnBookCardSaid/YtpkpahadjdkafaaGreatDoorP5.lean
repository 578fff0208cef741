/- Plain facts: good books. -/
import Derived.Test.YtpkpahadjdkafaaGreatDoorV2
namespace Go.Proofs.YtpkpahadjdkafaaGreatDoor
open Go Go.RowKit
set_option linter.unusedVariables false
set_option linter.unusedSimpArgs false

def dayOk (pre : List Rc) (r : Rc) : Bool := match pre.getLast? with
  | none => true
  | some q => decide (q.day ≤ r.day)
def bookTo : List Rc → List Rc → Bool
  | _, [] => true
  | pre, r :: t => recB r && (dayOk pre r && (!(pre.any (alikeP r.meth r.touch)) && bookTo (pre ++ [r]) t))
def bookB (xs : List Rc) : Bool := decide (xs.length ≤ 20) && bookTo [] xs
theorem book_step {xs : List Rc} {k : Nat} {b : Bool} (hk : k < xs.length) (h : b = bookTo (xs.take k) (xs.drop k)) :
    b = (recB xs[k] && (dayOk (xs.take k) xs[k] && (!((xs.take k).any (alikeP xs[k].meth xs[k].touch)) && bookTo (xs.take (k + 1)) (xs.drop (k + 1))))) := by
  rw [h, List.drop_eq_getElem_cons hk, bookTo, List.take_succ_eq_append_getElem hk]
theorem book_end {xs : List Rc} {k : Nat} {b : Bool} (hk : xs.length ≤ k) (h : b = bookTo (xs.take k) (xs.drop k)) : b = true := by
  rw [h, List.drop_of_length_le hk]; rfl
theorem dayOk_zero {xs : List Rc} (r : Rc) : dayOk (xs.take 0) r = true := rfl
theorem dayOk_succ {xs : List Rc} {k : Nat} (hk : k < xs.length) (r : Rc) : dayOk (xs.take (k + 1)) r = decide (xs[k].day ≤ r.day) := by
  unfold dayOk
  rw [List.take_succ_eq_append_getElem hk, List.getLast?_append]
  simp
theorem alikeP_symm {a b : Rc} : alikeP b.meth b.touch a = alikeP a.meth a.touch b := by
  unfold alikeP
  rw [Bool.eq_iff_iff]
  simp only [Bool.and_eq_true, beq_iff_eq]
  constructor <;> (rintro ⟨h1, h2⟩; exact ⟨h1.symm, h2.symm⟩)
/-- A good book, without the order of the tests. -/
def BookP (xs : List Rc) : Prop := (∀ x ∈ xs, recB x = true) ∧ xs.Pairwise (fun a b => a.day ≤ b.day) ∧ xs.Pairwise (fun a b => alikeP b.meth b.touch a = false)
theorem dayOk_all {pre : List Rc} {r : Rc} (hp : pre.Pairwise (fun a b => a.day ≤ b.day)) : dayOk pre r = true ↔ ∀ a ∈ pre, a.day ≤ r.day := by
  unfold dayOk
  rcases List.eq_nil_or_concat pre with h | ⟨l, q, h⟩
  · subst h; simp
  · subst h
    rw [List.concat_eq_append] at hp ⊢
    rw [List.getLast?_append]
    simp only [List.getLast?_singleton, Option.some_or, decide_eq_true_eq]
    constructor
    · intro hq a ha
      rcases List.mem_append.1 ha with ha | ha
      · have := (List.pairwise_append.1 hp).2.2 a ha q (by simp)
        omega
      · rw [List.mem_singleton.1 ha]; exact hq
    · intro h; exact h q (by simp)
theorem bookTo_iff : ∀ (rest pre : List Rc), BookP pre → (bookTo pre rest = true ↔ BookP (pre ++ rest))
  | [], pre, hp => by rw [List.append_nil]; exact ⟨fun _ => hp, fun _ => rfl⟩
  | r :: t, pre, hp => by
    have e : pre ++ r :: t = (pre ++ [r]) ++ t := by simp
    have key : (recB r = true ∧ dayOk pre r = true ∧ pre.any (alikeP r.meth r.touch) = false) ↔ BookP (pre ++ [r]) := by
      unfold BookP
      rw [dayOk_all hp.2.1, List.any_eq_false]
      constructor
      · rintro ⟨h1, h2, h3⟩
        refine ⟨fun x hx => ?_, List.pairwise_append.2 ⟨hp.2.1, List.pairwise_singleton _ _, fun a ha b hb => ?_⟩, List.pairwise_append.2 ⟨hp.2.2, List.pairwise_singleton _ _, fun a ha b hb => ?_⟩⟩
        · rcases List.mem_append.1 hx with hx | hx
          · exact hp.1 x hx
          · rw [List.mem_singleton.1 hx]; exact h1
        · rw [List.mem_singleton.1 hb]; exact h2 a ha
        · rw [List.mem_singleton.1 hb]; simpa using h3 a ha
      · rintro ⟨h1, h2, h3⟩
        exact ⟨h1 r (by simp), fun a ha => (List.pairwise_append.1 h2).2.2 a ha r (by simp), fun a ha => by rw [(List.pairwise_append.1 h3).2.2 a ha r (by simp)]; simp⟩
    rw [bookTo, e]
    constructor
    · intro h
      simp only [Bool.and_eq_true, Bool.not_eq_true'] at h
      exact (bookTo_iff t (pre ++ [r]) (key.1 ⟨h.1, h.2.1, h.2.2.1⟩)).1 h.2.2.2
    · intro h
      have hk : BookP (pre ++ [r]) := ⟨fun x hx => h.1 x (List.mem_append_left _ hx), (List.pairwise_append.1 h.2.1).1, (List.pairwise_append.1 h.2.2).1⟩
      obtain ⟨h1, h2, h3⟩ := key.2 hk
      rw [h1, h2, h3, (bookTo_iff t _ hk).2 h]; rfl
theorem bookP_nil : BookP [] := ⟨fun x hx => (List.not_mem_nil hx).elim, List.Pairwise.nil, List.Pairwise.nil⟩
theorem bookB_iff (xs : List Rc) : bookB xs = true ↔ xs.length ≤ 20 ∧ BookP xs := by
  unfold bookB
  rw [Bool.and_eq_true, decide_eq_true_eq, bookTo_iff xs [] bookP_nil, List.nil_append]
theorem bookB_good {xs : List Rc} (h : bookB xs = true) {k : Nat} (hk : k < xs.length) : recB xs[k] = true := ((bookB_iff xs).1 h).2.1 _ (List.getElem_mem hk)
end Go.Proofs.YtpkpahadjdkafaaGreatDoor
