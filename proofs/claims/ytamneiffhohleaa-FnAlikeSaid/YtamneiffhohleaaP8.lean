/- Plain facts: an added record is found, a turned one is not added again; a merged book is good. -/
import Derived.Test.YtamneiffhohleaaX3
namespace Go.Proofs.Ytamneiffhohleaa
open Go Go.RowKit
set_option linter.unusedVariables false
set_option linter.unusedSimpArgs false

theorem ix_any (p : Rc → Bool) (xs : List Rc) : decide (0 ≤ ixR p 0 xs) = xs.any p := (any_ixR p xs 0).symm
theorem flB_eq {xs : List Rc} {m t : ByteArray} (hb : bookB xs = true) (ht : goodT t) : flB xs m t = xs.any (alikeP m t) := by
  unfold flB flG
  rw [hb, show touchB t.data.toList = true from ht, ix_any]; rfl
theorem alikeP_self (r : Rc) : alikeP r.meth r.touch r = true := by unfold alikeP; simp
theorem addOx_parts {xs : List Rc} {r : Rc} (h : addOx xs r = true) : bookB xs = true ∧ recB r = true ∧ addO xs r = true ∧ addLx xs r = addL xs r ∧ addFx xs r = addF xs r := by
  have hg : addG xs r = true := by
    unfold addOx at h
    rw [Bool.and_eq_true] at h
    exact h.1
  obtain ⟨h1, h2, h3⟩ := addx_yes hg
  unfold addG at hg
  rw [Bool.and_eq_true] at hg
  rw [h3] at h
  exact ⟨hg.1, hg.2, h, h1, h2⟩
theorem addF_eq {xs : List Rc} {r : Rc} (h : addO xs r = true) : addF xs r = !(hasA xs r) := by
  unfold addO at h
  unfold addF
  cases hh : hasA xs r
  · rw [hh, Bool.false_or] at h; rw [h]; rfl
  · rfl
theorem there_eq {xs : List Rc} {r : Rc} (h : addOx xs r = true) : flB xs r.meth r.touch = !(addFx xs r) := by
  obtain ⟨hb, hr, ho, hL, hF⟩ := addOx_parts h
  rw [flB_eq hb (recB_touch hr), hF, addF_eq ho, Bool.not_not]; rfl
theorem addL_has {xs : List Rc} {r : Rc} (ho : addO xs r = true) : (addL xs r).any (alikeP r.meth r.touch) = true := by
  unfold addL
  cases hh : hasA xs r
  · unfold addO at ho
    rw [hh, Bool.false_or, decide_eq_true_eq] at ho
    rw [if_neg (by decide), if_pos ho, List.any_eq_true]
    exact ⟨r, by unfold insR; simp, alikeP_self r⟩
  · rw [if_pos rfl]; exact hh
theorem now_eq {xs : List Rc} {r : Rc} (h : addOx xs r = true) : flB (addLx xs r) r.meth r.touch = true ∧ bookB (addLx xs r) = true := by
  obtain ⟨hb, hr, ho, hL, hF⟩ := addOx_parts h
  rw [hL]
  have hbk := addL_book hb hr ho
  exact ⟨by rw [flB_eq hbk (recB_touch hr)]; exact addL_has ho, hbk⟩
theorem alikeP_turn (m t : ByteArray) {n : Nat} (hn : n < t.size) (x : Rc) : alikeP m (rotT (revT t) n) x = alikeP m t x := by unfold alikeP; rw [leastB_turned hn]
theorem again_eq {xs : List Rc} {r : Rc} {n : Nat} (h : addOx xs r = true) (hn : n < r.touch.size) :
    addLx (addLx xs r) ⟨r.day, r.meth, rotT (revT r.touch) n, r.rows, r.note⟩ = addLx xs r ∧ addFx (addLx xs r) ⟨r.day, r.meth, rotT (revT r.touch) n, r.rows, r.note⟩ = false ∧ addOx (addLx xs r) ⟨r.day, r.meth, rotT (revT r.touch) n, r.rows, r.note⟩ = true := by
  obtain ⟨hb, hr, ho, hL, hF⟩ := addOx_parts h
  have hbk := (now_eq h).2
  have ht := recB_touch hr
  have hz := touch_size ht
  have ht' : touchB (rotT (revT r.touch) n).data.toList = true := callC_rot (callC_rev ht) (by rw [rev_size hz.1]; omega)
  have hr' : recB ⟨r.day, r.meth, rotT (revT r.touch) n, r.rows, r.note⟩ = true := by
    unfold recB at hr ⊢
    simp only [Bool.and_eq_true] at hr ⊢
    exact ⟨hr.1, hr.2.1, ht', hr.2.2.2⟩
  have hh : hasA (addLx xs r) ⟨r.day, r.meth, rotT (revT r.touch) n, r.rows, r.note⟩ = true := by
    unfold hasA
    rw [show (alikeP (⟨r.day, r.meth, rotT (revT r.touch) n, r.rows, r.note⟩ : Rc).meth (⟨r.day, r.meth, rotT (revT r.touch) n, r.rows, r.note⟩ : Rc).touch) = alikeP r.meth r.touch from funext (alikeP_turn r.meth r.touch hn), hL]
    exact addL_has ho
  obtain ⟨h1, h2, h3⟩ := addx_of hbk hr'
  obtain ⟨a1, a2, a3⟩ := add_has hh
  exact ⟨h1.trans a1, h2.trans a2, h3.trans a3⟩
theorem addL_lens {xs : List Rc} {r : Rc} (hb : bookB xs = true) (ho : addO xs r = true) : xs.length ≤ (addL xs r).length ∧ (addL xs r).length ≤ xs.length + 1 := by
  unfold addL
  cases hh : hasA xs r
  · unfold addO at ho
    rw [hh, Bool.false_or, decide_eq_true_eq] at ho
    rw [if_neg (by decide), if_pos ho, insR_len']; omega
  · rw [if_pos rfl]; omega
theorem mergeO_good : ∀ (b a : List Rc), bookB a = true → (∀ x ∈ b, recB x = true) → ∀ l, mergeO a b = some l → bookB l = true ∧ a.length ≤ l.length ∧ l.length ≤ a.length + b.length
  | [], a, ha, _, l, h => by rw [mergeO] at h; injection h with h; subst h; exact ⟨ha, Nat.le_refl _, by simp⟩
  | r :: t, a, ha, hb, l, h => by
    rw [mergeO] at h
    split at h
    · rename_i ho
      have hr := hb r (List.mem_cons_self ..)
      obtain ⟨h1, h2, h3⟩ := mergeO_good t _ (addL_book ha hr ho) (fun x hx => hb x (List.mem_cons_of_mem _ hx)) l h
      have hl := addL_lens ha ho
      exact ⟨h1, by omega, by simp only [List.length_cons]; omega⟩
    · cases h
theorem mergeM_good {a b l : List Rc} (h : mergeM a b = some l) : bookB l = true ∧ a.length ≤ l.length ∧ l.length ≤ a.length + b.length := by
  unfold mergeM at h
  split at h
  · rename_i hb
    rw [Bool.and_eq_true] at hb
    exact mergeO_good b a hb.1 ((bookB_iff b).1 hb.2).2.1 l h
  · cases h
end Go.Proofs.Ytamneiffhohleaa
