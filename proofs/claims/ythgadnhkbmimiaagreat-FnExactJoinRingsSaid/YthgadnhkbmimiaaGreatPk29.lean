/- Joining rings: a plain account; the sets of a group's rows. -/
import Derived.Test.YthgadnhkbmimiaaGreatPk28
namespace Go.Proofs.YthgadnhkbmimiaaGreat
open Go Go.RowKit
set_option linter.unusedVariables false
set_option linter.unusedSimpArgs false

/-- The first set that makes a count less. -/
def joinF (cnt : List ByteArray → Nat) (S : ByteArray → List ByteArray) (b : List ByteArray) : List ByteArray → Option (List ByteArray)
  | [] => none
  | h :: t => if h ∈ b then joinF cnt S b t else if cnt (addS b (S h)) < cnt b then some (addS b (S h)) else joinF cnt S b t
theorem joinF_in {cnt : List ByteArray → Nat} {S : ByteArray → List ByteArray} {b G : List ByteArray} {k : Nat} (hk : k < G.length) (h : G[k] ∈ b) : joinF cnt S b (G.drop k) = joinF cnt S b (G.drop (k + 1)) := by
  rw [List.drop_eq_getElem_cons hk, joinF, if_pos h]
theorem joinF_yes {cnt : List ByteArray → Nat} {S : ByteArray → List ByteArray} {b G : List ByteArray} {k : Nat} (hk : k < G.length) (h : G[k] ∉ b) (h2 : cnt (addS b (S G[k])) < cnt b) : joinF cnt S b (G.drop k) = some (addS b (S G[k])) := by
  rw [List.drop_eq_getElem_cons hk, joinF, if_neg h, if_pos h2]
theorem joinF_no {cnt : List ByteArray → Nat} {S : ByteArray → List ByteArray} {b G : List ByteArray} {k : Nat} (hk : k < G.length) (h : G[k] ∉ b) (h2 : ¬ cnt (addS b (S G[k])) < cnt b) : joinF cnt S b (G.drop k) = joinF cnt S b (G.drop (k + 1)) := by
  rw [List.drop_eq_getElem_cons hk, joinF, if_neg h, if_neg h2]
theorem joinF_some {cnt : List ByteArray → Nat} {S : ByteArray → List ByteArray} {b m : List ByteArray} : ∀ {G : List ByteArray}, joinF cnt S b G = some m → cnt m < cnt b ∧ ∃ h ∈ G, m = addS b (S h)
  | [], e => by cases e
  | h :: t, e => by
    rw [joinF] at e
    by_cases h1 : h ∈ b
    · rw [if_pos h1] at e
      obtain ⟨h2, x, hx, h3⟩ := joinF_some e
      exact ⟨h2, x, List.mem_cons_of_mem _ hx, h3⟩
    · rw [if_neg h1] at e
      by_cases h2 : cnt (addS b (S h)) < cnt b
      · rw [if_pos h2] at e
        injection e with e
        subst e
        exact ⟨h2, h, List.mem_cons_self .., rfl⟩
      · rw [if_neg h2] at e
        obtain ⟨h2, x, hx, h3⟩ := joinF_some e
        exact ⟨h2, x, List.mem_cons_of_mem _ hx, h3⟩
/-- Sets are joined as long as one makes the count less. -/
def joinL (cnt : List ByteArray → Nat) (S : ByteArray → List ByteArray) (G : List ByteArray) : Nat → List ByteArray → List ByteArray
  | 0, b => b
  | f + 1, b => match joinF cnt S b G with
    | none => b
    | some m => joinL cnt S G f m
theorem joinL_none {cnt : List ByteArray → Nat} {S : ByteArray → List ByteArray} {G b : List ByteArray} (h : joinF cnt S b G = none) (f : Nat) : joinL cnt S G f b = b := by
  cases f with
  | zero => rfl
  | succ f => rw [joinL, h]
theorem joinL_some {cnt : List ByteArray → Nat} {S : ByteArray → List ByteArray} {G b m : List ByteArray} (h : joinF cnt S b G = some m) {f : Nat} (hf : cnt b ≤ f) : ∃ g, cnt m ≤ g ∧ joinL cnt S G f b = joinL cnt S G g m := by
  have h1 := (joinF_some h).1
  obtain ⟨g, rfl⟩ : ∃ g, f = g + 1 := ⟨f - 1, by omega⟩
  exact ⟨g, by omega, by rw [joinL, h]⟩
theorem sl_fun {w : World} {v : Value} {n m : Nat} {xs ys : List Value} (h1 : Sl w 1 v n xs) (h2 : Sl w 1 v m ys) : xs = ys := by
  obtain ⟨A, c, rfl, _, _, r1⟩ := h1
  obtain ⟨A', c', e, _, _, r2⟩ := h2
  injection e with ea eb ec
  subst ea eb ec
  have l1 := r1.1
  have l2 := r2.1
  rcases Nat.eq_zero_or_pos n with h0 | h0
  · subst h0
    have e1 : xs = [] := List.eq_nil_of_length_eq_zero (by simpa using l1)
    have e2 : ys = [] := List.eq_nil_of_length_eq_zero (by simpa using l2)
    rw [e1, e2]
  · obtain ⟨ad, ea, _, c1⟩ := r1.2 h0
    obtain ⟨ad', ea', _, c2⟩ := r2.2 h0
    rw [ea] at ea'
    cases ea'
    apply List.ext_getElem (by omega)
    intro i h3 h4
    have a1 := c1 i _ (List.getElem?_eq_getElem h3)
    have a2 := c2 i _ (List.getElem?_eq_getElem h4)
    rw [a1] at a2
    injection a2
theorem strs_fun {w : World} {v : Value} {a b : List ByteArray} (h1 : Strs w v a) (h2 : Strs w v b) : a = b := by
  have h := sl_fun h1 h2
  exact (List.map_inj_right (fun x y e => by injection e)).1 h
theorem meas_eq {cnt : List ByteArray → Nat} {w : World} {v : Value} {b : List ByteArray} (h : Strs w v b) : Classical.epsilon (fun z : Nat => ∃ b, Strs w v b ∧ z = cnt b) = cnt b := by
  obtain ⟨b', h1, h2⟩ := Classical.epsilon_spec (p := fun z : Nat => ∃ b, Strs w v b ∧ z = cnt b) ⟨_, b, h, rfl⟩
  rw [h2, strs_fun h1 h]

/-- A good set of bobs of a group. -/
def BG (G bobs : List ByteArray) (Q : ByteArray) : Prop := InG G bobs ∧ goodQ bobs Q
theorem BG.nil (G : List ByteArray) (Q : ByteArray) : BG G [] Q := ⟨InG.nil G, good_nil Q⟩
/-- A set closed under products with a row is closed under products with its powers. -/
theorem closed_pow {n : Nat} (hn : n ≤ 8) {F : List ByteArray} {A : ByteArray} (hA : RowIn n A) (hr : ∀ y ∈ F, RowIn n y) (hF : ∀ y ∈ F, timesB y A ∈ F) : ∀ j, ∀ y ∈ F, timesB y (powB n A j) ∈ F
  | 0, y, hy => by
    show timesB y (roundsB n) ∈ F
    rw [times_rounds hn (hr y hy)]; exact hy
  | j + 1, y, hy => by
    show timesB y (timesB (powB n A j) A) ∈ F
    rw [← times_assoc y (pow_in hn hA j) hA]
    exact hF _ (closed_pow hn hA hr hF j y hy)
theorem bk_setIn {m : Mt} {k : Cl} {n T : Nat} {P B B' Q : ByteArray} (h : BK m k n T P B B' Q) {K : Nat} {x : ByteArray} (hx : x ∈ cloB n [P, B] T) : ∀ g ∈ setB n Q x K, g ∈ cloB n [P, B] T := by
  have hn := h.hn
  obtain ⟨a1, _, _⟩ := bk_all h
  have cP : ∀ y ∈ cloB n [P, B] T, timesB y P ∈ cloB n [P, B] T := fun y hy => clo_closed h.clo hy (by simp)
  have cB : ∀ y ∈ cloB n [P, B] T, timesB y B ∈ cloB n [P, B] T := fun y hy => clo_closed h.clo hy (by simp)
  obtain ⟨F, hF⟩ : ∃ F, F = cloB n [P, B] T := ⟨_, rfl⟩
  rw [← hF] at a1 cP cB hx ⊢
  obtain ⟨KB, _, hKB⟩ := ord_ex hn h.invB
  obtain ⟨J, rfl⟩ : ∃ J, KB = J + 1 := ⟨KB - 1, by have := hKB.1; omega⟩
  have hB' : B' = powB n B J := by
    apply h.invB.cancel hn h.inv.hb (pow_in hn h.invB.1 J)
    rw [h.inv.ba]
    exact hKB.2.1.symm
  have cQ : ∀ y ∈ F, timesB y Q ∈ F := fun y hy => by
    rw [h.hQ, ← times_assoc y h.invP.1 h.inv.hb, hB']
    exact closed_pow hn h.invB.1 a1 cB J _ (cP y hy)
  intro g hg
  unfold setB powL at hg
  rw [List.map_map] at hg
  obtain ⟨j, _, rfl⟩ := List.mem_map.1 hg
  exact closed_pow hn h.invQ.1 a1 cQ j x hx
theorem bg_add {m : Mt} {k : Cl} {n T : Nat} {P B B' Q : ByteArray} (h : BK m k n T P B B' Q) {K : Nat} (hK : IsOrd n Q K) {bobs : List ByteArray} {x : ByteArray} (hx : x ∈ sortB (cloB n [P, B] T)) (hb : BG (sortB (cloB n [P, B] T)) bobs Q) : BG (sortB (cloB n [P, B] T)) (addS bobs (sortB (setB n Q x K))) Q := by
  obtain ⟨h1, h2⟩ := hb
  have ha := addS_ok (sortB (setB n Q x K)) h1.2.sorted h1.2.nodup
  have hi := (bk_all h).2.2 x ((sortB_mem _ _).1 hx)
  refine ⟨⟨fun g hg => ?_, rise_of ha.1 ha.2.1⟩, addS_good h.hn h.invQ hK hi.1 h1.2.sorted h1.2.nodup h2⟩
  rcases (ha.2.2 g).1 hg with hg | hg
  · exact h1.1 g hg
  · exact (sortB_mem _ _).2 (bk_setIn h ((sortB_mem _ _).1 hx) g ((sortB_mem _ _).1 hg))
/-- All sets of bobs have their rings. -/
theorem cx_all {m : Mt} {k : Cl} {n T : Nat} {P B B' Q : ByteArray} (h : BK m k n T P B B' Q) (hF : (cloB n [P, B] T).length ≤ 130) : ∃ (RR : List ByteArray → ByteArray → Nat) (K : Nat), IsOrd n Q K ∧ K ≤ 16777216 ∧ ∀ bobs, goodQ bobs Q → CX n P B Q bobs (sortB (cloB n [P, B] T)) (RR bobs) K := by
  obtain ⟨K, hKb, hK⟩ := ord_ex h.hn h.invQ
  have hex : ∀ bobs : List ByteArray, ∃ R : ByteArray → Nat, goodQ bobs Q → CX n P B Q bobs (sortB (cloB n [P, B] T)) R K := fun bobs => by
    by_cases hg : goodQ bobs Q
    · obtain ⟨R, K', hx⟩ := cx_of h hF hg
      refine ⟨R, fun _ => { hx with ord := hK, kb := hKb }⟩
    · exact ⟨fun _ => 0, fun h => absurd h hg⟩
  obtain ⟨RR, hRR⟩ := Classical.axiomOfChoice hex
  exact ⟨RR, K, hK, hKb, hRR⟩
end Go.Proofs.YthgadnhkbmimiaaGreat
