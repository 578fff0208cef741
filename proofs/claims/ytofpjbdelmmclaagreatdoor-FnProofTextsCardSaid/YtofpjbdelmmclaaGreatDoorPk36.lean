/- Sets of bobs and the parity of the number of rings; a set is the set of each of its rows: a plain account. -/
import Derived.Test.YtofpjbdelmmclaaGreatDoorPk33
import Derived.Test.YtofpjbdelmmclaaGreatDoorPk20
import Derived.Test.YtofpjbdelmmclaaGreatDoorPk35
namespace Go.Proofs.YtofpjbdelmmclaaGreatDoor
open Go Go.RowKit
set_option linter.unusedVariables false
set_option linter.unusedSimpArgs false

theorem setB_mem {n : Nat} {Q h x : ByteArray} {K : Nat} : x ∈ setB n Q h K ↔ ∃ j, j < K ∧ x = timesB h (powB n Q j) := by
  unfold setB powL
  rw [List.map_map, List.mem_map]
  constructor
  · rintro ⟨j, hj, rfl⟩; exact ⟨j, List.mem_range.1 hj, rfl⟩
  · rintro ⟨j, hj, rfl⟩; exact ⟨j, List.mem_range.2 hj, rfl⟩
theorem set_step {n : Nat} {Q h : ByteArray} (hQ : RowIn n Q) (hn : n ≤ 8) (j : Nat) : timesB (timesB h (powB n Q j)) Q = timesB h (powB n Q (j + 1)) := times_assoc h (pow_in hn hQ j) hQ
theorem setB_closed {n : Nat} {Q h : ByteArray} {K : Nat} (hn : n ≤ 8) (hQ : RowIn n Q) (hh : RowIn n h) (hK : IsOrd n Q K) : ∀ x ∈ setB n Q h K, timesB x Q ∈ setB n Q h K := by
  intro x hx
  obtain ⟨j, hj, rfl⟩ := setB_mem.1 hx
  rw [set_step hQ hn]
  rcases Nat.lt_or_ge (j + 1) K with h1 | h1
  · exact setB_mem.2 ⟨j + 1, h1, rfl⟩
  · obtain rfl : K = j + 1 := by omega
    refine setB_mem.2 ⟨0, by omega, ?_⟩
    rw [hK.2.1]
    rfl
theorem setB_self {n : Nat} {Q h : ByteArray} {K : Nat} (hn : n ≤ 8) (hh : RowIn n h) (hK : IsOrd n Q K) : h ∈ setB n Q h K :=
  setB_mem.2 ⟨0, by have := hK.1; omega, (times_rounds hn hh).symm⟩
theorem setB_rows {n : Nat} {Q h : ByteArray} {K : Nat} (hn : n ≤ 8) (hQ : Inv n Q) (hh : Inv n h) : ∀ x ∈ setB n Q h K, Inv n x := by
  intro x hx
  obtain ⟨j, hj, rfl⟩ := setB_mem.1 hx
  exact hh.times hn (pow_inv hn hQ j)
/-- A set is the set of each of its rows. -/
theorem set_same {n : Nat} {Q h x : ByteArray} {K : Nat} (hn : n ≤ 8) (hQ : Inv n Q) (hh : Inv n h) (hK : IsOrd n Q K) (hx : x ∈ setB n Q h K) : sortB (setB n Q x K) = sortB (setB n Q h K) := by
  have hxi := setB_rows hn hQ hh x hx
  have d1 := set_nodup hn hQ hh hK K (Nat.le_refl _)
  have d2 := set_nodup hn hQ hxi hK K (Nat.le_refl _)
  have sub : ∀ y ∈ setB n Q x K, y ∈ setB n Q h K := by
    intro y hy
    obtain ⟨j, _, rfl⟩ := setB_mem.1 hy
    exact closed_pow hn hQ.1 (fun y hy => (setB_rows hn hQ hh y hy).1) (setB_closed hn hQ.1 hh.1 hK) j x hx
  refine sorted_ext (sortB_sorted _) (sortB_nodup d2) (sortB_sorted _) (sortB_nodup d1) (fun y => ?_)
  rw [sortB_mem, sortB_mem]
  refine ⟨sub y, fun hy => ?_⟩
  apply Classical.byContradiction
  intro hny
  have := nodup_le (y :: setB n Q x K) (setB n Q h K) (List.nodup_cons.2 ⟨hny, d2⟩) (fun z hz => by
    rcases List.mem_cons.1 hz with rfl | hz
    · exact hy
    · exact sub z hz)
  rw [List.length_cons, setB_len, setB_len] at this
  omega
theorem bk_perm {m : Mt} {k : Cl} {n T : Nat} {P B B' Q : ByteArray} (h : BK m k n T P B B' Q) {bobs : List ByteArray} (hg : goodQ bobs Q) : PermF (cloB n [P, B] T) (nxB bobs P B) := by
  obtain ⟨a1, _, _⟩ := bk_all h
  refine ⟨fun x hx => ?_, fun x hx y hy e => nx_inj h.hn h.invP h.invB h.inv.hb h.inv.ab h.hQ h.invQ hg (a1 x hx) (a1 y hy) e⟩
  unfold nxB
  split
  · exact clo_closed h.clo hx (by simp)
  · exact clo_closed h.clo hx (by simp)
theorem PermF.of_mem {l l' : List ByteArray} {f : ByteArray → ByteArray} (h : PermF l f) (hm : ∀ x, x ∈ l' ↔ x ∈ l) : PermF l' f :=
  ⟨fun x hx => (hm _).2 (h.1 x ((hm x).1 hx)), fun x hx y hy e => h.2 x ((hm x).1 hx) y ((hm y).1 hy) e⟩
/-- The plain head of a bobbed one. -/
theorem bk_qb {m : Mt} {k : Cl} {n T : Nat} {P B B' Q : ByteArray} (h : BK m k n T P B B' Q) : timesB Q B = P := by
  rw [h.hQ, times_assoc P h.inv.hb h.invB.1, h.inv.ba, times_rounds h.hn h.invP.1]
theorem bk_one {m : Mt} {k : Cl} {n T : Nat} {P B B' Q : ByteArray} (h : BK m k n T P B B' Q) (hK : IsOrd n Q 1) : P = B := by
  have e := hK.2.1
  rw [pow_one h.hn h.invQ.1] at e
  rw [← bk_qb h, e, rounds_times h.hn h.invB.1]
theorem sets_parity {m : Mt} {k : Cl} {n T : Nat} {P B B' Q : ByteArray} (h : BK m k n T P B B' Q) {K : Nat} (hK : IsOrd n Q K) {L : List ByteArray} (hd : L.Nodup) (hL : ∀ x, x ∈ L ↔ x ∈ cloB n [P, B] T) :
    ∀ (N : Nat) (bobs : List ByteArray), bobs.length ≤ N → bobs.Nodup → (∀ x ∈ bobs, x ∈ cloB n [P, B] T) → goodQ bobs Q →
      ∃ s, bobs.length = s * K ∧ (cycN L (nxB bobs P B) + cycN L (nxB [] P B)) % 2 = (s * (K - 1)) % 2 := by
  have hn := h.hn
  obtain ⟨a1, _, a3⟩ := bk_all h
  intro N
  induction N with
  | zero =>
    intro bobs hN _ _ _
    obtain rfl : bobs = [] := List.length_eq_zero_iff.1 (by omega)
    exact ⟨0, by simp, by omega⟩
  | succ N ih =>
    intro bobs hN hbd hbm hbq
    cases hbe : bobs with
    | nil => exact ⟨0, by simp, by omega⟩
    | cons x0 t =>
      rw [← hbe]
      have hx0 : x0 ∈ bobs := by rw [hbe]; exact List.mem_cons_self ..
      have hi0 := a3 x0 (hbm x0 hx0)
      obtain ⟨S, hS⟩ : ∃ S, S = setB n Q x0 K := ⟨_, rfl⟩
      have hSd : S.Nodup := by rw [hS]; exact set_nodup hn h.invQ hi0 hK K (Nat.le_refl _)
      have hSl : S.length = K := by rw [hS, setB_len]
      have hSi : ∀ x ∈ S, Inv n x := fun x hx => setB_rows hn h.invQ hi0 x (by rw [← hS]; exact hx)
      have hSb : ∀ x ∈ S, x ∈ bobs := fun x hx => by
        rw [hS] at hx
        obtain ⟨j, _, rfl⟩ := setB_mem.1 hx
        exact good_pow hn h.invQ.1 hbq hi0.1 hx0 j
      have hSc : ∀ x ∈ S, timesB x Q ∈ S := fun x hx => by rw [hS] at hx ⊢; exact setB_closed hn h.invQ.1 hi0.1 hK x hx
      obtain ⟨b2, hb2⟩ : ∃ b2, b2 = bobs.filter (fun x => decide (x ∉ S)) := ⟨_, rfl⟩
      have hm2 : ∀ x, x ∈ b2 ↔ x ∈ bobs ∧ x ∉ S := fun x => by rw [hb2, List.mem_filter]; simp
      have hl2 : bobs.length = b2.length + K := by
        have hd2 : (b2 ++ S).Nodup := by
          rw [List.nodup_append]
          refine ⟨by rw [hb2]; exact hbd.filter _, hSd, fun a ha b hb e => ?_⟩
          rw [e] at ha
          exact ((hm2 b).1 ha).2 hb
        have l1 := nodup_le _ bobs hd2 (fun x hx => by
          rcases List.mem_append.1 hx with hx | hx
          · exact ((hm2 x).1 hx).1
          · exact hSb x hx)
        have l2 := nodup_le _ (b2 ++ S) hbd (fun x hx => by
          by_cases hs : x ∈ S
          · exact List.mem_append_right _ hs
          · exact List.mem_append_left _ ((hm2 x).2 ⟨hx, hs⟩))
        rw [List.length_append, hSl] at l1 l2
        omega
      have hq2 : goodQ b2 Q := fun x hx => by
        obtain ⟨h1, h2⟩ := (hm2 x).1 hx
        refine (hm2 _).2 ⟨hbq x h1, fun hs => h2 ?_⟩
        have hxr := a1 x (hbm x h1)
        rw [hS] at hs
        obtain ⟨j, hj, e⟩ := setB_mem.1 hs
        have hK1 := hK.1
        cases j with
        | zero =>
          have e2 : timesB (timesB x0 (powB n Q (K - 1))) Q = timesB x Q := by
            rw [set_step h.invQ.1 hn, show K - 1 + 1 = K by omega, hK.2.1, e]; rfl
          rw [hS, ← h.invQ.cancel hn (hSi _ (by rw [hS]; exact setB_mem.2 ⟨K - 1, by omega, rfl⟩)).1 hxr e2]
          exact setB_mem.2 ⟨K - 1, by omega, rfl⟩
        | succ j =>
          rw [← set_step h.invQ.1 hn] at e
          rw [hS, h.invQ.cancel hn hxr (hSi _ (by rw [hS]; exact setB_mem.2 ⟨j, by omega, rfl⟩)).1 e]
          exact setB_mem.2 ⟨j, by omega, rfl⟩
      obtain ⟨s, hs1, hs2⟩ := ih b2 (by have := hK.1; omega) (by rw [hb2]; exact hbd.filter _) (fun x hx => hbm x ((hm2 x).1 hx).1) hq2
      have hcS : ∀ i, i < K → timesB x0 (powB n Q i) ∈ S := fun i hi => by rw [hS]; exact setB_mem.2 ⟨i, hi, rfl⟩
      have hturn := cyc_turn hd (f := nxB b2 P B) (c := fun i => timesB x0 (powB n Q i)) (K - 1) (nxB bobs P B) ((bk_perm h hbq).of_mem hL)
        (fun i hi => (hL _).2 (hbm _ (hSb _ (hcS i (by have := hK.1; omega)))))
        (fun i j hij hj e => by
          have e2 := hi0.cancel_left hn (pow_in hn h.invQ.1 i) (pow_in hn h.invQ.1 j) e
          exact pow_diff hn h.invQ hK hij (by have := hK.1; omega) e2)
        (by
          have m1 : timesB x0 (powB n Q 0) ∈ bobs := hSb _ (hcS 0 (by have := hK.1; omega))
          have m2 : timesB x0 (powB n Q (K - 1)) ∉ b2 := fun hm => ((hm2 _).1 hm).2 (hcS (K - 1) (by have := hK.1; omega))
          show nxB bobs P B (timesB x0 (powB n Q 0)) = nxB b2 P B (timesB x0 (powB n Q (K - 1)))
          unfold nxB
          rw [if_pos m1, if_neg m2, ← bk_qb h, ← times_assoc _ h.invQ.1 h.invB.1, set_step h.invQ.1 hn, show K - 1 + 1 = K by have := hK.1; omega, hK.2.1]
          rfl)
        (fun i hi => by
          have m1 : timesB x0 (powB n Q (i + 1)) ∈ bobs := hSb _ (hcS (i + 1) (by omega))
          have m2 : timesB x0 (powB n Q i) ∉ b2 := fun hm => ((hm2 _).1 hm).2 (hcS i (by omega))
          show nxB bobs P B (timesB x0 (powB n Q (i + 1))) = nxB b2 P B (timesB x0 (powB n Q i))
          unfold nxB
          rw [if_pos m1, if_neg m2, ← bk_qb h, ← times_assoc _ h.invQ.1 h.invB.1, set_step h.invQ.1 hn])
        (fun x hx hxn => by
          have hxS : x ∉ S := fun hm => by
            rw [hS] at hm
            obtain ⟨j, hj, e⟩ := setB_mem.1 hm
            exact hxn j (by omega) e
          unfold nxB
          by_cases hb : x ∈ bobs
          · rw [if_pos hb, if_pos ((hm2 x).2 ⟨hb, hxS⟩)]
          · rw [if_neg hb, if_neg (fun hm => hb ((hm2 x).1 hm).1)])
      refine ⟨s + 1, by rw [hl2, hs1, Nat.succ_mul], ?_⟩
      rw [Nat.succ_mul]
      omega
/-- The parity of the number of rings. -/
theorem rings_sign {m : Mt} {k : Cl} {n T : Nat} {P B B' Q : ByteArray} (h : BK m k n T P B B' Q) {K : Nat} {bobs : List ByteArray} {RR RR0 : ByteArray → Nat} (hX : CX n P B Q bobs (sortB (cloB n [P, B] T)) RR K) (hX0 : CX n P B Q [] (sortB (cloB n [P, B] T)) RR0 K) (hbg : BG (sortB (cloB n [P, B] T)) bobs Q) :
    ∃ s, bobs.length = s * K ∧ ((rgs (nxB bobs P B) RR (sortB (cloB n [P, B] T)) []).length + (rgs (nxB [] P B) RR0 (sortB (cloB n [P, B] T)) []).length) % 2 = (s * (K - 1)) % 2 ∧
      (K = 1 → (rgs (nxB bobs P B) RR (sortB (cloB n [P, B] T)) []).length = (rgs (nxB [] P B) RR0 (sortB (cloB n [P, B] T)) []).length) := by
  have hGd : (sortB (cloB n [P, B] T)).Nodup := sortB_nodup (clo_nodup n [P, B] T)
  have hGm : ∀ x, x ∈ sortB (cloB n [P, B] T) ↔ x ∈ cloB n [P, B] T := fun x => sortB_mem _ x
  have e1 := rgs_cyc hGd ((bk_perm h hbg.2).of_mem hGm) (fun x hx => (hX.hRR x hx).1)
  have e2 := rgs_cyc hGd ((bk_perm h (good_nil Q)).of_mem hGm) (fun x hx => (hX0.hRR x hx).1)
  obtain ⟨s, h1, h2⟩ := sets_parity h hX.ord ((List.reverse_perm _).nodup_iff.2 hGd) (fun x => by rw [List.mem_reverse]; exact hGm x) bobs.length bobs (Nat.le_refl _) hbg.1.2.nodup (fun x hx => (hGm x).1 (hbg.1.1 x hx)) hbg.2
  refine ⟨s, h1, by rw [e1, e2]; exact h2, fun hK1 => ?_⟩
  have hPB := bk_one h (by have := hX.ord; rw [hK1] at this; exact this)
  rw [e1, e2]
  refine cyc_congr _ _ _ (fun x _ => ?_)
  unfold nxB
  rw [hPB]
  split <;> split <;> rfl
end Go.Proofs.YtofpjbdelmmclaaGreatDoor

/- NextHead, LeadGroup, SetRow, GoodBobs on both sides. (Printed by a program: tools/mkBA.py.) -/
namespace Go.Proofs.YtofpjbdelmmclaaGreatDoor
open Go Go.RowKit
set_option linter.unusedVariables false
set_option linter.unusedSimpArgs false

/-- What NextHead answers. -/
def nextO (G bobs : List ByteArray) (P B r : ByteArray) : ByteArray := if r ∈ G then nxB bobs P B r else ⟨#[]⟩
end Go.Proofs.YtofpjbdelmmclaaGreatDoor

/- The touch along a ring comes round; where joining rings ends: a plain account. -/
namespace Go.Proofs.YtofpjbdelmmclaaGreatDoor
open Go Go.RowKit
set_option linter.unusedVariables false
set_option linter.unusedSimpArgs false

/-- The calls along a ring. -/
def ringT (f : ByteArray → ByteArray) (bobs : List ByteArray) (h : ByteArray) (R : Nat) : List UInt8 := (ringL f h R).map (fun x => if x ∈ bobs then 98 else 112)
theorem ringT_len (f : ByteArray → ByteArray) (bobs : List ByteArray) (h : ByteArray) (R : Nat) : (ringT f bobs h R).length = R := by unfold ringT; rw [List.length_map, ringL_len]
theorem ringT_get {f : ByteArray → ByteArray} {bobs : List ByteArray} {h : ByteArray} {R j : Nat} (hj : j < (ringT f bobs h R).length) : (ringT f bobs h R)[j] = if iterB f h j ∈ bobs then 98 else 112 := by
  unfold ringT ringL; simp
theorem ringT_call (f : ByteArray → ByteArray) (bobs : List ByteArray) (h : ByteArray) {R : Nat} (h1 : 1 ≤ R) (h2 : R ≤ 60) : touchB (ringT f bobs h R) = true := by
  unfold touchB
  rw [ringT_len, Bool.and_eq_true]
  refine ⟨?_, decide_eq_true ⟨h1, h2⟩⟩
  rw [List.all_eq_true]
  intro c hc
  unfold ringT at hc
  obtain ⟨x, _, rfl⟩ := List.mem_map.1 hc
  split <;> decide
theorem ringT_prod {n : Nat} (hn : n ≤ 8) {F : UInt8 → ByteArray} {bobs : List ByteArray} {P B h : ByteArray} {R : Nat} (hP : F 112 = P) (hB : F 98 = B) (hF : ∀ c, RowIn n (F c)) (hit : ∀ j, RowIn n (iterB (nxB bobs P B) h j)) :
    ∀ j, j ≤ R → timesB h (endB F (roundsB n) ((ringT (nxB bobs P B) bobs h R).take j)) = iterB (nxB bobs P B) h j
  | 0, _ => by
    show timesB h (roundsB n) = h
    exact times_rounds hn (hit 0)
  | j + 1, hj => by
    have ih := ringT_prod hn hP hB hF hit j (R := R) (by omega)
    have hl : j < (ringT (nxB bobs P B) bobs h R).length := by rw [ringT_len]; omega
    rw [end_take hl, ← times_assoc h (end_in hF _ (rounds_in hn)) (hF _), ih, ringT_get hl]
    show _ = nxB bobs P B (iterB (nxB bobs P B) h j)
    generalize iterB (nxB bobs P B) h j = x
    unfold nxB
    split
    · rw [hB]
    · rw [hP]
theorem ringT_round {n : Nat} (hn : n ≤ 8) {F : UInt8 → ByteArray} {bobs : List ByteArray} {P B h : ByteArray} {R : Nat} (hP : F 112 = P) (hB : F 98 = B) (hF : ∀ c, RowIn n (F c)) (hit : ∀ j, RowIn n (iterB (nxB bobs P B) h j)) (hh : Inv n h) (hR : IsRing (nxB bobs P B) h R) :
    endB F (roundsB n) (ringT (nxB bobs P B) bobs h R) = roundsB n := by
  have e := ringT_prod hn hP hB hF hit R (Nat.le_refl R)
  rw [List.take_of_length_le (by rw [ringT_len]; exact Nat.le_refl _), hR.2.1] at e
  exact hh.cancel_left hn (end_in hF _ (rounds_in hn)) (rounds_in hn) (by rw [e, times_rounds hn hh.1])
theorem joinF_none {cnt : List ByteArray → Nat} {S : ByteArray → List ByteArray} {b : List ByteArray} : ∀ {G : List ByteArray}, joinF cnt S b G = none → ∀ h ∈ G, h ∉ b → cnt b ≤ cnt (addS b (S h))
  | [], _, h, hh, _ => by cases hh
  | x :: t, e, h, hh, hb => by
    rw [joinF] at e
    by_cases h1 : x ∈ b
    · rw [if_pos h1] at e
      rcases List.mem_cons.1 hh with rfl | hh
      · exact absurd h1 hb
      · exact joinF_none e h hh hb
    · rw [if_neg h1] at e
      by_cases h2 : cnt (addS b (S x)) < cnt b
      · rw [if_pos h2] at e; cases e
      · rw [if_neg h2] at e
        rcases List.mem_cons.1 hh with rfl | hh
        · omega
        · exact joinF_none e h hh hb
/-- Where joining ends: no set makes the count less. -/
theorem joinL_end {Ok : List ByteArray → Prop} {cnt : List ByteArray → Nat} {S : ByteArray → List ByteArray} {G : List ByteArray} (hA : ∀ b, Ok b → ∀ x ∈ G, Ok (addS b (S x))) : ∀ (f : Nat) (b : List ByteArray), cnt b ≤ f → Ok b →
    joinF cnt S (joinL cnt S G f b) G = none ∧ cnt (joinL cnt S G f b) ≤ cnt b ∧ Ok (joinL cnt S G f b)
  | 0, b, hf, hb => by
    rw [joinL]
    refine ⟨?_, Nat.le_refl _, hb⟩
    cases e : joinF cnt S b G with
    | none => rfl
    | some m => have := (joinF_some e).1; omega
  | f + 1, b, hf, hb => by
    cases e : joinF cnt S b G with
    | none => rw [joinL, e]; exact ⟨e, Nat.le_refl _, hb⟩
    | some m =>
      obtain ⟨h1, x, hx, rfl⟩ := joinF_some e
      have ih := joinL_end hA f _ (show cnt (addS b (S x)) ≤ f by omega) (hA b hb x hx)
      have ej : joinL cnt S G (f + 1) b = joinL cnt S G f (addS b (S x)) := by rw [joinL, e]
      rw [ej]
      exact ⟨ih.1, by have := ih.2.1; omega, ih.2.2⟩
end Go.Proofs.YtofpjbdelmmclaaGreatDoor

/- RingTouchOf on both sides. (Printed by a program: tools/mkBR.py.) -/
namespace Go.Proofs.YtofpjbdelmmclaaGreatDoor
open Go Go.RowKit
set_option linter.unusedVariables false
set_option linter.unusedSimpArgs false

/-- What RingTouchOf answers. -/
def rtB (G : List ByteArray) (r : ByteArray) (R : Nat) : Bool := decide (r ∈ G) && decide (R ≤ 60)
def rtO (G : List ByteArray) (f : ByteArray → ByteArray) (bobs : List ByteArray) (r : ByteArray) (R : Nat) : ByteArray := if rtB G r R then ⟨(ringT f bobs r R).toArray⟩ else ⟨#[]⟩
def rtA (f : ByteArray → ByteArray) (bobs : List ByteArray) (r : ByteArray) (R j : Nat) : ByteArray := ⟨((ringT f bobs r R).take j).toArray⟩
theorem rtA_zero (f : ByteArray → ByteArray) (bobs : List ByteArray) (r : ByteArray) (R : Nat) : rtA f bobs r R 0 = ⟨#[]⟩ := by unfold rtA; simp
theorem rtA_size (f : ByteArray → ByteArray) (bobs : List ByteArray) (r : ByteArray) (R j : Nat) : (rtA f bobs r R j).size ≤ j := by
  show (((ringT f bobs r R).take j).toArray).size ≤ j
  simp; omega
theorem rtA_succ (f : ByteArray → ByteArray) (bobs : List ByteArray) (r : ByteArray) {R j : Nat} (hj : j < R) : rtA f bobs r R (j + 1) = rtA f bobs r R j ++ (if iterB f r j ∈ bobs then ⟨#[98]⟩ else ⟨#[112]⟩) := by
  have hl : j < (ringT f bobs r R).length := by rw [ringT_len]; exact hj
  unfold rtA
  rw [List.take_succ_eq_append_getElem hl, ringT_get hl]
  apply ByteArray.ext
  rw [ByteArray.data_append]
  split <;> simp
theorem rtA_all (f : ByteArray → ByteArray) (bobs : List ByteArray) (r : ByteArray) (R : Nat) : rtA f bobs r R R = ⟨(ringT f bobs r R).toArray⟩ := by
  unfold rtA
  rw [List.take_of_length_le (by rw [ringT_len]; exact Nat.le_refl _)]
theorem ringL_get {f : ByteArray → ByteArray} {h : ByteArray} {R j : Nat} (hj : j < (ringL f h R).length) : (ringL f h R)[j] = iterB f h j := by
  have h2 : (ringL f h R)[j]? = some (iterB f h j) := by
    have h3 : j < R := by rw [← ringL_len f h R]; exact hj
    unfold ringL
    rw [List.getElem?_map, List.getElem?_range h3]
    rfl
  exact Option.some.inj ((List.getElem?_eq_getElem hj).symm.trans h2)
theorem ring_el {w : World} {B tt : Nat} {A : Option Addr} {f : ByteArray → ByteArray} {h : ByteArray} {R q : Nat} (ho : w.ownsRow B tt 1 (.slice A R q) R ((ringL f h R).map Value.string)) : ∀ j, j < R → ∃ ad, A = some ad ∧ w.cell? (ad.add j) = some (.string (iterB f h j)) := by
  intro j hj
  have hl := ringL_len f h R
  have hS : Strs w (.slice A R q) (ringL f h R) := by
    have h2 := strs_of_own (zs := ringL f h R) (by rw [hl]; exact ho)
    first | exact h2 | (rw [hl] at h2; exact h2)
  obtain ⟨A6, q6, e6, _, _, hrd⟩ := hS
  injection e6 with ea eb ec
  subst ea
  have hj2 : j < (ringL f h R).length := by rw [hl]; exact hj
  obtain ⟨ad, e, hc⟩ := strs_el hrd hj2
  refine ⟨ad, e, ?_⟩
  rw [hc w (Below.refl _ _), ringL_get]
set_option maxHeartbeats 2000000 in
theorem specRingTouchOf_no (m : Mt) (v : Value) (k : Cl) (Vb : Value) (bobs : List ByteArray) (r : ByteArray) (w : World) (hb : BadBob m k bobs) (hm : MethAt w m v) (hs : MtSmall m) (hk : ClSmall k) (hV : Strs w Vb bobs) (hbl : bobs.length ≤ 100000000) : Calls Tryz.prog 139 #[m.v v, k.v, Vb, .string r] w fun e w' => e = .returned (.tuple #[.string ⟨#[]⟩, .bool false]) ∧ Below w.heap.size w w' := by
  have Hnb := Lib.hid (fun W (hW : Below w.heap.size w W) => l17Bobs_bad m v k Vb bobs W hb (hm.to hW) hs hk (hV.to hW) hbl)
  obtain ⟨Ab, cb, rfl⟩ : ∃ A c, Vb = .slice A bobs.length c := by obtain ⟨A, c, e, _⟩ := hV; exact ⟨A, c, e⟩
  obtain ⟨A, q, hv⟩ := hm.form
  subst hv
  unfold Mt.v Cl.v at *
  clear hm hb hV
  go_enter Tryz.func139, Tryz.ntmps139
  go_wp2_with fail
  refine box2 (C := fun W => Calls _ _ _ W _) ?_
  intro wb hw k1 k2 hB0
  clear k1 k2
  refine (Hnb.out _ hw).mono ?_; rintro e w1 ⟨a, b, d, A1, l1, q1, rfl, hb1⟩
  go_wp2_with fail
  go_ret2
  exact ⟨rfl, bw_al (bw_to hw hb1) _⟩
set_option maxRecDepth 100000 in
set_option maxHeartbeats 4000000 in
theorem specRingTouchOf_yes (m : Mt) (v : Value) (k : Cl) (Vb : Value) (n T K : Nat) (P B B' Q r : ByteArray) (RR : ByteArray → Nat) (bobs : List ByteArray) (w : World) (hK : BK m k n T P B B' Q) (hF : (cloB n [P, B] T).length ≤ 130) (hbg : BG (sortB (cloB n [P, B] T)) bobs Q) (hX : CX n P B Q bobs (sortB (cloB n [P, B] T)) RR K) (hm : MethAt w m v) (hs : MtSmall m) (hk : ClSmall k) (hV : Strs w Vb bobs) :
    Calls Tryz.prog 139 #[m.v v, k.v, Vb, .string r] w fun e w' => e = .returned (.tuple #[.string (rtO (sortB (cloB n [P, B] T)) (nxB bobs P B) bobs r (RR r)), .bool (rtB (sortB (cloB n [P, B] T)) r (RR r))]) ∧ Below w.heap.size w w' := by
  have Hnb := Lib.hid (fun W (hW : Below w.heap.size w W) => l17Bobs_yes m v k Vb n T P B B' Q bobs W hK hF hbg (hm.to hW) hs hk (hV.to hW))
  have hso := sortB_sorted (cloB n [P, B] T)
  have hbl := hbg.1.len
  have HS1 := Lib.hid hbg.1.2.sorted
  have HX1 := Lib.hid (fun (hh : r ∈ sortB (cloB n [P, B] T)) => hX.hit r hh)
  have HX2 := Lib.hid (fun (hh : r ∈ sortB (cloB n [P, B] T)) => hX.hRR r hh)
  obtain ⟨G, hG⟩ : ∃ G, G = sortB (cloB n [P, B] T) := ⟨_, rfl⟩
  have hGl : G.length ≤ 130 := by rw [hG, sortB_len]; exact hF
  rw [← hG] at Hnb hso hbl HX1 HX2 ⊢
  have Hn := Lib.hid hK.hn
  have HP := Lib.hid hK.invP.1
  have HB := Lib.hid hK.invB.1
  have HV := Lib.hid hV
  have Hh := Lib.hid (fun V W (hV : Strs W V G) => l1HasS_any V G r W hV)
  have Hhb := Lib.hid (fun V W x (hV : Strs W V bobs) => l1HasS_any V bobs x W hV)
  obtain ⟨O, hO⟩ : ∃ O, O = rtO G (nxB bobs P B) bobs r (RR r) := ⟨_, rfl⟩
  obtain ⟨D, hD⟩ : ∃ D, D = rtB G r (RR r) := ⟨_, rfl⟩
  rw [← hO, ← hD]
  unfold rtO rtB at hO
  unfold rtB at hD
  have HO := Lib.hid hO
  have HD := Lib.hid hD
  obtain ⟨Ab, cb, rfl⟩ : ∃ A c, Vb = .slice A bobs.length c := by obtain ⟨A, c, e, _⟩ := hV; exact ⟨A, c, e⟩
  obtain ⟨A, q, hv⟩ := hm.form
  subst hv
  unfold Mt.v Cl.v at *
  clear hm hK hG hF hso hbg hV hO hD hX
  cases hd : decide (r ∈ G)
  · have Hd := Lib.hid hd
    go_enter Tryz.func139, Tryz.ntmps139
    go_wp2_with fail
    refine box2 (C := fun W => Calls _ _ _ W _) ?_
    intro wb hw k1 k2 hB0
    clear k1 k2
    refine (Hnb.out _ hw).mono ?_; rintro e w1 ⟨A1, q1, rfl, hown1, hb1⟩
    have HS := Lib.hid (strs_of_own hown1)
    have hB1 := bw_to hw hb1
    clear hown1
    go_wp2_with (go_at_call 169; refine (Hh.out _ _ (HS.out.to (bw_al (Below.refl _ _) _))).mono ?_; rintro e w' ⟨rfl, rfl⟩; rw [Hd.out])
    go_ret2
    have e2 : D = false := by rw [HD.out, Hd.out]; rfl
    have e1 : O = ⟨#[]⟩ := by rw [HO.out, Hd.out]; rfl
    subst e1 e2
    exact ⟨rfl, bw_al hB1 _⟩
  · have Hd := Lib.hid hd
    have hi : r ∈ G := of_decide_eq_true hd
    have hRb := (HX2.out hi).2
    go_enter Tryz.func139, Tryz.ntmps139
    go_wp2_with fail
    refine box2 (C := fun W => Calls _ _ _ W _) ?_
    intro wb hw k1 k2 hB0
    clear k1 k2
    refine (Hnb.out _ hw).mono ?_; rintro e w1 ⟨A1, q1, rfl, hown1, hb1⟩
    have HS := Lib.hid (strs_of_own hown1)
    have hB1 := bw_to hw hb1
    have hbc := bw_al hB1 (.cells #[.string P, .string B, .string Q, .slice A1 G.length q1] 146)
    have HRC := Lib.hid (fun W (hW : Below w.heap.size w W) => ringS_any n (RR r) P B Q r (.slice A1 G.length q1) _ bobs W Hn.out HP.out HB.out (HX1.out hi) (HV.out.to hW) HS1.out (by omega) (HX2.out hi).1 (by omega))
    clear hown1
    by_cases hle : RR r ≤ 60
    · have hc60 : decide ((60 : Int) < (RR r : Int)) = false := decide_eq_false (by omega)
      go_upto_region 5 with (first | (go_at_call 169; refine (Hh.out _ _ (HS.out.to (bw_al (Below.refl _ _) _))).mono ?_; rintro e w' ⟨rfl, rfl⟩; rw [Hd.out]) | (go_at_call 170; refine (HRC.out _ hbc).mono ?_; rintro e w2 ⟨A2, q2, rfl, hown2, hb2⟩; (have kx : w2.heap[w1.heap.size]? = some (.cells #[.string P, .string B, .string Q, .slice A1 G.length q1] 146 (0, 0)) := (hb2.block w1.heap.size (by simp)).trans (heap_new w1 _)); (have x0 := heap_cell kx 0); (have x1 := heap_cell kx 1); (have x2 := heap_cell kx 2); (have x3 := heap_cell kx 3)))
      clear hown2
      have hB2 := bw_to hbc hb2
      go_wp2_with fail
      refine (HRC.out _ hB2).mono ?_; rintro e w3 ⟨A3, q3, rfl, hown3, hb3⟩
      have hB3 := bw_to hB2 hb3
      have Hel := Lib.hid (ring_el hown3)
      have HV2 := Lib.hid (HV.out.to hB3)
      have e2 : D = decide (RR r ≤ 60) := by rw [HD.out, Hd.out]; rfl
      have HE2 := Lib.hid e2
      have e1 : O = if decide (RR r ≤ 60) = true then ⟨(ringT (nxB bobs P B) bobs r (RR r)).toArray⟩ else ⟨#[]⟩ := by rw [HO.out, Hd.out]; rfl
      have HE1 := Lib.hid e1
      have Hsu := Lib.hid (fun j (hj : j < RR r) => rtA_succ (nxB bobs P B) bobs r hj)
      have Hsz := Lib.hid (fun j => rtA_size (nxB bobs P B) bobs r (RR r) j)
      have Hz := Lib.hid (rtA_zero (nxB bobs P B) bobs r (RR r))
      have Ha := Lib.hid (rtA_all (nxB bobs P B) bobs r (RR r))
      have hR1 := (HX2.out hi).1.1
      clear e1 e2 HO HD HX1 HX2
      obtain ⟨TT, hTT⟩ : ∃ TT, TT = rtA (nxB bobs P B) bobs r (RR r) := ⟨_, rfl⟩
      obtain ⟨IT, hIT⟩ : ∃ IT, IT = iterB (nxB bobs P B) r := ⟨_, rfl⟩
      rw [← hTT] at Hsu Hsz Hz Ha
      rw [← hIT] at Hsu Hel
      obtain ⟨WT, hWT⟩ : ∃ WT : ByteArray, WT = ⟨(ringT (nxB bobs P B) bobs r (RR r)).toArray⟩ := ⟨_, rfl⟩
      rw [← hWT] at HE1 Ha
      obtain ⟨R, hR⟩ : ∃ R, R = RR r := ⟨_, rfl⟩
      rw [← hR] at hle HE1 HE2 hRb hR1 Hsu Ha Hel ⊢
      clear hTT hIT hWT hR hown3
      go_wp2_with fail
      go_loop [12, 44] (fun t i => ∃ j : Nat, j ≤ R ∧ i = .int .i64 j ∧ t = .string (TT j)) (fun _ i => R - (intOf i).toNat)
      case atStart => exact ⟨0, by omega, rfl, by rw [Hz.out]⟩
      case round =>
        obtain ⟨j, hj, rfl, rfl⟩ := hrel
        by_cases hlt : j < R
        · obtain ⟨ad, rfl, hC0⟩ := Hel.out j hlt
          have Hs := Lib.hid (Hsu.out j hlt)
          have hsz := Hsz.out j
          have Hc := Lib.hid (Hhb.out _ w3 (IT j) HV2.out)
          obtain ⟨y, hy⟩ : ∃ y, y = IT j := ⟨_, rfl⟩
          obtain ⟨t0, ht0⟩ : ∃ t, t = TT j := ⟨_, rfl⟩
          rw [← hy] at hC0 Hs Hc
          rw [← ht0] at Hs hsz ⊢
          have z1 : (⟨#[98]⟩ : ByteArray).size = 1 := rfl
          have z2 : (⟨#[112]⟩ : ByteArray).size = 1 := rfl
          have y1 : ¬ 9223372036854775807 < t0.size + (⟨#[98]⟩ : ByteArray).size := by rw [z1]; omega
          have y2 : ¬ 9223372036854775807 < t0.size + (⟨#[112]⟩ : ByteArray).size := by rw [z2]; omega
          clear hy ht0 z1 z2
          cases hb : decide (y ∈ bobs)
          · rw [hb] at Hc
            rw [if_neg (of_decide_eq_false hb)] at Hs
            go_wp2_with (go_at_call 169; refine Hc.out.mono ?_; rintro e w' ⟨rfl, rfl⟩)
            exact ⟨⟨j + 1, by omega, rfl, by rw [Hs.out]⟩, by simp [intOf]; omega⟩
          · rw [hb] at Hc
            rw [if_pos (of_decide_eq_true hb)] at Hs
            go_wp2_with (go_at_call 169; refine Hc.out.mono ?_; rintro e w' ⟨rfl, rfl⟩)
            exact ⟨⟨j + 1, by omega, rfl, by rw [Hs.out]⟩, by simp [intOf]; omega⟩
        · obtain rfl : j = R := by omega
          go_wp2_with fail
          go_ret2
          refine ⟨?_, hB3⟩
          rw [HE1.out, HE2.out, if_pos (decide_eq_true hle), decide_eq_true hle, ← Ha.out]
          rfl
    · have hc60 : decide ((60 : Int) < (RR r : Int)) = true := decide_eq_true (by omega)
      go_wp2_with (first | (go_at_call 169; refine (Hh.out _ _ (HS.out.to (bw_al (Below.refl _ _) _))).mono ?_; rintro e w' ⟨rfl, rfl⟩; rw [Hd.out]) | (go_at_call 170; refine (HRC.out _ hbc).mono ?_; rintro e w2 ⟨A2, q2, rfl, hown2, hb2⟩; (have hB2 := bw_to hbc hb2)))
      go_ret2
      have e2 : D = false := by rw [HD.out, decide_eq_false hle, Bool.and_false]
      have e1 : O = ⟨#[]⟩ := by rw [HO.out, decide_eq_false hle, Bool.and_false]; rfl
      subst e1 e2
      exact ⟨rfl, hB2⟩
end Go.Proofs.YtofpjbdelmmclaaGreatDoor
