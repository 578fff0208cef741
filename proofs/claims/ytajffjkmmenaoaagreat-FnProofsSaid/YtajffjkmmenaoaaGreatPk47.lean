/- The rings of a group hold each row once: a plain account. -/
import Derived.Test.YtajffjkmmenaoaaGreatPk30
import Derived.Test.YtajffjkmmenaoaaGreatPk33
import Derived.Test.YtajffjkmmenaoaaGreatPk27
import Derived.Test.YtajffjkmmenaoaaGreatPk14
import Derived.Test.YtajffjkmmenaoaaGreatPk39
import Derived.Test.YtajffjkmmenaoaaGreatPk23
namespace Go.Proofs.YtajffjkmmenaoaaGreat
open Go Go.RowKit
set_option linter.unusedVariables false
set_option linter.unusedSimpArgs false

theorem iter_mem {f : ByteArray → ByteArray} {G : List ByteArray} (hf : ∀ x ∈ G, f x ∈ G) {h : ByteArray} (hh : h ∈ G) : ∀ j, iterB f h j ∈ G
  | 0 => hh
  | j + 1 => hf _ (iter_mem hf hh j)
theorem iter_pull {f : ByteArray → ByteArray} {G S : List ByteArray} (hf : ∀ x ∈ G, f x ∈ G) (hS : ∀ x ∈ G, f x ∈ S → x ∈ S) {h : ByteArray} (hh : h ∈ G) : ∀ j, iterB f h j ∈ S → h ∈ S
  | 0, e => e
  | j + 1, e => iter_pull hf hS hh j (hS _ (iter_mem hf hh j) e)
theorem ring_mem {f : ByteArray → ByteArray} {h x : ByteArray} {R : Nat} : x ∈ ringL f h R ↔ ∃ j, j < R ∧ iterB f h j = x := by
  unfold ringL
  rw [List.mem_map]
  constructor
  · rintro ⟨j, h1, h2⟩; exact ⟨j, List.mem_range.1 h1, h2⟩
  · rintro ⟨j, h1, h2⟩; exact ⟨j, List.mem_range.2 h1, h2⟩
theorem ring_nodup {f : ByteArray → ByteArray} {G : List ByteArray} (hf : ∀ x ∈ G, f x ∈ G) (hi : ∀ x ∈ G, ∀ y ∈ G, f x = f y → x = y) {h : ByteArray} (hh : h ∈ G) {R : Nat} (hR : IsRing f h R) : (ringL f h R).Nodup := by
  have key : ∀ i d, iterB f h i = iterB f h (i + d) → h = iterB f h d := fun i => by
    induction i with
    | zero => intro d e; rw [Nat.zero_add] at e; exact e
    | succ i ih =>
      intro d e
      rw [Nat.succ_add] at e
      exact ih d (hi _ (iter_mem hf hh i) _ (iter_mem hf hh (i + d)) e)
  unfold ringL
  rw [List.nodup_iff_pairwise_ne, List.pairwise_map]
  refine (List.pairwise_lt_range (n := R)).imp_of_mem ?_
  intro i j h1 h2 hlt e
  have hj := List.mem_range.1 h2
  obtain ⟨d, rfl⟩ : ∃ d, j = i + d := ⟨j - i, by omega⟩
  exact hR.2.2 d (by omega) (by omega) (key i d e).symm
theorem rgs_sum {f : ByteArray → ByteArray} {RR : ByteArray → Nat} {G : List ByteArray} (hd : G.Nodup) (hf : ∀ x ∈ G, f x ∈ G) (hi : ∀ x ∈ G, ∀ y ∈ G, f x = f y → x = y) (hR : ∀ x ∈ G, IsRing f x (RR x)) (hn : ∀ x ∈ G, (ringL f x (RR x)).Nodup) : ∀ (l seen : List ByteArray), (∀ x ∈ l, x ∈ G) → (∀ x ∈ G, x ∈ l ∨ x ∈ seen) → seen.Nodup → (∀ x ∈ seen, x ∈ G) → (∀ x ∈ G, f x ∈ seen → x ∈ seen) → ((rgs f RR l seen).map List.length).sum + seen.length = G.length
  | [], seen, _, hc, hs, hg, _ => by
    rw [rgs]
    have hp : seen.Perm G := (List.perm_ext_iff_of_nodup hs hd).2 (fun x => ⟨hg x, fun h => (hc x h).resolve_left (by simp)⟩)
    simpa using hp.length_eq
  | h :: t, seen, hl, hc, hs, hg, hb => by
    rw [rgs]
    have hhG := hl h (by simp)
    by_cases hm : h ∈ seen
    · rw [if_pos hm]
      refine rgs_sum hd hf hi hR hn t seen (fun x hx => hl x (by simp [hx])) (fun x hx => ?_) hs hg hb
      rcases hc x hx with h1 | h1
      · rcases List.mem_cons.1 h1 with rfl | h1
        · exact .inr hm
        · exact .inl h1
      · exact .inr h1
    · rw [if_neg hm]
      have ih := rgs_sum hd hf hi hR hn t (seen ++ ringL f h (RR h)) (fun x hx => hl x (by simp [hx])) (fun x hx => ?_) ?_ (fun x hx => ?_) (fun x hx hx2 => ?_)
      · rw [List.map_cons, List.sum_cons, ringL_len]
        rw [List.length_append, ringL_len] at ih
        omega
      · rcases hc x hx with h1 | h1
        · rcases List.mem_cons.1 h1 with rfl | h1
          · exact .inr (List.mem_append.2 (.inr (ring_mem.2 ⟨0, by have := (hR _ hhG).1; omega, rfl⟩)))
          · exact .inl h1
        · exact .inr (List.mem_append.2 (.inl h1))
      · refine List.nodup_append.2 ⟨hs, hn h hhG, ?_⟩
        intro a ha b hb2 e
        obtain ⟨j, _, hj⟩ := ring_mem.1 hb2
        refine hm (iter_pull hf hb hhG j ?_)
        rw [hj, ← e]; exact ha
      · rcases List.mem_append.1 hx with h1 | h1
        · exact hg x h1
        · obtain ⟨j, _, rfl⟩ := ring_mem.1 h1
          exact iter_mem hf hhG j
      · rcases List.mem_append.1 hx2 with h1 | h1
        · exact List.mem_append.2 (.inl (hb x hx h1))
        · obtain ⟨j, hj, e⟩ := ring_mem.1 h1
          refine List.mem_append.2 (.inr ?_)
          cases j with
          | succ j =>
            have e2 := hi _ (iter_mem hf hhG j) x hx e
            exact ring_mem.2 ⟨j, by omega, e2⟩
          | zero =>
            have h1 := (hR h hhG).1
            have h2 := (hR h hhG).2.1
            obtain ⟨r, hr⟩ : ∃ r, RR h = r + 1 := ⟨RR h - 1, by omega⟩
            rw [hr] at h2
            have e2 := hi _ (iter_mem hf hhG r) x hx (by show iterB f h (r + 1) = f x; rw [h2]; exact e)
            exact ring_mem.2 ⟨r, by omega, e2⟩
theorem rgs_from (nx : ByteArray → ByteArray) (RR : ByteArray → Nat) : ∀ (l seen : List ByteArray), ∀ x ∈ rgs nx RR l seen, ∃ h ∈ l, x = ringL nx h (RR h)
  | [], seen, x, hx => by simp [rgs] at hx
  | h :: t, seen, x, hx => by
    rw [rgs] at hx
    split at hx
    · obtain ⟨y, hy, e⟩ := rgs_from nx RR t _ x hx
      exact ⟨y, List.mem_cons_of_mem _ hy, e⟩
    · rcases List.mem_cons.1 hx with rfl | hx
      · exact ⟨h, List.mem_cons_self .., rfl⟩
      · obtain ⟨y, hy, e⟩ := rgs_from nx RR t _ x hx
        exact ⟨y, List.mem_cons_of_mem _ hy, e⟩
end Go.Proofs.YtajffjkmmenaoaaGreat

/- The law on rings: what is asked of a touch along a ring. -/
namespace Go.Proofs.YtajffjkmmenaoaaGreat
open Go Go.RowKit
set_option linter.unusedVariables false
set_option linter.unusedSimpArgs false

set_option maxHeartbeats 2000000 in
theorem isRound_yes (m : Mt) (v : Value) (k : Cl) (t : ByteArray) (n : Nat) (w : World) (hg : CGood m k n) (hok : callsB m k = true) (hm : MethAt w m v) (hs : MtSmall m) (hk : ClSmall k) (ht : touchB t.data.toList = true) (htz : t.size ≤ maxLen) : Calls Tryz.prog 11 #[m.v v, k.v, .string t] w fun e w' => e = .returned (.tuple #[.bool (decide (endT m k t = roundsB n)), .bool true]) ∧ Below w.heap.size w w' := by
  have HG := Lib.hid (fun W (hW : Below w.heap.size w W) => goodFor_any m v k t W (hm.to hW) hs hk htz)
  have HC := Lib.hid (fun W (hW : Below w.heap.size w W) => comesRound_any m v k t n W hg (hm.to hW).1 ht)
  have eg : (callsB m k && touchB t.data.toList) = true := by rw [hok, ht]; rfl
  rw [eg] at HG
  obtain ⟨d, hd⟩ : ∃ d, d = decide (endT m k t = roundsB n) := ⟨_, rfl⟩
  rw [← hd] at HC ⊢
  obtain ⟨A, c, hv⟩ := hm.form
  subst hv
  clear hm hg hok ht eg hd
  unfold Mt.v Cl.v at *
  go_enter Tryz.func11, Tryz.ntmps11
  go_wp2_with fail
  refine box2 (C := fun W => Calls _ _ _ W _) ?_
  intro wb hw k1 k2 hB0
  have R1 := boxRule k1
  have R2 := boxRule k2
  refine (HG.out _ hw).mono ?_; rintro e w1 ⟨rfl, hb1⟩
  have hB1 := bw_to hw hb1
  go_wp2_with fail
  refine (HC.out _ hB1).mono ?_; rintro e w2 ⟨rfl, hb2⟩
  have hB2 := bw_to hB1 hb2
  go_wp2_with fail
  go_ret2
  exact ⟨rfl, hB2⟩
/-- A row of a row of rows, in every later world. -/
theorem sv_el {w : World} {base : Nat} {A : Option Addr} {c : Nat} {L : List (List ByteArray)} {vs : List Value} (h : OwnSV w base (.slice A L.length c) L vs) {j : Nat} (hj : j < L.length) : ∃ g u, A = some ⟨g, 0, none⟩ ∧ ∀ W, Below w.heap.size w W → W.cell? ⟨g, j, none⟩ = some u ∧ Strs W u L[j] := by
  have hl := h.len
  rcases h.row with ⟨e, e2⟩ | ⟨g, c2, e, _, _⟩
  · subst e2
    exact absurd hj (Nat.not_lt_zero _)
  · injection e with ea eb ec
    subst ea ec
    refine ⟨g, vs[j]'(by omega), rfl, fun W hW => ⟨(h.to hW).at hj (by omega), strs_of_own ((h.to hW).2 j hj (by omega))⟩⟩
end Go.Proofs.YtajffjkmmenaoaaGreat

/- Plain facts on the first pair of equal rows. -/
namespace Go.Proofs.YtajffjkmmenaoaaGreat
open Go Go.RowKit
set_option linter.unusedVariables false
set_option linter.unusedSimpArgs false

/-- Rows i and k are equal, i ahead of k. -/
def isRep {α : Type} (l : List α) (i k : Nat) : Prop := i < k ∧ k < l.length ∧ l[i]? = l[k]?
/-- The first pair of equal rows. -/
structure FstRep {α : Type} (l : List α) (a b : Nat) : Prop where
  rep : isRep l a b
  near : ∀ k, isRep l a k → b ≤ k
  first : ∀ i k, isRep l i k → a ≤ i
theorem FstRep.uniq {α : Type} {l : List α} {a b c d : Nat} (h : FstRep l a b) (h2 : FstRep l c d) : a = c ∧ b = d := by
  have h1 := h.first _ _ h2.rep
  have h3 := h2.first _ _ h.rep
  obtain rfl : a = c := by omega
  have h4 := h.near _ h2.rep
  have h5 := h2.near _ h.rep
  exact ⟨rfl, by omega⟩
theorem noRep_nodup {α : Type} {l : List α} (h : ∀ i k, ¬ isRep l i k) : l.Nodup := by
  rw [List.Nodup, List.pairwise_iff_getElem]
  intro i j hi hj hij e
  exact h i j ⟨hij, hj, by rw [List.getElem?_eq_getElem hi, List.getElem?_eq_getElem hj, e]⟩
theorem nodup_noRep {α : Type} {l : List α} (h : l.Nodup) (i k : Nat) : ¬ isRep l i k := by
  rintro ⟨hik, hk, e⟩
  rw [List.Nodup, List.pairwise_iff_getElem] at h
  rw [List.getElem?_eq_getElem (by omega : i < l.length), List.getElem?_eq_getElem hk, Option.some.injEq] at e
  exact h i k (by omega) hk hik e
/-- The first pair, where there is one. -/
noncomputable def repO {α : Type} (l : List α) : Option (Nat × Nat) := by
  classical exact if h : ∃ p : Nat × Nat, FstRep l p.1 p.2 then some h.choose else none
theorem repO_some {α : Type} {l : List α} {a b : Nat} (h : FstRep l a b) : repO l = some (a, b) := by
  unfold repO
  have hex : ∃ p : Nat × Nat, FstRep l p.1 p.2 := ⟨(a, b), h⟩
  rw [dif_pos hex]
  obtain ⟨h1, h2⟩ := hex.choose_spec.uniq h
  rw [show hex.choose = (hex.choose.1, hex.choose.2) from rfl, h1, h2]
theorem repO_none {α : Type} {l : List α} (h : ∀ i k, ¬ isRep l i k) : repO l = none := by
  unfold repO
  rw [dif_neg]
  rintro ⟨p, hp⟩
  exact h _ _ hp.rep
theorem least_ex {p : Nat → Prop} (h : ∃ n, p n) : ∃ n, p n ∧ ∀ m, p m → n ≤ m := by
  obtain ⟨n, hn⟩ := h
  induction n using Nat.strongRecOn with
  | _ n ih =>
    by_cases hc : ∃ m, m < n ∧ p m
    · obtain ⟨m, hm, hp⟩ := hc
      exact ih m hm hp
    · exact ⟨n, hn, fun m hm => Nat.le_of_not_lt (fun hlt => hc ⟨m, hlt, hm⟩)⟩
theorem fst_ex {α : Type} {l : List α} (h : ∃ i k, isRep l i k) : ∃ a b, FstRep l a b := by
  obtain ⟨a, ⟨k, hk⟩, ha⟩ := least_ex h
  obtain ⟨b, hb, hl⟩ := least_ex ⟨k, hk⟩
  exact ⟨a, b, hb, hl, fun i k h => ha i ⟨k, h⟩⟩
theorem repO_isSome {α : Type} [DecidableEq α] (l : List α) : (repO l).isSome = !decide l.Nodup := by
  by_cases h : ∃ i k, isRep l i k
  · obtain ⟨a, b, hf⟩ := fst_ex h
    rw [repO_some hf]
    have : ¬ l.Nodup := fun hn => nodup_noRep hn _ _ hf.rep
    simp [this]
  · have h' : ∀ i k, ¬ isRep l i k := fun i k hik => h ⟨i, k, hik⟩
    rw [repO_none h', decide_eq_true (noRep_nodup h')]
    rfl
theorem repO_fst {α : Type} {l : List α} {a b : Nat} (h : repO l = some (a, b)) : FstRep l a b := by
  by_cases hc : ∃ i k, isRep l i k
  · obtain ⟨a', b', hf⟩ := fst_ex hc
    rw [repO_some hf] at h
    injection h with h; injection h with h1 h2
    subst h1; subst h2; exact hf
  · rw [repO_none (fun i k hik => hc ⟨i, k, hik⟩)] at h; cases h
/-- The next equal row behind row i; 0: none. -/
structure NextIs {α : Type} (l : List α) (i k : Nat) : Prop where
  zero : k = 0 → ∀ j, ¬ isRep l i j
  pos : 0 < k → isRep l i k ∧ ∀ j, isRep l i j → k ≤ j
/-- Which row behind i equals x first. -/
structure LaterIs {α : Type} (l : List α) (i : Nat) (f : α → Option Nat) : Prop where
  some' : ∀ x k, f x = some k → i < k ∧ k < l.length ∧ l[k]? = some x ∧ ∀ j, i < j → l[j]? = some x → k ≤ j
  none' : ∀ x, f x = none → ∀ j, i < j → l[j]? ≠ some x
theorem LaterIs.next {α : Type} {l : List α} {i : Nat} {f : α → Option Nat} (h : LaterIs l i f) {x : α} (hx : l[i]? = some x) : NextIs l i ((f x).getD 0) := by
  cases e : f x with
  | none => exact ⟨fun _ j ⟨h1, h2, h3⟩ => h.none' x e j h1 (h3.symm.trans hx), fun h0 => absurd h0 (by simp)⟩
  | some k =>
    obtain ⟨h1, h2, h3, h4⟩ := h.some' x k e
    exact ⟨fun h0 => by simp at h0; omega, fun _ => ⟨⟨h1, h2, hx.trans h3.symm⟩, fun j ⟨g1, g2, g3⟩ => h4 j g1 (g3.symm.trans hx)⟩⟩
theorem LaterIs.down {α : Type} [DecidableEq α] {l : List α} {i : Nat} {f : α → Option Nat} (h : LaterIs l (i + 1) f) {x : α} (hx : l[i + 1]? = some x) : LaterIs l i (fun y => if y = x then some (i + 1) else f y) := by
  have hl : i + 1 < l.length := (List.getElem?_eq_some_iff.1 hx).1
  constructor
  · intro y k e
    by_cases hc : y = x
    · subst hc
      simp at e
      subst e
      exact ⟨by omega, hl, hx, fun j hj _ => hj⟩
    · simp only [hc, if_false] at e
      obtain ⟨h1, h2, h3, h4⟩ := h.some' y k e
      refine ⟨by omega, h2, h3, fun j hj hy => ?_⟩
      by_cases hji : j = i + 1
      · subst hji; rw [hx] at hy; injection hy with hy; exact absurd hy.symm hc
      · exact h4 j (by omega) hy
  · intro y e j hj hy
    by_cases hc : y = x
    · simp [hc] at e
    · simp only [hc, if_false] at e
      by_cases hji : j = i + 1
      · subst hji; rw [hx] at hy; injection hy with hy; exact hc hy.symm
      · exact h.none' y e j (by omega) hy
theorem LaterIs.empty {α : Type} {l : List α} {i : Nat} (hi : l.length ≤ i + 1) : LaterIs l i (fun _ => none) :=
  ⟨fun x k e => (by cases e), fun x _ j hj e => by have := (List.getElem?_eq_some_iff.1 e).1; omega⟩
theorem fst_of_next {α : Type} {l : List α} {i k : Nat} (h : NextIs l i k) (hk : 0 < k) (hi : ∀ i', i' < i → ∀ j, ¬ isRep l i' j) : FstRep l i k :=
  ⟨(h.pos hk).1, (h.pos hk).2, fun i' k' hr => Nat.le_of_not_lt (fun hlt => hi i' hlt k' hr)⟩
end Go.Proofs.YtajffjkmmenaoaaGreat

/- Contract: the next layer of a repair, the program's. -/
namespace Go.Proofs.YtajffjkmmenaoaaGreat
open Go Go.RowKit Go.Sort
set_option linter.unusedVariables false
set_option linter.unusedSimpArgs false

theorem gr_comp {w a b : World} {row : Option Nat} (h : w.grownBy a row) (h2 : a.grownBy b row) : w.grownBy b row :=
  ⟨h2.os.trans h.os, h2.tape.trans h.tape, h2.output.trans h.output, Nat.le_trans h.size h2.size, fun k hk hne => (h2.block k (Nat.lt_of_lt_of_le hk h.size) hne).trans (h.block k hk hne)⟩
theorem gr_new {w a b : World} {row : Option Nat} (h : w.grownBy a row) (h2 : Below w.heap.size a b) : w.grownBy b row :=
  ⟨h2.os.trans h.os, h2.tape.trans h.tape, h2.output.trans h.output, Nat.le_trans h.size h2.size, fun k hk hne => (h2.block k hk).trans (h.block k hk hne)⟩
theorem news_snoc (S Q : List ByteArray) (x : ByteArray) : newsB S (Q ++ [x]) = if x ∈ visitAll S Q then newsB S Q else newsB S Q ++ [x] := by
  have h1 := news_app S (Q ++ [x])
  rw [va_snoc, visitB, ← news_app] at h1
  by_cases h : x ∈ S ++ newsB S Q
  · rw [if_pos h] at h1
    rw [← news_app, if_pos h]
    exact List.append_cancel_left h1
  · rw [if_neg h, List.append_assoc] at h1
    rw [← news_app, if_neg h]
    exact List.append_cancel_left h1
theorem va_snoc_in {S Q : List ByteArray} {x : ByteArray} (h : x ∈ visitAll S Q) (z : ByteArray) : z ∈ visitAll S (Q ++ [x]) ↔ z ∈ visitAll S Q := by
  rw [va_snoc, visit_iff]
  constructor
  · rintro (h1 | rfl)
    · exact h1
    · exact h
  · exact .inl
theorem updF_va {S Q : List ByteArray} {x : ByteArray} {f : ByteArray → Bool} (h : ∀ s, f s = true ↔ s ∈ visitAll S Q) (s : ByteArray) : updF f x s = true ↔ s ∈ visitAll S (Q ++ [x]) := by
  unfold updF
  rw [va_snoc, visit_iff, ← h s]
  by_cases e : s = x
  · rw [if_pos e]; simp [e]
  · rw [if_neg e]; simp [e]
theorem news_len (S Q : List ByteArray) : (newsB S Q).length ≤ Q.length := by
  have h1 := va_len Q S
  rw [← news_app, List.length_append] at h1
  omega
theorem gr_ofB {a w : World} (h : Below a.heap.size a w) (row : Option Nat) : a.grownBy w row := ⟨h.os, h.tape, h.output, h.size, fun k hk _ => h.block k hk⟩
end Go.Proofs.YtajffjkmmenaoaaGreat

/- Contract: the layers of a repair, the program's. -/
namespace Go.Proofs.YtajffjkmmenaoaaGreat
open Go Go.RowKit
set_option linter.unusedVariables false
set_option linter.unusedSimpArgs false

def laysU (hs : List ByteArray) (fr : ByteArray) (i : Nat) : List (List ByteArray) := (List.range i).map (layR hs fr)
theorem laysU_len (hs : List ByteArray) (fr : ByteArray) (i : Nat) : (laysU hs fr i).length = i := by simp [laysU]
theorem laysU_get {hs : List ByteArray} {fr : ByteArray} {i j : Nat} (h : j < (laysU hs fr i).length) : (laysU hs fr i)[j] = layR hs fr j := by simp [laysU]
theorem laysU_succ (hs : List ByteArray) (fr : ByteArray) (i : Nat) : laysU hs fr (i + 1) = laysU hs fr i ++ [layR hs fr i] := by simp [laysU, List.range_succ]
def laysB (hs : List ByteArray) (fr tg : ByteArray) : List (List ByteArray) := match repB hs fr tg with
  | some N => laysU hs fr (N + 1)
  | none => []
theorem laysB_some {hs : List ByteArray} {fr tg : ByteArray} {N : Nat} (h : repB hs fr tg = some N) : laysB hs fr tg = laysU hs fr (N + 1) := by unfold laysB; rw [h]
theorem laysB_none {hs : List ByteArray} {fr tg : ByteArray} (h : repB hs fr tg = none) : laysB hs fr tg = [] := by unfold laysB; rw [h]
theorem info_slU : (Tryz.prog.info? 24).map (fun i => (i.zero, i.size, i.bytes)) = some (some (.slice none 0 0), 1, 24) := by kernel_rfl
theorem layR_in {n : Nat} (hn : n ≤ 8) {hs : List ByteArray} (hh : ∀ h ∈ hs, RowIn n h) {fr : ByteArray} (hf : RowIn n fr) : ∀ i, ∀ x ∈ layR hs fr i, RowIn n x
  | 0, x, hx => by
    have e : x = fr := by simpa [layR, lsR] using hx
    rw [e]; exact hf
  | i + 1, x, hx => by
    obtain ⟨y, hy, h, hh', rfl⟩ := layR_pred hx
    exact times_in (layR_in hn hh hf i y hy) (hh h hh')
theorem layR_few {hs : List ByteArray} {fr : ByteArray} {i : Nat} (h : (layR hs fr i).length ≤ 800) (hh : hs.length = 3) : (layR hs fr (i + 1)).length ≤ 2400 := by
  rw [layR_succ, sortB_len]
  have h1 := news_len (seenR hs fr i) (prodsB hs (layR hs fr i))
  rw [prods_len, hh] at h1
  omega
end Go.Proofs.YtajffjkmmenaoaaGreat
