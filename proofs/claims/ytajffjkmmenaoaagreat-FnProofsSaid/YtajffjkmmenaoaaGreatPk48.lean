/- Contract: a repair, the program's. -/
import Derived.Test.YtajffjkmmenaoaaGreatPk47
import Derived.Test.YtajffjkmmenaoaaGreatPk3
import Derived.Test.YtajffjkmmenaoaaGreatPk35
import Derived.Test.YtajffjkmmenaoaaGreatPk6
import Derived.Maps.OwnSet
namespace Go.Proofs.YtajffjkmmenaoaaGreat
open Go Go.RowKit
set_option linter.unusedVariables false
set_option linter.unusedSimpArgs false

/-- The rows' maps, one for each layer from lo on. -/
def GM (W : World) (g hi lo N : Nat) (vs : List Value) (P : Nat → ByteArray → Prop) : Prop :=
  ∀ j, lo ≤ j → j ≤ N → ∃ (b cnt : Nat) (f : ByteArray → Bool), vs[j]? = some (.map (some b)) ∧ g < b ∧ b < hi ∧ SM W b cnt f ∧ ∀ s, f s = true ↔ P j s
theorem GM.kept {W W' : World} {g hi lo N : Nat} {vs : List Value} {P : Nat → ByteArray → Prop} {row : Option Nat} (h : GM W g hi lo N vs P) (hg : W.grownBy W' row) (hr : ∀ k, row = some k → k ≤ g ∨ hi ≤ k) : GM W' g hi lo N vs P := by
  intro j h1 h2
  obtain ⟨b, cnt, f, e, hb, hb2, hs, hf⟩ := h j h1 h2
  exact ⟨b, cnt, f, e, hb, hb2, hs.kept hg (fun e => by rcases hr b e.symm with h | h <;> omega), hf⟩
theorem GM.to {W W' : World} {g hi lo N : Nat} {vs : List Value} {P : Nat → ByteArray → Prop} (h : GM W g hi lo N vs P) (hb : Below W.heap.size W W') : GM W' g hi lo N vs P := h.kept (gr_ofB hb none) (fun k e => by cases e)
theorem GM.put {W : World} {g hi lo N i : Nat} {vs : List Value} {P : Nat → ByteArray → Prop} (h : GM W g hi lo N vs P) (hi' : i < lo) (u : Value) : GM (W.setCell ⟨g, i, none⟩ u) g hi lo N (vs.set i u) P := by
  have h2 := h.kept (gr_set (j := i) (gr_refl W (some g)) u) (fun k e => by cases e; exact .inl (Nat.le_refl _))
  intro j h3 h4
  obtain ⟨b, cnt, f, e, r⟩ := h2 j h3 h4
  exact ⟨b, cnt, f, by rw [List.getElem?_set_ne (by omega)]; exact e, r⟩
theorem GM.more {W : World} {g hi hi2 i N b cnt : Nat} {vs : List Value} {P : Nat → ByteArray → Prop} {f : ByteArray → Bool} (h : GM W g hi (i + 1) N vs P) (hv : vs[i]? = some (.map (some b))) (hb : g < b) (hb2 : b < hi2) (hh : hi ≤ hi2) (hs : SM W b cnt f) (hf : ∀ s, f s = true ↔ P i s) : GM W g hi2 i N vs P := by
  intro j h1 h2
  by_cases e : j = i
  · subst e; exact ⟨b, cnt, f, hv, hb, hb2, hs, hf⟩
  · obtain ⟨b, cnt, f, e, hb, hb2, hs, hf⟩ := h j (by omega) h2
    exact ⟨b, cnt, f, e, hb, by omega, hs, hf⟩
theorem info_msb : (Tryz.prog.info? 82).map (fun i => (i.zero, i.size, i.bytes)) = some (some (.map none), 1, 8) := by kernel_rfl
def clB : List UInt8 := [98, 112, 115]
theorem least_hit {F : UInt8 → ByteArray} {tg r : ByteArray} {n q : Nat} {t : List UInt8} (hq : q < clB.length) (hn : ∀ p (h : p < clB.length), p < q → leastB F tg n (timesB r (F clB[p])) = none) (hy : leastB F tg n (timesB r (F clB[q])) = some t) : leastB F tg (n + 1) r = some (clB[q] :: t) := by
  rw [leastB]
  match q, hq with
  | 0, _ =>
    have h0 : leastB F tg n (timesB r (F 98)) = some t := hy
    rw [h0]; rfl
  | 1, _ =>
    have h0 : leastB F tg n (timesB r (F 98)) = none := hn 0 (by decide) (by omega)
    have h1 : leastB F tg n (timesB r (F 112)) = some t := hy
    rw [h0, h1]; rfl
  | 2, _ =>
    have h0 : leastB F tg n (timesB r (F 98)) = none := hn 0 (by decide) (by omega)
    have h1 : leastB F tg n (timesB r (F 112)) = none := hn 1 (by decide) (by omega)
    have h2 : leastB F tg n (timesB r (F 115)) = some t := hy
    rw [h0, h1, h2]; rfl
theorem least_miss {F : UInt8 → ByteArray} {tg r : ByteArray} {n : Nat} (hn : ∀ p (h : p < clB.length), leastB F tg n (timesB r (F clB[p])) = none) : leastB F tg (n + 1) r = none := by
  rw [leastB]
  have h0 : leastB F tg n (timesB r (F 98)) = none := hn 0 (by decide)
  have h1 : leastB F tg n (timesB r (F 112)) = none := hn 1 (by decide)
  have h2 : leastB F tg n (timesB r (F 115)) = none := hn 2 (by decide)
  rw [h0, h1, h2]
theorem clB_in {F : UInt8 → ByteArray} {q : Nat} (hq : q < clB.length) : F clB[q] ∈ headsR F := by
  unfold headsR
  match q, hq with
  | 0, _ => exact .tail _ (.head _)
  | 1, _ => exact .head _
  | 2, _ => exact .tail _ (.tail _ (.head _))
theorem ofL_call (l : List UInt8) (c : UInt8) : ofL l ++ callT c = ofL (l ++ [c]) := bytes_ext (by simp [ofL, callT])
/-- The rows of a layer that are good, found so far. -/
theorem good_start {F : UInt8 → ByteArray} {fr tg : ByteArray} {N i k : Nat} {f : ByteArray → Bool} {L hs : List ByteArray} (hf : ∀ s, f s = true ↔ s ∈ L.take k ∧ goodR F fr tg N i s) (r : ByteArray) (s : ByteArray) :
    f s = true ↔ (s ∈ L.take k ∧ goodR F fr tg N i s) ∨ s = r ∧ ∃ h ∈ hs.take 0, goodR F fr tg N (i + 1) (timesB r h) := by
  rw [hf s]; simp
theorem good_put {P : ByteArray → Prop} {Q : ByteArray → Prop} {r : ByteArray} {hs : List ByteArray} {j : Nat} {f : ByteArray → Bool} (hj : j < hs.length) (hf : ∀ s, f s = true ↔ P s ∨ s = r ∧ ∃ h ∈ hs.take j, Q h) (hq : Q hs[j]) (s : ByteArray) : updF f r s = true ↔ P s ∨ s = r ∧ ∃ h ∈ hs.take (j + 1), Q h := by
  unfold updF
  rw [List.take_succ_eq_append_getElem hj]
  by_cases e : s = r
  · rw [if_pos e]
    exact ⟨fun _ => .inr ⟨e, _, List.mem_append.2 (.inr (.head _)), hq⟩, fun _ => rfl⟩
  · rw [if_neg e, hf s]; simp [e]
theorem good_skip {P : ByteArray → Prop} {Q : ByteArray → Prop} {r : ByteArray} {hs : List ByteArray} {j : Nat} {f : ByteArray → Bool} (hj : j < hs.length) (hf : ∀ s, f s = true ↔ P s ∨ s = r ∧ ∃ h ∈ hs.take j, Q h) (hq : ¬ Q hs[j]) (s : ByteArray) : f s = true ↔ P s ∨ s = r ∧ ∃ h ∈ hs.take (j + 1), Q h := by
  rw [hf s, List.take_succ_eq_append_getElem hj]
  constructor
  · rintro (h | ⟨e, h, hh, hq'⟩)
    · exact .inl h
    · exact .inr ⟨e, h, List.mem_append.2 (.inl hh), hq'⟩
  · rintro (h | ⟨e, h, hh, hq'⟩)
    · exact .inl h
    · rw [List.mem_append, List.mem_singleton] at hh
      rcases hh with hh | rfl
      · exact .inr ⟨e, h, hh, hq'⟩
      · exact absurd hq' hq
theorem good_end {F : UInt8 → ByteArray} {fr tg : ByteArray} {N i k : Nat} {f : ByteArray → Bool} (ht : tg ∈ layR (headsR F) fr N) (hi : i < N) (hk : k < (layR (headsR F) fr i).length)
    (hf : ∀ s, f s = true ↔ (s ∈ (layR (headsR F) fr i).take k ∧ goodR F fr tg N i s) ∨ s = (layR (headsR F) fr i)[k] ∧ ∃ h ∈ headsR F, goodR F fr tg N (i + 1) (timesB (layR (headsR F) fr i)[k] h)) (s : ByteArray) :
    f s = true ↔ s ∈ (layR (headsR F) fr i).take (k + 1) ∧ goodR F fr tg N i s := by
  rw [hf s, List.take_succ_eq_append_getElem hk, List.mem_append, List.mem_singleton, ← goodR_step ht hi (List.getElem_mem hk)]
  constructor
  · rintro (⟨h1, h2⟩ | ⟨rfl, h2⟩)
    · exact ⟨.inl h1, h2⟩
    · exact ⟨.inr rfl, h2⟩
  · rintro ⟨h1 | rfl, h2⟩
    · exact .inl ⟨h1, h2⟩
    · exact .inr ⟨rfl, h2⟩
theorem good_all {F : UInt8 → ByteArray} {fr tg : ByteArray} {N i : Nat} {f : ByteArray → Bool} (hf : ∀ s, f s = true ↔ s ∈ (layR (headsR F) fr i).take (layR (headsR F) fr i).length ∧ goodR F fr tg N i s) (s : ByteArray) : f s = true ↔ goodR F fr tg N i s := by
  rw [hf s, List.take_length]
  exact ⟨fun h => h.2, fun h => ⟨h.1, h⟩⟩
theorem seenR_mono (hs : List ByteArray) (fr : ByteArray) (i : Nat) : ∀ d, (seenR hs fr i).length ≤ (seenR hs fr (i + d)).length
  | 0 => Nat.le_refl _
  | d + 1 => by have := seenR_mono hs fr i d; rw [← Nat.add_assoc, seenR_len]; omega
/-- The layers ahead of the last are short. -/
theorem layR_short {hs : List ByteArray} {fr tg : ByteArray} {N i : Nat} (h : repB hs fr tg = some N) (hi : i < N) : (layR hs fr i).length ≤ 800 := by
  obtain ⟨_, _, _, h4⟩ := repGo_some 8 0 N h
  have h1 := layR_le hs fr i
  have h2 := seenR_mono hs fr i (N - 1 - i)
  rw [show i + (N - 1 - i) = N - 1 by omega] at h2
  omega
/-- The answer of a repair. -/
def mendQ (F : UInt8 → ByteArray) (fr tg : ByteArray) : Option (List UInt8) := if fr = tg then none else mendB F fr tg
theorem mendQ_same (F : UInt8 → ByteArray) {fr tg : ByteArray} (h : fr = tg) : mendQ F fr tg = none := by unfold mendQ; rw [if_pos h]
theorem mendQ_none {F : UInt8 → ByteArray} {fr tg : ByteArray} (h : repB (headsR F) fr tg = none) : mendQ F fr tg = none := by
  unfold mendQ mendB
  split
  · rfl
  · rw [h]
theorem mendQ_some {F : UInt8 → ByteArray} {fr tg : ByteArray} {N : Nat} (hne : fr ≠ tg) (h : repB (headsR F) fr tg = some N) : mendQ F fr tg = leastB F tg N fr := by
  unfold mendQ mendB
  rw [if_neg hne, h]
theorem least_len {F : UInt8 → ByteArray} {tg : ByteArray} : ∀ (n : Nat) (r : ByteArray) (t : List UInt8), leastB F tg n r = some t → t.length = n
  | 0, r, t, h => by
    rw [leastB] at h
    split at h
    · cases h; rfl
    · cases h
  | n + 1, r, t, h => by
    rw [leastB] at h
    split at h
    · cases h; rename_i t' h'; simp [least_len n _ _ h']
    · split at h
      · cases h; rename_i t' h'; simp [least_len n _ _ h']
      · split at h
        · cases h; rename_i t' h'; simp [least_len n _ _ h']
        · cases h
end Go.Proofs.YtajffjkmmenaoaaGreat

/- Contract: a repair's touch, the program's: the walk. -/
namespace Go.Proofs.YtajffjkmmenaoaaGreat
open Go Go.RowKit
set_option linter.unusedVariables false
set_option linter.unusedSimpArgs false

end Go.Proofs.YtajffjkmmenaoaaGreat

/- Two bells change places in a row: plain, and the program's. -/
namespace Go.Proofs.YtajffjkmmenaoaaGreat
open Go Go.RowKit
set_option linter.unusedVariables false
set_option linter.unusedSimpArgs false

def swapC (i j : Nat) (c : UInt8) : UInt8 := if c.toNat = i + 48 then UInt8.ofNat (j + 48) else if c.toNat = j + 48 then UInt8.ofNat (i + 48) else c
def swapB (i j : Nat) (r : ByteArray) : ByteArray := ofL (r.data.toList.map (swapC i j))
theorem u8_of {c : UInt8} {i : Nat} (h : c.toNat = i + 48) : UInt8.ofNat (i + 48) = c := by rw [← h]; exact UInt8.ofNat_toNat
theorem nd_inj {l : List UInt8} (hn : l.Nodup) {p q : Nat} (hp : p < l.length) (hq : q < l.length) (e : l[p] = l[q]) : p = q := by
  rcases Nat.lt_trichotomy p q with h | h | h
  · exact absurd e ((List.pairwise_iff_getElem.1 hn) p q hp hq h)
  · exact h
  · exact absurd e.symm ((List.pairwise_iff_getElem.1 hn) q p hq hp h)
/-- The two places of the bells change their bytes. -/
theorem swap_set {l : List UInt8} {i j a b : Nat} (hn : l.Nodup) (ha : a < l.length) (hb : b < l.length) (hai : l[a].toNat = i + 48) (hbj : l[b].toNat = j + 48) (hij : i ≠ j) : (l.set a l[b]).set b l[a] = l.map (swapC i j) := by
  apply List.ext_getElem (by simp)
  intro p h1 h2
  have hp : p < l.length := by simpa using h2
  rw [List.getElem_map]
  by_cases e : p = b
  · subst e
    rw [List.getElem_set_self]
    unfold swapC
    rw [if_neg (by omega), if_pos hbj, u8_of hai]
  · rw [List.getElem_set_ne (by omega)]
    by_cases e2 : p = a
    · subst e2
      rw [List.getElem_set_self]
      unfold swapC
      rw [if_pos hai, u8_of hbj]
    · rw [List.getElem_set_ne (by omega)]
      unfold swapC
      have h3 : ¬ l[p].toNat = i + 48 := fun h => e2 (nd_inj hn hp _ (UInt8.toNat_inj.1 (by rw [h, hai])))
      have h4 : ¬ l[p].toNat = j + 48 := fun h => e (nd_inj hn hp _ (UInt8.toNat_inj.1 (by rw [h, hbj])))
      rw [if_neg h3, if_neg h4]
theorem perm_place {n : Nat} (hn : n ≤ 8) {r : ByteArray} (h : PermR n r) {i : Nat} (h1 : 1 ≤ i) (h2 : i ≤ n) : ∃ (a : Nat) (ha : a < r.size), r[a].toNat = i + 48 := by
  have hm : UInt8.ofNat (49 + (i - 1)) ∈ r.data.toList := by
    rw [h.mem_iff]
    unfold roundsL
    rw [List.mem_map]
    exact ⟨i - 1, List.mem_range.2 (by omega), rfl⟩
  obtain ⟨a, ha, e⟩ := List.mem_iff_getElem.1 hm
  have ha' : a < r.size := by rw [← bytes_len]; exact ha
  refine ⟨a, ha', ?_⟩
  rw [← bytes_get r a ha', e, UInt8.toNat_ofNat_of_lt' (by show 49 + (i - 1) < 256; omega)]
  omega
theorem swap_perm {n : Nat} (hn : n ≤ 8) {r : ByteArray} (h : PermR n r) {i j : Nat} (h1 : 1 ≤ i) (h2 : i ≤ n) (h3 : 1 ≤ j) (h4 : j ≤ n) (hij : i ≠ j) : PermR n (swapB i j r) := by
  obtain ⟨a, ha, hai⟩ := perm_place hn h h1 h2
  obtain ⟨b, hb, hbj⟩ := perm_place hn h h3 h4
  have e := swap_set (perm_nodup hn h) (by rw [bytes_len]; exact ha : a < r.data.toList.length) (by rw [bytes_len]; exact hb) hai hbj hij
  unfold PermR swapB
  rw [ofL_list, ← e]
  exact (List.set_set_perm _ _).trans h
theorem swap_snoc {r : ByteArray} {k : Nat} (hk : k < r.size) (i j : Nat) : (r.data.toList.take (k + 1)).map (swapC i j) = (r.data.toList.take k).map (swapC i j) ++ [swapC i j r[k]] := map_take_succ (by rw [bytes_len]; exact hk)
end Go.Proofs.YtajffjkmmenaoaaGreat

/- Contracts: who asks for a repair, and the least touch, the specification's. -/
namespace Go.Proofs.YtajffjkmmenaoaaGreat
open Go Go.RowKit
set_option linter.unusedVariables false
set_option linter.unusedSimpArgs false

end Go.Proofs.YtajffjkmmenaoaaGreat

/- Pairs of equal rows: the rows are good; the reference's list of pairs. -/
namespace Go.Proofs.YtajffjkmmenaoaaGreat
open Go Go.RowKit
set_option linter.unusedVariables false
set_option linter.unusedSimpArgs false

/-- No pair ahead of (i, k). -/
def NoUp (l : List ByteArray) (i k : Nat) : Prop := ∀ a b, isRep l a b → ¬ (a < i ∨ a = i ∧ b < k)
theorem NoUp.fst {l : List ByteArray} {i k : Nat} (h : NoUp l i k) (hr : isRep l i k) : FstRep l i k :=
  ⟨hr, fun k' h' => Nat.le_of_not_lt (fun hlt => h _ _ h' (.inr ⟨rfl, hlt⟩)), fun i' k' h' => Nat.le_of_not_lt (fun hlt => h _ _ h' (.inl hlt))⟩
theorem NoUp.next {l : List ByteArray} {i k : Nat} (h : NoUp l i k) (hr : ¬ isRep l i k) : NoUp l i (k + 1) := by
  intro a b h' hc
  by_cases he : a = i ∧ b = k
  · obtain ⟨rfl, rfl⟩ := he; exact hr h'
  · exact h a b h' (by omega)
theorem NoUp.row {l : List ByteArray} {i k : Nat} (h : NoUp l i k) (hk : l.length ≤ k) : NoUp l (i + 1) (i + 2) := by
  intro a b h' hc
  have h1 := h'.1
  have h2 := h'.2.1
  exact h a b h' (by omega)
theorem NoUp.start (l : List ByteArray) : NoUp l 0 1 := by
  intro a b h' hc
  have h1 := h'.1
  omega
theorem NoUp.all {l : List ByteArray} {i k : Nat} (h : NoUp l i k) (hi : l.length ≤ i) : ∀ a b, ¬ isRep l a b := by
  intro a b h'
  have h1 := h'.1
  have h2 := h'.2.1
  exact h a b h' (by omega)
/-- The list of pairs under way: empty, or its first is the first pair. -/
def RepOut (l : List ByteArray) (i k base : Nat) (W : World) (A : Option Addr) (N q : Nat) : Prop :=
  ∃ xs, W.ownsRow base 64 1 (.slice A N q) N xs ∧ ((N = 0 ∧ NoUp l i k) ∨ ∃ a b g2 q2, xs[0]? = some (.slice (some ⟨g2, 0, none⟩) 2 q2) ∧ FstRep l a b ∧ W.ownsRow base 3 1 (.slice (some ⟨g2, 0, none⟩) 2 q2) 2 [.int .i64 (a : Int), .int .i64 (b : Int)])
theorem RepOut.to {l : List ByteArray} {i k base : Nat} {W W' : World} {A : Option Addr} {N q : Nat} (h : RepOut l i k base W A N q) (hb : Below W.heap.size W W') : RepOut l i k base W' A N q := by
  obtain ⟨xs, h1, h2⟩ := h
  refine ⟨xs, own_to h1 hb, h2.imp id ?_⟩
  rintro ⟨a, b, g2, q2, e1, e2, e3⟩
  exact ⟨a, b, g2, q2, e1, e2, own_to e3 hb⟩
theorem RepOut.next {l : List ByteArray} {i k base : Nat} {W : World} {A : Option Addr} {N q : Nat} (h : RepOut l i k base W A N q) (hr : ¬ isRep l i k) : RepOut l i (k + 1) base W A N q := by
  obtain ⟨xs, h1, h2⟩ := h
  exact ⟨xs, h1, h2.imp (fun h => ⟨h.1, h.2.next hr⟩) id⟩
theorem RepOut.row {l : List ByteArray} {i k base : Nat} {W : World} {A : Option Addr} {N q : Nat} (h : RepOut l i k base W A N q) (hk : l.length ≤ k ∨ 0 < N) : RepOut l (i + 1) (i + 2) base W A N q := by
  obtain ⟨xs, h1, h2⟩ := h
  rcases h2 with ⟨h2, h3⟩ | h2
  · exact ⟨xs, h1, .inl ⟨h2, h3.row (by omega)⟩⟩
  · exact ⟨xs, h1, .inr h2⟩
theorem RepOut.start (l : List ByteArray) (base : Nat) (W : World) : RepOut l 0 1 base W none 0 0 := ⟨[], World.ownsRow_nil _ _ _ _, .inl ⟨rfl, NoUp.start l⟩⟩
/-- A pair is put behind the others. -/
theorem RepOut.add {l : List ByteArray} {i k base : Nat} {W W' : World} {A A' : Option Addr} {N q q' g : Nat} {xs : List Value} (hs : W.ownsRow base 64 1 (.slice A N q) N xs) (h2 : (N = 0 ∧ NoUp l i k) ∨ ∃ a b g2 q2, xs[0]? = some (.slice (some ⟨g2, 0, none⟩) 2 q2) ∧ FstRep l a b ∧ W.ownsRow base 3 1 (.slice (some ⟨g2, 0, none⟩) 2 q2) 2 [.int .i64 (a : Int), .int .i64 (b : Int)]) (hr : isRep l i k)
    (hg : W.ownsRow base 3 1 (.slice (some ⟨g, 0, none⟩) 2 2) 2 [.int .i64 (i : Int), .int .i64 (k : Int)]) (h' : W'.ownsRow base 64 1 (.slice A' (N + 1) q') (N + 1) (xs ++ [.slice (some ⟨g, 0, none⟩) 2 2])) (hgr : W.grownBy W' (Value.slice A N q).ownBlock) : RepOut l i (k + 1) base W' A' (N + 1) q' := by
  have hlen : xs.length = N := by have := hs.1; omega
  refine ⟨_, h', .inr ?_⟩
  rcases h2 with ⟨rfl, h3⟩ | ⟨a, b, g2, q2, e1, e2, e3⟩
  · obtain rfl : xs = [] := List.length_eq_zero_iff.1 hlen
    exact ⟨i, k, g, 2, rfl, h3.fst hr, hg.kept hgr ((own_kindsX hg hs (by decide)).imp id id)⟩
  · refine ⟨a, b, g2, q2, ?_, e2, e3.kept hgr ((own_kindsX e3 hs (by decide)).imp id id)⟩
    have h0 : 0 < xs.length := (List.getElem?_eq_some_iff.1 e1).1
    rw [List.getElem?_append_left h0]; exact e1
/-- What a list of pairs answers. -/
def RepPost (l : List ByteArray) (w w' : World) (A : Option Addr) (N : Nat) : Prop :=
  (repO l = none ∧ N = 0) ∨ ∃ a b g g2 q2, repO l = some (a, b) ∧ 0 < N ∧ A = some ⟨g, 0, none⟩ ∧ w.heap.size ≤ g ∧ w.heap.size ≤ g2 ∧ ∀ W, Below w'.heap.size w' W → W.cell? ⟨g, 0, none⟩ = some (.slice (some ⟨g2, 0, none⟩) 2 q2) ∧ W.cell? ⟨g2, 0, none⟩ = some (.int .i64 (a : Int)) ∧ W.cell? ⟨g2, 1, none⟩ = some (.int .i64 (b : Int))
theorem RepOut.post {l : List ByteArray} {i k base : Nat} {w W : World} {A : Option Addr} {N q : Nat} (h : RepOut l i k base W A N q) (hi : l.length ≤ i ∨ 0 < N) (hw : w.heap.size ≤ base) : RepPost l w W A N := by
  obtain ⟨xs, h1, h2⟩ := h
  have hlen : xs.length = N := by have := h1.1; omega
  rcases h2 with ⟨h2, h3⟩ | ⟨a, b, g2, q2, e1, e2, e3⟩
  · exact .inl ⟨repO_none (h3.all (by omega)), h2⟩
  · have h0 : 0 < xs.length := (List.getElem?_eq_some_iff.1 e1).1
    obtain ⟨g, rfl, _, _⟩ := own_addr h1 (by omega)
    refine .inr ⟨a, b, g, g2, q2, repO_some e2, by omega, rfl, Nat.le_trans hw (h1.lt g rfl).1, Nat.le_trans hw (e3.lt g2 rfl).1, fun W' hb => ?_⟩
    refine ⟨?_, ((own_to e3 hb).cellAt 0 (by omega)).trans rfl, ((own_to e3 hb).cellAt 1 (by omega)).trans rfl⟩
    rw [(own_to h1 hb).cellAt 0 (by omega), e1]
end Go.Proofs.YtajffjkmmenaoaaGreat

/- A map from texts to numbers of the call's own; the first pair of equal rows: the program's. -/
namespace Go.Proofs.YtajffjkmmenaoaaGreat
open Go Go.RowKit
set_option linter.unusedVariables false
set_option linter.unusedSimpArgs false

end Go.Proofs.YtajffjkmmenaoaaGreat

/- A list without equal rows; the fault of a touch, both sides. -/
namespace Go.Proofs.YtajffjkmmenaoaaGreat
open Go Go.RowKit
set_option linter.unusedVariables false
set_option linter.unusedSimpArgs false

set_option maxRecDepth 10000 in
set_option maxHeartbeats 2000000 in
theorem goodRows_yes (v : Value) (l : List ByteArray) (n : Nat) (w : World) (hv : Strs w v l) (hn : n ≤ 8) (h3 : 3 ≤ n) (hp : ∀ x ∈ l, PermR n x) (hl : l.length ≤ 800) : Calls Tryz.prog 35 #[v] w fun e w' => e = .returned (.bool true) ∧ Below w.heap.size w w' := by
  have Hp := Lib.hid (fun (k : Nat) (hk : k < l.length) => (perm_in hn (hp _ (List.getElem_mem hk))).1)
  have Hr := Lib.hid (fun (k : Nat) (hk : k < l.length) W => isRowOf_yes n l[k] W hn h3 (hp _ (List.getElem_mem hk)))
  obtain ⟨A, c, rfl, hc, hm, hr⟩ := hv
  unfold maxLen at hm
  clear hp
  have hle : ¬ (800 : Int) < (l.length : Int) := by omega
  go_enter Tryz.func35, Tryz.ntmps35
  go_wp2_with fail
  go_loopw [10] (fun i wr => ∃ k : Nat, k ≤ l.length ∧ i = .int .i64 k ∧ Below w.heap.size w wr) (fun i _ => l.length - (intOf i).toNat)
  case atStart => exact ⟨0, by omega, rfl, Below.refl _ _⟩
  case round =>
    obtain ⟨k, hk, rfl, hB⟩ := hrel
    by_cases hlt : k < l.length
    · obtain ⟨ad, rfl, hC⟩ := strs_el hr hlt
      obtain ⟨ad', e', hC0⟩ := strs_el hr (k := 0) (by omega)
      injection e' with e'
      subst e'
      have h0 := Hp.out 0 (by omega)
      have hr1 := Lib.hid (fun W => Hr.out k hlt W)
      have hCk := hC wr hB
      have hc0 := hC0 wr hB
      rw [add_zero'] at hc0
      obtain ⟨x, hx⟩ : ∃ x, x = l[k] := ⟨_, rfl⟩
      obtain ⟨y, hy⟩ : ∃ y, y = l[0]'(by omega) := ⟨_, rfl⟩
      rw [← hx] at hr1 hCk
      rw [← hy] at h0 hc0
      have h0z : (y.size : Int) = (n : Int) := by rw [h0]
      have h0l : (0 : Int) < (l.length : Int) := by omega
      clear hC hC0 hx hy h0
      go_wp2_with (go_at_call 66; (first | rw [h0z] | skip); refine (hr1.out wr).mono ?_; rintro e w1 ⟨rfl, rfl⟩)
      exact ⟨⟨k + 1, by omega, by go_num, hB⟩, by simp [intOf] <;> omega⟩
    · obtain rfl : k = l.length := by omega
      go_wp2_with fail
      go_ret
      exact ⟨rfl, hB⟩
set_option maxHeartbeats 1000000 in
theorem isTrueList_yes (v : Value) (l : List ByteArray) (n : Nat) (w : World) (hv : Strs w v l) (hn : n ≤ 8) (h3 : 3 ≤ n) (hp : ∀ x ∈ l, PermR n x) (hl : l.length ≤ 800) : Calls Tryz.prog 10 #[v] w fun e w' => e = .returned (.tuple #[.bool (decide l.Nodup), .bool true]) ∧ Below w.heap.size w w' := by
  have Hg := Lib.hid (fun W (hW : Below w.heap.size w W) => goodRows_yes v l n W (hv.to hW) hn h3 hp hl)
  have Ht := Lib.hid (fun W (hW : Below w.heap.size w W) => isTrue_any v l W (hv.to hW) (by omega) (fun s hs => by have := (perm_in hn (hp _ hs)).1; omega))
  clear hv hp
  go_enter Tryz.func10, Tryz.ntmps10
  go_wp2_with fail
  refine (Hg.out _ (Below.refl _ _)).mono ?_; rintro e w1 ⟨rfl, hb1⟩
  go_wp2_with fail
  refine (Ht.out _ hb1).mono ?_; rintro e w2 ⟨rfl, hb2⟩
  go_wp2_with fail
  go_ret2
  exact ⟨rfl, bw_to hb1 hb2⟩
end Go.Proofs.YtajffjkmmenaoaaGreat
