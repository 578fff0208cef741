/- Plain facts on the lines of a proof. -/
import Derived.Test.YtajffjkmmenaoaaGreatPk14
import Derived.Test.YtajffjkmmenaoaaGreatPk24
import Derived.Test.YtajffjkmmenaoaaGreatPk33
import Derived.Test.YtajffjkmmenaoaaGreatPk35
namespace Go.Proofs.YtajffjkmmenaoaaGreat
open Go Go.RowKit
set_option linter.unusedVariables false
set_option linter.unusedSimpArgs false

theorem sub_perm {α : Type} : ∀ {a b : List α}, a.Nodup → (∀ x, x ∈ a → x ∈ b) → ∃ c, b.Perm (a ++ c)
  | [], b, _, _ => ⟨b, List.Perm.refl _⟩
  | x :: a, b, hd, hs => by
    rw [List.nodup_cons] at hd
    obtain ⟨p, q, rfl⟩ := List.append_of_mem (hs x (List.mem_cons_self ..))
    have h1 : ∀ y, y ∈ a → y ∈ p ++ q := by
      intro y hy
      have h2 := hs y (List.mem_cons_of_mem _ hy)
      rw [List.mem_append, List.mem_cons] at h2
      rw [List.mem_append]
      rcases h2 with h2 | h2 | h2
      · exact .inl h2
      · subst h2; exact absurd hy hd.1
      · exact .inr h2
    obtain ⟨c, hc⟩ := sub_perm hd.2 h1
    exact ⟨c, List.perm_middle.trans (List.Perm.cons x hc)⟩
theorem sub_perm_len {α : Type} {a b : List α} (hd : a.Nodup) (hs : ∀ x, x ∈ a → x ∈ b) (hl : b.length ≤ a.length) : b.Perm a := by
  obtain ⟨c, hc⟩ := sub_perm hd hs
  have h := hc.length_eq
  rw [List.length_append] at h
  obtain rfl : c = [] := List.length_eq_zero_iff.1 (by omega)
  simpa using hc
/-- The first number below n that is not good. -/
def badAt (ok : Nat → Bool) (n : Nat) : Option Nat := (List.range n).find? (fun i => !ok i)
theorem badAt_none {ok : Nat → Bool} {n : Nat} (h : ∀ i, i < n → ok i = true) : badAt ok n = none := by
  unfold badAt
  rw [List.find?_eq_none]
  intro i hi
  rw [h i (List.mem_range.1 hi)]
  decide
theorem badAt_some {ok : Nat → Bool} {n j : Nat} (hj : j < n) (h : ∀ i, i < j → ok i = true) (hb : ok j = false) : badAt ok n = some j := by
  unfold badAt
  rw [List.find?_range_eq_some]
  refine ⟨by rw [hb]; rfl, List.mem_range.2 hj, fun i hi => by rw [h i hi]; rfl⟩
theorem badAt_all {ok : Nat → Bool} {n : Nat} (h : badAt ok n = none) : ∀ i, i < n → ok i = true := by
  unfold badAt at h
  rw [List.find?_eq_none] at h
  intro i hi
  have := h i (List.mem_range.2 hi)
  simpa using this
/-- A line of a proof: the row, the lead, the place in the lead. -/
structure Ln where
  row : ByteArray
  lead : Int
  at' : Int
/-- Is line i right: in a touch of T leads of N rows, its rows given? -/
def okLn (lt : ByteArray → ByteArray → Bool) (rows : List ByteArray) (N T : Nat) (ls : List Ln) (i : Nat) : Bool :=
  match ls[i]? with
  | none => false
  | some l => (i == 0 || (match ls[i - 1]? with | none => false | some p => lt p.row l.row)) && (decide (l.lead.toNat < T) && (decide (l.at'.toNat < N) && decide (rows[l.lead.toNat * N + l.at'.toNat]? = some l.row)))
structure OkLn (lt : ByteArray → ByteArray → Bool) (rows : List ByteArray) (N T : Nat) (ls : List Ln) (i : Nat) (l : Ln) : Prop where
  prev : 0 < i → ∀ p, ls[i - 1]? = some p → lt p.row l.row = true
  lead : l.lead.toNat < T
  place : l.at'.toNat < N
  row : rows[l.lead.toNat * N + l.at'.toNat]? = some l.row
theorem okLn_iff {lt : ByteArray → ByteArray → Bool} {rows : List ByteArray} {N T : Nat} {ls : List Ln} {i : Nat} {l : Ln} (hl : ls[i]? = some l) : okLn lt rows N T ls i = true ↔ OkLn lt rows N T ls i l := by
  unfold okLn
  rw [hl]
  simp only [Bool.and_eq_true, Bool.or_eq_true, decide_eq_true_eq, beq_iff_eq]
  constructor
  · rintro ⟨h1, h2, h3, h4⟩
    refine ⟨fun hi p hp => ?_, h2, h3, h4⟩
    rcases h1 with h1 | h1
    · omega
    · rw [hp] at h1; exact h1
  · rintro ⟨h1, h2, h3, h4⟩
    refine ⟨?_, h2, h3, h4⟩
    by_cases hi : i = 0
    · exact .inl hi
    · have hlt : i - 1 < ls.length := by have := (List.getElem?_eq_some_iff.1 hl).1; omega
      rw [List.getElem?_eq_getElem hlt]
      exact .inr (h1 (by omega) _ (List.getElem?_eq_getElem hlt))
theorem lt_all {lt : ByteArray → ByteArray → Bool} (htr : ∀ x y z, lt x y = true → lt y z = true → lt x z = true) {rs : List ByteArray} (hs : ∀ i (h : i + 1 < rs.length), lt rs[i] rs[i + 1] = true) : rs.Pairwise (fun a b => lt a b = true) := by
  rw [List.pairwise_iff_getElem]
  intro i j hi hj hij
  obtain ⟨d, rfl⟩ : ∃ d, j = i + 1 + d := ⟨j - i - 1, by omega⟩
  clear hij
  induction d with
  | zero => exact hs i hj
  | succ d ih => exact htr _ _ _ (ih (by omega)) (hs (i + 1 + d) hj)
/-- A proof whose lines are all right is the touch's: its rows are those of the touch, each once, in order. -/
theorem lines_right {lt : ByteArray → ByteArray → Bool} (hirr : ∀ x, lt x x = false) (htr : ∀ x y z, lt x y = true → lt y z = true → lt x z = true) {rows : List ByteArray} {N T : Nat} {ls : List Ln} (hl : ls.length = rows.length) (hok : ∀ i, i < ls.length → okLn lt rows N T ls i = true) :
    rows.Perm (ls.map Ln.row) ∧ rows.Nodup ∧ (ls.map Ln.row).Pairwise (fun a b => lt a b = true) := by
  have hp : (ls.map Ln.row).Pairwise (fun a b => lt a b = true) := by
    apply lt_all htr
    intro i hi
    rw [List.length_map] at hi
    have h1 := (okLn_iff (List.getElem?_eq_getElem hi)).1 (hok (i + 1) hi)
    rw [List.getElem_map, List.getElem_map]
    exact h1.prev (by omega) _ (List.getElem?_eq_getElem (by omega))
  have hd : (ls.map Ln.row).Nodup := hp.imp (fun {a b} h e => by subst e; rw [hirr] at h; cases h)
  have hs : ∀ x, x ∈ ls.map Ln.row → x ∈ rows := by
    intro x hx
    obtain ⟨l, hl, rfl⟩ := List.mem_map.1 hx
    obtain ⟨i, hi, rfl⟩ := List.mem_iff_getElem.1 hl
    exact List.mem_of_getElem? ((okLn_iff (List.getElem?_eq_getElem hi)).1 (hok i hi)).row
  have h := sub_perm_len hd hs (by rw [List.length_map]; omega)
  exact ⟨h, h.nodup_iff.2 hd, hp⟩
/-- A line whose place is moved within a touch of different rows is wrong. -/
theorem moved_bad {lt : ByteArray → ByteArray → Bool} {rows : List ByteArray} {N T : Nat} {ls ls' : List Ln} {i : Nat} {l : Ln} (hd : rows.Nodup) (hl : ls[i]? = some l) (hok : okLn lt rows N T ls i = true) {a : Int} (hl' : ls'[i]? = some ⟨l.row, l.lead, a⟩) (ha : a.toNat ≠ l.at'.toNat) : okLn lt rows N T ls' i = false := by
  have h := (okLn_iff hl).1 hok
  cases e : okLn lt rows N T ls' i with
  | false => rfl
  | true =>
    have h' := (okLn_iff hl').1 e
    have h1 := h.row
    have h2 := h'.row
    simp only at h2
    obtain ⟨g1, e1⟩ := List.getElem?_eq_some_iff.1 h1
    obtain ⟨g2, e2⟩ := List.getElem?_eq_some_iff.1 h2
    have := (List.getElem_inj hd).1 (e1.trans e2.symm)
    omega
/-- Lines ahead of a changed one stay right. -/
theorem kept_ok {lt : ByteArray → ByteArray → Bool} {rows : List ByteArray} {N T : Nat} {ls ls' : List Ln} {n : Nat} (h : ∀ i, i < n → ls'[i]? = ls[i]?) {i : Nat} (hi : i < n) : okLn lt rows N T ls' i = okLn lt rows N T ls i := by
  unfold okLn
  rw [h i hi, h (i - 1) (by omega)]
end Go.Proofs.YtajffjkmmenaoaaGreat

/- Lines of a proof in memory: a row, a lead, a place. -/
namespace Go.Proofs.YtajffjkmmenaoaaGreat
open Go Go.RowKit
set_option linter.unusedVariables false
set_option linter.unusedSimpArgs false

def lnC (l : Ln) : List Value := [.string l.row, .int .i64 l.lead, .int .i64 l.at']
theorem lnC_len (l : Ln) : (lnC l).length = 3 := rfl
def Lns (w : World) (v : Value) (ls : List Ln) : Prop := Sl w 3 v ls.length (ls.flatMap lnC)
theorem Lns.to {w w' : World} {v : Value} {ls : List Ln} (h : Lns w v ls) (hb : Below w.heap.size w w') : Lns w' v ls := Sl.to h hb
theorem lns_of_own {w : World} {base : Nat} {e : TypeId} {v : Value} {ls : List Ln} (h : w.ownsRow base e 3 v ls.length (ls.flatMap lnC)) : Lns w v ls := sl_of_own h
theorem lns_own_v {w : World} {base n : Nat} {e : TypeId} {v : Value} {ls : List Ln} (hl : ls.length = n) (h : w.ownsRow base e 3 v n (ls.flatMap lnC)) : Lns w v ls := by subst hl; exact lns_of_own h
theorem lns_nil (w : World) : Lns w (.slice none 0 0) [] := ⟨none, 0, rfl, Nat.le_refl _, by unfold maxLen; omega, Reads.none_⟩
theorem lns_form {w : World} {v : Value} {ls : List Ln} (h : Lns w v ls) : ∃ A c, v = .slice A ls.length c ∧ ls.length ≤ c ∧ c ≤ maxLen := by obtain ⟨A, c, e, h1, h2, _⟩ := h; exact ⟨A, c, e, h1, h2⟩
theorem lns_el {w : World} {B : Nat} {A : Option Addr} {ls : List Ln} {n : Nat} (hr : Reads w B 3 A n (ls.flatMap lnC)) (hn : n = ls.length) {k : Nat} (hk : k < ls.length) :
    ∃ ad, A = some ad ∧ ∀ w', Below B w w' → w'.cell? (ad.add (k * 3)) = some (.string ls[k].row) ∧ w'.cell? ⟨(ad.add (k * 3)).block, (ad.add (k * 3)).off + 1, none⟩ = some (.int .i64 ls[k].lead) ∧
      w'.cell? ⟨(ad.add (k * 3)).block, (ad.add (k * 3)).off + 2, none⟩ = some (.int .i64 ls[k].at') := by
  subst hn
  obtain ⟨ad, e, h⟩ := hr.el (fun _ _ => rfl) hk
  refine ⟨ad, e, fun w' hb => ⟨?_, ?_, ?_⟩⟩
  · have := h w' hb 0 _ (by omega) rfl; rwa [add_zero'] at this
  · exact h w' hb 1 _ (by omega) rfl
  · exact h w' hb 2 _ (by omega) rfl
theorem lns_fromG {w : World} {ad : Addr} {c k n : Nat} {ls : List Ln} (h : Lns w (.slice (some ad) n c) ls) (hn : ls.length = n) (hk : k ≤ n) : Lns w (.slice (if c = k then some ad else some (ad.add (k * 3))) (n - k) (c - k)) (ls.drop k) := by
  subst hn
  obtain ⟨A', c', hA, h1, h2, hr⟩ := h
  cases hA
  have hc := hr.cut (k := k) (cap := c) (by omega) h1
  refine ⟨_, c - k, by rw [List.length_drop], by rw [List.length_drop]; omega, by omega, ?_⟩
  have e2 : (if c = k then some ad else some (ad.add (k * 3))) = (if c = k then some ad else (some ad).map (·.add (k * 3))) := by simp
  have e3 : (ls.drop k).flatMap lnC = (ls.flatMap lnC).drop (k * 3) := by
    conv => rhs; rw [← List.take_append_drop k ls]
    have hlt : ((ls.take k).flatMap lnC).length = k * 3 := by rw [flat_length (C := lnC) (sz := 3) (fun _ _ => rfl), List.length_take]; congr 1; omega
    rw [List.flatMap_append, ← hlt, List.drop_left]
  rw [e2, List.length_drop, e3]
  exact hc
/-- A text of one to eight digits. -/
def digB (s : ByteArray) : Bool := s.data.toList.all (fun c => decide (48 ≤ c.toNat ∧ c.toNat ≤ 57)) && decide (1 ≤ s.size ∧ s.size ≤ 8)
def lnB (l : Ln) : Bool := digB l.row && (decide (0 ≤ l.lead ∧ l.lead ≤ 60) && decide (0 ≤ l.at' ∧ l.at' ≤ 40))
/-- The form of a proof. -/
def shapeB (hs : List ByteArray) (ls : List Ln) : Bool := decide (hs.length ≤ 61) && decide (ls.length ≤ 800) && (hs.all digB && ls.all lnB)
/-- Are the heads those of a touch that comes round? -/
def headsOk (m : Mt) (k : Cl) (t : ByteArray) (hs : List ByteArray) : Bool := decide (hs = headsT m k t) && decide (endT m k t = roundsB m.stage.toNat)
/-- Where a proof lies: -1 nowhere, 0 the heads, 1 the number of lines, 2 + i line i. -/
def lieZ (m : Mt) (k : Cl) (t : ByteArray) (hs : List ByteArray) (ls : List Ln) : Int :=
  if headsOk m k t hs then (if ls.length = t.size * m.l.length then (match badAt (okLn nmLt (rowsT m k t) m.l.length t.size ls) ls.length with | none => -1 | some i => (i : Int) + 2) else 1) else 0
end Go.Proofs.YtajffjkmmenaoaaGreat

/- The lines of the made proof are right, and no others are. -/
namespace Go.Proofs.YtajffjkmmenaoaaGreat
open Go Go.RowKit
set_option linter.unusedVariables false
set_option linter.unusedSimpArgs false

/-- The line of a row of a touch whose leads have N rows. -/
def lnOf (N : Nat) (rows : List ByteArray) (r : ByteArray) : Ln := ⟨r, ((idxB r rows / N : Nat) : Int), ((idxB r rows % N : Nat) : Int)⟩
/-- The lines of the proof. -/
def lnsOf (N : Nat) (rows : List ByteArray) : List Ln := (sortB rows).map (lnOf N rows)
theorem lnsOf_len (N : Nat) (rows : List ByteArray) : (lnsOf N rows).length = rows.length := by unfold lnsOf; rw [List.length_map, sortB_len]
theorem sorted_lt {l : List ByteArray} (hs : SortedS l) (hd : l.Nodup) : l.Pairwise (fun a b => nmLt a b = true) := by
  refine (hs.and hd).imp ?_
  rintro a b ⟨h1, h2⟩
  cases e : nmLt a b with
  | true => rfl
  | false => exact absurd (sl_tot e h1) h2
/-- All lines of the made proof are right. -/
theorem lns_ok {N T : Nat} {rows : List ByteArray} (hd : rows.Nodup) (hN : 0 < N) (hT : rows.length = T * N) : ∀ i, i < (lnsOf N rows).length → okLn nmLt rows N T (lnsOf N rows) i = true := by
  intro i hi
  have hs := List.pairwise_iff_getElem.1 (sorted_lt (sortB_sorted rows) ((nodup_perm (sortB_perm rows)).2 hd))
  have hi2 : i < (sortB rows).length := by rw [lnsOf_len] at hi; rw [sortB_len]; exact hi
  have e : (lnsOf N rows)[i]? = some (lnOf N rows (sortB rows)[i]) := by
    unfold lnsOf
    rw [List.getElem?_map, List.getElem?_eq_getElem hi2]; rfl
  rw [okLn_iff e]
  have hm : (sortB rows)[i] ∈ rows := (sortB_perm rows).mem_iff.1 (List.getElem_mem hi2)
  obtain ⟨g1, g2⟩ := idxB_mem hm
  refine ⟨fun h0 p hp => ?_, ?_, ?_, ?_⟩
  · have hi3 : i - 1 < (sortB rows).length := by omega
    have e3 : (lnsOf N rows)[i - 1]? = some (lnOf N rows (sortB rows)[i - 1]) := by
      unfold lnsOf
      rw [List.getElem?_map, List.getElem?_eq_getElem hi3]; rfl
    rw [e3] at hp
    injection hp with hp
    subst hp
    exact hs (i - 1) i hi3 hi2 (by omega)
  · show (((idxB _ rows / N : Nat) : Int)).toNat < T
    rw [Int.toNat_natCast, Nat.div_lt_iff_lt_mul hN, ← hT]
    exact g1
  · show (((idxB _ rows % N : Nat) : Int)).toNat < N
    rw [Int.toNat_natCast]
    exact Nat.mod_lt _ hN
  · show rows[(((idxB _ rows / N : Nat) : Int)).toNat * N + (((idxB _ rows % N : Nat) : Int)).toNat]? = some _
    rw [Int.toNat_natCast, Int.toNat_natCast, Nat.mul_comm, Nat.div_add_mod, List.getElem?_eq_getElem g1, g2]
    rfl
/-- Lines that are all right are those of the made proof. -/
theorem lns_only {N T : Nat} {rows : List ByteArray} {ls : List Ln} (hl : ls.length = rows.length) (hpos : ∀ l ∈ ls, 0 ≤ l.lead ∧ 0 ≤ l.at') (hok : ∀ i, i < ls.length → okLn nmLt rows N T ls i = true) : rows.Nodup ∧ ls = lnsOf N rows := by
  obtain ⟨h1, h2, h3⟩ := lines_right sl_irr (fun x y z => sl_trans) hl hok
  refine ⟨h2, ?_⟩
  have hs : SortedS (ls.map Ln.row) := h3.imp (fun h => sl_asym h)
  have e : ls.map Ln.row = sortB rows := sorted_uniq h1.symm hs
  apply List.ext_getElem?
  intro i
  unfold lnsOf
  rw [← e, List.map_map, List.getElem?_map]
  by_cases hi : i < ls.length
  · rw [List.getElem?_eq_getElem hi]
    have g := (okLn_iff (List.getElem?_eq_getElem hi)).1 (hok i hi)
    obtain ⟨p1, p2⟩ := hpos _ (List.getElem_mem hi)
    obtain ⟨q1, q2⟩ := List.getElem?_eq_some_iff.1 g.row
    have hix := idxB_get h2 _ q1
    rw [q2] at hix
    obtain ⟨row, lead, at', hv⟩ : ∃ row lead at', ls[i] = ⟨row, lead, at'⟩ := ⟨_, _, _, rfl⟩
    rw [hv] at hix p1 p2 g ⊢
    have hp := g.place
    show some (Ln.mk row lead at') = some (lnOf N rows row)
    unfold lnOf
    rw [hix]
    simp only at p1 p2 hp ⊢
    have hN : 0 < N := by omega
    rw [Nat.add_comm, Nat.add_mul_div_right _ _ hN, Nat.div_eq_of_lt hp, Nat.add_mul_mod_self_right, Nat.mod_eq_of_lt hp, Nat.zero_add, Int.toNat_of_nonneg p1, Int.toNat_of_nonneg p2]
  · rw [List.getElem?_eq_none (by omega)]; rfl
end Go.Proofs.YtajffjkmmenaoaaGreat
