/- The making of a proof, the reference's: plain facts, a row of numbers of the call's own. -/
import Derived.Test.YtjiiflpoiaaccaaGreatPk24
import Derived.Test.YtjiiflpoiaaccaaGreatPk14
namespace Go.Proofs.YtjiiflpoiaaccaaGreat
open Go Go.RowKit
set_option linter.unusedVariables false
set_option linter.unusedSimpArgs false

theorem scan_perm {n : Nat} (hn : n ≤ 8) : ∀ (cs : List ByteArray) {r : ByteArray}, RowIn n r → PermR n r → ∀ x ∈ scanB r cs, PermR n x
  | [], r, hi, hr, x, hx => by rw [List.mem_singleton.1 hx]; exact hr
  | c :: cs, r, hi, hr, x, hx => by
    rw [scanB] at hx
    rcases List.mem_cons.1 hx with rfl | hx
    · exact hr
    · exact scan_perm hn cs (apply_in hn hi c) (run_perm hn [c] hi hr) x hx
theorem lead_permL {n : Nat} (hn : n ≤ 8) (cs : List ByteArray) {r : ByteArray} (hi : RowIn n r) (hr : PermR n r) : ∀ x ∈ leadB r cs, PermR n x := fun x hx => scan_perm hn cs hi hr x (List.mem_of_mem_take hx)
theorem heads_perm {n : Nat} (hn : n ≤ 8) {f : UInt8 → ByteArray} (hf : ∀ c, PermR n (f c)) : ∀ (t : List UInt8) {h : ByteArray}, PermR n h → ∀ x ∈ headsB f h t, PermR n x
  | [], h, hh, x, hx => by rw [List.mem_singleton.1 hx]; exact hh
  | c :: t, h, hh, x, hx => by
    rw [headsB] at hx
    rcases List.mem_cons.1 hx with rfl | hx
    · exact hh
    · exact heads_perm hn hf t (PermR.times hn hh (hf c)) x hx
theorem headsT_perm {m : Mt} {k : Cl} {n : Nat} (h : MGood m n) (t : ByteArray) : ∀ x ∈ headsT m k t, PermR n x := by
  rw [headsT_n h.st]
  exact heads_perm h.hi (fun c => run_perm h.hi _ (rounds_in h.hi) (PermR.rounds h.hi)) _ (PermR.rounds h.hi)
theorem rowsT_perm {m : Mt} {k : Cl} {n : Nat} (h : MGood m n) (t : ByteArray) : ∀ x ∈ rowsT m k t, PermR n x := by
  intro x hx
  unfold rowsT rowsB at hx
  obtain ⟨y, hy, hx⟩ := List.mem_flatMap.1 hx
  have hy' := List.mem_of_mem_take hy
  exact lead_permL h.hi _ (headsT_in h t y hy') (headsT_perm h t y hy') x hx
theorem rows_get {l : List ByteArray} : ∀ (hs : List ByteArray) (i j : Nat) (hi : i < hs.length), j < l.length → (rowsB l hs)[i * l.length + j]? = (leadB hs[i] l)[j]?
  | h :: hs, 0, j, _, hj => by
    unfold rowsB
    rw [List.flatMap_cons, List.getElem?_append_left (by rw [lead_len]; omega)]
    simp
  | h :: hs, i + 1, j, hi, hj => by
    have ih := rows_get hs i j (by simpa using hi) hj
    unfold rowsB at ih ⊢
    rw [List.flatMap_cons, List.getElem?_append_right (by rw [lead_len, Nat.succ_mul]; omega), lead_len]
    have e : (i + 1) * l.length + j - l.length = i * l.length + j := by rw [Nat.succ_mul]; omega
    rw [e]
    exact ih
/-- A row of numbers of the call's own. -/
def SI (W : World) (base g N : Nat) (f : Nat → Int) : Prop := W.ownsRow base 3 1 (.slice (some ⟨g, 0, none⟩) N N) N ((List.range N).map fun i => Value.int .i64 (f i))
theorem SI.cell {W : World} {base g N : Nat} {f : Nat → Int} (h : SI W base g N f) {i : Nat} (hi : i < N) : W.cell? ⟨g, i, none⟩ = some (.int .i64 (f i)) := by
  rw [h.cellAt i (by omega), List.getElem?_map, List.getElem?_eq_getElem (by simpa using hi)]; simp
theorem SI.free {W : World} {base g N : Nat} {f : Nat → Int} (h : SI W base g N f) (i : Nat) : W.frozen? ⟨g, i, none⟩ = false := h.frozenAt i
theorem SI.to {W W' : World} {base g N : Nat} {f : Nat → Int} (h : SI W base g N f) (hb : Below W.heap.size W W') : SI W' base g N f := own_to h hb
theorem SI.low {W W' : World} {base g N B : Nat} {f : Nat → Int} (h : SI W base g N f) (hb : Below B W W') (hg : g < B) : SI W' base g N f := own_blk h (hb.block g hg)
theorem SB.low {W W' : World} {base g N B : Nat} {f : Nat → Bool} (h : SB W base g N f) (hb : Below B W W') (hg : g < B) : SB W' base g N f := own_blk h (hb.block g hg)
theorem SB.past {W : World} {base g N g' : Nat} {f : Nat → Bool} (h : SB W base g N f) (hne : g ≠ g') (j : Nat) (u : Value) : SB (W.setCell ⟨g', j, none⟩ u) base g N f := own_set_past' h (.inr (fun e => hne (by injection e))) j u
theorem SI.past {W : World} {base g N g' : Nat} {f : Nat → Int} (h : SI W base g N f) (hne : g ≠ g') (j : Nat) (u : Value) : SI (W.setCell ⟨g', j, none⟩ u) base g N f := own_set_past' h (.inr (fun e => hne (by injection e))) j u
theorem SI.set {W : World} {base g N : Nat} {f : Nat → Int} (h : SI W base g N f) {i : Nat} (hi : i < N) (v : Int) : SI (W.setCell ⟨g, i, none⟩ (.int .i64 v)) base g N (fun j => if j = i then v else f j) := by
  have h2 := own_set h i (.int .i64 v)
  unfold SI
  have e : ((List.range N).map fun j => Value.int .i64 (f j)).set i (.int .i64 v) = (List.range N).map fun j => Value.int .i64 (if j = i then v else f j) := by
    apply List.ext_getElem?
    intro j
    rw [List.getElem?_set, List.getElem?_map, List.getElem?_map]
    simp only [List.length_map, List.length_range]
    by_cases hij : i = j
    · subst hij
      rw [if_pos rfl, if_pos hi, List.getElem?_eq_getElem (by simpa using hi)]
      simp
    · rw [if_neg hij]
      by_cases hj : j < N
      · rw [List.getElem?_eq_getElem (by simpa using hj)]
        simp only [Option.map_some, List.getElem_range]
        rw [if_neg (fun e => hij e.symm)]
      · rw [List.getElem?_eq_none (by simpa using hj)]; rfl
  rw [← e]
  exact h2
/-- Each row met so far has its lead and its place laid down. -/
def LeadOf (N : Nat) (R : List ByteArray) (q : Nat) (f : Nat → Int) : Prop := ∀ p (hp : p < R.length), p < q → f (placeB R[p]) = ((p / N * 40 + p % N : Nat) : Int)
theorem LeadOf.zero (N : Nat) (R : List ByteArray) (f : Nat → Int) : LeadOf N R 0 f := fun p _ h => absurd h (Nat.not_lt_zero _)
theorem LeadOf.put {n N : Nat} {R : List ByteArray} {q : Nat} {f : Nat → Int} (h : LeadOf N R q f) (hR : ∀ x ∈ R, PermR n x) (hq : q < R.length) (hn : R[q] ∉ R.take q) : LeadOf N R (q + 1) (fun j => if j = placeB R[q] then ((q / N * 40 + q % N : Nat) : Int) else f j) := by
  intro p hp hpq
  by_cases e : p = q
  · subst e; simp
  · have hne : placeB R[p] ≠ placeB R[q] := fun he => by
      have h2 := place_inj (hR _ (List.getElem_mem hp)) (hR _ (List.getElem_mem hq)) he
      apply hn
      rw [← h2, List.mem_iff_getElem]
      exact ⟨p, by rw [List.length_take]; omega, by rw [List.getElem_take]⟩
    show (if placeB R[p] = placeB R[q] then _ else _) = _
    rw [if_neg hne]
    exact h p hp (by omega)
theorem idxB_mem : ∀ {l : List ByteArray} {r : ByteArray}, r ∈ l → ∃ h : idxB r l < l.length, l[idxB r l] = r
  | x :: l, r, h => by
    by_cases e : x = r
    · subst e; exact ⟨by simp [idxB], by simp [idxB]⟩
    · have hr : r ∈ l := by
        rcases List.mem_cons.1 h with h | h
        · exact absurd h.symm e
        · exact h
      obtain ⟨h1, h2⟩ := idxB_mem hr
      have e2 : idxB r (x :: l) = idxB r l + 1 := by rw [idxB, if_neg e]
      refine ⟨by rw [e2, List.length_cons]; omega, ?_⟩
      simp only [e2, List.getElem_cons_succ]
      exact h2
theorem info_int2 : (Tryz.prog.info? 3).map (fun i => (i.zero, i.size, i.bytes)) = some (some (.int .i64 0), 1, 8) := by kernel_rfl
theorem zeros_si (N : Nat) : (madeCells (Value.int .i64 0).cells N).toList = (List.range N).map fun _ => Value.int .i64 0 := by
  rw [show (Value.int .i64 0).cells = #[.int .i64 0] from rfl, made_rep]
  apply List.ext_getElem?
  intro i
  rw [List.getElem?_map]
  by_cases hi : i < N
  · rw [List.getElem?_eq_getElem (by simpa using hi), List.getElem?_eq_getElem (by simpa using hi)]; simp
  · rw [List.getElem?_eq_none (by simpa using hi), List.getElem?_eq_none (by simpa using hi)]; rfl
end Go.Proofs.YtjiiflpoiaaccaaGreat

/- The repair of a touch: a plain account. -/
namespace Go.Proofs.YtjiiflpoiaaccaaGreat
open Go Go.RowKit
set_option linter.unusedVariables false
set_option linter.unusedSimpArgs false

def visitAll (S xs : List ByteArray) : List ByteArray := xs.foldl visitB S
theorem va_cons (S : List ByteArray) (x : ByteArray) (xs : List ByteArray) : visitAll S (x :: xs) = visitAll (visitB S x) xs := rfl
theorem va_snoc (S xs : List ByteArray) (x : ByteArray) : visitAll S (xs ++ [x]) = visitB (visitAll S xs) x := by simp [visitAll]
theorem va_pre : ∀ (xs S : List ByteArray), S <+: visitAll S xs
  | [], S => List.prefix_refl _
  | x :: xs, S => (visit_pre S x).trans (va_pre xs (visitB S x))
theorem va_nodup : ∀ (xs : List ByteArray) {S : List ByteArray}, S.Nodup → (visitAll S xs).Nodup
  | [], S, h => h
  | x :: xs, S, h => va_nodup xs (visit_nodup h x)
theorem visit_iff (L : List ByteArray) (x z : ByteArray) : z ∈ visitB L x ↔ z ∈ L ∨ z = x := by
  unfold visitB
  by_cases h : x ∈ L
  · rw [if_pos h]
    constructor
    · exact .inl
    · rintro (h1 | rfl)
      · exact h1
      · exact h
  · rw [if_neg h]; simp
theorem va_mem : ∀ (xs S : List ByteArray) (z : ByteArray), z ∈ visitAll S xs ↔ z ∈ S ∨ z ∈ xs
  | [], S, z => by simp [visitAll]
  | x :: xs, S, z => by rw [va_cons, va_mem xs, visit_iff, List.mem_cons, or_assoc]
theorem va_len : ∀ (xs S : List ByteArray), (visitAll S xs).length ≤ S.length + xs.length
  | [], S => by simp [visitAll]
  | x :: xs, S => by
    have h := va_len xs (visitB S x)
    have h2 : (visitB S x).length ≤ S.length + 1 := by
      unfold visitB
      by_cases h : x ∈ S
      · rw [if_pos h]; omega
      · rw [if_neg h]; simp
    rw [va_cons, List.length_cons]; omega
/-- What is new behind a list. -/
def newsB (S xs : List ByteArray) : List ByteArray := (visitAll S xs).drop S.length
theorem news_app (S xs : List ByteArray) : S ++ newsB S xs = visitAll S xs := by
  obtain ⟨r, hr⟩ := va_pre xs S
  unfold newsB
  rw [← hr, List.drop_left]
theorem news_nodup {S : List ByteArray} (h : S.Nodup) (xs : List ByteArray) : (newsB S xs).Nodup := by
  have h1 := va_nodup xs h
  rw [← news_app, List.nodup_append] at h1
  exact h1.2.1
theorem news_mem {S : List ByteArray} (h : S.Nodup) (xs : List ByteArray) (z : ByteArray) : z ∈ newsB S xs ↔ z ∈ xs ∧ z ∉ S := by
  have h1 := va_nodup xs h
  rw [← news_app, List.nodup_append] at h1
  have h2 := va_mem xs S z
  rw [← news_app, List.mem_append] at h2
  constructor
  · intro hz
    have hns : z ∉ S := fun hS => h1.2.2 z hS z hz rfl
    rcases h2.1 (.inr hz) with h3 | h3
    · exact absurd h3 hns
    · exact ⟨h3, hns⟩
  · rintro ⟨hz, hn⟩
    rcases h2.2 (.inr hz) with h3 | h3
    · exact absurd h3 hn
    · exact h3
def prodsB (hs L : List ByteArray) : List ByteArray := L.flatMap fun r => hs.map (timesB r)
theorem prods_mem {hs L : List ByteArray} {z : ByteArray} : z ∈ prodsB hs L ↔ ∃ r ∈ L, ∃ h ∈ hs, timesB r h = z := by
  unfold prodsB
  rw [List.mem_flatMap]
  constructor
  · rintro ⟨r, hr, hz⟩
    obtain ⟨h, hh, e⟩ := List.mem_map.1 hz
    exact ⟨r, hr, h, hh, e⟩
  · rintro ⟨r, hr, h, hh, e⟩
    exact ⟨r, hr, List.mem_map.2 ⟨h, hh, e⟩⟩
theorem prods_take {hs L : List ByteArray} {k : Nat} (h : k < L.length) : prodsB hs (L.take (k + 1)) = prodsB hs (L.take k) ++ hs.map (timesB L[k]) := by
  unfold prodsB; rw [List.take_succ_eq_append_getElem h, List.flatMap_append]; simp
theorem prods_len (hs : List ByteArray) : ∀ L : List ByteArray, (prodsB hs L).length = L.length * hs.length
  | [] => by simp [prodsB]
  | r :: L => by
    have ih := prods_len hs L
    unfold prodsB at ih ⊢
    rw [List.flatMap_cons, List.length_append, ih, List.length_map, List.length_cons, Nat.succ_mul, Nat.add_comm]
/-- The layers, and what is seen with each. -/
def lsR (hs : List ByteArray) (fr : ByteArray) : Nat → List ByteArray × List ByteArray
  | 0 => ([fr], [fr])
  | i + 1 => (sortB (newsB (lsR hs fr i).2 (prodsB hs (lsR hs fr i).1)), visitAll (lsR hs fr i).2 (prodsB hs (lsR hs fr i).1))
def layR (hs : List ByteArray) (fr : ByteArray) (i : Nat) : List ByteArray := (lsR hs fr i).1
def seenR (hs : List ByteArray) (fr : ByteArray) (i : Nat) : List ByteArray := (lsR hs fr i).2
theorem layR_succ (hs : List ByteArray) (fr : ByteArray) (i : Nat) : layR hs fr (i + 1) = sortB (newsB (seenR hs fr i) (prodsB hs (layR hs fr i))) := rfl
theorem seenR_succ (hs : List ByteArray) (fr : ByteArray) (i : Nat) : seenR hs fr (i + 1) = visitAll (seenR hs fr i) (prodsB hs (layR hs fr i)) := rfl
theorem seenR_nodup (hs : List ByteArray) (fr : ByteArray) : ∀ i, (seenR hs fr i).Nodup
  | 0 => by simp [seenR, lsR]
  | i + 1 => by rw [seenR_succ]; exact va_nodup _ (seenR_nodup hs fr i)
theorem layR_new {hs : List ByteArray} {fr : ByteArray} {i : Nat} {z : ByteArray} : z ∈ layR hs fr (i + 1) ↔ z ∈ prodsB hs (layR hs fr i) ∧ z ∉ seenR hs fr i := by
  rw [layR_succ, sortB_mem]; exact news_mem (seenR_nodup hs fr i) _ _
theorem layR_nodup (hs : List ByteArray) (fr : ByteArray) : ∀ i, (layR hs fr i).Nodup
  | 0 => by simp [layR, lsR]
  | i + 1 => by rw [layR_succ]; exact sortB_nodup (news_nodup (seenR_nodup hs fr i) _)
theorem layR_sorted (hs : List ByteArray) (fr : ByteArray) (i : Nat) : SortedS (layR hs fr (i + 1)) := by rw [layR_succ]; exact sortB_sorted _
theorem seenR_mem {hs : List ByteArray} {fr : ByteArray} : ∀ (k : Nat) (z : ByteArray), z ∈ seenR hs fr k ↔ ∃ i, i ≤ k ∧ z ∈ layR hs fr i
  | 0, z => by
    constructor
    · intro h; exact ⟨0, by omega, h⟩
    · rintro ⟨i, hi, h⟩
      obtain rfl : i = 0 := by omega
      exact h
  | k + 1, z => by
    have ih := seenR_mem (hs := hs) (fr := fr) k z
    rw [seenR_succ, va_mem]
    constructor
    · rintro (h | h)
      · obtain ⟨i, hi, h2⟩ := ih.1 h
        exact ⟨i, by omega, h2⟩
      · by_cases hs' : z ∈ seenR hs fr k
        · obtain ⟨i, hi, h2⟩ := ih.1 hs'
          exact ⟨i, by omega, h2⟩
        · exact ⟨k + 1, by omega, layR_new.2 ⟨h, hs'⟩⟩
    · rintro ⟨i, hi, h⟩
      by_cases e : i = k + 1
      · subst e; exact .inr (layR_new.1 h).1
      · exact .inl (ih.2 ⟨i, by omega, h⟩)
theorem layR_apart {hs : List ByteArray} {fr z : ByteArray} {i j : Nat} (hi : z ∈ layR hs fr i) (hj : z ∈ layR hs fr j) : i = j := by
  have key : ∀ a b, a < b → z ∈ layR hs fr a → z ∈ layR hs fr b → False := fun a b hab ha hb => by
    obtain ⟨c, rfl⟩ : ∃ c, b = c + 1 := ⟨b - 1, by omega⟩
    exact (layR_new.1 hb).2 ((seenR_mem c z).2 ⟨a, by omega, ha⟩)
  rcases Nat.lt_trichotomy i j with h | h | h
  · exact (key i j h hi hj).elim
  · exact h
  · exact (key j i h hj hi).elim
theorem layR_step {hs : List ByteArray} {fr x h : ByteArray} {i : Nat} (hx : x ∈ layR hs fr i) (hh : h ∈ hs) : ∃ k, k ≤ i + 1 ∧ timesB x h ∈ layR hs fr k := by
  have h1 : timesB x h ∈ seenR hs fr (i + 1) := by
    rw [seenR_succ, va_mem]
    exact .inr (prods_mem.2 ⟨x, hx, h, hh, rfl⟩)
  obtain ⟨k, hk, h2⟩ := (seenR_mem (i + 1) _).1 h1
  exact ⟨k, hk, h2⟩
theorem layR_pred {hs : List ByteArray} {fr y : ByteArray} {i : Nat} (hy : y ∈ layR hs fr (i + 1)) : ∃ x ∈ layR hs fr i, ∃ h ∈ hs, timesB x h = y := prods_mem.1 (layR_new.1 hy).1
theorem seenR_len (hs : List ByteArray) (fr : ByteArray) (i : Nat) : (seenR hs fr (i + 1)).length = (seenR hs fr i).length + (layR hs fr (i + 1)).length := by
  rw [layR_succ, sortB_len, seenR_succ, ← news_app, List.length_append]
theorem layR_le (hs : List ByteArray) (fr : ByteArray) : ∀ i, (layR hs fr i).length ≤ (seenR hs fr i).length
  | 0 => by simp [layR, seenR, lsR]
  | i + 1 => by rw [seenR_len]; omega
/-- How many steps the search takes. -/
def repGo (hs : List ByteArray) (fr tg : ByteArray) : Nat → Nat → Option Nat
  | 0, _ => none
  | f + 1, i => if 800 < (seenR hs fr i).length then none else if tg ∈ layR hs fr (i + 1) then some (i + 1) else repGo hs fr tg f (i + 1)
def repB (hs : List ByteArray) (fr tg : ByteArray) : Option Nat := repGo hs fr tg 8 0
theorem repGo_some {hs : List ByteArray} {fr tg : ByteArray} : ∀ (f i N : Nat), repGo hs fr tg f i = some N → i < N ∧ N ≤ i + f ∧ tg ∈ layR hs fr N ∧ (seenR hs fr (N - 1)).length ≤ 800
  | 0, i, N, h => by cases h
  | f + 1, i, N, h => by
    rw [repGo] at h
    by_cases h1 : 800 < (seenR hs fr i).length
    · rw [if_pos h1] at h; cases h
    · rw [if_neg h1] at h
      by_cases h2 : tg ∈ layR hs fr (i + 1)
      · rw [if_pos h2] at h
        cases h
        exact ⟨by omega, by omega, h2, by simpa using Nat.not_lt.1 h1⟩
      · rw [if_neg h2] at h
        obtain ⟨h3, h4, h5, h6⟩ := repGo_some f (i + 1) N h
        exact ⟨by omega, by omega, h5, h6⟩
/-- The least touch of n calls that leads there. -/
def leastB (F : UInt8 → ByteArray) (tg : ByteArray) : Nat → ByteArray → Option (List UInt8)
  | 0, r => if r = tg then some [] else none
  | n + 1, r => match leastB F tg n (timesB r (F 98)) with
    | some t => some (98 :: t)
    | none => match leastB F tg n (timesB r (F 112)) with
      | some t => some (112 :: t)
      | none => match leastB F tg n (timesB r (F 115)) with
        | some t => some (115 :: t)
        | none => none
def headsR (F : UInt8 → ByteArray) : List ByteArray := [F 112, F 98, F 115]
theorem least_step {F : UInt8 → ByteArray} {tg : ByteArray} {n : Nat} {r : ByteArray} : (leastB F tg (n + 1) r).isSome = true ↔ ∃ h ∈ headsR F, (leastB F tg n (timesB r h)).isSome = true := by
  rw [leastB]
  unfold headsR
  cases h1 : leastB F tg n (timesB r (F 98))
  · cases h2 : leastB F tg n (timesB r (F 112))
    · cases h3 : leastB F tg n (timesB r (F 115))
      · simp [h1, h2, h3]
      · simp [h1, h2, h3]
    · simp [h1, h2]
  · simp [h1]
/-- From a layer no row leads there faster. -/
theorem least_far {F : UInt8 → ByteArray} {fr tg : ByteArray} {N : Nat} (ht : tg ∈ layR (headsR F) fr N) : ∀ (d k : Nat) (x : ByteArray), x ∈ layR (headsR F) fr k → (leastB F tg d x).isSome = true → N ≤ k + d
  | 0, k, x, hx, h => by
    rw [leastB] at h
    by_cases e : x = tg
    · subst e; have := layR_apart hx ht; omega
    · rw [if_neg e] at h; cases h
  | d + 1, k, x, hx, h => by
    obtain ⟨g, hg, h2⟩ := least_step.1 h
    obtain ⟨j, hj, hy⟩ := layR_step hx hg
    have := least_far ht d j _ hy h2
    omega
/-- The rows from which the way on leads there. -/
def goodR (F : UInt8 → ByteArray) (fr tg : ByteArray) (N i : Nat) (r : ByteArray) : Prop := r ∈ layR (headsR F) fr i ∧ (leastB F tg (N - i) r).isSome = true
theorem goodR_top {F : UInt8 → ByteArray} {fr tg : ByteArray} {N : Nat} (ht : tg ∈ layR (headsR F) fr N) (r : ByteArray) : goodR F fr tg N N r ↔ r = tg := by
  unfold goodR
  rw [Nat.sub_self, leastB]
  constructor
  · rintro ⟨_, h⟩
    by_cases e : r = tg
    · exact e
    · rw [if_neg e] at h; cases h
  · rintro rfl
    exact ⟨ht, by simp⟩
theorem goodR_next {F : UInt8 → ByteArray} {fr tg : ByteArray} {N i : Nat} (ht : tg ∈ layR (headsR F) fr N) (hi : i < N) {r h : ByteArray} (hr : r ∈ layR (headsR F) fr i) (hh : h ∈ headsR F) : goodR F fr tg N (i + 1) (timesB r h) ↔ (leastB F tg (N - (i + 1)) (timesB r h)).isSome = true := by
  constructor
  · exact fun h => h.2
  · intro h2
    obtain ⟨k, hk, hy⟩ := layR_step hr hh
    have := least_far ht _ k _ hy h2
    obtain rfl : k = i + 1 := by omega
    exact ⟨hy, h2⟩
theorem goodR_step {F : UInt8 → ByteArray} {fr tg : ByteArray} {N i : Nat} (ht : tg ∈ layR (headsR F) fr N) (hi : i < N) {r : ByteArray} (hr : r ∈ layR (headsR F) fr i) : goodR F fr tg N i r ↔ ∃ h ∈ headsR F, goodR F fr tg N (i + 1) (timesB r h) := by
  have e : N - i = N - (i + 1) + 1 := by omega
  have h1 : goodR F fr tg N i r ↔ (leastB F tg (N - (i + 1) + 1) r).isSome = true := by
    unfold goodR; rw [e]
    exact ⟨fun h => h.2, fun h => ⟨hr, h⟩⟩
  rw [h1, least_step]
  constructor
  · rintro ⟨h, hh, h2⟩; exact ⟨h, hh, (goodR_next ht hi hr hh).2 h2⟩
  · rintro ⟨h, hh, h2⟩; exact ⟨h, hh, h2.2⟩
theorem goodR_from {F : UInt8 → ByteArray} {fr tg : ByteArray} {N : Nat} (ht : tg ∈ layR (headsR F) fr N) : ∀ d, d ≤ N → ∃ r ∈ layR (headsR F) fr (N - d), (leastB F tg d r).isSome = true
  | 0, _ => ⟨tg, by simpa using ht, by simp [leastB]⟩
  | d + 1, hd => by
    obtain ⟨y, hy, h⟩ := goodR_from ht d (by omega)
    have e : N - d = N - (d + 1) + 1 := by omega
    rw [e] at hy
    obtain ⟨x, hx, g, hg, rfl⟩ := layR_pred hy
    exact ⟨x, hx, least_step.2 ⟨g, hg, h⟩⟩
theorem least_from {F : UInt8 → ByteArray} {fr tg : ByteArray} {N : Nat} (ht : tg ∈ layR (headsR F) fr N) : (leastB F tg N fr).isSome = true := by
  obtain ⟨r, hr, h⟩ := goodR_from ht N (Nat.le_refl _)
  rw [Nat.sub_self] at hr
  have e : r = fr := by simpa [layR, lsR] using hr
  rw [← e]; exact h
/-- The repair's answer. -/
def mendB (F : UInt8 → ByteArray) (fr tg : ByteArray) : Option (List UInt8) := match repB (headsR F) fr tg with
  | some N => leastB F tg N fr
  | none => none
end Go.Proofs.YtjiiflpoiaaccaaGreat
