/- Contracts of small functions on numbers and words. -/
import Derived.Test.YtenhnloljdfjhaaDoorPk1
namespace Go.Proofs.YtenhnloljdfjhaaDoor
open Go Go.RowKit
set_option linter.unusedVariables false
set_option linter.unusedSimpArgs false

def letter (c : UInt8) : Bool := decide (97 ≤ (c.toNat : Int) ∧ (c.toNat : Int) ≤ 122)
def wordB (l : List UInt8) : Bool := l.all letter && decide (1 ≤ l.length ∧ l.length ≤ 10)


theorem letter_no1 {c : UInt8} (h : (c.toNat : Int) < 97) : letter c = false := by unfold letter; simp; omega
theorem letter_no2 {c : UInt8} (h : 122 < (c.toNat : Int)) : letter c = false := by unfold letter; simp; omega
theorem letter_yes {c : UInt8} (h1 : ¬ (c.toNat : Int) < 97) (h2 : (c.toNat : Int) ≤ 122) : letter c = true := by unfold letter; simp; omega
theorem word_no {l : List UInt8} {k : Nat} (hk : k < l.length) (h : letter l[k] = false) : wordB l = false := by unfold wordB; rw [all_false hk h]; rfl
theorem word_end {s : ByteArray} {k : Nat} {b : Bool} (hk : k ≤ s.size) (hn : ¬ k < s.size) (h : (s.data.toList.take k).all letter = true) (hb : b = decide (1 ≤ (s.size : Int) ∧ (s.size : Int) ≤ 10)) : b = wordB s.data.toList := by
  unfold wordB
  rw [all_true (by simp; omega) h, hb, bytes_len]
  simp only [Bool.true_and]
  congr 1
  apply propext
  omega

theorem isWord_any (s : ByteArray) (w : World) (hs : s.size ≤ maxLen) : Calls Tryd.prog 51 #[.string s] w fun e w' => e = .returned (.bool (wordB s.data.toList)) ∧ w = w' := by
  unfold maxLen at hs
  go_enter Tryd.func51, Tryd.ntmps51
  go_wp2
  go_loop [6] (fun i => ∃ k : Nat, k ≤ s.size ∧ i = .int .i64 k ∧ (s.data.toList.take k).all letter = true) (fun i => s.size - (intOf i).toNat)
  case atStart => exact ⟨0, Nat.zero_le _, rfl, by simp⟩
  case round =>
    obtain ⟨k, hk, rfl, ha⟩ := hrel
    have Ha := Lib.hid ha
    clear ha
    by_cases hlt : k < s.size
    · go_wp2
      · go_ret
        exact ⟨ret_bool (word_no (by simpa using hlt) (letter_no1 (by assumption))).symm, rfl⟩
      · go_ret
        exact ⟨ret_bool (word_no (by simpa using hlt) (letter_no2 (by assumption))).symm, rfl⟩
      · exact ⟨⟨k + 1, by omega, by go_num, all_step (by simpa using hlt) Ha.out (letter_yes (by assumption) (by assumption))⟩, by simp [intOf]; omega⟩
    · go_wp2
      all_goals
        go_ret
        exact ⟨ret_bool (word_end hk hlt Ha.out (by simp; omega)), rfl⟩
theorem l1In_any (n a b : Int) (w : World) : Calls Tryd.prog 24 #[.int .i64 n, .int .i64 a, .int .i64 b] w fun e w' => e = .returned (.bool (decide (a ≤ n ∧ n ≤ b))) ∧ w = w' := by
  by_cases h1 : a ≤ n
  · by_cases h2 : n ≤ b
    all_goals
      go_enter Tryd.func24, Tryd.ntmps24
      go_wp2
      go_ret
      exact ⟨ret_bool (by simp [*]), rfl⟩
  · go_enter Tryd.func24, Tryd.ntmps24
    go_wp2
    go_ret
    exact ⟨ret_bool (by simp; omega), rfl⟩
theorem isStage_any (n : Int) (w : World) : Calls Tryd.prog 31 #[.int .i64 n] w fun e w' => e = .returned (.bool (decide (3 ≤ n ∧ n ≤ 8))) ∧ w = w' := by
  by_cases h1 : 3 ≤ n
  · by_cases h2 : n ≤ 8
    all_goals
      go_enter Tryd.func31, Tryd.ntmps31
      go_wp2
      go_ret
      exact ⟨ret_bool (by simp [*]), rfl⟩
  · go_enter Tryd.func31, Tryd.ntmps31
    go_wp2
    go_ret
    exact ⟨ret_bool (by simp; omega), rfl⟩
theorem l4Name_any (s : ByteArray) (w : World) (hs : s.size ≤ maxLen) : Calls Tryd.prog 41 #[.string s] w fun e w' => e = .returned (.bool (wordB s.data.toList)) ∧ w = w' := by
  unfold maxLen at hs
  go_enter Tryd.func41, Tryd.ntmps41
  go_wp2
  go_loop [3] (fun i => ∃ k : Nat, k ≤ s.size ∧ i = .int .i64 k ∧ (s.data.toList.take k).all letter = true) (fun i => s.size - (intOf i).toNat)
  case atStart => exact ⟨0, Nat.zero_le _, rfl, by simp⟩
  case round =>
    obtain ⟨k, hk, rfl, ha⟩ := hrel
    have Ha := Lib.hid ha
    clear ha
    by_cases hlt : k < s.size
    · go_wp2
      · go_ret
        exact ⟨ret_bool (word_no (by simpa using hlt) (letter_no1 (by assumption))).symm, rfl⟩
      · go_ret
        exact ⟨ret_bool (word_no (by simpa using hlt) (letter_no2 (by assumption))).symm, rfl⟩
      · exact ⟨⟨k + 1, by omega, by go_num, all_step (by simpa using hlt) Ha.out (letter_yes (by assumption) (by assumption))⟩, by simp [intOf]; omega⟩
    · go_wp2_with (go_at_call 24; refine (l1In_any _ _ _ _).mono ?_; rintro e w' ⟨rfl, rfl⟩)
      go_ret
      exact ⟨ret_bool (word_end hk hlt Ha.out (by simp)), rfl⟩
end Go.Proofs.YtenhnloljdfjhaaDoor

/- Contracts: evenings and items. -/
namespace Go.Proofs.YtenhnloljdfjhaaDoor
open Go Go.RowKit
set_option linter.unusedVariables false
set_option linter.unusedSimpArgs false

def evB (a b c d : Int) : Bool := decide (3 ≤ a ∧ a ≤ 8) && decide (1 ≤ b ∧ b ≤ 100) && decide (0 ≤ c ∧ c ≤ 20000) && decide (0 ≤ d ∧ d ≤ 1000)

end Go.Proofs.YtenhnloljdfjhaaDoor

/- Contracts: items, and the time of one. -/
namespace Go.Proofs.YtenhnloljdfjhaaDoor
open Go Go.RowKit
set_option linter.unusedVariables false
set_option linter.unusedSimpArgs false

structure It where
  name : ByteArray
  stage : Int
  rows : Int
  worth : Int
def It.cells (x : It) : List Value := [.string x.name, .int .i64 x.stage, .int .i64 x.rows, .int .i64 x.worth]
def Items (w : World) (v : Value) (xs : List It) : Prop := Sl w 4 v xs.length (xs.flatMap It.cells) ∧ ∀ x ∈ xs, x.name.size ≤ maxLen
theorem Items.to {w w' : World} {v : Value} {xs : List It} (h : Items w v xs) (hb : Below w.heap.size w w') : Items w' v xs := ⟨h.1.to hb, h.2⟩
theorem items_el {w : World} {B : Nat} {A : Option Addr} {xs : List It} (hr : Reads w B 4 A xs.length (xs.flatMap It.cells)) {k : Nat} (hk : k < xs.length) :
    ∃ ad, A = some ad ∧ ∀ w', Below B w w' → w'.cell? (ad.add (k * 4)) = some (.string xs[k].name) ∧ w'.cell? ⟨(ad.add (k * 4)).block, (ad.add (k * 4)).off + 1, none⟩ = some (.int .i64 xs[k].stage) ∧
      w'.cell? ⟨(ad.add (k * 4)).block, (ad.add (k * 4)).off + 2, none⟩ = some (.int .i64 xs[k].rows) ∧ w'.cell? ⟨(ad.add (k * 4)).block, (ad.add (k * 4)).off + 3, none⟩ = some (.int .i64 xs[k].worth) := by
  obtain ⟨ad, e, h⟩ := hr.el (fun _ _ => rfl) hk
  refine ⟨ad, e, fun w' hb => ⟨?_, ?_, ?_, ?_⟩⟩
  · have := h w' hb 0 _ (by omega) rfl; rwa [add_zero'] at this
  · exact h w' hb 1 _ (by omega) rfl
  · exact h w' hb 2 _ (by omega) rfl
  · exact h w' hb 3 _ (by omega) rfl
def itB (x : It) : Bool := wordB x.name.data.toList && decide (3 ≤ x.stage ∧ x.stage ≤ 8) && decide (1 ≤ x.rows ∧ x.rows ≤ 800) && decide (0 ≤ x.worth ∧ x.worth ≤ 100)
def szAfter (k n : Int) : Int := if k - n < 0 then -1 else k - n
theorem szAfter_neg {k n : Int} (h : k - n < 0) : -1 = szAfter k n := by rw [szAfter, if_pos h]
theorem szAfter_pos {k n : Int} (h : 0 ≤ k - n) : k - n = szAfter k n := by rw [szAfter, if_neg (by omega)]
def timeB (a b c d : Int) (x : It) : Bool := evB a b c d && itB x && decide (x.stage ≤ a)
def timeN (a b c d : Int) (x : It) : Int := if timeB a b c d x then x.rows * b else 0

theorem evB_bd {a b c d : Int} (h : evB a b c d = true) : 3 ≤ a ∧ a ≤ 8 ∧ 1 ≤ b ∧ b ≤ 100 ∧ 0 ≤ c ∧ c ≤ 20000 ∧ 0 ≤ d ∧ d ≤ 1000 := by simp [evB] at h; omega
theorem itB_bd {x : It} (h : itB x = true) : 3 ≤ x.stage ∧ x.stage ≤ 8 ∧ 1 ≤ x.rows ∧ x.rows ≤ 800 ∧ 0 ≤ x.worth ∧ x.worth ≤ 100 := by simp [itB] at h; omega
theorem mul_bd {a b m n : Int} (h1 : 0 ≤ a) (h2 : a ≤ m) (h3 : 0 ≤ b) (h4 : b ≤ n) : 0 ≤ a * b ∧ a * b ≤ m * n :=
  ⟨Int.mul_nonneg h1 h3, Int.mul_le_mul h2 h4 h3 (by omega)⟩
theorem rows_pace {a b c d : Int} {x : It} (h : evB a b c d = true) (k : itB x = true) : 0 ≤ x.rows * b ∧ x.rows * b ≤ 80000 := by
  obtain ⟨_, _, h1, h2, _⟩ := evB_bd h
  obtain ⟨_, _, k1, k2, _⟩ := itB_bd k
  exact mul_bd (by omega) k2 (by omega) h2
end Go.Proofs.YtenhnloljdfjhaaDoor

/- Contracts: slices of items and of numbers; the total time of a choice. -/
namespace Go.Proofs.YtenhnloljdfjhaaDoor
open Go Go.RowKit
set_option linter.unusedVariables false
set_option linter.unusedSimpArgs false

theorem szAfter_le {k : Int} {m : Nat} (h : k ≤ 1048576) : szAfter k m ≤ 1048576 := by unfold szAfter; split <;> omega
end Go.Proofs.YtenhnloljdfjhaaDoor

/- A region that draws its order, walked once in the order of the text, its calls leaving all that lay below a base world as it was. -/
namespace Go.Proofs.YtenhnloljdfjhaaDoor
open Go Go.RowKit
set_option linter.unusedVariables false
set_option linter.unusedSimpArgs false

/-- A world in which all that lay in wb's heap is as it was. -/
structure Aft (wb : World) where
  w : World
  h : Below wb.heap.size wb w
instance (wb : World) : Nonempty (Aft wb) := ⟨⟨wb, Below.refl _ _⟩⟩
theorem wp_region_aft {P : Program} {wb : World} {id : Nat} {Q : Exit → Act → World → Prop} {a : Act} {w : World} {l : List Oper} (hm : P.follows .mixedOrders = true) (hB : Region.lexB .any l.toArray = true) (hw : Below wb.heap.size wb w)
    (h : wpQuiet P l.toArray (fun w' => ∃ x : Aft wb, w' = x.w) (fun a' => ∀ w', (∃ x : Aft wb, w' = x.w) → Q .normal a' w') l a) : (Code.region id l.toArray true).wp P Q a w :=
  wp_region_quiet (C := fun w' => ∃ x : Aft wb, w' = x.w) hm hB ⟨⟨_, hw.drew⟩, rfl⟩ (by simpa using h)
theorem calls_aft {P : Program} {f : FuncId} {args : Array Value} {wb : World} {x : Aft wb} {v : Value} (h : ∀ w, Below wb.heap.size wb w → Calls P f args w fun e w' => e = .returned v ∧ Below w.heap.size w w') :
    Calls P f args x.w fun e w'' => e = .returned v ∧ ∃ y : Aft wb, w'' = y.w :=
  (h x.w x.h).mono fun e w' ⟨he, hb⟩ => ⟨he, ⟨w', bw_to x.h hb⟩, rfl⟩
theorem calls_aft_same {P : Program} {f : FuncId} {args : Array Value} {wb : World} {x : Aft wb} {v : Value} (h : ∀ w, Below wb.heap.size wb w → Calls P f args w fun e w' => e = .returned v ∧ w = w') :
    Calls P f args x.w fun e w'' => e = .returned v ∧ ∃ y : Aft wb, w'' = y.w :=
  (h x.w x.h).mono fun e w' ⟨he, hb⟩ => ⟨he, x, hb.symm⟩
theorem one_mem {u : Value} (h : u.oneCell' = true) : ∀ x ∈ [u], x.oneCell' = true := by
  intro x hx; rw [List.mem_singleton] at hx; subst hx; exact h
theorem own_base {w : World} {base base' : Nat} {e : TypeId} {size : Nat} {v : Value} {n : Nat} {xs : List Value} (h : w.ownsRow base e size v n xs) (hb : base' ≤ base) : w.ownsRow base' e size v n xs := by
  obtain ⟨h1, h2⟩ := h
  refine ⟨h1, ?_⟩
  rcases h2 with h2 | ⟨g, cap, cur, hv, hg, r⟩
  · exact .inl h2
  · exact .inr ⟨g, cap, cur, hv, Nat.le_trans hb hg, r⟩
theorem own_of_heap {w : World} {base g n : Nat} {e : TypeId} {size : Nat} {cs : Array Value} (h : w.heap[g]? = some (.cells cs e (0, 0))) (hb : base ≤ g) (hm : n ≤ maxLen) (hs : cs.size = n * size) :
    w.ownsRow base e size (.slice (some ⟨g, 0, none⟩) n n) n cs.toList :=
  ⟨by simpa using hs, .inr ⟨g, n, cs, rfl, hb, h, Nat.le_refl _, hm, hs, List.take_of_length_le (by rw [Array.length_toList, hs]; exact Nat.le_refl _)⟩⟩
/-- A block that was laid just ahead of an append into another row is still there behind it. -/
theorem grown_new {w w2 : World} {o : Obj} {base : Nat} {e : TypeId} {size : Nat} {v : Value} {n : Nat} {xs : List Value} (hown : w.ownsRow base e size v n xs) (hg : (w.alloc o).grownBy w2 v.ownBlock) : w2.heap[w.heap.size]? = some o :=
  (hg.block w.heap.size (by simp) (fun h => by have := (hown.lt _ h.symm).2; omega)).trans (heap_new w o)
theorem heap_cell {w : World} {g : Nat} {cs : Array Value} {t : TypeId} (h : w.heap[g]? = some (.cells cs t (0, 0))) (i : Nat) : w.cell? ⟨g, i, none⟩ = cs[i]? := cell_of_row w g i cs t (0, 0) h
/-- wpList_app, the element's block by its number. -/
theorem wpList_app_at {P : Program} (w : World) {ops : Array Oper} {rest : List Oper} {o : Oper} {a : Act} {Q : Exit → Act → World → Prop} (hgd : o.guard = none) (s x : Operand) (t : TypeId)
    (ho : o.op = .call { callee := .builtin .append, args := #[s, x], argTypes := #[t, t] })
    (base : Nat) (e : TypeId) (z : Value) (size bytes : Nat) (ht : P.underlying t = some (.slice e)) (hinfo : (P.info? e).map (fun i => (i.zero, i.size, i.bytes)) = some (some z, size, bytes))
    (hzs : z.cells.size = size) (hsz : 0 < size) {v : Value} {n : Nat} {xs : List Value} (hown : w.ownsRow base e size v n xs) (news : List Value) (hl : news.length = size) (hs : a.eval s = v)
    {g : Nat} (hx : a.eval x = .slice (some ⟨g, 0, none⟩) 1 1) (hg : g = w.heap.size) (h1 : ∀ u ∈ news, u.oneCell' = true) (hby : bytes ≤ 1024) (hn : n ≤ 100000000) (hbase : base ≤ w.heap.size)
    (h : ∀ v' w', w'.ownsRow base e size v' (n + 1) (xs ++ news) → Below base w w' → w.grownBy w' v.ownBlock → (v'.ownBlock = v.ownBlock ∨ ∀ g, v'.ownBlock = some g → w.heap.size ≤ g) → wpList P ops Q rest (a.put o.dst v') w') :
    wpList P ops Q (o :: rest) a (w.alloc (.cells news.toArray e)) := by
  subst hg
  exact wpList_app w hgd s x t ho base e z size bytes ht hinfo hzs hsz hown news hl hs hx h1 hby hn hbase h
end Go.Proofs.YtenhnloljdfjhaaDoor
