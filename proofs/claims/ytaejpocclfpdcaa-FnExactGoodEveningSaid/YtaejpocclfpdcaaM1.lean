/- Words for memory: slices that read as lists. (Reads, Blk: howto/extra-words.md's plain theorems.) -/
import Derived.Test.YtaejpocclfpdcaaChecked
import Derived.WalkKit
import Derived.WalkSpells
import Derived.WalkLawsBesides
import Derived.Lib.Hide
import Derived.BigGuardPart
import Derived.BigQuiet
import Derived.Deep.QuietTactic
import Derived.Deep.DeepFit
import Derived.Deep.DeepCutAuto
import Derived.Deep.RegionWith
import Derived.Deep.RegionHeld3
import Derived.StillTailTactics
import Derived.Below
import Derived.Laws.OwnMore
import Derived.Laws.MakeOwn
import Derived.Laws.CopyOwn
import Derived.Maps.AppendAt
import Derived.Deep.AppendLies
import Derived.Deep.Draws
namespace Go.Proofs.Ytaejpocclfpdcaa
open Go Go.RowKit

theorem ret_bool {a b : Bool} (h : a = b) : Ending.returned (.bool a) = .returned (.bool b) := by rw [h]
theorem ret_int {a b : Int} (h : a = b) : Ending.returned (.int .i64 a) = .returned (.int .i64 b) := by rw [h]

theorem bw_al {a w : World} (h : Below a.heap.size a w) (o : Obj) : Below a.heap.size a (w.alloc o) := h.alloc h.size o
theorem bw_dr {a w : World} (h : Below a.heap.size a w) (n : Nat) : Below a.heap.size a (w.drewN n) := ⟨h.os, h.tape, h.output, h.size, h.block⟩
theorem bw_tr {a w w' : World} {B : Nat} (h : Below a.heap.size a w) (k : Below B w w') (hB : a.heap.size ≤ B) : Below a.heap.size a w' := h.trans (k.mono hB)
theorem bw_to {a w w' : World} (h : Below a.heap.size a w) (k : Below w.heap.size w w') : Below a.heap.size a w' := h.trans (k.mono h.size)
theorem bcell {W w1 : World} (hb : Below W.heap.size W w1) : (∀ b o, b < W.heap.size → w1.cell? ⟨b, o, none⟩ = W.cell? ⟨b, o, none⟩) ∧ (∀ b o, b < W.heap.size → w1.frozen? ⟨b, o, none⟩ = W.frozen? ⟨b, o, none⟩) :=
  ⟨fun b o h => hb.cell (p := ⟨b, o, none⟩) h, fun b o h => hb.frozen (p := ⟨b, o, none⟩) h⟩

/-- A base world wb, in which the boxes of a function's struct parameters lie: every later world reads them alike. -/
theorem boxRule {wb : World} {g : Nat} {cs : Array Value} {t : TypeId} (h : wb.heap[g]? = some (.cells cs t (0, 0))) : ∀ (w' : World) (i : Nat), Below wb.heap.size wb w' → w'.cell? ⟨g, i, none⟩ = cs[i]? := by
  intro w' i hb
  have hg : g < wb.heap.size := by
    rcases Nat.lt_or_ge g wb.heap.size with hlt | hge
    · exact hlt
    · rw [Array.getElem?_eq_none hge] at h; cases h
  have h' : w'.heap[g]? = some (.cells cs t (0, 0)) := (hb.block g hg).trans h
  exact cell_of_row w' g i cs t (0, 0) h'
theorem heap_new (w : World) (o : Obj) : (w.alloc o).heap[w.heap.size]? = some o := heap_alloc_new w o
theorem box1 {C : World → Prop} {w : World} {o : Obj} (h : ∀ wb, Below w.heap.size w wb → wb.heap[w.heap.size]? = some o → Below wb.heap.size wb wb → C wb) : C (w.alloc o) :=
  h _ (bw_al (Below.refl _ _) o) (heap_new w o) (Below.refl _ _)
theorem box2 {C : World → Prop} {w : World} {o1 o2 : Obj} (h : ∀ wb, Below w.heap.size w wb → wb.heap[w.heap.size]? = some o1 → wb.heap[w.heap.size + 1]? = some o2 → Below wb.heap.size wb wb → C wb) : C ((w.alloc o1).alloc o2) :=
  h _ (bw_al (bw_al (Below.refl _ _) o1) o2) ((Below.heap_alloc _ _ _ (by simp)).trans (heap_new w o1)) (by have := heap_new (w.alloc o1) o2; simpa using this) (Below.refl _ _)
theorem box3 {C : World → Prop} {w : World} {o1 o2 o3 : Obj} (h : ∀ wb, Below w.heap.size w wb → wb.heap[w.heap.size]? = some o1 → wb.heap[w.heap.size + 1]? = some o2 → wb.heap[w.heap.size + 2]? = some o3 → Below wb.heap.size wb wb → C wb) : C (((w.alloc o1).alloc o2).alloc o3) :=
  h _ (bw_al (bw_al (bw_al (Below.refl _ _) o1) o2) o3) ((Below.heap_alloc _ _ _ (by simp; omega)).trans ((Below.heap_alloc _ _ _ (by simp)).trans (heap_new w o1)))
    ((Below.heap_alloc _ _ _ (by simp)).trans (by have := heap_new (w.alloc o1) o2; simpa using this)) (by have := heap_new ((w.alloc o1).alloc o2) o3; simpa using this) (Below.refl _ _)
theorem block_of_add (a : Addr) (n : Nat) : (a.add n).block = a.block := by unfold Addr.add; split <;> rfl
theorem add_of_add (a : Addr) (i j : Nat) : (a.add i).add j = a.add (i + j) := by
  unfold Addr.add
  by_cases hi : i = 0 <;> by_cases hj : j = 0 <;> simp [hi, hj, Nat.add_assoc]

/-- The slice '.slice A n c' holds the cells xs (n elements of 'size' cells each), below block B. -/
def Reads (w : World) (B size : Nat) (A : Option Addr) (n : Nat) (xs : List Value) : Prop :=
  xs.length = n * size ∧ (0 < n → ∃ ad, A = some ad ∧ ad.block < B ∧ ∀ j u, xs[j]? = some u → w.cell? (ad.add j) = some u)

section
variable {w w' : World} {B B' size n : Nat} {A : Option Addr} {xs : List Value}
theorem Reads.none_ : Reads w B size A 0 [] := ⟨by simp, fun h => absurd h (by omega)⟩
theorem Reads.at_ {k : Nat} (h : Reads w B 1 A n xs) (hk : k < n) : ∃ ad u, A = some ad ∧ ad.block < B ∧ xs[k]? = some u ∧ w.cell? (ad.add k) = some u := by
  obtain ⟨ad, e, hb, hc⟩ := h.2 (by omega)
  have hl : k < xs.length := by have := h.1; omega
  exact ⟨ad, xs[k], e, hb, List.getElem?_eq_getElem hl, hc k _ (List.getElem?_eq_getElem hl)⟩
theorem Reads.keep (h : Reads w B size A n xs) (hk : ∀ p : Addr, p.block < B → w'.cell? p = w.cell? p) : Reads w' B size A n xs :=
  ⟨h.1, fun hn => by
    obtain ⟨ad, e, hb, hc⟩ := h.2 hn
    exact ⟨ad, e, hb, fun j u hu => (hk _ (by rw [block_of_add]; exact hb)).trans (hc j u hu)⟩⟩
theorem Reads.more (h : Reads w B size A n xs) (hB : B ≤ B') : Reads w B' size A n xs :=
  ⟨h.1, fun hn => by
    obtain ⟨ad, e, hb, hc⟩ := h.2 hn
    exact ⟨ad, e, by omega, hc⟩⟩
theorem Reads.below (h : Reads w B size A n xs) (hb : Below B w w') : Reads w' B size A n xs := h.keep fun _ hp => hb.cell hp
theorem Reads.to (h : Reads w w.heap.size size A n xs) (hb : Below w.heap.size w w') : Reads w' w'.heap.size size A n xs := (h.below hb).more hb.size
theorem Reads.cut (h : Reads w B size A n xs) {k cap : Nat} (hk : k ≤ n) (hc : n ≤ cap) :
    Reads w B size (if cap = k then A else A.map (·.add (k * size))) (n - k) (xs.drop (k * size)) := by
  refine ⟨by rw [List.length_drop, h.1, Nat.sub_mul], fun hn => ?_⟩
  obtain ⟨ad, rfl, hb, hcell⟩ := h.2 (by omega)
  rw [if_neg (by omega)]
  refine ⟨ad.add (k * size), rfl, by rw [block_of_add]; exact hb, fun j u hu => ?_⟩
  rw [add_of_add]
  exact hcell _ u (by rw [← hu, List.getElem?_drop])
theorem Reads.of_own {base : Nat} {e : TypeId} {c : Nat} (h : w.ownsRow base e size (.slice A n c) n xs) : Reads w w.heap.size size A n xs := by
  refine ⟨h.1, fun hn => ?_⟩
  obtain ⟨g, cap, hv, _, hlt⟩ := h.form hn
  have hA : A = some ⟨g, 0, none⟩ := by injection hv
  subst hA
  exact ⟨_, rfl, hlt, h.cells (g := g) rfl⟩
end

/-- The slice value v reads as the cells cs, n elements of 'size' cells. -/
def Sl (w : World) (size : Nat) (v : Value) (n : Nat) (cs : List Value) : Prop := ∃ A c, v = .slice A n c ∧ n ≤ c ∧ c ≤ maxLen ∧ Reads w w.heap.size size A n cs
theorem Sl.to {w w' : World} {size n : Nat} {v : Value} {cs : List Value} (h : Sl w size v n cs) (hb : Below w.heap.size w w') : Sl w' size v n cs :=
  let ⟨A, c, e, h1, h2, hr⟩ := h; ⟨A, c, e, h1, h2, hr.to hb⟩

def Ints (w : World) (v : Value) (zs : List Int) : Prop := Sl w 1 v zs.length (zs.map (Value.int .i64))
def Strs (w : World) (v : Value) (ss : List ByteArray) : Prop := Sl w 1 v ss.length (ss.map Value.string)
theorem Ints.to {w w' : World} {v : Value} {zs : List Int} (h : Ints w v zs) (hb : Below w.heap.size w w') : Ints w' v zs := Sl.to h hb
theorem Strs.to {w w' : World} {v : Value} {zs : List ByteArray} (h : Strs w v zs) (hb : Below w.heap.size w w') : Strs w' v zs := Sl.to h hb

section
variable {α : Type} {C : α → List Value} {sz : Nat}
theorem flat_length {xs : List α} (h : ∀ x ∈ xs, (C x).length = sz) : (xs.flatMap C).length = xs.length * sz := by
  induction xs with
  | nil => simp
  | cons x xs ih =>
    rw [List.flatMap_cons, List.length_append, h x (List.mem_cons_self ..), ih (fun z hz => h z (List.mem_cons_of_mem _ hz)), List.length_cons, Nat.succ_mul, Nat.add_comm]
theorem flat_get {xs : List α} (h : ∀ x ∈ xs, (C x).length = sz) {i j : Nat} {x : α} (hi : xs[i]? = some x) (hj : j < sz) : (xs.flatMap C)[i * sz + j]? = (C x)[j]? := by
  induction xs generalizing i with
  | nil => simp at hi
  | cons z xs ih =>
    have hz := h z (List.mem_cons_self ..)
    rw [List.flatMap_cons]
    cases i with
    | zero =>
      simp at hi
      subst hi
      rw [List.getElem?_append_left (by omega)]
      simp
    | succ i =>
      rw [List.getElem?_append_right (by rw [hz, Nat.succ_mul]; omega), hz]
      have e : (i + 1) * sz + j - sz = i * sz + j := by rw [Nat.succ_mul]; omega
      rw [e]
      exact ih (fun z hz => h z (List.mem_cons_of_mem _ hz)) (by simpa using hi)
theorem flat_at {xs : List α} (h : ∀ x ∈ xs, (C x).length = sz) (hs : 0 < sz) {k : Nat} {u : Value} (hk : (xs.flatMap C)[k]? = some u) : ∃ i j x, k = i * sz + j ∧ j < sz ∧ xs[i]? = some x ∧ (C x)[j]? = some u := by
  have hlt := (List.getElem?_eq_some_iff.1 hk).1
  rw [flat_length h] at hlt
  have hi : k / sz < xs.length := Nat.div_lt_of_lt_mul (by rw [Nat.mul_comm]; exact hlt)
  have e : k = k / sz * sz + k % sz := by rw [Nat.mul_comm]; exact (Nat.div_add_mod k sz).symm
  refine ⟨k / sz, k % sz, xs[k / sz], e, Nat.mod_lt _ hs, List.getElem?_eq_getElem hi, ?_⟩
  rw [← flat_get h (List.getElem?_eq_getElem hi) (Nat.mod_lt _ hs), ← e]
  exact hk
end

theorem all_true {α : Type} {p : α → Bool} {l : List α} {n : Nat} (hn : n = l.length) (h : (l.take n).all p = true) : l.all p = true := by
  rwa [hn, List.take_length] at h
theorem all_false {α : Type} {p : α → Bool} {l : List α} {k : Nat} (hk : k < l.length) (h : p l[k] = false) : l.all p = false := by
  rw [← Bool.not_eq_true, List.all_eq_true]
  intro h'
  rw [h' _ (List.getElem_mem hk)] at h
  cases h
theorem all_step {α : Type} {p : α → Bool} {l : List α} {k : Nat} (hk : k < l.length) (h0 : (l.take k).all p = true) (h : p l[k] = true) : (l.take (k + 1)).all p = true := by
  rw [List.take_succ_eq_append_getElem hk, List.all_append, h0]
  simp [h]
theorem bytes_get (s : ByteArray) (k : Nat) (h : k < s.size) : s.data.toList[k]'(by simpa using h) = s[k] := rfl
theorem bytes_len (s : ByteArray) : s.data.toList.length = s.size := by simp
end Go.Proofs.Ytaejpocclfpdcaa
