/- Lists of changes in order: a plain account of the least one. -/
import Derived.Test.YtenhnloljdfjhaaDoorPk10
import Derived.Test.YtenhnloljdfjhaaDoorPk13
namespace Go.Proofs.YtenhnloljdfjhaaDoor
open Go Go.RowKit
set_option linter.unusedVariables false
set_option linter.unusedSimpArgs false

theorem bl_trans : ∀ {x y z : List UInt8}, Op.bytesLess x y = true → Op.bytesLess y z = true → Op.bytesLess x z = true
  | _, [], _, h, _ => by cases ‹List UInt8› <;> simp [Op.bytesLess] at h
  | _, _ :: _, [], _, h => by simp [Op.bytesLess] at h
  | [], _ :: _, _ :: _, _, _ => rfl
  | a :: x, b :: y, c :: z, h1, h2 => by
    rw [Op.bytesLess, Bool.or_eq_true, Bool.and_eq_true, decide_eq_true_eq] at h1 h2
    rw [Op.bytesLess, Bool.or_eq_true, Bool.and_eq_true, decide_eq_true_eq]
    rcases h1 with h1 | ⟨e1, h1⟩
    · rcases h2 with h2 | ⟨e2, h2⟩
      · left; simp only [UInt8.lt_iff_toNat_lt] at *; omega
      · left; rw [← eq_of_beq e2]; exact h1
    · rw [eq_of_beq e1]
      rcases h2 with h2 | ⟨e2, h2⟩
      · left; exact h2
      · right; exact ⟨e2, bl_trans h1 h2⟩
theorem lessS_irr : ∀ x : List ByteArray, lessS x x = false
  | [] => rfl
  | a :: r => by rw [lessS, if_pos (beq_self_eq_true _)]; exact lessS_irr r
theorem lessS_trans : ∀ {x y z : List ByteArray}, lessS x y = true → lessS y z = true → lessS x z = true
  | [], _, _, h, _ => by simp [lessS] at h
  | _ :: _, [], _, h, _ => by simp [lessS] at h
  | _ :: _, _ :: _, [], _, h => by simp [lessS] at h
  | a :: x, b :: y, c :: z, h1, h2 => by
    rw [lessS] at h1 h2 ⊢
    by_cases e1 : (a.toList == b.toList) = true
    · rw [if_pos e1] at h1
      have e := eq_of_beq e1
      rw [e]
      by_cases e2 : (b.toList == c.toList) = true
      · rw [if_pos e2] at h2 ⊢
        exact lessS_trans h1 h2
      · rw [if_neg e2] at h2 ⊢
        unfold nmLt at h2 ⊢
        rw [e]; exact h2
    · rw [if_neg e1] at h1
      by_cases e2 : (b.toList == c.toList) = true
      · have e := eq_of_beq e2
        rw [← e, if_neg e1]
        unfold nmLt at h1 ⊢
        rw [← e]; exact h1
      · rw [if_neg e2] at h2
        unfold nmLt at h1 h2
        have h3 := bl_trans h1 h2
        have e3 : ¬ (a.toList == c.toList) = true := by
          intro e
          rw [eq_of_beq e, less_irr] at h3
          cases h3
        rw [if_neg e3]; exact h3
theorem lessS_tot : ∀ {x y : List ByteArray}, x.length = y.length → lessS x y = false → lessS y x = false → x = y
  | [], [], _, _, _ => rfl
  | [], _ :: _, h, _, _ => by simp at h
  | _ :: _, [], h, _, _ => by simp at h
  | a :: x, b :: y, hl, h1, h2 => by
    rw [lessS] at h1 h2
    cases e : (a.toList == b.toList)
    · have e' : (b.toList == a.toList) = false := by rw [beq_eq_false_iff_ne] at e ⊢; exact fun h => e h.symm
      rw [e, if_neg (by simp)] at h1
      rw [e', if_neg (by simp)] at h2
      have ht := less_tot a.toList b.toList
      unfold nmLt at h1 h2
      rw [h1, h2, e] at ht
      cases ht
    · have e' : (b.toList == a.toList) = true := by rw [eq_of_beq e]; exact beq_self_eq_true _
      rw [e, if_pos rfl] at h1
      rw [e', if_pos rfl] at h2
      have hab : a = b := by
        have h := eq_of_beq e
        rw [bytes_toList, bytes_toList] at h
        cases a; cases b; simp only [ByteArray.mk.injEq]; exact Array.toList_inj.1 h
      rw [hab, lessS_tot (by simpa using hl) h1 h2]
def minS (b c : List ByteArray) : List ByteArray := if lessS c b then c else b
theorem min_len {b d : List ByteArray} (h : d.length = b.length) : (minS b d).length = b.length := by unfold minS; split <;> omega
theorem min_least : ∀ (cs : List (List ByteArray)) (b : List ByteArray), (∀ c ∈ cs, c.length = b.length) → cs.foldl minS b ∈ b :: cs ∧ ∀ c ∈ b :: cs, lessS c (cs.foldl minS b) = false
  | [], b, _ => ⟨by simp, fun c hc => by rw [List.mem_singleton.1 hc]; exact lessS_irr b⟩
  | d :: cs, b, hl => by
    have hd := hl d (List.mem_cons_self ..)
    obtain ⟨h1, h2⟩ := min_least cs (minS b d) (fun c hc => by rw [min_len hd]; exact hl c (List.mem_cons_of_mem _ hc))
    rw [List.foldl_cons]
    constructor
    · rcases List.mem_cons.1 h1 with h | h
      · rw [h]; unfold minS; split <;> simp
      · exact List.mem_cons_of_mem _ (List.mem_cons_of_mem _ h)
    · have hm := h2 (minS b d) (List.mem_cons_self ..)
      have h3 : ∀ c ∈ cs, lessS c (cs.foldl minS (minS b d)) = false := fun c hc => h2 c (List.mem_cons_of_mem _ hc)
      generalize cs.foldl minS (minS b d) = R at hm h3
      have hb : lessS b R = false ∧ lessS d R = false := by
        unfold minS at hm
        cases hdb : lessS d b
        · rw [hdb, if_neg (by simp)] at hm
          refine ⟨hm, ?_⟩
          cases hx : lessS d R
          · rfl
          · cases hbd : lessS b d
            · rw [lessS_tot hd hdb hbd] at hx; rw [hx] at hm; exact hm
            · rw [lessS_trans hbd hx] at hm; exact hm
        · rw [hdb, if_pos rfl] at hm
          refine ⟨?_, hm⟩
          cases hx : lessS b R
          · rfl
          · rw [lessS_trans hdb hx] at hm; exact hm
      intro c hc
      rcases List.mem_cons.1 hc with rfl | hc
      · exact hb.1
      · rcases List.mem_cons.1 hc with rfl | hc
        · exact hb.2
        · exact h3 c hc
/-- Two folds over the same lists, in whatever order, give the same least one. -/
theorem min_same {cs ds : List (List ByteArray)} {b d : List ByteArray} (hc : ∀ c ∈ cs, c.length = b.length) (hd : ∀ c ∈ ds, c.length = d.length) (hbd : b.length = d.length) (h : ∀ x, x ∈ b :: cs ↔ x ∈ d :: ds) : cs.foldl minS b = ds.foldl minS d := by
  obtain ⟨m1, l1⟩ := min_least cs b hc
  obtain ⟨m2, l2⟩ := min_least ds d hd
  have e1 : (cs.foldl minS b).length = b.length := by
    rcases List.mem_cons.1 m1 with h | h
    · rw [h]
    · exact hc _ h
  have e2 : (ds.foldl minS d).length = d.length := by
    rcases List.mem_cons.1 m2 with h | h
    · rw [h]
    · exact hd _ h
  exact lessS_tot (by omega) (l2 _ ((h _).1 m1)) (l1 _ ((h _).2 m2))
end Go.Proofs.YtenhnloljdfjhaaDoor

/- Contract: the reference's canonical form of a method. -/
namespace Go.Proofs.YtenhnloljdfjhaaDoor
open Go Go.RowKit
set_option linter.unusedVariables false
set_option linter.unusedSimpArgs false

def rot (l : List ByteArray) (k : Nat) : List ByteArray := l.drop k ++ l.take k
theorem rot_len (l : List ByteArray) (k : Nat) : (rot l k).length = l.length := by unfold rot; simp; omega
def foldN (l : List ByteArray) (k : Nat) : List ByteArray := ((List.range k).flatMap (fun i => [rot l i, rot l.reverse i])).foldl minS l
theorem foldN_zero (l : List ByteArray) : foldN l 0 = l := rfl
theorem foldN_succ (l : List ByteArray) (k : Nat) : foldN l (k + 1) = minS (minS (foldN l k) (rot l k)) (rot l.reverse k) := by
  unfold foldN
  rw [List.range_succ, List.flatMap_append, List.foldl_append]
  rfl
theorem minS_of {b c : List ByteArray} (h : lessS c b = true) : minS b c = c := by unfold minS; rw [if_pos h]
theorem minS_not {b c : List ByteArray} (h : lessS c b = false) : minS b c = b := by unfold minS; rw [if_neg (by simp [h])]
theorem foldN_len (l : List ByteArray) : ∀ k, (foldN l k).length = l.length
  | 0 => rfl
  | k + 1 => by
    rw [foldN_succ, min_len, min_len, foldN_len l k]
    · rw [rot_len, foldN_len l k]
    · rw [min_len, rot_len, foldN_len l k, List.length_reverse]
      rw [rot_len, foldN_len l k]
/-- A variable that holds a method. -/
def MBox (w : World) (G : Nat) (m : Mt) (r : Value) : Prop := w.ownsRow G 34 3 (.slice (some ⟨G, 0, none⟩) 1 1) 1 [.string m.name, .int .i64 m.stage, r]
theorem mbox_of {w : World} {G : Nat} {m : Mt} {r : Value} (h : w.heap[G]? = some (.cells #[.string m.name, .int .i64 m.stage, r] 34 (0, 0))) : MBox w G m r :=
  own_of_heap (base := G) (n := 1) (size := 3) h (Nat.le_refl _) (by unfold maxLen; omega) rfl
theorem mbox_c {w : World} {G : Nat} {m : Mt} {r : Value} (h : MBox w G m r) : w.cell? ⟨G, 0, none⟩ = some (.string m.name) ∧ w.cell? ⟨G, 1, none⟩ = some (.int .i64 m.stage) ∧ w.cell? ⟨G, 2, none⟩ = some r := by
  unfold MBox at h
  exact ⟨h.cellAt 0 (by omega), h.cellAt 1 (by omega), h.cellAt 2 (by omega)⟩
theorem mbox_f {w : World} {G : Nat} {m : Mt} {r : Value} (h : MBox w G m r) : w.frozen? ⟨G, 0, none⟩ = false ∧ w.frozen? ⟨G, 1, none⟩ = false ∧ w.frozen? ⟨G, 2, none⟩ = false := by
  unfold MBox at h
  exact ⟨h.frozenAt 0, h.frozenAt 1, h.frozenAt 2⟩
theorem mbox_set {w : World} {G : Nat} {m m' : Mt} {r r' : Value} (h : MBox w G m r) : MBox (((w.setCell ⟨G, 0, none⟩ (.string m'.name)).setCell ⟨G, 1, none⟩ (.int .i64 m'.stage)).setCell ⟨G, 2, none⟩ r') G m' r' := by
  unfold MBox at h ⊢
  exact own_set (own_set (own_set h 0 _) 1 _) 2 _
theorem mbox_to {w w' : World} {G : Nat} {m : Mt} {r : Value} (h : MBox w G m r) (hb : Below w.heap.size w w') : MBox w' G m r := own_to (by unfold MBox at h; exact h) hb
theorem mbox_but {w w' : World} {G H : Nat} {m : Mt} {r : Value} (h : MBox w G m r) (hg : w.grownBy w' (some H)) (hn : G ≠ H) : MBox w' G m r :=
  World.ownsRow.kept (by unfold MBox at h; exact h) hg (.inr (by intro e; exact hn (by injection e)))
theorem but_below {a w w' : World} {G : Nat} (h : a.grownBy w (some G)) (hb : Below w.heap.size w w') : a.grownBy w' (some G) :=
  ⟨hb.os.trans h.os, hb.tape.trans h.tape, hb.output.trans h.output, Nat.le_trans h.size hb.size, fun k hk hne => (hb.block k (Nat.lt_of_lt_of_le hk h.size)).trans (h.block k hk hne)⟩
theorem but_trans {a w w' : World} {G : Nat} (h : a.grownBy w (some G)) (h' : w.grownBy w' (some G)) : a.grownBy w' (some G) :=
  ⟨h'.os.trans h.os, h'.tape.trans h.tape, h'.output.trans h.output, Nat.le_trans h.size h'.size, fun k hk hne => (h'.block k (Nat.lt_of_lt_of_le hk h.size) hne).trans (h.block k hk hne)⟩
theorem but_set {a w : World} {G : Nat} (h : a.grownBy w (some G)) (j : Nat) (u : Value) : a.grownBy (w.setCell ⟨G, j, none⟩ u) (some G) :=
  ⟨h.os, h.tape, h.output, by simpa [World.setCell] using h.size, fun k hk hne => (Below.heap_setCell w ⟨G, j, none⟩ u k (fun e => hne (by rw [e]))).trans (h.block k hk hne)⟩
theorem but_set3 {a w : World} {G : Nat} (h : a.grownBy w (some G)) (x y z : Value) : a.grownBy (((w.setCell ⟨G, 0, none⟩ x).setCell ⟨G, 1, none⟩ y).setCell ⟨G, 2, none⟩ z) (some G) := but_set (but_set (but_set h 0 _) 1 _) 2 _
theorem own_set3 {w : World} {base G n : Nat} {e : TypeId} {size : Nat} {v : Value} {xs : List Value} (h : w.ownsRow base e size v n xs) (hne : v.ownBlock = none ∨ v.ownBlock ≠ some G) (x y z : Value) : (((w.setCell ⟨G, 0, none⟩ x).setCell ⟨G, 1, none⟩ y).setCell ⟨G, 2, none⟩ z).ownsRow base e size v n xs :=
  h.kept (but_set3 (World.grownBy.refl w (some G)) x y z) hne
theorem own_ne {w : World} {base n G : Nat} {e : TypeId} {size : Nat} {v : Value} {xs : List Value} (h : w.ownsRow base e size v n xs) (hG : G < base ∨ w.heap.size ≤ G) : v.ownBlock = none ∨ v.ownBlock ≠ some G := by
  cases hv : v.ownBlock with
  | none => exact .inl rfl
  | some k =>
    refine .inr (fun e => ?_)
    cases e
    have := h.lt G hv
    omega
theorem strs_own' {w : World} {base n : Nat} {e : TypeId} {v : Value} {zs : List ByteArray} (h : w.ownsRow base e 1 v n (zs.map Value.string)) : Strs w v zs := by
  have hl : zs.length = n := by have := h.1; simpa using this
  subst hl
  exact sl_of_own h
/-- The best method so far: in its variable, with a list of its own. -/
def BestAt (w : World) (base G : Nat) (m : Mt) (n : Nat) (b : List ByteArray) : Prop := ∃ A c, MBox w G m (.slice A n c) ∧ w.ownsRow base 9 1 (.slice A n c) n (b.map Value.string) ∧ ((Value.slice A n c).ownBlock = none ∨ (Value.slice A n c).ownBlock ≠ some G)
theorem BestAt.to {w w' : World} {base G n : Nat} {m : Mt} {b : List ByteArray} (h : BestAt w base G m n b) (hb : Below w.heap.size w w') : BestAt w' base G m n b :=
  let ⟨A, c, h1, h2, h3⟩ := h; ⟨A, c, mbox_to h1 hb, own_to h2 hb, h3⟩
end Go.Proofs.YtenhnloljdfjhaaDoor
