/- Contracts: a record read from its line, both sides. -/
import Derived.Test.YtpkpahadjdkafaaGreatDoorY2
import Derived.Test.YtpkpahadjdkafaaGreatDoorV4
import Derived.Test.YtpkpahadjdkafaaGreatDoorM3
import Derived.StillTailTactics
namespace Go.Proofs.YtpkpahadjdkafaaGreatDoor
open Go Go.RowKit
set_option linter.unusedVariables false
set_option linter.unusedSimpArgs false

def rz : Rc := ⟨0, ⟨#[]⟩, ⟨#[]⟩, 0, ⟨#[]⟩⟩
def sameS (a b : ByteArray) : Bool := a.toList == b.toList
def readW (s : ByteArray) : List ByteArray → Option Rc
  | [a, b, c, d, e, _] => if recB ⟨readV a.data.toList, b, c, readV d.data.toList, e⟩ && ((lineT ⟨readV a.data.toList, b, c, readV d.data.toList, e⟩).toList == s.toList) then some ⟨readV a.data.toList, b, c, readV d.data.toList, e⟩ else none
  | _ => none
def readO (s : ByteArray) : Option Rc := readW s (splitW 32 s)
theorem splitL_size (c : UInt8) : ∀ (l : List UInt8), ∀ x ∈ splitL c l, x.length ≤ l.length
  | [], x, hx => by simp [splitL] at hx; subst hx; simp
  | b :: l, x, hx => by
    unfold splitL at hx
    split at hx
    · rcases List.mem_cons.1 hx with e | e
      · subst e; simp
      · have := splitL_size c l x e; simp; omega
    · have ih := splitL_size c l
      cases h : splitL c l with
      | nil => rw [h] at hx; simp [glue] at hx; subst hx; simp
      | cons q r =>
        rw [h] at hx ih
        simp only [glue] at hx
        rcases List.mem_cons.1 hx with e | e
        · subst e
          have := ih q (List.mem_cons_self ..)
          simp; omega
        · have := ih x (List.mem_cons_of_mem _ e); simp; omega
theorem splitW_size {c : UInt8} {s : ByteArray} : ∀ x ∈ splitW c s, x.size ≤ s.size := by
  intro x hx
  unfold splitW at hx
  obtain ⟨l, hl, rfl⟩ := List.mem_map.1 hx
  have := splitL_size c _ l hl
  rw [bytes_len] at this
  show l.toArray.size ≤ _
  rw [List.size_toArray]; exact this
theorem six {α : Type} {l : List α} (h : l.length = 6) : ∃ a b c d e f, l = [a, b, c, d, e, f] := by
  match l, h with
  | [a, b, c, d, e, f], _ => exact ⟨a, b, c, d, e, f, rfl⟩
theorem readW_no {s : ByteArray} {ws : List ByteArray} (h : ws.length ≠ 6) : readW s ws = none := by
  unfold readW
  split
  · simp at h
  · rfl
/-- What the reading of a line gives. -/
def ReadPost (w : World) (s : ByteArray) (e : Ending) (w' : World) : Prop := e = .returned (.tuple #[((readO s).getD rz).v, .bool (readO s).isSome]) ∧ Below w.heap.size w w'
theorem strs6 {w : World} {g : Nat} {a b c d e f : ByteArray} (h : w.ownsRow g 9 1 (.slice (some ⟨g, 0, none⟩) 6 6) 6 [.string a, .string b, .string c, .string d, .string e, .string f]) :
    w.cell? ⟨g, 0, none⟩ = some (.string a) ∧ w.cell? ⟨g, 1, none⟩ = some (.string b) ∧ w.cell? ⟨g, 2, none⟩ = some (.string c) ∧ w.cell? ⟨g, 3, none⟩ = some (.string d) ∧ w.cell? ⟨g, 4, none⟩ = some (.string e) :=
  ⟨(h.cellAt 0 (by omega)).trans rfl, (h.cellAt 1 (by omega)).trans rfl, (h.cellAt 2 (by omega)).trans rfl, (h.cellAt 3 (by omega)).trans rfl, (h.cellAt 4 (by omega)).trans rfl⟩
theorem rc_rowY {w : World} {g : Nat} {x0 x1 x2 x3 x4 : Value} (h : w.heap[g]? = some (.cells #[x0, x1, x2, x3, x4] 39 (0, 0))) : w.ownsRow g 39 5 (.slice (some ⟨g, 0, none⟩) 1 1) 1 [x0, x1, x2, x3, x4] :=
  own_of_heap h (Nat.le_refl _) (by unfold maxLen; omega) rfl
theorem rc_cellsY {w : World} {g b : Nat} {x0 x1 x2 x3 x4 : Value} (h : w.ownsRow b 39 5 (.slice (some ⟨g, 0, none⟩) 1 1) 1 [x0, x1, x2, x3, x4]) :
    (w.cell? ⟨g, 0, none⟩ = some x0 ∧ w.cell? ⟨g, 1, none⟩ = some x1 ∧ w.cell? ⟨g, 2, none⟩ = some x2 ∧ w.cell? ⟨g, 3, none⟩ = some x3 ∧ w.cell? ⟨g, 4, none⟩ = some x4) ∧ (∀ j, w.frozen? ⟨g, j, none⟩ = false) :=
  ⟨⟨(h.cellAt 0 (by omega)).trans rfl, (h.cellAt 1 (by omega)).trans rfl, (h.cellAt 2 (by omega)).trans rfl, (h.cellAt 3 (by omega)).trans rfl, (h.cellAt 4 (by omega)).trans rfl⟩, fun j => h.frozenAt j⟩
theorem strs6g {w : World} {g base cap : Nat} {a b c d e f : ByteArray} (h : w.ownsRow base 9 1 (.slice (some ⟨g, 0, none⟩) [a, b, c, d, e, f].length cap) [a, b, c, d, e, f].length ([a, b, c, d, e, f].map Value.string)) :
    w.cell? ⟨g, 0, none⟩ = some (.string a) ∧ w.cell? ⟨g, 1, none⟩ = some (.string b) ∧ w.cell? ⟨g, 2, none⟩ = some (.string c) ∧ w.cell? ⟨g, 3, none⟩ = some (.string d) ∧ w.cell? ⟨g, 4, none⟩ = some (.string e) :=
  ⟨(h.cellAt 0 (by simp)).trans rfl, (h.cellAt 1 (by simp)).trans rfl, (h.cellAt 2 (by simp)).trans rfl, (h.cellAt 3 (by simp)).trans rfl, (h.cellAt 4 (by simp)).trans rfl⟩
theorem num_read {l : List UInt8} {m : Nat} (hm : m ≤ 6) (h : canB l m = true) : numV l m = readV l := by rw [numV_yes h, readV_yes (can_mono h hm)]
theorem readW_bad1 {s a b c d e f : ByteArray} (h : canB a.data.toList 5 = false) : readW s [a, b, c, d, e, f] = none := by
  have hr : recB ⟨readV a.data.toList, b, c, readV d.data.toList, e⟩ = false := by
    unfold recB
    rw [decide_eq_false (by rcases read_big h (by omega) with h | h <;> (simp only; omega))]; rfl
  unfold readW
  simp only [hr]
  rfl
theorem readW_bad2 {s a b c d e f : ByteArray} (h : canB d.data.toList 3 = false) : readW s [a, b, c, d, e, f] = none := by
  have hr : recB ⟨readV a.data.toList, b, c, readV d.data.toList, e⟩ = false := by
    unfold recB
    rw [show decide (1 ≤ (⟨readV a.data.toList, b, c, readV d.data.toList, e⟩ : Rc).rows ∧ (⟨readV a.data.toList, b, c, readV d.data.toList, e⟩ : Rc).rows ≤ 800) = false from decide_eq_false (by rcases read_big h (by omega) with h | h <;> (simp only; omega))]
    simp
  unfold readW
  simp only [hr]
  rfl
def oldC (b j : Nat) (W : World) : Value := (W.cell? ⟨b, j, none⟩).getD (.bool false)
structure StR (w : World) (g : Nat) (y : Rc) (W : World) : Prop where
  hb : Below w.heap.size w W
  row : W.ownsRow (w.heap.size + 1) 39 5 (.slice (some ⟨g, 0, none⟩) 1 1) 1 y.cells
  res : ∃ xs, W.ownsRow w.heap.size 39 5 (.slice (some ⟨w.heap.size, 0, none⟩) 1 1) 1 xs
theorem StR.to {w W W' : World} {g : Nat} {y : Rc} (h : StR w g y W) (hb : Below W.heap.size W W') : StR w g y W' :=
  ⟨bw_to h.hb hb, own_to h.row hb, let ⟨xs, hx⟩ := h.res; ⟨xs, own_to hx hb⟩⟩
theorem StR.drew {w W : World} {g : Nat} {y : Rc} (h : StR w g y W) : StR w g y W.drew := h.to (Below.drew (Below.refl _ _))
theorem StR.set1 {w W : World} {g : Nat} {y : Rc} (h : StR w g y W) (j : Nat) (u : Value) : StR w g y (W.setCell ⟨w.heap.size, j, none⟩ u) :=
  ⟨grow_set h.hb (Nat.le_refl _) _, ownsRow_setCell_other h.row (by have h1 : w.heap.size + 1 ≤ g := (h.row.lt _ rfl).1; simp [Value.ownBlock]; omega) _, let ⟨xs, hx⟩ := h.res; ⟨_, own_set hx j u⟩⟩
theorem StR.set5 {w W : World} {g : Nat} {y : Rc} (h : StR w g y W) {u0 u1 u2 u3 u4 : Value} : StR w g y (((((W.setCell ⟨w.heap.size, 0, none⟩ u0).setCell ⟨w.heap.size, 1, none⟩ u1).setCell ⟨w.heap.size, 2, none⟩ u2).setCell ⟨w.heap.size, 3, none⟩ u3).setCell ⟨w.heap.size, 4, none⟩ u4) :=
  ((((h.set1 0 u0).set1 1 u1).set1 2 u2).set1 3 u3).set1 4 u4
theorem StR.facts {w W : World} {g : Nat} {y : Rc} (h : StR w g y W) :
    (W.cell? ⟨g, 0, none⟩ = some (.int .i64 y.day) ∧ W.cell? ⟨g, 1, none⟩ = some (.string y.meth) ∧ W.cell? ⟨g, 2, none⟩ = some (.string y.touch) ∧ W.cell? ⟨g, 3, none⟩ = some (.int .i64 y.rows) ∧ W.cell? ⟨g, 4, none⟩ = some (.string y.note)) ∧
    (W.cell? ⟨w.heap.size, 0, none⟩ = some (oldC w.heap.size 0 W) ∧ W.cell? ⟨w.heap.size, 1, none⟩ = some (oldC w.heap.size 1 W) ∧ W.cell? ⟨w.heap.size, 2, none⟩ = some (oldC w.heap.size 2 W) ∧ W.cell? ⟨w.heap.size, 3, none⟩ = some (oldC w.heap.size 3 W) ∧ W.cell? ⟨w.heap.size, 4, none⟩ = some (oldC w.heap.size 4 W)) ∧ (∀ j, W.frozen? ⟨w.heap.size, j, none⟩ = false) ∧ w.heap.size ≠ g := by
  obtain ⟨xs, hx⟩ := h.res
  have hl : xs.length = 5 := hx.1
  refine ⟨(rc_cellsY h.row).1, ?_, fun j => hx.frozenAt j, by have h1 : w.heap.size + 1 ≤ g := (h.row.lt _ rfl).1; omega⟩
  refine ⟨?_, ?_, ?_, ?_, ?_⟩
  · unfold oldC; rw [hx.cellAt 0 (by omega)]; simp [hl]
  · unfold oldC; rw [hx.cellAt 1 (by omega)]; simp [hl]
  · unfold oldC; rw [hx.cellAt 2 (by omega)]; simp [hl]
  · unfold oldC; rw [hx.cellAt 3 (by omega)]; simp [hl]
  · unfold oldC; rw [hx.cellAt 4 (by omega)]; simp [hl]
theorem abs_world {P F : World → Prop} {W : World} (h : F W) (k : ∀ W3, F W3 → P W3) : P W := k W h
/-- The result's box holds y. -/
def OutY (w : World) (y : Rc) (W : World) : Prop := W.cell? ⟨w.heap.size, 0, none⟩ = some (.int .i64 y.day) ∧ W.cell? ⟨w.heap.size, 1, none⟩ = some (.string y.meth) ∧ W.cell? ⟨w.heap.size, 2, none⟩ = some (.string y.touch) ∧ W.cell? ⟨w.heap.size, 3, none⟩ = some (.int .i64 y.rows) ∧ W.cell? ⟨w.heap.size, 4, none⟩ = some (.string y.note)
theorem heap_of_set {W : World} {g j : Nat} {u : Value} {cs : Array Value} {T : TypeId} {fr : Nat × Nat} (h : (W.setCell ⟨g, j, none⟩ u).heap[g]? = some (.cells cs T fr)) : ∃ cs0, W.heap[g]? = some (.cells cs0 T fr) ∧ cs = cs0.setIfInBounds j u := by
  simp only [World.setCell, Array.getElem?_modify, if_true] at h
  cases hg : W.heap[g]? with
  | none => rw [hg] at h; cases h
  | some o =>
    rw [hg] at h
    cases o with
    | cells c e f => simp at h; obtain ⟨rfl, rfl, rfl⟩ := h; exact ⟨c, rfl, rfl⟩
    | _ => simp at h
theorem outy_of {w W : World} {G : Nat} {y : Rc} (h : StR w G y (((((W.setCell ⟨w.heap.size, 0, none⟩ (.int .i64 y.day)).setCell ⟨w.heap.size, 1, none⟩ (.string y.meth)).setCell ⟨w.heap.size, 2, none⟩ (.string y.touch)).setCell ⟨w.heap.size, 3, none⟩ (.int .i64 y.rows)).setCell ⟨w.heap.size, 4, none⟩ (.string y.note))) :
    StR w G y (((((W.setCell ⟨w.heap.size, 0, none⟩ (.int .i64 y.day)).setCell ⟨w.heap.size, 1, none⟩ (.string y.meth)).setCell ⟨w.heap.size, 2, none⟩ (.string y.touch)).setCell ⟨w.heap.size, 3, none⟩ (.int .i64 y.rows)).setCell ⟨w.heap.size, 4, none⟩ (.string y.note)) ∧
    OutY w y (((((W.setCell ⟨w.heap.size, 0, none⟩ (.int .i64 y.day)).setCell ⟨w.heap.size, 1, none⟩ (.string y.meth)).setCell ⟨w.heap.size, 2, none⟩ (.string y.touch)).setCell ⟨w.heap.size, 3, none⟩ (.int .i64 y.rows)).setCell ⟨w.heap.size, 4, none⟩ (.string y.note)) := by
  refine ⟨h, ?_⟩
  obtain ⟨xs, hx⟩ := h.res
  obtain ⟨_, _, _, cur, hg, hl, _⟩ := own_form hx
  have hg5 := hg
  obtain ⟨c1, hg, e1⟩ := heap_of_set hg
  obtain ⟨c2, hg, e2⟩ := heap_of_set hg
  obtain ⟨c3, hg, e3⟩ := heap_of_set hg
  obtain ⟨c4, hg, e4⟩ := heap_of_set hg
  obtain ⟨c5, hg, e5⟩ := heap_of_set hg
  have hz : 5 ≤ c5.size := by have h5 := congrArg Array.size e1; rw [e2, e3, e4, e5] at h5; simp at h5; omega
  have hne : ¬ c5 = #[] := by rintro rfl; simp at hz
  subst e5 e4 e3 e2
  rw [e1] at hg5
  unfold OutY
  refine ⟨?_, ?_, ?_, ?_, ?_⟩ <;> (rw [heap_cell hg5]; simp [Array.getElem?_setIfInBounds]; first | omega | exact hne)
set_option maxRecDepth 10000 in
set_option maxHeartbeats 4000000 in
theorem readRecord_any (s : ByteArray) (w : World) (hs : s.size ≤ 1048576) (ht : Tab10 w) (hm : ∀ w', Below w.heap.size w w' → ∃ m, w'.cell? ⟨0, 0, none⟩ = some (.int .i64 m)) : Calls Tryz.prog 27 #[.string s] w (ReadPost w s) := by
  have Ht := Lib.hid ht
  have hsplit : ∀ W, Below w.heap.size w W → Calls Tryz.prog 49 #[.string s, .string ⟨#[32]⟩] W fun e w' => e = .returned (.slice (some ⟨W.heap.size, 0, none⟩) (splitW 32 s).length (splitW 32 s).length) ∧ w' = W.alloc (.cells ((splitW 32 s).map Value.string).toArray 9) := by
    intro W hW
    obtain ⟨m, hm'⟩ := hm W hW
    have h := Tryz.strings_Split s ⟨#[32]⟩ m W (by omega) hm' (by show 1 ≤ 1; omega)
    rw [splitB_W, ← splitW_len] at h
    exact h
  have Hsplit := Lib.hid hsplit
  have hpz := splitW_size (c := 32) (s := s)
  have hro : readO s = readW s (splitW 32 s) := rfl
  obtain ⟨ws, hws⟩ : ∃ ws, ws = splitW 32 s := ⟨_, rfl⟩
  unfold ReadPost
  obtain ⟨o, ho⟩ : ∃ o, o = readO s := ⟨_, rfl⟩
  rw [← ho]
  rw [← hws] at Hsplit hpz
  rw [← hws, ← ho] at hro
  have HO := Lib.hid hro
  have Hpz := Lib.hid hpz
  have hwl : ws.length ≤ 1048577 := by rw [hws, splitW_len]; have := Lib.countB_le ⟨#[32]⟩ (by show 1 ≤ 1; omega) s.size s (Nat.le_refl _); omega
  clear ht hm hsplit hro hpz hws ho
  go_enter Tryz.func27, Tryz.ntmps27
  go_wp2_with fail
  refine box1 (C := fun W => Calls _ _ _ W _) ?_
  intro wb hw k1 hB0
  have KR := Lib.hid (rc_rowY k1)
  have hgw : w.heap.size < wb.heap.size := (Array.getElem?_eq_some_iff.1 k1).1
  clear k1
  refine (Hsplit.out wb hw).mono ?_; rintro e w1 ⟨rfl, hw1⟩
  have hB1 : Below wb.heap.size wb w1 := by rw [hw1]; exact (Below.refl _ _).alloc (Nat.le_refl _) _
  have hrow : w1.heap[wb.heap.size]? = some (.cells (ws.map Value.string).toArray 9 (0, 0)) := by rw [hw1]; exact heap_new _ _
  clear hw1
  by_cases h6 : ws.length = 6
  case neg =>
    have Hn := Lib.hid (readW_no (s := s) h6)
    have h6b : ((ws.length : Int) == 6) = false := by simp; omega
    have h6c : ((ws.length : Int) != 6) = true := by simp; omega
    obtain ⟨⟨r0, r1, r2, r3, r4⟩, fr⟩ := rc_cellsY (own_to KR.out hB1)
    clear hrow
    go_wp2_with fail
    refine bodyPost_ret (v := .tuple #[rz.v, .bool false]) (by simp [results, go_sem, rz, Rc.v, r0, r1, r2, r3, r4]) rfl ⟨by rw [HO.out, Hn.out]; rfl, ?_⟩
    exact grow_set (grow_set (grow_set (grow_set (grow_set (bw_to hw hB1) (Nat.le_refl _) _) (Nat.le_refl _) _) (Nat.le_refl _) _) (Nat.le_refl _) _) (Nat.le_refl _) _
  case pos =>
    obtain ⟨a, b, c, d, e, f, rfl⟩ := six h6
    have K6 := Lib.hid (own_of_heap (n := 6) (size := 1) hrow (Nat.le_refl _) (by unfold maxLen; omega) rfl)
    have hza := Hpz.out a (by simp)
    have hzb := Hpz.out b (by simp)
    have hzc := Hpz.out c (by simp)
    have hzd := Hpz.out d (by simp)
    have hze := Hpz.out e (by simp)
    obtain ⟨x0, x1, x2, x3, x4⟩ := strs6 K6.out
    clear hrow h6 Hpz hwl
    have Hb1 := Lib.hid (readW_bad1 (s := s) (a := a) (b := b) (c := c) (d := d) (e := e) (f := f))
    have Hb2 := Lib.hid (readW_bad2 (s := s) (a := a) (b := b) (c := c) (d := d) (e := e) (f := f))
    have Hv1 := Lib.hid (num_read (l := a.data.toList) (m := 5) (by omega))
    have Hv2 := Lib.hid (num_read (l := d.data.toList) (m := 3) (by omega))
    go_wp2_with fail
    refine (number_any a 5 w1 (by unfold maxLen; omega) (by omega)).mono ?_; rintro e' w' ⟨rfl, rfl⟩
    go_wp2_with fail
    refine (number_any d 3 w1 (by unfold maxLen; omega) (by omega)).mono ?_; rintro e' w' ⟨rfl, rfl⟩
    obtain ⟨p, hp⟩ : ∃ p, p = canB a.data.toList 5 := ⟨_, rfl⟩
    obtain ⟨q, hq⟩ : ∃ q, q = canB d.data.toList 3 := ⟨_, rfl⟩
    obtain ⟨u, hu⟩ : ∃ u, u = numV a.data.toList 5 := ⟨_, rfl⟩
    obtain ⟨v, hv⟩ : ∃ v, v = numV d.data.toList 3 := ⟨_, rfl⟩
    rw [← hp, ← hq, ← hu, ← hv]
    rw [← hp] at Hb1
    rw [← hq] at Hb2
    rw [← hp, ← hu] at Hv1
    rw [← hq, ← hv] at Hv2
    clear hp hq hu hv
    go_wp2_with fail
    have hlt1 : wb.heap.size < w1.heap.size := (K6.out.lt _ rfl).2
    have hlt2 : w.heap.size < w1.heap.size := by omega
    have RX := fun W (hb : Below w1.heap.size w1 W) => strs6 (own_to K6.out hb)
    have hst := Below.refl w1.heap.size w1
    have hz1 : w1.heap.size ≤ w1.heap.size := Nat.le_refl _
    go_region
    obtain ⟨W2, hW2⟩ : ∃ W2, W2 = (w1.alloc (.cells #[.int .i64 u, .string b, .string c, .int .i64 v, .string e] 39)).drew := ⟨_, rfl⟩
    have hB2 : Below w1.heap.size w1 W2 := by rw [hW2]; exact Below.drew ((Below.refl _ _).alloc (Nat.le_refl _) _)
    have K2 := Lib.hid (show W2.ownsRow w1.heap.size 39 5 (.slice (some ⟨w1.heap.size, 0, none⟩) 1 1) 1 [.int .i64 u, .string b, .string c, .int .i64 v, .string e] by rw [hW2]; exact own_to (rc_rowY (heap_new w1 _)) (Below.drew (Below.refl _ _)))
    rw [← hW2]
    have hBw2 := bw_to (bw_to hw hB1) hB2
    have KR2 := Lib.hid (own_to (own_to KR.out hB1) hB2)
    obtain ⟨⟨r0, r1, r2, r3, r4⟩, fr⟩ := rc_cellsY KR2.out
    have hne : w.heap.size ≠ w1.heap.size := by omega
    clear hW2 RX hst hz1 x0 x1 x2 x3 x4
    cases p
    · have Hn := Lib.hid (Hb1.out rfl)
      go_wp2_with fail
      refine bodyPost_ret (v := .tuple #[rz.v, .bool false]) (by simp [results, go_sem, rz, Rc.v, r0, r1, r2, r3, r4]) rfl ⟨by rw [HO.out, Hn.out]; rfl, ?_⟩
      exact grow_set (grow_set (grow_set (grow_set (grow_set (hBw2) (Nat.le_refl _) _) (Nat.le_refl _) _) (Nat.le_refl _) _) (Nat.le_refl _) _) (Nat.le_refl _) _
    · cases q
      · have Hn := Lib.hid (Hb2.out rfl)
        go_wp2_with fail
        refine bodyPost_ret (v := .tuple #[rz.v, .bool false]) (by simp [results, go_sem, rz, Rc.v, r0, r1, r2, r3, r4]) rfl ⟨by rw [HO.out, Hn.out]; rfl, ?_⟩
        exact grow_set (grow_set (grow_set (grow_set (grow_set (hBw2) (Nat.le_refl _) _) (Nat.le_refl _) _) (Nat.le_refl _) _) (Nat.le_refl _) _) (Nat.le_refl _) _
      · have e1 := Hv1.out rfl
        have e2 := Hv2.out rfl
        have hdef : readW s [a, b, c, d, e, f] = if recB ⟨u, b, c, v, e⟩ && ((lineT ⟨u, b, c, v, e⟩).toList == s.toList) then some ⟨u, b, c, v, e⟩ else none := by rw [e1, e2]; rfl
        have Hdef := Lib.hid hdef
        have hgr := fun W => implGoodRecord_any ⟨u, b, c, v, e⟩ W ⟨by unfold maxLen; show b.size ≤ _; omega, by unfold maxLen; show c.size ≤ _; omega, by unfold maxLen; show e.size ≤ _; omega⟩
        have Hln := Lib.hid (fun (h : recB ⟨u, b, c, v, e⟩ = true) W ht => recordLine_any ⟨u, b, c, v, e⟩ W h ht)
        obtain ⟨g, hg⟩ : ∃ g, g = recB ⟨u, b, c, v, e⟩ := ⟨_, rfl⟩
        obtain ⟨T, hT⟩ : ∃ T, T = lineT ⟨u, b, c, v, e⟩ := ⟨_, rfl⟩
        rw [← hg] at hgr Hdef Hln
        rw [← hT] at Hdef Hln
        have Hgr := Lib.hid hgr
        unfold Rc.v at Hgr Hln
        obtain ⟨⟨x0, x1, x2, x3, x4⟩, fx⟩ := rc_cellsY K2.out
        clear e1 e2 hdef hgr hg hT Hb1 Hb2 Hv1 Hv2
        go_wp2_with fail
        refine (Hgr.out _).mono ?_; rintro e' w3 ⟨rfl, hb3⟩
        have hBw3 := bw_to hBw2 hb3
        have KR3 := Lib.hid (own_to KR2.out hb3)
        have K3 := Lib.hid (own_to K2.out hb3)
        clear x0 x1 x2 x3 x4 fx r0 r1 r2 r3 r4 fr
        obtain ⟨⟨r0, r1, r2, r3, r4⟩, fr⟩ := rc_cellsY KR3.out
        obtain ⟨⟨x0, x1, x2, x3, x4⟩, fx⟩ := rc_cellsY K3.out
        cases g
        · have Hn : Hid (readW s [a, b, c, d, e, f] = none) := Lib.hid (by rw [Hdef.out]; rfl)
          go_wp2_with fail
          refine bodyPost_ret (v := .tuple #[rz.v, .bool false]) (by simp [results, go_sem, rz, Rc.v, r0, r1, r2, r3, r4]) rfl ⟨by rw [HO.out, Hn.out]; rfl, ?_⟩
          exact grow_set (grow_set (grow_set (grow_set (grow_set (hBw3) (Nat.le_refl _) _) (Nat.le_refl _) _) (Nat.le_refl _) _) (Nat.le_refl _) _) (Nat.le_refl _) _
        · go_wp2_with fail
          refine (Hln.out (by simp) _ (Ht.out.to hBw3)).mono ?_; rintro e' w4 ⟨rfl, hb4⟩
          have hBw4 := bw_to hBw3 hb4
          have KR4 := Lib.hid (own_to KR3.out hb4)
          have K4 := Lib.hid (own_to K3.out hb4)
          clear x0 x1 x2 x3 x4 fx r0 r1 r2 r3 r4 fr
          obtain ⟨⟨r0, r1, r2, r3, r4⟩, fr⟩ := rc_cellsY KR4.out
          obtain ⟨⟨x0, x1, x2, x3, x4⟩, fx⟩ := rc_cellsY K4.out
          cases hT : (T.toList == s.toList)
          · have Hn : Hid (readW s [a, b, c, d, e, f] = none) := Lib.hid (by rw [Hdef.out, hT]; rfl)
            go_wp2_with fail
            refine bodyPost_ret (v := .tuple #[rz.v, .bool false]) (by simp [results, go_sem, rz, Rc.v, r0, r1, r2, r3, r4]) rfl ⟨by rw [HO.out, Hn.out]; rfl, ?_⟩
            exact grow_set (grow_set (grow_set (grow_set (grow_set (hBw4) (Nat.le_refl _) _) (Nat.le_refl _) _) (Nat.le_refl _) _) (Nat.le_refl _) _) (Nat.le_refl _) _
          · have Hn : Hid (readW s [a, b, c, d, e, f] = some ⟨u, b, c, v, e⟩) := Lib.hid (by rw [Hdef.out, hT]; rfl)
            go_wp2_with fail
            refine bodyPost_ret (v := .tuple #[.agg #[.int .i64 u, .string b, .string c, .int .i64 v, .string e], .bool true]) (by simp [results, go_sem, r0, r1, r2, r3, r4]) rfl ⟨by rw [HO.out, Hn.out]; rfl, ?_⟩
            exact grow_set (grow_set (grow_set (grow_set (grow_set (hBw4) (Nat.le_refl _) _) (Nat.le_refl _) _) (Nat.le_refl _) _) (Nat.le_refl _) _) (Nat.le_refl _) _
theorem wpOp_in {P : Program} {ops : Array Oper} {Q : Exit → Act → World → Prop} {i : Nat} {o : Oper} {K : Act → World → Prop} {a : Act} {w : World} (ho : ops[i]? = some o) (hw : Region.wanted o (yielded ops a.tmps) = true) (h : o.wp P a w K Q) : wpOp P ops Q i K a w := by
  unfold wpOp
  simp only [ho, hw, if_true]
  exact .inl h
set_option maxRecDepth 10000 in
set_option maxHeartbeats 4000000 in
theorem l28Read_any (s : ByteArray) (w : World) (hs : s.size ≤ 1048576) : Calls Tryz.prog 30 #[.string s] w fun e w' =>
    ∃ r : Rc, e = .returned (.tuple #[r.v, .bool (readO s).isSome]) ∧ (∀ x, readO s = some x → r = x) ∧ Below w.heap.size w w' := by
  have hsplit : ∀ W, Below w.heap.size w W → Calls Tryz.prog 29 #[.string s, .int .u8 32] W fun e w' => ∃ v, e = .returned v ∧ w'.ownsRow W.heap.size 9 1 v (splitW 32 s).length ((splitW 32 s).map Value.string) ∧ Below W.heap.size W w' := by
    intro W hW
    exact l1Split_any s 32 W (by omega)
  have Hsplit := Lib.hid hsplit
  have hpz := splitW_size (c := 32) (s := s)
  have hro : readO s = readW s (splitW 32 s) := rfl
  obtain ⟨ws, hws⟩ : ∃ ws, ws = splitW 32 s := ⟨_, rfl⟩
  obtain ⟨o, ho⟩ : ∃ o, o = readO s := ⟨_, rfl⟩
  rw [← ho]
  rw [← hws] at Hsplit hpz
  rw [← hws, ← ho] at hro
  have HO := Lib.hid hro
  have Hpz := Lib.hid hpz
  have hwl : ws.length ≤ 1048577 := by rw [hws, splitW_len]; have := Lib.countB_le ⟨#[32]⟩ (by show 1 ≤ 1; omega) s.size s (Nat.le_refl _); omega
  clear hsplit hro hpz hws ho
  go_enter Tryz.func30, Tryz.ntmps30
  go_wp2_with fail
  refine box1 (C := fun W => Calls _ _ _ W _) ?_
  intro wb hw k1 hB0
  have KR := Lib.hid (rc_rowY k1)
  have hgw : w.heap.size < wb.heap.size := (Array.getElem?_eq_some_iff.1 k1).1
  clear k1
  refine (Hsplit.out wb hw).mono ?_; rintro e w1 ⟨vv, rfl, hov, hB1⟩
  obtain ⟨Av, cv, evv, hcl, hcm, _⟩ := sl_of_own hov
  subst evv
  unfold maxLen at hcm
  by_cases h6 : ws.length = 6
  case neg =>
    have Hn := Lib.hid (readW_no (s := s) h6)
    have h6b : ((ws.length : Int) == 6) = false := by simp; omega
    have h6c : ((ws.length : Int) != 6) = true := by simp; omega
    obtain ⟨⟨r0, r1, r2, r3, r4⟩, fr⟩ := rc_cellsY (own_to KR.out hB1)
    clear hov
    go_wp2_with fail
    refine bodyPost_ret (v := .tuple #[rz.v, .bool false]) (by simp [results, go_sem, rz, Rc.v, r0, r1, r2, r3, r4]) rfl ⟨rz, by rw [HO.out, Hn.out]; rfl, (fun x hx => by rw [HO.out, Hn.out] at hx; cases hx), ?_⟩
    exact grow_set (grow_set (grow_set (grow_set (grow_set (bw_to hw hB1) (Nat.le_refl _) _) (Nat.le_refl _) _) (Nat.le_refl _) _) (Nat.le_refl _) _) (Nat.le_refl _) _
  case pos =>
    obtain ⟨a, b, c, d, e, f, rfl⟩ := six h6
    obtain ⟨g, hAg, hgb, hgl⟩ : ∃ g, Av = some ⟨g, 0, none⟩ ∧ wb.heap.size ≤ g ∧ g < w1.heap.size := by
      obtain ⟨g, cap, hv, hb, hl⟩ := hov.form (by omega)
      injection hv with hv _ _
      exact ⟨g, hv, hb, hl⟩
    subst hAg
    have hza := Hpz.out a (by simp)
    have hzb := Hpz.out b (by simp)
    have hzc := Hpz.out c (by simp)
    have hzd := Hpz.out d (by simp)
    have hze := Hpz.out e (by simp)
    have RX := fun W (hb : Below w1.heap.size w1 W) => strs6g (own_to hov hb)
    have hst := Below.refl w1.heap.size w1
    have hg1 : g ≠ w1.heap.size := by omega
    clear h6 Hpz hwl hov
    go_upto_region 4 with fail
    go_cut [5] (fun s5 wx => s5 = .pointer (some ⟨w1.heap.size, 0, none⟩) ∧ Below w1.heap.size w1 wx ∧ wx.ownsRow w1.heap.size 39 5 (.slice (some ⟨w1.heap.size, 0, none⟩) 1 1) 1 [.int .i64 (readV a.data.toList), .string b, .string c, .int .i64 (readV d.data.toList), .string e])
    case first =>
      go_region_held3 (fun W => Below w1.heap.size w1 W) (first | with_reducible assumption | with_reducible exact Below.drew (Below.refl _ _) | with_reducible exact Below.drew (bw_al (Below.refl _ _) _) | exact Below.drew (bw_al (Below.refl _ _) _) | exact bw_al (Below.drew (Below.refl _ _)) _ | exact Below.drew (by assumption) | exact bw_al (by assumption) _)
        (first | (go_at_call 51; refine (l1Read_any _ _ (by unfold maxLen; omega)).mono ?_; rintro e' w' ⟨rfl, rfl⟩))
      all_goals
        go_wp2_with fail
        go_meet
        exact ⟨rfl, Below.drew (bw_al (Below.refl _ _) _), own_to (rc_rowY (heap_new w1 _)) (Below.drew (Below.refl _ _))⟩
    case rest =>
      obtain ⟨rfl, hB2, k2⟩ := hcut
      obtain ⟨u, hu⟩ : ∃ u, u = readV a.data.toList := ⟨_, rfl⟩
      obtain ⟨v, hv⟩ : ∃ v, v = readV d.data.toList := ⟨_, rfl⟩
      have hdef : readW s [a, b, c, d, e, f] = if recB ⟨u, b, c, v, e⟩ && ((lineT ⟨u, b, c, v, e⟩).toList == s.toList) then some ⟨u, b, c, v, e⟩ else none := by rw [hu, hv]; rfl
      have Hdef := Lib.hid hdef
      rw [← hu, ← hv] at k2
      clear hdef hu hv RX hst
      have K2 := Lib.hid k2
      have hBw2 := bw_to (bw_to hw hB1) hB2
      have KR2 := Lib.hid (own_to (own_to KR.out hB1) hB2)
      have hgr := fun W => l28Good_any ⟨u, b, c, v, e⟩ W ⟨by unfold maxLen; show b.size ≤ _; omega, by unfold maxLen; show c.size ≤ _; omega, by unfold maxLen; show e.size ≤ _; omega⟩
      have Hln := Lib.hid (fun (h : recB ⟨u, b, c, v, e⟩ = true) W => l28Line_any ⟨u, b, c, v, e⟩ W h)
      obtain ⟨gg, hgg⟩ : ∃ gg, gg = recB ⟨u, b, c, v, e⟩ := ⟨_, rfl⟩
      obtain ⟨T, hT⟩ : ∃ T, T = lineT ⟨u, b, c, v, e⟩ := ⟨_, rfl⟩
      rw [← hgg] at hgr Hdef Hln
      rw [← hT] at Hdef Hln
      have Hgr := Lib.hid hgr
      unfold Rc.v at Hgr Hln
      have hzz : w.heap.size + 1 ≤ w1.heap.size := by have := hB1.size; omega
      have st2 : StR w w1.heap.size ⟨u, b, c, v, e⟩ wc := ⟨hBw2, own_base K2.out hzz, ⟨_, KR2.out⟩⟩
      have SX := fun W (h : StR w w1.heap.size ⟨u, b, c, v, e⟩ W) => h.facts
      obtain ⟨G, hG⟩ : ∃ G, G = w1.heap.size := ⟨_, rfl⟩
      rw [← hG] at st2 SX ⊢
      clear k2 hgr hgg hT KR KR2 K2 hBw2 hzz hG hB2
      cases gg
      · have Hn : Hid (readW s [a, b, c, d, e, f] = none) := Lib.hid (by rw [Hdef.out]; rfl)
        go_wp2_with fail
        refine wp_region_held_drew (S := fun W => StR w G ⟨u, b, c, v, e⟩ W) (by kernel_rfl) st2.drew (fun hHeld => ?_)
        refine wpAnyH_take (i := 0) (v := .agg #[.int .i64 u, .string b, .string c, .int .i64 v, .string e]) rfl (by kernel_rfl) (by kernel_rfl) (by kernel_rfl) (fun _ _ _ h => h) (Or.inl ⟨by rfl, ?_⟩) hHeld ?_
        · intro W hS
          obtain ⟨⟨x0, x1, x2, x3, x4⟩, _⟩ := SX W hS
          go_simp
        try simp only [Act.put, List.setIfInBounds_toArray, List.set_cons_zero, List.set_cons_succ]
        refine wpAnyH_take (i := 1) (v := .agg #[.int .i64 u, .string b, .string c, .int .i64 v, .string e]) rfl (by kernel_rfl) (by kernel_rfl) (by kernel_rfl) (fun _ _ _ h => h) (Or.inl ⟨by rfl, ?_⟩) hHeld ?_
        · intro W hS
          obtain ⟨⟨x0, x1, x2, x3, x4⟩, _⟩ := SX W hS
          go_simp
        try simp only [Act.put, List.setIfInBounds_toArray, List.set_cons_zero, List.set_cons_succ]
        refine wpAnyH_all (rs := [2]) (by kernel_rfl) (by simp) ?_
        intro i hi
        obtain rfl := List.mem_singleton.1 hi
        refine wpOp_in rfl (by rfl) ?_
        unfold Oper.wp
        go_simp
        go_at_call 40
        refine (Hgr.out _).mono ?_; rintro e' w' ⟨rfl, hb'⟩
        have hSt := StR.to hHeld hb'
        have hSX := SX w' hSt
        have z0 := hSX.2.1.1
        have z1 := hSX.2.1.2.1
        have z2 := hSX.2.1.2.2.1
        have z3 := hSX.2.1.2.2.2.1
        have z4 := hSX.2.1.2.2.2.2
        have zf := hSX.2.2.1
        have zn := hSX.2.2.2
        clear hSX SX
        refine ⟨hSt, ?_⟩
        try simp only [Act.put, List.setIfInBounds_toArray, List.set_cons_zero, List.set_cons_succ]
        refine wpAnyH_take (i := 3) (v := .bool false) rfl (by kernel_rfl) (by kernel_rfl) (by kernel_rfl) (fun _ _ _ h => h) (Or.inl ⟨by rfl, fun _ _ => by rfl⟩) hSt ?_
        try simp only [Act.put, List.setIfInBounds_toArray, List.set_cons_zero, List.set_cons_succ]
        refine wpAnyH_take (i := 4) (v := undef) rfl (by kernel_rfl) (by kernel_rfl) (by kernel_rfl) (fun _ _ _ h => h) (Or.inr ⟨by rfl, rfl⟩) hSt ?_
        try simp only [Act.put, List.setIfInBounds_toArray, List.set_cons_zero, List.set_cons_succ]
        refine wpAnyH_take (i := 5) (v := undef) rfl (by kernel_rfl) (by kernel_rfl) (by kernel_rfl) (fun _ _ _ h => h) (Or.inr ⟨by rfl, rfl⟩) hSt ?_
        try simp only [Act.put, List.setIfInBounds_toArray, List.set_cons_zero, List.set_cons_succ]
        refine wpAnyH_take (i := 6) (v := undef) rfl (by kernel_rfl) (by kernel_rfl) (by kernel_rfl) (fun _ _ _ h => h) (Or.inr ⟨by rfl, rfl⟩) hSt ?_
        try simp only [Act.put, List.setIfInBounds_toArray, List.set_cons_zero, List.set_cons_succ]
        refine wpAnyH_take (i := 7) (v := undef) rfl (by kernel_rfl) (by kernel_rfl) (by kernel_rfl) (fun _ _ _ h => h) (Or.inr ⟨by rfl, rfl⟩) hSt ?_
        try simp only [Act.put, List.setIfInBounds_toArray, List.set_cons_zero, List.set_cons_succ]
        refine wpAnyH_take (i := 8) (v := .bool false) rfl (by kernel_rfl) (by kernel_rfl) (by kernel_rfl) (fun _ _ _ h => h) (Or.inl ⟨by rfl, fun _ _ => by rfl⟩) hSt ?_
        try simp only [Act.put, List.setIfInBounds_toArray, List.set_cons_zero, List.set_cons_succ]
        refine wpAnyH_all (rs := [9]) (by kernel_rfl) (by simp) ?_
        intro i hi
        obtain rfl := List.mem_singleton.1 hi
        refine wpOp_in rfl (by rfl) ?_
        unfold Oper.wp
        go_simp
        refine ⟨StR.set5 hSt, ?_⟩
        try simp only [Act.put, List.setIfInBounds_toArray, List.set_cons_zero, List.set_cons_succ]
        refine wpAnyH_take (i := 10) (v := .bool false) rfl (by kernel_rfl) (by kernel_rfl) (by kernel_rfl) (fun _ _ _ h => h) (Or.inl ⟨by rfl, fun _ _ => by rfl⟩) (StR.set5 hSt) ?_
        try simp only [Act.put, List.setIfInBounds_toArray, List.set_cons_zero, List.set_cons_succ]
        refine wpAnyH_done (by kernel_rfl) ?_ _
        refine abs_world (F := fun W => StR w G ⟨u, b, c, v, e⟩ W ∧ OutY w ⟨u, b, c, v, e⟩ W) (outy_of (StR.set5 hSt)) ?_
        intro W3 hS
        obtain ⟨hS1, y0, y1, y2, y3, y4⟩ := hS
        clear z0 z1 z2 z3 z4 zf zn
        go_wp2_with fail
        exact bodyPost_ret (v := .tuple #[.agg #[.int .i64 u, .string b, .string c, .int .i64 v, .string e], .bool false]) (by simp [results, go_sem, y0, y1, y2, y3, y4]) rfl ⟨⟨u, b, c, v, e⟩, by rw [HO.out, Hn.out]; rfl, (fun x hx => by rw [HO.out, Hn.out] at hx; cases hx), hS1.hb⟩
      · cases hTs : (T.toList == s.toList)
        · have Hn : Hid (readW s [a, b, c, d, e, f] = none) := Lib.hid (by rw [Hdef.out, hTs]; rfl)
          go_wp2_with fail
          go_region_held3 (fun W => StR w G ⟨u, b, c, v, e⟩ W) (first | with_reducible assumption | exact StR.drew (by assumption) | exact StR.to (by assumption) hb' | exact StR.set5 (by assumption))
            (first | (go_at_call 40; refine (Hgr.out _).mono ?_; rintro e' w' ⟨rfl, hb'⟩) | (go_at_call 19; refine (Hln.out (by simp) _).mono ?_; rintro e' w' ⟨rfl, hb'⟩))
          all_goals
            refine abs_world (F := fun W => StR w G ⟨u, b, c, v, e⟩ W ∧ OutY w ⟨u, b, c, v, e⟩ W) (outy_of (by assumption)) ?_
            intro W3 hS
            obtain ⟨hS1, y0, y1, y2, y3, y4⟩ := hS
            clear SX st2
            go_wp2_with fail
            exact bodyPost_ret (v := .tuple #[.agg #[.int .i64 u, .string b, .string c, .int .i64 v, .string e], .bool false]) (by simp [results, go_sem, y0, y1, y2, y3, y4]) rfl ⟨⟨u, b, c, v, e⟩, by rw [HO.out, Hn.out]; rfl, (fun x hx => by rw [HO.out, Hn.out] at hx; cases hx), hS1.hb⟩
        · have Hn : Hid (readW s [a, b, c, d, e, f] = some ⟨u, b, c, v, e⟩) := Lib.hid (by rw [Hdef.out, hTs]; rfl)
          go_wp2_with fail
          go_region_held3 (fun W => StR w G ⟨u, b, c, v, e⟩ W) (first | with_reducible assumption | exact StR.drew (by assumption) | exact StR.to (by assumption) hb' | exact StR.set5 (by assumption))
            (first | (go_at_call 40; refine (Hgr.out _).mono ?_; rintro e' w' ⟨rfl, hb'⟩) | (go_at_call 19; refine (Hln.out (by simp) _).mono ?_; rintro e' w' ⟨rfl, hb'⟩))
          all_goals
            refine abs_world (F := fun W => StR w G ⟨u, b, c, v, e⟩ W ∧ OutY w ⟨u, b, c, v, e⟩ W) (outy_of (by assumption)) ?_
            intro W3 hS
            obtain ⟨hS1, y0, y1, y2, y3, y4⟩ := hS
            clear SX st2
            go_wp2_with fail
            exact bodyPost_ret (v := .tuple #[.agg #[.int .i64 u, .string b, .string c, .int .i64 v, .string e], .bool true]) (by simp [results, go_sem, y0, y1, y2, y3, y4]) rfl ⟨⟨u, b, c, v, e⟩, by rw [HO.out, Hn.out]; rfl, (fun x hx => by rw [HO.out, Hn.out] at hx; injection hx), hS1.hb⟩
end Go.Proofs.YtpkpahadjdkafaaGreatDoor
