/- Contracts: slices of methods (size, copy, sameness). -/
import Derived.Test.YtimeecimaokldaaGreatDoorPk3
import Derived.Test.YtimeecimaokldaaGreatDoorPk1
import Derived.Deep.Slices
import Derived.Deep.Fields
import Derived.Lib.SmallJoins
import Derived.Test.YtimeecimaokldaaGreatDoorPk2
namespace Go.Proofs.YtimeecimaokldaaGreatDoor
open Go Go.RowKit
set_option linter.unusedVariables false
set_option linter.unusedSimpArgs false

def AllSmall (ms : List Mt) : Prop := ms.length ≤ 1048576 ∧ ∀ m ∈ ms, MtSmall m
theorem take_allM {p : Mt → Prop} {ss : List Mt} {k : Nat} (hk : k < ss.length) (h : ∀ s ∈ ss.take k, p s) (h1 : p ss[k]) : ∀ s ∈ ss.take (k + 1), p s := by
  intro s hs
  rw [List.take_succ_eq_append_getElem hk] at hs
  rcases List.mem_append.1 hs with hs | hs
  · exact h s hs
  · rw [List.mem_singleton.1 hs]; exact h1
theorem frozen_of_heap {w w' : World} {g : Nat} {cs : Array Value} {t : TypeId} (h : w.heap[g]? = some (.cells cs t (0, 0))) (j : Nat) (hb : Below w.heap.size w w') : w'.frozen? ⟨g, j, none⟩ = false := by
  have hg : g < w.heap.size := by
    rcases Nat.lt_or_ge g w.heap.size with hlt | hge
    · exact hlt
    · rw [Array.getElem?_eq_none hge] at h; cases h
  rw [hb.frozen (p := ⟨g, j, none⟩) hg]
  simp [World.frozen?, h]
/-- A write below a row's base leaves the row. -/
theorem own_past {w : World} {base g : Nat} {e : TypeId} {size n : Nat} {v : Value} {xs : List Value} (h : w.ownsRow base e size v n xs) (hg : g < base) (j : Nat) (u : Value) : (w.setCell ⟨g, j, none⟩ u).ownsRow base e size v n xs :=
  h.kept (row := some g) (gr_set (gr_refl w (some g)) u) (by
    cases hv : v.ownBlock with
    | none => exact .inl rfl
    | some k => exact .inr (fun e => by cases e; have := (h.lt g hv).1; omega))
theorem box3s {C : World → Prop} {w : World} {o1 o2 o3 : Obj} (h : ∀ wb, Below w.heap.size w wb → wb.heap.size = w.heap.size + 3 → wb.heap[w.heap.size]? = some o1 → wb.heap[w.heap.size + 1]? = some o2 → wb.heap[w.heap.size + 2]? = some o3 → Below wb.heap.size wb wb → C wb) : C (((w.alloc o1).alloc o2).alloc o3) :=
  box3 (C := fun W => W.heap.size = w.heap.size + 3 → C W) (fun wb a b c d e f => h wb a f b c d e) (by simp)
set_option maxHeartbeats 1000000 in
theorem toMethod_any (m : Mt) (v : Value) (w : World) (h : MethAt w m v) (hbig : MtSmall m) : Calls Tryz.prog 10 #[m.v v] w fun e w' =>
    ∃ r : Value, e = .returned (m.v r) ∧ w'.ownsRow w.heap.size 9 1 r m.l.length (m.l.map Value.string) ∧ Below w.heap.size w w' := by
  unfold Mt.v
  have hr := h.1
  clear h
  go_enter Tryz.func10, Tryz.ntmps10
  go_wp2_with fail
  refine box3s (C := fun W => Calls _ _ _ W _) ?_
  intro wb hw hwsz k1 k2 k3 hB0
  refine (toStringS_any _ _ _ (hr.to hw) hbig.2.1).mono ?_; rintro e w1 ⟨r, rfl, hown, hb1⟩
  have R2 := boxRule k2
  have R3 := boxRule k3
  have F2 := fun j => frozen_of_heap k2 j hb1
  have F3 := fun j => frozen_of_heap k3 j hb1
  have Hwsz := Lib.hid hwsz
  clear k1 k2 k3 hwsz
  obtain ⟨A, c, hrs⟩ : ∃ A c, r = .slice A m.l.length c := let ⟨A, c, e, _⟩ := sl_of_own hown; ⟨A, c, e⟩
  subst hrs
  go_wp2_with fail
  have hsz : wb.heap.size = w.heap.size + 3 := Hwsz.out
  refine bodyPost_ret (v := .agg #[.string m.name, .int .i64 m.stage, .slice A m.l.length c]) ?hr rfl ⟨_, rfl, ?ho, ?hb⟩
  case ho =>
    refine own_base (own_past (g := w.heap.size + 1) (own_past (g := w.heap.size + 1) (own_past (g := w.heap.size + 1) (own_past (g := w.heap.size + 1 + 1) hown ?_ _ _) ?_ _ _) ?_ _ _) ?_ _ _) hw.size <;> omega
  case hb =>
    exact grow_set (grow_set (grow_set (grow_set (bw_to hw hb1) (by omega) _) (by omega) _) (by omega) _) (by omega) _
  case hr =>
    have r0 := R2 w1 0 hb1
    have r1 := R2 w1 1 hb1
    have r2 := R2 w1 2 hb1
    simp [results, go_sem, r0, r1, r2]
theorem own3 {w : World} {base : Nat} {e : TypeId} {n g cap k : Nat} {xs : List Value} (h : w.ownsRow base e 3 (.slice (some ⟨g, 0, none⟩) n cap) n xs) (hk : k < n) :
    (∃ y0 y1 y2, w.cell? ⟨g, k * 3, none⟩ = some y0 ∧ w.cell? ⟨g, k * 3 + 1, none⟩ = some y1 ∧ w.cell? ⟨g, k * 3 + 2, none⟩ = some y2) ∧
    (w.frozen? ⟨g, k * 3, none⟩ = false ∧ w.frozen? ⟨g, k * 3 + 1, none⟩ = false ∧ w.frozen? ⟨g, k * 3 + 2, none⟩ = false) := by
  obtain ⟨y0, e0⟩ := own_some h (j := k * 3) (by omega)
  obtain ⟨y1, e1⟩ := own_some h (j := k * 3 + 1) (by omega)
  obtain ⟨y2, e2⟩ := own_some h (j := k * 3 + 2) (by omega)
  exact ⟨⟨y0, y1, y2, e0, e1, e2⟩, h.frozenAt _, h.frozenAt _, h.frozenAt _⟩
theorem take_set3 {cs ds : List Value} {k n : Nat} {v0 v1 v2 : Value} (hl : cs.length = n * 3) (hk : k < n) (h : cs.take (k * 3) = ds) :
    (((cs.set (k * 3) v0).set (k * 3 + 1) v1).set (k * 3 + 2) v2).take ((k + 1) * 3) = ds ++ [v0, v1, v2] := by
  rw [show (k + 1) * 3 = k * 3 + 2 + 1 from by omega, take_set_last (by simp; omega), take_set_last (by simp; omega), take_set_last (by omega), h]
  simp
theorem zip_snoc {ms : List Mt} {vs : List Value} {k : Nat} (hk : k < ms.length) (hv : vs.length = k) (v : Value) : (ms.take (k + 1)).zip (vs ++ [v]) = (ms.take k).zip vs ++ [(ms[k], v)] := by
  rw [List.take_succ_eq_append_getElem hk, List.zip_append (by simp; omega)]
  rfl
/-- A row of methods of the call's own, each with a slice of its own. -/
def OwnMeths (w : World) (base : Nat) (v : Value) (ms : List Mt) : Prop := ∃ vs : List Value, vs.length = ms.length ∧ w.ownsRow base 29 3 v ms.length ((ms.zip vs).flatMap mcells) ∧ ∀ p ∈ ms.zip vs, w.ownsRow base 9 1 p.2 p.1.l.length (p.1.l.map Value.string)
theorem OwnMeths.meths {w : World} {base : Nat} {v : Value} {ms : List Mt} (h : OwnMeths w base v ms) (hs : AllSmall ms) : Meths w v ms := by
  obtain ⟨vs, h1, h2, h3⟩ := h
  refine ⟨vs, h1, sl_of_own h2, fun p hp => ⟨strs_of_own (h3 p hp), ?_, ?_⟩⟩
  · exact Nat.le_trans (hs.2 p.1 (List.of_mem_zip hp).1).1 (by unfold maxLen; omega)
  · exact (hs.2 p.1 (List.of_mem_zip hp).1).2.fits
theorem OwnMeths.to {w w' : World} {base : Nat} {v : Value} {ms : List Mt} (h : OwnMeths w base v ms) (hb : Below w.heap.size w w') : OwnMeths w' base v ms :=
  let ⟨vs, h1, h2, h3⟩ := h; ⟨vs, h1, own_to h2 hb, fun p hp => own_to (h3 p hp) hb⟩
theorem info_meth : (Tryz.prog.info? 29).map (fun i => (i.zero, i.size, i.bytes)) = some (some (.agg #[.string ⟨#[]⟩, .int .i64 0, .slice none 0 0]), 3, 48) := by kernel_rfl
set_option maxHeartbeats 1000000 in
theorem eqMethod_same (m : Mt) (v v' : Value) (w : World) (h : Strs w v m.l) (h' : Strs w v' m.l) : Calls Tryz.prog 14 #[m.v v, m.v v'] w fun e w' => e = .returned (.bool true) ∧ Below w.heap.size w w' := by
  unfold Mt.v
  go_enter Tryz.func14, Tryz.ntmps14
  go_wp2_with fail
  refine box2 (C := fun W => Calls _ _ _ W _) ?_
  intro wb hw k1 k2 hB0
  refine (eqStringS_same _ _ _ _ (h.to hw) (h'.to hw)).mono ?_; rintro e w1 ⟨rfl, hb1⟩
  go_wp2_with fail
  go_ret
  exact ⟨rfl, bw_to hw hb1⟩
end Go.Proofs.YtimeecimaokldaaGreatDoor

/- A law's arguments opened: what they read as, in this proof's own words. -/
namespace Go.Proofs.YtimeecimaokldaaGreatDoor
open Go Go.RowKit Go.WideShapes Go.ChangeShapes Go.ChangeAt Go.Joins Go.Deep
set_option linter.unusedVariables false
set_option linter.unusedSimpArgs false
set_option maxRecDepth 100000

section
variable {H : Type} {enc : TypeId × Value → H} {w : World} {base : Nat} {spare : Nat → Bool} {held : Bool}


theorem cells_Method : Tryz.prog.cellsOf 24 = 3 := by kernel_rfl
theorem rd_Method {fuel : Nat} {cs : List Value} {y : DataW H × List MemPlace} (h : DataW.trod enc Tryz.prog w base spare held fuel 24 cs = some y) : ∃ x : Mt × Value, cs = mcells x ∧ MethAt w x.1 x.2 := by
  obtain ⟨hl, m, hf⟩ := rd_struct Tryz.underlying24 h
  rw [cells_Method] at hl
  match cs, hl with
  | [c0, c1, c2], _ =>
    obtain ⟨y0, h0⟩ : ∃ y', DataW.trod enc Tryz.prog w base spare held m 9 [c0] = some y' := by simpa [cells_string] using hf 0 _ rfl
    obtain ⟨y1, h1⟩ : ∃ y', DataW.trod enc Tryz.prog w base spare held m 3 [c1] = some y' := by simpa [cells_int] using hf 1 _ rfl
    obtain ⟨y2, h2⟩ : ∃ y', DataW.trod enc Tryz.prog w base spare held m 22 [c2] = some y' := by simpa [cells_Strs] using hf 2 _ rfl
    obtain ⟨s, e0, _, hs⟩ := DataW.trod_string Tryz.underlying9 h0
    obtain ⟨b, e1, _, _⟩ := DataW.trod_int Tryz.underlying3 h1
    obtain ⟨v, e2, ss, hss, hfit⟩ := rd_Strs h2
    simp only [List.cons.injEq, and_true] at e0 e1 e2
    subst e0 e1 e2
    exact ⟨(⟨s, b, ss⟩, _), rfl, hss, hs, hfit⟩
theorem op_Method {b0 : Nat} {r : Reach} {v : Value} {d : DataW H} {p : List MemPlace} (hv : Value.okWide Tryz.prog w r b0 24 v) (h : DataW.Trod enc Tryz.prog w base spare held 24 v d p) :
    ∃ (m : Mt) (u : Value), v = m.v u ∧ MethAt w m u := by
  obtain ⟨cs, n, rfl, hn⟩ := agg_of Tryz.underlying24 hv h
  obtain ⟨x, e, hx⟩ := rd_Method hn
  exact ⟨x.1, x.2, agg_eq e, hx⟩
end
end Go.Proofs.YtimeecimaokldaaGreatDoor

/- Rows, changes, leads, touches: a plain account. -/
namespace Go.Proofs.YtimeecimaokldaaGreatDoor
open Go Go.RowKit
set_option linter.unusedVariables false
set_option linter.unusedSimpArgs false

def ofL (l : List UInt8) : ByteArray := ⟨l.toArray⟩
theorem ofL_list (l : List UInt8) : (ofL l).data.toList = l := by simp [ofL]
theorem ofL_size (l : List UInt8) : (ofL l).size = l.length := by simp [ofL, ByteArray.size]
theorem ofL_eq (s : ByteArray) : ofL s.data.toList = s := by cases s; simp [ofL]
theorem bytes_ext {a b : ByteArray} (h : a.data.toList = b.data.toList) : a = b := by rw [← ofL_eq a, ← ofL_eq b, h]
def eight : ByteArray := ⟨#[49, 50, 51, 52, 53, 54, 55, 56]⟩
def roundsB (n : Nat) : ByteArray := eight.extract 0 n
def roundsL (n : Nat) : List UInt8 := (List.range n).map fun i => UInt8.ofNat (49 + i)
theorem rounds_list {n : Nat} (h : n ≤ 8) : (roundsB n).data.toList = roundsL n := by
  have : n = 0 ∨ n = 1 ∨ n = 2 ∨ n = 3 ∨ n = 4 ∨ n = 5 ∨ n = 6 ∨ n = 7 ∨ n = 8 := by omega
  rcases this with rfl | rfl | rfl | rfl | rfl | rfl | rfl | rfl | rfl <;> decide
theorem roundsL_len (n : Nat) : (roundsL n).length = n := by simp [roundsL]
theorem roundsL_get {n i : Nat} (h : i < n) : (roundsL n)[i]? = some (UInt8.ofNat (49 + i)) := by simp [roundsL, h]
theorem rounds_size {n : Nat} (h : n ≤ 8) : (roundsB n).size = n := by
  have := congrArg List.length (rounds_list h)
  simpa [roundsL_len] using this
/-- All bytes lie within a stage's bells. -/
def InL (n : Nat) (l : List UInt8) : Prop := ∀ b ∈ l, 49 ≤ b.toNat ∧ b.toNat < 49 + n
def RowIn (n : Nat) (s : ByteArray) : Prop := s.size = n ∧ InL n s.data.toList
theorem RowIn.len {n : Nat} {s : ByteArray} (h : RowIn n s) : s.data.toList.length = n := by rw [bytes_len]; exact h.1
theorem RowIn.at_ {n : Nat} {s : ByteArray} (h : RowIn n s) {i : Nat} (hi : i < s.size) : 49 ≤ (s[i].toNat : Int) ∧ (s[i].toNat : Int) < 49 + n := by
  have := h.2 s[i] (by rw [← bytes_get s i hi]; exact List.getElem_mem _)
  omega
theorem inL_rounds {n : Nat} (h : n ≤ 8) : InL n (roundsL n) := by
  intro b hb
  unfold roundsL at hb
  obtain ⟨i, hi, rfl⟩ := List.mem_map.1 hb
  have hi := List.mem_range.1 hi
  rw [UInt8.toNat_ofNat_of_lt' (by show 49 + i < 256; omega)]
  omega
theorem rounds_in {n : Nat} (h : n ≤ 8) : RowIn n (roundsB n) := ⟨rounds_size h, by rw [rounds_list h]; exact inL_rounds h⟩
def timesL (a b : List UInt8) : List UInt8 := b.map fun c => a.getD (c.toNat - 49) 0
def timesB (a b : ByteArray) : ByteArray := ofL (timesL a.data.toList b.data.toList)
theorem timesL_in {n m : Nat} {a b : List UInt8} (ha : InL n a) (hl : a.length = m) (hb : InL m b) : InL n (timesL a b) := by
  intro x hx
  unfold timesL at hx
  obtain ⟨c, hc, rfl⟩ := List.mem_map.1 hx
  have hc := hb c hc
  rw [List.getD_eq_getElem?_getD, List.getElem?_eq_getElem (by omega)]
  exact ha _ (List.getElem_mem _)
theorem times_in {n : Nat} {a b : ByteArray} (ha : RowIn n a) (hb : RowIn n b) : RowIn n (timesB a b) :=
  ⟨by unfold timesB; rw [ofL_size]; unfold timesL; rw [List.length_map]; exact hb.len, by unfold timesB; rw [ofL_list]; exact timesL_in ha.2 ha.len hb.2⟩
theorem timesL_take {a b : List UInt8} {k : Nat} (hk : k < b.length) : timesL a (b.take (k + 1)) = timesL a (b.take k) ++ [a.getD (b[k].toNat - 49) 0] := by
  unfold timesL; rw [map_take_succ hk]
/-- Does a change keep a place? -/
def stays (c : List UInt8) (p : Nat) : Bool := c.any fun b => decide (place b = (p : Int))
def swapsW (c : List UInt8) (n p : Nat) : List Nat := if p < n then (if stays c p then swapsW c n (p + 1) else p :: swapsW c n (p + 2)) else []
termination_by n - p
theorem swapsW_stay {c : List UInt8} {n p : Nat} (h : p < n) (hs : stays c p = true) : swapsW c n p = swapsW c n (p + 1) := by
  conv => lhs; rw [swapsW]
  rw [if_pos h, if_pos hs]
theorem swapsW_swap {c : List UInt8} {n p : Nat} (h : p < n) (hs : stays c p = false) : swapsW c n p = p :: swapsW c n (p + 2) := by
  conv => lhs; rw [swapsW]
  rw [if_pos h, if_neg (by simp [hs])]
theorem swapsW_end {c : List UInt8} {n p : Nat} (h : ¬ p < n) : swapsW c n p = [] := by rw [swapsW, if_neg h]
theorem swapsW_mem {c : List UInt8} {n : Nat} (f : Nat) : ∀ (p : Nat), n - p ≤ f → ∀ x ∈ swapsW c n p, p ≤ x ∧ x < n := by
  induction f with
  | zero => intro p hf x hx; rw [swapsW_end (by omega)] at hx; cases hx
  | succ f ih =>
    intro p hf x hx
    by_cases h : p < n
    · cases hs : stays c p
      · rw [swapsW_swap h hs] at hx
        rcases List.mem_cons.1 hx with e | hx
        · omega
        · have := ih (p + 2) (by omega) x hx; omega
      · rw [swapsW_stay h hs] at hx
        have := ih (p + 1) (by omega) x hx; omega
    · rw [swapsW_end h] at hx; cases hx
theorem swapsW_len {c : List UInt8} {n : Nat} (f : Nat) : ∀ (p : Nat), n - p ≤ f → (swapsW c n p).length ≤ f := by
  induction f with
  | zero => intro p hf; rw [swapsW_end (by omega)]; simp
  | succ f ih =>
    intro p hf
    by_cases h : p < n
    · cases hs : stays c p
      · rw [swapsW_swap h hs]
        have := ih (p + 2) (by omega); simp; omega
      · rw [swapsW_stay h hs]
        have := ih (p + 1) (by omega); omega
    · rw [swapsW_end h]; simp
def swapAt (b : List UInt8) (p : Nat) : List UInt8 := (b.set (p - 1) (b.getD p 0)).set p (b.getD (p - 1) 0)
theorem swapAt_len (b : List UInt8) (p : Nat) : (swapAt b p).length = b.length := by simp [swapAt]
theorem swapAt_in {n : Nat} {b : List UInt8} {p : Nat} (hb : InL n b) (hp : p < b.length) : InL n (swapAt b p) := by
  intro x hx
  unfold swapAt at hx
  rcases List.mem_or_eq_of_mem_set hx with hx | rfl
  · rcases List.mem_or_eq_of_mem_set hx with hx | rfl
    · exact hb x hx
    · rw [List.getD_eq_getElem?_getD, List.getElem?_eq_getElem hp]; exact hb _ (List.getElem_mem _)
  · rw [List.getD_eq_getElem?_getD, List.getElem?_eq_getElem (by omega)]; exact hb _ (List.getElem_mem _)
theorem foldSwap {n m : Nat} : ∀ (ps : List Nat) (b : List UInt8), b.length = m → (∀ p ∈ ps, p < m) → InL n b → (ps.foldl swapAt b).length = m ∧ InL n (ps.foldl swapAt b)
  | [], b, hl, _, hb => ⟨hl, hb⟩
  | p :: ps, b, hl, hp, hb => by
    rw [List.foldl_cons]
    exact foldSwap ps _ (by rw [swapAt_len]; exact hl) (fun q hq => hp q (List.mem_cons_of_mem _ hq)) (swapAt_in hb (by rw [hl]; exact hp p (List.mem_cons_self ..)))
def chL (n : Nat) (c : List UInt8) : List UInt8 := (swapsW c n 1).foldl swapAt (roundsL n)
def chB (n : Nat) (c : ByteArray) : ByteArray := ofL (chL n c.data.toList)
theorem chL_ok {n : Nat} (h : n ≤ 8) (c : List UInt8) : (chL n c).length = n ∧ InL n (chL n c) :=
  foldSwap _ _ (roundsL_len n) (fun p hp => (swapsW_mem (n - 1) 1 (by omega) p hp).2) (inL_rounds h)
theorem ch_in {n : Nat} (h : n ≤ 8) (c : ByteArray) : RowIn n (chB n c) := ⟨by unfold chB; rw [ofL_size]; exact (chL_ok h _).1, by unfold chB; rw [ofL_list]; exact (chL_ok h _).2⟩
def applyB (r c : ByteArray) : ByteArray := timesB r (chB r.size c)
theorem apply_in {n : Nat} {r : ByteArray} (h : n ≤ 8) (hr : RowIn n r) (c : ByteArray) : RowIn n (applyB r c) := by
  unfold applyB; rw [hr.1]; exact times_in hr (ch_in h c)
/-- Where some changes lead from a row, and the rows on the way. -/
def runB (r : ByteArray) (cs : List ByteArray) : ByteArray := cs.foldl applyB r
def scanB : ByteArray → List ByteArray → List ByteArray
  | r, [] => [r]
  | r, c :: cs => r :: scanB (applyB r c) cs
theorem run_snoc (r : ByteArray) (cs : List ByteArray) (c : ByteArray) : runB r (cs ++ [c]) = applyB (runB r cs) c := by simp [runB]
theorem run_take {r : ByteArray} {cs : List ByteArray} {k : Nat} (h : k < cs.length) : runB r (cs.take (k + 1)) = applyB (runB r (cs.take k)) cs[k] := by
  rw [List.take_succ_eq_append_getElem h, run_snoc]
theorem runB_in {n : Nat} (h : n ≤ 8) : ∀ (cs : List ByteArray) {r : ByteArray}, RowIn n r → RowIn n (runB r cs)
  | [], r, hr => hr
  | c :: cs, r, hr => runB_in h cs (apply_in h hr c)
theorem scan_len : ∀ (cs : List ByteArray) (r : ByteArray), (scanB r cs).length = cs.length + 1
  | [], r => rfl
  | c :: cs, r => by rw [scanB, List.length_cons, scan_len cs, List.length_cons]
theorem scan_snoc : ∀ (cs : List ByteArray) (r c : ByteArray), scanB r (cs ++ [c]) = scanB r cs ++ [runB r (cs ++ [c])]
  | [], r, c => rfl
  | d :: cs, r, c => by
    rw [List.cons_append, scanB, scanB, scan_snoc cs, List.cons_append]; rfl
theorem scan_take {r : ByteArray} {cs : List ByteArray} {k : Nat} (h : k < cs.length) : scanB r (cs.take (k + 1)) = scanB r (cs.take k) ++ [runB r (cs.take (k + 1))] := by
  rw [List.take_succ_eq_append_getElem h, scan_snoc]
theorem scan_last : ∀ (cs : List ByteArray) (r : ByteArray), (scanB r cs)[cs.length]? = some (runB r cs)
  | [], r => rfl
  | c :: cs, r => by rw [scanB, List.length_cons, List.getElem?_cons_succ, scan_last cs]; rfl
theorem scanB_in {n : Nat} (h : n ≤ 8) : ∀ (cs : List ByteArray) {r : ByteArray}, RowIn n r → ∀ x ∈ scanB r cs, RowIn n x
  | [], r, hr, x, hx => by rw [List.mem_singleton.1 hx]; exact hr
  | c :: cs, r, hr, x, hx => by
    rw [scanB] at hx
    rcases List.mem_cons.1 hx with rfl | hx
    · exact hr
    · exact scanB_in h cs (apply_in h hr c) x hx
/-- The rows of a lead. -/
def leadB (r : ByteArray) (cs : List ByteArray) : List ByteArray := (scanB r cs).take cs.length
theorem lead_len (r : ByteArray) (cs : List ByteArray) : (leadB r cs).length = cs.length := by unfold leadB; rw [List.length_take, scan_len]; omega
theorem scan_lead (r : ByteArray) (cs : List ByteArray) : scanB r cs = leadB r cs ++ [runB r cs] := by
  unfold leadB
  have h := scan_last cs r
  have hl := scan_len cs r
  conv => lhs; rw [← List.take_append_drop cs.length (scanB r cs)]
  congr 1
  obtain ⟨h1, h2⟩ := List.getElem?_eq_some_iff.1 h
  rw [List.drop_eq_getElem_cons h1, h2, List.drop_of_length_le (by omega)]
theorem lead_take {r : ByteArray} {cs : List ByteArray} {k : Nat} (h : k < cs.length) : leadB r (cs.take (k + 1)) = leadB r (cs.take k) ++ [runB r (cs.take k)] := by
  have e := scan_take (r := r) h
  rw [scan_lead, scan_lead r (cs.take k)] at e
  exact (List.append_inj' e rfl).1
theorem lead_in {n : Nat} (h : n ≤ 8) (cs : List ByteArray) {r : ByteArray} (hr : RowIn n r) : ∀ x ∈ leadB r cs, RowIn n x := fun x hx => scanB_in h cs hr x (List.mem_of_mem_take hx)
/-- The changes of a lead with a call. -/
def callCh (l : List ByteArray) (b s : ByteArray) (c : UInt8) : ByteArray := if c = 98 then b else if c = 115 then s else l.getLastD ⟨#[]⟩
def calledL (l : List ByteArray) (b s : ByteArray) (c : UInt8) : List ByteArray := l.take (l.length - 1) ++ [callCh l b s c]
theorem called_len {l : List ByteArray} (h : 0 < l.length) (b s : ByteArray) (c : UInt8) : (calledL l b s c).length = l.length := by simp [calledL]; omega
theorem take_last {l : List ByteArray} (h : 0 < l.length) : l.take (l.length - 1) ++ [l.getLastD ⟨#[]⟩] = l := by
  rw [List.getLastD_eq_getLast?, List.getLast?_eq_getElem?, List.getElem?_eq_getElem (by omega)]
  simp only [Option.getD_some]
  rw [← List.take_succ_eq_append_getElem (by omega), show l.length - 1 + 1 = l.length by omega, List.take_length]
theorem called_plain {l : List ByteArray} (h : 0 < l.length) (b s : ByteArray) {c : UInt8} (h1 : c ≠ 98) (h2 : c ≠ 115) : calledL l b s c = l := by
  unfold calledL callCh
  rw [if_neg h1, if_neg h2, take_last h]
theorem called_set {l : List ByteArray} (h : 0 < l.length) (x : ByteArray) : l.set (l.length - 1) x = l.take (l.length - 1) ++ [x] := by
  rw [List.set_eq_take_append_cons_drop, if_pos (by omega), show l.length - 1 + 1 = l.length by omega, List.drop_length]
def headB (n : Nat) (l : List ByteArray) (b s : ByteArray) (c : UInt8) : ByteArray := runB (roundsB n) (calledL l b s c)
theorem headB_last (n : Nat) (l : List ByteArray) (b s : ByteArray) (c : UInt8) : headB n l b s c = applyB (runB (roundsB n) (l.take (l.length - 1))) (callCh l b s c) := by
  unfold headB calledL; rw [run_snoc]
theorem head_in {n : Nat} (h : n ≤ 8) (l : List ByteArray) (b s : ByteArray) (c : UInt8) : RowIn n (headB n l b s c) := runB_in h _ (rounds_in h)
/-- The lead heads of a touch: one more than it has calls. -/
def headsB (f : UInt8 → ByteArray) : ByteArray → List UInt8 → List ByteArray
  | h, [] => [h]
  | h, c :: cs => h :: headsB f (timesB h (f c)) cs
def endB (f : UInt8 → ByteArray) (h : ByteArray) (t : List UInt8) : ByteArray := t.foldl (fun h c => timesB h (f c)) h
theorem end_snoc (f : UInt8 → ByteArray) (h : ByteArray) (t : List UInt8) (c : UInt8) : endB f h (t ++ [c]) = timesB (endB f h t) (f c) := by simp [endB]
theorem end_take {f : UInt8 → ByteArray} {h : ByteArray} {t : List UInt8} {k : Nat} (hk : k < t.length) : endB f h (t.take (k + 1)) = timesB (endB f h (t.take k)) (f t[k]) := by
  rw [List.take_succ_eq_append_getElem hk, end_snoc]
theorem heads_len (f : UInt8 → ByteArray) : ∀ (t : List UInt8) (h : ByteArray), (headsB f h t).length = t.length + 1
  | [], h => rfl
  | c :: t, h => by rw [headsB, List.length_cons, heads_len f t, List.length_cons]
theorem heads_snoc (f : UInt8 → ByteArray) : ∀ (t : List UInt8) (h : ByteArray) (c : UInt8), headsB f h (t ++ [c]) = headsB f h t ++ [endB f h (t ++ [c])]
  | [], h, c => rfl
  | d :: t, h, c => by rw [List.cons_append, headsB, headsB, heads_snoc f t, List.cons_append]; rfl
theorem heads_take {f : UInt8 → ByteArray} {h : ByteArray} {t : List UInt8} {k : Nat} (hk : k < t.length) : headsB f h (t.take (k + 1)) = headsB f h (t.take k) ++ [endB f h (t.take (k + 1))] := by
  rw [List.take_succ_eq_append_getElem hk, heads_snoc]
theorem heads_last (f : UInt8 → ByteArray) : ∀ (t : List UInt8) (h : ByteArray), (headsB f h t)[t.length]? = some (endB f h t)
  | [], h => rfl
  | c :: t, h => by rw [headsB, List.length_cons, List.getElem?_cons_succ, heads_last f t]; rfl
theorem end_in {n : Nat} {f : UInt8 → ByteArray} (hf : ∀ c, RowIn n (f c)) : ∀ (t : List UInt8) {h : ByteArray}, RowIn n h → RowIn n (endB f h t)
  | [], h, hh => hh
  | c :: t, h, hh => end_in hf t (times_in hh (hf c))
theorem heads_in {n : Nat} {f : UInt8 → ByteArray} (hf : ∀ c, RowIn n (f c)) : ∀ (t : List UInt8) {h : ByteArray}, RowIn n h → ∀ x ∈ headsB f h t, RowIn n x
  | [], h, hh, x, hx => by rw [List.mem_singleton.1 hx]; exact hh
  | c :: t, h, hh, x, hx => by
    rw [headsB] at hx
    rcases List.mem_cons.1 hx with rfl | hx
    · exact hh
    · exact heads_in hf t (times_in hh (hf c)) x hx
/-- The rows of the leads from some heads. -/
def rowsB (l : List ByteArray) (hs : List ByteArray) : List ByteArray := hs.flatMap fun h => leadB h l
theorem rows_len (l : List ByteArray) : ∀ hs : List ByteArray, (rowsB l hs).length = hs.length * l.length
  | [] => by simp [rowsB]
  | h :: hs => by
    have ih := rows_len l hs
    unfold rowsB at ih ⊢
    rw [List.flatMap_cons, List.length_append, lead_len, ih, List.length_cons, Nat.succ_mul, Nat.add_comm]
theorem rows_take {l hs : List ByteArray} {k : Nat} (hk : k < hs.length) : rowsB l (hs.take (k + 1)) = rowsB l (hs.take k) ++ leadB hs[k] l := by
  unfold rowsB; rw [List.take_succ_eq_append_getElem hk, List.flatMap_append]; simp
/-- The spec's way to a change's row: a step that swaps. -/
theorem spec_swap {n p : Nat} {b : List UInt8} (hb : b.length = n) (hp : 1 ≤ p) (hn : p < n) (h1 : b[p - 1]? = (roundsL n)[p - 1]?) (h2 : b[p]? = (roundsL n)[p]?) :
    swapAt b p = (b.set (p - 1) (UInt8.ofNat (49 + p))).set p (UInt8.ofNat (48 + p)) := by
  unfold swapAt
  rw [roundsL_get (by omega)] at h1 h2
  rw [List.getD_eq_getElem?_getD, List.getD_eq_getElem?_getD, h1, h2]
  simp only [Option.getD_some]
  rw [show 49 + (p - 1) = 48 + p by omega]
end Go.Proofs.YtimeecimaokldaaGreatDoor
