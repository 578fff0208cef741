/- Contracts: slices of methods (size, copy, sameness). -/
import Derived.Test.YtimeecimaokldaaGreatDoorPk4
import Derived.Test.YtimeecimaokldaaGreatDoorPk2
import Derived.Deep.Slices
import Derived.Deep.Fields
import Derived.Lib.SmallJoins
namespace Go.Proofs.YtimeecimaokldaaGreatDoor
open Go Go.RowKit
set_option linter.unusedVariables false
set_option linter.unusedSimpArgs false

def AllSmall (ms : List Mt) : Prop := ms.length ≤ 1048576 ∧ ∀ m ∈ ms, MtSmall m
theorem take_allM {p : Mt → Prop} {ss : List Mt} {k : Nat} (hk : k < ss.length) (h : ∀ s ∈ ss.take k, p s) (h1 : p ss[k]) : ∀ s ∈ ss.take (k + 1), p s := by
  intro s hs
  rw [List.take_succ_eq_append_getElem hk] at hs
  rcases List.mem_append.1 hs with hs | hs
  · exact h s hs
  · rw [List.mem_singleton.1 hs]; exact h1
theorem frozen_of_heap {w w' : World} {g : Nat} {cs : Array Value} {t : TypeId} (h : w.heap[g]? = some (.cells cs t (0, 0))) (j : Nat) (hb : Below w.heap.size w w') : w'.frozen? ⟨g, j, none⟩ = false := by
  have hg : g < w.heap.size := by
    rcases Nat.lt_or_ge g w.heap.size with hlt | hge
    · exact hlt
    · rw [Array.getElem?_eq_none hge] at h; cases h
  rw [hb.frozen (p := ⟨g, j, none⟩) hg]
  simp [World.frozen?, h]
/-- A write below a row's base leaves the row. -/
theorem own_past {w : World} {base g : Nat} {e : TypeId} {size n : Nat} {v : Value} {xs : List Value} (h : w.ownsRow base e size v n xs) (hg : g < base) (j : Nat) (u : Value) : (w.setCell ⟨g, j, none⟩ u).ownsRow base e size v n xs :=
  h.kept (row := some g) (gr_set (gr_refl w (some g)) u) (by
    cases hv : v.ownBlock with
    | none => exact .inl rfl
    | some k => exact .inr (fun e => by cases e; have := (h.lt g hv).1; omega))
theorem box3s {C : World → Prop} {w : World} {o1 o2 o3 : Obj} (h : ∀ wb, Below w.heap.size w wb → wb.heap.size = w.heap.size + 3 → wb.heap[w.heap.size]? = some o1 → wb.heap[w.heap.size + 1]? = some o2 → wb.heap[w.heap.size + 2]? = some o3 → Below wb.heap.size wb wb → C wb) : C (((w.alloc o1).alloc o2).alloc o3) :=
  box3 (C := fun W => W.heap.size = w.heap.size + 3 → C W) (fun wb a b c d e f => h wb a f b c d e) (by simp)
set_option maxHeartbeats 1000000 in
theorem toMethod_any (m : Mt) (v : Value) (w : World) (h : MethAt w m v) (hbig : MtSmall m) : Calls Tryz.prog 10 #[m.v v] w fun e w' =>
    ∃ r : Value, e = .returned (m.v r) ∧ w'.ownsRow w.heap.size 9 1 r m.l.length (m.l.map Value.string) ∧ Below w.heap.size w w' := by
  unfold Mt.v
  have hr := h.1
  clear h
  go_enter Tryz.func10, Tryz.ntmps10
  go_wp2_with fail
  refine box3s (C := fun W => Calls _ _ _ W _) ?_
  intro wb hw hwsz k1 k2 k3 hB0
  refine (toStringS_any _ _ _ (hr.to hw) hbig.2.1).mono ?_; rintro e w1 ⟨r, rfl, hown, hb1⟩
  have R2 := boxRule k2
  have R3 := boxRule k3
  have F2 := fun j => frozen_of_heap k2 j hb1
  have F3 := fun j => frozen_of_heap k3 j hb1
  have Hwsz := Lib.hid hwsz
  clear k1 k2 k3 hwsz
  obtain ⟨A, c, hrs⟩ : ∃ A c, r = .slice A m.l.length c := let ⟨A, c, e, _⟩ := sl_of_own hown; ⟨A, c, e⟩
  subst hrs
  go_wp2_with fail
  have hsz : wb.heap.size = w.heap.size + 3 := Hwsz.out
  refine bodyPost_ret (v := .agg #[.string m.name, .int .i64 m.stage, .slice A m.l.length c]) ?hr rfl ⟨_, rfl, ?ho, ?hb⟩
  case ho =>
    refine own_base (own_past (g := w.heap.size + 1) (own_past (g := w.heap.size + 1) (own_past (g := w.heap.size + 1) (own_past (g := w.heap.size + 1 + 1) hown ?_ _ _) ?_ _ _) ?_ _ _) ?_ _ _) hw.size <;> omega
  case hb =>
    exact grow_set (grow_set (grow_set (grow_set (bw_to hw hb1) (by omega) _) (by omega) _) (by omega) _) (by omega) _
  case hr =>
    have r0 := R2 w1 0 hb1
    have r1 := R2 w1 1 hb1
    have r2 := R2 w1 2 hb1
    simp [results, go_sem, r0, r1, r2]
theorem own3 {w : World} {base : Nat} {e : TypeId} {n g cap k : Nat} {xs : List Value} (h : w.ownsRow base e 3 (.slice (some ⟨g, 0, none⟩) n cap) n xs) (hk : k < n) :
    (∃ y0 y1 y2, w.cell? ⟨g, k * 3, none⟩ = some y0 ∧ w.cell? ⟨g, k * 3 + 1, none⟩ = some y1 ∧ w.cell? ⟨g, k * 3 + 2, none⟩ = some y2) ∧
    (w.frozen? ⟨g, k * 3, none⟩ = false ∧ w.frozen? ⟨g, k * 3 + 1, none⟩ = false ∧ w.frozen? ⟨g, k * 3 + 2, none⟩ = false) := by
  obtain ⟨y0, e0⟩ := own_some h (j := k * 3) (by omega)
  obtain ⟨y1, e1⟩ := own_some h (j := k * 3 + 1) (by omega)
  obtain ⟨y2, e2⟩ := own_some h (j := k * 3 + 2) (by omega)
  exact ⟨⟨y0, y1, y2, e0, e1, e2⟩, h.frozenAt _, h.frozenAt _, h.frozenAt _⟩
theorem take_set3 {cs ds : List Value} {k n : Nat} {v0 v1 v2 : Value} (hl : cs.length = n * 3) (hk : k < n) (h : cs.take (k * 3) = ds) :
    (((cs.set (k * 3) v0).set (k * 3 + 1) v1).set (k * 3 + 2) v2).take ((k + 1) * 3) = ds ++ [v0, v1, v2] := by
  rw [show (k + 1) * 3 = k * 3 + 2 + 1 from by omega, take_set_last (by simp; omega), take_set_last (by simp; omega), take_set_last (by omega), h]
  simp
theorem zip_snoc {ms : List Mt} {vs : List Value} {k : Nat} (hk : k < ms.length) (hv : vs.length = k) (v : Value) : (ms.take (k + 1)).zip (vs ++ [v]) = (ms.take k).zip vs ++ [(ms[k], v)] := by
  rw [List.take_succ_eq_append_getElem hk, List.zip_append (by simp; omega)]
  rfl
/-- A row of methods of the call's own, each with a slice of its own. -/
def OwnMeths (w : World) (base : Nat) (v : Value) (ms : List Mt) : Prop := ∃ vs : List Value, vs.length = ms.length ∧ w.ownsRow base 29 3 v ms.length ((ms.zip vs).flatMap mcells) ∧ ∀ p ∈ ms.zip vs, w.ownsRow base 9 1 p.2 p.1.l.length (p.1.l.map Value.string)
theorem OwnMeths.meths {w : World} {base : Nat} {v : Value} {ms : List Mt} (h : OwnMeths w base v ms) (hs : AllSmall ms) : Meths w v ms := by
  obtain ⟨vs, h1, h2, h3⟩ := h
  refine ⟨vs, h1, sl_of_own h2, fun p hp => ⟨strs_of_own (h3 p hp), ?_, ?_⟩⟩
  · exact Nat.le_trans (hs.2 p.1 (List.of_mem_zip hp).1).1 (by unfold maxLen; omega)
  · exact (hs.2 p.1 (List.of_mem_zip hp).1).2.fits
theorem OwnMeths.to {w w' : World} {base : Nat} {v : Value} {ms : List Mt} (h : OwnMeths w base v ms) (hb : Below w.heap.size w w') : OwnMeths w' base v ms :=
  let ⟨vs, h1, h2, h3⟩ := h; ⟨vs, h1, own_to h2 hb, fun p hp => own_to (h3 p hp) hb⟩
theorem info_meth : (Tryz.prog.info? 29).map (fun i => (i.zero, i.size, i.bytes)) = some (some (.agg #[.string ⟨#[]⟩, .int .i64 0, .slice none 0 0]), 3, 48) := by kernel_rfl
set_option maxHeartbeats 1000000 in
theorem eqMethod_same (m : Mt) (v v' : Value) (w : World) (h : Strs w v m.l) (h' : Strs w v' m.l) : Calls Tryz.prog 14 #[m.v v, m.v v'] w fun e w' => e = .returned (.bool true) ∧ Below w.heap.size w w' := by
  unfold Mt.v
  go_enter Tryz.func14, Tryz.ntmps14
  go_wp2_with fail
  refine box2 (C := fun W => Calls _ _ _ W _) ?_
  intro wb hw k1 k2 hB0
  refine (eqStringS_same _ _ _ _ (h.to hw) (h'.to hw)).mono ?_; rintro e w1 ⟨rfl, hb1⟩
  go_wp2_with fail
  go_ret
  exact ⟨rfl, bw_to hw hb1⟩
end Go.Proofs.YtimeecimaokldaaGreatDoor

/- A law's arguments opened: what they read as, in this proof's own words. -/
namespace Go.Proofs.YtimeecimaokldaaGreatDoor
open Go Go.RowKit Go.WideShapes Go.ChangeShapes Go.ChangeAt Go.Joins Go.Deep
set_option linter.unusedVariables false
set_option linter.unusedSimpArgs false
set_option maxRecDepth 100000

section
variable {H : Type} {enc : TypeId × Value → H} {w : World} {base : Nat} {spare : Nat → Bool} {held : Bool}


theorem cells_Method : Tryz.prog.cellsOf 24 = 3 := by kernel_rfl
theorem rd_Method {fuel : Nat} {cs : List Value} {y : DataW H × List MemPlace} (h : DataW.trod enc Tryz.prog w base spare held fuel 24 cs = some y) : ∃ x : Mt × Value, cs = mcells x ∧ MethAt w x.1 x.2 := by
  obtain ⟨hl, m, hf⟩ := rd_struct Tryz.underlying24 h
  rw [cells_Method] at hl
  match cs, hl with
  | [c0, c1, c2], _ =>
    obtain ⟨y0, h0⟩ : ∃ y', DataW.trod enc Tryz.prog w base spare held m 9 [c0] = some y' := by simpa [cells_string] using hf 0 _ rfl
    obtain ⟨y1, h1⟩ : ∃ y', DataW.trod enc Tryz.prog w base spare held m 3 [c1] = some y' := by simpa [cells_int] using hf 1 _ rfl
    obtain ⟨y2, h2⟩ : ∃ y', DataW.trod enc Tryz.prog w base spare held m 22 [c2] = some y' := by simpa [cells_Strs] using hf 2 _ rfl
    obtain ⟨s, e0, _, hs⟩ := DataW.trod_string Tryz.underlying9 h0
    obtain ⟨b, e1, _, _⟩ := DataW.trod_int Tryz.underlying3 h1
    obtain ⟨v, e2, ss, hss, hfit⟩ := rd_Strs h2
    simp only [List.cons.injEq, and_true] at e0 e1 e2
    subst e0 e1 e2
    exact ⟨(⟨s, b, ss⟩, _), rfl, hss, hs, hfit⟩
theorem op_Method {b0 : Nat} {r : Reach} {v : Value} {d : DataW H} {p : List MemPlace} (hv : Value.okWide Tryz.prog w r b0 24 v) (h : DataW.Trod enc Tryz.prog w base spare held 24 v d p) :
    ∃ (m : Mt) (u : Value), v = m.v u ∧ MethAt w m u := by
  obtain ⟨cs, n, rfl, hn⟩ := agg_of Tryz.underlying24 hv h
  obtain ⟨x, e, hx⟩ := rd_Method hn
  exact ⟨x.1, x.2, agg_eq e, hx⟩
end
end Go.Proofs.YtimeecimaokldaaGreatDoor
