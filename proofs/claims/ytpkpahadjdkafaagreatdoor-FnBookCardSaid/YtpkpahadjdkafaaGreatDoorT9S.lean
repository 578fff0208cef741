/- A row whose contract is handed the world's shape beside the laid tables; the library's bound for short texts. -/
import Derived.Test.YtpkpahadjdkafaaGreatDoorY4
import Derived.Handed
import Derived.HandedShaped
import Derived.Shelf.Vars
namespace Go.Proofs.YtpkpahadjdkafaaGreatDoor
open Go Go.RowKit
set_option linter.unusedVariables false
set_option maxRecDepth 100000

theorem maxOk_of {w : World} (h : ∃ m, w.cell? ⟨0, 0, none⟩ = some (.int .i64 m)) : MaxOk w := by
  intro w' hb
  obtain ⟨m, hm⟩ := h
  have hlt : 0 < w.heap.size := by
    rcases Nat.eq_zero_or_pos w.heap.size with h0 | h0
    · unfold World.cell? at hm
      rw [Array.getElem?_eq_none (by show w.heap.size ≤ 0; omega)] at hm
      cases hm
    · exact h0
  exact ⟨m, (hb.cell (p := ⟨0, 0, none⟩) hlt).trans hm⟩
theorem maxOk_shaped {w : World} (h : w.ShapedOpen Tryz.prog) : MaxOk w := by
  have e : (0 : Nat) = 0 := rfl
  exact maxOk_of (cell_of_shapedOpen_int (g := 0) (t := 3) (zero := #[.int .i64 0]) h (of_decide_eq_true (by kernel_rfl)) (by kernel_rfl) rfl (by kernel_rfl) (by kernel_rfl) Tryz.underlying3)
theorem handed_shaped {H : Type} {enc : TypeId × Value → H} {C : Checked} {os : Os} {f : FuncId} {fn : Func} {s : ChangeSpec} {X : World → Array Value → Prop} {D : List PathCond} {b1 b2 b3 b4 : Bool}
    (hX : ∀ (u v : World) (l : Array Value), u.heap = v.heap → X u l → X v l) (h1 : ownKnob C.prog.godebug = none) (h2 : os.Started) (h3 : C.prog.inits.idxOf? f = none) (h4 : C.prog.funcs[f]? = some fn)
    (h5 : ∃ (w : World) (tape : Tape) (i : Input), w.os = os ∧ (w.forCall tape i).Shaped C.prog ∧ i.vars = [] ∧ Input.okWide C.prog (w.forCall tape i) .any w.heap.size f i ∧
      ((s.pre enc C.prog fn D b1 (w.forCall tape i).memory i.args ∧ X (w.forCall tape i).memory i.args) ∧ sizedMet enc C.prog fn (OpenSpec.ofChange s) b1 (w.forCall tape i).memory i.args) ∧ Assume.holds {} C.prog (lone (Frame.enter C.prog f i.args .normal) [] (w.forCall tape i)))
    (h6 : ∀ (W : World) (n : Nat) (l : Array Value) (ds gs : List (DataW H)) (ps : List MemPlace), W.ShapedOpen C.prog → X W l →
      (∀ (j : Nat) t v, fn.params[j]? = some t → l[j]? = some v → Value.okWide C.prog W .any n t v) → DataW.Whole enc C.prog fn.params.toList s.vars b1 W l.toList ds gs ps →
      Calls C.prog f l W fun e W' => ∃ v, e = .returned v ∧ s.post enc C.prog fn b1 b2 b3 b4 W l v W') :
    ReturnsInHanded {} C os f .any (fun w l => (s.pre enc C.prog fn D b1 w l ∧ X w l) ∧ sizedMet enc C.prog fn (OpenSpec.ofChange s) b1 w l) (s.post enc C.prog fn b1 b2 b3 b4) := by
  refine returnsInHanded_of_calls h1 h2 h3 h5 ?_
  intro w tape i _ hsh _ hok hpre _
  obtain ⟨_, _, _, fn', hfn', _, _, _, _, hval⟩ := hok
  have e : fn' = fn := Option.some.inj (hfn'.symm.trans h4)
  subst e
  obtain ⟨⟨⟨ds, gs, ps, hw, _⟩, hx⟩, _⟩ := hpre
  have hw' := DataW.Whole.of_heap (w' := w.forCall tape i) (by rfl) hw
  refine (h6 (w.forCall tape i) w.heap.size i.args ds gs ps hsh (hX _ _ _ (by rfl) hx) hval hw').mono fun e W' ⟨v, he, hp⟩ => ?_
  subst he
  exact ChangeSpec.post_blind hp
end Go.Proofs.YtpkpahadjdkafaaGreatDoor
