/- A region that draws its order, walked once in the order of the text, its calls leaving all that lay below a base world as it was. -/
import Derived.Test.YtimeecimaokldaaM1
namespace Go.Proofs.Ytimeecimaokldaa
open Go Go.RowKit
set_option linter.unusedVariables false
set_option linter.unusedSimpArgs false

/-- A world in which all that lay in wb's heap is as it was. -/
structure Aft (wb : World) where
  w : World
  h : Below wb.heap.size wb w
instance (wb : World) : Nonempty (Aft wb) := ⟨⟨wb, Below.refl _ _⟩⟩
theorem wp_region_aft {P : Program} {wb : World} {id : Nat} {Q : Exit → Act → World → Prop} {a : Act} {w : World} {l : List Oper} (hm : P.follows .mixedOrders = true) (hB : Region.lexB .any l.toArray = true) (hw : Below wb.heap.size wb w)
    (h : wpQuiet P l.toArray (fun w' => ∃ x : Aft wb, w' = x.w) (fun a' => ∀ w', (∃ x : Aft wb, w' = x.w) → Q .normal a' w') l a) : (Code.region id l.toArray true).wp P Q a w :=
  wp_region_quiet (C := fun w' => ∃ x : Aft wb, w' = x.w) hm hB ⟨⟨_, hw.drew⟩, rfl⟩ (by simpa using h)
theorem calls_aft {P : Program} {f : FuncId} {args : Array Value} {wb : World} {x : Aft wb} {v : Value} (h : ∀ w, Below wb.heap.size wb w → Calls P f args w fun e w' => e = .returned v ∧ Below w.heap.size w w') :
    Calls P f args x.w fun e w'' => e = .returned v ∧ ∃ y : Aft wb, w'' = y.w :=
  (h x.w x.h).mono fun e w' ⟨he, hb⟩ => ⟨he, ⟨w', bw_to x.h hb⟩, rfl⟩
theorem calls_aft_same {P : Program} {f : FuncId} {args : Array Value} {wb : World} {x : Aft wb} {v : Value} (h : ∀ w, Below wb.heap.size wb w → Calls P f args w fun e w' => e = .returned v ∧ w = w') :
    Calls P f args x.w fun e w'' => e = .returned v ∧ ∃ y : Aft wb, w'' = y.w :=
  (h x.w x.h).mono fun e w' ⟨he, hb⟩ => ⟨he, x, hb.symm⟩
theorem one_mem {u : Value} (h : u.oneCell' = true) : ∀ x ∈ [u], x.oneCell' = true := by
  intro x hx; rw [List.mem_singleton] at hx; subst hx; exact h
theorem own_base {w : World} {base base' : Nat} {e : TypeId} {size : Nat} {v : Value} {n : Nat} {xs : List Value} (h : w.ownsRow base e size v n xs) (hb : base' ≤ base) : w.ownsRow base' e size v n xs := by
  obtain ⟨h1, h2⟩ := h
  refine ⟨h1, ?_⟩
  rcases h2 with h2 | ⟨g, cap, cur, hv, hg, r⟩
  · exact .inl h2
  · exact .inr ⟨g, cap, cur, hv, Nat.le_trans hb hg, r⟩
theorem own_of_heap {w : World} {base g n : Nat} {e : TypeId} {size : Nat} {cs : Array Value} (h : w.heap[g]? = some (.cells cs e (0, 0))) (hb : base ≤ g) (hm : n ≤ maxLen) (hs : cs.size = n * size) :
    w.ownsRow base e size (.slice (some ⟨g, 0, none⟩) n n) n cs.toList :=
  ⟨by simpa using hs, .inr ⟨g, n, cs, rfl, hb, h, Nat.le_refl _, hm, hs, List.take_of_length_le (by rw [Array.length_toList, hs]; exact Nat.le_refl _)⟩⟩
/-- A block that was laid just ahead of an append into another row is still there behind it. -/
theorem grown_new {w w2 : World} {o : Obj} {base : Nat} {e : TypeId} {size : Nat} {v : Value} {n : Nat} {xs : List Value} (hown : w.ownsRow base e size v n xs) (hg : (w.alloc o).grownBy w2 v.ownBlock) : w2.heap[w.heap.size]? = some o :=
  (hg.block w.heap.size (by simp) (fun h => by have := (hown.lt _ h.symm).2; omega)).trans (heap_new w o)
theorem heap_cell {w : World} {g : Nat} {cs : Array Value} {t : TypeId} (h : w.heap[g]? = some (.cells cs t (0, 0))) (i : Nat) : w.cell? ⟨g, i, none⟩ = cs[i]? := cell_of_row w g i cs t (0, 0) h
/-- wpList_app, the element's block by its number. -/
theorem wpList_app_at {P : Program} (w : World) {ops : Array Oper} {rest : List Oper} {o : Oper} {a : Act} {Q : Exit → Act → World → Prop} (hgd : o.guard = none) (s x : Operand) (t : TypeId)
    (ho : o.op = .call { callee := .builtin .append, args := #[s, x], argTypes := #[t, t] })
    (base : Nat) (e : TypeId) (z : Value) (size bytes : Nat) (ht : P.underlying t = some (.slice e)) (hinfo : (P.info? e).map (fun i => (i.zero, i.size, i.bytes)) = some (some z, size, bytes))
    (hzs : z.cells.size = size) (hsz : 0 < size) {v : Value} {n : Nat} {xs : List Value} (hown : w.ownsRow base e size v n xs) (news : List Value) (hl : news.length = size) (hs : a.eval s = v)
    {g : Nat} (hx : a.eval x = .slice (some ⟨g, 0, none⟩) 1 1) (hg : g = w.heap.size) (h1 : ∀ u ∈ news, u.oneCell' = true) (hby : bytes ≤ 1024) (hn : n ≤ 100000000) (hbase : base ≤ w.heap.size)
    (h : ∀ v' w', w'.ownsRow base e size v' (n + 1) (xs ++ news) → Below base w w' → w.grownBy w' v.ownBlock → (v'.ownBlock = v.ownBlock ∨ ∀ g, v'.ownBlock = some g → w.heap.size ≤ g) → wpList P ops Q rest (a.put o.dst v') w') :
    wpList P ops Q (o :: rest) a (w.alloc (.cells news.toArray e)) := by
  subst hg
  exact wpList_app w hgd s x t ho base e z size bytes ht hinfo hzs hsz hown news hl hs hx h1 hby hn hbase h
end Go.Proofs.Ytimeecimaokldaa
