/- A law's arguments opened, the general part: numbers, strings, slices of what can be read. -/
import Derived.Test.YtofpjbdelmmclaaGreatDoorPk0
import Derived.Deep.Slices
import Derived.Deep.Fields
import Derived.Lib.SmallJoins
namespace Go.Proofs.YtofpjbdelmmclaaGreatDoor
open Go Go.RowKit Go.WideShapes Go.ChangeShapes Go.ChangeAt Go.Joins Go.Deep
set_option linter.unusedVariables false
set_option linter.unusedSimpArgs false
set_option maxRecDepth 100000

theorem own : ownKnob Tryz.prog.godebug = none := by kernel_rfl
theorem laidOut : laidOutB Tryz.prog = true := by kernel_rfl
theorem cells_int : Tryz.prog.cellsOf 3 = 1 := by kernel_rfl
theorem cells_string : Tryz.prog.cellsOf 9 = 1 := by kernel_rfl

theorem i64_bd {n : Int} (h : (Lit.int .i64 n).wf = true) : -9223372036854775808 ≤ n ∧ n ≤ 9223372036854775807 := by
  simpa [Lit.wf, IntKind.min, IntKind.max, IntKind.signed, IntKind.bits] using h

section
variable {H : Type} {enc : TypeId × Value → H} {w : World} {base : Nat} {spare : Nat → Bool} {held : Bool}

theorem rd_struct {P : Program} {t : TypeId} {fs : Array Field} {fuel : Nat} {cs : List Value} {y : DataW H × List MemPlace} (ht : P.underlying t = some (.struct fs)) (h : DataW.trod enc P w base spare held fuel t cs = some y) :
    cs.length = P.cellsOf t ∧ ∃ m, ∀ (i : Nat) (f : Field), fs[i]? = some f → ∃ y', DataW.trod enc P w base spare held m f.type ((cs.drop f.offset).take (P.cellsOf f.type)) = some y' := by
  obtain ⟨xs, n, _, _, hl, hlen, hf⟩ := DataW.trod_struct ht h
  refine ⟨hl, n, fun i f hi => ?_⟩
  have hlt : i < fs.size := (Array.getElem?_eq_some_iff.1 hi).1
  rw [hf i f hi]
  exact ⟨_, List.getElem?_eq_getElem (by omega)⟩

/-- A slice that came in: its elements, each by its cells. -/
theorem rd_slice {P : Program} {α : Type} {sz : Nat} {C : α → List Value} {good : α → Prop} {t e : TypeId} {fuel : Nat} {cs : List Value} {y : DataW H × List MemPlace} (ht : P.underlying t = some (.slice e)) (hC : P.cellsOf e = sz) (hsz : 0 < sz)
    (hE : ∀ n cs y, DataW.trod enc P w base spare held n e cs = some y → ∃ x, cs = C x ∧ good x) (h : DataW.trod enc P w base spare held fuel t cs = some y) :
    ∃ v, cs = [v] ∧ ∃ xs : List α, Sl w sz v xs.length (xs.flatMap C) ∧ ∀ x ∈ xs, good x := by
  rcases open_slice ht h with ⟨rfl, _⟩ | ⟨a, len, cap, m, n, D, Pl, rfl, _, hl, hm, hmm, _, hi⟩
  · exact ⟨_, rfl, [], ⟨none, 0, rfl, Nat.le_refl _, by unfold maxLen; omega, Reads.none_⟩, fun x hx => by cases hx⟩
  refine ⟨_, rfl, ?_⟩
  have hlm : len ≤ m := by rw [hmm]; split <;> omega
  have hstep : ∀ i, i < len → ∃ x, good x ∧ (C x).length = sz ∧ ∀ j, j < sz → w.cell? (a.add (i * sz + j)) = (C x)[j]? := by
    intro i hil
    obtain ⟨cs', hc, ht'⟩ := hi i (by omega)
    rw [hC] at hc
    obtain ⟨_, hcl, hat⟩ := World.cells?_some hc
    obtain ⟨x, rfl, hg⟩ := hE _ _ _ ht'
    exact ⟨x, hg, hcl, fun j hj => by rw [← add_of_add]; exact hat j hj⟩
  have hall : ∀ k, k ≤ len → ∃ xs : List α, xs.length = k ∧ (∀ x ∈ xs, good x ∧ (C x).length = sz) ∧ ∀ i x, xs[i]? = some x → ∀ j, j < sz → w.cell? (a.add (i * sz + j)) = (C x)[j]? := by
    intro k
    induction k with
    | zero => exact fun _ => ⟨[], rfl, (fun x hx => by cases hx), fun i x hx => by simp at hx⟩
    | succ k ih =>
      intro hk
      obtain ⟨xs, hxl, hxg, hxc⟩ := ih (by omega)
      obtain ⟨x, hg, hcl, hc⟩ := hstep k (by omega)
      refine ⟨xs ++ [x], by simp [hxl], fun z hz => ?_, fun i z hz j hj => ?_⟩
      · rcases List.mem_append.1 hz with hz | hz
        · exact hxg z hz
        · simp at hz; subst hz; exact ⟨hg, hcl⟩
      · rcases Nat.lt_or_ge i k with hik | hik
        · rw [List.getElem?_append_left (by omega)] at hz
          exact hxc i z hz j hj
        · rw [List.getElem?_append_right (by omega), hxl] at hz
          have : i = k := by
            have := (List.getElem?_eq_some_iff.1 hz).1
            simp at this
            omega
          subst this
          simp at hz
          subst hz
          exact hc j hj
  obtain ⟨xs, hxl, hxg, hxc⟩ := hall len (Nat.le_refl _)
  have hlen : ∀ x ∈ xs, (C x).length = sz := fun x hx => (hxg x hx).2
  have hat : ∀ j u, (xs.flatMap C)[j]? = some u → w.cell? (a.add j) = some u := fun k u hu => by
    obtain ⟨i, j, x, rfl, hj, hx, hu⟩ := flat_at hlen hsz hu
    rw [hxc i x hx j hj]
    exact hu
  refine ⟨xs, ⟨some a, cap, by rw [hxl], by omega, hm, flat_length hlen, fun hn => ⟨a, rfl, ?_, hat⟩⟩, fun x hx => (hxg x hx).1⟩
  have h0 : 0 < (xs.flatMap C).length := by rw [flat_length hlen]; exact Nat.mul_pos hn hsz
  have := World.block_lt_of_cell? w _ (hat 0 _ (List.getElem?_eq_getElem h0))
  rwa [block_of_add] at this

theorem agg_of {P : Program} {r : Reach} {b0 : Nat} {t : TypeId} {fs : Array Field} {v : Value} {d : DataW H} {p : List MemPlace} (ht : P.underlying t = some (.struct fs)) (hv : Value.okWide P w r b0 t v) (h : DataW.Trod enc P w base spare held t v d p) :
    ∃ cs n, v = .agg cs ∧ DataW.trod enc P w base spare held n t cs.toList = some (d, p) := by
  obtain ⟨cs, rfl, _⟩ := okWide_struct ht hv
  obtain ⟨n, hn⟩ := h
  exact ⟨cs, n, rfl, hn⟩
theorem agg_eq {cs : Array Value} {l : List Value} (h : cs.toList = l) : Value.agg cs = .agg l.toArray := by subst h; rfl

theorem op_int {b0 : Nat} {r : Reach} {v : Value} {d : DataW H} {p : List MemPlace} (hv : Value.okWide Tryz.prog w r b0 3 v) (h : DataW.Trod enc Tryz.prog w base spare held 3 v d p) :
    ∃ n : Int, v = .int .i64 n ∧ (-9223372036854775808 ≤ n ∧ n ≤ 9223372036854775807) := by
  obtain ⟨n, rfl, _, _, wf⟩ := open_int Tryz.underlying3 hv h
  exact ⟨n, rfl, i64_bd wf⟩
theorem op_string {b0 : Nat} {r : Reach} {v : Value} {d : DataW H} {p : List MemPlace} (hv : Value.okWide Tryz.prog w r b0 9 v) (h : DataW.Trod enc Tryz.prog w base spare held 9 v d p) :
    ∃ s : ByteArray, v = .string s ∧ s.size ≤ maxLen := by
  obtain ⟨s, rfl, _, _, hs⟩ := Go.ChangeMaps.open_string Tryz.underlying9 hv h
  exact ⟨s, rfl, hs⟩
theorem op_Ints {b0 : Nat} {r : Reach} {v : Value} {d : DataW H} {p : List MemPlace} (hv : Value.okWide Tryz.prog w r b0 40 v) (h : DataW.Trod enc Tryz.prog w base spare held 40 v d p) :
    ∃ zs : List Int, Ints w v zs ∧ ∀ z ∈ zs, -9223372036854775808 ≤ z ∧ z ≤ 9223372036854775807 := by
  obtain ⟨a, l, c, rfl⟩ := okWide_slice Tryz.underlying40 hv
  obtain ⟨n, hn⟩ := h
  obtain ⟨v', e, xs, hsl, hg⟩ := rd_slice (C := fun z : Int => [Value.int .i64 z]) (good := fun z => -9223372036854775808 ≤ z ∧ z ≤ 9223372036854775807) Tryz.underlying40 cells_int (by omega)
    (fun n cs y hy => by obtain ⟨z, e, _, wf⟩ := DataW.trod_int Tryz.underlying3 hy; exact ⟨z, e, i64_bd wf⟩) hn
  simp only [Value.cells, List.cons.injEq, and_true] at e
  subst e
  exact ⟨xs, by unfold Ints; rw [← List.flatMap_singleton' (xs.map _), List.flatMap_map]; exact hsl, hg⟩
theorem rd_Strs {fuel : Nat} {cs : List Value} {y : DataW H × List MemPlace} (h : DataW.trod enc Tryz.prog w base spare held fuel 24 cs = some y) : ∃ v, cs = [v] ∧ ∃ ss : List ByteArray, Strs w v ss ∧ ∀ s ∈ ss, s.size ≤ maxLen := by
  obtain ⟨v, e, xs, hsl, hg⟩ := rd_slice (C := fun s : ByteArray => [Value.string s]) (good := fun s => s.size ≤ maxLen) Tryz.underlying24 cells_string (by omega)
    (fun n cs y hy => by obtain ⟨s, e, _, hs⟩ := DataW.trod_string Tryz.underlying9 hy; exact ⟨s, e, hs⟩) h
  exact ⟨v, e, xs, by unfold Strs; rw [← List.flatMap_singleton' (xs.map _), List.flatMap_map]; exact hsl, hg⟩
theorem op_Strs {b0 : Nat} {r : Reach} {v : Value} {d : DataW H} {p : List MemPlace} (hv : Value.okWide Tryz.prog w r b0 24 v) (h : DataW.Trod enc Tryz.prog w base spare held 24 v d p) :
    ∃ ss : List ByteArray, Strs w v ss ∧ ∀ s ∈ ss, s.size ≤ maxLen := by
  obtain ⟨a, l, c, rfl⟩ := okWide_slice Tryz.underlying24 hv
  obtain ⟨n, hn⟩ := h
  obtain ⟨v', e, xs, hsl, hg⟩ := rd_Strs hn
  simp only [Value.cells, List.cons.injEq, and_true] at e
  subst e
  exact ⟨xs, hsl, hg⟩
theorem cells_Strs : Tryz.prog.cellsOf 24 = 1 := by kernel_rfl
end
end Go.Proofs.YtofpjbdelmmclaaGreatDoor

/- A region that draws its order, walked once in the order of the text, its calls leaving all that lay below a base world as it was. -/
namespace Go.Proofs.YtofpjbdelmmclaaGreatDoor
open Go Go.RowKit
set_option linter.unusedVariables false
set_option linter.unusedSimpArgs false

/-- A world in which all that lay in wb's heap is as it was. -/
structure Aft (wb : World) where
  w : World
  h : Below wb.heap.size wb w
instance (wb : World) : Nonempty (Aft wb) := ⟨⟨wb, Below.refl _ _⟩⟩
theorem wp_region_aft {P : Program} {wb : World} {id : Nat} {Q : Exit → Act → World → Prop} {a : Act} {w : World} {l : List Oper} (hm : P.follows .mixedOrders = true) (hB : Region.lexB .any l.toArray = true) (hw : Below wb.heap.size wb w)
    (h : wpQuiet P l.toArray (fun w' => ∃ x : Aft wb, w' = x.w) (fun a' => ∀ w', (∃ x : Aft wb, w' = x.w) → Q .normal a' w') l a) : (Code.region id l.toArray true).wp P Q a w :=
  wp_region_quiet (C := fun w' => ∃ x : Aft wb, w' = x.w) hm hB ⟨⟨_, hw.drew⟩, rfl⟩ (by simpa using h)
theorem calls_aft {P : Program} {f : FuncId} {args : Array Value} {wb : World} {x : Aft wb} {v : Value} (h : ∀ w, Below wb.heap.size wb w → Calls P f args w fun e w' => e = .returned v ∧ Below w.heap.size w w') :
    Calls P f args x.w fun e w'' => e = .returned v ∧ ∃ y : Aft wb, w'' = y.w :=
  (h x.w x.h).mono fun e w' ⟨he, hb⟩ => ⟨he, ⟨w', bw_to x.h hb⟩, rfl⟩
theorem calls_aft_same {P : Program} {f : FuncId} {args : Array Value} {wb : World} {x : Aft wb} {v : Value} (h : ∀ w, Below wb.heap.size wb w → Calls P f args w fun e w' => e = .returned v ∧ w = w') :
    Calls P f args x.w fun e w'' => e = .returned v ∧ ∃ y : Aft wb, w'' = y.w :=
  (h x.w x.h).mono fun e w' ⟨he, hb⟩ => ⟨he, x, hb.symm⟩
theorem one_mem {u : Value} (h : u.oneCell' = true) : ∀ x ∈ [u], x.oneCell' = true := by
  intro x hx; rw [List.mem_singleton] at hx; subst hx; exact h
theorem own_base {w : World} {base base' : Nat} {e : TypeId} {size : Nat} {v : Value} {n : Nat} {xs : List Value} (h : w.ownsRow base e size v n xs) (hb : base' ≤ base) : w.ownsRow base' e size v n xs := by
  obtain ⟨h1, h2⟩ := h
  refine ⟨h1, ?_⟩
  rcases h2 with h2 | ⟨g, cap, cur, hv, hg, r⟩
  · exact .inl h2
  · exact .inr ⟨g, cap, cur, hv, Nat.le_trans hb hg, r⟩
theorem own_of_heap {w : World} {base g n : Nat} {e : TypeId} {size : Nat} {cs : Array Value} (h : w.heap[g]? = some (.cells cs e (0, 0))) (hb : base ≤ g) (hm : n ≤ maxLen) (hs : cs.size = n * size) :
    w.ownsRow base e size (.slice (some ⟨g, 0, none⟩) n n) n cs.toList :=
  ⟨by simpa using hs, .inr ⟨g, n, cs, rfl, hb, h, Nat.le_refl _, hm, hs, List.take_of_length_le (by rw [Array.length_toList, hs]; exact Nat.le_refl _)⟩⟩
/-- A block that was laid just ahead of an append into another row is still there behind it. -/
theorem grown_new {w w2 : World} {o : Obj} {base : Nat} {e : TypeId} {size : Nat} {v : Value} {n : Nat} {xs : List Value} (hown : w.ownsRow base e size v n xs) (hg : (w.alloc o).grownBy w2 v.ownBlock) : w2.heap[w.heap.size]? = some o :=
  (hg.block w.heap.size (by simp) (fun h => by have := (hown.lt _ h.symm).2; omega)).trans (heap_new w o)
theorem heap_cell {w : World} {g : Nat} {cs : Array Value} {t : TypeId} (h : w.heap[g]? = some (.cells cs t (0, 0))) (i : Nat) : w.cell? ⟨g, i, none⟩ = cs[i]? := cell_of_row w g i cs t (0, 0) h
/-- wpList_app, the element's block by its number. -/
theorem wpList_app_at {P : Program} (w : World) {ops : Array Oper} {rest : List Oper} {o : Oper} {a : Act} {Q : Exit → Act → World → Prop} (hgd : o.guard = none) (s x : Operand) (t : TypeId)
    (ho : o.op = .call { callee := .builtin .append, args := #[s, x], argTypes := #[t, t] })
    (base : Nat) (e : TypeId) (z : Value) (size bytes : Nat) (ht : P.underlying t = some (.slice e)) (hinfo : (P.info? e).map (fun i => (i.zero, i.size, i.bytes)) = some (some z, size, bytes))
    (hzs : z.cells.size = size) (hsz : 0 < size) {v : Value} {n : Nat} {xs : List Value} (hown : w.ownsRow base e size v n xs) (news : List Value) (hl : news.length = size) (hs : a.eval s = v)
    {g : Nat} (hx : a.eval x = .slice (some ⟨g, 0, none⟩) 1 1) (hg : g = w.heap.size) (h1 : ∀ u ∈ news, u.oneCell' = true) (hby : bytes ≤ 1024) (hn : n ≤ 100000000) (hbase : base ≤ w.heap.size)
    (h : ∀ v' w', w'.ownsRow base e size v' (n + 1) (xs ++ news) → Below base w w' → w.grownBy w' v.ownBlock → (v'.ownBlock = v.ownBlock ∨ ∀ g, v'.ownBlock = some g → w.heap.size ≤ g) → wpList P ops Q rest (a.put o.dst v') w') :
    wpList P ops Q (o :: rest) a (w.alloc (.cells news.toArray e)) := by
  subst hg
  exact wpList_app w hgd s x t ho base e z size bytes ht hinfo hzs hsz hown news hl hs hx h1 hby hn hbase h
end Go.Proofs.YtofpjbdelmmclaaGreatDoor

/- Contracts: the cursor over the drawn bytes: next, pick, one, among, of. Each turns the cursor's own block and makes memory; nothing else. -/
namespace Go.Proofs.YtofpjbdelmmclaaGreatDoor
open Go Go.RowKit
set_option linter.unusedVariables false
set_option linter.unusedSimpArgs false

/-- A slice of bytes that lies below block B. -/
def BytesAt (w : World) (B : Nat) (v : Value) : Prop := ∃ A n c, ∃ zs : List Int, v = .slice A n c ∧ zs.length = n ∧ n ≤ c ∧ c ≤ maxLen ∧ Reads w B 1 A n (zs.map (Value.int .u8)) ∧ ∀ z ∈ zs, 0 ≤ z ∧ z ≤ 255
theorem BytesAt.keep {w w' : World} {B : Nat} {v : Value} (h : BytesAt w B v) (hk : ∀ p : Addr, p.block < B → w'.cell? p = w.cell? p) : BytesAt w' B v :=
  let ⟨A, n, c, zs, h1, h2, h3, h4, h5, h6⟩ := h; ⟨A, n, c, zs, h1, h2, h3, h4, h5.keep hk, h6⟩
theorem BytesAt.more {w : World} {B B' : Nat} {v : Value} (h : BytesAt w B v) (hB : B ≤ B') : BytesAt w B' v :=
  let ⟨A, n, c, zs, h1, h2, h3, h4, h5, h6⟩ := h; ⟨A, n, c, zs, h1, h2, h3, h4, h5.more hB, h6⟩
theorem gb_cell {w w' : World} {g : Nat} (h : w.grownBy w' (some g)) {p : Addr} (hp : p.block < w.heap.size) (hn : p.block ≠ g) : w'.cell? p = w.cell? p := by
  have e := h.block p.block hp (fun x => hn (by injection x))
  unfold World.cell?
  rw [e]
theorem gb_refl (w : World) (g : Nat) : w.grownBy w (some g) := World.grownBy.refl w _
theorem gb_to {a w w' : World} {g : Nat} (h : a.grownBy w (some g)) (hb : Below w.heap.size w w') : a.grownBy w' (some g) :=
  ⟨hb.os.trans h.os, hb.tape.trans h.tape, hb.output.trans h.output, Nat.le_trans h.size hb.size, fun k hk hn => (hb.block k (Nat.lt_of_lt_of_le hk h.size)).trans (h.block k hk hn)⟩
theorem gb_tr {a w w' : World} {g : Nat} (h : a.grownBy w (some g)) (h' : w.grownBy w' (some g)) : a.grownBy w' (some g) :=
  ⟨h'.os.trans h.os, h'.tape.trans h.tape, h'.output.trans h.output, Nat.le_trans h.size h'.size, fun k hk hn => (h'.block k (Nat.lt_of_lt_of_le hk h.size) hn).trans (h.block k hk hn)⟩
theorem gb_set {a w : World} {g : Nat} (h : a.grownBy w (some g)) (j : Nat) (u : Value) : a.grownBy (w.setCell ⟨g, j, none⟩ u) (some g) :=
  ⟨h.os, h.tape, h.output, by simpa [World.setCell] using h.size, fun i hi hne => (Below.heap_setCell w ⟨g, j, none⟩ u i (by rintro rfl; exact hne rfl)).trans (h.block i hi hne)⟩
theorem gb_dr {a w : World} {g : Nat} (h : a.grownBy w (some g)) (n : Nat) : a.grownBy (w.drewN n) (some g) := ⟨h.os, h.tape, h.output, h.size, h.block⟩
theorem gb_al {a w : World} {g : Nat} (h : a.grownBy w (some g)) (o : Obj) : a.grownBy (w.alloc o) (some g) := gb_to h ((Below.refl _ _).alloc (Nat.le_refl _) o)
/-- From a world in which block g is new. -/
theorem gb_below {a w w' : World} {g : Nat} (hb : Below a.heap.size a w) (h : w.grownBy w' (some g)) (hg : a.heap.size ≤ g) : Below a.heap.size a w' :=
  ⟨h.os.trans hb.os, h.tape.trans hb.tape, h.output.trans hb.output, Nat.le_trans hb.size h.size, fun k hk => (h.block k (Nat.lt_of_lt_of_le hk hb.size) (fun x => by injection x with x; omega)).trans (hb.block k hk)⟩
/-- The cursor in block C: at most 'lim' bytes read. -/
def Cur (w : World) (C lim : Nat) : Prop := ∃ v, ∃ at_ seed : Int, BytesAt w C v ∧ 0 ≤ at_ ∧ at_ ≤ lim ∧ 0 ≤ seed ∧ seed < 18446744073709551616 ∧
  w.ownsRow C 70 3 (.slice (some ⟨C, 0, none⟩) 1 1) 1 [v, .int .i64 at_, .int .u64 seed]
theorem Cur.lt {w : World} {C lim : Nat} (h : Cur w C lim) : C < w.heap.size := let ⟨_, _, _, _, _, _, _, _, ho⟩ := h; (ho.lt C rfl).2
theorem Cur.to {w w' : World} {C lim : Nat} (h : Cur w C lim) (hb : Below w.heap.size w w') : Cur w' C lim := by
  have hC := h.lt
  obtain ⟨v, a, s, h1, h2, h3, h4, h5, ho⟩ := h
  exact ⟨v, a, s, h1.keep (fun p hp => hb.cell (by omega)), h2, h3, h4, h5, own_to ho hb⟩
theorem Cur.more {w : World} {C lim lim' : Nat} (h : Cur w C lim) (hl : lim ≤ lim') : Cur w C lim' := by
  obtain ⟨v, a, s, h1, h2, h3, h4, h5, ho⟩ := h
  exact ⟨v, a, s, h1, h2, by omega, h4, h5, ho⟩
theorem Cur.al {w : World} {C lim : Nat} (h : Cur w C lim) (o : Obj) : Cur (w.alloc o) C lim := h.to ((Below.refl _ _).alloc (Nat.le_refl _) o)
theorem own1 {w : World} {base : Nat} {e : TypeId} {g cap : Nat} {a b c : Value} (h : w.ownsRow base e 3 (.slice (some ⟨g, 0, none⟩) 1 cap) 1 [a, b, c]) :
    (w.cell? ⟨g, 0, none⟩ = some a ∧ w.cell? ⟨g, 1, none⟩ = some b ∧ w.cell? ⟨g, 2, none⟩ = some c) ∧ (w.frozen? ⟨g, 0, none⟩ = false ∧ w.frozen? ⟨g, 1, none⟩ = false ∧ w.frozen? ⟨g, 2, none⟩ = false) :=
  ⟨⟨(h.cellAt 0 (by omega)).trans rfl, (h.cellAt 1 (by omega)).trans rfl, (h.cellAt 2 (by omega)).trans rfl⟩, h.frozenAt _, h.frozenAt _, h.frozenAt _⟩
/-- What a draw of a number leaves. -/
def DrewInt (w : World) (C lim : Nat) (P : Int → Prop) (e : Ending) (w' : World) : Prop := ∃ b : Int, e = .returned (.int .i64 b) ∧ P b ∧ Cur w' C lim ∧ w.grownBy w' (some C)
theorem and_255 (s : Int) (h0 : 0 ≤ s) (h1 : s < 18446744073709551616) : 0 ≤ bits .and .u64 s 255 ∧ bits .and .u64 s 255 ≤ 255 := by
  obtain ⟨n, rfl⟩ : ∃ n : Nat, s = n := ⟨s.toNat, by omega⟩
  have e : bits .and .u64 (n : Int) 255 = ((n &&& 255 : Nat) : Int) := by
    show IntKind.u64.wrap ((BitVec.ofInt 64 (n : Int) &&& BitVec.ofInt 64 (255 : Int)).toNat : Int) = _
    rw [BitVec.toNat_and]
    have a : (BitVec.ofInt 64 (n : Int)).toNat = n := by rw [BitVec.ofInt_natCast, BitVec.toNat_ofNat]; exact Nat.mod_eq_of_lt (by omega)
    have b : (BitVec.ofInt 64 (255 : Int)).toNat = 255 := by decide
    rw [a, b]
    have hx : n &&& 255 ≤ 255 := Nat.and_le_right
    unfold IntKind.wrap
    simp [IntKind.signed, IntKind.bits]
    omega
  rw [e]
  have hx : n &&& 255 ≤ 255 := Nat.and_le_right
  omega
theorem u64_bd (x : Int) : 0 ≤ IntKind.u64.wrap x ∧ IntKind.u64.wrap x < 18446744073709551616 := by
  unfold IntKind.wrap; simp [IntKind.signed, IntKind.bits]; omega
theorem own_dr {w : World} {base : Nat} {e : TypeId} {size n : Nat} {v : Value} {xs : List Value} (h : w.ownsRow base e size v n xs) (m : Nat) : (w.drewN m).ownsRow base e size v n xs := own_to h (bw_dr (Below.refl _ _) m)
/-- The end of 'next': the cursor's two numbers written. -/
theorem cur_fin (w : World) (C lim : Nat) {v : Value} (at_ : Int) {s : Int} (ho : w.ownsRow C 70 3 (.slice (some ⟨C, 0, none⟩) 1 1) 1 [v, .int .i64 at_, .int .u64 s]) (h2 : 0 ≤ at_) (h3 : at_ ≤ lim) (hv : BytesAt w C v) (b : Int) (hb0 : 0 ≤ b) (hb1 : b ≤ 255) (s' : Int)
    (hs : 0 ≤ s' ∧ s' < 18446744073709551616) (n m : Nat) {e : Ending} (he : e = .returned (.int .i64 b)) {W : World} (hW : W = (((w.drewN n).setCell ⟨C, 1, none⟩ (.int .i64 (at_ + 1))).setCell ⟨C, 2, none⟩ (.int .u64 s')).drewN m) : DrewInt w C (lim + 1) (fun b => 0 ≤ b ∧ b ≤ 255) e W := by
  subst hW
  have hCl := (ho.lt C rfl).2
  have hgb : w.grownBy ((((w.drewN n).setCell ⟨C, 1, none⟩ (.int .i64 (at_ + 1))).setCell ⟨C, 2, none⟩ (.int .u64 s')).drewN m) (some C) := gb_dr (gb_set (gb_set (gb_dr (gb_refl w C) n) 1 _) 2 _) m
  exact ⟨b, he, ⟨hb0, hb1⟩, ⟨v, at_ + 1, s', hv.keep (fun p hp => gb_cell hgb (by omega) (by omega)), by omega, by omega, hs.1, hs.2, own_dr (own_set (own_set (own_dr ho n) 1 _) 2 _) m⟩, hgb⟩
theorem w255 (x : Int) (k : Nat) : 0 ≤ wrap64 (bits .and .u64 (IntKind.u64.wrap x / (k + 1 : Nat)) 255) ∧ wrap64 (bits .and .u64 (IntKind.u64.wrap x / (k + 1 : Nat)) 255) ≤ 255 := by
  have h := u64_bd x
  have h0 : 0 ≤ IntKind.u64.wrap x / ((k + 1 : Nat) : Int) := Int.ediv_nonneg h.1 (by omega)
  have h1 : IntKind.u64.wrap x / ((k + 1 : Nat) : Int) ≤ IntKind.u64.wrap x := Int.ediv_le_self _ h.1
  have hb := and_255 (IntKind.u64.wrap x / ((k + 1 : Nat) : Int)) h0 (by omega)
  have e : wrap64 (bits .and .u64 (IntKind.u64.wrap x / ((k + 1 : Nat) : Int)) 255) = bits .and .u64 (IntKind.u64.wrap x / ((k + 1 : Nat) : Int)) 255 := by
    unfold wrap64
    omega
  rw [e]
  exact hb
set_option maxRecDepth 10000 in
set_option maxHeartbeats 2000000 in
theorem next_any (w : World) (C lim : Nat) (h : Cur w C lim) (hl : lim ≤ 2000000000000) : Calls Tryz.prog 88 #[.pointer (some ⟨C, 0, none⟩)] w (DrewInt w C (lim + 1) fun b => 0 ≤ b ∧ b ≤ 255) := by
  have hCl := h.lt
  obtain ⟨v, a, s, ⟨A, n, c, zs, rfl, rfl, hnc, hc, hr, hz⟩, h2, h3, h4, h5, ho⟩ := h
  unfold maxLen at hc
  have hz' := Lib.hid hz
  clear hz
  have hg := gb_refl w C
  have hne : ∀ ad : Addr, ad.block < C → ad.block ≠ C := fun ad h => by omega
  by_cases hlt : a < (zs.length : Int)
  · obtain ⟨k, rfl⟩ : ∃ k : Nat, a = k := ⟨a.toNat, by omega⟩
    obtain ⟨ad, u, rfl, hb, hu, hcell⟩ := hr.at_ (k := k) (by omega)
    have hkl : k < zs.length := by omega
    have hu' : u = .int .u8 zs[k] := by simpa [hkl] using hu.symm
    subst hu'
    have hzk := hz'.out _ (List.getElem_mem hkl)
    obtain ⟨z, ez⟩ : ∃ z, z = zs[k] := ⟨_, rfl⟩
    rw [← ez] at hcell hzk
    obtain ⟨hz0, hz1⟩ := hzk
    obtain ⟨⟨c0, c1, c2⟩, f0, f1, f2⟩ := own1 ho
    have Ho := Lib.hid ho
    have Hr := Lib.hid hr
    clear hu ez ho hr hne hg
    go_enter Tryz.func88, Tryz.ntmps88
    go_wp2_with fail
    go_big_quiet (fail)
    go_wp2_with fail
    go_big_quiet (fail)
    go_wp2_with fail
    go_big_quiet (fail)
    go_wp2_with fail
    go_ret
    exact cur_fin w C lim _ Ho.out (by omega) (by omega) ⟨_, _, _, zs, rfl, rfl, hnc, by unfold maxLen; omega, Hr.out, hz'.out⟩ z (by omega) (by omega) _ (u64_bd _) _ _ rfl rfl
  · have ha : (zs.length : Int) ≤ a := by omega
    have hu3 : ∀ x : Int, 0 ≤ IntKind.u64.wrap x := fun x => (u64_bd x).1
    have hu4 : ∀ x : Int, IntKind.u64.wrap x ≤ 18446744073709551615 := fun x => by have := (u64_bd x).2; omega
    obtain ⟨⟨c0, c1, c2⟩, f0, f1, f2⟩ := own1 ho
    have Ho := Lib.hid ho
    have Hr := Lib.hid hr
    clear ho hr hne hg
    go_enter Tryz.func88, Tryz.ntmps88
    go_wp2_with fail
    go_big_quiet (fail)
    go_wp2_with fail
    go_big_quiet (fail)
    go_wp2_with fail
    go_ret
    exact cur_fin w C lim a Ho.out (by omega) (by omega) ⟨_, _, _, zs, rfl, rfl, hnc, by unfold maxLen; omega, Hr.out, hz'.out⟩ _ (w255 _ 1099511627775).1 (w255 _ 1099511627775).2 _ (u64_bd _) _ _ rfl rfl
def DrewBool (w : World) (C lim : Nat) (e : Ending) (w' : World) : Prop := ∃ b : Bool, e = .returned (.bool b) ∧ Cur w' C lim ∧ w.grownBy w' (some C)
def DrewStr (w : World) (C lim : Nat) (P : ByteArray → Prop) (e : Ending) (w' : World) : Prop := ∃ s : ByteArray, e = .returned (.string s) ∧ P s ∧ Cur w' C lim ∧ w.grownBy w' (some C)
set_option maxHeartbeats 2000000 in
theorem pick_any (w : World) (C lim : Nat) (n : Int) (h : Cur w C lim) (hl : lim ≤ 1000000000000) (h1 : 1 ≤ n) (h2 : n ≤ 1000000000) : Calls Tryz.prog 56 #[.pointer (some ⟨C, 0, none⟩), .int .i64 n] w (DrewInt w C (lim + 2) fun b => 0 ≤ b ∧ b < n) := by
  have H := Lib.hid h
  clear h
  by_cases hn1 : n ≤ 1
  · go_enter Tryz.func56, Tryz.ntmps56
    go_wp2_with fail
    go_ret
    exact ⟨0, rfl, ⟨by omega, by omega⟩, H.out.more (by omega), gb_refl _ _⟩
  · by_cases hn2 : 200 < n
    · go_enter Tryz.func56, Tryz.ntmps56
      go_wp2_with fail
      refine (next_any w C lim H.out (by omega)).mono ?_; rintro e w1 ⟨b, rfl, hb, hc1, hg1⟩
      have Hc1 := Lib.hid hc1
      have Hg1 := Lib.hid hg1
      clear hc1 hg1
      obtain ⟨hb0, hb1⟩ := hb
      go_wp2_with fail
      refine (next_any w1 C (lim + 1) Hc1.out (by omega)).mono ?_; rintro e w2 ⟨b', rfl, hb', hc2, hg2⟩
      have Hc2 := Lib.hid hc2
      have Hg2 := Lib.hid hg2
      clear hc2 hg2
      obtain ⟨hb0', hb1'⟩ := hb'
      go_wp2_with fail
      go_ret
      refine ⟨_, rfl, ⟨?_, ?_⟩, Hc2.out, gb_tr Hg1.out Hg2.out⟩
      · first | exact Int.emod_nonneg _ (by omega) | exact Int.tmod_nonneg _ (by omega)
      · first | exact Int.emod_lt_of_pos _ (by omega) | exact Int.tmod_lt_of_pos _ (by omega)
    · go_enter Tryz.func56, Tryz.ntmps56
      go_wp2_with fail
      refine (next_any w C lim H.out (by omega)).mono ?_; rintro e w1 ⟨b, rfl, hb, hc1, hg1⟩
      have Hc1 := Lib.hid hc1
      have Hg1 := Lib.hid hg1
      clear hc1 hg1
      obtain ⟨hb0, hb1⟩ := hb
      go_wp2_with fail
      go_ret
      refine ⟨_, rfl, ⟨?_, ?_⟩, Hc1.out.more (by omega), Hg1.out⟩
      · first | exact Int.emod_nonneg _ (by omega) | exact Int.tmod_nonneg _ (by omega)
      · first | exact Int.emod_lt_of_pos _ (by omega) | exact Int.tmod_lt_of_pos _ (by omega)
theorem one_any (w : World) (C lim : Nat) (n : Int) (h : Cur w C lim) (hl : lim ≤ 1000000000000) (h1 : 1 ≤ n) (h2 : n ≤ 1000000000) : Calls Tryz.prog 36 #[.pointer (some ⟨C, 0, none⟩), .int .i64 n] w (DrewBool w C (lim + 2)) := by
  have H := Lib.hid h
  clear h
  go_enter Tryz.func36, Tryz.ntmps36
  go_wp2_with fail
  refine (pick_any w C lim n H.out hl h1 h2).mono ?_; rintro e w1 ⟨b, rfl, hb, hc1, hg1⟩
  have Hc1 := Lib.hid hc1
  have Hg1 := Lib.hid hg1
  clear hc1 hg1 hb
  go_wp2_with fail
  go_ret
  exact ⟨_, rfl, Hc1.out, Hg1.out⟩
theorem among_any (w : World) (C lim : Nat) (g n : Nat) (zs : List Int) (h : Cur w C lim) (hl : lim ≤ 1000000000000) (hn : zs.length = n) (h1 : 1 ≤ n) (h2 : n ≤ 1000000) (hz : w.heap[g]? = some (.cells (zs.map (Value.int .i64)).toArray 3 (0, 0))) (hg : g ≠ C) :
    Calls Tryz.prog 37 #[.pointer (some ⟨C, 0, none⟩), .slice (some ⟨g, 0, none⟩) n n] w (DrewInt w C (lim + 2) fun b => b ∈ zs) := by
  subst hn
  have H := Lib.hid h
  clear h
  have hgl : g < w.heap.size := (Array.getElem?_eq_some_iff.1 hz).1
  have Hz := Lib.hid hz
  clear hz
  go_enter Tryz.func37, Tryz.ntmps37
  go_wp2_with fail
  refine (pick_any w C lim zs.length H.out hl (by omega) (by omega)).mono ?_; rintro e w1 ⟨b, rfl, hb, hc1, hg1⟩
  obtain ⟨k, rfl⟩ : ∃ k : Nat, b = k := ⟨b.toNat, by omega⟩
  have hk : k < zs.length := by omega
  have hcell : w1.cell? ⟨g, k, none⟩ = some (.int .i64 zs[k]) := by
    rw [heap_cell ((hg1.block g hgl (fun x => hg (by injection x))).trans Hz.out)]
    simp [hk]
  have Hc1 := Lib.hid hc1
  have Hg1 := Lib.hid hg1
  clear hc1 hg1 hb
  go_wp2_with fail
  go_ret
  exact ⟨_, rfl, List.getElem_mem hk, Hc1.out, Hg1.out⟩
/-- Of a list laid just ahead. -/
theorem among_lit (W : World) (C lim n : Nat) (zs : List Int) (h : Cur W C lim) (hl : lim ≤ 1000000000000) (hn : zs.length = n) (h1 : 1 ≤ n) (h2 : n ≤ 1000000) :
    Calls Tryz.prog 37 #[.pointer (some ⟨C, 0, none⟩), .slice (some ⟨W.heap.size, 0, none⟩) n n] (W.alloc (.cells (zs.map (Value.int .i64)).toArray 3)) (DrewInt W C (lim + 2) fun b => b ∈ zs) := by
  refine (among_any _ C lim W.heap.size n zs (h.al _) hl hn h1 h2 (heap_new W _) (Nat.ne_of_gt h.lt)).mono ?_
  rintro e w' ⟨b, he, hb, hc, hg⟩
  exact ⟨b, he, hb, hc, gb_tr (gb_al (gb_refl _ _) _) hg⟩
theorem among_at (W : World) (C lim n g : Nat) (zs : List Int) (hg : g = W.heap.size) (h : Cur W C lim) (hl : lim ≤ 1000000000000) (hn : zs.length = n) (h1 : 1 ≤ n) (h2 : n ≤ 1000000) :
    Calls Tryz.prog 37 #[.pointer (some ⟨C, 0, none⟩), .slice (some ⟨g, 0, none⟩) n n] (W.alloc (.cells (zs.map (Value.int .i64)).toArray 3)) (DrewInt W C (lim + 2) fun b => b ∈ zs) := by
  subst hg; exact among_lit W C lim n zs h hl hn h1 h2
theorem of_any (w : World) (C lim : Nat) (g n : Nat) (zs : List ByteArray) (h : Cur w C lim) (hl : lim ≤ 1000000000000) (hn : zs.length = n) (h1 : 1 ≤ n) (h2 : n ≤ 1000000) (hz : w.heap[g]? = some (.cells (zs.map Value.string).toArray 9 (0, 0))) (hg : g ≠ C) :
    Calls Tryz.prog 99 #[.pointer (some ⟨C, 0, none⟩), .slice (some ⟨g, 0, none⟩) n n] w (DrewStr w C (lim + 2) fun b => b ∈ zs) := by
  subst hn
  have H := Lib.hid h
  clear h
  have hgl : g < w.heap.size := (Array.getElem?_eq_some_iff.1 hz).1
  have Hz := Lib.hid hz
  clear hz
  go_enter Tryz.func99, Tryz.ntmps99
  go_wp2_with fail
  refine (pick_any w C lim zs.length H.out hl (by omega) (by omega)).mono ?_; rintro e w1 ⟨b, rfl, hb, hc1, hg1⟩
  obtain ⟨k, rfl⟩ : ∃ k : Nat, b = k := ⟨b.toNat, by omega⟩
  have hk : k < zs.length := by omega
  have hcell : w1.cell? ⟨g, k, none⟩ = some (.string zs[k]) := by
    rw [heap_cell ((hg1.block g hgl (fun x => hg (by injection x))).trans Hz.out)]
    simp [hk]
  have Hc1 := Lib.hid hc1
  have Hg1 := Lib.hid hg1
  clear hc1 hg1 hb
  go_wp2_with fail
  go_ret
  exact ⟨_, rfl, List.getElem_mem hk, Hc1.out, Hg1.out⟩
theorem of_lit (W : World) (C lim n : Nat) (zs : List ByteArray) (h : Cur W C lim) (hl : lim ≤ 1000000000000) (hn : zs.length = n) (h1 : 1 ≤ n) (h2 : n ≤ 1000000) :
    Calls Tryz.prog 99 #[.pointer (some ⟨C, 0, none⟩), .slice (some ⟨W.heap.size, 0, none⟩) n n] (W.alloc (.cells (zs.map Value.string).toArray 9)) (DrewStr W C (lim + 2) fun b => b ∈ zs) := by
  refine (of_any _ C lim W.heap.size n zs (h.al _) hl hn h1 h2 (heap_new W _) (Nat.ne_of_gt h.lt)).mono ?_
  rintro e w' ⟨b, he, hb, hc, hg⟩
  exact ⟨b, he, hb, hc, gb_tr (gb_al (gb_refl _ _) _) hg⟩
theorem of_at (W : World) (C lim n g : Nat) (zs : List ByteArray) (hg : g = W.heap.size) (h : Cur W C lim) (hl : lim ≤ 1000000000000) (hn : zs.length = n) (h1 : 1 ≤ n) (h2 : n ≤ 1000000) :
    Calls Tryz.prog 99 #[.pointer (some ⟨C, 0, none⟩), .slice (some ⟨g, 0, none⟩) n n] (W.alloc (.cells (zs.map Value.string).toArray 9)) (DrewStr W C (lim + 2) fun b => b ∈ zs) := by
  subst hg; exact of_lit W C lim n zs h hl hn h1 h2
end Go.Proofs.YtofpjbdelmmclaaGreatDoor
