/- A drawn pair of proofs, the second a little otherwise at times. -/
import Derived.Test.YtajffjkmmenaoaaGreatPk45
namespace Go.Proofs.YtajffjkmmenaoaaGreat
open Go Go.RowKit
set_option linter.unusedVariables false
set_option linter.unusedSimpArgs false

theorem heap_newE {W : World} {o : Obj} {k : Nat} (hk : k = W.heap.size) : (W.alloc o).heap[k]? = some o := by subst hk; exact heap_new W o
theorem hp_call {W w' : World} {G : Nat} {o : Obj} (hb : Below W.heap.size W w') (h : W.heap[G]? = some o) : w'.heap[G]? = some o := (hb.block G (blk_lt h)).trans h
theorem hp_alX {W : World} {G : Nat} {o o2 : Obj} (h : W.heap[G]? = some o) : (W.alloc o2).heap[G]? = some o := (Below.heap_alloc W o2 G (blk_lt h)).trans h
theorem hp_drX {W : World} {G : Nat} {o : Obj} (h : W.heap[G]? = some o) : W.drew.heap[G]? = some o := h
theorem own_alX {W : World} {o : Obj} {b : Nat} {e : TypeId} {s n : Nat} {v : Value} {xs : List Value} (h : W.ownsRow b e s v n xs) : (W.alloc o).ownsRow b e s v n xs := own_to h (bw_al (Below.refl _ _) _)
theorem own_drX {W : World} {b : Nat} {e : TypeId} {s n : Nat} {v : Value} {xs : List Value} (h : W.ownsRow b e s v n xs) : W.drew.ownsRow b e s v n xs := own_to h (Below.drew (Below.refl _ _))
theorem own_same {w w' : World} {b b' : Nat} {e : TypeId} {s n : Nat} {v : Value} {xs : List Value} (h : w.ownsRow b e s v n xs) (hb : ∀ g, v.ownBlock = some g → b' ≤ g ∧ w'.heap[g]? = w.heap[g]?) : w'.ownsRow b' e s v n xs := by
  obtain ⟨h1, h2⟩ := h
  refine ⟨h1, ?_⟩
  rcases h2 with h2 | ⟨g, cap, cur, rfl, hx, hg, r⟩
  · exact .inl h2
  · obtain ⟨q1, q2⟩ := hb g rfl
    exact .inr ⟨g, cap, cur, rfl, q1, q2.trans hg, r⟩
/-- The append of lines to an empty row of the call's own: rows of other types stay. -/
theorem step_app_lnE {P : Program} {B : Nat} (w : World) {ops : Array Oper} {o : Oper} {a : Act} {K : Act → World → Prop} {Q : Exit → Act → World → Prop} {E : Prop} (hgd : o.guard = none) (s x : Operand) (t : TypeId)
    (ho : o.op = .call { callee := .builtin .append, args := #[s, x], argTypes := #[t, t] }) (ht : P.underlying t = some (.slice 58)) (hinfo : (P.info? 58).map (fun i => (i.zero, i.size, i.bytes)) = some (some (.agg #[.string ⟨#[]⟩, .int .i64 0, .int .i64 0]), 3, 32))
    {vx : Value} {ls : List Ln} {N : Nat} (hsl : Sl w 3 vx N (ls.flatMap lnC)) (hnil : NilOk vx) (hx : a.eval x = vx) (hn : N ≤ 100000000) (hBw : B ≤ w.heap.size) {g : Nat} (hs : a.eval s = .slice (some ⟨g, 0, none⟩) 0 0)
    (hg : w.heap[g]? = some (.cells #[] 58 (0, 0)) ∧ B ≤ g)
    (h : ∀ A c w', w'.ownsRow B 58 3 (.slice A N c) N (ls.flatMap lnC) → Below B w w' → (∀ b2 e2 s2 n2 v2 x2, w.ownsRow b2 e2 s2 v2 n2 x2 → e2 ≠ 58 → w'.ownsRow b2 e2 s2 v2 n2 x2) → (∀ (G : Nat) (cs : Array Value), w.heap[G]? = some (.cells cs 33 (0, 0)) → w'.heap[G]? = some (.cells cs 33 (0, 0))) → K (a.put o.dst (.slice A N c)) w') :
    if Region.wanted o (yielded ops a.tmps) = true then Oper.wp P o a w K Q else E := by
  have hown : w.ownsRow B 58 3 (.slice (some ⟨g, 0, none⟩) 0 0) 0 [] := own_of_heap (cs := #[]) hg.1 hg.2 (by unfold maxLen; omega) rfl
  refine step_app_sl w hgd s x t ho B 58 _ 3 32 ht hinfo rfl (by omega) hown hs hsl hnil hx (lnC_one ls) (by omega) (by omega) hBw N (by omega) ?_
  intro A c w' h1 h2 h3
  refine h A c w' h1 h2 (fun b2 e2 s2 n2 v2 x2 q he => q.kept h3 (own_kindsX q hown he)) (fun G cs hG => ?_)
  have hne : G ≠ g := by
    rintro rfl
    rw [hg.1] at hG
    injection hG with hG
    injection hG with q1 q2 q3
    exact absurd q2 (by decide)
  exact (h3.block G (blk_lt hG) (fun e => hne (by simpa [Value.ownBlock] using e))).trans hG
/-- A new proof in its box G, with its rows, all younger than w3. -/
structure SP (w3 : World) (hv lv : Value) (hs : List ByteArray) (ls : List Ln) (G : Nat) (W : World) : Prop where
  hb : Below w3.heap.size w3 W
  box : W.ownsRow w3.heap.size 33 2 (.slice (some ⟨G, 0, none⟩) 1 1) 1 [hv, lv]
  hr : W.ownsRow w3.heap.size 9 1 hv hs.length (hs.map Value.string)
  lr : W.ownsRow w3.heap.size 58 3 lv ls.length (ls.flatMap lnC)
theorem sp_al {w3 w' : World} {hv lv : Value} {hs : List ByteArray} {ls : List Ln} (hb : Below w3.heap.size w3 w') (hr : w'.ownsRow w3.heap.size 9 1 hv hs.length (hs.map Value.string)) (lr : w'.ownsRow w3.heap.size 58 3 lv ls.length (ls.flatMap lnC)) :
    SP w3 hv lv hs ls w'.heap.size (w'.alloc (.cells #[hv, lv] 33)) :=
  ⟨bw_al hb _, own_of_heap (heap_new _ _) hb.size (by unfold maxLen; omega) rfl, own_alX hr, own_alX lr⟩
theorem sp_set {w3 w' : World} {hv lv : Value} {hs : List ByteArray} {ls : List Ln} {G : Nat} {x0 x1 : Value} (hb : Below w3.heap.size w3 w') (hr : w'.ownsRow w3.heap.size 9 1 hv hs.length (hs.map Value.string)) (lr : w'.ownsRow w3.heap.size 58 3 lv ls.length (ls.flatMap lnC))
    (hk : w'.heap[G]? = some (.cells #[x0, x1] 33 (0, 0))) (hG : w3.heap.size ≤ G) : SP w3 hv lv hs ls G ((w'.setCell ⟨G, 0, none⟩ hv).setCell ⟨G, 1, none⟩ lv) := by
  have hbox : w'.ownsRow w3.heap.size 33 2 (.slice (some ⟨G, 0, none⟩) 1 1) 1 [x0, x1] := own_of_heap hk hG (by unfold maxLen; omega) rfl
  have b2 := own_set hbox 0 hv
  exact ⟨grow_set (grow_set hb hG _) hG _, own_set b2 1 _, own_oth (own_oth hr hbox (by decide) 0 hv) b2 (by decide) 1 _, own_oth (own_oth lr hbox (by decide) 0 hv) b2 (by decide) 1 _⟩
/-- The elder proof: its box X and its rows lie below B, beside F1 and F2. -/
structure OldP (B F1 F2 X : Nat) (hv lv : Value) (hs : List ByteArray) (ls : List Ln) (W : World) : Prop where
  xb : W.ownsRow 0 33 2 (.slice (some ⟨X, 0, none⟩) 1 1) 1 [hv, lv]
  hX : X < B ∧ X ≠ F1 ∧ X ≠ F2
  hr : W.ownsRow 0 9 1 hv hs.length (hs.map Value.string)
  hH : ∀ g, hv.ownBlock = some g → g < B ∧ g ≠ F1 ∧ g ≠ F2
  lr : ∃ v n xs, W.ownsRow 0 58 3 v n xs ∧ (∀ g, v.ownBlock = some g → g < B ∧ g ≠ F1 ∧ g ≠ F2) ∧ (∀ W' : World, W'.ownsRow 0 58 3 v n xs → Lns W' lv ls)
theorem OldP.keep {B F1 F2 X : Nat} {hv lv : Value} {hs : List ByteArray} {ls : List Ln} {W W' : World} (h : OldP B F1 F2 X hv lv hs ls W) (hk : ∀ i, i < B → i ≠ F1 → i ≠ F2 → W'.heap[i]? = W.heap[i]?) : OldP B F1 F2 X hv lv hs ls W' := by
  obtain ⟨v, n, xs, h1, h2, h3⟩ := h.lr
  refine ⟨own_same h.xb (fun g e => ?_), h.hX, own_same h.hr (fun g e => ⟨Nat.zero_le _, hk g (h.hH g e).1 (h.hH g e).2.1 (h.hH g e).2.2⟩), h.hH, v, n, xs, own_same h1 (fun g e => ⟨Nat.zero_le _, hk g (h2 g e).1 (h2 g e).2.1 (h2 g e).2.2⟩), h2, h3⟩
  injection e with e
  subst e
  exact ⟨Nat.zero_le _, hk _ h.hX.1 h.hX.2.1 h.hX.2.2⟩
theorem OldP.noC {B F1 F2 X C lim : Nat} {hv lv : Value} {hs : List ByteArray} {ls : List Ln} {W W' : World} (h : OldP B F1 F2 X hv lv hs ls W) (hc : Cur W C lim) (hg : W.grownBy W' (some C)) : OldP B F1 F2 X hv lv hs ls W' := by
  obtain ⟨v, n, xs, h1, h2, h3⟩ := h.lr
  exact ⟨own_noC h.xb hc (by decide) hg, h.hX, own_noC h.hr hc (by decide) hg, h.hH, v, n, xs, own_noC h1 hc (by decide) hg, h2, h3⟩
theorem oldP_of {B F1 F2 X base : Nat} {hv lv : Value} {hs : List ByteArray} {ls : List Ln} {W : World} (xb : W.ownsRow base 33 2 (.slice (some ⟨X, 0, none⟩) 1 1) 1 [hv, lv]) (hr : W.ownsRow base 9 1 hv hs.length (hs.map Value.string)) (lr : LinV W base lv ls) (hB : W.heap.size ≤ B) (h1 : F1 < base) (h2 : F2 < base) : OldP B F1 F2 X hv lv hs ls W := by
  have hlt : ∀ {e s n v xs}, W.ownsRow base e s v n xs → ∀ g, Value.ownBlock v = some g → g < B ∧ g ≠ F1 ∧ g ≠ F2 := fun h g e => by have := h.lt g e; omega
  refine ⟨own_base xb (Nat.zero_le _), hlt xb X rfl, own_base hr (Nat.zero_le _), hlt hr, ?_⟩
  rcases lr with h | ⟨g, q, x, h, e⟩
  · exact ⟨_, _, _, own_base h (Nat.zero_le _), hlt h, fun W' h' => lns_of_own h'⟩
  · exact ⟨_, _, _, own_base h (Nat.zero_le _), hlt h, fun W' h' => linV_lns (.inr ⟨g, q, x, h', e⟩)⟩
/-- What a draw of two proofs leaves. -/
def PostS (w : World) (e : Ending) (w' : World) : Prop := ∃ (hv lv hv' lv' : Value) (hs hs' : List ByteArray) (ls ls' : List Ln), e = .returned (.tuple #[.agg #[hv, lv], .agg #[hv', lv']]) ∧ Strs w' hv hs ∧ Lns w' lv ls ∧ Strs w' hv' hs' ∧ Lns w' lv' ls' ∧ Below w.heap.size w w'
/-- The state behind the switch. -/
structure SQ (w : World) (B F1 F2 X G : Nat) (hv lv : Value) (hs : List ByteArray) (ls : List Ln) (hv' lv' : Value) (hs' : List ByteArray) (ls' : List Ln) (W : World) : Prop where
  bw : Below w.heap.size w W
  old : OldP B F1 F2 X hv lv hs ls W
  r1 : ∃ zs, W.ownsRow w.heap.size 33 2 (.slice (some ⟨F1, 0, none⟩) 1 1) 1 zs
  r2 : ∃ zs, W.ownsRow w.heap.size 33 2 (.slice (some ⟨F2, 0, none⟩) 1 1) 1 zs
  box : W.ownsRow B 33 2 (.slice (some ⟨G, 0, none⟩) 1 1) 1 [hv', lv']
  hr : W.ownsRow B 9 1 hv' hs'.length (hs'.map Value.string)
  lr : W.ownsRow B 58 3 lv' ls'.length (ls'.flatMap lnC)
  hF : F1 < B ∧ F2 < B ∧ F1 ≠ F2 ∧ w.heap.size ≤ B
theorem SQ.cells {w : World} {B F1 F2 X G : Nat} {hv lv : Value} {hs : List ByteArray} {ls : List Ln} {hv' lv' : Value} {hs' : List ByteArray} {ls' : List Ln} {W : World} (h : SQ w B F1 F2 X G hv lv hs ls hv' lv' hs' ls' W) :
    (W.cell? ⟨X, 0, none⟩ = some hv ∧ W.cell? ⟨X, 1, none⟩ = some lv) ∧ (W.cell? ⟨G, 0, none⟩ = some hv' ∧ W.cell? ⟨G, 1, none⟩ = some lv') ∧ (W.cell? ⟨F1, 0, none⟩ = some (oldC F1 0 W) ∧ W.cell? ⟨F1, 1, none⟩ = some (oldC F1 1 W)) ∧ (W.cell? ⟨F2, 0, none⟩ = some (oldC F2 0 W) ∧ W.cell? ⟨F2, 1, none⟩ = some (oldC F2 1 W)) ∧
      (∀ j, W.frozen? ⟨F1, j, none⟩ = false) ∧ (∀ j, W.frozen? ⟨F2, j, none⟩ = false) ∧ (∀ j, W.frozen? ⟨G, j, none⟩ = false) ∧ F1 ≠ F2 ∧ F1 ≠ X ∧ F1 ≠ G ∧ F2 ≠ X ∧ F2 ≠ G ∧ X ≠ G := by
  obtain ⟨z1, h1⟩ := h.r1
  obtain ⟨z2, h2⟩ := h.r2
  have l1 : z1.length = 2 := h1.1
  have l2 : z2.length = 2 := h2.1
  have hG := (h.box.lt G rfl).1
  have hX := h.old.hX
  have hF := h.hF
  refine ⟨⟨(h.old.xb.cellAt 0 (by omega)).trans rfl, (h.old.xb.cellAt 1 (by omega)).trans rfl⟩, ⟨(h.box.cellAt 0 (by omega)).trans rfl, (h.box.cellAt 1 (by omega)).trans rfl⟩, ⟨?_, ?_⟩, ⟨?_, ?_⟩, fun j => h1.frozenAt j, fun j => h2.frozenAt j, fun j => h.box.frozenAt j, by omega, by omega, by omega, by omega, by omega, by omega⟩
  · exact oldC_of (x := z1[0]) (by rw [h1.cellAt 0 (by omega)]; simp [l1])
  · exact oldC_of (x := z1[1]) (by rw [h1.cellAt 1 (by omega)]; simp [l1])
  · exact oldC_of (x := z2[0]) (by rw [h2.cellAt 0 (by omega)]; simp [l2])
  · exact oldC_of (x := z2[1]) (by rw [h2.cellAt 1 (by omega)]; simp [l2])
/-- The four cells of the results, written. -/
theorem SQ.fin {w : World} {B F1 F2 X G : Nat} {hv lv : Value} {hs : List ByteArray} {ls : List Ln} {hv' lv' : Value} {hs' : List ByteArray} {ls' : List Ln} {W : World} (h : SQ w B F1 F2 X G hv lv hs ls hv' lv' hs' ls' W) (a0 a1 a2 a3 : Value) :
    ∃ W', W' = (((W.setCell ⟨F1, 0, none⟩ a0).setCell ⟨F1, 1, none⟩ a1).setCell ⟨F2, 0, none⟩ a2).setCell ⟨F2, 1, none⟩ a3 ∧ (W'.cell? ⟨F1, 0, none⟩ = some a0 ∧ W'.cell? ⟨F1, 1, none⟩ = some a1 ∧ W'.cell? ⟨F2, 0, none⟩ = some a2 ∧ W'.cell? ⟨F2, 1, none⟩ = some a3) ∧ Strs W' hv hs ∧ Lns W' lv ls ∧ Strs W' hv' hs' ∧ Lns W' lv' ls' ∧ Below w.heap.size w W' := by
  obtain ⟨z1, h1⟩ := h.r1
  obtain ⟨z2, h2⟩ := h.r2
  have l1 : z1.length = 2 := h1.1
  have l2 : z2.length = 2 := h2.1
  have hF := h.hF
  have b1 := (h1.lt F1 rfl).1
  have b2 := (h2.lt F2 rfl).1
  have hk : ∀ i, i ≠ F1 → i ≠ F2 → ((((W.setCell ⟨F1, 0, none⟩ a0).setCell ⟨F1, 1, none⟩ a1).setCell ⟨F2, 0, none⟩ a2).setCell ⟨F2, 1, none⟩ a3).heap[i]? = W.heap[i]? := fun i i1 i2 => by
    rw [Below.heap_setCell _ _ _ i (by exact i2), Below.heap_setCell _ _ _ i (by exact i2), Below.heap_setCell _ _ _ i (by exact i1), Below.heap_setCell _ _ _ i (by exact i1)]
  have ho := h.old.keep (W' := (((W.setCell ⟨F1, 0, none⟩ a0).setCell ⟨F1, 1, none⟩ a1).setCell ⟨F2, 0, none⟩ a2).setCell ⟨F2, 1, none⟩ a3) (fun i _ => hk i)
  obtain ⟨v, n, xs, o1, o2, o3⟩ := ho.lr
  refine ⟨_, rfl, ⟨?_, ?_, ?_, ?_⟩, strs_of_own ho.hr, o3 _ o1, strs_of_own (own_same (b' := B) h.hr (fun g e => ?_)), lns_of_own (own_same (b' := B) h.lr (fun g e => ?_)), grow_set (grow_set (grow_set (grow_set h.bw b1 _) b1 _) b2 _) b2 _⟩
  · have q := own_ne1 (own_ne1 (own_set (own_set h1 0 a0) 1 a1) hF.2.2.1 0 a2) hF.2.2.1 1 a3
    rw [q.cellAt 0 (by omega)]; simp [l1]
  · have q := own_ne1 (own_ne1 (own_set (own_set h1 0 a0) 1 a1) hF.2.2.1 0 a2) hF.2.2.1 1 a3
    rw [q.cellAt 1 (by omega)]; simp [l1]
  · have q := own_set (own_set (own_ne1 (own_ne1 h2 hF.2.2.1.symm 0 a0) hF.2.2.1.symm 1 a1) 0 a2) 1 a3
    rw [q.cellAt 0 (by omega)]; simp [l2]
  · have q := own_set (own_set (own_ne1 (own_ne1 h2 hF.2.2.1.symm 0 a0) hF.2.2.1.symm 1 a1) 0 a2) 1 a3
    rw [q.cellAt 1 (by omega)]; simp [l2]
  · have := (h.hr.lt g e).1
    exact ⟨this, hk g (by omega) (by omega)⟩
  · have := (h.lr.lt g e).1
    exact ⟨this, hk g (by omega) (by omega)⟩
/-- A head appended, and written into the box. -/
theorem SQ.app {w : World} {B F1 F2 X G : Nat} {hv lv : Value} {hs : List ByteArray} {ls : List Ln} {hv' lv' : Value} {hs' : List ByteArray} {ls' : List Ln} {W W5 : World} (h : SQ w B F1 F2 X G hv lv hs ls hv' lv' hs' ls' W) {v5 : Value} {x : ByteArray}
    (hr5 : W5.ownsRow B 9 1 v5 (hs'.length + 1) (hs'.map Value.string ++ [.string x])) (hb5 : Below B W W5) (hg5 : W.grownBy W5 hv'.ownBlock) : SQ w B F1 F2 X G hv lv hs ls v5 lv' (hs' ++ [x]) ls' (W5.setCell ⟨G, 0, none⟩ v5) := by
  obtain ⟨z1, h1⟩ := h.r1
  obtain ⟨z2, h2⟩ := h.r2
  have hG := (h.box.lt G rfl).1
  have hF := h.hF
  have k1 := h1.kept hg5 (own_kindsX h1 h.hr (by decide))
  have k2 := h2.kept hg5 (own_kindsX h2 h.hr (by decide))
  have kb := h.box.kept hg5 (own_kindsX h.box h.hr (by decide))
  have kl := h.lr.kept hg5 (own_kindsX h.lr h.hr (by decide))
  have hr6 : W5.ownsRow B 9 1 v5 (hs' ++ [x]).length ((hs' ++ [x]).map Value.string) := by rw [List.length_append, List.map_append]; exact hr5
  refine { bw := grow_set (h.bw.grown hg5 h.bw.size (fun k hk => by have := (h.hr.lt k hk).1; omega)) (by omega) v5, old := h.old.keep (fun i hi _ _ => ?_), r1 := ⟨z1, own_ne1 k1 (by omega) 0 v5⟩, r2 := ⟨z2, own_ne1 k2 (by omega) 0 v5⟩, box := own_set kb 0 v5, hr := own_oth hr6 kb (by decide) 0 v5, lr := own_oth kl kb (by decide) 0 v5, hF := hF }
  rw [Below.heap_setCell _ _ _ i (by show i ≠ G; omega)]
  exact hb5.block i hi
/-- The place of the first line anew. -/
theorem SQ.put {w : World} {B F1 F2 X G g q : Nat} {hv lv : Value} {hs : List ByteArray} {ls : List Ln} {hv' : Value} {hs' : List ByteArray} {ls' : List Ln} {W : World} (h : SQ w B F1 F2 X G hv lv hs ls hv' (.slice (some ⟨g, 0, none⟩) ls'.length q) hs' ls' W) (h0 : 0 < ls'.length) (z : Int) :
    SQ w B F1 F2 X G hv lv hs ls hv' (.slice (some ⟨g, 0, none⟩) ls'.length q) hs' (ls'.set 0 ⟨ls'[0].row, ls'[0].lead, z⟩) (W.setCell ⟨g, 2, none⟩ (.int .i64 z)) := by
  obtain ⟨z1, h1⟩ := h.r1
  obtain ⟨z2, h2⟩ := h.r2
  have hg := (h.lr.lt g rfl).1
  have hF := h.hF
  refine { bw := grow_set h.bw (by omega) _, old := h.old.keep (fun i hi _ _ => Below.heap_setCell _ _ _ i (by show i ≠ g; omega)), r1 := ⟨z1, own_oth h1 h.lr (by decide) 2 _⟩, r2 := ⟨z2, own_oth h2 h.lr (by decide) 2 _⟩, box := own_oth h.box h.lr (by decide) 2 _, hr := own_oth h.hr h.lr (by decide) 2 _, lr := ?_, hF := hF }
  have h3 := own_set h.lr 2 (.int .i64 z)
  have e3 := flat_set3 (i := 0) h0 ⟨ls'[0].row, ls'[0].lead, z⟩ (j := 2) (u := .int .i64 z) (by omega) rfl
  rw [show 0 * 3 + 2 = 2 from rfl] at e3
  rw [e3] at h3
  rw [List.length_set]
  exact h3
set_option maxRecDepth 100000 in
set_option maxHeartbeats 8000000 in
theorem drawSameProof_any (V : Value) (w : World) (h : BytesAt w w.heap.size V) : Calls Tryz.prog 16 #[V] w (PostS w) := by
  have H := Lib.hid h
  obtain ⟨A0, n0, c0, zs0, rfl, _⟩ := h
  go_enter Tryz.func16, Tryz.ntmps16
  go_wp2_with fail
  refine box3 (C := fun W => Calls _ _ _ W _) ?_
  intro wb hw k0 k1 k2 hB0
  have C0 := Lib.hid (cur_box H.out hw (by omega) k2)
  have hCw : w.heap.size + 2 < wb.heap.size := (Array.getElem?_eq_some_iff.1 k2).1
  have Hw := Lib.hid hw
  have K0 := Lib.hid (own_of_heap (base := w.heap.size) (n := 1) (size := 2) k0 (Nat.le_refl _) (by unfold maxLen; omega) rfl)
  have K1 := Lib.hid (own_of_heap (base := w.heap.size) (n := 1) (size := 2) k1 (by omega) (by unfold maxLen; omega) rfl)
  have HV : BytesAt wb wb.heap.size (.slice A0 n0 c0) := (H.out.keep (fun p hp => hw.cell hp)).more hw.size
  clear k0 k1 k2 hw hB0
  refine (drawProofText_any _ wb HV).mono ?_; rintro e w1 ⟨hv, lv, hs, ls, rfl, hr, hl, hh8, hl8, hn1, hn2, hb1⟩
  have Hr1 := Lib.hid hr
  have Hl1 := Lib.hid hl
  have Hb1 := Lib.hid hb1
  have hz1 := hb1.size
  have nh := nilok_own hr
  have nl := hl.nilok
  obtain ⟨A2, q2, ev, _⟩ := sl_of_own hr
  subst ev
  obtain ⟨A3, q3, ev, hq3, hq3'⟩ := lns_form (linV_lns hl)
  subst ev
  unfold maxLen at hq3'
  clear hr hl hb1 hh8 hl8 HV
  go_upto_region 3 with fail
  refine box1 (C := fun W => Code.wp _ _ _ _ W) ?_
  intro w3 hw3 k3 hB3
  have hz3 : w1.heap.size < w3.heap.size := (Array.getElem?_eq_some_iff.1 k3).1
  have R3 := boxRule k3
  have C3 := Lib.hid ((C0.out.to Hb1.out).to hw3)
  have O3 := Lib.hid (oldP_of (B := w3.heap.size) (F1 := w.heap.size) (F2 := w.heap.size + 1) (own_of_heap (base := wb.heap.size) (n := 1) (size := 2) k3 hz1 (by unfold maxLen; omega) rfl) (own_to Hr1.out hw3) (Hl1.out.to hw3) (Nat.le_refl _) (by omega) (by omega))
  have B3 := Lib.hid (bw_to (bw_to Hw.out Hb1.out) hw3)
  have R0 := Lib.hid (own_to (own_to K0.out Hb1.out) hw3)
  have R1 := Lib.hid (own_to (own_to K1.out Hb1.out) hw3)
  have HS3 := Lib.hid (fun W (hW : Below w3.heap.size w3 W) => (strs_of_own (own_to Hr1.out hw3)).to hW)
  have HL3 := Lib.hid (fun W (hW : Below w3.heap.size w3 W) => (linV_lns (Hl1.out.to hw3)).to hW)
  have HOwn := Lib.hid (fun W (hW : Below w3.heap.size w3 W) => l1OwnS_any (.slice A2 hs.length q2) hs W (HS3.out W hW) nh (by omega))
  clear k3 hw3 K0 K1 Hr1 Hl1 C0 Hb1 Hw
  go_cut [6] (fun s6 wx => ∃ A q A' q' G, s6 = .pointer (some ⟨G, 0, none⟩) ∧ SP w3 (.slice A hs.length q) (.slice A' ls.length q') hs ls G wx)
  case first =>
    have hd3 : Below w3.heap.size w3 w3.drew := Below.drew (Below.refl _ _)
    have hr3 : Below w3.heap.size w3 w3 := Below.refl _ _
    have Y3 : ∀ W i, Below w3.heap.size w3 W → W.cell? ⟨w1.heap.size, i, none⟩ = _ := fun W i h => R3 W i h
    clear R3
    go_region_held3 (fun W => Below w3.heap.size w3 W) (first | assumption | exact Below.drew (by assumption) | exact bw_al (by assumption) _ | exact Below.drew (bw_al (by assumption) _) | exact bw_al (Below.drew (by assumption)) _ | exact bw_al (bw_al (by assumption) _) _ | exact grow_set (grow_set (by assumption) (Nat.le_refl _) _) (Nat.le_refl _) _ | exact grow_set (grow_set (by assumption) (Nat.le_succ _) _) (Nat.le_succ _) _ | exact grow_set (grow_set (by assumption) hsz' _) hsz' _ | exact grow_set (grow_set (by assumption) (Nat.le_succ_of_le hsz') _) (Nat.le_succ_of_le hsz') _ | exact grow_set (grow_set (by assumption) (Below.size hBw2) _) (Below.size hBw2) _ | exact grow_set (grow_set (by assumption) (Below.size (by assumption)) _) (Below.size (by assumption)) _)
      (first | (go_at_call 43; refine (HOwn.out _ (by assumption)).mono ?_; rintro e w' ⟨r, rfl, ho', hb'⟩; (have hBw' : Below w3.heap.size w3 w' := bw_to (by assumption) hb'); (have hsz' := hBw'.size); (have Ro' := Lib.hid (own_base (base' := w3.heap.size) ho' (Below.size (by assumption)))); clear ho'; (obtain ⟨Ar, qr, er, _⟩ := sl_of_own Ro'.out); subst er; (try (refine (fun (kb0 : w'.heap[w3.heap.size]? = some (Obj.cells #[Value.slice none 0 0, Value.slice none 0 0] 33 (0, 0))) => ?_) ?_; rotate_left; (· ((repeat (first | (with_reducible refine heap_newE ?_; simp; done) | with_reducible refine hp_drX ?_ | with_reducible refine hp_alX ?_ | with_reducible refine hp_call hb' ?_ | (with_reducible refine hH2 _ _ ?_))); done)); have u00 := heap_cell kb0 0; have u01 := heap_cell kb0 1; have v00 := frozen_of_heap kb0 0 (Below.refl _ _); have v01 := frozen_of_heap kb0 1 (Below.refl _ _))); (try (refine (fun (kb1 : w'.heap[w3.heap.size + 1]? = some (Obj.cells #[Value.slice none 0 0, Value.slice none 0 0] 33 (0, 0))) => ?_) ?_; rotate_left; (· ((repeat (first | (with_reducible refine heap_newE ?_; simp; done) | with_reducible refine hp_drX ?_ | with_reducible refine hp_alX ?_ | with_reducible refine hp_call hb' ?_ | (with_reducible refine hH2 _ _ ?_))); done)); have u10 := heap_cell kb1 0; have u11 := heap_cell kb1 1; have v10 := frozen_of_heap kb1 0 (Below.refl _ _); have v11 := frozen_of_heap kb1 1 (Below.refl _ _))); (try (refine (fun (kb2 : w'.heap[w2'.heap.size]? = some (Obj.cells #[Value.slice none 0 0, Value.slice none 0 0] 33 (0, 0))) => ?_) ?_; rotate_left; (· ((repeat (first | (with_reducible refine heap_newE ?_; simp; done) | with_reducible refine hp_drX ?_ | with_reducible refine hp_alX ?_ | with_reducible refine hp_call hb' ?_ | (with_reducible refine hH2 _ _ ?_))); done)); have u20 := heap_cell kb2 0; have u21 := heap_cell kb2 1; have v20 := frozen_of_heap kb2 0 (Below.refl _ _); have v21 := frozen_of_heap kb2 1 (Below.refl _ _)))) | (refine step_app_lnE (B := w3.heap.size) _ (by rfl) _ _ _ (by rfl) Tryz.underlying31 info_line (HL3.out _ (by assumption)) nl (by rfl) (by omega) (Below.size (by assumption)) (by rfl) ?_ ?_; (· refine ⟨?_, ?_⟩; (· ((repeat (first | (with_reducible refine heap_newE ?_; simp; done) | with_reducible refine hp_drX ?_ | with_reducible refine hp_alX ?_ | with_reducible refine hp_call hb' ?_ | (with_reducible refine hH2 _ _ ?_))); done)); (· (first | exact Nat.le_refl _ | exact Nat.le_succ _ | omega | (simp; omega)))); intro A2' q2' w2' hown2 hb2 hR2 hH2; (have hBw2 : Below w3.heap.size w3 w2' := Below.trans (by assumption) hb2); (try (refine (fun (kb0 : w2'.heap[w3.heap.size]? = some (Obj.cells #[Value.slice none 0 0, Value.slice none 0 0] 33 (0, 0))) => ?_) ?_; rotate_left; (· ((repeat (first | (with_reducible refine heap_newE ?_; simp; done) | with_reducible refine hp_drX ?_ | with_reducible refine hp_alX ?_ | with_reducible refine hp_call hb' ?_ | (with_reducible refine hH2 _ _ ?_))); done)); have u00 := heap_cell kb0 0; have u01 := heap_cell kb0 1; have v00 := frozen_of_heap kb0 0 (Below.refl _ _); have v01 := frozen_of_heap kb0 1 (Below.refl _ _))); (try (refine (fun (kb1 : w2'.heap[w3.heap.size + 1]? = some (Obj.cells #[Value.slice none 0 0, Value.slice none 0 0] 33 (0, 0))) => ?_) ?_; rotate_left; (· ((repeat (first | (with_reducible refine heap_newE ?_; simp; done) | with_reducible refine hp_drX ?_ | with_reducible refine hp_alX ?_ | with_reducible refine hp_call hb' ?_ | (with_reducible refine hH2 _ _ ?_))); done)); have u10 := heap_cell kb1 0; have u11 := heap_cell kb1 1; have v10 := frozen_of_heap kb1 0 (Below.refl _ _); have v11 := frozen_of_heap kb1 1 (Below.refl _ _))); (try (refine (fun (kb2 : w2'.heap[w'.heap.size]? = some (Obj.cells #[Value.slice none 0 0, Value.slice none 0 0] 33 (0, 0))) => ?_) ?_; rotate_left; (· ((repeat (first | (with_reducible refine heap_newE ?_; simp; done) | with_reducible refine hp_drX ?_ | with_reducible refine hp_alX ?_ | with_reducible refine hp_call hb' ?_ | (with_reducible refine hH2 _ _ ?_))); done)); have u20 := heap_cell kb2 0; have u21 := heap_cell kb2 1; have v20 := frozen_of_heap kb2 0 (Below.refl _ _); have v21 := frozen_of_heap kb2 1 (Below.refl _ _))); (try (refine (fun (kb3 : w2'.heap[w'.heap.size + 1]? = some (Obj.cells #[Value.slice none 0 0, Value.slice none 0 0] 33 (0, 0))) => ?_) ?_; rotate_left; (· ((repeat (first | (with_reducible refine heap_newE ?_; simp; done) | with_reducible refine hp_drX ?_ | with_reducible refine hp_alX ?_ | with_reducible refine hp_call hb' ?_ | (with_reducible refine hH2 _ _ ?_))); done)); have u30 := heap_cell kb3 0; have u31 := heap_cell kb3 1; have v30 := frozen_of_heap kb3 0 (Below.refl _ _); have v31 := frozen_of_heap kb3 1 (Below.refl _ _)))))
    all_goals
      first | (go_wp2_with fail; go_meet) | go_meet
      refine ⟨Ar, qr, A2', q2', _, rfl, ?_⟩
      first
        | (refine sp_al ?_ ?_ ?_; (· (first | assumption | exact Below.drew (by assumption))); (· ((repeat (first | exact Ro'.out | with_reducible refine own_drX ?_ | with_reducible refine own_alX ?_ | (with_reducible refine hR2 _ _ _ _ _ _ ?_ ?_; rotate_left; (· decide)) | (with_reducible refine own_to ?_ hb'))); done)); (· ((repeat (first | exact hown2 | with_reducible refine own_drX ?_ | with_reducible refine own_alX ?_ | (with_reducible refine own_to ?_ hb'))); done)))
        | (refine sp_set (x0 := .slice none 0 0) (x1 := .slice none 0 0) ?_ ?_ ?_ ?_ ?_; (· (first | assumption | exact Below.drew (by assumption))); (· ((repeat (first | exact Ro'.out | with_reducible refine own_drX ?_ | with_reducible refine own_alX ?_ | (with_reducible refine hR2 _ _ _ _ _ _ ?_ ?_; rotate_left; (· decide)) | (with_reducible refine own_to ?_ hb'))); done)); (· ((repeat (first | exact hown2 | with_reducible refine own_drX ?_ | with_reducible refine own_alX ?_ | (with_reducible refine own_to ?_ hb'))); done)); (· ((repeat (first | (with_reducible refine heap_newE ?_; simp; done) | with_reducible refine hp_drX ?_ | with_reducible refine hp_alX ?_ | with_reducible refine hp_call hb' ?_ | (with_reducible refine hH2 _ _ ?_))); done)); (· (first | exact Nat.le_refl _ | exact Nat.le_succ _ | omega | (simp; omega))))
  case rest =>
    obtain ⟨A4, q4, A5, q5, G, rfl, hS⟩ := hcut
    have Cc := Lib.hid (C3.out.to hS.hb)
    have hC3 : w.heap.size + 2 < w3.heap.size := by omega
    have Q4 := Lib.hid (fun w4 lim (hc4 : Cur w4 (w.heap.size + 2) lim) (hg4 : wc.grownBy w4 (some (w.heap.size + 2))) => (show SQ w w3.heap.size w.heap.size (w.heap.size + 1) w1.heap.size G (.slice A2 hs.length q2) (.slice A3 ls.length q3) hs ls (.slice A4 hs.length q4) (.slice A5 ls.length q5) hs ls w4 from
      { bw := gb_below (bw_to B3.out hS.hb) hg4 (by omega), old := (O3.out.keep (fun i hi _ _ => hS.hb.block i hi)).noC Cc.out hg4, r1 := ⟨_, own_noC (own_to R0.out hS.hb) Cc.out (by decide) hg4⟩, r2 := ⟨_, own_noC (own_to R1.out hS.hb) Cc.out (by decide) hg4⟩, box := own_ltC hS.box hg4 hC3, hr := own_ltC hS.hr hg4 hC3, lr := own_ltC hS.lr hg4 hC3, hF := ⟨by omega, by omega, by omega, by omega⟩ }))
    have HC3 := Lib.hid hC3
    clear hS R3 O3 B3 R0 R1 HS3 HL3 HOwn C3 nh nl
    go_wp2_with fail
    refine (pick_any wc (w.heap.size + 2) _ 4 Cc.out (by omega) (by omega) (by omega)).mono ?_; rintro e w4 ⟨pz, rfl, hp, hc4, hg4⟩
    have S4 := Lib.hid (Q4.out w4 _ hc4 hg4)
    obtain ⟨p0, p1⟩ := hp
    clear hc4 hg4 Q4 Cc
    obtain ⟨F2, hF2⟩ : ∃ k, k = w.heap.size + 1 := ⟨_, rfl⟩
    obtain ⟨X, hX⟩ : ∃ k, k = w1.heap.size := ⟨_, rfl⟩
    rw [← hF2, ← hX] at S4
    rw [← hF2, ← hX]
    obtain ⟨F1, hF1⟩ : ∃ k, k = w.heap.size := ⟨_, rfl⟩
    rw [← hF1] at S4
    rw [← hF1]
    clear hF2 hX hF1
    by_cases hp0 : pz = 0
    · subst hp0
      obtain ⟨⟨x0, x1⟩, ⟨y0, y1⟩, _, _, _, _, fg, _⟩ := S4.out.cells
      have g0 := fg 0
      have hBw : w3.heap.size ≤ w4.heap.size := Nat.le_of_lt (Nat.lt_of_le_of_lt (S4.out.box.lt G rfl).1 (S4.out.box.lt G rfl).2)
      go_wp2_with (at_builtin; go_must (refine wpList_app w4 rfl _ _ _ rfl w3.heap.size 9 _ 1 16 Tryz.underlying24 info_str rfl (by omega) S4.out.hr [.string ⟨#[49, 50, 51]⟩] rfl rfl rfl (one_mem rfl) (by omega) (by omega) hBw ?_); intro v5 w5 ho5 hb5 hg5 _; (obtain ⟨A9, q9, e9, _⟩ := sl_of_own ho5); subst e9; (have S5 := Lib.hid (S4.out.app ho5 hb5 hg5)); (obtain ⟨c5, d5⟩ : w5.cell? ⟨G, 0, none⟩ = some (.slice A4 hs.length q4) ∧ w5.frozen? ⟨G, 0, none⟩ = false := (by have kb := S4.out.box.kept hg5 (own_kindsX S4.out.box S4.out.hr (by decide)); exact ⟨(kb.cellAt 0 (by omega)).trans rfl, kb.frozenAt 0⟩)))
      clear x0 x1 y0 y1 fg
      refine abs_world (F := fun W => ∃ a1 n1 k1 a2 n2 k2 h1 l1, SQ w w3.heap.size F1 F2 X G (.slice A2 hs.length q2) (.slice A3 ls.length q3) hs ls (.slice a1 n1 k1) (.slice a2 n2 k2) h1 l1 W) ⟨_, _, _, _, _, _, _, _, S5.out⟩ ?_
      rintro w6 ⟨a1, b1, k1, a2, b2, k2, h1, l1, hS6⟩
      have S6 := Lib.hid hS6
      clear hS6 S5
      obtain ⟨⟨x0, x1⟩, ⟨y0, y1⟩, ⟨r0, r1⟩, ⟨s0, s1⟩, f1, f2, fg, n1, n2, n3, n4, n5, n6⟩ := S6.out.cells
      have m1 := n1.symm
      have m2 := n2.symm
      have m3 := n3.symm
      have m4 := n4.symm
      have m5 := n5.symm
      have m6 := n6.symm
      have o0 := f1 0
      have o1 := f1 1
      have o2 := f2 0
      have o3 := f2 1
      go_region
      go_wp2_with fail
      obtain ⟨W', eW, ⟨e0, e1, e2, e3⟩, q1, q2', q3', q4', hb'⟩ := S6.out.fin (.slice A2 hs.length q2) (.slice A3 ls.length q3) (.slice a1 b1 k1) (.slice a2 b2 k2)
      rw [← eW]
      refine bodyPost_ret (v := .tuple #[.agg #[.slice A2 hs.length q2, .slice A3 ls.length q3], .agg #[.slice a1 b1 k1, .slice a2 b2 k2]]) (by simp [results, go_sem, e0, e1, e2, e3]) rfl ?_
      exact ⟨_, _, _, _, hs, h1, ls, l1, rfl, q1.to (Below.drew (Below.refl _ _)), q2'.to (Below.drew (Below.refl _ _)), q3'.to (Below.drew (Below.refl _ _)), q4'.to (Below.drew (Below.refl _ _)), bw_dr hb' _⟩
    · have hc0 : (pz == 0) = false := by simpa using hp0
      by_cases hp1 : pz = 1
      · subst hp1
        obtain ⟨⟨x0, x1⟩, ⟨y0, y1⟩, _, _, _, _, fg, _⟩ := S4.out.cells
        by_cases h0 : 0 < ls.length
        · have gl : (0 : Int) < (ls.length : Int) := by omega
          obtain ⟨g5, hg5, _, _⟩ := own_addr S4.out.lr h0
          subst hg5
          have c5 : w4.cell? ⟨g5, 2, none⟩ = some (.int .i64 ls[0].at') := by
            rw [S4.out.lr.cellAt 2 (by omega)]
            exact flat_get (C := lnC) (sz := 3) (i := 0) (j := 2) (fun _ _ => rfl) (List.getElem?_eq_getElem h0) (by omega)
          have d5 := S4.out.lr.frozenAt 2
          have S5 := Lib.hid (S4.out.put h0 (wrap64 (ls[0].at' + 1)))
          go_upto_region 10 with fail
          clear x0 x1 y0 y1 fg
          refine abs_world (F := fun W => ∃ a1 n1 k1 a2 n2 k2 h1 l1, SQ w w3.heap.size F1 F2 X G (.slice A2 hs.length q2) (.slice A3 ls.length q3) hs ls (.slice a1 n1 k1) (.slice a2 n2 k2) h1 l1 W) ⟨_, _, _, _, _, _, _, _, S5.out⟩ ?_
          rintro w6 ⟨a1, b1, k1, a2, b2, k2, h1, l1, hS6⟩
          have S6 := Lib.hid hS6
          clear hS6 S5
          obtain ⟨⟨x0, x1⟩, ⟨y0, y1⟩, ⟨r0, r1⟩, ⟨s0, s1⟩, f1, f2, fg, n1, n2, n3, n4, n5, n6⟩ := S6.out.cells
          have m1 := n1.symm
          have m2 := n2.symm
          have m3 := n3.symm
          have m4 := n4.symm
          have m5 := n5.symm
          have m6 := n6.symm
          have o0 := f1 0
          have o1 := f1 1
          have o2 := f2 0
          have o3 := f2 1
          go_region
          go_wp2_with fail
          obtain ⟨W', eW, ⟨e0, e1, e2, e3⟩, q1, q2', q3', q4', hb'⟩ := S6.out.fin (.slice A2 hs.length q2) (.slice A3 ls.length q3) (.slice a1 b1 k1) (.slice a2 b2 k2)
          rw [← eW]
          refine bodyPost_ret (v := .tuple #[.agg #[.slice A2 hs.length q2, .slice A3 ls.length q3], .agg #[.slice a1 b1 k1, .slice a2 b2 k2]]) (by simp [results, go_sem, e0, e1, e2, e3]) rfl ?_
          exact ⟨_, _, _, _, hs, h1, ls, l1, rfl, q1.to (Below.drew (Below.refl _ _)), q2'.to (Below.drew (Below.refl _ _)), q3'.to (Below.drew (Below.refl _ _)), q4'.to (Below.drew (Below.refl _ _)), bw_dr hb' _⟩
        · have gl : ¬ (0 : Int) < (ls.length : Int) := by omega
          go_upto_region 10 with fail
          clear x0 x1 y0 y1 fg
          refine abs_world (F := fun W => ∃ a1 n1 k1 a2 n2 k2 h1 l1, SQ w w3.heap.size F1 F2 X G (.slice A2 hs.length q2) (.slice A3 ls.length q3) hs ls (.slice a1 n1 k1) (.slice a2 n2 k2) h1 l1 W) ⟨_, _, _, _, _, _, _, _, S4.out⟩ ?_
          rintro w6 ⟨a1, b1, k1, a2, b2, k2, h1, l1, hS6⟩
          have S6 := Lib.hid hS6
          clear hS6 S4
          obtain ⟨⟨x0, x1⟩, ⟨y0, y1⟩, ⟨r0, r1⟩, ⟨s0, s1⟩, f1, f2, fg, n1, n2, n3, n4, n5, n6⟩ := S6.out.cells
          have m1 := n1.symm
          have m2 := n2.symm
          have m3 := n3.symm
          have m4 := n4.symm
          have m5 := n5.symm
          have m6 := n6.symm
          have o0 := f1 0
          have o1 := f1 1
          have o2 := f2 0
          have o3 := f2 1
          go_region
          go_wp2_with fail
          obtain ⟨W', eW, ⟨e0, e1, e2, e3⟩, q1, q2', q3', q4', hb'⟩ := S6.out.fin (.slice A2 hs.length q2) (.slice A3 ls.length q3) (.slice a1 b1 k1) (.slice a2 b2 k2)
          rw [← eW]
          refine bodyPost_ret (v := .tuple #[.agg #[.slice A2 hs.length q2, .slice A3 ls.length q3], .agg #[.slice a1 b1 k1, .slice a2 b2 k2]]) (by simp [results, go_sem, e0, e1, e2, e3]) rfl ?_
          exact ⟨_, _, _, _, hs, h1, ls, l1, rfl, q1.to (Below.drew (Below.refl _ _)), q2'.to (Below.drew (Below.refl _ _)), q3'.to (Below.drew (Below.refl _ _)), q4'.to (Below.drew (Below.refl _ _)), bw_dr hb' _⟩
      · have hc1 : (pz == 1) = false := by simpa using hp1
        go_upto_region 10 with fail
        refine abs_world (F := fun W => ∃ a1 n1 k1 a2 n2 k2 h1 l1, SQ w w3.heap.size F1 F2 X G (.slice A2 hs.length q2) (.slice A3 ls.length q3) hs ls (.slice a1 n1 k1) (.slice a2 n2 k2) h1 l1 W) ⟨_, _, _, _, _, _, _, _, S4.out⟩ ?_
        rintro w6 ⟨a1, b1, k1, a2, b2, k2, h1, l1, hS6⟩
        have S6 := Lib.hid hS6
        clear hS6 S4
        obtain ⟨⟨x0, x1⟩, ⟨y0, y1⟩, ⟨r0, r1⟩, ⟨s0, s1⟩, f1, f2, fg, n1, n2, n3, n4, n5, n6⟩ := S6.out.cells
        have m1 := n1.symm
        have m2 := n2.symm
        have m3 := n3.symm
        have m4 := n4.symm
        have m5 := n5.symm
        have m6 := n6.symm
        have o0 := f1 0
        have o1 := f1 1
        have o2 := f2 0
        have o3 := f2 1
        go_region
        go_wp2_with fail
        obtain ⟨W', eW, ⟨e0, e1, e2, e3⟩, q1, q2', q3', q4', hb'⟩ := S6.out.fin (.slice A2 hs.length q2) (.slice A3 ls.length q3) (.slice a1 b1 k1) (.slice a2 b2 k2)
        rw [← eW]
        refine bodyPost_ret (v := .tuple #[.agg #[.slice A2 hs.length q2, .slice A3 ls.length q3], .agg #[.slice a1 b1 k1, .slice a2 b2 k2]]) (by simp [results, go_sem, e0, e1, e2, e3]) rfl ?_
        exact ⟨_, _, _, _, hs, h1, ls, l1, rfl, q1.to (Below.drew (Below.refl _ _)), q2'.to (Below.drew (Below.refl _ _)), q3'.to (Below.drew (Below.refl _ _)), q4'.to (Below.drew (Below.refl _ _)), bw_dr hb' _⟩
end Go.Proofs.YtajffjkmmenaoaaGreat
