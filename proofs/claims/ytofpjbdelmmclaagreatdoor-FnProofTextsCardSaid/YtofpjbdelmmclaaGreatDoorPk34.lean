/- Contracts: a method, its calls and bobs: are they good; impl.goodBlocks, spec.l17Bobs. (Printed by a program: tools/mkII.py.) -/
import Derived.Test.YtofpjbdelmmclaaGreatDoorPk33
namespace Go.Proofs.YtofpjbdelmmclaaGreatDoor
open Go Go.RowKit
set_option linter.unusedVariables false
set_option linter.unusedSimpArgs false

/-- Bobs that are not good for a method and its calls. -/
def BadBob (m : Mt) (k : Cl) (bobs : List ByteArray) : Prop := BadBlk m k ∨ ∃ n T P B B' Q, BK m k n T P B B' Q ∧ (cloB n [P, B] T).length ≤ 130 ∧ ¬ BG (sortB (cloB n [P, B] T)) bobs Q
theorem bob_cases (m : Mt) (k : Cl) (bobs : List ByteArray) : BadBob m k bobs ∨ ∃ n T P B B' Q, BK m k n T P B B' Q ∧ (cloB n [P, B] T).length ≤ 130 ∧ BG (sortB (cloB n [P, B] T)) bobs Q := by
  rcases blk_cases m k with h | ⟨n, T, P, B, B', Q, hK, hF⟩
  · exact .inl (.inl h)
  · by_cases hb : BG (sortB (cloB n [P, B] T)) bobs Q
    · exact .inr ⟨n, T, P, B, B', Q, hK, hF, hb⟩
    · exact .inl (.inr ⟨n, T, P, B, B', Q, hK, hF, hb⟩)
theorem wpOp_inG {P : Program} {ops : Array Oper} {Q : Exit → Act → World → Prop} {i : Nat} {o : Oper} {K : Act → World → Prop} {a : Act} {w : World} (ho : ops[i]? = some o) (hw : Region.wanted o (yielded ops a.tmps) = true) (h : o.wp P a w K Q) : wpOp P ops Q i K a w := by
  unfold wpOp
  simp only [ho, hw, if_true]
  exact .inl h
def oldD (b j : Nat) (W : World) : Value := (W.cell? ⟨b, j, none⟩).getD (.bool false)
/-- A region's state: the box x in block G, the result's block R, rows of the group. -/
structure StG (w : World) (T : TypeId) (G R B0 : Nat) (a b c d gv : Value) (l : List ByteArray) (W : World) : Prop where
  hb : Below w.heap.size w W
  bx : W.ownsRow B0 T 4 (.slice (some ⟨G, 0, none⟩) 1 1) 1 [a, b, c, d]
  rr : ∃ xs, W.ownsRow R T 4 (.slice (some ⟨R, 0, none⟩) 1 1) 1 xs
  ow : W.ownsRow B0 9 1 gv l.length (l.map Value.string)
  lo : w.heap.size ≤ R ∧ R < B0
theorem StG.to {w W W' : World} {T : TypeId} {G R B0 : Nat} {a b c d gv : Value} {l : List ByteArray} (h : StG w T G R B0 a b c d gv l W) (hb : Below W.heap.size W W') : StG w T G R B0 a b c d gv l W' :=
  ⟨bw_to h.hb hb, own_to h.bx hb, let ⟨xs, hx⟩ := h.rr; ⟨xs, own_to hx hb⟩, own_to h.ow hb, h.lo⟩
theorem StG.drew {w W : World} {T : TypeId} {G R B0 : Nat} {a b c d gv : Value} {l : List ByteArray} (h : StG w T G R B0 a b c d gv l W) : StG w T G R B0 a b c d gv l W.drew := h.to (Below.drew (Below.refl _ _))
theorem StG.set1 {w W : World} {T : TypeId} {G R B0 : Nat} {a b c d gv : Value} {l : List ByteArray} (h : StG w T G R B0 a b c d gv l W) (j : Nat) (u : Value) : StG w T G R B0 a b c d gv l (W.setCell ⟨R, j, none⟩ u) :=
  ⟨grow_set h.hb h.lo.1 _, ownsRow_setCell_other h.bx (by have h1 : B0 ≤ G := (h.bx.lt _ rfl).1; have := h.lo.2; simp [Value.ownBlock]; omega) _, let ⟨xs, hx⟩ := h.rr; ⟨_, own_set hx j u⟩, own_past h.ow h.lo.2 j u, h.lo⟩
theorem StG.set4 {w W : World} {T : TypeId} {G R B0 : Nat} {a b c d gv : Value} {l : List ByteArray} (h : StG w T G R B0 a b c d gv l W) {u0 u1 u2 u3 : Value} : StG w T G R B0 a b c d gv l ((((W.setCell ⟨R, 0, none⟩ u0).setCell ⟨R, 1, none⟩ u1).setCell ⟨R, 2, none⟩ u2).setCell ⟨R, 3, none⟩ u3) :=
  (((h.set1 0 u0).set1 1 u1).set1 2 u2).set1 3 u3
theorem StG.rlt {w W : World} {T : TypeId} {G R B0 : Nat} {a b c d gv : Value} {l : List ByteArray} (h : StG w T G R B0 a b c d gv l W) : R < W.heap.size := by
  obtain ⟨xs, hx⟩ := h.rr
  exact (hx.lt _ rfl).2
theorem StG.facts {w W : World} {T : TypeId} {G R B0 : Nat} {a b c d gv : Value} {l : List ByteArray} (h : StG w T G R B0 a b c d gv l W) :
    (W.cell? ⟨G, 0, none⟩ = some a ∧ W.cell? ⟨G, 1, none⟩ = some b ∧ W.cell? ⟨G, 2, none⟩ = some c ∧ W.cell? ⟨G, 3, none⟩ = some d) ∧
    (W.cell? ⟨R, 0, none⟩ = some (oldD R 0 W) ∧ W.cell? ⟨R, 1, none⟩ = some (oldD R 1 W) ∧ W.cell? ⟨R, 2, none⟩ = some (oldD R 2 W) ∧ W.cell? ⟨R, 3, none⟩ = some (oldD R 3 W)) ∧ (∀ j, W.frozen? ⟨R, j, none⟩ = false) ∧ R ≠ G := by
  obtain ⟨xs, hx⟩ := h.rr
  have hl : xs.length = 4 := hx.1
  refine ⟨⟨(h.bx.cellAt 0 (by omega)).trans rfl, (h.bx.cellAt 1 (by omega)).trans rfl, (h.bx.cellAt 2 (by omega)).trans rfl, (h.bx.cellAt 3 (by omega)).trans rfl⟩, ?_, fun j => hx.frozenAt j, by have h1 : B0 ≤ G := (h.bx.lt _ rfl).1; have := h.lo.2; omega⟩
  refine ⟨?_, ?_, ?_, ?_⟩
  · unfold oldD; rw [hx.cellAt 0 (by omega)]; simp [hl]
  · unfold oldD; rw [hx.cellAt 1 (by omega)]; simp [hl]
  · unfold oldD; rw [hx.cellAt 2 (by omega)]; simp [hl]
  · unfold oldD; rw [hx.cellAt 3 (by omega)]; simp [hl]
/-- A block holds four cells. -/
def Out4 (R : Nat) (a b c d : Value) (W : World) : Prop := W.cell? ⟨R, 0, none⟩ = some a ∧ W.cell? ⟨R, 1, none⟩ = some b ∧ W.cell? ⟨R, 2, none⟩ = some c ∧ W.cell? ⟨R, 3, none⟩ = some d
theorem heap_of_setG {W : World} {g j : Nat} {u : Value} {cs : Array Value} {T : TypeId} {fr : Nat × Nat} (h : (W.setCell ⟨g, j, none⟩ u).heap[g]? = some (.cells cs T fr)) : ∃ cs0, W.heap[g]? = some (.cells cs0 T fr) ∧ cs = cs0.setIfInBounds j u := by
  simp only [World.setCell, Array.getElem?_modify, if_true] at h
  cases hg : W.heap[g]? with
  | none => rw [hg] at h; cases h
  | some o =>
    rw [hg] at h
    cases o with
    | cells c e f => simp at h; obtain ⟨rfl, rfl, rfl⟩ := h; exact ⟨c, rfl, rfl⟩
    | _ => simp at h
theorem out4_of {w W : World} {T : TypeId} {G R B0 : Nat} {a b c d gv : Value} {l : List ByteArray} (h : StG w T G R B0 a b c d gv l W) (u0 u1 u2 u3 : Value) :
    StG w T G R B0 a b c d gv l ((((W.setCell ⟨R, 0, none⟩ u0).setCell ⟨R, 1, none⟩ u1).setCell ⟨R, 2, none⟩ u2).setCell ⟨R, 3, none⟩ u3) ∧ Out4 R u0 u1 u2 u3 ((((W.setCell ⟨R, 0, none⟩ u0).setCell ⟨R, 1, none⟩ u1).setCell ⟨R, 2, none⟩ u2).setCell ⟨R, 3, none⟩ u3) := by
  refine ⟨h.set4, ?_⟩
  obtain ⟨xs, hx⟩ := h.rr
  have h4 := own_set (own_set (own_set (own_set hx 0 u0) 1 u1) 2 u2) 3 u3
  have hl : xs.length = 4 := hx.1
  refine ⟨?_, ?_, ?_, ?_⟩
  · rw [h4.cellAt 0 (by omega)]; simp [hl]
  · rw [h4.cellAt 1 (by omega)]; simp [hl]
  · rw [h4.cellAt 2 (by omega)]; simp [hl]
  · rw [h4.cellAt 3 (by omega)]; simp [hl]
theorem Out4.to {R : Nat} {a b c d : Value} {W W' : World} (h : Out4 R a b c d W) (hR : R < W.heap.size) (hb : Below W.heap.size W W') : Out4 R a b c d W' := by
  obtain ⟨h0, h1, h2, h3⟩ := h
  refine ⟨?_, ?_, ?_, ?_⟩
  · rw [hb.cell hR]; exact h0
  · rw [hb.cell hR]; exact h1
  · rw [hb.cell hR]; exact h2
  · rw [hb.cell hR]; exact h3
set_option maxRecDepth 100000 in
set_option maxHeartbeats 4000000 in
theorem l17Bobs_false (m : Mt) (v : Value) (k : Cl) (Vb : Value) (w : World) (hb : BadBlk m k) (h : MethAt w m v) (hs : MtSmall m) (hk : ClSmall k) : Calls Tryz.prog 168 #[m.v v, k.v, Vb] w fun e w' =>
    ∃ (a b d : ByteArray) (A : Option Addr) (l q : Nat), e = .returned (.tuple #[.agg #[.string a, .string b, .string d, .slice A l q], .bool false]) ∧ Below w.heap.size w w' := by
  have Hnb := Lib.hid (fun W (hW : Below w.heap.size w W) => l17Of_bad m v k W hb (h.to hW) hs hk)
  obtain ⟨A, c, hv⟩ := h.form
  subst hv
  unfold Mt.v Cl.v at *
  clear h hb
  go_enter Tryz.func168, Tryz.ntmps168
  go_wp2_with fail
  refine box3s (C := fun W => Calls _ _ _ W _) ?_
  intro wb hw hwsz k1 k2 k3 hB0
  have Hr := Lib.hid (own_to (own_of_heap (n := 1) (size := 4) k3 (Nat.le_refl _) (by unfold maxLen; omega) rfl) (Below.refl _ _))
  have Hsz := Lib.hid hwsz
  clear k1 k2 k3 hwsz
  refine (Hnb.out _ hw).mono ?_; rintro e w1 ⟨a, b, d, A1, l1, q1, rfl, hb1⟩
  have hR1 := own_to Hr.out hb1
  have hB1 := bw_to hw hb1
  have hz1 : w.heap.size + 2 < w1.heap.size := by have := hb1.size; have := Hsz.out; omega
  have hst : StG w 146 w1.heap.size (w.heap.size + 2) (w.heap.size + 3) (.string a) (.string b) (.string d) (.slice A1 l1 q1) (.slice none 0 0) [] (w1.alloc (.cells #[.string a, .string b, .string d, .slice A1 l1 q1] 146)) :=
    ⟨bw_al hB1 _, own_base (own_of_heap (heap_new _ _) (Nat.le_refl _) (by unfold maxLen; omega) rfl) (by omega), ⟨_, own_to hR1 (bw_al (Below.refl _ _) _)⟩, World.ownsRow_nil _ _ _ _, by omega⟩
  go_wp2_with fail
  obtain ⟨w2, hw2⟩ : ∃ W, W = w1.alloc (.cells #[.string a, .string b, .string d, .slice A1 l1 q1] 146) := ⟨_, rfl⟩
  obtain ⟨G, hG⟩ : ∃ G, G = w1.heap.size := ⟨_, rfl⟩
  rw [← hw2, ← hG] at hst
  try rw [← hw2]
  try rw [← hG]
  obtain ⟨R, hR⟩ : ∃ R, R = w.heap.size + 2 := ⟨_, rfl⟩
  rw [← hR] at hst ⊢
  clear hw2 hG hB1 hb1 hz1 hR1 hw hB0 hR
  refine wp_region_held_drew (S := fun W => StG w 146 G R (w.heap.size + 3) (.string a) (.string b) (.string d) (.slice A1 l1 q1) (.slice none 0 0) [] W) (by kernel_rfl) hst.drew (fun hHeld => ?_)
  have SX := fun W (h : StG w 146 G R (w.heap.size + 3) (.string a) (.string b) (.string d) (.slice A1 l1 q1) (.slice none 0 0) [] W) => h.facts
  refine wpAnyH_take (i := 0) (v := .agg #[.string a, .string b, .string d, .slice A1 l1 q1]) rfl (by kernel_rfl) (by kernel_rfl) (by kernel_rfl) (fun _ _ _ h => h) (Or.inl ⟨by rfl, ?_⟩) hHeld ?_
  · intro W hS
    obtain ⟨⟨x0, x1, x2, x3⟩, _⟩ := SX W hS
    go_simp
  try simp only [Act.put, List.setIfInBounds_toArray, List.set_cons_zero, List.set_cons_succ]
  refine wpAnyH_take (i := 1) (v := .bool false) rfl (by kernel_rfl) (by kernel_rfl) (by kernel_rfl) (fun _ _ _ h => h) (Or.inl ⟨by rfl, fun _ _ => by rfl⟩) hHeld ?_
  try simp only [Act.put, List.setIfInBounds_toArray, List.set_cons_zero, List.set_cons_succ]
  refine wpAnyH_take (i := 2) (v := .bool false) rfl (by kernel_rfl) (by kernel_rfl) (by kernel_rfl) (fun _ _ _ h => h) (Or.inl ⟨by rfl, fun _ _ => by rfl⟩) hHeld ?_
  try simp only [Act.put, List.setIfInBounds_toArray, List.set_cons_zero, List.set_cons_succ]
  refine wpAnyH_take (i := 3) (v := undef) rfl (by kernel_rfl) (by kernel_rfl) (by kernel_rfl) (fun _ _ _ h => h) (Or.inr ⟨by kernel_rfl, rfl⟩) hHeld ?_
  try simp only [Act.put, List.setIfInBounds_toArray, List.set_cons_zero, List.set_cons_succ]
  refine wpAnyH_take (i := 4) (v := undef) rfl (by kernel_rfl) (by kernel_rfl) (by kernel_rfl) (fun _ _ _ h => h) (Or.inr ⟨by kernel_rfl, rfl⟩) hHeld ?_
  try simp only [Act.put, List.setIfInBounds_toArray, List.set_cons_zero, List.set_cons_succ]
  refine wpAnyH_take (i := 5) (v := undef) rfl (by kernel_rfl) (by kernel_rfl) (by kernel_rfl) (fun _ _ _ h => h) (Or.inr ⟨by kernel_rfl, rfl⟩) hHeld ?_
  try simp only [Act.put, List.setIfInBounds_toArray, List.set_cons_zero, List.set_cons_succ]
  refine wpAnyH_take (i := 6) (v := .bool false) rfl (by kernel_rfl) (by kernel_rfl) (by kernel_rfl) (fun _ _ _ h => h) (Or.inl ⟨by rfl, ?_⟩) hHeld ?_
  · intro W hS; go_simp
  try simp only [Act.put, List.setIfInBounds_toArray, List.set_cons_zero, List.set_cons_succ]
  refine wpAnyH_take (i := 7) (v := .bool false) rfl (by kernel_rfl) (by kernel_rfl) (by kernel_rfl) (fun _ _ _ h => h) (Or.inl ⟨by rfl, ?_⟩) hHeld ?_
  · intro W hS; go_simp
  try simp only [Act.put, List.setIfInBounds_toArray, List.set_cons_zero, List.set_cons_succ]
  refine wpAnyH_take (i := 8) (v := undef) rfl (by kernel_rfl) (by kernel_rfl) (by kernel_rfl) (fun _ _ _ h => h) (Or.inr ⟨by kernel_rfl, rfl⟩) hHeld ?_
  try simp only [Act.put, List.setIfInBounds_toArray, List.set_cons_zero, List.set_cons_succ]
  refine wpAnyH_take (i := 9) (v := undef) rfl (by kernel_rfl) (by kernel_rfl) (by kernel_rfl) (fun _ _ _ h => h) (Or.inr ⟨by kernel_rfl, rfl⟩) hHeld ?_
  try simp only [Act.put, List.setIfInBounds_toArray, List.set_cons_zero, List.set_cons_succ]
  refine wpAnyH_take (i := 10) (v := undef) rfl (by kernel_rfl) (by kernel_rfl) (by kernel_rfl) (fun _ _ _ h => h) (Or.inr ⟨by kernel_rfl, rfl⟩) hHeld ?_
  try simp only [Act.put, List.setIfInBounds_toArray, List.set_cons_zero, List.set_cons_succ]
  refine wpAnyH_take (i := 11) (v := .bool false) rfl (by kernel_rfl) (by kernel_rfl) (by kernel_rfl) (fun _ _ _ h => h) (Or.inl ⟨by rfl, ?_⟩) hHeld ?_
  · intro W hS; go_simp
  try simp only [Act.put, List.setIfInBounds_toArray, List.set_cons_zero, List.set_cons_succ]
  have hSX := SX _ hHeld
  have z0 := hSX.2.1.1
  have z1 := hSX.2.1.2.1
  have z2 := hSX.2.1.2.2.1
  have z3 := hSX.2.1.2.2.2
  have zf := hSX.2.2.1
  have zn := hSX.2.2.2
  clear hSX
  refine wpAnyH_all (rs := [12]) (by kernel_rfl) (by simp) (List.forall_mem_singleton.2 ?_)
  refine wpOp_inG rfl (by kernel_rfl) ?_
  unfold Oper.wp
  go_simp
  have hSt := StG.set4 hHeld (u0 := (.string a)) (u1 := (.string b)) (u2 := (.string d)) (u3 := (.slice A1 l1 q1))
  refine ⟨hSt, ?_⟩
  clear z0 z1 z2 z3 zf zn
  try simp only [Act.put, List.setIfInBounds_toArray, List.set_cons_zero, List.set_cons_succ]
  refine wpAnyH_take (i := 13) (v := .bool false) rfl (by kernel_rfl) (by kernel_rfl) (by kernel_rfl) (fun _ _ _ h => h) (Or.inl ⟨by rfl, ?_⟩) hSt ?_
  · intro W hS; go_simp
  try simp only [Act.put, List.setIfInBounds_toArray, List.set_cons_zero, List.set_cons_succ]
  refine wpAnyH_done (by kernel_rfl) ?_ _
  try simp only [List.getElem_toArray, List.getElem_cons_succ, List.getElem_cons_zero, Act.put, List.setIfInBounds_toArray, List.set_cons_zero, List.set_cons_succ]
  refine abs_world (F := fun W => StG w 146 G R (w.heap.size + 3) (.string a) (.string b) (.string d) (.slice A1 l1 q1) (.slice none 0 0) [] W ∧ Out4 R (.string a) (.string b) (.string d) (.slice A1 l1 q1) W) (out4_of hHeld _ _ _ _) ?_
  intro W3 hS
  obtain ⟨hS1, y0, y1, y2, y3⟩ := hS
  clear SX hst hHeld hSt
  go_wp2_with fail
  exact bodyPost_ret (v := .tuple #[.agg #[.string a, .string b, .string d, .slice A1 l1 q1], .bool false]) (by simp [results, go_sem, y0, y1, y2, y3]) rfl ⟨a, b, d, A1, l1, q1, rfl, hS1.hb⟩
set_option maxRecDepth 100000 in
set_option maxHeartbeats 8000000 in
theorem l17Bobs_gfalse (m : Mt) (v : Value) (k : Cl) (Vb : Value) (bobs Gr : List ByteArray) (a b d : ByteArray) (g2 : Bool) (w : World) (h : MethAt w m v) (hV : Strs w Vb bobs)
    (hnb : ∀ W, Below w.heap.size w W → Calls Tryz.prog 138 #[m.v v, k.v] W fun e w' => ∃ A q, e = .returned (.tuple #[.agg #[.string a, .string b, .string d, .slice A Gr.length q], .bool true]) ∧ w'.ownsRow W.heap.size 9 1 (.slice A Gr.length q) Gr.length (Gr.map Value.string) ∧ Below W.heap.size W w')
    (h1 : ∀ (A : Option Addr) (q : Nat) W, Strs W (.slice A Gr.length q) Gr → Strs W Vb bobs → Calls Tryz.prog 199 #[.agg #[.string a, .string b, .string d, .slice A Gr.length q], Vb] W fun e w' => e = .returned (.bool false) ∧ Below W.heap.size W w')
    : Calls Tryz.prog 168 #[m.v v, k.v, Vb] w fun e w' =>
    ∃ A q, e = .returned (.tuple #[.agg #[.string a, .string b, .string d, .slice A Gr.length q], .bool false]) ∧ w'.ownsRow w.heap.size 9 1 (.slice A Gr.length q) Gr.length (Gr.map Value.string) ∧ Below w.heap.size w w' := by
  have Hnb := Lib.hid hnb
  have HV := Lib.hid hV
  obtain ⟨Ab, cb, rfl⟩ : ∃ A c, Vb = .slice A bobs.length c := by obtain ⟨A, c, e, _⟩ := hV; exact ⟨A, c, e⟩
  obtain ⟨A, c, hv⟩ := h.form
  subst hv
  unfold Mt.v Cl.v at *
  clear h hnb hV
  go_enter Tryz.func168, Tryz.ntmps168
  go_wp2_with fail
  refine box3s (C := fun W => Calls _ _ _ W _) ?_
  intro wb hw hwsz k1 k2 k3 hB0
  have Hr := Lib.hid (own_to (own_of_heap (n := 1) (size := 4) k3 (Nat.le_refl _) (by unfold maxLen; omega) rfl) (Below.refl _ _))
  have Hsz := Lib.hid hwsz
  clear k1 k2 k3 hwsz
  refine (Hnb.out _ hw).mono ?_; rintro e w1 ⟨A1, q1, rfl, hown1, hb1⟩
  have hR1 := own_to Hr.out hb1
  have hB1 := bw_to hw hb1
  have hz1 : w.heap.size + 2 < w1.heap.size := by have := hb1.size; have := Hsz.out; omega
  have hst : StG w 146 w1.heap.size (w.heap.size + 2) (w.heap.size + 3) (.string a) (.string b) (.string d) (.slice A1 Gr.length q1) (.slice A1 Gr.length q1) Gr (w1.alloc (.cells #[.string a, .string b, .string d, .slice A1 Gr.length q1] 146)) :=
    ⟨bw_al hB1 _, own_base (own_of_heap (heap_new _ _) (Nat.le_refl _) (by unfold maxLen; omega) rfl) (by omega), ⟨_, own_to hR1 (bw_al (Below.refl _ _) _)⟩, own_base (own_to hown1 (bw_al (Below.refl _ _) _)) (by rw [Hsz.out]; exact Nat.le_refl _), by omega⟩
  have H1 := Lib.hid (h1 A1 q1)
  clear h1 hown1
  go_wp2_with fail
  obtain ⟨w2, hw2⟩ : ∃ W, W = w1.alloc (.cells #[.string a, .string b, .string d, .slice A1 Gr.length q1] 146) := ⟨_, rfl⟩
  obtain ⟨G, hG⟩ : ∃ G, G = w1.heap.size := ⟨_, rfl⟩
  rw [← hw2, ← hG] at hst
  try rw [← hw2]
  try rw [← hG]
  obtain ⟨R, hR⟩ : ∃ R, R = w.heap.size + 2 := ⟨_, rfl⟩
  rw [← hR] at hst ⊢
  clear hw2 hG hB1 hb1 hz1 hR1 hw hB0 hR
  refine wp_region_held_drew (S := fun W => StG w 146 G R (w.heap.size + 3) (.string a) (.string b) (.string d) (.slice A1 Gr.length q1) (.slice A1 Gr.length q1) Gr W) (by kernel_rfl) hst.drew (fun hHeld => ?_)
  have SX := fun W (h : StG w 146 G R (w.heap.size + 3) (.string a) (.string b) (.string d) (.slice A1 Gr.length q1) (.slice A1 Gr.length q1) Gr W) => h.facts
  refine wpAnyH_take (i := 0) (v := .agg #[.string a, .string b, .string d, .slice A1 Gr.length q1]) rfl (by kernel_rfl) (by kernel_rfl) (by kernel_rfl) (fun _ _ _ h => h) (Or.inl ⟨by kernel_rfl, ?_⟩) hHeld ?_
  · intro W hS
    obtain ⟨⟨x0, x1, x2, x3⟩, _⟩ := SX W hS
    go_simp
  try simp only [Act.put, List.setIfInBounds_toArray, List.set_cons_zero, List.set_cons_succ]
  refine wpAnyH_take (i := 1) (v := .bool true) rfl (by kernel_rfl) (by kernel_rfl) (by kernel_rfl) (fun _ _ _ h => h) (Or.inl ⟨by kernel_rfl, ?_⟩) hHeld ?_
  · intro W hS; go_simp
  try simp only [Act.put, List.setIfInBounds_toArray, List.set_cons_zero, List.set_cons_succ]
  refine wpAnyH_take (i := 2) (v := .bool true) rfl (by kernel_rfl) (by kernel_rfl) (by kernel_rfl) (fun _ _ _ h => h) (Or.inl ⟨by kernel_rfl, ?_⟩) hHeld ?_
  · intro W hS; go_simp
  try simp only [Act.put, List.setIfInBounds_toArray, List.set_cons_zero, List.set_cons_succ]
  refine wpAnyH_take (i := 3) (v := .agg #[.string a, .string b, .string d, .slice A1 Gr.length q1]) rfl (by kernel_rfl) (by kernel_rfl) (by kernel_rfl) (fun _ _ _ h => h) (Or.inl ⟨by kernel_rfl, ?_⟩) hHeld ?_
  · intro W hS
    obtain ⟨⟨x0, x1, x2, x3⟩, _⟩ := SX W hS
    go_simp
  try simp only [Act.put, List.setIfInBounds_toArray, List.set_cons_zero, List.set_cons_succ]
  refine wpAnyH_take (i := 4) (v := (.slice Ab bobs.length cb)) rfl (by kernel_rfl) (by kernel_rfl) (by kernel_rfl) (fun _ _ _ h => h) (Or.inl ⟨by kernel_rfl, ?_⟩) hHeld ?_
  · intro W hS; go_simp
  try simp only [Act.put, List.setIfInBounds_toArray, List.set_cons_zero, List.set_cons_succ]
  refine wpAnyH_all (rs := [5]) (by kernel_rfl) (by simp) (List.forall_mem_singleton.2 ?_)
  refine wpOp_inG rfl (by kernel_rfl) ?_
  unfold Oper.wp
  go_simp
  refine (H1.out _ (strs_of_own hHeld.ow) (HV.out.to hHeld.hb)).mono ?_; rintro e' w' ⟨rfl, hb'⟩
  have hS1 := StG.to hHeld hb'
  refine ⟨hS1, ?_⟩
  clear hb'
  try simp only [Act.put, List.setIfInBounds_toArray, List.set_cons_zero, List.set_cons_succ]
  refine wpAnyH_take (i := 6) (v := .bool false) rfl (by kernel_rfl) (by kernel_rfl) (by kernel_rfl) (fun _ _ _ h => h) (Or.inl ⟨by kernel_rfl, ?_⟩) hS1 ?_
  · intro W hS; go_simp
  try simp only [Act.put, List.setIfInBounds_toArray, List.set_cons_zero, List.set_cons_succ]
  refine wpAnyH_take (i := 7) (v := .bool false) rfl (by kernel_rfl) (by kernel_rfl) (by kernel_rfl) (fun _ _ _ h => h) (Or.inl ⟨by kernel_rfl, ?_⟩) hS1 ?_
  · intro W hS; go_simp
  try simp only [Act.put, List.setIfInBounds_toArray, List.set_cons_zero, List.set_cons_succ]
  refine wpAnyH_take (i := 8) (v := undef) rfl (by kernel_rfl) (by kernel_rfl) (by kernel_rfl) (fun _ _ _ h => h) (Or.inr ⟨by kernel_rfl, rfl⟩) hS1 ?_
  try simp only [Act.put, List.setIfInBounds_toArray, List.set_cons_zero, List.set_cons_succ]
  refine wpAnyH_take (i := 9) (v := undef) rfl (by kernel_rfl) (by kernel_rfl) (by kernel_rfl) (fun _ _ _ h => h) (Or.inr ⟨by kernel_rfl, rfl⟩) hS1 ?_
  try simp only [Act.put, List.setIfInBounds_toArray, List.set_cons_zero, List.set_cons_succ]
  refine wpAnyH_take (i := 10) (v := undef) rfl (by kernel_rfl) (by kernel_rfl) (by kernel_rfl) (fun _ _ _ h => h) (Or.inr ⟨by kernel_rfl, rfl⟩) hS1 ?_
  try simp only [Act.put, List.setIfInBounds_toArray, List.set_cons_zero, List.set_cons_succ]
  refine wpAnyH_take (i := 11) (v := .bool false) rfl (by kernel_rfl) (by kernel_rfl) (by kernel_rfl) (fun _ _ _ h => h) (Or.inl ⟨by kernel_rfl, ?_⟩) hS1 ?_
  · intro W hS; go_simp
  try simp only [Act.put, List.setIfInBounds_toArray, List.set_cons_zero, List.set_cons_succ]
  refine wpAnyH_all (rs := [12]) (by kernel_rfl) (by simp) (List.forall_mem_singleton.2 ?_)
  have z0 := (SX _ hS1).2.1.1
  have z1 := (SX _ hS1).2.1.2.1
  have z2 := (SX _ hS1).2.1.2.2.1
  have z3 := (SX _ hS1).2.1.2.2.2
  have zf := (SX _ hS1).2.2.1
  have zn := (SX _ hS1).2.2.2
  refine wpOp_inG rfl (by kernel_rfl) ?_
  unfold Oper.wp
  go_simp
  have hS2 := StG.set4 hS1 (u0 := (.string a)) (u1 := (.string b)) (u2 := (.string d)) (u3 := (.slice A1 Gr.length q1))
  have ho2 := (out4_of hS1 (.string a) (.string b) (.string d) (.slice A1 Gr.length q1)).2
  refine ⟨hS2, ?_⟩
  clear z0 z1 z2 z3 zf zn
  try simp only [Act.put, List.setIfInBounds_toArray, List.set_cons_zero, List.set_cons_succ]
  refine wpAnyH_take (i := 13) (v := .bool false) rfl (by kernel_rfl) (by kernel_rfl) (by kernel_rfl) (fun _ _ _ h => h) (Or.inl ⟨by kernel_rfl, ?_⟩) hS2 ?_
  · intro W hS; go_simp
  try simp only [Act.put, List.setIfInBounds_toArray, List.set_cons_zero, List.set_cons_succ]
  refine wpAnyH_done (by kernel_rfl) ?_ _
  try simp only [List.getElem_toArray, List.getElem_cons_succ, List.getElem_cons_zero, Act.put, List.setIfInBounds_toArray, List.set_cons_zero, List.set_cons_succ]
  refine abs_world (F := fun W => StG w 146 G R (w.heap.size + 3) (.string a) (.string b) (.string d) (.slice A1 Gr.length q1) (.slice A1 Gr.length q1) Gr W ∧ Out4 R (.string a) (.string b) (.string d) (.slice A1 Gr.length q1) W) ⟨hS2, ho2⟩ ?_
  intro W3 hS
  obtain ⟨hS1, y0, y1, y2, y3⟩ := hS
  clear SX hst hHeld
  go_wp2_with fail
  exact bodyPost_ret (v := .tuple #[.agg #[.string a, .string b, .string d, .slice A1 Gr.length q1], .bool false]) (by simp [results, go_sem, y0, y1, y2, y3]) rfl ⟨A1, q1, rfl, own_base hS1.ow (Nat.le_add_right _ _), hS1.hb⟩
set_option maxRecDepth 100000 in
set_option maxHeartbeats 8000000 in
theorem l17Bobs_gtrue (m : Mt) (v : Value) (k : Cl) (Vb : Value) (bobs Gr : List ByteArray) (a b d : ByteArray) (g2 : Bool) (w : World) (h : MethAt w m v) (hV : Strs w Vb bobs)
    (hnb : ∀ W, Below w.heap.size w W → Calls Tryz.prog 138 #[m.v v, k.v] W fun e w' => ∃ A q, e = .returned (.tuple #[.agg #[.string a, .string b, .string d, .slice A Gr.length q], .bool true]) ∧ w'.ownsRow W.heap.size 9 1 (.slice A Gr.length q) Gr.length (Gr.map Value.string) ∧ Below W.heap.size W w')
    (h1 : ∀ (A : Option Addr) (q : Nat) W, Strs W (.slice A Gr.length q) Gr → Strs W Vb bobs → Calls Tryz.prog 199 #[.agg #[.string a, .string b, .string d, .slice A Gr.length q], Vb] W fun e w' => e = .returned (.bool true) ∧ Below W.heap.size W w')
    (h2 : ∀ (A : Option Addr) (q : Nat) W, Strs W (.slice A Gr.length q) Gr → Strs W Vb bobs → Calls Tryz.prog 200 #[.agg #[.string a, .string b, .string d, .slice A Gr.length q], Vb] W fun e w' => e = .returned (.bool g2) ∧ Below W.heap.size W w')
    : Calls Tryz.prog 168 #[m.v v, k.v, Vb] w fun e w' =>
    ∃ A q, e = .returned (.tuple #[.agg #[.string a, .string b, .string d, .slice A Gr.length q], .bool g2]) ∧ w'.ownsRow w.heap.size 9 1 (.slice A Gr.length q) Gr.length (Gr.map Value.string) ∧ Below w.heap.size w w' := by
  have Hnb := Lib.hid hnb
  have HV := Lib.hid hV
  obtain ⟨Ab, cb, rfl⟩ : ∃ A c, Vb = .slice A bobs.length c := by obtain ⟨A, c, e, _⟩ := hV; exact ⟨A, c, e⟩
  obtain ⟨A, c, hv⟩ := h.form
  subst hv
  unfold Mt.v Cl.v at *
  clear h hnb hV
  go_enter Tryz.func168, Tryz.ntmps168
  go_wp2_with fail
  refine box3s (C := fun W => Calls _ _ _ W _) ?_
  intro wb hw hwsz k1 k2 k3 hB0
  have Hr := Lib.hid (own_to (own_of_heap (n := 1) (size := 4) k3 (Nat.le_refl _) (by unfold maxLen; omega) rfl) (Below.refl _ _))
  have Hsz := Lib.hid hwsz
  clear k1 k2 k3 hwsz
  refine (Hnb.out _ hw).mono ?_; rintro e w1 ⟨A1, q1, rfl, hown1, hb1⟩
  have hR1 := own_to Hr.out hb1
  have hB1 := bw_to hw hb1
  have hz1 : w.heap.size + 2 < w1.heap.size := by have := hb1.size; have := Hsz.out; omega
  have hst : StG w 146 w1.heap.size (w.heap.size + 2) (w.heap.size + 3) (.string a) (.string b) (.string d) (.slice A1 Gr.length q1) (.slice A1 Gr.length q1) Gr (w1.alloc (.cells #[.string a, .string b, .string d, .slice A1 Gr.length q1] 146)) :=
    ⟨bw_al hB1 _, own_base (own_of_heap (heap_new _ _) (Nat.le_refl _) (by unfold maxLen; omega) rfl) (by omega), ⟨_, own_to hR1 (bw_al (Below.refl _ _) _)⟩, own_base (own_to hown1 (bw_al (Below.refl _ _) _)) (by rw [Hsz.out]; exact Nat.le_refl _), by omega⟩
  have H1 := Lib.hid (h1 A1 q1)
  have H2 := Lib.hid (h2 A1 q1)
  clear h2
  clear h1 hown1
  go_wp2_with fail
  obtain ⟨w2, hw2⟩ : ∃ W, W = w1.alloc (.cells #[.string a, .string b, .string d, .slice A1 Gr.length q1] 146) := ⟨_, rfl⟩
  obtain ⟨G, hG⟩ : ∃ G, G = w1.heap.size := ⟨_, rfl⟩
  rw [← hw2, ← hG] at hst
  try rw [← hw2]
  try rw [← hG]
  obtain ⟨R, hR⟩ : ∃ R, R = w.heap.size + 2 := ⟨_, rfl⟩
  rw [← hR] at hst ⊢
  clear hw2 hG hB1 hb1 hz1 hR1 hw hB0 hR
  refine wp_region_held_drew (S := fun W => StG w 146 G R (w.heap.size + 3) (.string a) (.string b) (.string d) (.slice A1 Gr.length q1) (.slice A1 Gr.length q1) Gr W) (by kernel_rfl) hst.drew (fun hHeld => ?_)
  have SX := fun W (h : StG w 146 G R (w.heap.size + 3) (.string a) (.string b) (.string d) (.slice A1 Gr.length q1) (.slice A1 Gr.length q1) Gr W) => h.facts
  refine wpAnyH_take (i := 0) (v := .agg #[.string a, .string b, .string d, .slice A1 Gr.length q1]) rfl (by kernel_rfl) (by kernel_rfl) (by kernel_rfl) (fun _ _ _ h => h) (Or.inl ⟨by kernel_rfl, ?_⟩) hHeld ?_
  · intro W hS
    obtain ⟨⟨x0, x1, x2, x3⟩, _⟩ := SX W hS
    go_simp
  try simp only [Act.put, List.setIfInBounds_toArray, List.set_cons_zero, List.set_cons_succ]
  refine wpAnyH_take (i := 1) (v := .bool true) rfl (by kernel_rfl) (by kernel_rfl) (by kernel_rfl) (fun _ _ _ h => h) (Or.inl ⟨by kernel_rfl, ?_⟩) hHeld ?_
  · intro W hS; go_simp
  try simp only [Act.put, List.setIfInBounds_toArray, List.set_cons_zero, List.set_cons_succ]
  refine wpAnyH_take (i := 2) (v := .bool true) rfl (by kernel_rfl) (by kernel_rfl) (by kernel_rfl) (fun _ _ _ h => h) (Or.inl ⟨by kernel_rfl, ?_⟩) hHeld ?_
  · intro W hS; go_simp
  try simp only [Act.put, List.setIfInBounds_toArray, List.set_cons_zero, List.set_cons_succ]
  refine wpAnyH_take (i := 3) (v := .agg #[.string a, .string b, .string d, .slice A1 Gr.length q1]) rfl (by kernel_rfl) (by kernel_rfl) (by kernel_rfl) (fun _ _ _ h => h) (Or.inl ⟨by kernel_rfl, ?_⟩) hHeld ?_
  · intro W hS
    obtain ⟨⟨x0, x1, x2, x3⟩, _⟩ := SX W hS
    go_simp
  try simp only [Act.put, List.setIfInBounds_toArray, List.set_cons_zero, List.set_cons_succ]
  refine wpAnyH_take (i := 4) (v := (.slice Ab bobs.length cb)) rfl (by kernel_rfl) (by kernel_rfl) (by kernel_rfl) (fun _ _ _ h => h) (Or.inl ⟨by kernel_rfl, ?_⟩) hHeld ?_
  · intro W hS; go_simp
  try simp only [Act.put, List.setIfInBounds_toArray, List.set_cons_zero, List.set_cons_succ]
  refine wpAnyH_all (rs := [5]) (by kernel_rfl) (by simp) (List.forall_mem_singleton.2 ?_)
  refine wpOp_inG rfl (by kernel_rfl) ?_
  unfold Oper.wp
  go_simp
  refine (H1.out _ (strs_of_own hHeld.ow) (HV.out.to hHeld.hb)).mono ?_; rintro e' w' ⟨rfl, hb'⟩
  have hS1 := StG.to hHeld hb'
  refine ⟨hS1, ?_⟩
  clear hb'
  try simp only [Act.put, List.setIfInBounds_toArray, List.set_cons_zero, List.set_cons_succ]
  refine wpAnyH_take (i := 6) (v := .bool true) rfl (by kernel_rfl) (by kernel_rfl) (by kernel_rfl) (fun _ _ _ h => h) (Or.inl ⟨by kernel_rfl, ?_⟩) hS1 ?_
  · intro W hS; go_simp
  try simp only [Act.put, List.setIfInBounds_toArray, List.set_cons_zero, List.set_cons_succ]
  refine wpAnyH_take (i := 7) (v := .bool true) rfl (by kernel_rfl) (by kernel_rfl) (by kernel_rfl) (fun _ _ _ h => h) (Or.inl ⟨by kernel_rfl, ?_⟩) hS1 ?_
  · intro W hS; go_simp
  try simp only [Act.put, List.setIfInBounds_toArray, List.set_cons_zero, List.set_cons_succ]
  refine wpAnyH_take (i := 8) (v := .agg #[.string a, .string b, .string d, .slice A1 Gr.length q1]) rfl (by kernel_rfl) (by kernel_rfl) (by kernel_rfl) (fun _ _ _ h => h) (Or.inl ⟨by kernel_rfl, ?_⟩) hS1 ?_
  · intro W hS
    obtain ⟨⟨x0, x1, x2, x3⟩, _⟩ := SX W hS
    go_simp
  try simp only [Act.put, List.setIfInBounds_toArray, List.set_cons_zero, List.set_cons_succ]
  refine wpAnyH_take (i := 9) (v := (.slice Ab bobs.length cb)) rfl (by kernel_rfl) (by kernel_rfl) (by kernel_rfl) (fun _ _ _ h => h) (Or.inl ⟨by kernel_rfl, ?_⟩) hS1 ?_
  · intro W hS; go_simp
  try simp only [Act.put, List.setIfInBounds_toArray, List.set_cons_zero, List.set_cons_succ]
  refine wpAnyH_all (rs := [10]) (by kernel_rfl) (by simp) (List.forall_mem_singleton.2 ?_)
  refine wpOp_inG rfl (by kernel_rfl) ?_
  unfold Oper.wp
  go_simp
  refine (H2.out _ (strs_of_own hS1.ow) (HV.out.to hS1.hb)).mono ?_; rintro e' w' ⟨rfl, hb'⟩
  have hS2 := StG.to hS1 hb'
  refine ⟨hS2, ?_⟩
  clear hb'
  try simp only [Act.put, List.setIfInBounds_toArray, List.set_cons_zero, List.set_cons_succ]
  refine wpAnyH_take (i := 11) (v := .bool g2) rfl (by kernel_rfl) (by kernel_rfl) (by kernel_rfl) (fun _ _ _ h => h) (Or.inl ⟨by kernel_rfl, ?_⟩) hS2 ?_
  · intro W hS; go_simp
  try simp only [Act.put, List.setIfInBounds_toArray, List.set_cons_zero, List.set_cons_succ]
  refine wpAnyH_all (rs := [12]) (by kernel_rfl) (by simp) (List.forall_mem_singleton.2 ?_)
  have z0 := (SX _ hS2).2.1.1
  have z1 := (SX _ hS2).2.1.2.1
  have z2 := (SX _ hS2).2.1.2.2.1
  have z3 := (SX _ hS2).2.1.2.2.2
  have zf := (SX _ hS2).2.2.1
  have zn := (SX _ hS2).2.2.2
  refine wpOp_inG rfl (by kernel_rfl) ?_
  unfold Oper.wp
  go_simp
  have hS3 := StG.set4 hS2 (u0 := (.string a)) (u1 := (.string b)) (u2 := (.string d)) (u3 := (.slice A1 Gr.length q1))
  have ho3 := (out4_of hS2 (.string a) (.string b) (.string d) (.slice A1 Gr.length q1)).2
  refine ⟨hS3, ?_⟩
  clear z0 z1 z2 z3 zf zn
  try simp only [Act.put, List.setIfInBounds_toArray, List.set_cons_zero, List.set_cons_succ]
  refine wpAnyH_take (i := 13) (v := .bool g2) rfl (by kernel_rfl) (by kernel_rfl) (by kernel_rfl) (fun _ _ _ h => h) (Or.inl ⟨by kernel_rfl, ?_⟩) hS3 ?_
  · intro W hS; go_simp
  try simp only [Act.put, List.setIfInBounds_toArray, List.set_cons_zero, List.set_cons_succ]
  refine wpAnyH_done (by kernel_rfl) ?_ _
  try simp only [List.getElem_toArray, List.getElem_cons_succ, List.getElem_cons_zero, Act.put, List.setIfInBounds_toArray, List.set_cons_zero, List.set_cons_succ]
  refine abs_world (F := fun W => StG w 146 G R (w.heap.size + 3) (.string a) (.string b) (.string d) (.slice A1 Gr.length q1) (.slice A1 Gr.length q1) Gr W ∧ Out4 R (.string a) (.string b) (.string d) (.slice A1 Gr.length q1) W) ⟨hS3, ho3⟩ ?_
  intro W3 hS
  obtain ⟨hS1, y0, y1, y2, y3⟩ := hS
  clear SX hst hHeld
  go_wp2_with fail
  exact bodyPost_ret (v := .tuple #[.agg #[.string a, .string b, .string d, .slice A1 Gr.length q1], .bool g2]) (by simp [results, go_sem, y0, y1, y2, y3]) rfl ⟨A1, q1, rfl, own_base hS1.ow (Nat.le_add_right _ _), hS1.hb⟩
end Go.Proofs.YtofpjbdelmmclaaGreatDoor
