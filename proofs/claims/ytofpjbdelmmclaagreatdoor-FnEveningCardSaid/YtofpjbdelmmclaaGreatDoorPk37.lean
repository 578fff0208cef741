/- Rows and cursors kept, in words. -/
import Derived.Test.YtofpjbdelmmclaaGreatDoorPk2
import Derived.Test.YtofpjbdelmmclaaGreatDoorPk36
import Derived.Test.YtofpjbdelmmclaaGreatDoorPk12
import Derived.Test.YtofpjbdelmmclaaGreatDoorPk35
namespace Go.Proofs.YtofpjbdelmmclaaGreatDoor
open Go Go.RowKit
set_option linter.unusedVariables false
set_option linter.unusedSimpArgs false

theorem gb_belM {a w w' : World} {C : Nat} (h : a.grownBy w (some C)) (hb : Below a.heap.size w w') : a.grownBy w' (some C) :=
  ⟨hb.os.trans h.os, hb.tape.trans h.tape, hb.output.trans h.output, Nat.le_trans h.size hb.size, fun k hk hn => (hb.block k hk).trans (h.block k hk hn)⟩
theorem own_blkM {w w' : World} {base : Nat} {e : TypeId} {size n g c : Nat} {xs : List Value} (h : w.ownsRow base e size (.slice (some ⟨g, 0, none⟩) n c) n xs) (hb : w'.heap[g]? = w.heap[g]?) : w'.ownsRow base e size (.slice (some ⟨g, 0, none⟩) n c) n xs := by
  obtain ⟨h1, h2⟩ := h
  refine ⟨h1, ?_⟩
  rcases h2 with ⟨h2, _⟩ | ⟨g', cap, cur, hv, hx, hg, r⟩
  · cases h2
  · have hgg : g = g' := by injection hv with hv _ _; injection hv with hv; injection hv
    subst hgg
    exact .inr ⟨g, cap, cur, hv, hx, hb.trans hg, r⟩
theorem Cur.belM {w w' : World} {C lim B : Nat} (h : Cur w C lim) (hb : Below B w w') (hB : C < B) : Cur w' C lim := by
  have hC := h.lt
  obtain ⟨v, a, s, h1, h2, h3, h4, h5, ho⟩ := h
  refine ⟨v, a, s, h1.keep (fun p hp => hb.cell (by omega)), h2, h3, h4, h5, ?_⟩
  exact own_blkM ho (hb.block C hB)
theorem own_curM {w w' : World} {base C n : Nat} {e : TypeId} {size : Nat} {v : Value} {xs : List Value} (h : w.ownsRow base e size v n xs) (hg : w.grownBy w' (some C)) (hC : C < base) : w'.ownsRow base e size v n xs := by
  refine h.kept hg ?_
  cases hv : v.ownBlock with
  | none => exact .inl rfl
  | some k => exact .inr (fun x => by injection x with x; have := (h.lt k hv).1; omega)
end Go.Proofs.YtofpjbdelmmclaaGreatDoor

/- Drawn rows of items; a drawn evening with its items. -/
namespace Go.Proofs.YtofpjbdelmmclaaGreatDoor
open Go Go.RowKit
set_option linter.unusedVariables false
set_option linter.unusedSimpArgs false

theorem info_It : (Tryz.prog.info? 55).map (fun i => (i.zero, i.size, i.bytes)) = some (some (.agg #[.string ⟨#[]⟩, .int .i64 0, .int .i64 0, .int .i64 0]), 4, 40) := by kernel_rfl
theorem flat_snocI (xs : List It) (r : It) : xs.flatMap It.cells ++ [.string r.name, .int .i64 r.stage, .int .i64 r.rows, .int .i64 r.worth] = (xs ++ [r]).flatMap It.cells := by simp [It.cells]
/-- What a draw of items leaves. -/
def ItSm (xs : List It) : Prop := ∀ x ∈ xs, x.name.size ≤ 11
theorem itSm_snoc {xs : List It} {r : It} (h : ItSm xs) (hr : r.name.size ≤ 11) : ItSm (xs ++ [r]) := by
  intro x hx
  rcases List.mem_append.1 hx with hx | hx
  · exact h x hx
  · rw [List.mem_singleton.1 hx]; exact hr
def DrewIts (w : World) (C lim : Nat) (e : Ending) (w' : World) : Prop := ∃ v, ∃ xs : List It, e = .returned v ∧ w'.ownsRow w.heap.size 55 4 v xs.length (xs.flatMap It.cells) ∧ ItSm xs ∧ xs.length ≤ 11 ∧ Cur w' C lim ∧ w.grownBy w' (some C)
set_option maxRecDepth 10000 in
set_option maxHeartbeats 4000000 in
theorem drawItems_any (w : World) (C lim : Nat) (h : Cur w C lim) (hl : lim ≤ 1000000) : Calls Tryz.prog 50 #[.pointer (some ⟨C, 0, none⟩)] w (DrewIts w C (lim + 200)) := by
  have H := Lib.hid h
  have hCl := h.lt
  clear h
  go_enter Tryz.func50, Tryz.ntmps50
  go_wp2_with fail
  refine (pick_any w C lim 6 H.out (by omega) (by omega) (by omega)).mono ?_; rintro e w1 ⟨b, rfl, hb, hc1, hg1⟩
  obtain ⟨n, rfl⟩ : ∃ n : Nat, b = n := ⟨b.toNat, by omega⟩
  have hn6 : n < 6 := by omega
  have C1 := Lib.hid hc1
  have G1 := Lib.hid hg1
  clear hc1 hg1 hb
  go_wp2_with fail
  go_loopw [3, 4] (fun o i wr => ∃ k : Nat, ∃ xs : List It, k ≤ n ∧ i = .int .i64 k ∧ xs.length + k ≤ n ∧ Hid (wr.ownsRow w.heap.size 55 4 o xs.length (xs.flatMap It.cells) ∧ ItSm xs ∧ Cur wr C (lim + 2 + 20 * (n - k)) ∧ w.grownBy wr (some C))) (fun _ i _ => (intOf i).toNat)
  case atStart => exact ⟨n, [], by omega, rfl, by simp, Lib.hid ⟨World.ownsRow_nil _ _ _ _, (fun x hx => by cases hx), C1.out.more (by omega), G1.out⟩⟩
  case round =>
    obtain ⟨k, xs, hk, rfl, hxk, Hr⟩ := hrel
    by_cases hpos : 0 < k
    · obtain ⟨j, rfl⟩ : ∃ j, k = j + 1 := ⟨k - 1, by omega⟩
      go_wp2_with fail
      refine (drawItem_any wr C _ Hr.out.2.2.1 (by omega)).mono ?_; rintro e w2 ⟨r, rfl, hr, hc2, hg2⟩
      have O2 := Lib.hid (own_curM Hr.out.1 hg2 hCl)
      have C2 := Lib.hid hc2
      have G2 := Lib.hid (gb_tr Hr.out.2.2.2 hg2)
      have Sm := Lib.hid (itSm_snoc Hr.out.2.1 hr)
      clear hc2 hg2 hr
      go_wp2_with (at_builtin; go_must (refine wpList_app w2 rfl _ _ _ rfl w.heap.size 55 _ 4 40 Tryz.underlying37 info_It rfl (by omega) O2.out [.string r.name, .int .i64 r.stage, .int .i64 r.rows, .int .i64 r.worth] rfl rfl rfl (by simp [Value.oneCell']) (by omega) (by omega) G2.out.size ?_); intro v4 w4 hown4 hb4 _ _)
      exact ⟨⟨j, xs ++ [r], by omega, by go_num, by simp; omega, Lib.hid ⟨by rw [← flat_snocI, List.length_append]; exact hown4, Sm.out, (C2.out.belM hb4 hCl).more (by omega), gb_belM G2.out hb4⟩⟩, by simp [intOf]⟩
    · obtain rfl : k = 0 := by omega
      go_wp2_with fail
      refine (one_any wr C _ 30 Hr.out.2.2.1 (by omega) (by omega) (by omega)).mono ?_; rintro e w2 ⟨x, rfl, hc2, hg2⟩
      have O2 := Lib.hid (own_curM Hr.out.1 hg2 hCl)
      have C2 := Lib.hid hc2
      have G2 := Lib.hid (gb_tr Hr.out.2.2.2 hg2)
      have S2 := Lib.hid Hr.out.2.1
      clear hc2 hg2 Hr
      cases x
      · go_wp2_with fail
        go_ret
        exact ⟨_, xs, rfl, O2.out, S2.out, by omega, C2.out.more (by omega), G2.out⟩
      · go_wp2_with fail
        refine (among_at w2 C _ 2 _ [10, 11] (by simp) C2.out (by omega) rfl (by omega) (by omega)).mono ?_; rintro e w3 ⟨z, rfl, hz, hc3, hg3⟩
        have O3 := Lib.hid (own_curM O2.out hg3 hCl)
        have C3 := Lib.hid hc3
        have G3 := Lib.hid (gb_tr G2.out hg3)
        have hz1 : z ≤ 11 := by simp at hz; omega
        clear hc3 hg3 hz O2 C2 G2
        obtain ⟨A0, c0, e0, _, _, _⟩ := sl_of_own O3.out
        subst e0
        go_wp2_with fail
        go_loopw [3] (fun o wr => ∃ A c, ∃ ys : List It, o = .slice A ys.length c ∧ ys.length ≤ 11 ∧ Hid (wr.ownsRow w.heap.size 55 4 (.slice A ys.length c) ys.length (ys.flatMap It.cells) ∧ ItSm ys ∧ Cur wr C (lim + 200) ∧ w.grownBy wr (some C))) (fun o _ => 12 - (match o with | .slice _ n _ => n | _ => 0))
        case atStart => exact ⟨A0, c0, xs, rfl, by omega, Lib.hid ⟨O3.out, S2.out, C3.out.more (by omega), G3.out⟩⟩
        case round =>
          obtain ⟨A, c, ys, rfl, hyl, Hy⟩ := hrel
          obtain ⟨A', c', e', hcl, hcm, _⟩ := sl_of_own Hy.out.1
          cases e'
          unfold maxLen at hcm
          by_cases hlt : (ys.length : Int) < z
          · go_wp2_with (at_builtin; go_must (refine wpList_app wr rfl _ _ _ rfl w.heap.size 55 _ 4 40 Tryz.underlying37 info_It rfl (by omega) Hy.out.1 [.string ⟨#[97]⟩, .int .i64 3, .int .i64 1, .int .i64 0] rfl rfl rfl (by simp [Value.oneCell']) (by omega) (by omega) Hy.out.2.2.2.size ?_); intro v4 w4 hown4 hb4 _ _)
            obtain ⟨A4, c4, e4, _, _, _⟩ := sl_of_own hown4
            subst e4
            have hl4 : ys.length + 1 = (ys ++ [(⟨⟨#[97]⟩, 3, 1, 0⟩ : It)]).length := by simp
            have hown5 : w4.ownsRow w.heap.size 55 4 (.slice A4 (ys ++ [(⟨⟨#[97]⟩, 3, 1, 0⟩ : It)]).length c4) (ys ++ [(⟨⟨#[97]⟩, 3, 1, 0⟩ : It)]).length ((ys ++ [(⟨⟨#[97]⟩, 3, 1, 0⟩ : It)]).flatMap It.cells) := by
              rw [← hl4, ← flat_snocI]; exact hown4
            have Hn := Lib.hid hown5
            clear hown4 hown5
            refine ⟨⟨A4, c4, ys ++ [(⟨⟨#[97]⟩, 3, 1, 0⟩ : It)], by rw [← hl4], by rw [← hl4]; omega, Lib.hid ⟨Hn.out, itSm_snoc Hy.out.2.1 (by decide), Hy.out.2.2.1.belM hb4 hCl, gb_belM Hy.out.2.2.2 hb4⟩⟩, by simp; omega⟩
          · go_wp2_with fail
            go_ret
            exact ⟨_, ys, rfl, Hy.out.1, Hy.out.2.1, hyl, Hy.out.2.2.1, Hy.out.2.2.2⟩
end Go.Proofs.YtofpjbdelmmclaaGreatDoor

/- Drawn evenings with their items. -/
namespace Go.Proofs.YtofpjbdelmmclaaGreatDoor
open Go Go.RowKit
set_option linter.unusedVariables false
set_option linter.unusedSimpArgs false

theorem own_othM {W : World} {b1 b2 : Nat} {e1 e2 : TypeId} {s1 s2 n1 n2 g c2 : Nat} {v1 : Value} {x1 x2 : List Value} (hx : W.ownsRow b1 e1 s1 v1 n1 x1) (hz : W.ownsRow b2 e2 s2 (.slice (some ⟨g, 0, none⟩) n2 c2) n2 x2) (he : e1 ≠ e2) (j : Nat) (u : Value) : (W.setCell ⟨g, j, none⟩ u).ownsRow b1 e1 s1 v1 n1 x1 :=
  hx.kept (gb_set (gb_refl W g) j u) ((own_kindsX hx hz he).imp id (fun x y => x (by rw [y]; rfl)))
/-- An evening in its box E, the result's block F. -/
structure ES (w : World) (F E : Nat) (a b c d : Int) (W : World) : Prop where
  bw : Below w.heap.size w W
  rf : ∃ zs, W.ownsRow w.heap.size 36 4 (.slice (some ⟨F, 0, none⟩) 1 1) 1 zs
  ex : W.ownsRow w.heap.size 36 4 (.slice (some ⟨E, 0, none⟩) 1 1) 1 [.int .i64 a, .int .i64 b, .int .i64 c, .int .i64 d]
  ne : F ≠ E
theorem ES.to {w : World} {F E : Nat} {a b c d : Int} {W W' : World} (h : ES w F E a b c d W) (hb : Below W.heap.size W W') : ES w F E a b c d W' := ⟨bw_to h.bw hb, let ⟨zs, hz⟩ := h.rf; ⟨zs, own_to hz hb⟩, own_to h.ex hb, h.ne⟩
theorem ES.draw {w : World} {F E : Nat} {a b c d : Int} {C lim : Nat} {W W' : World} (h : ES w F E a b c d W) (hC : w.heap.size ≤ C) (hc : Cur W C lim) (hg : W.grownBy W' (some C)) : ES w F E a b c d W' :=
  ⟨gb_below h.bw hg hC, let ⟨zs, hz⟩ := h.rf; ⟨zs, own_noC hz hc (by decide) hg⟩, own_noC h.ex hc (by decide) hg, h.ne⟩
theorem ES.setF1 {w : World} {F E : Nat} {a b c d : Int} {W : World} (h : ES w F E a b c d W) (j : Nat) (u : Value) : ES w F E a b c d (W.setCell ⟨F, j, none⟩ u) := by
  obtain ⟨zs, hz⟩ := h.rf
  exact ⟨grow_set h.bw (hz.lt F rfl).1 u, ⟨_, own_set hz j u⟩, own_ne1 h.ex h.ne.symm j u, h.ne⟩
theorem ES.all {w : World} {F E : Nat} {a b c d : Int} {W : World} (h : ES w F E a b c d W) : ES w F E a b c d W ∧ W.cell? ⟨E, 0, none⟩ = some (.int .i64 a) ∧ W.cell? ⟨E, 1, none⟩ = some (.int .i64 b) ∧ W.cell? ⟨E, 2, none⟩ = some (.int .i64 c) ∧ W.cell? ⟨E, 3, none⟩ = some (.int .i64 d) ∧ W.cell? ⟨F, 0, none⟩ = some (oldC F 0 W) ∧ W.cell? ⟨F, 1, none⟩ = some (oldC F 1 W) ∧ W.cell? ⟨F, 2, none⟩ = some (oldC F 2 W) ∧ W.cell? ⟨F, 3, none⟩ = some (oldC F 3 W) ∧ W.frozen? ⟨F, 0, none⟩ = false ∧ W.frozen? ⟨F, 1, none⟩ = false ∧ W.frozen? ⟨F, 2, none⟩ = false ∧ W.frozen? ⟨F, 3, none⟩ = false := by
  obtain ⟨zs, hz⟩ := h.rf
  have hl : zs.length = 4 := hz.1
  refine ⟨h, (h.ex.cellAt 0 (by omega)).trans rfl, (h.ex.cellAt 1 (by omega)).trans rfl, (h.ex.cellAt 2 (by omega)).trans rfl, (h.ex.cellAt 3 (by omega)).trans rfl, ?_, ?_, ?_, ?_, hz.frozenAt _, hz.frozenAt _, hz.frozenAt _, hz.frozenAt _⟩
  · exact oldC_of (x := zs[0]) (by rw [hz.cellAt 0 (by omega)]; simp [hl])
  · exact oldC_of (x := zs[1]) (by rw [hz.cellAt 1 (by omega)]; simp [hl])
  · exact oldC_of (x := zs[2]) (by rw [hz.cellAt 2 (by omega)]; simp [hl])
  · exact oldC_of (x := zs[3]) (by rw [hz.cellAt 3 (by omega)]; simp [hl])
theorem ES.allF {w : World} {F E : Nat} {a b c d : Int} {W : World} {a0 a1 a2 a3 : Value} (h : ES w F E a b c d W ∧ W.cell? ⟨E, 0, none⟩ = some (.int .i64 a) ∧ W.cell? ⟨E, 1, none⟩ = some (.int .i64 b) ∧ W.cell? ⟨E, 2, none⟩ = some (.int .i64 c) ∧ W.cell? ⟨E, 3, none⟩ = some (.int .i64 d) ∧ W.cell? ⟨F, 0, none⟩ = some (oldC F 0 W) ∧ W.cell? ⟨F, 1, none⟩ = some (oldC F 1 W) ∧ W.cell? ⟨F, 2, none⟩ = some (oldC F 2 W) ∧ W.cell? ⟨F, 3, none⟩ = some (oldC F 3 W) ∧ W.frozen? ⟨F, 0, none⟩ = false ∧ W.frozen? ⟨F, 1, none⟩ = false ∧ W.frozen? ⟨F, 2, none⟩ = false ∧ W.frozen? ⟨F, 3, none⟩ = false) : ES w F E a b c d ((((W.setCell ⟨F, 0, none⟩ a0).setCell ⟨F, 1, none⟩ a1).setCell ⟨F, 2, none⟩ a2).setCell ⟨F, 3, none⟩ a3) ∧ ((((W.setCell ⟨F, 0, none⟩ a0).setCell ⟨F, 1, none⟩ a1).setCell ⟨F, 2, none⟩ a2).setCell ⟨F, 3, none⟩ a3).cell? ⟨E, 0, none⟩ = some (.int .i64 a) ∧ ((((W.setCell ⟨F, 0, none⟩ a0).setCell ⟨F, 1, none⟩ a1).setCell ⟨F, 2, none⟩ a2).setCell ⟨F, 3, none⟩ a3).cell? ⟨E, 1, none⟩ = some (.int .i64 b) ∧ ((((W.setCell ⟨F, 0, none⟩ a0).setCell ⟨F, 1, none⟩ a1).setCell ⟨F, 2, none⟩ a2).setCell ⟨F, 3, none⟩ a3).cell? ⟨E, 2, none⟩ = some (.int .i64 c) ∧ ((((W.setCell ⟨F, 0, none⟩ a0).setCell ⟨F, 1, none⟩ a1).setCell ⟨F, 2, none⟩ a2).setCell ⟨F, 3, none⟩ a3).cell? ⟨E, 3, none⟩ = some (.int .i64 d) ∧ ((((W.setCell ⟨F, 0, none⟩ a0).setCell ⟨F, 1, none⟩ a1).setCell ⟨F, 2, none⟩ a2).setCell ⟨F, 3, none⟩ a3).cell? ⟨F, 0, none⟩ = some (oldC F 0 ((((W.setCell ⟨F, 0, none⟩ a0).setCell ⟨F, 1, none⟩ a1).setCell ⟨F, 2, none⟩ a2).setCell ⟨F, 3, none⟩ a3)) ∧ ((((W.setCell ⟨F, 0, none⟩ a0).setCell ⟨F, 1, none⟩ a1).setCell ⟨F, 2, none⟩ a2).setCell ⟨F, 3, none⟩ a3).cell? ⟨F, 1, none⟩ = some (oldC F 1 ((((W.setCell ⟨F, 0, none⟩ a0).setCell ⟨F, 1, none⟩ a1).setCell ⟨F, 2, none⟩ a2).setCell ⟨F, 3, none⟩ a3)) ∧ ((((W.setCell ⟨F, 0, none⟩ a0).setCell ⟨F, 1, none⟩ a1).setCell ⟨F, 2, none⟩ a2).setCell ⟨F, 3, none⟩ a3).cell? ⟨F, 2, none⟩ = some (oldC F 2 ((((W.setCell ⟨F, 0, none⟩ a0).setCell ⟨F, 1, none⟩ a1).setCell ⟨F, 2, none⟩ a2).setCell ⟨F, 3, none⟩ a3)) ∧ ((((W.setCell ⟨F, 0, none⟩ a0).setCell ⟨F, 1, none⟩ a1).setCell ⟨F, 2, none⟩ a2).setCell ⟨F, 3, none⟩ a3).cell? ⟨F, 3, none⟩ = some (oldC F 3 ((((W.setCell ⟨F, 0, none⟩ a0).setCell ⟨F, 1, none⟩ a1).setCell ⟨F, 2, none⟩ a2).setCell ⟨F, 3, none⟩ a3)) ∧ ((((W.setCell ⟨F, 0, none⟩ a0).setCell ⟨F, 1, none⟩ a1).setCell ⟨F, 2, none⟩ a2).setCell ⟨F, 3, none⟩ a3).frozen? ⟨F, 0, none⟩ = false ∧ ((((W.setCell ⟨F, 0, none⟩ a0).setCell ⟨F, 1, none⟩ a1).setCell ⟨F, 2, none⟩ a2).setCell ⟨F, 3, none⟩ a3).frozen? ⟨F, 1, none⟩ = false ∧ ((((W.setCell ⟨F, 0, none⟩ a0).setCell ⟨F, 1, none⟩ a1).setCell ⟨F, 2, none⟩ a2).setCell ⟨F, 3, none⟩ a3).frozen? ⟨F, 2, none⟩ = false ∧ ((((W.setCell ⟨F, 0, none⟩ a0).setCell ⟨F, 1, none⟩ a1).setCell ⟨F, 2, none⟩ a2).setCell ⟨F, 3, none⟩ a3).frozen? ⟨F, 3, none⟩ = false := ((((h.1.setF1 0 a0).setF1 1 a1).setF1 2 a2).setF1 3 a3).all
theorem ES.fin {w : World} {F E : Nat} {a b c d : Int} {W : World} (h : ES w F E a b c d W) (a0 a1 a2 a3 : Value) : ∃ W', W' = ((((W.setCell ⟨F, 0, none⟩ a0).setCell ⟨F, 1, none⟩ a1).setCell ⟨F, 2, none⟩ a2).setCell ⟨F, 3, none⟩ a3) ∧ Below w.heap.size w W' ∧ (W'.cell? ⟨F, 0, none⟩ = some a0 ∧ W'.cell? ⟨F, 1, none⟩ = some a1 ∧ W'.cell? ⟨F, 2, none⟩ = some a2 ∧ W'.cell? ⟨F, 3, none⟩ = some a3) ∧
    ∀ (b2 : Nat) (e2 : TypeId) (s2 n2 : Nat) (v2 : Value) (x2 : List Value), W.ownsRow b2 e2 s2 v2 n2 x2 → e2 ≠ 36 → W'.ownsRow b2 e2 s2 v2 n2 x2 := by
  obtain ⟨zs, hz⟩ := h.rf
  have hl : zs.length = 4 := hz.1
  have z0 := own_set hz 0 a0
  have z1 := own_set z0 1 a1
  have z2 := own_set z1 2 a2
  have z3 := own_set z2 3 a3
  refine ⟨_, rfl, ((((h.setF1 0 a0).setF1 1 a1).setF1 2 a2).setF1 3 a3).bw, ⟨?_, ?_, ?_, ?_⟩, fun b2 e2 s2 n2 v2 x2 q he => own_othM (own_othM (own_othM (own_othM q hz he 0 a0) z0 he 1 a1) z1 he 2 a2) z2 he 3 a3⟩
  · rw [z3.cellAt 0 (by omega)]; simp [hl]
  · rw [z3.cellAt 1 (by omega)]; simp [hl]
  · rw [z3.cellAt 2 (by omega)]; simp [hl]
  · rw [z3.cellAt 3 (by omega)]; simp [hl]
/-- What a draw of an evening with its items leaves. -/
def PostBP (w : World) (e : Ending) (w' : World) : Prop := ∃ (a b c d : Int) (v : Value) (xs : List It), e = .returned (.tuple #[.agg #[.int .i64 a, .int .i64 b, .int .i64 c, .int .i64 d], v]) ∧ w'.ownsRow w.heap.size 55 4 v xs.length (xs.flatMap It.cells) ∧ ItSm xs ∧ xs.length ≤ 11 ∧ Below w.heap.size w w'
set_option maxRecDepth 100000 in
set_option maxHeartbeats 4000000 in
theorem drawBestPlan_any (V : Value) (w : World) (h : BytesAt w w.heap.size V) : Calls Tryz.prog 13 #[V] w (PostBP w) := by
  have H := Lib.hid h
  obtain ⟨A0, n0, c0, zs0, rfl, _⟩ := h
  go_enter Tryz.func13, Tryz.ntmps13
  go_wp2_with fail
  refine box2 (C := fun W => Calls _ _ _ W _) ?_
  intro wb hw k0 k1 hB0
  have C0 := Lib.hid (cur_box H.out hw (by omega) k1)
  have Hw := Lib.hid hw
  have K0 := Lib.hid (own_of_heap (base := w.heap.size) (n := 1) (size := 4) k0 (Nat.le_refl _) (by unfold maxLen; omega) rfl)
  clear k0 k1 hw hB0
  refine (drawEvening_any wb (w.heap.size + 1) 0 C0.out (by omega)).mono ?_; rintro e w1 ⟨a, b, c, d, rfl, hc, hg⟩
  have B1 := Lib.hid (gb_below Hw.out hg (by omega))
  have R0 := Lib.hid (own_noC K0.out C0.out (by decide) hg)
  have C1 := Lib.hid hc
  have hz1 : w.heap.size + 1 < w1.heap.size := hc.lt
  clear hc hg K0 C0
  go_upto_region 3 with fail
  refine box1 (C := fun W => Code.wp _ _ _ _ W) ?_
  intro w3 hw3 k3 hB3
  have P3 := Lib.hid (show ES w w.heap.size w1.heap.size a b c d w3 from ⟨bw_to B1.out hw3, ⟨_, own_to R0.out hw3⟩, own_of_heap (n := 1) (size := 4) k3 (by omega) (by unfold maxLen; omega) rfl, by omega⟩)
  have C3d := Lib.hid ((C1.out.to hw3).to (Below.drew (Below.refl _ _)))
  have hz3 : w1.heap.size < w3.heap.size := (Array.getElem?_eq_some_iff.1 k3).1
  have hCw : w.heap.size ≤ w.heap.size + 1 := by omega
  have hw3s : w.heap.size ≤ w3.heap.size := by omega
  obtain ⟨E, hE⟩ : ∃ X, X = w1.heap.size := ⟨_, rfl⟩
  obtain ⟨C, hC⟩ : ∃ X, X = w.heap.size + 1 := ⟨_, rfl⟩
  obtain ⟨F, hF⟩ : ∃ X, X = w.heap.size := ⟨_, rfl⟩
  rw [← hE] at P3 ⊢
  rw [← hC] at C3d hCw ⊢
  have P3 := Lib.hid (show ES w F E a b c d w3 from by rw [hF]; exact P3.out)
  rw [← hF]
  have y3 : ES w F E a b c d w3.drew := P3.out.to (Below.drew (Below.refl _ _))
  obtain ⟨_, s0, s1, s2, s3, u0, u1, u2, u3, t0, t1, t2, t3⟩ := P3.out.all
  clear hE hC hF R0 C1 B1 k3 hw3 hB3 hz1 hz3 Hw
  go_region_held3 (fun W => ES w F E a b c d W ∧ W.cell? ⟨E, 0, none⟩ = some (.int .i64 a) ∧ W.cell? ⟨E, 1, none⟩ = some (.int .i64 b) ∧ W.cell? ⟨E, 2, none⟩ = some (.int .i64 c) ∧ W.cell? ⟨E, 3, none⟩ = some (.int .i64 d) ∧ W.cell? ⟨F, 0, none⟩ = some (oldC F 0 W) ∧ W.cell? ⟨F, 1, none⟩ = some (oldC F 1 W) ∧ W.cell? ⟨F, 2, none⟩ = some (oldC F 2 W) ∧ W.cell? ⟨F, 3, none⟩ = some (oldC F 3 W) ∧ W.frozen? ⟨F, 0, none⟩ = false ∧ W.frozen? ⟨F, 1, none⟩ = false ∧ W.frozen? ⟨F, 2, none⟩ = false ∧ W.frozen? ⟨F, 3, none⟩ = false) (first | with_reducible assumption | with_reducible exact ES.all (by assumption) | with_reducible exact ES.allF (by assumption)) (first | (go_at_call 50; refine (drawItems_any _ C _ C3d.out (by omega)).mono ?_; rintro e w5 ⟨v, xs, rfl, ho5, hs5, hn5, hc5, hg5⟩; (have y5 : ES w F E a b c d w5 := y3.draw hCw C3d.out hg5); (have P5 := Lib.hid y5); (have O5 := Lib.hid (own_base (base' := w.heap.size) ho5 hw3s)); (have S5 := Lib.hid hs5); clear hc5 hg5 ho5 hs5))
  go_wp2_with fail
  obtain ⟨W', eW, hb', ⟨e0, e1, e2, e3⟩, hro⟩ := P5.out.fin (.int .i64 a) (.int .i64 b) (.int .i64 c) (.int .i64 d)
  rw [← eW]
  refine bodyPost_ret (v := .tuple #[.agg #[.int .i64 a, .int .i64 b, .int .i64 c, .int .i64 d], v]) (by simp [results, go_sem, e0, e1, e2, e3]) rfl ?_
  exact ⟨a, b, c, d, v, xs, rfl, hro _ _ _ _ _ _ O5.out (by decide), S5.out, hn5, hb'⟩
end Go.Proofs.YtofpjbdelmmclaaGreatDoor
