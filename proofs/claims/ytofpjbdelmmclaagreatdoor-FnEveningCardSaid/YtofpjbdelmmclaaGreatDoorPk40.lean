/- A drawn evening with its items and a choice. -/
import Derived.Test.YtofpjbdelmmclaaGreatDoorPk38
import Derived.Test.YtofpjbdelmmclaaGreatDoorPk39
import Derived.Test.YtofpjbdelmmclaaGreatDoorPk6
import Derived.Test.YtofpjbdelmmclaaGreatDoorPk9
namespace Go.Proofs.YtofpjbdelmmclaaGreatDoor
open Go Go.RowKit
set_option linter.unusedVariables false
set_option linter.unusedSimpArgs false

theorem flat_setI {xs : List It} {i : Nat} (hi : i < xs.length) (x : It) {j : Nat} (hj : j < 4) {u : Value} (hu : (It.cells xs[i]).set j u = It.cells x) : (xs.flatMap It.cells).set (i * 4 + j) u = (xs.set i x).flatMap It.cells := by
  have e1 : xs = xs.take i ++ xs[i] :: xs.drop (i + 1) := by rw [List.getElem_cons_drop, List.take_append_drop]
  have e2 : xs.set i x = xs.take i ++ x :: xs.drop (i + 1) := by rw [List.set_eq_take_append_cons_drop, if_pos hi]
  have hlt : ((xs.take i).flatMap It.cells).length = i * 4 := by rw [flat_length (C := It.cells) (sz := 4) (fun _ _ => rfl), List.length_take]; congr 1; omega
  rw [e2, List.flatMap_append, List.flatMap_cons, ← hu]
  conv => lhs; rw [e1, List.flatMap_append, List.flatMap_cons]
  rw [List.set_append, if_neg (by rw [hlt]; omega), hlt, List.set_append, if_pos (by show i * 4 + j - i * 4 < 4; omega), show i * 4 + j - i * 4 = j by omega]
/-- An evening, its items, a choice. -/
structure TJ (w : World) (B F E : Nat) (a b c d : Int) (Ai : Option Addr) (qi : Nat) (xs : List It) (o : Value) (ys : List Int) (W : World) : Prop where
  es : ES w F E a b c d W
  it : W.ownsRow w.heap.size 55 4 (.slice Ai xs.length qi) xs.length (xs.flatMap It.cells)
  ch : W.ownsRow B 3 1 o ys.length (ys.map (Value.int .i64))
  sm : ItSm xs
theorem TJ.to {w : World} {B F E : Nat} {a b c d : Int} {Ai : Option Addr} {qi : Nat} {xs : List It} {o : Value} {ys : List Int} {W W' : World} (h : TJ w B F E a b c d Ai qi xs o ys W) (hb : Below W.heap.size W W') : TJ w B F E a b c d Ai qi xs o ys W' := ⟨h.es.to hb, own_to h.it hb, own_to h.ch hb, h.sm⟩
/-- The cells that a round reads, and the one that it may write. -/
theorem TJ.cells {w : World} {B F E : Nat} {a b c d : Int} {Ai : Option Addr} {qi : Nat} {xs : List It} {o : Value} {ys : List Int} {W : World} (h : TJ w B F E a b c d Ai qi xs o ys W) {i : Nat} (hi : i < xs.length) : ∃ g, Ai = some ⟨g, 0, none⟩ ∧ W.cell? ⟨g, i * 4 + 1, none⟩ = some (.int .i64 xs[i].stage) ∧ W.frozen? ⟨g, i * 4 + 1, none⟩ = false ∧ W.cell? ⟨E, 0, none⟩ = some (.int .i64 a) := by
  have hit := h.it
  obtain ⟨g, e, _, _⟩ := own_addr h.it (by omega)
  subst e
  refine ⟨g, rfl, ?_, hit.frozenAt _, (h.es.ex.cellAt 0 (by omega)).trans rfl⟩
  rw [hit.cellAt (i * 4 + 1) (by omega)]
  exact flat_get (C := It.cells) (sz := 4) (fun _ _ => rfl) (List.getElem?_eq_getElem hi) (by omega)
theorem TJ.put {w : World} {B F E g : Nat} {a b c d : Int} {qi : Nat} {xs : List It} {o : Value} {ys : List Int} {W : World} (h : TJ w B F E a b c d (some ⟨g, 0, none⟩) qi xs o ys W) {i : Nat} (hi : i < xs.length) (z : Int) :
    ∃ xs', xs'.length = xs.length ∧ TJ w B F E a b c d (some ⟨g, 0, none⟩) qi xs' o ys (W.setCell ⟨g, i * 4 + 1, none⟩ (.int .i64 z)) := by
  obtain ⟨zs, hz⟩ := h.es.rf
  have hg := (h.it.lt g rfl).1
  refine ⟨xs.set i ⟨xs[i].name, z, xs[i].rows, xs[i].worth⟩, List.length_set, ⟨grow_set h.es.bw hg _, ⟨zs, own_othM hz h.it (by decide) _ _⟩, own_othM h.es.ex h.it (by decide) _ _, h.es.ne⟩, ?_, own_othM h.ch h.it (by decide) _ _, fun x hx => ?_⟩
  · have h3 := own_set h.it (i * 4 + 1) (.int .i64 z)
    rw [flat_setI hi ⟨xs[i].name, z, xs[i].rows, xs[i].worth⟩ (by omega) rfl] at h3
    rw [List.length_set]
    exact h3
  · rcases List.mem_or_eq_of_mem_set hx with hx | rfl
    · exact h.sm x hx
    · exact h.sm xs[i] (List.getElem_mem hi)
/-- With the cursor. -/
structure TI (w : World) (B C F E : Nat) (a b c d : Int) (Ai : Option Addr) (qi : Nat) (xs : List It) (o : Value) (ys : List Int) (lim : Nat) (W : World) : Prop where
  tj : TJ w B F E a b c d Ai qi xs o ys W
  cur : Cur W C lim
  hC : C < B
  hw : w.heap.size ≤ C
  hs : B ≤ W.heap.size
theorem TI.draw {w : World} {B C F E : Nat} {a b c d : Int} {Ai : Option Addr} {qi : Nat} {xs : List It} {o : Value} {ys : List Int} {lim : Nat} {lim' : Nat} {W W' : World} (h : TI w B C F E a b c d Ai qi xs o ys lim W) (hc : Cur W' C lim') (hg : W.grownBy W' (some C)) : TI w B C F E a b c d Ai qi xs o ys lim' W' :=
  ⟨⟨h.tj.es.draw h.hw h.cur hg, own_noC h.tj.it h.cur (by decide) hg, own_noC h.tj.ch h.cur (by decide) hg, h.tj.sm⟩, hc, h.hC, h.hw, Nat.le_trans h.hs hg.size⟩
theorem TI.more {w : World} {B C F E : Nat} {a b c d : Int} {Ai : Option Addr} {qi : Nat} {xs : List It} {o : Value} {ys : List Int} {lim : Nat} {lim' : Nat} {W : World} (h : TI w B C F E a b c d Ai qi xs o ys lim W) (hl : lim ≤ lim') : TI w B C F E a b c d Ai qi xs o ys lim' W := { h with cur := h.cur.more hl }
theorem TI.app {w : World} {B C F E : Nat} {a b c d : Int} {Ai : Option Addr} {qi : Nat} {xs : List It} {o : Value} {ys : List Int} {lim : Nat} {o' : Value} {z : Int} {W W' : World} (h : TI w B C F E a b c d Ai qi xs o ys lim W) (ho : W'.ownsRow B 3 1 o' (ys.length + 1) (ys.map (Value.int .i64) ++ [.int .i64 z])) (hb : Below B W W') (hg : W.grownBy W' o.ownBlock) : TI w B C F E a b c d Ai qi xs o' (ys ++ [z]) lim W' := by
  have hC := h.hC
  have hw := h.hw
  obtain ⟨zs, hz⟩ := h.tj.es.rf
  refine ⟨⟨⟨h.tj.es.bw.grown hg h.tj.es.bw.size (fun k hk => by have := (h.tj.ch.lt k hk).1; omega), ⟨zs, hz.kept hg (own_kindsX hz h.tj.ch (by decide))⟩, h.tj.es.ex.kept hg (own_kindsX h.tj.es.ex h.tj.ch (by decide)), h.tj.es.ne⟩, h.tj.it.kept hg (own_kindsX h.tj.it h.tj.ch (by decide)), ?_, h.tj.sm⟩, h.cur.belM hb hC, hC, hw, Nat.le_trans h.hs hb.size⟩
  rw [List.length_append, List.map_append]
  exact ho
/-- What a draw of an evening with its items and a choice leaves. -/
def PostTI (w : World) (e : Ending) (w' : World) : Prop := ∃ (a b c d : Int) (v : Value) (xs : List It) (u : Value) (ch : List Int), e = .returned (.tuple #[.agg #[.int .i64 a, .int .i64 b, .int .i64 c, .int .i64 d], v, u]) ∧ Items w' v xs ∧ Ints w' u ch ∧ Below w.heap.size w w'
set_option maxRecDepth 100000 in
set_option maxHeartbeats 8000000 in
theorem drawTimeIn_any (V : Value) (w : World) (h : BytesAt w w.heap.size V) : Calls Tryz.prog 16 #[V] w (PostTI w) := by
  have H := Lib.hid h
  obtain ⟨A0, n0, c0, zs0, rfl, hzl, hnc, hcm, _⟩ := h
  unfold maxLen at hcm
  go_enter Tryz.func16, Tryz.ntmps16
  go_wp2_with fail
  refine box1 (C := fun W => Calls _ _ _ W _) ?_
  intro wb hw k0 hB0
  have hCw : w.heap.size < wb.heap.size := (Array.getElem?_eq_some_iff.1 k0).1
  have Hw := Lib.hid hw
  have K0 := Lib.hid (own_of_heap (base := w.heap.size) (n := 1) (size := 4) k0 (Nat.le_refl _) (by unfold maxLen; omega) rfl)
  have HV : BytesAt wb wb.heap.size (.slice A0 n0 c0) := (H.out.keep (fun p hp => hw.cell hp)).more hw.size
  clear k0 hw
  refine (drawBestPlan_any _ wb HV).mono ?_; rintro e w1 ⟨a, b, c, d, v, xs, rfl, ho, hsm, hxl, hb1⟩
  have B1 := Lib.hid (bw_to Hw.out hb1)
  have O1 := Lib.hid (own_base (base' := w.heap.size) ho (by omega))
  have Sm := Lib.hid hsm
  have J0 := Lib.hid (own_to K0.out hb1)
  have hz1 : wb.heap.size ≤ w1.heap.size := hb1.size
  clear ho hsm K0 Hw hB0 hb1 HV
  obtain ⟨Ai, qi, ev, _⟩ := sl_of_own O1.out
  subst ev
  obtain ⟨hf, hhf⟩ : ∃ a : Nat, a = n0 / 2 := ⟨_, rfl⟩
  have hq1 : IntKind.i64.wrap ((n0 : Int) / 2) = (hf : Int) := (IntWalk.i64_in _ (by omega)).trans (by omega)
  have hq6 : (n0 : Int).tdiv 2 = (n0 : Int) / 2 := Int.tdiv_eq_ediv_of_nonneg (by omega)
  have hle : (hf : Int) ≤ (n0 : Int) := by omega
  go_upto_region 3 with fail
  have HB := bytes_from (k := n0 / 2) H.out (by omega)
  generalize (if c0 = n0 / 2 then A0 else Option.map (fun x => x.add (n0 / 2)) A0) = A9 at HB ⊢
  refine box2 (C := fun W => Code.wp _ _ _ _ W) ?_
  intro w4 hw4 k3 k4 hB4
  have hz4 : w1.heap.size + 1 < w4.heap.size := (Array.getElem?_eq_some_iff.1 k4).1
  have C4 := Lib.hid (cur_box (C := w1.heap.size + 1) HB (bw_to B1.out hw4) (by omega) k4)
  have T4 := Lib.hid (fun B (hB : w1.heap.size + 1 < B) (hB2 : B ≤ w4.heap.size) => (show TI w B (w1.heap.size + 1) w.heap.size w1.heap.size a b c d Ai qi xs (.slice none 0 0) [] 0 w4 from ⟨⟨⟨bw_to B1.out hw4, ⟨_, own_to J0.out hw4⟩, own_of_heap (n := 1) (size := 4) k3 (by omega) (by unfold maxLen; omega) rfl, by omega⟩, own_to O1.out hw4, World.ownsRow_nil _ _ _ _, Sm.out⟩, C4.out, hB, by omega, hB2⟩))
  obtain ⟨B, hB⟩ : ∃ B, B = w4.heap.size := ⟨_, rfl⟩
  obtain ⟨C, hC⟩ : ∃ C, C = w1.heap.size + 1 := ⟨_, rfl⟩
  obtain ⟨E, hE⟩ : ∃ C, C = w1.heap.size := ⟨_, rfl⟩
  obtain ⟨F, hF⟩ : ∃ C, C = w.heap.size := ⟨_, rfl⟩
  have T5 := Lib.hid (T4.out B (by omega) (by omega))
  rw [← hC, ← hE] at T5
  have T5 := Lib.hid (show TI w B C F E a b c d Ai qi xs (.slice none 0 0) [] 0 w4 from by rw [hF]; exact T5.out)
  rw [← hC, ← hE, ← hF]
  have hnFE : F ≠ E := by omega
  have hnEF := hnFE.symm
  clear hB hC hE hF hq1 hq6 hle hhf k3 k4 hw4 hB4 hz4 C4 T4 B1 O1 J0 hz1 hCw HB
  go_wp2_with fail
  go_loopw [8, 25] (fun o i wr => ∃ (k : Nat) (Ao : Option Addr) (q : Nat) (ys : List Int), k ≤ xs.length ∧ i = .int .i64 k ∧ o = .slice Ao ys.length q ∧ ys.length ≤ k ∧ TI w B C F E a b c d Ai qi xs (.slice Ao ys.length q) ys (2 * k) wr) (fun _ i _ => xs.length - (intOf i).toNat)
  case atStart => exact ⟨0, none, 0, [], by omega, rfl, rfl, by simp, T5.out⟩
  case round =>
    obtain ⟨k, Ao, q, ys, hk, rfl, rfl, hyk, hT⟩ := hrel
    have Tr := Lib.hid hT
    clear hT T5
    by_cases hlt : k < xs.length
    · have hki : (k : Int) < (xs.length : Int) := by omega
      go_wp2_with fail
      refine (one_any wr C _ 2 Tr.out.cur (by omega) (by omega) (by omega)).mono ?_; rintro e w2 ⟨bb, rfl, hc2, hg2⟩
      have T2 := Lib.hid (Tr.out.draw hc2 hg2)
      clear hc2 hg2 Tr
      cases bb
      · go_wp2_with fail
        exact ⟨⟨k + 1, Ao, q, ys, by omega, by go_num, rfl, by omega, T2.out.more (by omega)⟩, by simp [intOf]; omega⟩
      · have hBs : B ≤ w2.heap.size := T2.out.hs
        go_wp2_with (at_builtin; go_must (refine wpList_app w2 rfl _ _ _ rfl B 3 _ 1 8 Tryz.underlying40 info_i rfl (by omega) T2.out.tj.ch [.int .i64 (k : Int)] rfl rfl rfl (one_mem rfl) (by omega) (by omega) hBs ?_); intro v5 w5 ho5 hb5 hg5 _)
        obtain ⟨A5, q5, e5, _⟩ := sl_of_own ho5
        subst e5
        have T6 := Lib.hid (T2.out.app ho5 hb5 hg5)
        exact ⟨⟨k + 1, A5, q5, ys ++ [(k : Int)], by omega, by go_num, by rw [List.length_append]; rfl, by rw [List.length_append]; simp; omega, by rw [List.length_append]; exact T6.out.more (by omega)⟩, by simp [intOf]; omega⟩
    · have hki : ¬ (k : Int) < (xs.length : Int) := by omega
      obtain rfl : k = xs.length := by omega
      go_wp2_with fail
      refine (pick_any wr C _ 12 Tr.out.cur (by omega) (by omega) (by omega)).mono ?_; rintro e w2 ⟨pz, rfl, hp, hc2, hg2⟩
      have T2 := Lib.hid (Tr.out.draw hc2 hg2)
      obtain ⟨p0, p1⟩ := hp
      clear hc2 hg2 Tr
      by_cases hp0 : pz = 0
      · subst hp0
        go_wp2_with fail
        refine (pick_any w2 C _ 12 T2.out.cur (by omega) (by omega) (by omega)).mono ?_; rintro e w3 ⟨z3, rfl, hz3, hc3, hg3⟩
        have T3 := Lib.hid (T2.out.draw hc3 hg3)
        have hBs : B ≤ w3.heap.size := T3.out.hs
        have hzw : IntKind.i64.wrap (z3 - 1) = z3 - 1 := IntWalk.i64_in _ (by omega)
        clear hc3 hg3 T2
        go_upto_region 20 with (at_builtin; go_must (refine wpList_app w3 rfl _ _ _ rfl B 3 _ 1 8 Tryz.underlying40 info_i rfl (by omega) T3.out.tj.ch [.int .i64 (z3 - 1)] rfl rfl rfl (one_mem rfl) (by omega) (by omega) hBs ?_); intro v5 w5 ho5 hb5 hg5 _)
        obtain ⟨A5, q5, e5, _⟩ := sl_of_own ho5
        subst e5
        have T6 := Lib.hid (T3.out.app ho5 hb5 hg5).tj
        clear ho5 hb5 hg5 T3
        obtain ⟨_, s0, s1, s2, s3, u0, u1, u2, u3, t0, t1, t2, t3⟩ := T6.out.es.all
        go_wp2_with fail
        obtain ⟨W', eW, hb', ⟨e0, e1, e2, e3⟩, hro⟩ := T6.out.es.fin (.int .i64 a) (.int .i64 b) (.int .i64 c) (.int .i64 d)
        rw [← eW]
        refine bodyPost_ret (v := .tuple #[.agg #[.int .i64 a, .int .i64 b, .int .i64 c, .int .i64 d], .slice Ai xs.length qi, .slice A5 (ys.length + 1) q5]) (by simp [results, go_sem, e0, e1, e2, e3]) rfl ?_
        exact ⟨a, b, c, d, _, xs, _, ys ++ [z3 - 1], rfl, ⟨sl_of_own (hro _ _ _ _ _ _ T6.out.it (by decide)), fun x hx => by have := T6.out.sm x hx; unfold maxLen; omega⟩, ints_of_own (hro _ _ _ _ _ _ T6.out.ch (by decide)), hb'⟩
      · have hc0 : (pz == 0) = false := by simpa using hp0
        by_cases hp1 : pz = 1
        · subst hp1
          have J2 := Lib.hid T2.out.tj
          clear T2
          go_wp2_with fail
          go_loopw [49] (fun i wr => ∃ (k : Nat) (xs' : List It), k ≤ xs.length ∧ i = .int .i64 k ∧ xs'.length = xs.length ∧ TJ w B F E a b c d Ai qi xs' (.slice Ao ys.length q) ys wr) (fun i _ => xs.length - (intOf i).toNat)
          case atStart => exact ⟨0, xs, by omega, rfl, rfl, J2.out⟩
          case round =>
            obtain ⟨k, xs', hk2, rfl, hl', hJ⟩ := hrel
            have Jr := Lib.hid hJ
            have Hl := Lib.hid hl'
            clear hJ J2 hl'
            by_cases hlt : k < xs.length
            · have hki : (k : Int) < (xs.length : Int) := by omega
              obtain ⟨g, hg, x0, fx, e0⟩ := Jr.out.cells (i := k) (by rw [Hl.out]; exact hlt)
              subst hg
              obtain ⟨st, hst⟩ : ∃ s, s = (xs'[k]'(by rw [Hl.out]; exact hlt)).stage := ⟨_, rfl⟩
              rw [← hst] at x0
              clear hst
              by_cases hgt : a < st
              · go_wp2_with fail
                go_big_quiet (fail)
                refine abs_world (F := TJ w B F E a b c d (some ⟨g, 0, none⟩) qi xs' (.slice Ao ys.length q) ys) (Jr.out.to (bw_dr (Below.refl _ _) _)) ?_
                intro w3 hJ3
                have J3 := Lib.hid hJ3
                clear hJ3 x0 fx e0 Jr
                obtain ⟨g', hg', x0, fx, _⟩ := J3.out.cells (i := k) (by rw [Hl.out]; exact hlt)
                cases hg'
                obtain ⟨xs2, hl2, hJ4⟩ := J3.out.put (i := k) (by rw [Hl.out]; exact hlt) 3
                have J4 := Lib.hid hJ4
                have Hl2 := Lib.hid hl2
                clear hJ4 hl2 J3
                go_wp2_with fail
                exact ⟨⟨k + 1, xs2, by omega, by go_num, by rw [Hl2.out]; exact Hl.out, J4.out⟩, by simp [intOf]; omega⟩
              · go_wp2_with fail
                go_big_quiet (fail)
                go_wp2_with fail
                exact ⟨⟨k + 1, xs', by omega, by go_num, Hl.out, Jr.out.to (bw_dr (Below.refl _ _) _)⟩, by simp [intOf]; omega⟩
            · have hki : ¬ (k : Int) < (xs.length : Int) := by omega
              obtain ⟨_, s0, s1, s2, s3, u0, u1, u2, u3, t0, t1, t2, t3⟩ := Jr.out.es.all
              go_wp2_with fail
              obtain ⟨W', eW, hb', ⟨e0, e1, e2, e3⟩, hro⟩ := Jr.out.es.fin (.int .i64 a) (.int .i64 b) (.int .i64 c) (.int .i64 d)
              rw [← eW]
              refine bodyPost_ret (v := .tuple #[.agg #[.int .i64 a, .int .i64 b, .int .i64 c, .int .i64 d], .slice Ai xs.length qi, .slice Ao ys.length q]) (by simp [results, go_sem, e0, e1, e2, e3]) rfl ?_
              exact ⟨a, b, c, d, _, xs', _, ys, rfl, ⟨by have := sl_of_own (hro _ _ _ _ _ _ Jr.out.it (by decide)); rw [Hl.out] at this ⊢; exact this, fun x hx => by have := Jr.out.sm x hx; unfold maxLen; omega⟩, ints_of_own (hro _ _ _ _ _ _ Jr.out.ch (by decide)), hb'⟩
        · have hc1 : (pz == 1) = false := by simpa using hp1
          obtain ⟨_, s0, s1, s2, s3, u0, u1, u2, u3, t0, t1, t2, t3⟩ := T2.out.tj.es.all
          go_wp2_with fail
          obtain ⟨W', eW, hb', ⟨e0, e1, e2, e3⟩, hro⟩ := T2.out.tj.es.fin (.int .i64 a) (.int .i64 b) (.int .i64 c) (.int .i64 d)
          rw [← eW]
          refine bodyPost_ret (v := .tuple #[.agg #[.int .i64 a, .int .i64 b, .int .i64 c, .int .i64 d], .slice Ai xs.length qi, .slice Ao ys.length q]) (by simp [results, go_sem, e0, e1, e2, e3]) rfl ?_
          exact ⟨a, b, c, d, _, xs, _, ys, rfl, ⟨sl_of_own (hro _ _ _ _ _ _ T2.out.tj.it (by decide)), fun x hx => by have := T2.out.tj.sm x hx; unfold maxLen; omega⟩, ints_of_own (hro _ _ _ _ _ _ T2.out.tj.ch (by decide)), hb'⟩
end Go.Proofs.YtofpjbdelmmclaaGreatDoor

/- What the law on evenings leans on. -/
namespace Go.Proofs.YtofpjbdelmmclaaGreatDoor
open Go Go.RowKit
set_option linter.unusedVariables false
set_option linter.unusedSimpArgs false

set_option maxHeartbeats 1000000 in
theorem qSameN_same (a b : Value) (zs : List Int) (w : World) (ha : Ints w a zs) (hb : Ints w b zs) : Calls Tryz.prog 27 #[a, b] w fun e w' => e = .returned (.bool true) ∧ Below w.heap.size w w' := by
  obtain ⟨A, c, rfl, h1, h2, hr⟩ := ha
  obtain ⟨A', c', rfl, h1', h2', hr'⟩ := hb
  unfold maxLen at h2 h2'
  go_enter Tryz.func27, Tryz.ntmps27
  go_wp2_with fail
  go_loopw [13] (fun i wr => ∃ k : Nat, k ≤ zs.length ∧ i = .int .i64 k ∧ Below w.heap.size w wr) (fun i _ => zs.length - (intOf i).toNat)
  case atStart => exact ⟨0, by omega, rfl, Below.refl _ _⟩
  case round =>
    obtain ⟨k, hk, rfl, hB⟩ := hrel
    by_cases hlt : k < zs.length
    · obtain ⟨ad, rfl, hC⟩ := ints_el hr hlt
      obtain ⟨ad', rfl, hC'⟩ := ints_el hr' hlt
      go_wp2_with fail
      go_region_held3 (fun w' => Below w.heap.size w w') (exact Below.drew (by assumption)) (fail)
      go_wp2_with fail
      exact ⟨⟨k + 1, by omega, by go_num, by assumption⟩, by simp [intOf]; omega⟩
    · go_wp2_with fail
      go_ret
      exact ⟨rfl, hB⟩
/-- The number that some bytes tell. -/
def qN (zs : List Int) : Nat := zs.foldl (fun m z => ((31 * (m : Int) + z) % 1000003).toNat) 0
theorem qN_snoc (zs : List Int) (z : Int) : qN (zs ++ [z]) = ((31 * (qN zs : Int) + z) % 1000003).toNat := by unfold qN; rw [List.foldl_append]; rfl
/-- The value v is a slice of the bytes zs. -/
def BytesZ (w : World) (B : Nat) (v : Value) (zs : List Int) : Prop := ∃ A n c, v = .slice A n c ∧ zs.length = n ∧ n ≤ c ∧ c ≤ maxLen ∧ Reads w B 1 A n (zs.map (Value.int .u8)) ∧ ∀ z ∈ zs, 0 ≤ z ∧ z ≤ 255
theorem bytesZ_of {w : World} {B : Nat} {v : Value} (h : BytesAt w B v) : ∃ zs, BytesZ w B v zs := by
  obtain ⟨A, n, c, zs, h1, h2, h3, h4, h5, h6⟩ := h
  exact ⟨zs, A, n, c, h1, h2, h3, h4, h5, h6⟩
theorem BytesZ.keep {w w' : World} {B : Nat} {v : Value} {zs : List Int} (h : BytesZ w B v zs) (hk : ∀ p : Addr, p.block < B → w'.cell? p = w.cell? p) : BytesZ w' B v zs := by
  obtain ⟨A, n, c, h1, h2, h3, h4, h5, h6⟩ := h
  exact ⟨A, n, c, h1, h2, h3, h4, h5.keep hk, h6⟩
set_option maxHeartbeats 1000000 in
theorem qNumber_det (V : Value) (zs : List Int) (w : World) (B : Nat) (h : BytesZ w B V zs) : Calls Tryz.prog 34 #[V] w fun e w' => e = .returned (.int .i64 (qN zs)) ∧ w = w' := by
  obtain ⟨A, n, c, rfl, rfl, hnc, hc, hr, hz⟩ := h
  unfold maxLen at hc
  have Hz := Lib.hid hz
  clear hz
  go_enter Tryz.func34, Tryz.ntmps34
  go_wp2_with fail
  go_loop [3, 8] (fun q i => ∃ k m : Nat, k ≤ zs.length ∧ i = .int .i64 k ∧ q = .int .i64 m ∧ m ≤ 1000002 ∧ Hid (m = qN (zs.take k))) (fun _ i => zs.length - (intOf i).toNat)
  case atStart => exact ⟨0, 0, by omega, rfl, rfl, by omega, Lib.hid rfl⟩
  case round =>
    obtain ⟨k, m, hk, rfl, rfl, hm, Hm⟩ := hrel
    by_cases hlt : k < zs.length
    · obtain ⟨ad, u, rfl, hb, hu, hcell⟩ := hr.at_ (k := k) (by omega)
      have hu' : u = .int .u8 zs[k] := by simpa [hlt] using hu.symm
      subst hu'
      have hzk := Hz.out _ (List.getElem_mem hlt)
      have Hn : Hid (((31 * (m : Int) + zs[k]) % 1000003).toNat = qN (zs.take (k + 1))) := Lib.hid (by rw [List.take_succ_eq_append_getElem hlt, qN_snoc, Hm.out])
      obtain ⟨z, ez⟩ : ∃ z, z = zs[k] := ⟨_, rfl⟩
      rw [← ez] at hcell hzk Hn
      obtain ⟨hz0, hz1⟩ := hzk
      clear hu ez
      have hmod0 : 0 ≤ (31 * (m : Int) + z) % 1000003 := Int.emod_nonneg _ (by omega)
      have hmod1 : (31 * (m : Int) + z) % 1000003 < 1000003 := Int.emod_lt_of_pos _ (by omega)
      go_wp2_with fail
      refine ⟨⟨k + 1, ((31 * (m : Int) + z) % 1000003).toNat, by omega, by go_num, congrArg (Value.int .i64) (by omega), by omega, Hn⟩, by simp [intOf]; omega⟩
    · obtain rfl : k = zs.length := by omega
      have hq : m = qN zs := by have := Hm.out; rwa [List.take_length] at this
      go_wp2_with fail
      go_ret
      exact ⟨rfl, rfl⟩
theorem qN_le (zs : List Int) : qN zs ≤ 1000002 := by
  rcases List.eq_nil_or_concat zs with rfl | ⟨l, z, rfl⟩
  · exact Nat.zero_le _
  · rw [List.concat_eq_append, qN_snoc]
    have h1 : (31 * (qN l : Int) + z) % 1000003 < 1000003 := Int.emod_lt_of_pos _ (by omega)
    omega
/-- The best choice tells places of the list. -/
theorem best_mask (a b c d : Int) (xs : List It) : ∀ n, ∃ q, bestTo a b c d xs n = maskL xs.length q := by
  intro n
  induction n with
  | zero =>
    refine ⟨0, ?_⟩
    show [] = _
    unfold maskL
    simp
  | succ n ih =>
    rw [bestTo_succ]
    unfold stepBest
    split
    · exact ⟨_, rfl⟩
    · exact ih
theorem bit_tmod (Q k : Nat) : (((Q : Int) / 2 ^ k).tmod 2 == 1) = Q.testBit k := by
  have e : (Q : Int) / 2 ^ k = ((Q / 2 ^ k : Nat) : Int) := by rw [Int.natCast_ediv, Int.natCast_pow]; rfl
  rw [e, Int.tmod_eq_emod_of_nonneg (Int.natCast_nonneg _), Nat.testBit_eq_decide_div_mod_eq]
  generalize Q / 2 ^ k = z
  rw [Bool.eq_iff_iff, beq_iff_eq, decide_eq_true_eq]
  omega
theorem mask_mem {n q : Nat} {z : Int} (h : z ∈ maskL n q) : ∃ j : Nat, z = (j : Int) ∧ j < n := by
  unfold maskL at h
  obtain ⟨k, hk, rfl⟩ := List.mem_map.1 h
  exact ⟨k, rfl, List.mem_range.1 (List.mem_filter.1 hk).1⟩
theorem plan_in {a b c d : Int} {xs : List It} {z : Int} (h : z ∈ planL a b c d xs) : ∃ j : Nat, z = (j : Int) ∧ j < xs.length := by
  cases hp : planB a b c d xs
  · rw [planL_no hp] at h; cases h
  · rw [planL_yes hp] at h
    obtain ⟨q, hq⟩ := best_mask a b c d xs (2 ^ xs.length)
    rw [hq] at h
    exact mask_mem h
theorem worth_bdV {xs : List It} (hx : itemsB xs = true) (ch : List Int) : 0 ≤ worthS xs ch ∧ worthS xs ch ≤ 100 * (ch.length : Int) := by
  have hb : ∀ k, 0 ≤ worthAt xs k ∧ worthAt xs k ≤ 100 := by
    intro k
    by_cases h : k < xs.length
    · rw [worthAt_get h]
      unfold itemsB at hx
      rw [Bool.and_eq_true, List.all_eq_true] at hx
      have := itB_bd (hx.1 _ (List.getElem_mem h))
      omega
    · have e : worthAt xs k = 0 := by unfold worthAt; rw [List.getElem?_eq_none (by omega)]; rfl
      omega
  induction ch with
  | nil => rw [worthS_nil]; simp
  | cons z l ih =>
    have e : worthS xs (z :: l) = worthAt xs z.toNat + worthS xs l := rfl
    have := hb z.toNat
    rw [e, List.length_cons]
    omega
/-- What the law asks of the plan, and of any other choice. -/
theorem plan_law {a b c d : Int} {xs : List It} (hp : planB a b c d xs = true) : choiceOk a b c d xs (planL a b c d xs) = true ∧ timeInN a b c d xs (planL a b c d xs) ≤ c ∧ checkB a b c d xs (planL a b c d xs) = true ∧
    ∀ q, choiceOk a b c d xs (maskL xs.length q) = true → timeInN a b c d xs (maskL xs.length q) ≤ c → worthS xs (maskL xs.length q) ≤ worthS xs (planL a b c d xs) := by
  obtain ⟨he, hx⟩ := plan_parts hp
  have hc := (evB_bd he).2.2.2.2.1
  have hf := best_fits a b c d xs hc (2 ^ xs.length)
  unfold fitsB at hf
  rw [Bool.and_eq_true, decide_eq_true_eq] at hf
  have hok : choiceOk a b c d xs (planL a b c d xs) = true := by
    rw [planL_yes hp]; unfold choiceOk; rw [he, hx, hf.1]; rfl
  refine ⟨hok, ?_, ?_, ?_⟩
  · rw [timeInN_yes hok, planL_yes hp]; exact hf.2
  · unfold checkB planL
    rw [hp, if_pos rfl, decide_eq_true rfl]; rfl
  · intro q hq ht
    rw [timeInN_yes hq] at ht
    rw [planL_yes hp]
    refine best_all a b c d xs q ?_
    unfold fitsB
    rw [(choiceOk_parts hq).2.2, decide_eq_true ht]; rfl
end Go.Proofs.YtofpjbdelmmclaaGreatDoor
