/- Contracts: what the law on alike records draws. -/
import Derived.Test.YtamneiffhohleaaX4
namespace Go.Proofs.Ytamneiffhohleaa
open Go Go.RowKit
set_option linter.unusedVariables false
set_option linter.unusedSimpArgs false

theorem cur_new {w wb : World} {C : Nat} {V : Value} (h : BytesAt w w.heap.size V) (hb : Below w.heap.size w wb) (hC : w.heap.size ≤ C) (hh : wb.heap[C]? = some (.cells #[V, .int .i64 0, .int .u64 0] 63 (0, 0))) : Cur wb C 0 :=
  ⟨V, 0, 0, (h.keep (fun p hp => hb.cell hp)).more hC, by omega, by omega, by omega, by omega, own_of_heap hh (Nat.le_refl _) (by unfold maxLen; omega) rfl⟩
set_option maxHeartbeats 1000000 in
theorem drawMerge_any (V : Value) (w : World) (h : BytesAt w w.heap.size V) : Calls Try.prog 18 #[V] w fun e w' =>
    ∃ u v, ∃ xs ys : List Rc, e = .returned (.tuple #[u, v]) ∧ w'.ownsRow w.heap.size 31 5 u xs.length (xs.flatMap Rc.cells) ∧ w'.ownsRow w.heap.size 31 5 v ys.length (ys.flatMap Rc.cells) ∧ AllSm xs ∧ AllSm ys ∧ xs.length ≤ 21 ∧ ys.length ≤ 21 ∧ Below w.heap.size w w' := by
  have H := Lib.hid h
  obtain ⟨A0, n0, c0, zs0, rfl, _⟩ := h
  go_enter Try.func18, Try.ntmps18
  go_wp2_with fail
  refine box1 (C := fun W => Calls _ _ _ W _) ?_
  intro wb hw k1 hB0
  have C0 := Lib.hid (cur_new H.out hw (Nat.le_refl _) k1)
  have hCw : w.heap.size < wb.heap.size := (Array.getElem?_eq_some_iff.1 k1).1
  have Hw := Lib.hid hw
  clear k1 hw
  refine (drawAnyBook_any wb w.heap.size 0 C0.out (by omega)).mono ?_; rintro e w1 ⟨u, xs, rfl, ho1, hs1, hn1, hc1, hg1⟩
  have O1 := Lib.hid ho1
  have S1 := Lib.hid hs1
  have C1 := Lib.hid hc1
  have G1 := Lib.hid hg1
  clear ho1 hs1 hc1 hg1
  go_wp2_with fail
  refine (drawAnyBook_any w1 w.heap.size _ C1.out (by omega)).mono ?_; rintro e w2 ⟨v, ys, rfl, ho2, hs2, hn2, hc2, hg2⟩
  have O1' := Lib.hid (own_base (own_cur O1.out hg2 hCw) (Nat.le_of_lt hCw))
  have O2 := Lib.hid (own_base (base' := w.heap.size) ho2 (by have := G1.out.size; omega))
  have G2 := Lib.hid (gb_below Hw.out (gb_tr G1.out hg2) (Nat.le_refl _))
  have S2 := Lib.hid hs2
  clear ho2 hs2 hc2 hg2
  go_wp2_with fail
  go_ret2
  exact ⟨u, v, xs, ys, rfl, O1'.out, O2.out, S1.out, S2.out, hn1, hn2, G2.out⟩
/-- The state of a draw of a book and a record: the book in V, the record in block B, the result's block R, the cursor in C. -/
def St (w : World) (C R B : Nat) (V : Value) (xs : List Rc) (r : Rc) (lim : Nat) (W : World) : Prop :=
  W.ownsRow (C + 1) 31 5 V xs.length (xs.flatMap Rc.cells) ∧ (∃ y0 y1 y2 y3 y4, W.ownsRow R 31 5 (.slice (some ⟨R, 0, none⟩) 1 1) 1 [y0, y1, y2, y3, y4]) ∧
  W.ownsRow B 31 5 (.slice (some ⟨B, 0, none⟩) 1 1) 1 [.int .i64 r.day, .string r.meth, .string r.touch, .int .i64 r.rows, .string r.note] ∧ Cur W C lim ∧ Below w.heap.size w W ∧ (V.ownBlock = none ∨ V.ownBlock ≠ some B) ∧ (V.ownBlock = none ∨ V.ownBlock ≠ some R) ∧ RcSmall r
theorem St.cur {w : World} {C R B : Nat} {V : Value} {xs : List Rc} {r : Rc} {lim lim' : Nat} {W W' : World} (h : St w C R B V xs r lim W) (hR : R ≠ C) (hB : B ≠ C) (hw : w.heap.size ≤ C) (hg : W.grownBy W' (some C)) (hc : Cur W' C lim') : St w C R B V xs r lim' W' := by
  obtain ⟨h1, ⟨y0, y1, y2, y3, y4, h2⟩, h3, h4, h5, h6, h7, h8⟩ := h
  exact ⟨own_cur h1 hg (by omega), ⟨y0, y1, y2, y3, y4, rc_kept h2 hg hR⟩, rc_kept h3 hg hB, hc, gb_below h5 hg hw, h6, h7, h8⟩
theorem St.to {w : World} {C R B : Nat} {V : Value} {xs : List Rc} {r : Rc} {lim : Nat} {W W' : World} (h : St w C R B V xs r lim W) (hb : Below W.heap.size W W') : St w C R B V xs r lim W' := by
  obtain ⟨h1, ⟨y0, y1, y2, y3, y4, h2⟩, h3, h4, h5, h6, h7, h8⟩ := h
  exact ⟨own_to h1 hb, ⟨y0, y1, y2, y3, y4, own_to h2 hb⟩, own_to h3 hb, h4.to hb, bw_to h5 hb, h6, h7, h8⟩
theorem own_past' {w : World} {base g : Nat} {e : TypeId} {size n : Nat} {v : Value} {xs : List Value} (h : w.ownsRow base e size v n xs) (hne : v.ownBlock = none ∨ v.ownBlock ≠ some g) (j : Nat) (u : Value) : (w.setCell ⟨g, j, none⟩ u).ownsRow base e size v n xs :=
  h.kept (gb_set (gb_refl w g) j u) hne
/-- One field of the record in B written. -/
theorem St.set {w : World} {C R B : Nat} {V : Value} {xs : List Rc} {r r' : Rc} {lim : Nat} {W : World} (h : St w C R B V xs r lim W) (hR : R ≠ B) (hB : C < B) (hw : w.heap.size ≤ C) (j : Nat) (u : Value)
    (he : [Value.int .i64 r.day, .string r.meth, .string r.touch, .int .i64 r.rows, .string r.note].set j u = [.int .i64 r'.day, .string r'.meth, .string r'.touch, .int .i64 r'.rows, .string r'.note]) (hs : RcSmall r') : St w C R B V xs r' lim (W.setCell ⟨B, j, none⟩ u) := by
  obtain ⟨h1, ⟨y0, y1, y2, y3, y4, h2⟩, h3, h4, h5, h6, h7, h8⟩ := h
  refine ⟨own_past' h1 h6 j u, ⟨y0, y1, y2, y3, y4, own_past' h2 (.inr (by simpa [Value.ownBlock] using hR)) j u⟩, ?_, h4.set hB j u, h5.setCell (p := ⟨B, j, none⟩) (by show _ ≤ B; omega) u, h6, h7, hs⟩
  rw [← he]; exact own_set h3 j u
theorem fin5 {w W : World} {C R : Nat} {V : Value} {xs : List Rc} (h1 : W.ownsRow (C + 1) 31 5 V xs.length (xs.flatMap Rc.cells)) (h7 : V.ownBlock = none ∨ V.ownBlock ≠ some R) (hC : w.heap.size ≤ C + 1) (h5 : Below w.heap.size w W) (hR : w.heap.size ≤ R) (a b c d e : Value) :
    ((((((W.setCell ⟨R, 0, none⟩ a).setCell ⟨R, 1, none⟩ b).setCell ⟨R, 2, none⟩ c).setCell ⟨R, 3, none⟩ d).setCell ⟨R, 4, none⟩ e).drew).ownsRow w.heap.size 31 5 V xs.length (xs.flatMap Rc.cells) ∧
    Below w.heap.size w ((((((W.setCell ⟨R, 0, none⟩ a).setCell ⟨R, 1, none⟩ b).setCell ⟨R, 2, none⟩ c).setCell ⟨R, 3, none⟩ d).setCell ⟨R, 4, none⟩ e).drew) :=
  ⟨own_base (own_to (own_past' (own_past' (own_past' (own_past' (own_past' h1 h7 0 a) h7 1 b) h7 2 c) h7 3 d) h7 4 e) (Below.drew (Below.refl _ _))) hC,
   Below.drew (grow_set (grow_set (grow_set (grow_set (grow_set h5 hR a) hR b) hR c) hR d) hR e)⟩
set_option maxRecDepth 10000 in
set_option maxHeartbeats 4000000 in
theorem drawAdd_any (V : Value) (w : World) (h : BytesAt w w.heap.size V) : Calls Try.prog 17 #[V] w fun e w' =>
    ∃ u, ∃ xs : List Rc, ∃ r : Rc, e = .returned (.tuple #[u, .agg #[.int .i64 r.day, .string r.meth, .string r.touch, .int .i64 r.rows, .string r.note]]) ∧ w'.ownsRow w.heap.size 31 5 u xs.length (xs.flatMap Rc.cells) ∧ AllSm xs ∧ xs.length ≤ 21 ∧ RcSmall r ∧ Below w.heap.size w w' := by
  have H := Lib.hid h
  obtain ⟨A0, n0, c0, zs0, rfl, _⟩ := h
  go_enter Try.func17, Try.ntmps17
  go_wp2_with fail
  refine box2 (C := fun W => Calls _ _ _ W _) ?_
  intro wb hw k1 k2 hB0
  have C0 := Lib.hid (cur_new H.out hw (Nat.le_succ _) k2)
  have hCw : w.heap.size + 1 < wb.heap.size := (Array.getElem?_eq_some_iff.1 k2).1
  have R0 := Lib.hid (rc_row k1)
  have Hw := Lib.hid hw
  clear k1 k2 hw
  refine (drawAnyBook_any wb (w.heap.size + 1) 0 C0.out (by omega)).mono ?_; rintro e w1 ⟨u, xs, rfl, ho1, hs1, hn1, hc1, hg1⟩
  have R1 := Lib.hid (rc_kept R0.out hg1 (by omega))
  have O1 := Lib.hid (own_base ho1 (show w.heap.size + 1 + 1 ≤ _ by omega))
  have S1 := Lib.hid hs1
  have C1 := Lib.hid hc1
  have G1 := Lib.hid (gb_below Hw.out hg1 (Nat.le_succ _))
  clear ho1 hs1 hc1 hg1 R0 C0
  go_wp2_with fail
  refine (drawRecord_any w1 (w.heap.size + 1) _ C1.out (by omega)).mono ?_; rintro e w2 ⟨r, rfl, hr2, hc2, hg2⟩
  have hz2 := hc2.lt
  have O2 := own_cur O1.out hg2 (by omega)
  have R2 := rc_kept R1.out hg2 (by omega)
  have hul : ∀ k, u.ownBlock = some k → k < w2.heap.size ∧ w.heap.size + 1 + 1 ≤ k := fun k hk => ⟨(O2.lt k hk).2, (O2.lt k hk).1⟩
  have hbw := (Below.refl w2.heap.size w2).alloc (Nat.le_refl _) (.cells #[.int .i64 r.day, .string r.meth, .string r.touch, .int .i64 r.rows, .string r.note] 31)
  have st : St w (w.heap.size + 1) w.heap.size w2.heap.size u xs r (0 + 2000 + 100) (w2.alloc (.cells #[.int .i64 r.day, .string r.meth, .string r.touch, .int .i64 r.rows, .string r.note] 31)) :=
    ⟨own_to O2 hbw, ⟨_, _, _, _, _, own_to R2 hbw⟩, rc_row (heap_new w2 _), hc2.to hbw, bw_to (gb_below G1.out hg2 (Nat.le_succ _)) hbw,
      (by cases hv : u.ownBlock with
          | none => exact .inl rfl
          | some k => exact .inr (fun x => by injection x with x; have := (hul k hv).1; omega)),
      (by cases hv : u.ownBlock with
          | none => exact .inl rfl
          | some k => exact .inr (fun x => by injection x with x; have := (hul k hv).2; omega)), hr2⟩
  have S2 := Lib.hid st
  obtain ⟨A, c, hu, hcl, hcm, _⟩ := sl_of_own O2
  subst hu
  unfold maxLen at hcm
  unfold Rc.v
  have hBC : w.heap.size + 1 < w2.heap.size := by omega
  clear st hbw hul O2 R2 hc2 hg2 hr2 hz2 G1 C1 O1 R1
  have hRB : w.heap.size ≠ w2.heap.size := by omega
  have hBR : w2.heap.size ≠ w.heap.size := by omega
  have hRC : w.heap.size ≠ w.heap.size + 1 := by omega
  have hBC' : w2.heap.size ≠ w.heap.size + 1 := by omega
  by_cases hlen : 0 < xs.length
  · have st := S2.out
    go_wp2_with fail
    refine (one_any _ (w.heap.size + 1) _ 3 st.2.2.2.1 (by omega) (by omega) (by omega)).mono ?_; rintro e w3 ⟨q, rfl, hc3, hg3⟩
    have S3 := Lib.hid (st.cur hRC hBC' (Nat.le_succ _) hg3 hc3)
    clear hc3 hg3 st S2
    cases q
    · have SN := S3
      obtain ⟨e1, ⟨y0, y1, y2, y3, y4, e2⟩, e3, e4, e5, e6, e7, e8⟩ := SN.out
      obtain ⟨⟨x0, x1, x2, x3, x4⟩, fb⟩ := rc_cells e3
      obtain ⟨⟨r0, r1, r2, r3, r4⟩, fr⟩ := rc_cells e2
      have E := Lib.hid (fin5 (w := w) (R := w.heap.size) e1 e7 (by omega) e5 (Nat.le_refl _))
      have E8 := Lib.hid e8
      clear e1 e2 e3 e4 e5 e6 e7 e8 SN
      go_wp2_with fail
      go_region
      all_goals
        go_wp2_with fail
        refine bodyPost_ret (v := .tuple #[.slice A xs.length c, .agg #[.int .i64 r.day, .string r.meth, .string r.touch, .int .i64 r.rows, .string r.note]]) (by simp [results, go_sem, r0, r1, r2, r3, r4, x0, x1, x2, x3, x4]) rfl ⟨_, xs, r, rfl, (E.out _ _ _ _ _).1, S1.out, hn1, E8.out, (E.out _ _ _ _ _).2⟩
    · go_wp2_with fail
      refine (pick_any _ (w.heap.size + 1) _ xs.length S3.out.2.2.2.1 (by omega) (by omega) (by omega)).mono ?_; rintro e w4 ⟨b, rfl, hb, hc4, hg4⟩
      have S4 := Lib.hid (S3.out.cur hRC hBC' (Nat.le_succ _) hg4 hc4)
      obtain ⟨k, rfl⟩ : ∃ k : Nat, b = k := ⟨b.toNat, by omega⟩
      have hk : k < xs.length := by omega
      clear hc4 hg4 hb S3
      have hel := recs_of_own S4.out.1
      obtain ⟨A', c', e', hh1, hh2, hr⟩ := hel
      cases e'
      obtain ⟨ad, rfl, hC⟩ := recs_el hr rfl hk
      have hC0 := hC w4 (Below.refl _ _)
      have Sk := S1.out _ (List.getElem_mem hk)
      obtain ⟨x, ex⟩ : ∃ x, x = xs[k] := ⟨_, rfl⟩
      rw [← ex] at hC0 Sk
      obtain ⟨⟨x0, x1, x2, x3, x4⟩, fb⟩ := rc_cells S4.out.2.2.1
      have S5 := Lib.hid (((((S4.out.set (r' := ⟨x.day, r.meth, r.touch, r.rows, r.note⟩) hRB hBC (Nat.le_succ _) 0 (.int .i64 x.day) rfl (rc_small S4.out.2.2.2.2.2.2.2.1 S4.out.2.2.2.2.2.2.2.2.1 S4.out.2.2.2.2.2.2.2.2.2)).set (r' := ⟨x.day, x.meth, r.touch, r.rows, r.note⟩) hRB hBC (Nat.le_succ _) 1 (.string x.meth) rfl (rc_small Sk.1 S4.out.2.2.2.2.2.2.2.2.1 S4.out.2.2.2.2.2.2.2.2.2)).set (r' := ⟨x.day, x.meth, x.touch, r.rows, r.note⟩) hRB hBC (Nat.le_succ _) 2 (.string x.touch) rfl (rc_small Sk.1 Sk.2.1 S4.out.2.2.2.2.2.2.2.2.2)).set (r' := ⟨x.day, x.meth, x.touch, x.rows, r.note⟩) hRB hBC (Nat.le_succ _) 3 (.int .i64 x.rows) rfl (rc_small Sk.1 Sk.2.1 S4.out.2.2.2.2.2.2.2.2.2)).set (r' := x) hRB hBC (Nat.le_succ _) 4 (.string x.note) rfl Sk)
      clear hC hr ex
      go_wp2_with fail
      refine (pick_any _ (w.heap.size + 1) _ 9 S5.out.2.2.2.1 (by omega) (by omega) (by omega)).mono ?_; rintro e w6 ⟨z, rfl, hz, hc6, hg6⟩
      have S6 := Lib.hid (S5.out.cur hRC hBC' (Nat.le_succ _) hg6 hc6)
      clear hc6 hg6 hz S5 S4 hC0 x0 x1 x2 x3 x4 fb
      obtain ⟨⟨x0, x1, x2, x3, x4⟩, fb⟩ := rc_cells S6.out.2.2.1
      have Sm := S6.out.2.2.2.2.2.2.2
      have S7 := Lib.hid (S6.out.set (r' := ⟨z, x.meth, x.touch, x.rows, x.note⟩) hRB hBC (Nat.le_succ _) 0 (.int .i64 z) rfl (rc_small Sm.1 Sm.2.1 Sm.2.2))
      by_cases ht : 1 < x.touch.size
      · have hts : x.touch.size ≤ 1048576 := Sm.2.1
        have Hrv := Lib.hid (fun W => l9Reverse_any x.touch W hts (by omega))
        have hrz := rev_size (s := x.touch) (by omega)
        have Htn := Lib.hid (fun W => l9Turn_any (revT x.touch) 1 W (by omega) (by omega))
        have hrt : (rotT (revT x.touch) 1).size = x.touch.size := by rw [rot_size (by omega), hrz]
        obtain ⟨T, hT⟩ : ∃ T, T = rotT (revT x.touch) 1 := ⟨_, rfl⟩
        rw [← hT] at hrt Htn
        have HS := Lib.hid Sm
        clear hT Sm S6 hrz
        go_wp2_with fail
        refine (Hrv.out _).mono ?_; rintro e w8 ⟨rfl, rfl⟩
        go_wp2_with fail
        refine (Htn.out _).mono ?_; rintro e w9 ⟨rfl, hb9⟩
        have S9 := Lib.hid (S7.out.to hb9)
        have S10 := Lib.hid (S9.out.set (r' := ⟨z, x.meth, T, x.rows, x.note⟩) hRB hBC (Nat.le_succ _) 2 (.string T) rfl (rc_small HS.out.1 (by rw [hrt]; exact hts) HS.out.2.2))
        clear hb9 S7 x0 x1 x2 x3 x4 fb
        obtain ⟨⟨x0, x1, x2, x3, x4⟩, fb⟩ := rc_cells S9.out.2.2.1
        obtain ⟨y0, y1, y2, y3, y4, e2⟩ := S9.out.2.1
        obtain ⟨⟨r0, r1, r2, r3, r4⟩, fr⟩ := rc_cells e2
        have E := Lib.hid (fin5 (w := w) (R := w.heap.size) S10.out.1 S10.out.2.2.2.2.2.2.1 (by omega) S10.out.2.2.2.2.1 (Nat.le_refl _))
        have E8 := Lib.hid S10.out.2.2.2.2.2.2.2
        clear e2 S9 S10
        go_wp2_with fail
        go_region
        all_goals
          go_wp2_with fail
          refine bodyPost_ret (v := .tuple #[.slice (some ad) xs.length c, .agg #[.int .i64 z, .string x.meth, .string T, .int .i64 x.rows, .string x.note]]) (by simp [results, go_sem, r0, r1, r2, r3, r4, x0, x1, x2, x3, x4]) rfl ⟨_, xs, ⟨z, x.meth, T, x.rows, x.note⟩, rfl, (E.out _ _ _ _ _).1, S1.out, hn1, E8.out, (E.out _ _ _ _ _).2⟩
      · obtain ⟨y0, y1, y2, y3, y4, e2⟩ := S6.out.2.1
        obtain ⟨⟨r0, r1, r2, r3, r4⟩, fr⟩ := rc_cells e2
        have E := Lib.hid (fin5 (w := w) (R := w.heap.size) S7.out.1 S7.out.2.2.2.2.2.2.1 (by omega) S7.out.2.2.2.2.1 (Nat.le_refl _))
        have E8 := Lib.hid S7.out.2.2.2.2.2.2.2
        clear e2 Sm S7 S6
        go_wp2_with fail
        go_region
        all_goals
          go_wp2_with fail
          refine bodyPost_ret (v := .tuple #[.slice (some ad) xs.length c, .agg #[.int .i64 z, .string x.meth, .string x.touch, .int .i64 x.rows, .string x.note]]) (by simp [results, go_sem, r0, r1, r2, r3, r4, x0, x1, x2, x3, x4]) rfl ⟨_, xs, ⟨z, x.meth, x.touch, x.rows, x.note⟩, rfl, (E.out _ _ _ _ _).1, S1.out, hn1, E8.out, (E.out _ _ _ _ _).2⟩
  · have SN := S2
    obtain ⟨e1, ⟨y0, y1, y2, y3, y4, e2⟩, e3, e4, e5, e6, e7, e8⟩ := SN.out
    obtain ⟨⟨x0, x1, x2, x3, x4⟩, fb⟩ := rc_cells e3
    obtain ⟨⟨r0, r1, r2, r3, r4⟩, fr⟩ := rc_cells e2
    have E := Lib.hid (fin5 (w := w) (R := w.heap.size) e1 e7 (by omega) e5 (Nat.le_refl _))
    have E8 := Lib.hid e8
    clear e1 e2 e3 e4 e5 e6 e7 e8 SN
    go_wp2_with fail
    go_region
    all_goals
      go_wp2_with fail
      refine bodyPost_ret (v := .tuple #[.slice A xs.length c, .agg #[.int .i64 r.day, .string r.meth, .string r.touch, .int .i64 r.rows, .string r.note]]) (by simp [results, go_sem, r0, r1, r2, r3, r4, x0, x1, x2, x3, x4]) rfl ⟨_, xs, r, rfl, (E.out _ _ _ _ _).1, S1.out, hn1, E8.out, (E.out _ _ _ _ _).2⟩
set_option maxHeartbeats 1000000 in
theorem drawFind_any (V : Value) (w : World) (h : BytesAt w w.heap.size V) : Calls Try.prog 19 #[V] w fun e w' =>
    ∃ u, ∃ xs : List Rc, ∃ m t : ByteArray, e = .returned (.tuple #[u, .string m, .string t]) ∧ w'.ownsRow w.heap.size 31 5 u xs.length (xs.flatMap Rc.cells) ∧ AllSm xs ∧ xs.length ≤ 21 ∧ m.size ≤ 1048576 ∧ t.size ≤ 1048576 ∧ Below w.heap.size w w' := by
  have H := Lib.hid h
  clear h
  go_enter Try.func19, Try.ntmps19
  go_wp2_with fail
  refine (drawAdd_any V w H.out).mono ?_; rintro e w1 ⟨u, xs, r, rfl, ho, hs, hn, hr, hb⟩
  obtain ⟨A, c, rfl, hcl, hcm, _⟩ := sl_of_own ho
  unfold maxLen at hcm
  have O := Lib.hid (own_to ho ((Below.refl w1.heap.size w1).alloc (Nat.le_refl _) (.cells #[.int .i64 r.day, .string r.meth, .string r.touch, .int .i64 r.rows, .string r.note] 31)))
  have B := Lib.hid (bw_to hb ((Below.refl w1.heap.size w1).alloc (Nat.le_refl _) (.cells #[.int .i64 r.day, .string r.meth, .string r.touch, .int .i64 r.rows, .string r.note] 31)))
  have S := Lib.hid hs
  have Hr := Lib.hid hr
  clear ho hs hr hb
  go_wp2_with fail
  go_big_quiet (fail)
  go_wp2_with fail
  exact bodyPost_ret (v := .tuple #[.slice A xs.length c, .string r.meth, .string r.touch]) (by simp [results, go_sem]) rfl ⟨_, xs, r.meth, r.touch, rfl, own_dr O.out _, S.out, hn, Hr.out.1, Hr.out.2.1, bw_dr B.out _⟩
end Go.Proofs.Ytamneiffhohleaa
