/- Contracts: a band at the beginning; both sides. -/
import Derived.Test.YtimeecimaokldaaGreatDoorPk26
namespace Go.Proofs.YtimeecimaokldaaGreatDoor
open Go Go.RowKit
set_option linter.unusedVariables false
set_option linter.unusedSimpArgs false

theorem two_mem {u v : Value} (h : u.oneCell' = true) (h2 : v.oneCell' = true) : ∀ x ∈ [u, v], x.oneCell' = true := by
  intro x hx
  simp at hx
  rcases hx with rfl | rfl
  · exact h
  · exact h2
theorem oth9 {W : World} {B b : Nat} {x0 x1 x2 x3 x4 x5 x6 x7 x8 : Value} (h : b ≠ B) : (((((((((W.setCell ⟨B, 0, none⟩ x0).setCell ⟨B, 1, none⟩ x1).setCell ⟨B, 2, none⟩ x2).setCell ⟨B, 3, none⟩ x3).setCell ⟨B, 4, none⟩ x4).setCell ⟨B, 5, none⟩ x5).setCell ⟨B, 6, none⟩ x6).setCell ⟨B, 7, none⟩ x7).setCell ⟨B, 8, none⟩ x8).heap[b]? = W.heap[b]? := by
  rw [set_othB h, set_othB h, set_othB h, set_othB h, set_othB h, set_othB h, set_othB h, set_othB h, set_othB h]
theorem Bc.s9 {W : World} {B : Nat} {c0 c1 c2 c3 c4 c5 c6 c7 c8 : Value} {t : TypeId} (h : Bc W B [c0, c1, c2, c3, c4, c5, c6, c7, c8] t) (x0 x1 x2 x3 x4 x5 x6 x7 x8 : Value) :
    Bc (((((((((W.setCell ⟨B, 0, none⟩ x0).setCell ⟨B, 1, none⟩ x1).setCell ⟨B, 2, none⟩ x2).setCell ⟨B, 3, none⟩ x3).setCell ⟨B, 4, none⟩ x4).setCell ⟨B, 5, none⟩ x5).setCell ⟨B, 6, none⟩ x6).setCell ⟨B, 7, none⟩ x7).setCell ⟨B, 8, none⟩ x8) B [x0, x1, x2, x3, x4, x5, x6, x7, x8] t :=
  ((((((((h.set 0 x0).set 1 x1).set 2 x2).set 3 x3).set 4 x4).set 5 x5).set 6 x6).set 7 x7).set 8 x8
theorem box_inD {X w' : World} {o : Obj} (hb : Below (X.alloc o).drew.heap.size (X.alloc o).drew w') : w'.heap[X.heap.size]? = some o := (hb.block _ (by show X.heap.size < (X.alloc o).heap.size; simp)).trans (heap_new X o)
theorem bc_of {W : World} {B : Nat} {c0 c1 c2 c3 c4 c5 c6 c7 c8 : Value} {t : TypeId} (h : W.heap[B]? = some (.cells #[c0, c1, c2, c3, c4, c5, c6, c7, c8] t (0, 0))) : Bc W B [c0, c1, c2, c3, c4, c5, c6, c7, c8] t := h
/-- What the making of a band's variable leaves. -/
def NewPost (wb : World) (m : Mt) (k : Cl) (n : Nat) (G : Nat) (A1 : Option Addr) (c1 : Nat) (W : World) : Prop :=
  Bc W G [.string m.name, .int .i64 n, .slice A1 m.l.length c1, .string k.bob, .string k.single, .int .i64 0, .string ⟨#[112]⟩, .string (roundsB n), .slice none 0 0] 33 ∧ W.ownsRow wb.heap.size 9 1 (.slice A1 m.l.length c1) m.l.length (m.l.map Value.string) ∧ Below wb.heap.size wb W ∧ wb.heap.size ≤ G ∧ ∀ g1, A1 = some ⟨g1, 0, none⟩ → g1 ≠ G
theorem new_post {wb W : World} {m : Mt} {k : Cl} {n G : Nat} {A1 : Option Addr} {c1 : Nat} {z0 z1 z2 z3 z4 z5 z6 z7 z8 : Value} {base : Nat} (hz : Bc W G [z0, z1, z2, z3, z4, z5, z6, z7, z8] 33) (ho : W.ownsRow base 9 1 (.slice A1 m.l.length c1) m.l.length (m.l.map Value.string)) (hl : 1 ≤ m.l.length)
    (hbase : wb.heap.size ≤ base) (hb : Below wb.heap.size wb W) (hG : wb.heap.size ≤ G) (hne : ∀ g1, A1 = some ⟨g1, 0, none⟩ → g1 ≠ G) :
    NewPost wb m k n G A1 c1 (((((((((W.setCell ⟨G, 0, none⟩ (.string m.name)).setCell ⟨G, 1, none⟩ (.int .i64 n)).setCell ⟨G, 2, none⟩ (.slice A1 m.l.length c1)).setCell ⟨G, 3, none⟩ (.string k.bob)).setCell ⟨G, 4, none⟩ (.string k.single)).setCell ⟨G, 5, none⟩ (.int .i64 0)).setCell ⟨G, 6, none⟩ (.string ⟨#[112]⟩)).setCell ⟨G, 7, none⟩ (.string (roundsB n))).setCell ⟨G, 8, none⟩ (.slice none 0 0)) := by
  obtain ⟨g1, rfl, _, _⟩ := own_ptrB ho hl
  exact ⟨hz.s9 _ _ _ _ _ _ _ _ _, own_base (own_blkB ho (oth9 (hne g1 rfl))) hbase, bw9 hb hG, hG, hne⟩
set_option maxRecDepth 100000 in
set_option maxHeartbeats 8000000 in
theorem newBand_any (m : Mt) (v : Value) (k : Cl) (n : Nat) (w : World) (hg : CGood m k n) (hv : Strs w v m.l) (hn : NilOk v) : Calls Tryz.prog 52 #[m.v v, k.v] w (BdPost w m k (newB n)) := by
  have hl := hg.m.len
  have hn8 := hg.m.hi
  have hn3 := hg.m.lo
  have hsg := hg.m.st
  have Hc1 := Lib.hid (fun W (hW : Below w.heap.size w W) => cloneStr_any v m.l W (hv.to hW) hn (by omega))
  have Hro := Lib.hid (fun W => rounds_any n W hn8)
  obtain ⟨A, q, rfl, _⟩ := hv
  have Hwc := Lib.hid (fun (w : World) A' q' => withChanges_any m (.slice A m.l.length q) A' m.l.length q' w)
  have Hsg := Lib.hid hsg
  unfold Mt.v Cl.v at *
  rw [hsg] at Hwc ⊢
  clear hg hsg
  go_enter Tryz.func52, Tryz.ntmps52
  go_wp2_with fail
  refine box3 (C := fun W => Code.wp _ _ _ _ W) ?_
  intro wb hw k1 k2 k3 hB0
  have h1 : Bc wb w.heap.size [.string m.name, .int .i64 n, .slice A m.l.length q] 29 := k1
  have h2 : Bc wb (w.heap.size + 1) [.string k.bob, .string k.single] 30 := k2
  obtain ⟨t3, h3⟩ : ∃ t, Bc wb (w.heap.size + 2) [.string ⟨#[]⟩, .int .i64 0, .slice none 0 0, .string ⟨#[]⟩, .string ⟨#[]⟩, .int .i64 0, .string ⟨#[]⟩, .string ⟨#[]⟩, .slice none 0 0] t := ⟨_, k3⟩
  clear k1 k2 k3
  have hz1 := h1.blk
  have hz2 := h2.blk
  have hz3 := h3.blk
  have R0 : ∀ W, Below wb.heap.size wb W → W.cell? ⟨w.heap.size, 0, none⟩ = some (.string m.name) := fun W hW => (h1.to hW hz1).at_ 0 rfl
  have R1 : ∀ W, Below wb.heap.size wb W → W.cell? ⟨w.heap.size, 1, none⟩ = some (.int .i64 n) := fun W hW => (h1.to hW hz1).at_ 1 rfl
  have R2 : ∀ W, Below wb.heap.size wb W → W.cell? ⟨w.heap.size, 2, none⟩ = some (.slice A m.l.length q) := fun W hW => (h1.to hW hz1).at_ 2 rfl
  have S0 : ∀ W, Below wb.heap.size wb W → W.cell? ⟨w.heap.size + 1, 0, none⟩ = some (.string k.bob) := fun W hW => (h2.to hW hz2).at_ 0 rfl
  have S1 : ∀ W, Below wb.heap.size wb W → W.cell? ⟨w.heap.size + 1, 1, none⟩ = some (.string k.single) := fun W hW => (h2.to hW hz2).at_ 1 rfl
  have hst : Below wb.heap.size wb wb := Below.refl _ _
  have Hw := Lib.hid hw
  have H1 := Lib.hid h1
  have H3 := Lib.hid h3
  clear h1 h2 h3 hB0
  go_cut [5] (fun x wx => ∃ G A1 c1, x = .pointer (some ⟨G, 0, none⟩) ∧ Hid (NewPost wb m k n G A1 c1 wx))
  case first =>
    go_region_held3 (fun W => Below wb.heap.size wb W) (first | with_reducible assumption | with_reducible exact Below.drew (by assumption) | with_reducible exact hkA | with_reducible exact hkB | with_reducible exact bw_al (by assumption) _ | with_reducible exact bw9 hkB (Nat.le_refl _) | with_reducible exact bw9 hkB hkA.size | with_reducible exact bw9 (bw_al hkB _) hkB.size | exact bw_al (Below.drew (Below.refl _ _)) _ | exact bw_al (by assumption) _)
      (first | (go_at_call 104; refine (Hro.out _).mono ?_; rintro e w' ⟨rfl, rfl⟩) | (go_at_call 102; (with_reducible refine (Hwc.out _ _ _).mono ?_); rintro e w' ⟨rfl, hb'⟩; (have hkB := bw_to (by assumption : Below wb.heap.size wb _) hb'); (try ((first | (have kb := box_in hb') | (have kb := (hb'.block _ (blk_lt kbA)).trans kbA)); (obtain ⟨⟨c0, c1, c2, c3, c4, c5, c6, c7, c8⟩, f0, f1, f2, f3, f4, f5, f6, f7, f8⟩ := Bc.all9 (bc_of kb))))) | (go_at_call 103; refine (Hc1.out _ (bw_to Hw.out (by assumption))).mono ?_; rintro e w' ⟨r', rfl, hown, hb'⟩; (have hkA := bw_to (by assumption : Below wb.heap.size wb _) hb'); (obtain ⟨A1, q1, hrs⟩ := nb_slE hown); subst hrs; (have hown1 : World.ownsRow _ wb.heap.size _ _ _ _ _ := own_base hown (Below.size (by assumption))); (have hbC := hb'); (try (have kbA := box_inD (X := wb) hb'))))
    · go_wp2_with fail
      go_meet
      have ho9 := own_to hown1 hb'
      exact ⟨_, A1, q1, rfl, Lib.hid ⟨heap_new _ _, own_to ho9 (bw_al (Below.refl _ _) _), bw_al hkB _, hkB.size, fun g1 hg1 => by
        obtain ⟨g, he, _, hlt⟩ := own_ptrB ho9 hl.1
        rw [hg1] at he; injection he with he; injection he with he
        exact Nat.ne_of_lt (by rw [he]; exact hlt)⟩⟩
    · go_wp2_with fail
      go_meet
      have ho9 := own_to hown1 hb'
      exact ⟨_, A1, q1, rfl, Lib.hid ⟨heap_new _ _, own_to ho9 (bw_al (Below.refl _ _) _), bw_al hkB _, hkB.size, fun g1 hg1 => by
        obtain ⟨g, he, _, hlt⟩ := own_ptrB ho9 hl.1
        rw [hg1] at he; injection he with he; injection he with he
        exact Nat.ne_of_lt (by rw [he]; exact hlt)⟩⟩
    · go_wp2_with fail
      go_meet
      have ho9 := own_to hown1 (bw_to (bw_al (Below.refl _ _) _) hb')
      refine ⟨_, A1, q1, rfl, Lib.hid ?_⟩
      refine new_post (bc_of kb) ho9 hl.1 (Nat.le_refl _) hkB hkA.size ?_
      intro g1 hg1
      obtain ⟨g, he, _, hlt⟩ := own_ptrB hown1 hl.1
      rw [hg1] at he; injection he with he; injection he with he
      exact Nat.ne_of_lt (by rw [he]; exact hlt)
    · go_wp2_with fail
      go_meet
      have ho9 := own_to hown1 hb'
      refine ⟨_, A1, q1, rfl, Lib.hid ?_⟩
      refine new_post (bc_of kb) ho9 hl.1 (Nat.le_refl _) hkB (Nat.le_refl _) ?_
      intro g1 hg1
      obtain ⟨g, he, hge, hlt⟩ := own_ptrB hown hl.1
      rw [hg1] at he; injection he with he; injection he with he
      have hge' : wb.heap.size + 1 ≤ g := by
        have := hge
        simpa using this
      omega
  case rest =>
  obtain ⟨G, A1, c1, rfl, HN⟩ := hcut
  have hGw := HN.out.1.blk
  have hGb := HN.out.2.2.2.1
  have HNg := Lib.hid HN.out.2.2.2.2
  have Hng : Hid (∀ p, ((List.range (p + 1)).map fun i => ((i + 1 : Nat), false)).flatMap rsC = ((List.range p).map fun i => (i + 1, false)).flatMap rsC ++ [.int .i64 ((p + 1 : Nat) : Int), .bool false]) := Lib.hid (fun p => by rw [List.range_succ, List.map_append, List.flatMap_append]; rfl)
  clear hst
  go_wp2_with fail
  go_loopw [6] (fun i wx => ∃ (p : Nat) (A2 : Option Addr) (c2 : Nat), p ≤ n ∧ i = .int .i64 ((p : Int) + 1) ∧ Hid (Bc wx G [.string m.name, .int .i64 n, .slice A1 m.l.length c1, .string k.bob, .string k.single, .int .i64 0, .string ⟨#[112]⟩, .string (roundsB n), .slice A2 p c2] 33) ∧ Hid (wx.ownsRow wb.heap.size 9 1 (.slice A1 m.l.length c1) m.l.length (m.l.map Value.string)) ∧
    Hid (wx.ownsRow wb.heap.size 104 2 (.slice A2 p c2) p (((List.range p).map fun i => (i + 1, false)).flatMap rsC)) ∧ Hid (Below wb.heap.size wb wx) ∧ Hid ((Value.slice A2 p c2).ownBlock ≠ some G)) (fun i _ => n + 1 - (intOf i).toNat)
  case atStart => exact ⟨0, none, 0, by omega, rfl, Lib.hid HN.out.1, Lib.hid HN.out.2.1, Lib.hid ⟨rfl, .inl ⟨rfl, rfl⟩⟩, Lib.hid HN.out.2.2.1, Lib.hid (by simp [Value.ownBlock])⟩
  case round =>
    obtain ⟨p, A2, c2, hp, rfl, HG, HO1, HO2, HB, HNe⟩ := hrel
    have x1 := R1 wr HB.out
    have wp1 : IntKind.i64.wrap ((p : Int) + 1 + 1) = ((p + 1 : Nat) : Int) + 1 := by rw [IntWalk.i64_in _ ⟨by omega, by omega⟩]; omega
    have hGr := HG.out.blk
    have hzr := HB.out.size
    by_cases hlt : p < n
    · have hle : ((p : Int) + 1 ≤ (n : Int)) := by omega
      have y8 := HG.out.at_ 8 rfl
      go_upto_region 4 with (at_builtin; go_must (refine wpList_app _ rfl _ _ _ rfl wb.heap.size 104 _ 2 16 Tryz.underlying31 info_Rg rfl (by omega) HO2.out [.int .i64 ((p : Int) + 1), .bool false] rfl rfl rfl (two_mem rfl rfl) (by omega) (by omega) hzr ?_); intro v3 w3 hown3 hb3 hg3 hnb3; (obtain ⟨A3, q3, rfl⟩ := nb_slE hown3); (have Hown3 := Lib.hid hown3); (have Hb3 := Lib.hid (HB.out.trans hb3)); (have Hg3 := Lib.hid hg3); (have Hnb3 := Lib.hid hnb3); (have G3 := HG.out.same (hg3.block G hGr (fun h => HNe.out h.symm))); (have z8 := G3.at_ 8 rfl); (have f8 := G3.frz 8); clear hown3 hb3 hg3 hnb3 y8)
      have G3' := G3.set 8 (.slice A3 (p + 1) q3)
      have O1' := own_set_past' (HO1.out.kept (row := (Value.slice A2 p c2).ownBlock) Hg3.out (own_kinds' HO1.out HO2.out (by decide))) (.inr (fun e => by
        obtain ⟨g1, h1, _, hl1⟩ := own_ptrB HN.out.2.1 hl.1
        rw [h1] at e
        simp [Value.ownBlock] at e
        exact HNg.out g1 h1 e)) 8 (.slice A3 (p + 1) q3) (g := G)
      have hne3 : (Value.slice A3 (p + 1) q3).ownBlock ≠ some G := fun e => by
        rcases Hnb3.out with h | h
        · exact HNe.out (h.symm.trans e)
        · have := h G e; omega
      have O2' := own_set_past' Hown3.out (.inr hne3) 8 (.slice A3 (p + 1) q3) (g := G)
      have hbb := Hb3.out.setCell (p := ⟨G, 8, none⟩) hGb (.slice A3 (p + 1) q3)
      have Hlast : Hid (_ = _) := Lib.hid (Hng.out p)
      clear z8 f8 x1
      go_wp2_with fail
      refine ⟨⟨p + 1, A3, q3, hlt, by rfl, Lib.hid G3', Lib.hid O1', Lib.hid ?_, Lib.hid hbb, Lib.hid hne3⟩, by simp [intOf]; omega⟩
      rw [Hlast.out]
      exact O2'
    · obtain rfl : p = n := by omega
      have hle : ¬ ((p : Int) + 1 ≤ (p : Int)) := by omega
      have hR3 := H3.out.to HB.out hz3
      have hnb : (newB p).rs.length = p := by simp [newB]
      have Hnb := Lib.hid hnb
      clear hnb
      obtain ⟨⟨y0, y1, y2, y3, y4, y5, y6, y7, y8⟩, _⟩ := HG.out.all9
      obtain ⟨⟨z0, z1, z2, z3, z4, z5, z6, z7, z8⟩, f0, f1, f2, f3, f4, f5, f6, f7, f8⟩ := hR3.all9
      obtain ⟨e0, e1, e2, e3, e4, e5, e6, e7, e8⟩ := hR3.e9 (.string m.name) (.int .i64 p) (.slice A1 m.l.length c1) (.string k.bob) (.string k.single) (.int .i64 0) (.string ⟨#[112]⟩) (.string (roundsB p)) (.slice A2 p c2)
      have E := Lib.hid (And.intro e0 (And.intro e1 (And.intro e2 (And.intro e3 (And.intro e4 (And.intro e5 (And.intro e6 (And.intro e7 e8))))))))
      clear e0 e1 e2 e3 e4 e5 e6 e7 e8 hR3
      go_wp2_with fail
      obtain ⟨e0, e1, e2, e3, e4, e5, e6, e7, e8⟩ := E.out
      refine bodyPost_ret (v := .agg #[.string m.name, .int .i64 p, .slice A1 m.l.length c1, .string k.bob, .string k.single, .int .i64 0, .string ⟨#[112]⟩, .string (roundsB p), .slice A2 p c2]) (by simp [results, go_sem, e0, e1, e2, e3, e4, e5, e6, e7, e8]) rfl ⟨A1, c1, A2, c2, ?_, own_base (own9 HO1.out (by omega)) (by omega), ?_, bw9 (Hw.out.trans (HB.out.mono (by omega))) (by omega)⟩
      · rw [Hnb.out]; unfold Bd.v newB; simp only; rw [Hsg.out]; rfl
      · rw [Hnb.out]
        exact own_base (own9 HO2.out (by omega)) (by omega)
end Go.Proofs.YtimeecimaokldaaGreatDoor

/- Contract: a band at the beginning, the reference's. -/
namespace Go.Proofs.YtimeecimaokldaaGreatDoor
open Go Go.RowKit
set_option linter.unusedVariables false
set_option linter.unusedSimpArgs false

set_option maxRecDepth 100000 in
set_option maxHeartbeats 8000000 in
theorem l24New_any (m : Mt) (v : Value) (k : Cl) (n : Nat) (w : World) (hg : CGood m k n) (hv : Strs w v m.l) (hn : NilOk v) : Calls Tryz.prog 46 #[m.v v, k.v] w (BdPost w m k (newB n)) := by
  have hl := hg.m.len
  have hn8 := hg.m.hi
  have hn3 := hg.m.lo
  have hsg := hg.m.st
  have Hc1 := Lib.hid (fun W (hW : Below w.heap.size w W) => l4Own_any m v W (hv.to hW) hn (by omega))
  have Hro := Lib.hid (fun W => l1Rounds_any n W hn8)
  obtain ⟨A, q, rfl, _⟩ := hv
  have Hsg := Lib.hid hsg
  unfold Mt.v Cl.v at *
  rw [hsg] at Hc1 ⊢
  clear hg hsg
  go_enter Tryz.func46, Tryz.ntmps46
  go_wp2_with fail
  refine box3 (C := fun W => Code.wp _ _ _ _ W) ?_
  intro wb hw k1 k2 k3 hB0
  have h1 : Bc wb w.heap.size [.string m.name, .int .i64 n, .slice A m.l.length q] 29 := k1
  have h2 : Bc wb (w.heap.size + 1) [.string k.bob, .string k.single] 30 := k2
  obtain ⟨t3, h3⟩ : ∃ t, Bc wb (w.heap.size + 2) [.string ⟨#[]⟩, .int .i64 0, .slice none 0 0, .string ⟨#[]⟩, .string ⟨#[]⟩, .int .i64 0, .string ⟨#[]⟩, .string ⟨#[]⟩, .slice none 0 0] t := ⟨_, k3⟩
  clear k1 k2 k3
  have hz1 := h1.blk
  have hz2 := h2.blk
  have hz3 := h3.blk
  have R0 : ∀ W, Below wb.heap.size wb W → W.cell? ⟨w.heap.size, 0, none⟩ = some (.string m.name) := fun W hW => (h1.to hW hz1).at_ 0 rfl
  have R1 : ∀ W, Below wb.heap.size wb W → W.cell? ⟨w.heap.size, 1, none⟩ = some (.int .i64 n) := fun W hW => (h1.to hW hz1).at_ 1 rfl
  have R2 : ∀ W, Below wb.heap.size wb W → W.cell? ⟨w.heap.size, 2, none⟩ = some (.slice A m.l.length q) := fun W hW => (h1.to hW hz1).at_ 2 rfl
  have S0 : ∀ W, Below wb.heap.size wb W → W.cell? ⟨w.heap.size + 1, 0, none⟩ = some (.string k.bob) := fun W hW => (h2.to hW hz2).at_ 0 rfl
  have S1 : ∀ W, Below wb.heap.size wb W → W.cell? ⟨w.heap.size + 1, 1, none⟩ = some (.string k.single) := fun W hW => (h2.to hW hz2).at_ 1 rfl
  have hst : Below wb.heap.size wb wb := Below.refl _ _
  have Hw := Lib.hid hw
  have H1 := Lib.hid h1
  have H3 := Lib.hid h3
  clear h1 h2 h3 hB0
  go_cut [5] (fun x wx => ∃ G A1 c1, x = .pointer (some ⟨G, 0, none⟩) ∧ Hid (NewPost wb m k n G A1 c1 wx))
  case first =>
    go_region_held3 (fun W => Below wb.heap.size wb W) (first | with_reducible assumption | with_reducible exact Below.drew (by assumption) | with_reducible exact hkA | with_reducible exact bw_al (by assumption) _ | with_reducible exact bw9 hkA (Nat.le_refl _) | with_reducible exact bw9 hkA hkA.size | with_reducible exact bw9 (bw_al hkA _) hkA.size | exact bw_al (Below.drew (Below.refl _ _)) _ | exact bw_al (by assumption) _)
      (first | (go_at_call 96; refine (Hro.out _).mono ?_; rintro e w' ⟨rfl, rfl⟩) | (go_at_call 95; refine (Hc1.out _ (bw_to Hw.out (by assumption))).mono ?_; rintro e w' ⟨r', rfl, hown, hb'⟩; (have hkA := bw_to (by assumption : Below wb.heap.size wb _) hb'); (obtain ⟨A1, q1, hrs⟩ := nb_slE hown); subst hrs; (have hown1 : World.ownsRow _ wb.heap.size _ _ _ _ _ := own_base hown (Below.size (by assumption))); (try ((have kb := box_inD (X := wb) hb'); (obtain ⟨⟨c0, c1, c2, c3, c4, c5, c6, c7, c8⟩, f0, f1, f2, f3, f4, f5, f6, f7, f8⟩ := Bc.all9 (bc_of kb))))))
    · go_wp2_with fail
      go_meet
      exact ⟨_, A1, q1, rfl, Lib.hid ⟨heap_new _ _, own_to hown1 (bw_al (Below.refl _ _) _), bw_al hkA _, hkA.size, fun g1 hg1 => by
        obtain ⟨g, he, _, hlt⟩ := own_ptrB hown1 hl.1
        rw [hg1] at he; injection he with he; injection he with he
        exact Nat.ne_of_lt (by rw [he]; exact hlt)⟩⟩
    · go_wp2_with fail
      go_meet
      exact ⟨_, A1, q1, rfl, Lib.hid ⟨heap_new _ _, own_to hown1 (bw_al (Below.refl _ _) _), bw_al hkA _, hkA.size, fun g1 hg1 => by
        obtain ⟨g, he, _, hlt⟩ := own_ptrB hown1 hl.1
        rw [hg1] at he; injection he with he; injection he with he
        exact Nat.ne_of_lt (by rw [he]; exact hlt)⟩⟩
    · go_wp2_with fail
      go_meet
      refine ⟨_, A1, q1, rfl, Lib.hid ?_⟩
      refine new_post (bc_of kb) hown1 hl.1 (Nat.le_refl _) hkA (Nat.le_refl _) ?_
      intro g1 hg1
      obtain ⟨g, he, hge, hlt⟩ := own_ptrB hown hl.1
      rw [hg1] at he; injection he with he; injection he with he
      have hge' : wb.heap.size + 1 ≤ g := by
        have := hge
        simpa using this
      omega
  case rest =>
  obtain ⟨G, A1, c1, rfl, HN⟩ := hcut
  have hGw := HN.out.1.blk
  have hGb := HN.out.2.2.2.1
  have HNg := Lib.hid HN.out.2.2.2.2
  have Hng : Hid (∀ p, ((List.range (p + 1)).map fun i => ((i + 1 : Nat), false)).flatMap rsC = ((List.range p).map fun i => (i + 1, false)).flatMap rsC ++ [.int .i64 ((p + 1 : Nat) : Int), .bool false]) := Lib.hid (fun p => by rw [List.range_succ, List.map_append, List.flatMap_append]; rfl)
  clear hst
  go_wp2_with fail
  go_loopw [6] (fun i wx => ∃ (p : Nat) (A2 : Option Addr) (c2 : Nat), p ≤ n ∧ i = .int .i64 ((p : Int) + 1) ∧ Hid (Bc wx G [.string m.name, .int .i64 n, .slice A1 m.l.length c1, .string k.bob, .string k.single, .int .i64 0, .string ⟨#[112]⟩, .string (roundsB n), .slice A2 p c2] 33) ∧ Hid (wx.ownsRow wb.heap.size 9 1 (.slice A1 m.l.length c1) m.l.length (m.l.map Value.string)) ∧
    Hid (wx.ownsRow wb.heap.size 104 2 (.slice A2 p c2) p (((List.range p).map fun i => (i + 1, false)).flatMap rsC)) ∧ Hid (Below wb.heap.size wb wx) ∧ Hid ((Value.slice A2 p c2).ownBlock ≠ some G)) (fun i _ => n + 1 - (intOf i).toNat)
  case atStart => exact ⟨0, none, 0, by omega, rfl, Lib.hid HN.out.1, Lib.hid HN.out.2.1, Lib.hid ⟨rfl, .inl ⟨rfl, rfl⟩⟩, Lib.hid HN.out.2.2.1, Lib.hid (by simp [Value.ownBlock])⟩
  case round =>
    obtain ⟨p, A2, c2, hp, rfl, HG, HO1, HO2, HB, HNe⟩ := hrel
    have x1 := R1 wr HB.out
    have wp1 : IntKind.i64.wrap ((p : Int) + 1 + 1) = ((p + 1 : Nat) : Int) + 1 := by rw [IntWalk.i64_in _ ⟨by omega, by omega⟩]; omega
    have hGr := HG.out.blk
    have hzr := HB.out.size
    by_cases hlt : p < n
    · have hle : ((p : Int) + 1 ≤ (n : Int)) := by omega
      have y8 := HG.out.at_ 8 rfl
      go_upto_region 4 with (at_builtin; go_must (refine wpList_app _ rfl _ _ _ rfl wb.heap.size 104 _ 2 16 Tryz.underlying31 info_Rg rfl (by omega) HO2.out [.int .i64 ((p : Int) + 1), .bool false] rfl rfl rfl (two_mem rfl rfl) (by omega) (by omega) hzr ?_); intro v3 w3 hown3 hb3 hg3 hnb3; (obtain ⟨A3, q3, rfl⟩ := nb_slE hown3); (have Hown3 := Lib.hid hown3); (have Hb3 := Lib.hid (HB.out.trans hb3)); (have Hg3 := Lib.hid hg3); (have Hnb3 := Lib.hid hnb3); (have G3 := HG.out.same (hg3.block G hGr (fun h => HNe.out h.symm))); (have z8 := G3.at_ 8 rfl); (have f8 := G3.frz 8); clear hown3 hb3 hg3 hnb3 y8)
      have G3' := G3.set 8 (.slice A3 (p + 1) q3)
      have O1' := own_set_past' (HO1.out.kept (row := (Value.slice A2 p c2).ownBlock) Hg3.out (own_kinds' HO1.out HO2.out (by decide))) (.inr (fun e => by
        obtain ⟨g1, h1, _, hl1⟩ := own_ptrB HN.out.2.1 hl.1
        rw [h1] at e
        simp [Value.ownBlock] at e
        exact HNg.out g1 h1 e)) 8 (.slice A3 (p + 1) q3) (g := G)
      have hne3 : (Value.slice A3 (p + 1) q3).ownBlock ≠ some G := fun e => by
        rcases Hnb3.out with h | h
        · exact HNe.out (h.symm.trans e)
        · have := h G e; omega
      have O2' := own_set_past' Hown3.out (.inr hne3) 8 (.slice A3 (p + 1) q3) (g := G)
      have hbb := Hb3.out.setCell (p := ⟨G, 8, none⟩) hGb (.slice A3 (p + 1) q3)
      have Hlast : Hid (_ = _) := Lib.hid (Hng.out p)
      clear z8 f8 x1
      go_wp2_with fail
      refine ⟨⟨p + 1, A3, q3, hlt, by rfl, Lib.hid G3', Lib.hid O1', Lib.hid ?_, Lib.hid hbb, Lib.hid hne3⟩, by simp [intOf]; omega⟩
      rw [Hlast.out]
      exact O2'
    · obtain rfl : p = n := by omega
      have hle : ¬ ((p : Int) + 1 ≤ (p : Int)) := by omega
      have hR3 := H3.out.to HB.out hz3
      have hnb : (newB p).rs.length = p := by simp [newB]
      have Hnb := Lib.hid hnb
      clear hnb
      obtain ⟨⟨y0, y1, y2, y3, y4, y5, y6, y7, y8⟩, _⟩ := HG.out.all9
      obtain ⟨⟨z0, z1, z2, z3, z4, z5, z6, z7, z8⟩, f0, f1, f2, f3, f4, f5, f6, f7, f8⟩ := hR3.all9
      obtain ⟨e0, e1, e2, e3, e4, e5, e6, e7, e8⟩ := hR3.e9 (.string m.name) (.int .i64 p) (.slice A1 m.l.length c1) (.string k.bob) (.string k.single) (.int .i64 0) (.string ⟨#[112]⟩) (.string (roundsB p)) (.slice A2 p c2)
      have E := Lib.hid (And.intro e0 (And.intro e1 (And.intro e2 (And.intro e3 (And.intro e4 (And.intro e5 (And.intro e6 (And.intro e7 e8))))))))
      clear e0 e1 e2 e3 e4 e5 e6 e7 e8 hR3
      go_wp2_with fail
      obtain ⟨e0, e1, e2, e3, e4, e5, e6, e7, e8⟩ := E.out
      refine bodyPost_ret (v := .agg #[.string m.name, .int .i64 p, .slice A1 m.l.length c1, .string k.bob, .string k.single, .int .i64 0, .string ⟨#[112]⟩, .string (roundsB p), .slice A2 p c2]) (by simp [results, go_sem, e0, e1, e2, e3, e4, e5, e6, e7, e8]) rfl ⟨A1, c1, A2, c2, ?_, own_base (own9 HO1.out (by omega)) (by omega), ?_, bw9 (Hw.out.trans (HB.out.mono (by omega))) (by omega)⟩
      · rw [Hnb.out]; unfold Bd.v newB; simp only; rw [Hsg.out]; rfl
      · rw [Hnb.out]
        exact own_base (own9 HO2.out (by omega)) (by omega)
end Go.Proofs.YtimeecimaokldaaGreatDoor
