/- Contract: one step of a band, the reference's. -/
import Derived.Test.YtimeecimaokldaaGreatDoorPk22
namespace Go.Proofs.YtimeecimaokldaaGreatDoor
open Go Go.RowKit
set_option linter.unusedVariables false
set_option linter.unusedSimpArgs false

theorem rs_el {w : World} {B : Nat} {A : Option Addr} {xs : List (Nat × Bool)} (hr : Reads w B 2 A xs.length (xs.flatMap rsC)) {k : Nat} (hk : k < xs.length) :
    ∃ ad, A = some ad ∧ ∀ w', Below B w w' → w'.cell? (ad.add (k * 2)) = some (.int .i64 (xs[k]).1) ∧ w'.cell? ⟨(ad.add (k * 2)).block, (ad.add (k * 2)).off + 1, none⟩ = some (.bool (xs[k]).2) := by
  obtain ⟨ad, e, h⟩ := hr.el (fun _ _ => rfl) hk
  refine ⟨ad, e, fun w' hb => ⟨?_, ?_⟩⟩
  · have := h w' hb 0 _ (by omega) rfl; rwa [add_zero'] at this
  · exact h w' hb 1 _ (by omega) rfl
set_option maxRecDepth 100000 in
set_option maxHeartbeats 8000000 in
theorem l24Step_any (m : Mt) (k : Cl) (n : Nat) (b : Bd) (v r : Value) (w : World) (hg : BGood m k n b) (hv : Strs w v m.l) (hn : NilOk v) (hr : Sl w 2 r b.rs.length (b.rs.flatMap rsC)) (hnr : NilOk r) : Calls Tryz.prog 133 #[b.v m k v r] w (BdPost w m k (stepB m k n b)) := by
  obtain ⟨x, hx, hx3⟩ := hg.call
  have hst := hg.st
  have hl := hg.c.m.len
  have hn8 := hg.c.m.hi
  have hn3 := hg.c.m.lo
  have hbl := hg.len
  have hsg := hg.c.m.st
  have Hcp := Lib.hid (fun W (hW : Below w.heap.size w W) => l24Own_any m k b v r W (hv.to hW) hn (hr.to hW) hnr (by omega) (by omega))
  have Hch := Lib.hid (fun heard W (hW : Below w.heap.size w W) => l24Change_any m k n b v r heard W hg (hv.to hW))
  have hchs := calls_chs hg.c x
  have hcl : (calledL m.l k.bob k.single x).length = m.l.length := called_len (by omega) _ _ _
  have hce : callC1 b = x := by unfold callC1; rw [hx]; rfl
  have hhe : hearC m k b = (calledL m.l k.bob k.single x)[b.st]'(by omega) := by unfold hearC; rw [hce, List.getD_eq_getElem?_getD, List.getElem?_eq_getElem (by omega)]; rfl
  have hhm : hearC m k b ∈ calledL m.l k.bob k.single x := by rw [hhe]; exact List.getElem_mem _
  have hho := hchs _ hhm
  have how : ownC m b = m.l[b.st] := by unfold ownC; rw [List.getD_eq_getElem?_getD, List.getElem?_eq_getElem hst]; rfl
  have hoo := hg.c.m.ok (ownC m b) (by rw [how]; exact List.getElem_mem _)
  have Hap := Lib.hid (fun W => l2Apply_any b.tr (hearC m k b) W (by rw [hg.tr.1]; exact hn8) hho.1)
  have Hmh := Lib.hid (fun p W (h1 : 1 ≤ p) (h2 : p ≤ n) => l24Moved_any n p (hearC m k b) W hn8 hho.1 h1 h2)
  have Hmo := Lib.hid (fun p W (h1 : 1 ≤ p) (h2 : p ≤ n) => l24Moved_any n p (ownC m b) W hn8 hoo.1 h1 h2)
  have Hrs := Lib.hid hg.rs
  have Hlen := Lib.hid (callsStep_len m k n b)
  have Hstep : Hid (stepB m k n b = (if b.st + 1 = m.l.length then ⟨0, ⟨#[112]⟩, applyB b.tr (hearC m k b), b.rs.map fun p => ((movR n (ownC m b) (hearC m k b) p).1, false)⟩ else ⟨b.st + 1, b.call, applyB b.tr (hearC m k b), b.rs.map (movR n (ownC m b) (hearC m k b))⟩)) := Lib.hid rfl
  subst hbl
  obtain ⟨A, q, rfl, _⟩ := hv
  have Hr := Lib.hid hr
  obtain ⟨Ar, qr, rfl, hr1, hr2, hrr⟩ := hr
  unfold maxLen at hr2
  have Hrr := Lib.hid hrr
  clear hrr how hhe hhm hho hoo hchs hcl hce hg
  unfold Bd.v at *
  rw [hx]
  obtain ⟨ow, howe⟩ : ∃ o, o = ownC m b := ⟨_, rfl⟩
  obtain ⟨he, hhee⟩ : ∃ o, o = hearC m k b := ⟨_, rfl⟩
  simp only [← howe, ← hhee] at Hap Hmh Hmo Hstep Hch
  rw [hx, hsg] at Hcp Hch
  have hT := fun W hW => Hch.out true W hW
  have hF := fun W hW => Hch.out false W hW
  simp only [if_true, Bool.false_eq_true, if_false] at hT hF
  have HcT := Lib.hid hT
  have HcF := Lib.hid hF
  clear hT hF Hch
  rw [hsg]
  have Hsg := Lib.hid hsg
  have Hx := Lib.hid hx
  clear howe hhee
  go_enter Tryz.func133, Tryz.ntmps133
  go_wp2_with fail
  refine box2 (C := fun W => Calls _ _ _ W _) ?_
  intro wb hw k1 k2 hB0
  have hb : Bc wb w.heap.size [.string m.name, .int .i64 b.rs.length, .slice A m.l.length q, .string k.bob, .string k.single, .int .i64 b.st, .string (callT x), .string b.tr, .slice Ar b.rs.length qr] 33 := k1
  obtain ⟨t2, h2⟩ : ∃ t, Bc wb (w.heap.size + 1) [.string ⟨#[]⟩, .int .i64 0, .slice none 0 0, .string ⟨#[]⟩, .string ⟨#[]⟩, .int .i64 0, .string ⟨#[]⟩, .string ⟨#[]⟩, .slice none 0 0] t := ⟨_, k2⟩
  clear k1 k2
  have hz1 : w.heap.size < wb.heap.size := hb.blk
  have hz2 : w.heap.size + 1 < wb.heap.size := h2.blk
  refine (Hcp.out _ hw).mono ?_; intro e w1 hq1; obtain ⟨A1, c1, A2, c2, he1, ho1, ho2, hb1⟩ := hq1
  unfold Bd.v at he1
  rw [hsg, hx] at he1
  subst he1
  clear hsg hx
  obtain ⟨g1, rfl, hg1, hg1l⟩ := own_ptrB ho1 (by omega)
  obtain ⟨g2, rfl, hg2, hg2l⟩ := own_ptrB ho2 (by omega)
  have hne : g1 ≠ g2 := by
    rcases own_kinds' ho1 ho2 (by decide) with h | h
    · simp [Value.ownBlock] at h
    · simpa [Value.ownBlock] using h
  have hbW1 := hb.to hb1 hz1
  have h2W1 := h2.to hb1 hz2
  have hw1 := bw_to hw hb1
  go_upto_region 2 with fail
  refine box1 (C := fun W => Code.wp _ _ _ _ W) ?_
  intro w2 hw2 k3 hB02
  have h3 : Bc w2 w1.heap.size [.string m.name, .int .i64 b.rs.length, .slice (some ⟨g1, 0, none⟩) m.l.length c1, .string k.bob, .string k.single, .int .i64 b.st, .string (callT x), .string b.tr, .slice (some ⟨g2, 0, none⟩) b.rs.length c2] 33 := k3
  have hbW2 := hbW1.to hw2 hbW1.blk
  have h2W2 := h2W1.to hw2 h2W1.blk
  have ho1W2 := own_to ho1 hw2
  have ho2W2 := own_to ho2 hw2
  have hww2 := bw_to hw1 hw2
  have hG := h3.blk
  have Hlow := Lib.hid (fun W (hW : Below w2.heap.size w2 W) => bw_to hww2 hW)
  have B0 := Lib.hid hbW2
  have B2 := Lib.hid h2W2
  have B3 := Lib.hid h3
  have O1 := Lib.hid ho1W2
  have O2 := Lib.hid ho2W2
  clear k3 hbW1 h2W1 hb h2 ho1 ho2 hb1 hbW2 h2W2 h3 ho1W2 ho2W2 hB0 hB02 hw1 hw2 hww2
  refine wp_region_aft_tail (wb := w2) 6 (by kernel_rfl) (by kernel_rfl) (Below.refl _ _) ?_
  simp only [List.take_succ_cons, List.take_zero, List.drop_succ_cons, List.drop_zero]
  have F0 : ∀ X : Aft w2, X.w.cell? ⟨w.heap.size, 0, none⟩ = some (.string m.name) := fun X => (B0.out.to X.h B0.out.blk).at_ 0 rfl
  have F1 : ∀ X : Aft w2, X.w.cell? ⟨w.heap.size, 1, none⟩ = some (.int .i64 b.rs.length) := fun X => (B0.out.to X.h B0.out.blk).at_ 1 rfl
  have F2 : ∀ X : Aft w2, X.w.cell? ⟨w.heap.size, 2, none⟩ = some (.slice A m.l.length q) := fun X => (B0.out.to X.h B0.out.blk).at_ 2 rfl
  have F3 : ∀ X : Aft w2, X.w.cell? ⟨w.heap.size, 3, none⟩ = some (.string k.bob) := fun X => (B0.out.to X.h B0.out.blk).at_ 3 rfl
  have F4 : ∀ X : Aft w2, X.w.cell? ⟨w.heap.size, 4, none⟩ = some (.string k.single) := fun X => (B0.out.to X.h B0.out.blk).at_ 4 rfl
  have F5 : ∀ X : Aft w2, X.w.cell? ⟨w.heap.size, 5, none⟩ = some (.int .i64 b.st) := fun X => (B0.out.to X.h B0.out.blk).at_ 5 rfl
  have F6 : ∀ X : Aft w2, X.w.cell? ⟨w.heap.size, 6, none⟩ = some (.string (callT x)) := fun X => (B0.out.to X.h B0.out.blk).at_ 6 rfl
  have F7 : ∀ X : Aft w2, X.w.cell? ⟨w.heap.size, 7, none⟩ = some (.string b.tr) := fun X => (B0.out.to X.h B0.out.blk).at_ 7 rfl
  have F8 : ∀ X : Aft w2, X.w.cell? ⟨w.heap.size, 8, none⟩ = some (.slice Ar b.rs.length qr) := fun X => (B0.out.to X.h B0.out.blk).at_ 8 rfl
  repeat (go_big_quiet_step (first | (go_at_call 166; exact calls_aft fun W hW => HcT.out W (Hlow.out W hW)) | (go_at_call 165; exact calls_aft fun W hW => Hap.out W)))
  refine wpQuiet_nil ?_
  intro w3 hx3
  obtain ⟨⟨w3', hB3⟩, hx3⟩ := hx3
  have hx4 : w3 = w3' := hx3
  subst hx4
  clear hx3
  clear F0 F1 F2 F3 F4 F5 F6 F7 F8
  have P1' := B0.out.to hB3 B0.out.blk
  have P2' := B2.out.to hB3 B2.out.blk
  have P3' := B3.out.to hB3 B3.out.blk
  have f7 := P3'.frz 7
  have x7 := P3'.at_ 7 rfl
  go_upto_region 3 with fail
  clear f7 x7
  obtain ⟨tr', htr'⟩ : ∃ z, z = applyB b.tr he := ⟨_, rfl⟩
  rw [← htr'] at Hstep ⊢
  have Q3 := P3'.set 7 (.string tr')
  have Q1 := P1'.same (W' := w3.setCell ⟨w1.heap.size, 7, none⟩ (.string tr')) (set_othB (by omega))
  have Q2 := P2'.same (W' := w3.setCell ⟨w1.heap.size, 7, none⟩ (.string tr')) (set_othB (by omega))
  have O1' := own_blkB (w' := w3.setCell ⟨w1.heap.size, 7, none⟩ (.string tr')) (own_to O1.out hB3) (set_othB (by omega))
  have O2' := own_blkB (w' := w3.setCell ⟨w1.heap.size, 7, none⟩ (.string tr')) (own_to O2.out hB3) (set_othB (by omega))
  have HB4 := Lib.hid ((Hlow.out _ hB3).setCell (p := ⟨w1.heap.size, 7, none⟩) (by show w.heap.size ≤ w1.heap.size; omega) (.string tr'))
  obtain ⟨w4, hw4⟩ : ∃ w4, w4 = w3.setCell ⟨w1.heap.size, 7, none⟩ (.string tr') := ⟨_, rfl⟩
  rw [← hw4] at Q3 Q1 Q2 O1' O2' HB4 ⊢
  clear hw4 htr' P1' P2' P3' hB3
  have y8 := Q1.at_ 8 rfl
  have hG4 := Q3.blk
  have HQ := Lib.hid (And.intro Q1 (And.intro Q2 (And.intro Q3 O1')))
  have HO2 := Lib.hid O2'
  clear Q1 Q2 Q3 O1' O2'
  go_wp2_with fail
  clear y8
  go_loopw [18] (fun i wx => ∃ t : Nat, t ≤ b.rs.length ∧ i = .int .i64 t ∧ Hid (wx.ownsRow wb.heap.size 104 2 (.slice (some ⟨g2, 0, none⟩) b.rs.length c2) b.rs.length ((rsAt (movR b.rs.length ow he) b.rs t).flatMap rsC)) ∧ Hid (Kp w4 g2 wx) ∧ Hid (Below w.heap.size w wx)) (fun i _ => b.rs.length - (intOf i).toNat)
  case atStart => exact ⟨0, by omega, rfl, by rw [rsAt_zero]; exact HO2, Lib.hid (Kp.refl _ _), HB4⟩
  case round =>
    obtain ⟨t, ht, rfl, HOt, HKt, HBt⟩ := hrel
    by_cases hlt : t < b.rs.length
    · have hlt' : t < (rsAt (movR b.rs.length ow he) b.rs t).length := by rw [rsAt_len _ ht]; exact hlt
      obtain ⟨ad, rfl, hel⟩ := rs_el Hrr.out hlt
      obtain ⟨z0, z1⟩ := hel wr HBt.out
      have hp := Hrs.out _ (List.getElem_mem hlt)
      have Hset := Lib.hid (fun qq => rs_set0 hlt' qq)
      have Hset2 := Lib.hid (rsAt_set (movR b.rs.length ow he) hlt)
      have Hget := Lib.hid (rsAt_get (movR b.rs.length ow he) hlt hlt')
      obtain ⟨⟨p, d⟩, hpd⟩ : ∃ z, z = b.rs[t] := ⟨_, rfl⟩
      rw [← hpd] at z0 z1 hp Hset2 Hget
      clear hpd hel
      go_upto_region 6 with fail
      refine box1 (C := fun W => Code.wp _ _ _ _ W) ?_
      intro wq hwq kq hBq
      have Hbq : Hid (Bc wq wr.heap.size [.int .i64 p, .bool d] 104) := Lib.hid kq
      have HOq := Lib.hid (own_to HOt.out hwq)
      have HKq := Lib.hid (HKt.out.to hwq)
      have HBq := Lib.hid (bw_to HBt.out hwq)
      have H3q : Hid (Bc wq w1.heap.size [.string m.name, .int .i64 b.rs.length, .slice (some ⟨g1, 0, none⟩) m.l.length c1, .string k.bob, .string k.single, .int .i64 b.st, .string (callT x), .string tr', .slice (some ⟨g2, 0, none⟩) b.rs.length c2] 33) := Lib.hid (HQ.out.2.2.1.same (HKq.out.blk _ hG4 (by omega)))
      have H1q : Hid (Bc wq w.heap.size [.string m.name, .int .i64 b.rs.length, .slice A m.l.length q, .string k.bob, .string k.single, .int .i64 b.st, .string (callT x), .string b.tr, .slice (some ad) b.rs.length qr] 33) := Lib.hid (HQ.out.1.same (HKq.out.blk _ HQ.out.1.blk (by omega)))
      have hg2b : w.heap.size ≤ g2 := by omega
      clear kq hwq z0 z1
      cases d
      · have hq : movR b.rs.length ow he (p, false) = (movB b.rs.length he p, false) := rfl
        rw [hq] at Hset2
        have HE : Hid (((rsAt (movR b.rs.length ow he) b.rs t).flatMap rsC).set (t * 2) (.int .i64 (movB b.rs.length he p)) = (rsAt (movR b.rs.length ow he) b.rs (t + 1)).flatMap rsC) := Lib.hid (by rw [Hset.out, Hget.out, Hset2.out])
        have HM := Lib.hid (fun W => Hmh.out p W hp.1 hp.2)
        clear hq
        refine wp_region_aft_tail (wb := wq) 16 (by kernel_rfl) (by kernel_rfl) (Below.refl _ _) ?_
        simp only [List.take_succ_cons, List.take_zero, List.drop_succ_cons, List.drop_zero]
        have F0 : ∀ X : Aft wq, X.w.cell? ⟨w.heap.size, 0, none⟩ = some (.string m.name) := fun X => (H1q.out.to X.h H1q.out.blk).at_ 0 rfl
        have F1 : ∀ X : Aft wq, X.w.cell? ⟨w.heap.size, 1, none⟩ = some (.int .i64 b.rs.length) := fun X => (H1q.out.to X.h H1q.out.blk).at_ 1 rfl
        have F2 : ∀ X : Aft wq, X.w.cell? ⟨w.heap.size, 2, none⟩ = some (.slice A m.l.length q) := fun X => (H1q.out.to X.h H1q.out.blk).at_ 2 rfl
        have F3 : ∀ X : Aft wq, X.w.cell? ⟨w.heap.size, 3, none⟩ = some (.string k.bob) := fun X => (H1q.out.to X.h H1q.out.blk).at_ 3 rfl
        have F4 : ∀ X : Aft wq, X.w.cell? ⟨w.heap.size, 4, none⟩ = some (.string k.single) := fun X => (H1q.out.to X.h H1q.out.blk).at_ 4 rfl
        have F5 : ∀ X : Aft wq, X.w.cell? ⟨w.heap.size, 5, none⟩ = some (.int .i64 b.st) := fun X => (H1q.out.to X.h H1q.out.blk).at_ 5 rfl
        have F6 : ∀ X : Aft wq, X.w.cell? ⟨w.heap.size, 6, none⟩ = some (.string (callT x)) := fun X => (H1q.out.to X.h H1q.out.blk).at_ 6 rfl
        have F7 : ∀ X : Aft wq, X.w.cell? ⟨w.heap.size, 7, none⟩ = some (.string b.tr) := fun X => (H1q.out.to X.h H1q.out.blk).at_ 7 rfl
        have F8 : ∀ X : Aft wq, X.w.cell? ⟨w.heap.size, 8, none⟩ = some (.slice (some ad) b.rs.length qr) := fun X => (H1q.out.to X.h H1q.out.blk).at_ 8 rfl
        have G8 : ∀ X : Aft wq, X.w.cell? ⟨w1.heap.size, 8, none⟩ = some (.slice (some ⟨g2, 0, none⟩) b.rs.length c2) := fun X => (H3q.out.to X.h H3q.out.blk).at_ 8 rfl
        have E0 : ∀ X : Aft wq, X.w.cell? ⟨wr.heap.size, 0, none⟩ = some (.int .i64 p) := fun X => (Hbq.out.to X.h Hbq.out.blk).at_ 0 rfl
        have E1 : ∀ X : Aft wq, X.w.cell? ⟨wr.heap.size, 1, none⟩ = some (.bool false) := fun X => (Hbq.out.to X.h Hbq.out.blk).at_ 1 rfl
        repeat (go_big_quiet_step (first | (go_at_call 167; exact calls_aft fun W hW => HM.out W) | (go_at_call 166; exact calls_aft fun W hW => HcT.out W (bw_to HBq.out hW))))
        refine wpQuiet_nil ?_
        rintro _ ⟨⟨w5, hB5⟩, rfl⟩
        have ho5 := own_to HOq.out hB5
        obtain ⟨x0, hx0⟩ := own_some ho5 (j := t * 2) (by omega)
        have f0 := ho5.frozenAt (t * 2)
        have Ho5 := Lib.hid ho5
        have HK5 := Lib.hid (HKq.out.to hB5)
        have HB5 := Lib.hid (bw_to HBq.out hB5)
        clear F0 F1 F2 F3 F4 F5 F6 F7 F8 G8 E0 E1 ho5
        go_wp2_with fail
        refine ⟨⟨t + 1, hlt, by go_num, by rw [← HE.out]; exact Lib.hid (own_set Ho5.out _ _), Lib.hid (HK5.out.set _ _), Lib.hid (grow_set HB5.out (by omega) _)⟩, by simp [intOf]; omega⟩
      · have hq : movR b.rs.length ow he (p, true) = (movB b.rs.length ow p, true) := rfl
        rw [hq] at Hset2
        have HE : Hid (((rsAt (movR b.rs.length ow he) b.rs t).flatMap rsC).set (t * 2) (.int .i64 (movB b.rs.length ow p)) = (rsAt (movR b.rs.length ow he) b.rs (t + 1)).flatMap rsC) := Lib.hid (by rw [Hset.out, Hget.out, Hset2.out])
        have HM := Lib.hid (fun W => Hmo.out p W hp.1 hp.2)
        clear hq
        refine wp_region_aft_tail (wb := wq) 16 (by kernel_rfl) (by kernel_rfl) (Below.refl _ _) ?_
        simp only [List.take_succ_cons, List.take_zero, List.drop_succ_cons, List.drop_zero]
        have F0 : ∀ X : Aft wq, X.w.cell? ⟨w.heap.size, 0, none⟩ = some (.string m.name) := fun X => (H1q.out.to X.h H1q.out.blk).at_ 0 rfl
        have F1 : ∀ X : Aft wq, X.w.cell? ⟨w.heap.size, 1, none⟩ = some (.int .i64 b.rs.length) := fun X => (H1q.out.to X.h H1q.out.blk).at_ 1 rfl
        have F2 : ∀ X : Aft wq, X.w.cell? ⟨w.heap.size, 2, none⟩ = some (.slice A m.l.length q) := fun X => (H1q.out.to X.h H1q.out.blk).at_ 2 rfl
        have F3 : ∀ X : Aft wq, X.w.cell? ⟨w.heap.size, 3, none⟩ = some (.string k.bob) := fun X => (H1q.out.to X.h H1q.out.blk).at_ 3 rfl
        have F4 : ∀ X : Aft wq, X.w.cell? ⟨w.heap.size, 4, none⟩ = some (.string k.single) := fun X => (H1q.out.to X.h H1q.out.blk).at_ 4 rfl
        have F5 : ∀ X : Aft wq, X.w.cell? ⟨w.heap.size, 5, none⟩ = some (.int .i64 b.st) := fun X => (H1q.out.to X.h H1q.out.blk).at_ 5 rfl
        have F6 : ∀ X : Aft wq, X.w.cell? ⟨w.heap.size, 6, none⟩ = some (.string (callT x)) := fun X => (H1q.out.to X.h H1q.out.blk).at_ 6 rfl
        have F7 : ∀ X : Aft wq, X.w.cell? ⟨w.heap.size, 7, none⟩ = some (.string b.tr) := fun X => (H1q.out.to X.h H1q.out.blk).at_ 7 rfl
        have F8 : ∀ X : Aft wq, X.w.cell? ⟨w.heap.size, 8, none⟩ = some (.slice (some ad) b.rs.length qr) := fun X => (H1q.out.to X.h H1q.out.blk).at_ 8 rfl
        have G8 : ∀ X : Aft wq, X.w.cell? ⟨w1.heap.size, 8, none⟩ = some (.slice (some ⟨g2, 0, none⟩) b.rs.length c2) := fun X => (H3q.out.to X.h H3q.out.blk).at_ 8 rfl
        have E0 : ∀ X : Aft wq, X.w.cell? ⟨wr.heap.size, 0, none⟩ = some (.int .i64 p) := fun X => (Hbq.out.to X.h Hbq.out.blk).at_ 0 rfl
        have E1 : ∀ X : Aft wq, X.w.cell? ⟨wr.heap.size, 1, none⟩ = some (.bool true) := fun X => (Hbq.out.to X.h Hbq.out.blk).at_ 1 rfl
        repeat (go_big_quiet_step (first | (go_at_call 167; exact calls_aft fun W hW => HM.out W) | (go_at_call 166; exact calls_aft fun W hW => HcF.out W (bw_to HBq.out hW))))
        refine wpQuiet_nil ?_
        rintro _ ⟨⟨w5, hB5⟩, rfl⟩
        have ho5 := own_to HOq.out hB5
        obtain ⟨x0, hx0⟩ := own_some ho5 (j := t * 2) (by omega)
        have f0 := ho5.frozenAt (t * 2)
        have Ho5 := Lib.hid ho5
        have HK5 := Lib.hid (HKq.out.to hB5)
        have HB5 := Lib.hid (bw_to HBq.out hB5)
        clear F0 F1 F2 F3 F4 F5 F6 F7 F8 G8 E0 E1 ho5
        go_wp2_with fail
        refine ⟨⟨t + 1, hlt, by go_num, by rw [← HE.out]; exact Lib.hid (own_set Ho5.out _ _), Lib.hid (HK5.out.set _ _), Lib.hid (grow_set HB5.out (by omega) _)⟩, by simp [intOf]; omega⟩
    · obtain rfl : t = b.rs.length := by omega
      rw [rsAt_all] at HOt
      have Q3 := HQ.out.2.2.1.same (HKt.out.blk _ hG4 (by omega))
      have Q2 := HQ.out.2.1.same (HKt.out.blk _ HQ.out.2.1.blk (by omega))
      have Q1 := HQ.out.1.same (HKt.out.blk _ HQ.out.1.blk (by omega))
      have O1r := own_blkB HQ.out.2.2.2 (HKt.out.blk _ (by omega) hne)
      have y5 := Q3.at_ 5 rfl
      have f5 := Q3.frz 5
      have ws : IntKind.i64.wrap ((b.st : Int) + 1) = (b.st : Int) + 1 := IntWalk.i64_in _ ⟨by omega, by omega⟩
      obtain ⟨L1, hL1⟩ : ∃ L, L = b.rs.map (movR b.rs.length ow he) := ⟨_, rfl⟩
      have hl1 : L1.length = b.rs.length := by rw [hL1]; simp
      have HL1 := Lib.hid hl1
      rw [← hL1] at HOt
      have HL := Lib.hid hL1
      clear hl1 hL1
      go_upto_region 9 with fail
      have U3 := Q3.set 5 (.int .i64 ((b.st : Int) + 1))
      have U2 := Q2.same (W' := wr.setCell ⟨w1.heap.size, 5, none⟩ (.int .i64 ((b.st : Int) + 1))) (set_othB (by omega))
      have U1 := Q1.same (W' := wr.setCell ⟨w1.heap.size, 5, none⟩ (.int .i64 ((b.st : Int) + 1))) (set_othB (by omega))
      have V1 := own_blkB (w' := wr.setCell ⟨w1.heap.size, 5, none⟩ (.int .i64 ((b.st : Int) + 1))) O1r (set_othB (by omega))
      have V2 := own_blkB (w' := wr.setCell ⟨w1.heap.size, 5, none⟩ (.int .i64 ((b.st : Int) + 1))) HOt.out (set_othB (by omega))
      have VB := grow_set (g := w1.heap.size) (j := 5) HBt.out (by omega) (.int .i64 ((b.st : Int) + 1))
      obtain ⟨wa, hwa⟩ : ∃ wa, wa = wr.setCell ⟨w1.heap.size, 5, none⟩ (.int .i64 ((b.st : Int) + 1)) := ⟨_, rfl⟩
      rw [← hwa] at U3 U2 U1 V1 V2 VB ⊢
      clear hwa y5 f5 Q3 Q2 Q1 O1r HOt HKt HBt HQ HO2 HB4
      have x2 := U1.at_ 2 rfl
      have x5 := U3.at_ 5 rfl
      by_cases hla : b.st + 1 = m.l.length
      · have HE : Hid (stepB m k b.rs.length b = ⟨0, ⟨#[112]⟩, tr', L1.map fun p => (p.1, false)⟩) := Lib.hid (by rw [Hstep.out, if_pos hla, HL.out, List.map_map]; rfl)
        have d1 : (((b.st : Int) + 1) == (m.l.length : Int)) = true := by simp; omega
        have x6 := U3.at_ 6 rfl
        have f5 := U3.frz 5
        have f6 := (U3.set 5 (.int .i64 0)).frz 6
        have x6' := (U3.set 5 (.int .i64 0)).at_ 6 rfl
        have X3 := (U3.set 5 (.int .i64 0)).set 6 (.string ⟨#[112]⟩)
        have X2 := U2.same (W' := (wa.setCell ⟨w1.heap.size, 5, none⟩ (.int .i64 0)).setCell ⟨w1.heap.size, 6, none⟩ (.string ⟨#[112]⟩)) (by rw [set_othB (by omega), set_othB (by omega)])
        have Y1 := own_blkB (w' := (wa.setCell ⟨w1.heap.size, 5, none⟩ (.int .i64 0)).setCell ⟨w1.heap.size, 6, none⟩ (.string ⟨#[112]⟩)) V1 (by rw [set_othB (by omega), set_othB (by omega)])
        have Y2 := own_blkB (w' := (wa.setCell ⟨w1.heap.size, 5, none⟩ (.int .i64 0)).setCell ⟨w1.heap.size, 6, none⟩ (.string ⟨#[112]⟩)) V2 (by rw [set_othB (by omega), set_othB (by omega)])
        have YB := grow_set (g := w1.heap.size) (j := 6) (grow_set (g := w1.heap.size) (j := 5) VB (by omega) (.int .i64 0)) (by omega) (.string ⟨#[112]⟩)
        have HX := Lib.hid (And.intro X3 (And.intro X2 (And.intro Y1 (And.intro Y2 YB))))
        clear X3 X2 Y1 Y2 YB hla
        go_upto_region 12 with fail
        obtain ⟨wd, hwd⟩ : ∃ wd, wd = (wa.setCell ⟨w1.heap.size, 5, none⟩ (.int .i64 0)).setCell ⟨w1.heap.size, 6, none⟩ (.string ⟨#[112]⟩) := ⟨_, rfl⟩
        rw [← hwd] at HX ⊢
        clear hwd x2 x5 x6 f5 f6 x6' U1 U2 U3 V1 V2 VB
        have y8 := HX.out.1.at_ 8 rfl
        have hGd := HX.out.1.blk
        have hRd := HX.out.2.1.blk
        have h1d := (own_ptrB HX.out.2.2.1 (by omega))
        have HO0 : Hid (wd.ownsRow wb.heap.size 104 2 (.slice (some ⟨g2, 0, none⟩) b.rs.length c2) b.rs.length ((rsAt (fun p => (p.1, false)) L1 0).flatMap rsC)) := Lib.hid (by rw [rsAt_zero]; exact HX.out.2.2.2.1)
        clear h1d
        go_wp2_with fail
        clear y8
        obtain ⟨wo, rfl⟩ : ∃ wo : World, wo = wr := ⟨_, rfl⟩
        go_loopw [56] (fun i wx => ∃ t : Nat, t ≤ b.rs.length ∧ i = .int .i64 t ∧ Hid (wx.ownsRow wb.heap.size 104 2 (.slice (some ⟨g2, 0, none⟩) b.rs.length c2) b.rs.length ((rsAt (fun p => (p.1, false)) L1 t).flatMap rsC)) ∧ Hid (Kp wd g2 wx) ∧ Hid (Below w.heap.size w wx)) (fun i _ => b.rs.length - (intOf i).toNat)
        case atStart => exact ⟨0, by omega, rfl, HO0, Lib.hid (Kp.refl _ _), Lib.hid HX.out.2.2.2.2⟩
        case round =>
          obtain ⟨t, ht, rfl, HOt, HKt, HBt⟩ := hrel
          have Q3 := HX.out.1.same (HKt.out.blk _ hGd (by omega))
          by_cases hlt : t < b.rs.length
          · have hlt1 : t < L1.length := by rw [HL1.out]; exact hlt
            have hlt' : t < (rsAt (fun p : Nat × Bool => (p.1, false)) L1 t).length := by rw [rsAt_len _ (by omega)]; exact hlt1
            have y8 := Q3.at_ 8 rfl
            have HE2 : Hid (((rsAt (fun p : Nat × Bool => (p.1, false)) L1 t).flatMap rsC).set (t * 2 + 1) (.bool false) = (rsAt (fun p => (p.1, false)) L1 (t + 1)).flatMap rsC) := Lib.hid (by
              rw [rs_set1 hlt', rsAt_get _ hlt1, ← rsAt_set _ hlt1])
            obtain ⟨x0, hx0⟩ := own_some HOt.out (j := t * 2 + 1) (by omega)
            have f0 := HOt.out.frozenAt (t * 2 + 1)
            clear Q3 hlt1 hlt'
            go_wp2_with fail
            refine ⟨⟨t + 1, hlt, by go_num, by rw [← HE2.out]; exact Lib.hid (own_set HOt.out _ _), Lib.hid (HKt.out.set _ _), Lib.hid (grow_set HBt.out (by omega) _)⟩, by simp [intOf]; omega⟩
          · obtain rfl : t = b.rs.length := by omega
            have hq : (rsAt (fun p : Nat × Bool => (p.1, false)) L1 b.rs.length) = L1.map fun p => (p.1, false) := by rw [← HL1.out, rsAt_all]
            rw [hq] at HOt
            have Q2 := HX.out.2.1.same (HKt.out.blk _ hRd (by omega))
            have O1r := own_blkB HX.out.2.2.1 (HKt.out.blk _ (by have := (own_ptrB HX.out.2.2.1 (by omega)); obtain ⟨g, hg, _, hl⟩ := this; injection hg with hg; injection hg with hg; omega) hne)
            clear hq
            obtain ⟨⟨y0, y1, y2, y3, y4, y5, y6, y7, y8⟩, _⟩ := Q3.all9
            obtain ⟨_, f0, f1, f2, f3, f4, f5, f6, f7, f8⟩ := Q2.all9
            obtain ⟨e0, e1, e2, e3, e4, e5, e6, e7, e8⟩ := Q2.e9 (.string m.name) (.int .i64 b.rs.length) (.slice (some ⟨g1, 0, none⟩) m.l.length c1) (.string k.bob) (.string k.single) (.int .i64 0) (.string ⟨#[112]⟩) (.string tr') (.slice (some ⟨g2, 0, none⟩) b.rs.length c2)
            have E := Lib.hid (And.intro e0 (And.intro e1 (And.intro e2 (And.intro e3 (And.intro e4 (And.intro e5 (And.intro e6 (And.intro e7 e8))))))))
            have Hrow := Lib.hid HOt.out
            have Hown := Lib.hid O1r
            have Hbel := Lib.hid HBt.out
            clear e0 e1 e2 e3 e4 e5 e6 e7 e8
            go_wp2_with fail
            obtain ⟨e0, e1, e2, e3, e4, e5, e6, e7, e8⟩ := E.out
            refine bodyPost_ret (v := .agg #[.string m.name, .int .i64 b.rs.length, .slice (some ⟨g1, 0, none⟩) m.l.length c1, .string k.bob, .string k.single, .int .i64 0, .string ⟨#[112]⟩, .string tr', .slice (some ⟨g2, 0, none⟩) b.rs.length c2]) (by simp [results, go_sem, e0, e1, e2, e3, e4, e5, e6, e7, e8]) rfl ⟨some ⟨g1, 0, none⟩, c1, some ⟨g2, 0, none⟩, c2, ?_, own_base (own9 Hown.out (by omega)) (by omega), ?_, bw9 Hbel.out (by omega)⟩
            · rw [Hlen.out, HE.out]; unfold Bd.v; simp only; rw [Hsg.out]; first | rfl | (rw [Hx.out]; rfl)
            · rw [Hlen.out, HE.out]
              exact own_base (own9 Hrow.out (by omega)) (by omega)
      · have HE : Hid (stepB m k b.rs.length b = ⟨b.st + 1, b.call, tr', L1⟩) := Lib.hid (by rw [Hstep.out, if_neg hla, HL.out])
        have d1 : (((b.st : Int) + 1) == (m.l.length : Int)) = false := by simp; omega
        clear x5
        obtain ⟨⟨y0, y1, y2, y3, y4, y5, y6, y7, y8⟩, _⟩ := U3.all9
        obtain ⟨_, f0, f1, f2, f3, f4, f5, f6, f7, f8⟩ := U2.all9
        obtain ⟨e0, e1, e2, e3, e4, e5, e6, e7, e8⟩ := U2.e9 (.string m.name) (.int .i64 b.rs.length) (.slice (some ⟨g1, 0, none⟩) m.l.length c1) (.string k.bob) (.string k.single) (.int .i64 ((b.st : Int) + 1)) (.string (callT x)) (.string tr') (.slice (some ⟨g2, 0, none⟩) b.rs.length c2)
        have E := Lib.hid (And.intro e0 (And.intro e1 (And.intro e2 (And.intro e3 (And.intro e4 (And.intro e5 (And.intro e6 (And.intro e7 e8))))))))
        have Hrow := Lib.hid V2
        have Hown := Lib.hid V1
        have Hbel := Lib.hid VB
        clear e0 e1 e2 e3 e4 e5 e6 e7 e8
        go_wp2_with fail
        obtain ⟨e0, e1, e2, e3, e4, e5, e6, e7, e8⟩ := E.out
        refine bodyPost_ret (v := .agg #[.string m.name, .int .i64 b.rs.length, .slice (some ⟨g1, 0, none⟩) m.l.length c1, .string k.bob, .string k.single, .int .i64 ((b.st : Int) + 1), .string (callT x), .string tr', .slice (some ⟨g2, 0, none⟩) b.rs.length c2]) (by simp [results, go_sem, e0, e1, e2, e3, e4, e5, e6, e7, e8]) rfl ⟨some ⟨g1, 0, none⟩, c1, some ⟨g2, 0, none⟩, c2, ?_, own_base (own9 Hown.out (by omega)) (by omega), ?_, bw9 Hbel.out (by omega)⟩
        · rw [Hlen.out, HE.out]; unfold Bd.v; simp only; rw [Hsg.out]; first | rfl | (rw [Hx.out]; rfl)
        · rw [Hlen.out, HE.out]
          exact own_base (own9 Hrow.out (by omega)) (by omega)
end Go.Proofs.YtimeecimaokldaaGreatDoor
