/- Contracts: a band behind some acts; both sides. (Printed by a program: tools/mkBXC.py.) -/
import Derived.Test.YtimeecimaokldaaGreatDoorPk28
namespace Go.Proofs.YtimeecimaokldaaGreatDoor
open Go Go.RowKit
set_option linter.unusedVariables false
set_option linter.unusedSimpArgs false

theorem playB_take (m : Mt) (k : Cl) (n : Nat) : ∀ {l : List Act3} {b : Bd} {p : Nat} (h : p < l.length), playB m k n b (l.take (p + 1)) = (doB m k n (playB m k n b (l.take p)).1 l[p], (playB m k n b (l.take p)).2 ++ (if isStep l[p] then [rowOf (playB m k n b (l.take p)).1] else []))
  | a :: l, b, 0, h => by simp [playB]
  | a :: l, b, p + 1, h => by
    have ih := playB_take m k n (l := l) (b := doB m k n b a) (p := p) (by simpa using h)
    rw [List.take_succ_cons, List.take_succ_cons, playB, playB, ih, List.getElem_cons_succ, List.append_assoc]
theorem playB_good {m : Mt} {k : Cl} {n : Nat} : ∀ {l : List Act3} {b : Bd}, BGood m k n b → (∀ a ∈ l, a.ok n) → BGood m k n (playB m k n b l).1
  | [], b, h, _ => h
  | a :: l, b, h, ha => by
    rw [playB]
    exact playB_good (h.done (ha a (List.mem_cons_self ..))) (fun x hx => ha x (List.mem_cons_of_mem _ hx))
theorem playB_few {m : Mt} {k : Cl} {n : Nat} : ∀ {l : List Act3} {b : Bd}, (playB m k n b l).2.length ≤ l.length
  | [], b => Nat.le_refl _
  | a :: l, b => by
    have ih := playB_few (m := m) (k := k) (n := n) (l := l) (b := doB m k n b a)
    rw [playB, List.length_append, List.length_cons]
    split
    · simp; omega
    · simp; omega
theorem act_cells (a : Act3) : ∃ (K Bl By : Int) (C : ByteArray), a.c = [.int .i64 K, .int .i64 Bl, .int .i64 By, .string C] ∧ isStep a = decide (K = 1) := by
  cases a
  · exact ⟨1, 0, 0, ⟨#[]⟩, rfl, rfl⟩
  · exact ⟨2, 0, 0, _, rfl, rfl⟩
  · exact ⟨3, _, 0, ⟨#[]⟩, rfl, rfl⟩
theorem act_el {w : World} {B : Nat} {A : Option Addr} {xs : List Act3} (hr : Reads w B 4 A xs.length (xs.flatMap Act3.c)) {k : Nat} (hk : k < xs.length) {K Bl By : Int} {C : ByteArray} (hc : (xs[k]).c = [.int .i64 K, .int .i64 Bl, .int .i64 By, .string C]) :
    ∃ ad, A = some ad ∧ ∀ w', Below B w w' → w'.cell? (ad.add (k * 4)) = some (.int .i64 K) ∧ w'.cell? ⟨(ad.add (k * 4)).block, (ad.add (k * 4)).off + 1, none⟩ = some (.int .i64 Bl) ∧ w'.cell? ⟨(ad.add (k * 4)).block, (ad.add (k * 4)).off + 2, none⟩ = some (.int .i64 By) ∧ w'.cell? ⟨(ad.add (k * 4)).block, (ad.add (k * 4)).off + 3, none⟩ = some (.string C) := by
  obtain ⟨ad, e, h⟩ := hr.el (fun x _ => by cases x <;> rfl) hk
  refine ⟨ad, e, fun w' hb => ⟨?_, ?_, ?_, ?_⟩⟩
  · have := h w' hb 0 (.int .i64 K) (by omega) (by rw [hc]; rfl); rwa [add_zero'] at this
  · exact h w' hb 1 _ (by omega) (by rw [hc]; rfl)
  · exact h w' hb 2 _ (by omega) (by rw [hc]; rfl)
  · exact h w' hb 3 _ (by omega) (by rw [hc]; rfl)
theorem own_nb {w : World} {base : Nat} {e : TypeId} {size n : Nat} {v : Value} {xs : List Value} (h : w.ownsRow base e size v n xs) {g : Nat} (hg : v.ownBlock = some g) : base ≤ g ∧ g < w.heap.size := h.lt g hg
/-- What a function that plays leaves. -/
def PlPost (w : World) (m : Mt) (k : Cl) (b : Bd) (rows : List ByteArray) (e : Ending) (w' : World) : Prop :=
  ∃ A1 c1 A2 c2 A3 c3, e = .returned (.tuple #[b.v m k (.slice A1 m.l.length c1) (.slice A2 b.rs.length c2), .slice A3 rows.length c3]) ∧ w'.ownsRow w.heap.size 9 1 (.slice A1 m.l.length c1) m.l.length (m.l.map Value.string) ∧ w'.ownsRow w.heap.size 104 2 (.slice A2 b.rs.length c2) b.rs.length (b.rs.flatMap rsC) ∧ w'.ownsRow w.heap.size 9 1 (.slice A3 rows.length c3) rows.length (rows.map Value.string) ∧ Below w.heap.size w w'
/-- The state of the play's loop. -/
structure PlS (w wb : World) (m : Mt) (k : Cl) (b : Bd) (rows : List ByteArray) (G : Nat) (t2 : TypeId) (A1 : Option Addr) (c1 : Nat) (A2 : Option Addr) (c2 : Nat) (A3 : Option Addr) (c3 : Nat) (Bo : Nat) (W : World) : Prop where
  bx : Bc W G [.string m.name, .int .i64 m.stage, .slice A1 m.l.length c1, .string k.bob, .string k.single, .int .i64 (b).st, .string (b).call, .string (b).tr, .slice A2 b.rs.length c2] 33
  rs : Bc W (w.heap.size + 1) [.string ⟨#[]⟩, .int .i64 0, .slice none 0 0, .string ⟨#[]⟩, .string ⟨#[]⟩, .int .i64 0, .string ⟨#[]⟩, .string ⟨#[]⟩, .slice none 0 0] t2
  o1 : W.ownsRow wb.heap.size 9 1 (.slice A1 m.l.length c1) m.l.length (m.l.map Value.string)
  o2 : W.ownsRow wb.heap.size 104 2 (.slice A2 b.rs.length c2) b.rs.length (b.rs.flatMap rsC)
  o3 : W.ownsRow Bo 9 1 (.slice A3 rows.length c3) rows.length (rows.map Value.string)
  bw : Below w.heap.size w W
  sz : Bo ≤ W.heap.size

set_option maxRecDepth 100000 in
set_option maxHeartbeats 8000000 in
theorem played_any (m : Mt) (k : Cl) (n : Nat) (b : Bd) (v r va : Value) (acts : List Act3) (w : World) (hg : BGood m k n b) (hok : ∀ a ∈ acts, a.ok n) (hv : Strs w v m.l) (hn : NilOk v) (hr : Sl w 2 r b.rs.length (b.rs.flatMap rsC)) (hnr : NilOk r) (hva : Sl w 4 va acts.length (acts.flatMap Act3.c)) (hlen : acts.length ≤ 400) (htab : Tab10 w) : Calls Tryz.prog 51 #[b.v m k v r, va] w (PlPost w m k (playB m k n b acts).1 (playB m k n b acts).2) := by
  have hl := hg.c.m.len
  have hn8 := hg.c.m.hi
  have hsg := hg.c.m.st
  have hbl := hg.len
  have Hcp := Lib.hid (fun W (hW : Below w.heap.size w W) => copyBand_any m k b v r W (hv.to hW) hn (hr.to hW) hnr (by omega) (by omega))
  have Hgd := Lib.hid (fun p => playB_good (l := acts.take p) hg (fun a ha => hok a (List.mem_of_mem_take ha)))
  have Hrow := Lib.hid (fun (b' : Bd) (hb' : b'.rs.length = n) v r W (hW : Below w.heap.size w W) (h2 : Sl W 2 r b'.rs.length (b'.rs.flatMap rsC)) => rowOfBand_any m k b' v r W h2 (by omega) (htab.to hW))
  have Hok := Lib.hid hok
  have Hlenb : Hid (∀ p, (playB m k n b (acts.take p)).1.rs.length = n) := Lib.hid (fun p => (Hgd.out p).len)
  have hb8 : b.rs.length ≤ 8 := by omega
  clear hbl hsg hg
  obtain ⟨A, q, rfl, _⟩ := hv
  obtain ⟨Ar, qr, rfl, _⟩ := hr
  obtain ⟨Aa, qa, rfl, ha1, ha2, har⟩ := hva
  unfold maxLen at ha2
  have Har := Lib.hid har
  clear har hok htab
  unfold Bd.v at *
  go_enter Tryz.func51, Tryz.ntmps51
  go_wp2_with fail
  refine box2 (C := fun W => Calls _ _ _ W _) ?_
  intro wb hw k1 k2 hB0
  have h1 : Bc wb w.heap.size [.string m.name, .int .i64 m.stage, .slice A m.l.length q, .string k.bob, .string k.single, .int .i64 (b).st, .string (b).call, .string (b).tr, .slice Ar b.rs.length qr] 33 := k1
  obtain ⟨t2, h2⟩ : ∃ t, Bc wb (w.heap.size + 1) [.string ⟨#[]⟩, .int .i64 0, .slice none 0 0, .string ⟨#[]⟩, .string ⟨#[]⟩, .int .i64 0, .string ⟨#[]⟩, .string ⟨#[]⟩, .slice none 0 0] t := ⟨_, k2⟩
  clear k1 k2
  have hz1 := h1.blk
  have hz2 := h2.blk
  refine (Hcp.out _ hw).mono ?_; intro e w1 hq1; obtain ⟨A1, c1, A2, c2, he1, ho1, ho2, hb1⟩ := hq1
  unfold Bd.v at he1
  subst he1
  have P1 := h1.to hb1 hz1
  have P2 := h2.to hb1 hz2
  have hw1 := bw_to hw hb1
  obtain ⟨⟨z0, z1, z2, z3, z4, z5, z6, z7, z8⟩, f0, f1, f2, f3, f4, f5, f6, f7, f8⟩ := P1.all9
  have U1 := P1.s9 (.string m.name) (.int .i64 m.stage) (.slice A1 m.l.length c1) (.string k.bob) (.string k.single) (.int .i64 b.st) (.string b.call) (.string b.tr) (.slice A2 b.rs.length c2)
  have U2 := P2.same (oth9 (W := w1) (B := w.heap.size) (b := w.heap.size + 1) (x0 := .string m.name) (x1 := .int .i64 m.stage) (x2 := .slice A1 m.l.length c1) (x3 := .string k.bob) (x4 := .string k.single) (x5 := .int .i64 b.st) (x6 := .string b.call) (x7 := .string b.tr) (x8 := .slice A2 b.rs.length c2) (by omega))
  have V1 := own9 (B := w.heap.size) (x0 := .string m.name) (x1 := .int .i64 m.stage) (x2 := .slice A1 m.l.length c1) (x3 := .string k.bob) (x4 := .string k.single) (x5 := .int .i64 b.st) (x6 := .string b.call) (x7 := .string b.tr) (x8 := .slice A2 b.rs.length c2) ho1 hz1
  have V2 := own9 (B := w.heap.size) (x0 := .string m.name) (x1 := .int .i64 m.stage) (x2 := .slice A1 m.l.length c1) (x3 := .string k.bob) (x4 := .string k.single) (x5 := .int .i64 b.st) (x6 := .string b.call) (x7 := .string b.tr) (x8 := .slice A2 b.rs.length c2) ho2 hz1
  have VB := bw9 (B := w.heap.size) (x0 := .string m.name) (x1 := .int .i64 m.stage) (x2 := .slice A1 m.l.length c1) (x3 := .string k.bob) (x4 := .string k.single) (x5 := .int .i64 b.st) (x6 := .string b.call) (x7 := .string b.tr) (x8 := .slice A2 b.rs.length c2) hw1 (Nat.le_refl _)
  have hz9 := hb1.size
  have hb1z := hb1.size
  clear P1 P2 hw1 ho1 ho2 h1 h2 hb1
  go_upto_region 2 with fail
  obtain ⟨wa, hwa⟩ : ∃ wa : World, wa = ((((((((w1.setCell ⟨w.heap.size, 0, none⟩ (.string m.name)).setCell ⟨w.heap.size, 1, none⟩ (.int .i64 m.stage)).setCell ⟨w.heap.size, 2, none⟩ (.slice A1 m.l.length c1)).setCell ⟨w.heap.size, 3, none⟩ (.string k.bob)).setCell ⟨w.heap.size, 4, none⟩ (.string k.single)).setCell ⟨w.heap.size, 5, none⟩ (.int .i64 b.st)).setCell ⟨w.heap.size, 6, none⟩ (.string b.call)).setCell ⟨w.heap.size, 7, none⟩ (.string b.tr)).setCell ⟨w.heap.size, 8, none⟩ (.slice A2 b.rs.length c2) := ⟨_, rfl⟩
  have hsa : wb.heap.size ≤ wa.heap.size := by rw [hwa]; simp [World.setCell]; exact hz9
  rw [← hwa] at U1 U2 V1 V2 VB ⊢
  clear hwa z0 z1 z2 z3 z4 z5 z6 z7 z8 f0 f1 f2 f3 f4 f5 f6 f7 f8 hz9
  go_upto_region 3 with fail
  refine box1 (C := fun W => Code.wp _ _ _ _ W) ?_
  intro w3 hw3 k3 hB3
  have HS : Hid (PlS w wb m k (playB m k n b (acts.take 0)).1 (playB m k n b (acts.take 0)).2 w.heap.size t2 A1 c1 A2 c2 (some ⟨wa.heap.size, 0, none⟩) 0 wb.heap.size w3) := Lib.hid ⟨U1.to hw3 U1.blk, U2.to hw3 U2.blk, own_to V1 hw3, own_to V2 hw3, own_of_heap (cs := #[]) (n := 0) k3 hsa (by unfold maxLen; omega) rfl, bw_to VB hw3, Nat.le_trans hsa hw3.size⟩
  have HD : Hid (∀ g, (Value.slice (some ⟨wa.heap.size, 0, none⟩) 0 0).ownBlock = some g → (Value.slice A1 m.l.length c1).ownBlock ≠ some g) := Lib.hid (fun g hg e => by
    have h1 := (own_nb V1 e).2
    simp [Value.ownBlock] at hg
    omega)
  have hGz : Hid (w.heap.size < wb.heap.size) := Lib.hid hz1
  clear U1 U2 V1 V2 VB k3 hw3 hB3 hw hB0 hsa
  go_wp2_with fail
  go_loopw [6, 16] (fun s i wx => ∃ (p : Nat) (A1 : Option Addr) (c1 : Nat) (A2 : Option Addr) (c2 : Nat) (A3 : Option Addr) (c3 : Nat), p ≤ acts.length ∧ s = .slice A3 (playB m k n b (acts.take p)).2.length c3 ∧ i = .int .i64 p ∧ Hid (PlS w wb m k (playB m k n b (acts.take p)).1 (playB m k n b (acts.take p)).2 w.heap.size t2 A1 c1 A2 c2 A3 c3 wb.heap.size wx) ∧ Hid (∀ g, (Value.slice A3 (playB m k n b (acts.take p)).2.length c3).ownBlock = some g → (Value.slice A1 m.l.length c1).ownBlock ≠ some g)) (fun _ i _ => acts.length - (intOf i).toNat)
  case atStart => exact ⟨0, A1, c1, A2, c2, _, _, by omega, rfl, rfl, HS, HD⟩
  case round =>
    obtain ⟨p, A1, c1, A2, c2, A3, c3, hp, rfl, rfl, HS, HD⟩ := hrel
    by_cases hlt : p < acts.length
    · have Htk := Lib.hid (playB_take m k n (b := b) hlt)
      have HGd := Lib.hid (Hgd.out p)
      have hlb := Hlenb.out p
      have hfw := playB_few (m := m) (k := k) (n := n) (l := acts.take p) (b := b)
      rw [List.length_take] at hfw
      have hok := Hok.out _ (List.getElem_mem hlt)
      obtain ⟨b', hb'⟩ : ∃ b', b' = (playB m k n b (acts.take p)).1 := ⟨_, rfl⟩
      obtain ⟨rows, hrows⟩ : ∃ rows, rows = (playB m k n b (acts.take p)).2 := ⟨_, rfl⟩
      rw [← hb', ← hrows] at Htk
      rw [← hb'] at HGd hlb HS
      rw [← hrows] at hfw HS HD ⊢
      obtain ⟨K, Bl, By, C, hc, hK⟩ := act_cells acts[p]
      obtain ⟨ad, rfl, hel⟩ := act_el Har.out hlt hc
      obtain ⟨z0, z1, z2, z3⟩ := hel wr HS.out.bw
      obtain ⟨a, ha⟩ : ∃ a, a = acts[p] := ⟨_, rfl⟩
      rw [← ha] at Htk hok hc hK
      have hav : a.v = .agg #[.int .i64 K, .int .i64 Bl, .int .i64 By, .string C] := by unfold Act3.v; rw [hc]
      have HK := Lib.hid hK
      have Hlb := Lib.hid hlb
      have hb8' : b'.rs.length ≤ 8 := by omega
      clear hb' hrows ha hel hc hK hlb
      have hszr := HS.out.sz
      have hGr := HS.out.bx.blk
      have hRr := HS.out.rs.blk
      go_upto_region 6 with fail
      refine box1 (C := fun W => Code.wp _ _ _ _ W) ?_
      intro wq hwq kq hBq
      have hq : Bc wq wr.heap.size [.int .i64 K, .int .i64 Bl, .int .i64 By, .string C] 82 := kq
      obtain ⟨i0, i1, i2, i3⟩ : _ ∧ _ ∧ _ ∧ _ := ⟨hq.at_ 0 rfl, hq.at_ 1 rfl, hq.at_ 2 rfl, hq.at_ 3 rfl⟩
      have bq := HS.out.bx.to hwq hGr
      have rq := HS.out.rs.to hwq hRr
      have o1q := own_to HS.out.o1 hwq
      have o2q := own_to HS.out.o2 hwq
      have o3q := own_to HS.out.o3 hwq
      have bwq := bw_to HS.out.bw hwq
      have hszq := hwq.size
      obtain ⟨x0, x1, x2, x3, x4, x5, x6, x7, x8⟩ := bq.all9.1
      have Hdn := Lib.hid (done_any m k n b' a _ _ wq HGd.out hok (strs_of_own o1q) (nilok_own o1q) (sl_of_own o2q) (nilok_own o2q))
      rw [hav] at Hdn
      unfold Bd.v at Hdn
      have HQ := Lib.hid (And.intro bq (And.intro rq (And.intro o1q (And.intro o2q (And.intro o3q bwq)))))
      have Hq := Lib.hid hq
      clear z0 z1 z2 z3 kq hq hBq hav bq rq o1q o2q o3q bwq hwq
      go_wp2_with fail
      refine Hdn.out.mono ?_; intro e w5 hq5; obtain ⟨B1, d1, B2, d2, he5, n1, n2, hb5⟩ := hq5
      unfold Bd.v at he5
      subst he5
      have HN := Lib.hid (And.intro n1 (And.intro n2 hb5))
      clear n1 n2 x0 x1 x2 x3 x4 x5 x6 x7 x8 i0 i1 i2 i3
      have hsz5 := hb5.size
      go_upto_region 7 with fail
      refine box1 (C := fun W => Code.wp _ _ _ _ W) ?_
      intro w6 hw6 k6 hB6
      have t6 : Bc w6 w5.heap.size [.string m.name, .int .i64 m.stage, .slice B1 m.l.length d1, .string k.bob, .string k.single, .int .i64 ((doB m k n b' a)).st, .string ((doB m k n b' a)).call, .string ((doB m k n b' a)).tr, .slice B2 (doB m k n b' a).rs.length d2] 33 := k6
      have hb6 := bw_to hb5 hw6
      have i0 := (Hq.out.to hb6 Hq.out.blk).at_ 0 rfl
      have H6 := Lib.hid (And.intro t6 (And.intro hb6 hw6))
      have hsz6 := t6.blk
      clear k6 t6 hb5 hb6 hw6 hB6
      have HG9 : w.heap.size < wb.heap.size := hz1
      by_cases hst : K = 1
      · subst hst
        have d1' : isStep a = true := by rw [HK.out]; rfl
        rw [d1', if_pos rfl] at Htk
        obtain ⟨x0, x1, x2, x3, x4, x5, x6, x7, x8⟩ := (HQ.out.1.to H6.out.2.1 HQ.out.1.blk).all9.1
        have Hrw := Lib.hid (Hrow.out b' Hlb.out (.slice A1 m.l.length c1) (.slice A2 b'.rs.length c2) w6 (bw_to HQ.out.2.2.2.2.2 H6.out.2.1) (sl_of_own (own_to HQ.out.2.2.2.1 H6.out.2.1)))
        unfold Bd.v at Hrw
        clear d1'
        go_wp2_with fail
        refine Hrw.out.mono ?_; rintro e w7 ⟨rfl, hb7⟩
        have hb67 := bw_to H6.out.2.1 hb7
        have o3w := own_to HQ.out.2.2.2.2.1 hb67
        have hsz7 := hb7.size
        have hzz : wb.heap.size ≤ w7.heap.size := by omega
        clear x0 x1 x2 x3 x4 x5 x6 x7 x8 i0
        have Ho3w := Lib.hid o3w
        have H7 := Lib.hid (And.intro hb67 hb7)
        clear o3w hb67 hb7
        go_upto_region 10 with (at_builtin; go_must (refine wpList_app _ rfl _ _ _ rfl wb.heap.size 9 _ 1 16 Tryz.underlying22 info_str rfl (by omega) Ho3w.out [.string (rowOf b')] rfl rfl rfl (one_mem rfl) (by omega) (by omega) hzz ?_); intro v8 w8 hown8 hb8 hg8 hnb8; (obtain ⟨A4, q4, rfl⟩ := nb_slE hown8); (have H8 := Lib.hid (And.intro hown8 (And.intro hb8 (And.intro hg8 hnb8)))); clear hown8 hb8 hg8 hnb8)
        have nG : ∀ g, g < wb.heap.size → some g = (Value.slice A3 rows.length c3).ownBlock → False := fun g hg h => by have := (own_nb Ho3w.out h.symm).1; omega
        have hg3 := (own_nb (g := w5.heap.size) HQ.out.2.2.2.2.1)
        have n9 : some w5.heap.size = (Value.slice A3 rows.length c3).ownBlock → False := fun h => by have := (own_nb HQ.out.2.2.2.2.1 h.symm).2; omega
        have BX := ((HQ.out.1.to H7.out.1 HQ.out.1.blk)).same (H8.out.2.2.1.block w.heap.size (by have := H7.out.1.size; omega) (nG _ HG9))
        have RS := ((HQ.out.2.1.to H7.out.1 HQ.out.2.1.blk)).same (H8.out.2.2.1.block (w.heap.size + 1) (by have := H7.out.1.size; omega) (nG _ (by omega)))
        have T9 := (H6.out.1.to H7.out.2 hsz6).same (H8.out.2.2.1.block w5.heap.size (by omega) n9)
        have dis1 : ∀ g, (Value.slice B1 m.l.length d1).ownBlock = some g → (Value.slice A3 rows.length c3).ownBlock ≠ some g := fun g h1 h2 => by
          have h3 := (own_nb HN.out.1 h1).1
          have h4 := (own_nb HQ.out.2.2.2.2.1 h2).2
          omega
        have N1 := (own_to (own_to HN.out.1 H6.out.2.2) H7.out.2).kept (row := (Value.slice A3 rows.length c3).ownBlock) H8.out.2.2.1 (by
          cases hB : (Value.slice B1 m.l.length d1).ownBlock with
          | none => exact .inl rfl
          | some g => exact .inr (fun e => dis1 g hB e.symm))
        have N2 := (own_to (own_to HN.out.2.1 H6.out.2.2) H7.out.2).kept (row := (Value.slice A3 rows.length c3).ownBlock) H8.out.2.2.1 (own_kinds' (own_to (own_to HN.out.2.1 H6.out.2.2) H7.out.2) Ho3w.out (by decide))
        have O3 := H8.out.1
        have BW := (bw_to HQ.out.2.2.2.2.2 H7.out.1).trans (H8.out.2.1.mono (by omega))
        have SZ := Nat.le_trans hzz H8.out.2.1.size
        have DJ : ∀ g, (Value.slice A4 (rows.length + 1) q4).ownBlock = some g → (Value.slice B1 m.l.length d1).ownBlock ≠ some g := fun g h1 h2 => by
          rcases H8.out.2.2.2 with h | h
          · exact dis1 g h2 (h.symm.trans h1)
          · have h3 := h g h1
            have h4 := (own_nb (own_to (own_to HN.out.1 H6.out.2.2) H7.out.2) h2).2
            omega
        have E1 := Lib.hid (BX.s9 (.string m.name) (.int .i64 m.stage) (.slice B1 m.l.length d1) (.string k.bob) (.string k.single) (.int .i64 (doB m k n b' a).st) (.string (doB m k n b' a).call) (.string (doB m k n b' a).tr) (.slice B2 (doB m k n b' a).rs.length d2))
        have E2 := Lib.hid (RS.same (oth9 (W := w8) (B := w.heap.size) (b := w.heap.size + 1) (x0 := .string m.name) (x1 := .int .i64 m.stage) (x2 := .slice B1 m.l.length d1) (x3 := .string k.bob) (x4 := .string k.single) (x5 := .int .i64 (doB m k n b' a).st) (x6 := .string (doB m k n b' a).call) (x7 := .string (doB m k n b' a).tr) (x8 := .slice B2 (doB m k n b' a).rs.length d2) (by omega)))
        have E3 := Lib.hid (own9 (B := w.heap.size) (x0 := .string m.name) (x1 := .int .i64 m.stage) (x2 := .slice B1 m.l.length d1) (x3 := .string k.bob) (x4 := .string k.single) (x5 := .int .i64 (doB m k n b' a).st) (x6 := .string (doB m k n b' a).call) (x7 := .string (doB m k n b' a).tr) (x8 := .slice B2 (doB m k n b' a).rs.length d2) N1 (by omega))
        have E4 := Lib.hid (own9 (B := w.heap.size) (x0 := .string m.name) (x1 := .int .i64 m.stage) (x2 := .slice B1 m.l.length d1) (x3 := .string k.bob) (x4 := .string k.single) (x5 := .int .i64 (doB m k n b' a).st) (x6 := .string (doB m k n b' a).call) (x7 := .string (doB m k n b' a).tr) (x8 := .slice B2 (doB m k n b' a).rs.length d2) N2 (by omega))
        have E5 := Lib.hid (own9 (B := w.heap.size) (x0 := .string m.name) (x1 := .int .i64 m.stage) (x2 := .slice B1 m.l.length d1) (x3 := .string k.bob) (x4 := .string k.single) (x5 := .int .i64 (doB m k n b' a).st) (x6 := .string (doB m k n b' a).call) (x7 := .string (doB m k n b' a).tr) (x8 := .slice B2 (doB m k n b' a).rs.length d2) O3 (by omega))
        have E6 := Lib.hid (bw9 (B := w.heap.size) (x0 := .string m.name) (x1 := .int .i64 m.stage) (x2 := .slice B1 m.l.length d1) (x3 := .string k.bob) (x4 := .string k.single) (x5 := .int .i64 (doB m k n b' a).st) (x6 := .string (doB m k n b' a).call) (x7 := .string (doB m k n b' a).tr) (x8 := .slice B2 (doB m k n b' a).rs.length d2) BW (by omega))
        have E7 : Hid (wb.heap.size ≤ ((((((((((w8).setCell ⟨w.heap.size, 0, none⟩ (.string m.name)).setCell ⟨w.heap.size, 1, none⟩ (.int .i64 m.stage)).setCell ⟨w.heap.size, 2, none⟩ (.slice B1 m.l.length d1)).setCell ⟨w.heap.size, 3, none⟩ (.string k.bob)).setCell ⟨w.heap.size, 4, none⟩ (.string k.single)).setCell ⟨w.heap.size, 5, none⟩ (.int .i64 (doB m k n b' a).st)).setCell ⟨w.heap.size, 6, none⟩ (.string (doB m k n b' a).call)).setCell ⟨w.heap.size, 7, none⟩ (.string (doB m k n b' a).tr)).setCell ⟨w.heap.size, 8, none⟩ (.slice B2 (doB m k n b' a).rs.length d2)).heap.size) := Lib.hid (by simp [World.setCell]; exact SZ)
        obtain ⟨⟨y0, y1, y2, y3, y4, y5, y6, y7, y8⟩, f0, f1, f2, f3, f4, f5, f6, f7, f8⟩ := BX.all9
        obtain ⟨v0, v1, v2, v3, v4, v5, v6, v7, v8⟩ := T9.all9.1
        have HDJ := Lib.hid DJ
        clear BX RS N1 N2 O3 BW SZ DJ T9
        go_wp2_with fail
        refine ⟨⟨p + 1, B1, d1, B2, d2, A4, q4, hlt, ?_, by go_num, ?_, ?_⟩, by simp [intOf]; omega⟩
        · rw [Htk.out, List.length_append]; rfl
        · rw [Htk.out]
          refine Lib.hid ⟨E1.out, E2.out, own_base E3.out (by omega), own_base E4.out (by omega), ?_, E6.out, E7.out⟩
          rw [List.length_append, List.map_append]
          exact E5.out
        · rw [Htk.out, List.length_append]; exact HDJ
      · have d1' : ((K : Int) == 1) = false := by simp; exact hst
        have d2' : isStep a = false := by rw [HK.out]; exact decide_eq_false hst
        rw [d2', if_neg (by decide), List.append_nil] at Htk
        clear hst d2'
        go_upto_region 10 with fail
        have BX := HQ.out.1.to H6.out.2.1 HQ.out.1.blk
        have RS := HQ.out.2.1.to H6.out.2.1 HQ.out.2.1.blk
        have T9 := H6.out.1
        have N1 := own_to HN.out.1 H6.out.2.2
        have N2 := own_to HN.out.2.1 H6.out.2.2
        have O3 := own_to HQ.out.2.2.2.2.1 H6.out.2.1
        have BW := bw_to HQ.out.2.2.2.2.2 H6.out.2.1
        have SZ : wb.heap.size ≤ w6.heap.size := by omega
        have DJ : ∀ g, (Value.slice A3 rows.length c3).ownBlock = some g → (Value.slice B1 m.l.length d1).ownBlock ≠ some g := fun g h1 h2 => by
          have h3 := (own_nb HN.out.1 h2).1
          have h4 := (own_nb HQ.out.2.2.2.2.1 h1).2
          omega
        have E1 := Lib.hid (BX.s9 (.string m.name) (.int .i64 m.stage) (.slice B1 m.l.length d1) (.string k.bob) (.string k.single) (.int .i64 (doB m k n b' a).st) (.string (doB m k n b' a).call) (.string (doB m k n b' a).tr) (.slice B2 (doB m k n b' a).rs.length d2))
        have E2 := Lib.hid (RS.same (oth9 (W := w6) (B := w.heap.size) (b := w.heap.size + 1) (x0 := .string m.name) (x1 := .int .i64 m.stage) (x2 := .slice B1 m.l.length d1) (x3 := .string k.bob) (x4 := .string k.single) (x5 := .int .i64 (doB m k n b' a).st) (x6 := .string (doB m k n b' a).call) (x7 := .string (doB m k n b' a).tr) (x8 := .slice B2 (doB m k n b' a).rs.length d2) (by omega)))
        have E3 := Lib.hid (own9 (B := w.heap.size) (x0 := .string m.name) (x1 := .int .i64 m.stage) (x2 := .slice B1 m.l.length d1) (x3 := .string k.bob) (x4 := .string k.single) (x5 := .int .i64 (doB m k n b' a).st) (x6 := .string (doB m k n b' a).call) (x7 := .string (doB m k n b' a).tr) (x8 := .slice B2 (doB m k n b' a).rs.length d2) N1 (by omega))
        have E4 := Lib.hid (own9 (B := w.heap.size) (x0 := .string m.name) (x1 := .int .i64 m.stage) (x2 := .slice B1 m.l.length d1) (x3 := .string k.bob) (x4 := .string k.single) (x5 := .int .i64 (doB m k n b' a).st) (x6 := .string (doB m k n b' a).call) (x7 := .string (doB m k n b' a).tr) (x8 := .slice B2 (doB m k n b' a).rs.length d2) N2 (by omega))
        have E5 := Lib.hid (own9 (B := w.heap.size) (x0 := .string m.name) (x1 := .int .i64 m.stage) (x2 := .slice B1 m.l.length d1) (x3 := .string k.bob) (x4 := .string k.single) (x5 := .int .i64 (doB m k n b' a).st) (x6 := .string (doB m k n b' a).call) (x7 := .string (doB m k n b' a).tr) (x8 := .slice B2 (doB m k n b' a).rs.length d2) O3 (by omega))
        have E6 := Lib.hid (bw9 (B := w.heap.size) (x0 := .string m.name) (x1 := .int .i64 m.stage) (x2 := .slice B1 m.l.length d1) (x3 := .string k.bob) (x4 := .string k.single) (x5 := .int .i64 (doB m k n b' a).st) (x6 := .string (doB m k n b' a).call) (x7 := .string (doB m k n b' a).tr) (x8 := .slice B2 (doB m k n b' a).rs.length d2) BW (by omega))
        have E7 : Hid (wb.heap.size ≤ ((((((((((w6).setCell ⟨w.heap.size, 0, none⟩ (.string m.name)).setCell ⟨w.heap.size, 1, none⟩ (.int .i64 m.stage)).setCell ⟨w.heap.size, 2, none⟩ (.slice B1 m.l.length d1)).setCell ⟨w.heap.size, 3, none⟩ (.string k.bob)).setCell ⟨w.heap.size, 4, none⟩ (.string k.single)).setCell ⟨w.heap.size, 5, none⟩ (.int .i64 (doB m k n b' a).st)).setCell ⟨w.heap.size, 6, none⟩ (.string (doB m k n b' a).call)).setCell ⟨w.heap.size, 7, none⟩ (.string (doB m k n b' a).tr)).setCell ⟨w.heap.size, 8, none⟩ (.slice B2 (doB m k n b' a).rs.length d2)).heap.size) := Lib.hid (by simp [World.setCell]; exact SZ)
        obtain ⟨⟨y0, y1, y2, y3, y4, y5, y6, y7, y8⟩, f0, f1, f2, f3, f4, f5, f6, f7, f8⟩ := BX.all9
        obtain ⟨v0, v1, v2, v3, v4, v5, v6, v7, v8⟩ := T9.all9.1
        have HDJ := Lib.hid DJ
        clear BX RS N1 N2 O3 BW SZ DJ T9
        go_wp2_with fail
        refine ⟨⟨p + 1, B1, d1, B2, d2, A3, c3, hlt, ?_, by go_num, ?_, ?_⟩, by simp [intOf]; omega⟩
        · rw [Htk.out]
        · rw [Htk.out]
          exact Lib.hid ⟨E1.out, E2.out, own_base E3.out (by omega), own_base E4.out (by omega), E5.out, E6.out, E7.out⟩
        · rw [Htk.out]; exact HDJ
    · obtain rfl : p = acts.length := by omega
      rw [List.take_length] at HS
      rw [List.take_length] at HD
      rw [List.take_length]
      obtain ⟨X, hX⟩ : ∃ X, X = (playB m k n b acts).1 := ⟨_, rfl⟩
      obtain ⟨Y, hY⟩ : ∃ Y, Y = (playB m k n b acts).2 := ⟨_, rfl⟩
      have HX := Lib.hid (And.intro hX hY)
      rw [← hX, ← hY] at HS
      rw [← hY]
      clear hX hY HD
      have hGr := HS.out.bx.blk
      have hRr := HS.out.rs.blk
      have hszr := HS.out.sz
      obtain ⟨y0, y1, y2, y3, y4, y5, y6, y7, y8⟩ := HS.out.bx.all9.1
      obtain ⟨⟨v0, v1, v2, v3, v4, v5, v6, v7, v8⟩, f0, f1, f2, f3, f4, f5, f6, f7, f8⟩ := HS.out.rs.all9
      obtain ⟨e0, e1, e2, e3, e4, e5, e6, e7, e8⟩ := HS.out.rs.e9 (.string m.name) (.int .i64 m.stage) (.slice A1 m.l.length c1) (.string k.bob) (.string k.single) (.int .i64 X.st) (.string X.call) (.string X.tr) (.slice A2 X.rs.length c2)
      have E := Lib.hid (And.intro e0 (And.intro e1 (And.intro e2 (And.intro e3 (And.intro e4 (And.intro e5 (And.intro e6 (And.intro e7 e8))))))))
      clear e0 e1 e2 e3 e4 e5 e6 e7 e8
      go_wp2_with fail
      obtain ⟨e0, e1, e2, e3, e4, e5, e6, e7, e8⟩ := E.out
      refine bodyPost_ret (v := .tuple #[.agg #[.string m.name, .int .i64 m.stage, .slice A1 m.l.length c1, .string k.bob, .string k.single, .int .i64 X.st, .string X.call, .string X.tr, .slice A2 X.rs.length c2], .slice A3 Y.length c3]) (by simp [results, go_sem, e0, e1, e2, e3, e4, e5, e6, e7, e8]) rfl ⟨A1, c1, A2, c2, A3, c3, ?_, ?_, ?_, ?_, bw9 HS.out.bw (by omega)⟩
      · rw [← HX.out.1, ← HX.out.2]; rfl
      · exact own_base (own9 HS.out.o1 (by omega)) (by omega)
      · rw [← HX.out.1]; exact own_base (own9 HS.out.o2 (by omega)) (by omega)
      · rw [← HX.out.2]; exact own_base (own9 HS.out.o3 (by omega)) (by omega)
set_option maxRecDepth 100000 in
set_option maxHeartbeats 8000000 in
theorem l24Play_any (m : Mt) (k : Cl) (n : Nat) (b : Bd) (v r va : Value) (acts : List Act3) (w : World) (hg : BGood m k n b) (hok : ∀ a ∈ acts, a.ok n) (hv : Strs w v m.l) (hn : NilOk v) (hr : Sl w 2 r b.rs.length (b.rs.flatMap rsC)) (hnr : NilOk r) (hva : Sl w 4 va acts.length (acts.flatMap Act3.c)) (hlen : acts.length ≤ 400) : Calls Tryz.prog 45 #[b.v m k v r, va] w (PlPost w m k (playB m k n b acts).1 (playB m k n b acts).2) := by
  have hl := hg.c.m.len
  have hn8 := hg.c.m.hi
  have hsg := hg.c.m.st
  have hbl := hg.len
  have Hcp := Lib.hid (fun W (hW : Below w.heap.size w W) => l24Own_any m k b v r W (hv.to hW) hn (hr.to hW) hnr (by omega) (by omega))
  have Hgd := Lib.hid (fun p => playB_good (l := acts.take p) hg (fun a ha => hok a (List.mem_of_mem_take ha)))
  have Hrow := Lib.hid (fun (b' : Bd) (hb' : b'.rs.length = n) v r W (hW : Below w.heap.size w W) (h2 : Sl W 2 r b'.rs.length (b'.rs.flatMap rsC)) => l24Row_any m k b' v r W h2 (by omega) (by rw [hsg, hb']))
  have Hok := Lib.hid hok
  have Hlenb : Hid (∀ p, (playB m k n b (acts.take p)).1.rs.length = n) := Lib.hid (fun p => (Hgd.out p).len)
  have hb8 : b.rs.length ≤ 8 := by omega
  clear hbl hsg hg
  obtain ⟨A, q, rfl, _⟩ := hv
  obtain ⟨Ar, qr, rfl, _⟩ := hr
  obtain ⟨Aa, qa, rfl, ha1, ha2, har⟩ := hva
  unfold maxLen at ha2
  have Har := Lib.hid har
  clear har hok 
  unfold Bd.v at *
  go_enter Tryz.func45, Tryz.ntmps45
  go_wp2_with fail
  refine box2 (C := fun W => Calls _ _ _ W _) ?_
  intro wb hw k1 k2 hB0
  have h1 : Bc wb w.heap.size [.string m.name, .int .i64 m.stage, .slice A m.l.length q, .string k.bob, .string k.single, .int .i64 (b).st, .string (b).call, .string (b).tr, .slice Ar b.rs.length qr] 33 := k1
  obtain ⟨t2, h2⟩ : ∃ t, Bc wb (w.heap.size + 1) [.string ⟨#[]⟩, .int .i64 0, .slice none 0 0, .string ⟨#[]⟩, .string ⟨#[]⟩, .int .i64 0, .string ⟨#[]⟩, .string ⟨#[]⟩, .slice none 0 0] t := ⟨_, k2⟩
  clear k1 k2
  have hz1 := h1.blk
  have hz2 := h2.blk
  refine (Hcp.out _ hw).mono ?_; intro e w1 hq1; obtain ⟨A1, c1, A2, c2, he1, ho1, ho2, hb1⟩ := hq1
  unfold Bd.v at he1
  subst he1
  have P2 := h2.to hb1 hz2
  have hw1 := bw_to hw hb1
  have hb1z := hb1.size
  go_upto_region 2 with fail
  refine box1 (C := fun W => Code.wp _ _ _ _ W) ?_
  intro w2 hw2 k3 hB3
  have U1 : Bc w2 w1.heap.size [.string m.name, .int .i64 m.stage, .slice A1 m.l.length c1, .string k.bob, .string k.single, .int .i64 (b).st, .string (b).call, .string (b).tr, .slice A2 b.rs.length c2] 33 := k3
  have hGo : w1.heap.size < w2.heap.size := U1.blk
  have HS : Hid (PlS w wb m k (playB m k n b (acts.take 0)).1 (playB m k n b (acts.take 0)).2 w1.heap.size t2 A1 c1 A2 c2 none 0 w2.heap.size w2) := Lib.hid ⟨U1, P2.to hw2 P2.blk, own_to ho1 hw2, own_to ho2 hw2, ⟨rfl, .inl ⟨rfl, rfl⟩⟩, bw_to hw1 hw2, Nat.le_refl _⟩
  have HD : Hid (∀ g, (Value.slice none 0 0).ownBlock = some g → (Value.slice A1 m.l.length c1).ownBlock ≠ some g) := Lib.hid (fun g hg => by simp [Value.ownBlock] at hg)
  clear k3 U1 P2 hw1 hw2 ho1 ho2 hb1 hB3 h1 h2 hw hB0
  go_wp2_with fail
  go_loopw [7, 16] (fun s i wx => ∃ (p : Nat) (A1 : Option Addr) (c1 : Nat) (A2 : Option Addr) (c2 : Nat) (A3 : Option Addr) (c3 : Nat), p ≤ acts.length ∧ s = .slice A3 (playB m k n b (acts.take p)).2.length c3 ∧ i = .int .i64 p ∧ Hid (PlS w wb m k (playB m k n b (acts.take p)).1 (playB m k n b (acts.take p)).2 w1.heap.size t2 A1 c1 A2 c2 A3 c3 w2.heap.size wx) ∧ Hid (∀ g, (Value.slice A3 (playB m k n b (acts.take p)).2.length c3).ownBlock = some g → (Value.slice A1 m.l.length c1).ownBlock ≠ some g)) (fun _ i _ => acts.length - (intOf i).toNat)
  case atStart => exact ⟨0, A1, c1, A2, c2, _, _, by omega, rfl, rfl, HS, HD⟩
  case round =>
    obtain ⟨p, A1, c1, A2, c2, A3, c3, hp, rfl, rfl, HS, HD⟩ := hrel
    by_cases hlt : p < acts.length
    · have Htk := Lib.hid (playB_take m k n (b := b) hlt)
      have HGd := Lib.hid (Hgd.out p)
      have hlb := Hlenb.out p
      have hfw := playB_few (m := m) (k := k) (n := n) (l := acts.take p) (b := b)
      rw [List.length_take] at hfw
      have hok := Hok.out _ (List.getElem_mem hlt)
      obtain ⟨b', hb'⟩ : ∃ b', b' = (playB m k n b (acts.take p)).1 := ⟨_, rfl⟩
      obtain ⟨rows, hrows⟩ : ∃ rows, rows = (playB m k n b (acts.take p)).2 := ⟨_, rfl⟩
      rw [← hb', ← hrows] at Htk
      rw [← hb'] at HGd hlb HS
      rw [← hrows] at hfw HS HD ⊢
      obtain ⟨K, Bl, By, C, hc, hK⟩ := act_cells acts[p]
      obtain ⟨ad, rfl, hel⟩ := act_el Har.out hlt hc
      obtain ⟨z0, z1, z2, z3⟩ := hel wr HS.out.bw
      obtain ⟨a, ha⟩ : ∃ a, a = acts[p] := ⟨_, rfl⟩
      rw [← ha] at Htk hok hc hK
      have hav : a.v = .agg #[.int .i64 K, .int .i64 Bl, .int .i64 By, .string C] := by unfold Act3.v; rw [hc]
      have HK := Lib.hid hK
      have Hlb := Lib.hid hlb
      have hb8' : b'.rs.length ≤ 8 := by omega
      clear hb' hrows ha hel hc hK hlb
      have hszr := HS.out.sz
      have hGr := HS.out.bx.blk
      have hRr := HS.out.rs.blk
      go_upto_region 6 with fail
      refine box1 (C := fun W => Code.wp _ _ _ _ W) ?_
      intro wq hwq kq hBq
      have hq : Bc wq wr.heap.size [.int .i64 K, .int .i64 Bl, .int .i64 By, .string C] 82 := kq
      obtain ⟨i0, i1, i2, i3⟩ : _ ∧ _ ∧ _ ∧ _ := ⟨hq.at_ 0 rfl, hq.at_ 1 rfl, hq.at_ 2 rfl, hq.at_ 3 rfl⟩
      have bq := HS.out.bx.to hwq hGr
      have rq := HS.out.rs.to hwq hRr
      have o1q := own_to HS.out.o1 hwq
      have o2q := own_to HS.out.o2 hwq
      have o3q := own_to HS.out.o3 hwq
      have bwq := bw_to HS.out.bw hwq
      have hszq := hwq.size
      obtain ⟨x0, x1, x2, x3, x4, x5, x6, x7, x8⟩ := bq.all9.1
      have Hdn := Lib.hid (l24Do_any m k n b' a _ _ wq HGd.out hok (strs_of_own o1q) (nilok_own o1q) (sl_of_own o2q) (nilok_own o2q))
      rw [hav] at Hdn
      unfold Bd.v at Hdn
      have HQ := Lib.hid (And.intro bq (And.intro rq (And.intro o1q (And.intro o2q (And.intro o3q bwq)))))
      have Hq := Lib.hid hq
      clear z0 z1 z2 z3 kq hq hBq hav bq rq o1q o2q o3q bwq hwq
      go_wp2_with fail
      refine Hdn.out.mono ?_; intro e w5 hq5; obtain ⟨B1, d1, B2, d2, he5, n1, n2, hb5⟩ := hq5
      unfold Bd.v at he5
      subst he5
      have HN := Lib.hid (And.intro n1 (And.intro n2 hb5))
      clear n1 n2 x0 x1 x2 x3 x4 x5 x6 x7 x8 i0 i1 i2 i3
      have hsz5 := hb5.size
      go_upto_region 7 with fail
      refine box1 (C := fun W => Code.wp _ _ _ _ W) ?_
      intro w6 hw6 k6 hB6
      have t6 : Bc w6 w5.heap.size [.string m.name, .int .i64 m.stage, .slice B1 m.l.length d1, .string k.bob, .string k.single, .int .i64 ((doB m k n b' a)).st, .string ((doB m k n b' a)).call, .string ((doB m k n b' a)).tr, .slice B2 (doB m k n b' a).rs.length d2] 33 := k6
      have hb6 := bw_to hb5 hw6
      have i0 := (Hq.out.to hb6 Hq.out.blk).at_ 0 rfl
      have H6 := Lib.hid (And.intro t6 (And.intro hb6 hw6))
      have hsz6 := t6.blk
      clear k6 t6 hb5 hb6 hw6 hB6
      have HG9 : w1.heap.size < w2.heap.size := hGo
      by_cases hst : K = 1
      · subst hst
        have d1' : isStep a = true := by rw [HK.out]; rfl
        rw [d1', if_pos rfl] at Htk
        obtain ⟨x0, x1, x2, x3, x4, x5, x6, x7, x8⟩ := (HQ.out.1.to H6.out.2.1 HQ.out.1.blk).all9.1
        have Hrw := Lib.hid (Hrow.out b' Hlb.out (.slice A1 m.l.length c1) (.slice A2 b'.rs.length c2) w6 (bw_to HQ.out.2.2.2.2.2 H6.out.2.1) (sl_of_own (own_to HQ.out.2.2.2.1 H6.out.2.1)))
        unfold Bd.v at Hrw
        clear d1'
        go_wp2_with fail
        refine Hrw.out.mono ?_; rintro e w7 ⟨rfl, hb7⟩
        have hb67 := bw_to H6.out.2.1 hb7
        have o3w := own_to HQ.out.2.2.2.2.1 hb67
        have hsz7 := hb7.size
        have hzz : w2.heap.size ≤ w7.heap.size := by omega
        clear x0 x1 x2 x3 x4 x5 x6 x7 x8 i0
        have Ho3w := Lib.hid o3w
        have H7 := Lib.hid (And.intro hb67 hb7)
        clear o3w hb67 hb7
        go_upto_region 10 with (at_builtin; go_must (refine wpList_app _ rfl _ _ _ rfl w2.heap.size 9 _ 1 16 Tryz.underlying22 info_str rfl (by omega) Ho3w.out [.string (rowOf b')] rfl rfl rfl (one_mem rfl) (by omega) (by omega) hzz ?_); intro v8 w8 hown8 hb8 hg8 hnb8; (obtain ⟨A4, q4, rfl⟩ := nb_slE hown8); (have H8 := Lib.hid (And.intro hown8 (And.intro hb8 (And.intro hg8 hnb8)))); clear hown8 hb8 hg8 hnb8)
        have nG : ∀ g, g < w2.heap.size → some g = (Value.slice A3 rows.length c3).ownBlock → False := fun g hg h => by have := (own_nb Ho3w.out h.symm).1; omega
        have hg3 := (own_nb (g := w5.heap.size) HQ.out.2.2.2.2.1)
        have n9 : some w5.heap.size = (Value.slice A3 rows.length c3).ownBlock → False := fun h => by have := (own_nb HQ.out.2.2.2.2.1 h.symm).2; omega
        have BX := ((HQ.out.1.to H7.out.1 HQ.out.1.blk)).same (H8.out.2.2.1.block w1.heap.size (by have := H7.out.1.size; omega) (nG _ HG9))
        have RS := ((HQ.out.2.1.to H7.out.1 HQ.out.2.1.blk)).same (H8.out.2.2.1.block (w.heap.size + 1) (by have := H7.out.1.size; omega) (nG _ (by omega)))
        have T9 := (H6.out.1.to H7.out.2 hsz6).same (H8.out.2.2.1.block w5.heap.size (by omega) n9)
        have dis1 : ∀ g, (Value.slice B1 m.l.length d1).ownBlock = some g → (Value.slice A3 rows.length c3).ownBlock ≠ some g := fun g h1 h2 => by
          have h3 := (own_nb HN.out.1 h1).1
          have h4 := (own_nb HQ.out.2.2.2.2.1 h2).2
          omega
        have N1 := (own_to (own_to HN.out.1 H6.out.2.2) H7.out.2).kept (row := (Value.slice A3 rows.length c3).ownBlock) H8.out.2.2.1 (by
          cases hB : (Value.slice B1 m.l.length d1).ownBlock with
          | none => exact .inl rfl
          | some g => exact .inr (fun e => dis1 g hB e.symm))
        have N2 := (own_to (own_to HN.out.2.1 H6.out.2.2) H7.out.2).kept (row := (Value.slice A3 rows.length c3).ownBlock) H8.out.2.2.1 (own_kinds' (own_to (own_to HN.out.2.1 H6.out.2.2) H7.out.2) Ho3w.out (by decide))
        have O3 := H8.out.1
        have BW := (bw_to HQ.out.2.2.2.2.2 H7.out.1).trans (H8.out.2.1.mono (by omega))
        have SZ := Nat.le_trans hzz H8.out.2.1.size
        have DJ : ∀ g, (Value.slice A4 (rows.length + 1) q4).ownBlock = some g → (Value.slice B1 m.l.length d1).ownBlock ≠ some g := fun g h1 h2 => by
          rcases H8.out.2.2.2 with h | h
          · exact dis1 g h2 (h.symm.trans h1)
          · have h3 := h g h1
            have h4 := (own_nb (own_to (own_to HN.out.1 H6.out.2.2) H7.out.2) h2).2
            omega
        have E1 := Lib.hid (BX.s9 (.string m.name) (.int .i64 m.stage) (.slice B1 m.l.length d1) (.string k.bob) (.string k.single) (.int .i64 (doB m k n b' a).st) (.string (doB m k n b' a).call) (.string (doB m k n b' a).tr) (.slice B2 (doB m k n b' a).rs.length d2))
        have E2 := Lib.hid (RS.same (oth9 (W := w8) (B := w1.heap.size) (b := w.heap.size + 1) (x0 := .string m.name) (x1 := .int .i64 m.stage) (x2 := .slice B1 m.l.length d1) (x3 := .string k.bob) (x4 := .string k.single) (x5 := .int .i64 (doB m k n b' a).st) (x6 := .string (doB m k n b' a).call) (x7 := .string (doB m k n b' a).tr) (x8 := .slice B2 (doB m k n b' a).rs.length d2) (by omega)))
        have E3 := Lib.hid (own9 (B := w1.heap.size) (x0 := .string m.name) (x1 := .int .i64 m.stage) (x2 := .slice B1 m.l.length d1) (x3 := .string k.bob) (x4 := .string k.single) (x5 := .int .i64 (doB m k n b' a).st) (x6 := .string (doB m k n b' a).call) (x7 := .string (doB m k n b' a).tr) (x8 := .slice B2 (doB m k n b' a).rs.length d2) N1 (by omega))
        have E4 := Lib.hid (own9 (B := w1.heap.size) (x0 := .string m.name) (x1 := .int .i64 m.stage) (x2 := .slice B1 m.l.length d1) (x3 := .string k.bob) (x4 := .string k.single) (x5 := .int .i64 (doB m k n b' a).st) (x6 := .string (doB m k n b' a).call) (x7 := .string (doB m k n b' a).tr) (x8 := .slice B2 (doB m k n b' a).rs.length d2) N2 (by omega))
        have E5 := Lib.hid (own9 (B := w1.heap.size) (x0 := .string m.name) (x1 := .int .i64 m.stage) (x2 := .slice B1 m.l.length d1) (x3 := .string k.bob) (x4 := .string k.single) (x5 := .int .i64 (doB m k n b' a).st) (x6 := .string (doB m k n b' a).call) (x7 := .string (doB m k n b' a).tr) (x8 := .slice B2 (doB m k n b' a).rs.length d2) O3 (by omega))
        have E6 := Lib.hid (bw9 (B := w1.heap.size) (x0 := .string m.name) (x1 := .int .i64 m.stage) (x2 := .slice B1 m.l.length d1) (x3 := .string k.bob) (x4 := .string k.single) (x5 := .int .i64 (doB m k n b' a).st) (x6 := .string (doB m k n b' a).call) (x7 := .string (doB m k n b' a).tr) (x8 := .slice B2 (doB m k n b' a).rs.length d2) BW (by omega))
        have E7 : Hid (w2.heap.size ≤ ((((((((((w8).setCell ⟨w1.heap.size, 0, none⟩ (.string m.name)).setCell ⟨w1.heap.size, 1, none⟩ (.int .i64 m.stage)).setCell ⟨w1.heap.size, 2, none⟩ (.slice B1 m.l.length d1)).setCell ⟨w1.heap.size, 3, none⟩ (.string k.bob)).setCell ⟨w1.heap.size, 4, none⟩ (.string k.single)).setCell ⟨w1.heap.size, 5, none⟩ (.int .i64 (doB m k n b' a).st)).setCell ⟨w1.heap.size, 6, none⟩ (.string (doB m k n b' a).call)).setCell ⟨w1.heap.size, 7, none⟩ (.string (doB m k n b' a).tr)).setCell ⟨w1.heap.size, 8, none⟩ (.slice B2 (doB m k n b' a).rs.length d2)).heap.size) := Lib.hid (by simp [World.setCell]; exact SZ)
        obtain ⟨⟨y0, y1, y2, y3, y4, y5, y6, y7, y8⟩, f0, f1, f2, f3, f4, f5, f6, f7, f8⟩ := BX.all9
        obtain ⟨v0, v1, v2, v3, v4, v5, v6, v7, v8⟩ := T9.all9.1
        have HDJ := Lib.hid DJ
        clear BX RS N1 N2 O3 BW SZ DJ T9
        go_wp2_with fail
        refine ⟨⟨p + 1, B1, d1, B2, d2, A4, q4, hlt, ?_, by go_num, ?_, ?_⟩, by simp [intOf]; omega⟩
        · rw [Htk.out, List.length_append]; rfl
        · rw [Htk.out]
          refine Lib.hid ⟨E1.out, E2.out, own_base E3.out (by omega), own_base E4.out (by omega), ?_, E6.out, E7.out⟩
          rw [List.length_append, List.map_append]
          exact E5.out
        · rw [Htk.out, List.length_append]; exact HDJ
      · have d1' : ((K : Int) == 1) = false := by simp; exact hst
        have d2' : isStep a = false := by rw [HK.out]; exact decide_eq_false hst
        rw [d2', if_neg (by decide), List.append_nil] at Htk
        clear hst d2'
        go_upto_region 10 with fail
        have BX := HQ.out.1.to H6.out.2.1 HQ.out.1.blk
        have RS := HQ.out.2.1.to H6.out.2.1 HQ.out.2.1.blk
        have T9 := H6.out.1
        have N1 := own_to HN.out.1 H6.out.2.2
        have N2 := own_to HN.out.2.1 H6.out.2.2
        have O3 := own_to HQ.out.2.2.2.2.1 H6.out.2.1
        have BW := bw_to HQ.out.2.2.2.2.2 H6.out.2.1
        have SZ : w2.heap.size ≤ w6.heap.size := by omega
        have DJ : ∀ g, (Value.slice A3 rows.length c3).ownBlock = some g → (Value.slice B1 m.l.length d1).ownBlock ≠ some g := fun g h1 h2 => by
          have h3 := (own_nb HN.out.1 h2).1
          have h4 := (own_nb HQ.out.2.2.2.2.1 h1).2
          omega
        have E1 := Lib.hid (BX.s9 (.string m.name) (.int .i64 m.stage) (.slice B1 m.l.length d1) (.string k.bob) (.string k.single) (.int .i64 (doB m k n b' a).st) (.string (doB m k n b' a).call) (.string (doB m k n b' a).tr) (.slice B2 (doB m k n b' a).rs.length d2))
        have E2 := Lib.hid (RS.same (oth9 (W := w6) (B := w1.heap.size) (b := w.heap.size + 1) (x0 := .string m.name) (x1 := .int .i64 m.stage) (x2 := .slice B1 m.l.length d1) (x3 := .string k.bob) (x4 := .string k.single) (x5 := .int .i64 (doB m k n b' a).st) (x6 := .string (doB m k n b' a).call) (x7 := .string (doB m k n b' a).tr) (x8 := .slice B2 (doB m k n b' a).rs.length d2) (by omega)))
        have E3 := Lib.hid (own9 (B := w1.heap.size) (x0 := .string m.name) (x1 := .int .i64 m.stage) (x2 := .slice B1 m.l.length d1) (x3 := .string k.bob) (x4 := .string k.single) (x5 := .int .i64 (doB m k n b' a).st) (x6 := .string (doB m k n b' a).call) (x7 := .string (doB m k n b' a).tr) (x8 := .slice B2 (doB m k n b' a).rs.length d2) N1 (by omega))
        have E4 := Lib.hid (own9 (B := w1.heap.size) (x0 := .string m.name) (x1 := .int .i64 m.stage) (x2 := .slice B1 m.l.length d1) (x3 := .string k.bob) (x4 := .string k.single) (x5 := .int .i64 (doB m k n b' a).st) (x6 := .string (doB m k n b' a).call) (x7 := .string (doB m k n b' a).tr) (x8 := .slice B2 (doB m k n b' a).rs.length d2) N2 (by omega))
        have E5 := Lib.hid (own9 (B := w1.heap.size) (x0 := .string m.name) (x1 := .int .i64 m.stage) (x2 := .slice B1 m.l.length d1) (x3 := .string k.bob) (x4 := .string k.single) (x5 := .int .i64 (doB m k n b' a).st) (x6 := .string (doB m k n b' a).call) (x7 := .string (doB m k n b' a).tr) (x8 := .slice B2 (doB m k n b' a).rs.length d2) O3 (by omega))
        have E6 := Lib.hid (bw9 (B := w1.heap.size) (x0 := .string m.name) (x1 := .int .i64 m.stage) (x2 := .slice B1 m.l.length d1) (x3 := .string k.bob) (x4 := .string k.single) (x5 := .int .i64 (doB m k n b' a).st) (x6 := .string (doB m k n b' a).call) (x7 := .string (doB m k n b' a).tr) (x8 := .slice B2 (doB m k n b' a).rs.length d2) BW (by omega))
        have E7 : Hid (w2.heap.size ≤ ((((((((((w6).setCell ⟨w1.heap.size, 0, none⟩ (.string m.name)).setCell ⟨w1.heap.size, 1, none⟩ (.int .i64 m.stage)).setCell ⟨w1.heap.size, 2, none⟩ (.slice B1 m.l.length d1)).setCell ⟨w1.heap.size, 3, none⟩ (.string k.bob)).setCell ⟨w1.heap.size, 4, none⟩ (.string k.single)).setCell ⟨w1.heap.size, 5, none⟩ (.int .i64 (doB m k n b' a).st)).setCell ⟨w1.heap.size, 6, none⟩ (.string (doB m k n b' a).call)).setCell ⟨w1.heap.size, 7, none⟩ (.string (doB m k n b' a).tr)).setCell ⟨w1.heap.size, 8, none⟩ (.slice B2 (doB m k n b' a).rs.length d2)).heap.size) := Lib.hid (by simp [World.setCell]; exact SZ)
        obtain ⟨⟨y0, y1, y2, y3, y4, y5, y6, y7, y8⟩, f0, f1, f2, f3, f4, f5, f6, f7, f8⟩ := BX.all9
        obtain ⟨v0, v1, v2, v3, v4, v5, v6, v7, v8⟩ := T9.all9.1
        have HDJ := Lib.hid DJ
        clear BX RS N1 N2 O3 BW SZ DJ T9
        go_wp2_with fail
        refine ⟨⟨p + 1, B1, d1, B2, d2, A3, c3, hlt, ?_, by go_num, ?_, ?_⟩, by simp [intOf]; omega⟩
        · rw [Htk.out]
        · rw [Htk.out]
          exact Lib.hid ⟨E1.out, E2.out, own_base E3.out (by omega), own_base E4.out (by omega), E5.out, E6.out, E7.out⟩
        · rw [Htk.out]; exact HDJ
    · obtain rfl : p = acts.length := by omega
      rw [List.take_length] at HS
      rw [List.take_length] at HD
      rw [List.take_length]
      obtain ⟨X, hX⟩ : ∃ X, X = (playB m k n b acts).1 := ⟨_, rfl⟩
      obtain ⟨Y, hY⟩ : ∃ Y, Y = (playB m k n b acts).2 := ⟨_, rfl⟩
      have HX := Lib.hid (And.intro hX hY)
      rw [← hX, ← hY] at HS
      rw [← hY]
      clear hX hY HD
      have hGr := HS.out.bx.blk
      have hRr := HS.out.rs.blk
      have hszr := HS.out.sz
      obtain ⟨y0, y1, y2, y3, y4, y5, y6, y7, y8⟩ := HS.out.bx.all9.1
      obtain ⟨⟨v0, v1, v2, v3, v4, v5, v6, v7, v8⟩, f0, f1, f2, f3, f4, f5, f6, f7, f8⟩ := HS.out.rs.all9
      obtain ⟨e0, e1, e2, e3, e4, e5, e6, e7, e8⟩ := HS.out.rs.e9 (.string m.name) (.int .i64 m.stage) (.slice A1 m.l.length c1) (.string k.bob) (.string k.single) (.int .i64 X.st) (.string X.call) (.string X.tr) (.slice A2 X.rs.length c2)
      have E := Lib.hid (And.intro e0 (And.intro e1 (And.intro e2 (And.intro e3 (And.intro e4 (And.intro e5 (And.intro e6 (And.intro e7 e8))))))))
      clear e0 e1 e2 e3 e4 e5 e6 e7 e8
      go_wp2_with fail
      obtain ⟨e0, e1, e2, e3, e4, e5, e6, e7, e8⟩ := E.out
      refine bodyPost_ret (v := .tuple #[.agg #[.string m.name, .int .i64 m.stage, .slice A1 m.l.length c1, .string k.bob, .string k.single, .int .i64 X.st, .string X.call, .string X.tr, .slice A2 X.rs.length c2], .slice A3 Y.length c3]) (by simp [results, go_sem, e0, e1, e2, e3, e4, e5, e6, e7, e8]) rfl ⟨A1, c1, A2, c2, A3, c3, ?_, ?_, ?_, ?_, bw9 HS.out.bw (by omega)⟩
      · rw [← HX.out.1, ← HX.out.2]; rfl
      · exact own_base (own9 HS.out.o1 (by omega)) (by omega)
      · rw [← HX.out.1]; exact own_base (own9 HS.out.o2 (by omega)) (by omega)
      · rw [← HX.out.2]; exact own_base (own9 HS.out.o3 (by omega)) (by omega)
end Go.Proofs.YtimeecimaokldaaGreatDoor
