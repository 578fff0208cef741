/- Contract: the table of prices, the reference's. -/
import Derived.Test.YtimeecimaokldaaEG
namespace Go.Proofs.Ytimeecimaokldaa
open Go Go.RowKit
set_option linter.unusedVariables false
set_option linter.unusedSimpArgs false

theorem prT_last {k : Int} {a b : List Int} {j : Nat} (hj : j ≤ b.length) : prT2 k a b a.length j = k * ((b.length : Int) - j) := by
  unfold prT2
  rw [List.drop_length, pr_nil, List.length_drop]
  congr 1
  omega
theorem prT_end {k : Int} {a b : List Int} {i : Nat} (hi : i ≤ a.length) : prT2 k a b i b.length = k * ((a.length : Int) - i) := by
  unfold prT2
  rw [List.drop_length, pr_end, List.length_drop]
  congr 1
  omega
theorem prT_step {k : Int} {a b : List Int} {i j : Nat} (hi : i < a.length) (hj : j < b.length) : prT2 k a b i j = min (min (k + prT2 k a b (i + 1) j) (k + prT2 k a b i (j + 1))) (((a[i] - b[j]).natAbs : Int) + prT2 k a b (i + 1) (j + 1)) := by
  unfold prT2
  have e1 := List.drop_eq_getElem_cons hi
  have e2 := List.drop_eq_getElem_cons hj
  rw [e1, e2, pr_step]
theorem prT_rng {k : Int} {a b : List Int} (hk : 0 ≤ k ∧ k ≤ 10000) (ha : a.length ≤ 60) (hb : b.length ≤ 60) (i j : Nat) : 0 ≤ prT2 k a b i j ∧ prT2 k a b i j ≤ 1200000 := by
  refine ⟨pr_nonneg hk.1 _ _, Int.le_trans (pr_most hk.1 _ _) ?_⟩
  rw [List.length_drop, List.length_drop]
  have h1 : ((a.length - i : Nat) : Int) + ((b.length - j : Nat) : Int) ≤ 120 := by omega
  have h2 : 0 ≤ ((a.length - i : Nat) : Int) + ((b.length - j : Nat) : Int) := by omega
  refine Int.le_trans (Int.mul_le_mul_of_nonneg_left h1 hk.1) ?_
  omega
theorem info_lstE : (Try.prog.info? 44).map (fun i => (i.zero, i.size, i.bytes)) = some (some (.slice none 0 0), 1, 24) := by kernel_rfl
def PrPost (w : World) (a b : List Int) (s : Int) (e : Ending) (w' : World) : Prop := ∃ (G N : Nat) (g : Nat → Nat), e = .returned (slv G a.length) ∧ Tb w' w.heap.size N G a.length b.length 0 0 (prT2 s a b) g ∧ N ≤ w'.heap.size ∧ Below w.heap.size w w'
set_option maxRecDepth 100000 in
set_option maxHeartbeats 8000000 in
theorem l22Prices_any (u v : Value) (a b : List Int) (s : Int) (w : World) (hu : Ints w u a) (hv : Ints w v b) (hg : GoodM a b s) : Calls Try.prog 49 #[u, v, .int .i64 s] w (PrPost w a b s) := by
  obtain ⟨hga, hgb, hs⟩ := hg
  have ha60 := hga.1
  have hb60 := hgb.1
  have Hra := Lib.hid (fun x hx => goodT_rng hga x hx)
  have Hrb := Lib.hid (fun x hx => goodT_rng hgb x hx)
  have HP := Lib.hid (fun i j => prT_rng hs ha60 hb60 (a := a) (b := b) i j)
  obtain ⟨A1, c1, rfl, hn1, hm1, hr1⟩ := hu
  obtain ⟨A2, c2, rfl, hn2, hm2, hr2⟩ := hv
  have HR1 := Lib.hid hr1
  have HR2 := Lib.hid hr2
  unfold maxLen at hm1 hm2
  obtain ⟨i1, hi1, hz1, hs1, hb1⟩ := info_parts info_intE
  obtain ⟨i2, hi2, hz2, hs2, hb2⟩ := info_parts info_lstE
  clear hga hgb hr1 hr2
  have hwn : IntKind.i64.wrap ((a.length : Int) + 1) = ((a.length + 1 : Nat) : Int) := by rw [IntWalk.i64_in _ ⟨by omega, by omega⟩]; omega
  have hwm : IntKind.i64.wrap ((b.length : Int) + 1) = ((b.length + 1 : Nat) : Int) := by rw [IntWalk.i64_in _ ⟨by omega, by omega⟩]; omega
  go_enter Try.func49, Try.ntmps49
  go_upto_region 2 with (at_make; refine wpList_make_full _ rfl _ _ _ rfl w.heap.size 44 i2 _ 1 Try.underlying73 hi2 hz2 hs2 _ _ _ _ (a.length + 1) rfl rfl (by omega) (by omega) (by rw [hb2]; omega) (by unfold maxLen; omega) (Nat.le_refl _) ?_; intro w1 hown1 hgr1)
  have hB1 := bw_gr (Below.refl _ _) hgr1
  have hT0 : Tb w1 w.heap.size w1.heap.size w.heap.size a.length b.length (a.length + 1) (a.length + 1) (prT2 s a b) (fun _ => 0) :=
    ⟨⟨Nat.le_refl _, (hown1.lt w.heap.size rfl).2⟩, ⟨_, hown1, fun i h1 h2 => absurd h1 (by omega)⟩, fun i h1 h2 => absurd h1 (by omega), fun i j h1 h2 => absurd h1 (by omega)⟩
  have HT0 := Lib.hid hT0
  have HB1 := Lib.hid hB1
  clear hown1 hgr1 hT0 hB1
  go_wp2_with fail
  go_loopw [8] (fun x wr => ∃ (k : Nat) (g : Nat → Nat), k ≤ a.length + 1 ∧ x = .int .i64 ((k : Int) - 1) ∧ Hid (Tb wr w.heap.size wr.heap.size w.heap.size a.length b.length k k (prT2 s a b) g) ∧ Below w.heap.size w wr) (fun x _ => ((match x with | .int _ z => z + 1 | _ => 0) : Int).toNat)
  case atStart => exact ⟨a.length + 1, _, Nat.le_refl _, by simp, HT0, HB1.out⟩
  case round =>
    obtain ⟨k, g, hk, rfl, HT, hB⟩ := hrel
    cases k with
    | zero =>
      have hd : decide ((0 : Int) ≤ (((0 : Nat) : Int) - 1)) = false := rfl
      have HB := Lib.hid hB
      clear hB
      go_wp2_with fail
      go_ret
      exact ⟨w.heap.size, wr.heap.size, g, rfl, HT.out, Nat.le_refl _, HB.out⟩
    | succ i =>
      have hin : i ≤ a.length := by omega
      have he : (((i + 1 : Nat) : Int) - 1) = (i : Int) := by omega
      rw [he]
      clear he hk
      have hBz := hB.size
      have HB := Lib.hid hB
      clear hB
      have hwi : IntKind.i64.wrap ((i : Int) - 1) = (i : Int) - 1 := IntWalk.i64_in _ ⟨by omega, by omega⟩
      go_upto_region 6 with (at_make; refine wpList_make_full _ rfl _ _ _ rfl w.heap.size 3 i1 _ 1 Try.underlying44 hi1 hz1 hs1 _ _ _ _ (b.length + 1) rfl rfl (by omega) (by omega) (by rw [hb1]; omega) (by unfold maxLen; omega) hBz ?_; intro w2 hown2 hgr2; (have hB2 := bw_gr (Below.refl _ _) hgr2); (have hT2 := HT.out.to (Nat.le_refl _) hB2 (Nat.le_refl _)); (obtain ⟨tv, htv, _⟩ := hT2.tv); (obtain ⟨y0, hy0⟩ := own_some htv (j := i) (by omega)); (have hfG := htv.frozenAt i); (have Hown2 := Lib.hid hown2); (have HT2 := Lib.hid hT2); (have HB2 := Lib.hid hB2); clear hown2 hgr2 hB2 hT2 htv)
      have hst := Tb.start HT2.out hin (Nat.le_refl _) hBz (by have := Hown2.out; rw [zerosE, Nat.mul_one] at this; exact this)
      have HB3 := Lib.hid (grow_set (HB.out.trans (HB2.out.mono hBz)) (Nat.le_refl _) (j := i) (slv wr.heap.size b.length))
      have hNz : wr.heap.size + 1 ≤ w2.heap.size := (Hown2.out.lt wr.heap.size rfl).2
      have HNz := Lib.hid hNz
      obtain ⟨w3, hw3⟩ : ∃ w3, w3 = w2.setCell ⟨w.heap.size, i, none⟩ (slv wr.heap.size b.length) := ⟨_, rfl⟩
      have Hz3 : Hid (w3.heap.size = w2.heap.size) := Lib.hid (by rw [hw3]; simp)
      rw [← hw3] at hst HB3
      have hgl : (.slice (some ⟨wr.heap.size, 0, none⟩) (b.length + 1) (b.length + 1) : Value) = slv wr.heap.size b.length := rfl
      rw [hgl, ← hw3]
      clear hw3 hgl hy0 hfG
      obtain ⟨g', hg'⟩ : ∃ g', g' = (fun x => if x = i then wr.heap.size else g x) := ⟨_, rfl⟩
      rw [← hg'] at hst
      have HT3 := Lib.hid hst.1
      have HC3 := Lib.hid hst.2
      clear hst hg' hNz
      obtain ⟨N, hN⟩ : ∃ N, N = wr.heap.size + 1 := ⟨_, rfl⟩
      have hNw : N ≤ w3.heap.size := by rw [hN, Hz3.out]; exact HNz.out
      rw [← hN] at HT3
      clear hN
      go_wp2_with fail
      obtain ⟨wo, hwo⟩ : ∃ wo : World, wo = wr := ⟨_, rfl⟩
      go_loopw [9, 10] (fun x _ wx => ∃ q : Nat, q ≤ b.length + 1 ∧ x = .int .i64 ((q : Int) - 1) ∧ Hid (Tb wx w.heap.size N w.heap.size a.length b.length i (i + 1) (prT2 s a b) g') ∧ Hid (Cu wx w.heap.size a.length b.length i q (prT2 s a b) g') ∧ Below w.heap.size w wx ∧ N ≤ wx.heap.size) (fun x _ _ => ((match x with | .int _ z => z + 1 | _ => 0) : Int).toNat)
      case atStart => exact ⟨b.length + 1, Nat.le_refl _, by simp, HT3, HC3, HB3.out, hNw⟩
      case round =>
        obtain ⟨q, hq, rfl, HTx, HCx, hBx, hNx⟩ := hrel
        cases q with
        | zero =>
          have hd : decide ((0 : Int) ≤ (((0 : Nat) : Int) - 1)) = false := rfl
          have HBx := Lib.hid hBx
          clear hBx
          go_wp2_with fail
          refine ⟨⟨i, g', by omega, rfl, Lib.hid ((HTx.out.done HCx.out).more hNx), HBx.out⟩, ?_⟩
          show ((i : Int) - 1 + 1).toNat < ((i : Int) + 1).toNat
          omega
        | succ j =>
          have hjm : j ≤ b.length := by omega
          have he : (((j + 1 : Nat) : Int) - 1) = (j : Int) := by omega
          rw [he]
          clear he hq
          have o0 := HTx.out.out (Nat.le_refl i) hin
          have y0 := HCx.out.new (Nat.lt_succ_self j) hjm
          have f0 := HCx.out.frz j
          have hwj : IntKind.i64.wrap ((j : Int) - 1) = (j : Int) - 1 := IntWalk.i64_in _ ⟨by omega, by omega⟩
          have Hne := Lib.hid HCx.out.ne
          have Hput : Hid (∀ (W : World) z, W.heap = wr.heap → prT2 s a b i j = z → Tb (W.setCell ⟨g' i, j, none⟩ (.int .i64 z)) w.heap.size N w.heap.size a.length b.length i (i + 1) (prT2 s a b) g' ∧ Cu (W.setCell ⟨g' i, j, none⟩ (.int .i64 z)) w.heap.size a.length b.length i j (prT2 s a b) g') := Lib.hid (fun W z hW hz => by
            subst hz
            have h1 := HTx.out.keep (w' := W) (by omega) (fun b _ => by rw [hW])
            have h2 := HCx.out.keep (w' := W) (by rw [hW])
            exact ⟨h1.put (Nat.lt_succ_self i) hin Hne.out _, h2.put hjm⟩)
          have hgi := (HTx.out.hg i (Nat.le_refl _) hin).1
          have HBx := Lib.hid hBx
          have h8 : ∀ (W : World) p v, (W.setCell p v).heap.size = W.heap.size := by intro W p v; simp
          clear hBx
          by_cases hi : i = a.length
          · have hpv : prT2 s a b i j = s * ((b.length : Int) - j) := by rw [hi]; exact prT_last hjm
            have hrg := HP.out i j
            rw [hpv] at hrg
            have g1 : ((i : Int) == (a.length : Int)) = true := by rw [hi]; simp
            have z1 : IntKind.i64.wrap (s * ((b.length : Int) - j)) = s * ((b.length : Int) - j) := IntWalk.i64_in _ ⟨by omega, by omega⟩
            have z2 : IntKind.i64.wrap ((b.length : Int) - j) = (b.length : Int) - j := IntWalk.i64_in _ ⟨by omega, by omega⟩
            have z3 : wrap64 (s * ((b.length : Int) - j)) = s * ((b.length : Int) - j) := IntWalk.wrap64_in _ ⟨by omega, by omega⟩
            have Hpv := Lib.hid hpv
            have Hz3' := Lib.hid z3
            clear hi hpv hrg z3
            go_wp2_with fail
            refine ⟨⟨j, by omega, rfl, Lib.hid (Hput.out wr _ rfl Hpv.out).1, Lib.hid (Hput.out wr _ rfl Hpv.out).2, grow_set HBx.out hgi _, by rw [h8]; exact hNx⟩, by show ((j : Int) - 1 + 1).toNat < ((j : Int) + 1).toNat; omega⟩
          · by_cases hj : j = b.length
            · have hpv : prT2 s a b i j = s * ((a.length : Int) - i) := by rw [hj]; exact prT_end hin
              have hrg := HP.out i j
              rw [hpv] at hrg
              have g1 : ((i : Int) == (a.length : Int)) = false := by simp; omega
              have g2 : ((j : Int) == (b.length : Int)) = true := by rw [hj]; simp
              have z1 : IntKind.i64.wrap (s * ((a.length : Int) - i)) = s * ((a.length : Int) - i) := IntWalk.i64_in _ ⟨by omega, by omega⟩
              have z2 : IntKind.i64.wrap ((a.length : Int) - i) = (a.length : Int) - i := IntWalk.i64_in _ ⟨by omega, by omega⟩
              have Hpv := Lib.hid hpv
              clear hi hj hpv hrg
              go_wp2_with fail
              refine ⟨⟨j, by omega, rfl, Lib.hid (Hput.out wr _ rfl Hpv.out).1, Lib.hid (Hput.out wr _ rfl Hpv.out).2, grow_set HBx.out hgi _, by rw [h8]; exact hNx⟩, by show ((j : Int) - 1 + 1).toNat < ((j : Int) + 1).toNat; omega⟩
            · have hi' : i < a.length := by omega
              have hj' : j < b.length := by omega
              obtain ⟨ad1, rfl, hC1⟩ := ints_el HR1.out hi'
              obtain ⟨ad2, rfl, hC2⟩ := ints_el HR2.out hj'
              have hpv := prT_step (k := s) hi' hj'
              have r1 := HP.out (i + 1) j
              have r2 := HP.out i (j + 1)
              have r3 := HP.out (i + 1) (j + 1)
              have ra := Hra.out _ (List.getElem_mem hi')
              have rb := Hrb.out _ (List.getElem_mem hj')
              have o1 := HTx.out.out (i := i + 1) (by omega) (by omega)
              have t1 := HTx.out.row (i + 1) j (Nat.le_refl _) (by omega) hjm
              have t3 := HTx.out.row (i + 1) (j + 1) (Nat.le_refl _) (by omega) (by omega)
              have t2 := HCx.out.at_ (j' := j + 1) (Nat.le_refl _) (by omega)
              have q1 := hC1 wr HBx.out
              have q2 := hC2 wr HBx.out
              obtain ⟨X1, hX1⟩ : ∃ X, X = prT2 s a b (i + 1) j := ⟨_, rfl⟩
              obtain ⟨X2, hX2⟩ : ∃ X, X = prT2 s a b i (j + 1) := ⟨_, rfl⟩
              obtain ⟨X3, hX3⟩ : ∃ X, X = prT2 s a b (i + 1) (j + 1) := ⟨_, rfl⟩
              obtain ⟨x, hx⟩ : ∃ x, x = a[i] := ⟨_, rfl⟩
              obtain ⟨y, hy⟩ : ∃ y, y = b[j] := ⟨_, rfl⟩
              rw [← hX1, ← hX2, ← hX3, ← hx, ← hy] at hpv
              rw [← hX1] at r1 t1
              rw [← hX2] at r2 t2
              rw [← hX3] at r3 t3
              rw [← hx] at ra q1
              rw [← hy] at rb q2
              have Hpv := Lib.hid hpv
              clear hX1 hX2 hX3 hx hy hpv hC1 hC2
              have g1 : ((i : Int) == (a.length : Int)) = false := by simp; omega
              have g2 : ((j : Int) == (b.length : Int)) = false := by simp; omega
              have wi1 : IntKind.i64.wrap ((i : Int) + 1) = (i : Int) + 1 := IntWalk.i64_in _ ⟨by omega, by omega⟩
              have wj1 : IntKind.i64.wrap ((j : Int) + 1) = (j : Int) + 1 := IntWalk.i64_in _ ⟨by omega, by omega⟩
              have wx1 : IntKind.i64.wrap (s + X1) = s + X1 := IntWalk.i64_in _ ⟨by omega, by omega⟩
              have wx2 : IntKind.i64.wrap (s + X2) = s + X2 := IntWalk.i64_in _ ⟨by omega, by omega⟩
              have wx3 : IntKind.i64.wrap (((x - y).natAbs : Int) + X3) = ((x - y).natAbs : Int) + X3 := IntWalk.i64_in _ ⟨by omega, by omega⟩
              have HL : Hid (∀ p q W, Calls Try.prog 54 #[.int .i64 p, .int .i64 q] W fun e w' => e = .returned (.int .i64 (min p q)) ∧ w' = W) := Lib.hid (fun p q W => (l1Least_any p q W).mono (fun e w' ⟨h1, h2⟩ => ⟨h1, h2.symm⟩))
              have HF : Hid (∀ W, Calls Try.prog 50 #[.int .i64 x, .int .i64 y] W fun e w' => e = .returned (.int .i64 ((x - y).natAbs : Int)) ∧ w' = W) := Lib.hid (fun W => (l22Far_any x y W ra rb).mono (fun e w' ⟨h1, h2⟩ => ⟨h1, h2.symm⟩))
              obtain ⟨fv, hfv⟩ : ∃ fv, fv = ((x - y).natAbs : Int) := ⟨_, rfl⟩
              rw [← hfv] at HF wx3 Hpv
              clear hfv
              have HC : Hid (∀ W : World, W.heap = wr.heap → (W.cell? ⟨w.heap.size, i + 1, none⟩ = some (.slice (some ⟨g' (i + 1), 0, none⟩) (b.length + 1) (b.length + 1)) ∧ W.cell? ⟨w.heap.size, i, none⟩ = some (.slice (some ⟨g' i, 0, none⟩) (b.length + 1) (b.length + 1)) ∧
                W.cell? ⟨g' (i + 1), j, none⟩ = some (.int .i64 X1) ∧ W.cell? ⟨g' i, j + 1, none⟩ = some (.int .i64 X2) ∧ W.cell? ⟨g' (i + 1), j + 1, none⟩ = some (.int .i64 X3)) ∧ (W.cell? (ad1.add i) = some (.int .i64 x) ∧ W.cell? (ad2.add j) = some (.int .i64 y)) ∧ W.cell? ⟨g' i, j, none⟩ = some (.int .i64 0) ∧ W.frozen? ⟨g' i, j, none⟩ = false) := Lib.hid (fun W hW => by
                unfold World.cell? World.frozen? at *
                simp only [hW]
                exact ⟨⟨o1, o0, t1, t2, t3⟩, ⟨q1, q2⟩, y0, f0⟩)
              have b1 : (0 : Int) ≤ (i : Int) + 1 := by omega
              have b2 : (i : Int) + 1 < (a.length : Int) + 1 := by omega
              have b3 : (0 : Int) ≤ (j : Int) + 1 := by omega
              have b4 : (j : Int) + 1 < (b.length : Int) + 1 := by omega
              have b5 : (i : Int) < (a.length : Int) := by omega
              have b6 : (j : Int) < (b.length : Int) := by omega
              have b7 : (i : Int) < (a.length : Int) + 1 := by omega
              have b8 : (j : Int) < (b.length : Int) + 1 := by omega
              have b9 : ((i : Int) + 1).toNat = i + 1 := by omega
              have b10 : ((j : Int) + 1).toNat = j + 1 := by omega
              clear o0 o1 t1 t2 t3 q1 q2 y0 f0
              go_upto_region 9 with fail
              refine wp_region_still_tail 21 (by kernel_rfl) (by kernel_rfl) ?_
              simp only [List.take_succ_cons, List.take_zero, List.drop_succ_cons, List.drop_zero, show ({ wr with drawn := wr.drawn + 1 } : World) = wr.drew from rfl]
              obtain ⟨⟨o1, o0, t1, t2, t3⟩, ⟨q1, q2⟩, y0, f0⟩ := HC.out wr.drew rfl
              have HBd := Lib.hid (bw_to HBx.out (Below.drew (Below.refl wr.heap.size wr)))
              obtain ⟨wd, hwd⟩ : ∃ wd, wd = wr.drew := ⟨_, rfl⟩
              have Hwd : Hid (wd.heap = wr.heap) := Lib.hid (by rw [hwd]; rfl)
              rw [← hwd] at o1 o0 t1 t2 t3 q1 q2 y0 f0 HBd ⊢
              clear hwd
              repeat still_step
              still_call (HL.out (s + X1) (s + X2) wd)
              repeat still_step
              refine wpStill_nil ?_
              clear o1 o0 t1 t2 t3 q1 q2 y0 f0
              go_wp2_with fail
              obtain ⟨M1, hM1⟩ : ∃ M, M = min (s + X1) (s + X2) := ⟨_, rfl⟩
              rw [← hM1] at Hpv ⊢
              clear hM1
              go_upto_region 10 with fail
              refine wp_region_still_tail 27 (by kernel_rfl) (by kernel_rfl) ?_
              simp only [List.take_succ_cons, List.take_zero, List.drop_succ_cons, List.drop_zero, show ({ wd with drawn := wd.drawn + 1 } : World) = wd.drew from rfl]
              obtain ⟨⟨o1, o0, t1, t2, t3⟩, ⟨q1, q2⟩, y0, f0⟩ := HC.out wd.drew Hwd.out
              have HBz := Lib.hid (bw_to HBd.out (Below.drew (Below.refl wd.heap.size wd)))
              obtain ⟨we, hwe⟩ : ∃ we, we = wd.drew := ⟨_, rfl⟩
              have Hwe : Hid (we.heap = wr.heap) := Lib.hid (by rw [hwe]; exact Hwd.out)
              rw [← hwe] at o1 o0 t1 t2 t3 q1 q2 y0 f0 HBz ⊢
              clear hwe
              repeat still_step
              still_call (HF.out we)
              repeat still_step
              still_call (HL.out M1 (fv + X3) we)
              repeat still_step
              refine wpStill_nil ?_
              obtain ⟨M2, hM2⟩ : ∃ M, M = min M1 (fv + X3) := ⟨_, rfl⟩
              rw [← hM2] at Hpv ⊢
              clear hM2
              go_wp2_with fail
              refine ⟨⟨j, by omega, rfl, Lib.hid (Hput.out we _ Hwe.out Hpv.out).1, Lib.hid (Hput.out we _ Hwe.out Hpv.out).2, grow_set HBz.out hgi _, by rw [h8]; have : we.heap.size = wr.heap.size := congrArg Array.size Hwe.out; omega⟩, by show ((j : Int) - 1 + 1).toNat < ((j : Int) + 1).toNat; omega⟩
end Go.Proofs.Ytimeecimaokldaa
