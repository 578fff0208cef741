/- Contract: the table of prices, the program's. -/
import Derived.Test.YtimeecimaokldaaEH
import Derived.Test.YtimeecimaokldaaM3
namespace Go.Proofs.Ytimeecimaokldaa
open Go Go.RowKit
set_option linter.unusedVariables false
set_option linter.unusedSimpArgs false

/-- Row i under way: column j holds z. -/
structure Cm (w : World) (B0 n m i j : Nat) (z : Int) (P : Nat → Nat → Int) (g : Nat → Nat) : Prop where
  ne : ∀ i', i < i' → i' ≤ n → g i' ≠ g i
  cs : ∃ cs : List Value, w.ownsRow B0 3 1 (slv (g i) m) (m + 1) cs ∧ (∀ j', j' < j → j' ≤ m → cs[j']? = some (.int .i64 0)) ∧ cs[j]? = some (.int .i64 z) ∧ ∀ j', j + 1 ≤ j' → j' ≤ m → cs[j']? = some (.int .i64 (P i j'))
theorem Cm.of {w : World} {B0 n m i j : Nat} {P : Nat → Nat → Int} {g : Nat → Nat} (h : Cu w B0 n m i (j + 1) P g) (hj : j ≤ m) : Cm w B0 n m i j 0 P g := by
  obtain ⟨cs, h1, h2, h3⟩ := h.cs
  exact ⟨h.ne, cs, h1, fun j' h4 h5 => h2 j' (by omega) h5, h2 j (by omega) hj, h3⟩
theorem Cm.cu {w : World} {B0 n m i j : Nat} {z : Int} {P : Nat → Nat → Int} {g : Nat → Nat} (h : Cm w B0 n m i j z P g) (hz : z = P i j) : Cu w B0 n m i j P g := by
  obtain ⟨cs, h1, h2, h3, h4⟩ := h.cs
  refine ⟨h.ne, cs, h1, h2, fun j' h5 h6 => ?_⟩
  by_cases e : j' = j
  · subst e; rw [← hz]; exact h3
  · exact h4 j' (by omega) h6
theorem Cm.keep {w w' : World} {B0 n m i j : Nat} {z : Int} {P : Nat → Nat → Int} {g : Nat → Nat} (h : Cm w B0 n m i j z P g) (hk : w'.heap[g i]? = w.heap[g i]?) : Cm w' B0 n m i j z P g :=
  ⟨h.ne, let ⟨cs, h1, h2⟩ := h.cs; ⟨cs, own_blkE h1 hk, h2⟩⟩
theorem Cm.at_ {w : World} {B0 n m i j : Nat} {z : Int} {P : Nat → Nat → Int} {g : Nat → Nat} (h : Cm w B0 n m i j z P g) (hj : j ≤ m) : w.cell? ⟨g i, j, none⟩ = some (.int .i64 z) ∧ w.frozen? ⟨g i, j, none⟩ = false := by
  obtain ⟨cs, h1, h2, h3, h4⟩ := h.cs
  exact ⟨(h1.cellAt j (by omega)).trans h3, h1.frozenAt j⟩
theorem Cm.put {w : World} {B0 n m i j : Nat} {z : Int} {P : Nat → Nat → Int} {g : Nat → Nat} (h : Cm w B0 n m i j z P g) (hj : j ≤ m) (y : Int) : Cm (w.setCell ⟨g i, j, none⟩ (.int .i64 y)) B0 n m i j y P g := by
  obtain ⟨cs, h1, h2, h3, h4⟩ := h.cs
  have hl : cs.length = m + 1 := by have := h1.1; simpa using this
  refine ⟨h.ne, _, own_set h1 j _, fun j' h5 h6 => ?_, ?_, fun j' h5 h6 => ?_⟩
  · rw [List.getElem?_set_ne (by omega)]; exact h2 j' h5 h6
  · rw [List.getElem?_set_self (by omega)]
  · rw [List.getElem?_set_ne (by omega)]; exact h4 j' h5 h6
/-- The least of the first t options. -/
def minT (L : List Int) : Nat → Int
  | 0 => 0
  | t + 1 => if t = 0 then L.getD 0 0 else min (minT L t) (L.getD t 0)
theorem minT_one {L : List Int} (h : 0 < L.length) : minT L 1 = L[0] := by
  rw [minT, if_pos rfl, List.getD_eq_getElem?_getD, List.getElem?_eq_getElem h]; rfl
theorem minT_more {L : List Int} {t : Nat} (h : t < L.length) (h0 : t ≠ 0) : minT L (t + 1) = min (minT L t) L[t] := by
  rw [minT, if_neg h0, List.getD_eq_getElem?_getD, List.getElem?_eq_getElem h]; rfl
theorem prT_endS {k : Int} {a b : List Int} {i : Nat} (hi : i < a.length) : prT2 k a b i b.length = k + prT2 k a b (i + 1) b.length := by
  rw [prT_end (by omega), prT_end (by omega)]
  have : ((a.length : Int) - i) = ((a.length : Int) - ((i + 1 : Nat) : Int)) + 1 := by omega
  rw [this, Int.mul_add]
  omega
theorem prT_lastS {k : Int} {a b : List Int} {j : Nat} (hj : j < b.length) : prT2 k a b a.length j = k + prT2 k a b a.length (j + 1) := by
  rw [prT_last (by omega), prT_last (by omega)]
  have : ((b.length : Int) - j) = ((b.length : Int) - ((j + 1 : Nat) : Int)) + 1 := by omega
  rw [this, Int.mul_add]
  omega
theorem opts_min {k : Int} {a b : List Int} {i j : Nat} (hi : i ≤ a.length) (hj : j ≤ b.length) {L1 L2 L3 : List Int} (h1 : L1 = if i < a.length then [k + prT2 k a b (i + 1) j] else []) (h2 : L2 = L1 ++ if j < b.length then [k + prT2 k a b i (j + 1)] else [])
    (h3 : L3 = L2 ++ if h : i < a.length ∧ j < b.length then [((a[i]'h.1 - b[j]'h.2).natAbs : Int) + prT2 k a b (i + 1) (j + 1)] else []) : minT L3 L3.length = prT2 k a b i j := by
  by_cases hi' : i < a.length
  · by_cases hj' : j < b.length
    · rw [dif_pos ⟨hi', hj'⟩] at h3
      rw [if_pos hj'] at h2
      rw [if_pos hi'] at h1
      subst h1 h2 h3
      rw [prT_step hi' hj']
      simp [minT]
    · obtain rfl : j = b.length := by omega
      rw [dif_neg (fun h => hj' h.2), List.append_nil] at h3
      rw [if_neg hj', List.append_nil] at h2
      rw [if_pos hi'] at h1
      subst h1 h2 h3
      rw [prT_endS hi']
      simp [minT]
  · obtain rfl : i = a.length := by omega
    rw [dif_neg (fun h => hi' h.1), List.append_nil] at h3
    rw [if_neg hi'] at h1
    by_cases hj' : j < b.length
    · rw [if_pos hj'] at h2
      subst h1 h2 h3
      rw [prT_lastS hj']
      simp [minT]
    · obtain rfl : j = b.length := by omega
      rw [if_neg hj'] at h2
      subst h1 h2 h3
      rw [prT_last (Nat.le_refl _)]
      simp [minT]
theorem own_ptrE {w : World} {base : Nat} {e : TypeId} {size n c : Nat} {A : Option Addr} {xs : List Value} (h : w.ownsRow base e size (.slice A n c) n xs) (hn : 1 ≤ n) : ∃ g, A = some ⟨g, 0, none⟩ ∧ base ≤ g ∧ g < w.heap.size := by
  rcases h.2 with ⟨e, _⟩ | ⟨g, cap, cur, e, hb, hg, _⟩
  · injection e with _ e; omega
  · injection e with e1 e2 e3
    exact ⟨g, e1, hb, (Array.getElem?_eq_some_iff.1 hg).1⟩
set_option maxRecDepth 100000 in
set_option maxHeartbeats 8000000 in
theorem prices_any (u v : Value) (a b : List Int) (s : Int) (w : World) (hu : Ints w u a) (hv : Ints w v b) (hg : GoodM a b s) : Calls Try.prog 53 #[u, v, .int .i64 s] w (PrPost w a b s) := by
  obtain ⟨hga, hgb, hs⟩ := hg
  have ha60 := hga.1
  have hb60 := hgb.1
  have Hra := Lib.hid (fun x hx => goodT_rng hga x hx)
  have Hrb := Lib.hid (fun x hx => goodT_rng hgb x hx)
  have HP := Lib.hid (fun i j => prT_rng hs ha60 hb60 (a := a) (b := b) i j)
  obtain ⟨A1, c1, rfl, hn1, hm1, hr1⟩ := hu
  obtain ⟨A2, c2, rfl, hn2, hm2, hr2⟩ := hv
  have HR1 := Lib.hid hr1
  have HR2 := Lib.hid hr2
  unfold maxLen at hm1 hm2
  obtain ⟨i1, hi1, hz1, hs1, hb1⟩ := info_parts info_intE
  obtain ⟨i2, hi2, hz2, hs2, hb2⟩ := info_parts info_lstE
  clear hga hgb hr1 hr2
  have hwn : IntKind.i64.wrap ((a.length : Int) + 1) = ((a.length + 1 : Nat) : Int) := by rw [IntWalk.i64_in _ ⟨by omega, by omega⟩]; omega
  have hwm : IntKind.i64.wrap ((b.length : Int) + 1) = ((b.length + 1 : Nat) : Int) := by rw [IntWalk.i64_in _ ⟨by omega, by omega⟩]; omega
  go_enter Try.func53, Try.ntmps53
  go_upto_region 2 with (at_make; refine wpList_make_full _ rfl _ _ _ rfl w.heap.size 44 i2 _ 1 Try.underlying73 hi2 hz2 hs2 _ _ _ _ (a.length + 1) rfl rfl (by omega) (by omega) (by rw [hb2]; omega) (by unfold maxLen; omega) (Nat.le_refl _) ?_; intro w1 hown1 hgr1)
  have hB1 := bw_gr (Below.refl _ _) hgr1
  have hT0 : Tb w1 w.heap.size w1.heap.size w.heap.size a.length b.length (a.length + 1) (a.length + 1) (prT2 s a b) (fun _ => 0) :=
    ⟨⟨Nat.le_refl _, (hown1.lt w.heap.size rfl).2⟩, ⟨_, hown1, fun i h1 h2 => absurd h1 (by omega)⟩, fun i h1 h2 => absurd h1 (by omega), fun i j h1 h2 => absurd h1 (by omega)⟩
  have HT0 := Lib.hid hT0
  have HB1 := Lib.hid hB1
  clear hown1 hgr1 hT0 hB1
  go_wp2_with fail
  go_loopw [8] (fun x wr => ∃ (k : Nat) (g : Nat → Nat), k ≤ a.length + 1 ∧ x = .int .i64 ((k : Int) - 1) ∧ Hid (Tb wr w.heap.size wr.heap.size w.heap.size a.length b.length k k (prT2 s a b) g) ∧ Below w.heap.size w wr) (fun x _ => ((match x with | .int _ z => z + 1 | _ => 0) : Int).toNat)
  case atStart => exact ⟨a.length + 1, _, Nat.le_refl _, by simp, HT0, HB1.out⟩
  case round =>
    obtain ⟨k, g, hk, rfl, HT, hB⟩ := hrel
    cases k with
    | zero =>
      have hd : decide ((0 : Int) ≤ (((0 : Nat) : Int) - 1)) = false := rfl
      have HB := Lib.hid hB
      clear hB
      go_wp2_with fail
      go_ret
      exact ⟨w.heap.size, wr.heap.size, g, rfl, HT.out, Nat.le_refl _, HB.out⟩
    | succ i =>
      have hin : i ≤ a.length := by omega
      have he : (((i + 1 : Nat) : Int) - 1) = (i : Int) := by omega
      rw [he]
      clear he hk
      have hBz := hB.size
      have HB := Lib.hid hB
      clear hB
      have hwi : IntKind.i64.wrap ((i : Int) - 1) = (i : Int) - 1 := IntWalk.i64_in _ ⟨by omega, by omega⟩
      go_upto_region 6 with (at_make; refine wpList_make_full _ rfl _ _ _ rfl w.heap.size 3 i1 _ 1 Try.underlying44 hi1 hz1 hs1 _ _ _ _ (b.length + 1) rfl rfl (by omega) (by omega) (by rw [hb1]; omega) (by unfold maxLen; omega) hBz ?_; intro w2 hown2 hgr2; (have hB2 := bw_gr (Below.refl _ _) hgr2); (have hT2 := HT.out.to (Nat.le_refl _) hB2 (Nat.le_refl _)); (obtain ⟨tv, htv, _⟩ := hT2.tv); (obtain ⟨y0, hy0⟩ := own_some htv (j := i) (by omega)); (have hfG := htv.frozenAt i); (have Hown2 := Lib.hid hown2); (have HT2 := Lib.hid hT2); (have HB2 := Lib.hid hB2); clear hown2 hgr2 hB2 hT2 htv)
      have hst := Tb.start HT2.out hin (Nat.le_refl _) hBz (by have := Hown2.out; rw [zerosE, Nat.mul_one] at this; exact this)
      have HB3 := Lib.hid (grow_set (HB.out.trans (HB2.out.mono hBz)) (Nat.le_refl _) (j := i) (slv wr.heap.size b.length))
      have hNz : wr.heap.size + 1 ≤ w2.heap.size := (Hown2.out.lt wr.heap.size rfl).2
      have HNz := Lib.hid hNz
      obtain ⟨w3, hw3⟩ : ∃ w3, w3 = w2.setCell ⟨w.heap.size, i, none⟩ (slv wr.heap.size b.length) := ⟨_, rfl⟩
      have Hz3 : Hid (w3.heap.size = w2.heap.size) := Lib.hid (by rw [hw3]; simp)
      rw [← hw3] at hst HB3
      have hgl : (.slice (some ⟨wr.heap.size, 0, none⟩) (b.length + 1) (b.length + 1) : Value) = slv wr.heap.size b.length := rfl
      rw [hgl, ← hw3]
      clear hw3 hgl hy0 hfG
      obtain ⟨g', hg'⟩ : ∃ g', g' = (fun x => if x = i then wr.heap.size else g x) := ⟨_, rfl⟩
      rw [← hg'] at hst
      have HT3 := Lib.hid hst.1
      have HC3 := Lib.hid hst.2
      clear hst hg' hNz
      obtain ⟨N, hN⟩ : ∃ N, N = wr.heap.size + 1 := ⟨_, rfl⟩
      have hNw : N ≤ w3.heap.size := by rw [hN, Hz3.out]; exact HNz.out
      rw [← hN] at HT3
      clear hN
      go_wp2_with fail
      obtain ⟨wo, hwo⟩ : ∃ wo : World, wo = wr := ⟨_, rfl⟩
      go_loopw [9, 10] (fun x _ wx => ∃ q : Nat, q ≤ b.length + 1 ∧ x = .int .i64 ((q : Int) - 1) ∧ Hid (Tb wx w.heap.size N w.heap.size a.length b.length i (i + 1) (prT2 s a b) g') ∧ Hid (Cu wx w.heap.size a.length b.length i q (prT2 s a b) g') ∧ Below w.heap.size w wx ∧ N ≤ wx.heap.size) (fun x _ _ => ((match x with | .int _ z => z + 1 | _ => 0) : Int).toNat)
      case atStart => exact ⟨b.length + 1, Nat.le_refl _, by simp, HT3, HC3, HB3.out, hNw⟩
      case round =>
        obtain ⟨q, hq, rfl, HTx, HCx, hBx, hNx⟩ := hrel
        cases q with
        | zero =>
          have hd : decide ((0 : Int) ≤ (((0 : Nat) : Int) - 1)) = false := rfl
          have HBx := Lib.hid hBx
          clear hBx
          go_wp2_with fail
          refine ⟨⟨i, g', by omega, rfl, Lib.hid ((HTx.out.done HCx.out).more hNx), HBx.out⟩, ?_⟩
          show ((i : Int) - 1 + 1).toNat < ((i : Int) + 1).toNat
          omega
        | succ j =>
          have hjm : j ≤ b.length := by omega
          have he : (((j + 1 : Nat) : Int) - 1) = (j : Int) := by omega
          rw [he]
          clear he hq
          have hwj : IntKind.i64.wrap ((j : Int) - 1) = (j : Int) - 1 := IntWalk.i64_in _ ⟨by omega, by omega⟩
          have hgi := HTx.out.hg i (Nat.le_refl _) hin
          have HBx := Lib.hid hBx
          have Hgi := Lib.hid hgi
          have hwN : w.heap.size ≤ N := by have := HTx.out.hG; omega
          have h8 : ∀ (W : World) p v, (W.setCell p v).heap.size = W.heap.size := by intro W p v; simp
          clear hBx hgi
          obtain ⟨i', Hii, wi1⟩ : ∃ i' : Nat, Hid (i' = i + 1) ∧ IntKind.i64.wrap ((i : Int) + 1) = (i' : Int) := ⟨i + 1, Lib.hid rfl, IntWalk.i64_in _ ⟨by omega, by omega⟩⟩
          obtain ⟨j', Hjj, wj1⟩ : ∃ j' : Nat, Hid (j' = j + 1) ∧ IntKind.i64.wrap ((j : Int) + 1) = (j' : Int) := ⟨j + 1, Lib.hid rfl, IntWalk.i64_in _ ⟨by omega, by omega⟩⟩
          -- what stands in the table, in every world that keeps the blocks below N
          have HTW : Hid (∀ W, Below N wr W → Tb W w.heap.size N w.heap.size a.length b.length i (i + 1) (prT2 s a b) g' ∧ Cu W w.heap.size a.length b.length i (j + 1) (prT2 s a b) g' ∧ Below w.heap.size w W) :=
            Lib.hid (fun W hW => ⟨HTx.out.to (by omega) hW (Nat.le_refl _), HCx.out.to hW Hgi.out.2.1, HBx.out.trans (hW.mono hwN)⟩)
          go_upto_region 10 with fail
          refine box1 (C := fun W => Code.wp _ _ _ _ W) ?_
          intro wq hwq k1 hBq
          have hown := own_of_heap (base := wr.heap.size) (n := 0) (size := 1) k1 (Nat.le_refl _) (by unfold maxLen; omega) rfl
          have hBN : Below N wr wq := hwq.mono hNx
          have Hown := Lib.hid hown
          have HBN := Lib.hid hBN
          clear k1 hBq hwq hown hBN
          have X1r := HP.out (i + 1) j
          have X2r := HP.out i (j + 1)
          have X3r := HP.out (i + 1) (j + 1)
          obtain ⟨L1, hL1⟩ : ∃ L, L = (if i < a.length then [s + prT2 s a b (i + 1) j] else [] : List Int) := ⟨_, rfl⟩
          obtain ⟨L2, hL2⟩ : ∃ L, L = L1 ++ (if j < b.length then [s + prT2 s a b i (j + 1)] else [] : List Int) := ⟨_, rfl⟩
          have HL1 := Lib.hid hL1
          have HL2 := Lib.hid hL2
          have hl1 : L1.length ≤ 1 := by rw [hL1]; split <;> simp
          have hl2 : L2.length ≤ 2 := by rw [hL2, List.length_append]; split <;> simp <;> omega
          clear hL1 hL2
          obtain ⟨X1, hX1⟩ : ∃ X, X = prT2 s a b (i + 1) j := ⟨_, rfl⟩
          obtain ⟨X2, hX2⟩ : ∃ X, X = prT2 s a b i (j + 1) := ⟨_, rfl⟩
          have HX1 := Lib.hid hX1
          have HX2 := Lib.hid hX2
          rw [← hX1] at HL1 X1r
          rw [← hX2] at HL2 X2r
          clear hX1 hX2
          have wx1 : IntKind.i64.wrap (s + X1) = s + X1 := IntWalk.i64_in _ ⟨by omega, by omega⟩
          have wx2 : IntKind.i64.wrap (s + X2) = s + X2 := IntWalk.i64_in _ ⟨by omega, by omega⟩
          go_upto_if 40 with fail
          go_cut [10] (fun v wx => ∃ (A : Option Addr) (c : Nat), v = .slice A L1.length c ∧ Hid (wx.ownsRow wr.heap.size 3 1 (.slice A L1.length c) L1.length (L1.map (Value.int .i64))) ∧ Hid (Below N wr wx ∧ wr.heap.size ≤ wx.heap.size))
          case first =>
            by_cases hi : i < a.length
            · have hd : decide ((i : Int) < (a.length : Int)) = true := decide_eq_true (by omega)
              have hl : Hid (L1 = [s + X1]) := Lib.hid (by rw [HL1.out, if_pos hi])
              obtain ⟨ht, hc, hb⟩ := HTW.out wq HBN.out
              have o1 := ht.out (i := i') (by rw [Hii.out]; omega) (by rw [Hii.out]; omega)
              have t1 := ht.row i' j (by rw [Hii.out]; omega) (by rw [Hii.out]; omega) hjm
              rw [show prT2 s a b i' j = X1 by rw [Hii.out, HX1.out]] at t1
              have b2 : (i' : Int) < (a.length : Int) + 1 := by rw [Hii.out]; omega
              have HO := Hown
              have hzq : wr.heap.size ≤ wq.heap.size := HBN.out.size
              have HZ := Lib.hid hzq
              clear ht hc hb
              go_wp2_with (at_builtin; go_must (refine wpList_app _ rfl _ _ _ rfl wr.heap.size 3 _ 1 8 Try.underlying44 info_intE rfl (by omega) HO.out [.int .i64 (s + X1)] rfl rfl rfl (one_mem rfl) (by omega) (by omega) HZ.out ?_); intro v7 w7 hown7 hb7 hg7 _; (obtain ⟨A7, q7, rfl⟩ := nb_sliceE hown7); (have Hown7 := Lib.hid hown7); (have Hb7 := Lib.hid hb7); clear hown7 hb7 hg7)
              go_meet
              refine ⟨A7, q7, by rw [hl.out]; rfl, Lib.hid ?_, Lib.hid ⟨HBN.out.trans (Hb7.out.mono hNx), Nat.le_trans HZ.out Hb7.out.size⟩⟩
              rw [hl.out]
              exact Hown7.out
            · have hd : decide ((i : Int) < (a.length : Int)) = false := decide_eq_false (by omega)
              have hl : Hid (L1 = []) := Lib.hid (by rw [HL1.out, if_neg hi])
              go_wp2_with fail
              go_meet
              refine ⟨_, _, by rw [hl.out]; rfl, Lib.hid ?_, Lib.hid ⟨HBN.out, HBN.out.size⟩⟩
              rw [hl.out]
              exact Hown.out
          case rest =>
          obtain ⟨A3, c3, rfl, HO1, HB1'⟩ := hcut
          go_upto_if 57 with fail
          go_cut [10] (fun v wx => ∃ (A : Option Addr) (c : Nat), v = .slice A L2.length c ∧ Hid (wx.ownsRow wr.heap.size 3 1 (.slice A L2.length c) L2.length (L2.map (Value.int .i64))) ∧ Hid (Below N wr wx ∧ wr.heap.size ≤ wx.heap.size))
          case first =>
            by_cases hj : j < b.length
            · have hd : decide ((j : Int) < (b.length : Int)) = true := decide_eq_true (by omega)
              have hl : Hid (L2 = L1 ++ [s + X2]) := Lib.hid (by rw [HL2.out, if_pos hj])
              obtain ⟨ht, hc, hb⟩ := HTW.out wc HB1'.out.1
              have o0 := ht.out (Nat.le_refl i) hin
              have t2 := hc.at_ (j' := j') (by rw [Hjj.out]; omega) (by rw [Hjj.out]; omega)
              rw [show prT2 s a b i j' = X2 by rw [Hjj.out, HX2.out]] at t2
              have b2 : (j' : Int) < (b.length : Int) + 1 := by rw [Hjj.out]; omega
              have b3 : (i : Int) < (a.length : Int) + 1 := by omega
              clear ht hc hb
              go_wp2_with (at_builtin; go_must (refine wpList_app _ rfl _ _ _ rfl wr.heap.size 3 _ 1 8 Try.underlying44 info_intE rfl (by omega) HO1.out [.int .i64 (s + X2)] rfl rfl rfl (one_mem rfl) (by omega) (by omega) HB1'.out.2 ?_); intro v7 w7 hown7 hb7 hg7 _; (obtain ⟨A7, q7, rfl⟩ := nb_sliceE hown7); (have Hown7 := Lib.hid hown7); (have Hb7 := Lib.hid hb7); clear hown7 hb7 hg7)
              go_meet
              refine ⟨A7, q7, by rw [hl.out, List.length_append]; rfl, Lib.hid ?_, Lib.hid ⟨HB1'.out.1.trans (Hb7.out.mono hNx), Nat.le_trans HB1'.out.2 Hb7.out.size⟩⟩
              rw [hl.out, List.length_append, List.map_append]
              exact Hown7.out
            · have hd : decide ((j : Int) < (b.length : Int)) = false := decide_eq_false (by omega)
              have hl : Hid (L2 = L1) := Lib.hid (by rw [HL2.out, if_neg hj, List.append_nil])
              go_wp2_with fail
              go_meet
              exact ⟨A3, c3, by rw [hl.out], Lib.hid (by rw [hl.out]; exact HO1.out), HB1'⟩
          case rest =>
          clear HO1 HB1' A3 c3
          obtain ⟨A3, c3, rfl, HO2, HB2'⟩ := hcut
          obtain ⟨L3, hL3⟩ : ∃ L, L = L2 ++ (if h : i < a.length ∧ j < b.length then [((a[i]'h.1 - b[j]'h.2).natAbs : Int) + prT2 s a b (i + 1) (j + 1)] else [] : List Int) := ⟨_, rfl⟩
          have HL3 := Lib.hid hL3
          have hl3 : L3.length ≤ 3 := by rw [hL3, List.length_append]; split <;> simp <;> omega
          clear hL3
          obtain ⟨bij, hbij⟩ : ∃ bb, bb = decide (i < a.length ∧ j < b.length) := ⟨_, rfl⟩
          have Hbij := Lib.hid hbij
          clear hbij
          go_upto_region 14 with fail
          go_cut [80] (fun v wx => v = .bool bij ∧ Hid (wx.ownsRow wr.heap.size 3 1 (.slice A3 L2.length c3) L2.length (L2.map (Value.int .i64))) ∧ Hid (Below N wr wx ∧ wr.heap.size ≤ wx.heap.size))
          case first =>
            by_cases hi : i < a.length
            · by_cases hj : j < b.length
              · have e : bij = true := by rw [Hbij.out]; exact decide_eq_true ⟨hi, hj⟩
                subst e
                go_wp2_with fail
                go_meet
                exact ⟨rfl, HO2, HB2'⟩
              · have e : bij = false := by rw [Hbij.out]; exact decide_eq_false (fun h => hj h.2)
                subst e
                go_wp2_with fail
                go_meet
                exact ⟨rfl, HO2, HB2'⟩
            · have e : bij = false := by rw [Hbij.out]; exact decide_eq_false (fun h => hi h.1)
              subst e
              go_wp2_with fail
              go_meet
              exact ⟨rfl, HO2, HB2'⟩
          case rest =>
          clear HO2 HB2'
          obtain ⟨rfl, HO2, HB2'⟩ := hcut
          go_upto_if 80 with fail
          go_cut [10] (fun v wx => ∃ (A : Option Addr) (c : Nat), v = .slice A L3.length c ∧ Hid (wx.ownsRow wr.heap.size 3 1 (.slice A L3.length c) L3.length (L3.map (Value.int .i64))) ∧ Hid (Below N wr wx ∧ wr.heap.size ≤ wx.heap.size))
          case first =>
            by_cases hij : i < a.length ∧ j < b.length
            · have e : bij = true := by rw [Hbij.out]; exact decide_eq_true hij
              subst e
              obtain ⟨hi, hj⟩ := hij
              have hl : Hid (L3 = L2 ++ [((a[i] - b[j]).natAbs : Int) + prT2 s a b (i + 1) (j + 1)]) := Lib.hid (by rw [HL3.out, dif_pos ⟨hi, hj⟩])
              obtain ⟨ad1, rfl, hC1⟩ := ints_el HR1.out hi
              obtain ⟨ad2, rfl, hC2⟩ := ints_el HR2.out hj
              have ra := Hra.out _ (List.getElem_mem hi)
              have rb := Hrb.out _ (List.getElem_mem hj)
              have HCA : Hid (∀ W, Below N wr W → W.cell? ⟨w.heap.size, i', none⟩ = some (.slice (some ⟨g' i', 0, none⟩) (b.length + 1) (b.length + 1)) ∧ W.cell? ⟨g' i', j', none⟩ = some (.int .i64 (prT2 s a b (i + 1) (j + 1))) ∧ W.cell? (ad1.add i) = some (.int .i64 a[i]) ∧ W.cell? (ad2.add j) = some (.int .i64 b[j])) := Lib.hid (fun W hW => by
                obtain ⟨ht, hc, hb⟩ := HTW.out W hW
                refine ⟨ht.out (i := i') (by rw [Hii.out]; omega) (by rw [Hii.out]; omega), ?_, hC1 W hb, hC2 W hb⟩
                have := ht.row i' j' (by rw [Hii.out]; omega) (by rw [Hii.out]; omega) (by rw [Hjj.out]; omega)
                rw [this, Hii.out, Hjj.out])
              obtain ⟨X3, hX3⟩ : ∃ X, X = prT2 s a b (i + 1) (j + 1) := ⟨_, rfl⟩
              obtain ⟨x, hx⟩ : ∃ x, x = a[i] := ⟨_, rfl⟩
              obtain ⟨y, hy⟩ : ∃ y, y = b[j] := ⟨_, rfl⟩
              rw [← hX3, ← hx, ← hy] at hl HCA
              rw [← hX3] at X3r
              rw [← hx] at ra
              rw [← hy] at rb
              clear hX3 hx hy hC1 hC2
              have wxy : IntKind.i64.wrap (x - y) = x - y := IntWalk.i64_in _ ⟨by omega, by omega⟩
              have HF := Lib.hid (fun W => absE_any (x - y) W (by omega))
              have wx3 : IntKind.i64.wrap (((x - y).natAbs : Int) + X3) = ((x - y).natAbs : Int) + X3 := IntWalk.i64_in _ ⟨by omega, by omega⟩
              obtain ⟨fv, hfv⟩ : ∃ fv, fv = ((x - y).natAbs : Int) := ⟨_, rfl⟩
              rw [← hfv] at HF wx3 hl
              clear hfv
              have b2 : (j' : Int) < (b.length : Int) + 1 := by rw [Hjj.out]; omega
              have b3 : (i' : Int) < (a.length : Int) + 1 := by rw [Hii.out]; omega
              have b5 : (i : Int) < (a.length : Int) := by omega
              have b6 : (j : Int) < (b.length : Int) := by omega
              have d1 : decide ((i : Int) < (a.length : Int)) = true := decide_eq_true (by omega)
              have d2 : decide ((j : Int) < (b.length : Int)) = true := decide_eq_true (by omega)
              have F1 : ∀ W, Below N wr W → W.cell? ⟨w.heap.size, i', none⟩ = some (.slice (some ⟨g' i', 0, none⟩) (b.length + 1) (b.length + 1)) := fun W hW => (HCA.out W hW).1
              have F2 : ∀ W, Below N wr W → W.cell? ⟨g' i', j', none⟩ = some (.int .i64 X3) := fun W hW => (HCA.out W hW).2.1
              have F3 : ∀ W, Below N wr W → W.cell? (ad1.add i) = some (.int .i64 x) := fun W hW => (HCA.out W hW).2.2.1
              have F4 : ∀ W, Below N wr W → W.cell? (ad2.add j) = some (.int .i64 y) := fun W hW => (HCA.out W hW).2.2.2
              have hst := HB2'.out.1
              have hzz := HB2'.out.2
              go_wp2_with fail
              go_region_held3 (fun W => Below N wr W) (first | with_reducible assumption | exact Below.drew (by assumption) | exact Below.alloc (by assumption) (by simp; omega) _ | exact Below.trans (by assumption) (hb6.mono hNx))
                (first | (go_at_call 25; refine (HF.out _).mono ?_; rintro e w9 ⟨rfl, rfl⟩) | (refine step_app_sl _ (by rfl) _ _ _ (by rfl) wr.heap.size 3 _ 1 8 Try.underlying44 info_intE (by rfl) (by omega) (own_to (own_to HO2.out (Below.drew (Below.refl _ _))) (bw_al (Below.refl _ _) _)) (by rfl) (sl_of_own (own_of_heap (base := 0) (n := 1) (heap_new _ _) (Nat.zero_le _) (by unfold maxLen; omega) rfl)) (nil_someE _ _ _) (by rfl) (one_mem rfl) (by omega) (by omega) (by simp; omega) (L2.length + 1) rfl ?_; intro A6 q6 w6 hown6 hb6 hg6))
              rename_i hHeld
              have Hown6 := Lib.hid hown6
              have HHeld := Lib.hid hHeld
              clear hown6 hb6 hg6 hHeld hst F1 F2 F3 F4
              go_wp2_with fail
              go_meet
              refine ⟨A6, q6, by rw [hl.out, List.length_append]; rfl, Lib.hid ?_, Lib.hid ⟨HHeld.out, HHeld.out.size⟩⟩
              rw [hl.out, List.length_append, List.map_append]
              exact Hown6.out
            · have hl : Hid (L3 = L2) := Lib.hid (by rw [HL3.out, dif_neg hij, List.append_nil])
              have e : bij = false := by rw [Hbij.out]; exact decide_eq_false hij
              subst e
              clear hij
              go_wp2_with fail
              go_meet
              exact ⟨A3, c3, by rw [hl.out], Lib.hid (by rw [hl.out]; exact HO2.out), HB2'⟩
          case rest =>
          clear HO2 HB2' A3 c3
          obtain ⟨A3, c3, rfl, HO3, HB3'⟩ := hcut
          have HM := Lib.hid (opts_min (L1 := L1) (L2 := L2) (L3 := L3) hin hjm (by rw [← HX1.out]; exact HL1.out) (by rw [← HX2.out]; exact HL2.out) HL3.out)
          have hw0 := HTW.out wc HB3'.out.1
          have HT9 := Lib.hid hw0.1
          have HC9 := Lib.hid (Cm.of hw0.2.1 hjm)
          have HB9 := Lib.hid hw0.2.2
          have hNc : N ≤ wc.heap.size := Nat.le_trans hNx HB3'.out.2
          clear HL1 HL2 HL3 HX1 HX2 Hbij hw0 Hown HBN
          obtain ⟨H, hH⟩ : ∃ H, H = wr.heap.size := ⟨_, rfl⟩
          have hNH : N ≤ H := by rw [hH]; exact hNx
          rw [← hH] at HO3
          clear hH
          go_wp2_with fail
          obtain ⟨wo2, hwo2⟩ : ∃ wo : World, wo = wr := ⟨_, rfl⟩
          go_loopw [11, 12, 106] (fun _ _ x wy => ∃ (t : Nat) (z : Int), t ≤ L3.length ∧ x = .int .i64 t ∧ Hid (z = minT L3 t) ∧ Hid (Tb wy w.heap.size N w.heap.size a.length b.length i (i + 1) (prT2 s a b) g') ∧ Hid (Cm wy w.heap.size a.length b.length i j z (prT2 s a b) g') ∧ Hid (wy.ownsRow H 3 1 (.slice A3 L3.length c3) L3.length (L3.map (Value.int .i64))) ∧ Hid (Below w.heap.size w wy ∧ N ≤ wy.heap.size)) (fun _ _ x _ => L3.length - (intOf x).toNat)
          case atStart => exact ⟨0, 0, Nat.zero_le _, rfl, Lib.hid rfl, HT9, HC9, HO3, Lib.hid ⟨HB9.out, hNc⟩⟩
          case round =>
            obtain ⟨t, z, ht, rfl, Hz, HTy, HCy, HOy, HBy⟩ := hrel
            have o0 := HTy.out.out (Nat.le_refl i) hin
            obtain ⟨c0, f0⟩ := HCy.out.at_ hjm
            have b3 : (i : Int) < (a.length : Int) + 1 := by omega
            have b4 : (j : Int) < (b.length : Int) + 1 := by omega
            by_cases hlt : t < L3.length
            · obtain ⟨go, rfl, hgo, hgl⟩ := own_ptrE HOy.out (by omega)
              have q := HOy.out.cellAt t (by omega)
              rw [List.getElem?_map, List.getElem?_eq_getElem hlt] at q
              have q' : wr.cell? ⟨go, t, none⟩ = some (.int .i64 L3[t]) := q
              have Hm1 : Hid (∀ h : 0 < L3.length, minT L3 1 = L3[0]) := Lib.hid (fun h => minT_one h)
              have Hm2 := Lib.hid (fun h0 => minT_more hlt h0)
              obtain ⟨y, hy⟩ : ∃ y, y = L3[t] := ⟨_, rfl⟩
              rw [← hy] at q' Hm2
              have Hy := Lib.hid hy
              have Hst : Hid (∀ zz, Tb (wr.setCell ⟨g' i, j, none⟩ (.int .i64 zz)) w.heap.size N w.heap.size a.length b.length i (i + 1) (prT2 s a b) g' ∧ Cm (wr.setCell ⟨g' i, j, none⟩ (.int .i64 zz)) w.heap.size a.length b.length i j zz (prT2 s a b) g' ∧
                (wr.setCell ⟨g' i, j, none⟩ (.int .i64 zz)).ownsRow H 3 1 (.slice (some ⟨go, 0, none⟩) L3.length c3) L3.length (L3.map (Value.int .i64)) ∧ (Below w.heap.size w (wr.setCell ⟨g' i, j, none⟩ (.int .i64 zz)) ∧ N ≤ (wr.setCell ⟨g' i, j, none⟩ (.int .i64 zz)).heap.size)) :=
                Lib.hid (fun zz => ⟨HTy.out.put (Nat.lt_succ_self i) hin HCy.out.ne _, HCy.out.put hjm zz, own_blkE HOy.out (set_other (by have := Hgi.out.2.1; omega) _), grow_set HBy.out.1 Hgi.out.1 _, by rw [h8]; exact HBy.out.2⟩)
              clear hy q
              by_cases ht0 : t = 0
              · subst ht0
                have hm : y = minT L3 (0 + 1) := by rw [Hy.out]; exact (Hm1.out hlt).symm
                have Hm := Lib.hid hm
                clear hm
                go_wp2_with fail
                obtain ⟨s1, s2, s3, s4⟩ := Hst.out y
                exact ⟨⟨0 + 1, y, by omega, by go_num, Hm, Lib.hid s1, Lib.hid s2, Lib.hid s3, Lib.hid s4⟩, by simp [intOf]; omega⟩
              · have e0 : ((t : Int) == 0) = false := by simp; omega
                by_cases hyz : y < z
                · have hm : y = minT L3 (t + 1) := by rw [Hm2.out ht0, ← Hz.out]; omega
                  have Hm := Lib.hid hm
                  clear hm
                  go_wp2_with fail
                  obtain ⟨s1, s2, s3, s4⟩ := Hst.out y
                  exact ⟨⟨t + 1, y, by omega, by go_num, Hm, Lib.hid s1, Lib.hid s2, Lib.hid s3, Lib.hid s4⟩, by simp [intOf]; omega⟩
                · have hm : z = minT L3 (t + 1) := by rw [Hm2.out ht0, ← Hz.out]; omega
                  have Hm := Lib.hid hm
                  clear hm
                  go_wp2_with fail
                  exact ⟨⟨t + 1, z, by omega, by go_num, Hm, HTy, HCy, HOy, HBy⟩, by simp [intOf]; omega⟩
            · obtain rfl : t = L3.length := by omega
              have hzP : z = prT2 s a b i j := Hz.out.trans HM.out
              have Hcu := Lib.hid (HCy.out.cu hzP)
              clear hzP o0 c0 f0
              go_wp2_with fail
              exact ⟨⟨j, by omega, rfl, HTy, Hcu, HBy.out.1, HBy.out.2⟩, by show ((j : Int) - 1 + 1).toNat < ((j : Int) + 1).toNat; omega⟩
end Go.Proofs.Ytimeecimaokldaa
