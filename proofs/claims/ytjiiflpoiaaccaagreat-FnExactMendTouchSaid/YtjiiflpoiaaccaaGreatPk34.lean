/- Contract: the next layer of a repair, the specification's. -/
import Derived.Test.YtjiiflpoiaaccaaGreatPk33
namespace Go.Proofs.YtjiiflpoiaaccaaGreat
open Go Go.RowKit
set_option linter.unusedVariables false
set_option linter.unusedSimpArgs false

def clP : List UInt8 := [112, 98, 115]
theorem clP_heads (F : UInt8 → ByteArray) : headsR F = clP.map F := rfl
def inLB (O : List ByteArray) (Lv : List (List ByteArray)) (r : ByteArray) (p : Nat) : Bool := decide (r ∈ O) || (Lv.take p).any (fun l => decide (r ∈ l))
theorem inLB_zero (O : List ByteArray) (Lv : List (List ByteArray)) (r : ByteArray) : inLB O Lv r 0 = decide (r ∈ O) := by simp [inLB]
theorem inLB_succ {O : List ByteArray} {Lv : List (List ByteArray)} {r : ByteArray} {p : Nat} (h : p < Lv.length) : inLB O Lv r (p + 1) = (inLB O Lv r p || decide (r ∈ Lv[p])) := by
  unfold inLB; rw [List.take_succ_eq_append_getElem h, List.any_append, ← Bool.or_assoc]; simp
theorem inLB_all (O : List ByteArray) (Lv : List (List ByteArray)) (r : ByteArray) : inLB O Lv r Lv.length = true ↔ r ∈ O ∨ ∃ l ∈ Lv, r ∈ l := by simp [inLB]
set_option maxRecDepth 100000 in
set_option maxHeartbeats 8000000 in
theorem l15Next_any (m : Mt) (v : Value) (k : Cl) (n : Nat) (fr : ByteArray) (V : Value) (vs : List Value) (base i : Nat) (w : World) (hg : CGood m k n) (hv : Strs w v m.l) (hfr : RowIn n fr)
    (hV : OwnSV w base V (laysU (headsR (headB n m.l k.bob k.single)) fr (i + 1)) vs) (hs8 : (layR (headsR (headB n m.l k.bob k.single)) fr i).length ≤ 800) (hi : i ≤ 8) : Calls Tryz.prog 261 #[m.v v, k.v, V] w fun e w' =>
    ∃ (A : Option Addr) (N q : Nat), e = .returned (.slice A N q) ∧ N = (layR (headsR (headB n m.l k.bob k.single)) fr (i + 1)).length ∧ w'.ownsRow w.heap.size 9 1 (.slice A N q) N ((layR (headsR (headB n m.l k.bob k.single)) fr (i + 1)).map Value.string) ∧ Below w.heap.size w w' := by
  have hn := hg.m.hi
  have HC := Lib.hid (fun W (hW : Below w.heap.size w W) c => l8Head_any m v k n c W hg (hv.to hW))
  have HFi := Lib.hid (fun c => head_in hn m.l k.bob k.single c)
  obtain ⟨F, hF⟩ : ∃ F, F = headB n m.l k.bob k.single := ⟨_, rfl⟩
  simp only [← hF] at HC HFi hV hs8 ⊢
  have Hhin : Hid (∀ x ∈ headsR F, RowIn n x) := Lib.hid (fun x hx => by
    unfold headsR at hx
    simp only [List.mem_cons, List.not_mem_nil, or_false] at hx
    rcases hx with rfl | rfl | rfl <;> exact HFi.out _)
  have Hli := Lib.hid (layR_in hn Hhin.out hfr i)
  obtain ⟨A, c, hv', _⟩ := hv
  subst hv'
  unfold Mt.v Cl.v at *
  obtain ⟨A2, c2, e2⟩ := hV.form
  rw [laysU_len] at e2
  subst e2
  have HV := Lib.hid hV
  have hvl := hV.len
  rw [laysU_len] at hvl
  have hV1 := hV.1
  rw [laysU_len] at hV1
  obtain ⟨gl, hgl, hgl2⟩ := own_ptr hV1 (by omega)
  subst hgl
  have hil : i < (laysU (headsR F) fr (i + 1)).length := by rw [laysU_len]; omega
  have hrow := hV.2 i hil (by omega)
  have hLc := hV1.cellAt i (by omega)
  rw [List.getElem?_eq_getElem (by omega : i < vs.length)] at hLc
  rw [laysU_get hil] at hrow
  obtain ⟨Ai, ci, eiv, _⟩ := sl_of_own hrow
  rw [eiv] at hLc hrow
  have HLl : Hid (layR (headsR F) fr (i + 1) = sortB (newsB (seenR (headsR F) fr i) (prodsB (headsR F) (layR (headsR F) fr i)))) := Lib.hid (layR_succ _ _ _)
  obtain ⟨L, hL⟩ : ∃ L, L = layR (headsR F) fr i := ⟨_, rfl⟩
  rw [← hL] at hLc hrow Hli hs8 HLl
  have Hrow := Lib.hid (fun W (hW : Below w.heap.size w W) => (strs_of_own (own_to hrow hW) : Strs W (.slice Ai L.length ci) L))
  have HLc := Lib.hid (fun W (hW : Below w.heap.size w W) => (by
    have h1 := (own_to hV1 hW).cellAt i (by omega)
    rw [List.getElem?_eq_getElem (by omega : i < vs.length), eiv, ← hL] at h1
    exact h1 : W.cell? ⟨gl, i, none⟩ = some (.slice Ai L.length ci)))
  have hi1 : IntKind.i64.wrap ((i : Int) + 1 - 1) = (i : Int) := by rw [IntWalk.i64_in _ ⟨by omega, by omega⟩]; omega
  have hi2 : (i : Int) + 1 - 1 = (i : Int) := by omega
  have hi3 : (i : Int) < (i : Int) + 1 := by omega
  clear hg hF hV hV1 hil hrow hLc eiv hL hfr
  have hLw : ∀ o1 o2, ((w.alloc o1).alloc o2).cell? ⟨gl, i, none⟩ = some (.slice Ai L.length ci) := fun o1 o2 => HLc.out _ (bw_al (bw_al (Below.refl _ _) _) _)
  go_enter Tryz.func261, Tryz.ntmps261
  go_wp2_with fail
  clear hLw
  refine box2 (C := fun W => Code.wp _ _ _ _ W) ?_
  intro wb hw k1 k2 hB0
  have R1 := boxRule k1
  have R2 := boxRule k2
  have hwz := hw.size
  have Hz : Hid (([] : List ByteArray) = prodsB (headsR F) (L.take 0)) := Lib.hid (by simp [prodsB])
  clear k1 k2
  go_loopw [7, 25] (fun o x wr => ∃ (kk N q : Nat) (A : Option Addr) (X : List ByteArray), kk ≤ L.length ∧ x = .int .i64 kk ∧ o = .slice A N q ∧ N = X.length ∧ N = kk * 3 ∧ X = prodsB (headsR F) (L.take kk) ∧ wr.ownsRow wb.heap.size 9 1 (.slice A N q) N (X.map Value.string) ∧ Below wb.heap.size wb wr) (fun _ x _ => L.length - (intOf x).toNat)
  case atStart => exact ⟨0, 0, 0, none, [], by omega, rfl, rfl, rfl, rfl, Hz.out, World.ownsRow_nil _ _ _ _, Below.refl _ _⟩
  case round =>
    clear Hz
    obtain ⟨kk, N, q, A', X, hkk, rfl, rfl, hN, hN3, hX, hown, hB⟩ := hrel
    have HX := Lib.hid hX
    have Hown := Lib.hid hown
    have HN := Lib.hid hN
    have HN3 := Lib.hid hN3
    have hNs : N ≤ 2400 := by omega
    clear hX hown hN hN3
    by_cases hlt : kk < L.length
    · obtain ⟨A', c', e', _, _, hrd⟩ := Hrow.out wr (bw_to hw hB)
      injection e' with ea eb ec
      subst ea ec
      clear eb
      obtain ⟨ad, rfl, hC⟩ := strs_el hrd hlt
      have hC0 := hC _ (Below.refl _ _)
      have Hr := Lib.hid (Hli.out _ (List.getElem_mem hlt))
      have Hpt : Hid (prodsB (headsR F) (L.take (kk + 1)) = prodsB (headsR F) (L.take kk) ++ (headsR F).map (timesB L[kk])) := Lib.hid (prods_take hlt)
      obtain ⟨r, hr⟩ : ∃ r, r = L[kk] := ⟨_, rfl⟩
      rw [← hr] at hC0 Hr Hpt
      have HX0 : Hid (X = prodsB (headsR F) (L.take kk) ++ ((headsR F).take 0).map (timesB r)) := Lib.hid (by simpa using HX.out)
      clear hC hrd hr
      go_wp2_with fail
      refine box1 (C := fun W => Code.wp _ _ _ _ W) ?_
      intro w5 hw5 k5 hB05
      have Hlit : Hid (w5.ownsRow wr.heap.size 9 1 (.slice (some ⟨wr.heap.size, 0, none⟩) 3 3) 3 ((clP.map callT).map Value.string)) := Lib.hid (own_of_heap (n := 3) (size := 1) k5 (Nat.le_refl _) (by unfold maxLen; omega) rfl)
      have hne0 : (Value.slice A' N q).ownBlock ≠ some wr.heap.size := fun e => by have := (World.ownsRow.lt Hown.out _ e).2; omega
      have hl5 : wr.heap.size < w5.heap.size := blk_lt k5
      have Hown5 := Lib.hid (own_to Hown.out hw5)
      have hB5 := bw_to hB hw5
      clear k5
      obtain ⟨wo, rfl⟩ : ∃ wo : World, wo = wr := ⟨_, rfl⟩
      go_loopw [7, 31] (fun o x wr => ∃ (j N2 q : Nat) (A : Option Addr) (X : List ByteArray), j ≤ 3 ∧ x = .int .i64 j ∧ o = .slice A N2 q ∧ N2 = X.length ∧ N2 = N + j ∧ X = prodsB (headsR F) (L.take kk) ++ ((headsR F).take j).map (timesB r) ∧ wr.ownsRow wb.heap.size 9 1 (.slice A N2 q) N2 (X.map Value.string) ∧ wr.ownsRow wo.heap.size 9 1 (.slice (some ⟨wo.heap.size, 0, none⟩) 3 3) 3 ((clP.map callT).map Value.string) ∧ (Value.slice A N2 q).ownBlock ≠ some wo.heap.size ∧ wo.heap.size < wr.heap.size ∧ Below wb.heap.size wb wr) (fun _ x _ => 3 - (intOf x).toNat)
      case atStart => exact ⟨0, N, q, _, X, by omega, rfl, rfl, HN.out, by omega, HX0.out, Hown5.out, Hlit.out, hne0, hl5, hB5⟩
      case round =>
        clear HX0 HN HX Hown Hown5 Hlit hne0 hl5 hB5 hC0
        obtain ⟨j, N2, q, A', X, hj, rfl, rfl, hN, hN2, hX, hown, hlit, hne, hlz, hB5⟩ := hrel
        have HX := Lib.hid hX
        have Hown := Lib.hid hown
        have Hlit := Lib.hid hlit
        have HN := Lib.hid hN
        have HN2 := Lib.hid hN2
        have hN800 : N2 ≤ 2403 := by omega
        clear hX hown hN hlit hN2
        by_cases hlt2 : j < 3
        · have hjc : j < clP.length := hlt2
          have hC0 : wr.cell? ⟨wo.heap.size, j, none⟩ = some (.string (callT clP[j])) := by
            have h1 := Hlit.out.cellAt j (by omega)
            rw [h1, List.getElem?_map, List.getElem?_map, List.getElem?_eq_getElem hjc]
            rfl
          have Hsn : Hid ((headsR F).take (j + 1) = (headsR F).take j ++ [F clP[j]]) := Lib.hid (by
            have h1 : j < (headsR F).length := hlt2
            rw [List.take_succ_eq_append_getElem h1]
            simp only [clP_heads, List.getElem_map])
          obtain ⟨c1, hc⟩ : ∃ c, c = clP[j] := ⟨_, rfl⟩
          rw [← hc] at hC0 Hsn
          have hBw := bw_to hw hB5
          have Hcall := Lib.hid (HC.out wr hBw c1)
          have Htm := Lib.hid (fun W => l1Times_any r (F c1) W (by rw [Hr.out.1]; omega) (by rw [(HFi.out c1).1]; omega) (row_hin Hr.out.1 (HFi.out c1)))
          have HXn : Hid (X ++ [timesB r (F c1)] = prodsB (headsR F) (L.take kk) ++ ((headsR F).take (j + 1)).map (timesB r)) := Lib.hid (by rw [HX.out, Hsn.out, List.map_append, List.append_assoc]; rfl)
          obtain ⟨x, hx⟩ : ∃ x, x = timesB r (F c1) := ⟨_, rfl⟩
          simp only [← hx] at Htm HXn
          obtain ⟨s1, hs1⟩ : ∃ s1, s1 = callT c1 := ⟨_, rfl⟩
          rw [← hs1] at hC0 Hcall
          have r1 := fun i => R1 wr i hB5
          have r2 := fun i => R2 wr i hB5
          clear hc hx hjc hs1
          go_wp2_with fail
          refine (Hcall.out).mono ?_; rintro e w6 ⟨rfl, hb6⟩
          go_wp2_with fail
          refine (Htm.out _).mono ?_; rintro e w6' ⟨rfl, rfl⟩
          have ho6 := own_to Hown.out hb6
          have hl6 := own_to Hlit.out hb6
          have hB6 := bw_to hB5 hb6
          have hz6 := hB6.size
          have hz6b := hb6.size
          have Hl6 := Lib.hid hl6
          clear hl6 hC0 r1 r2
          go_wp2_with (at_builtin; go_must (refine wpList_app _ rfl _ _ _ rfl wb.heap.size 9 _ 1 16 Tryz.underlying22 info_str rfl (by omega) ho6 [.string x] rfl rfl rfl (one_mem rfl) (by omega) (by omega) hz6 ?_); intro v7 w7 hown7 hb7 hg7 hnb7)
          obtain ⟨A7, q7, e7, _⟩ := sl_of_own hown7
          subst e7
          have hl7 := Hl6.out.kept hg7 (by
            by_cases e : (Value.slice A' N2 q).ownBlock = none
            · exact .inr (by rw [e]; simp [Value.ownBlock])
            · exact .inr (fun e2 => hne e2.symm))
          rw [str_snoc rfl] at hown7
          have hne7 : (Value.slice A7 (N2 + 1) q7).ownBlock ≠ some wo.heap.size := by
            rcases hnb7 with h | h
            · rw [h]; exact hne
            · intro e; have := h _ e; omega
          have hB7 := hB6.trans hb7
          have hz7 : wo.heap.size < w7.heap.size := (World.ownsRow.lt hl7 _ rfl).2
          refine ⟨⟨j + 1, N2 + 1, q7, A7, X ++ [x], by omega, by go_num, rfl, by rw [List.length_append, ← HN.out]; rfl, by have := HN2.out; omega, HXn.out, hown7, hl7, hne7, hz7, hB7⟩, by simp [intOf]; omega⟩
        · obtain rfl : j = 3 := by omega
          have HX2 : Hid (X = prodsB (headsR F) (L.take (kk + 1))) := Lib.hid (by rw [Hpt.out, HX.out]; rfl)
          go_wp2_with fail
          exact ⟨⟨kk + 1, N2, q, A', X, by omega, by go_num, rfl, HN.out, by have := HN2.out; have := HN3.out; omega, HX2.out, Hown.out, hB5⟩, by simp [intOf]; omega⟩
    · obtain rfl : kk = L.length := by omega
      have HXL : Hid (X = prodsB (headsR F) L) := Lib.hid (by rw [HX.out, List.take_length])
      have HLX : Hid (layR (headsR F) fr (i + 1) = sortB (newsB (seenR (headsR F) fr i) X)) := Lib.hid (by rw [HLl.out, HXL.out])
      have hNX : N = X.length := HN.out
      have Hst : Hid (Strs wr (.slice A' N q) X) := Lib.hid (strs_of_own (by rw [← hNX]; exact Hown.out))
      have Hnil : Hid (NilOk (.slice A' N q)) := Lib.hid (nilok_own Hown.out)
      have hXl : X.length ≤ 2400 := by omega
      have HS := Lib.hid (fun W (hW : Below wr.heap.size wr W) => l6Sort_any (.slice A' N q) X W (by omega) (Hst.out.to hW) Hnil.out)
      have Hnd := Lib.hid (seenR_nodup (headsR F) fr i)
      have Hml := Lib.hid (fun z => (mem_lays (hs := headsR F) (fr := fr) (z := z) (i := i)))
      have Hll := Lib.hid (laysU_len (headsR F) fr (i + 1))
      have Hxi : Hid (∀ x ∈ X, RowIn n x) := Lib.hid (fun x hx => by
        rw [HXL.out] at hx
        obtain ⟨r, hr, h, hh, rfl⟩ := prods_mem.1 hx
        exact times_in (Hli.out r hr) (Hhin.out h hh))
      obtain ⟨Lv, hLv⟩ : ∃ x, x = laysU (headsR F) fr (i + 1) := ⟨_, rfl⟩
      rw [← hLv] at HV Hll
      simp only [← hLv] at Hml
      obtain ⟨S, hS⟩ : ∃ x, x = seenR (headsR F) fr i := ⟨_, rfl⟩
      rw [← hS] at Hnd HLX
      simp only [← hS] at Hml
      have Hfin : Hid (∀ O, Dd S (sortB X) (sortB X).length O → O = layR (headsR F) fr (i + 1)) := Lib.hid (fun O h => by rw [HLX.out]; exact h.all Hnd.out)
      have Hsz : Hid ((sortB X).length = X.length) := Lib.hid (sortB_len X)
      have Hsd := Lib.hid (sortB_sorted X)
      have Hzi : Hid (∀ x ∈ sortB X, RowIn n x) := Lib.hid (fun x hx => Hxi.out x ((sortB_mem X x).1 hx))
      clear hNX hLv hS
      obtain ⟨M, hM⟩ : ∃ M, M = X.length := ⟨_, rfl⟩
      have HM := Lib.hid hM
      rw [← hM] at Hsz HS hXl
      obtain ⟨Z, hZ⟩ : ∃ Z, Z = sortB X := ⟨_, rfl⟩
      simp only [← hZ] at HS Hfin Hsz Hsd Hzi
      obtain ⟨R, hR⟩ : ∃ R, R = layR (headsR F) fr (i + 1) := ⟨_, rfl⟩
      simp only [← hR] at Hfin
      have HRe := Lib.hid hR
      clear hM hZ hR HX HN HN3 Hst Hnil HXL HLX
      go_wp2_with fail
      refine (HS.out _ (Below.refl _ _)).mono ?_; rintro e w5 ⟨A5, q5, rfl, hown5, hb5⟩
      have Hz5 := Lib.hid hown5
      have hBw5 := bw_to hw (bw_to hB hb5)
      have hw5z := hBw5.size
      clear hown5
      go_wp2_with fail
      go_loopw [12, 49] (fun o x wr => ∃ (j N q : Nat) (A : Option Addr) (O : List ByteArray), j ≤ M ∧ x = .int .i64 j ∧ o = .slice A N q ∧ N = O.length ∧ N ≤ j ∧ Dd S Z j O ∧ wr.ownsRow w5.heap.size 9 1 (.slice A N q) N (O.map Value.string) ∧ Below w5.heap.size w5 wr) (fun _ x _ => M - (intOf x).toNat)
      case atStart => exact ⟨0, 0, 0, none, [], by omega, rfl, rfl, rfl, by omega, Dd.zero _ _, World.ownsRow_nil _ _ _ _, Below.refl _ _⟩
      case round =>
        clear hB Hown
        obtain ⟨j, N3, q3, A3, O, hj, rfl, rfl, hN, hNj, hD, hown, hB3⟩ := hrel
        have HN3 := Lib.hid hN
        have HD := Lib.hid hD
        have Hown3 := Lib.hid hown
        clear hN hD hown
        by_cases hlt : j < M
        · have hjZ : j < Z.length := by rw [Hsz.out]; exact hlt
          have hz1 := own_to Hz5.out hB3
          have hzc : ∃ ad, A5 = some ad := by
            obtain ⟨g, hg, _⟩ := own_ptr hz1 (by omega)
            exact ⟨_, hg⟩
          obtain ⟨g5, hg5, _⟩ := own_ptr hz1 (by omega)
          subst hg5
          have hC0 := hz1.cellAt j (by omega)
          rw [List.getElem?_map, List.getElem?_eq_getElem hjZ] at hC0
          have hC1 : wr.cell? ⟨g5, j, none⟩ = some (.string Z[j]) := hC0
          have Hla := Lib.hid (fun h0 => HD.out.last Hsd.out hjZ h0)
          have Had := Lib.hid (fun h1 h2 => HD.out.add Hsd.out hjZ h1 h2)
          have Hsk := Lib.hid (fun h => HD.out.skip hjZ h)
          obtain ⟨r, hr⟩ : ∃ r, r = Z[j] := ⟨_, rfl⟩
          rw [← hr] at hC1
          simp only [← hr] at Hla Had Hsk
          clear hC0 hz1 hzc hr hjZ
          obtain ⟨b0, hb0⟩ : ∃ b, b = decide (r ∈ O) := ⟨_, rfl⟩
          have Hb0 := Lib.hid hb0
          have hNl : N3 ≤ 2400 := by omega
          have HNj := Lib.hid hNj
          clear hb0 hNj
          go_upto_region 15 with fail
          go_cut [15] (fun s w' => s = .bool b0 ∧ w' = wr)
          case first =>
            by_cases h0 : N3 = 0
            · have hO0 : O = [] := List.eq_nil_of_length_eq_zero (by rw [← HN3.out]; exact h0)
              have hb : b0 = false := by rw [Hb0.out, hO0]; simp
              subst hb
              clear hO0
              subst h0
              go_wp2_with fail
              go_meet
              exact ⟨rfl, rfl⟩
            · obtain ⟨N', rfl⟩ : ∃ N', N3 = N' + 1 := ⟨N3 - 1, by omega⟩
              have hl0 : 0 < O.length := by rw [← HN3.out]; omega
              have hlast := Hla.out hl0
              obtain ⟨go, hgo, _⟩ := own_ptr Hown3.out (by omega)
              subst hgo
              have hc2 := Hown3.out.cellAt N' (by omega)
              have hNO : N' < O.length := by rw [← HN3.out]; omega
              rw [List.getElem?_map, List.getElem?_eq_getElem hNO] at hc2
              have hc3 : wr.cell? ⟨go, N', none⟩ = some (.string O[N']) := hc2
              have heq : O[O.length - 1] = O[N'] := by congr 1; rw [← HN3.out]; rfl
              rw [heq] at hlast
              obtain ⟨y, hy⟩ : ∃ y, y = O[N'] := ⟨_, rfl⟩
              rw [← hy] at hc3 hlast
              have hbe : (y.toList == r.toList) = b0 := by rw [str_beq, Hb0.out]; exact decide_eq_decide.2 hlast
              have hn0 : (0 : Int) < (N' : Int) + 1 := by omega
              have hnw : IntKind.i64.wrap ((N' : Int) + 1 - 1) = N' := by rw [IntWalk.i64_in _ ⟨by omega, by omega⟩]; omega
              have hn1 : (N' : Int) + 1 - 1 = N' := by omega
              clear hl0 hlast hc2 hNO heq hy
              go_wp2_with fail
              go_meet
              exact ⟨rfl, rfl⟩
          case rest =>
            obtain ⟨rfl, rfl⟩ := hcut
            have Hh := Lib.hid HV.out
            have hws : Below w.heap.size w wc := bw_to hBw5 hB3
            have HV3 := Lib.hid (HV.out.to hws)
            have Hin0 : Hid (b0 = inLB O Lv r 0) := Lib.hid (by rw [Hb0.out, inLB_zero])
            go_wp2_with fail
            go_loopw [15, 68] (fun s x w' => ∃ (p : Nat) (b : Bool), p ≤ i + 1 ∧ x = .int .i64 p ∧ s = .bool b ∧ b = inLB O Lv r p ∧ w' = wc) (fun _ x _ => i + 1 - (intOf x).toNat)
            case atStart => exact ⟨0, b0, by omega, rfl, rfl, Hin0.out, rfl⟩
            case round =>
              clear Hin0
              obtain ⟨p, b, hp, rfl, rfl, hb, rfl⟩ := hrel
              have Hb := Lib.hid hb
              clear hb
              by_cases hlt2 : p < i + 1
              · have hpl : p < Lv.length := by rw [Hll.out]; exact hlt2
                have hpv : p < vs.length := by omega
                have hrow := HV3.out.2 p hpl hpv
                have hvr := HV3.out.1
                rw [Hll.out] at hvr
                have hpc := hvr.cellAt p (by omega)
                rw [List.getElem?_eq_getElem hpv] at hpc
                obtain ⟨Ap, cp, ep, hjk⟩ := sl_of_own hrow
                rw [ep] at hpc hrow
                have Hhas := Lib.hid (l1HasS_any (.slice Ap Lv[p].length cp) Lv[p] r wr (strs_of_own hrow))
                have Htk := Lib.hid (inLB_succ (O := O) (r := r) hpl)
                have hpi : (p : Int) < (i : Int) + 1 := by omega
                obtain ⟨lp, hlp⟩ : ∃ l, l = Lv[p] := ⟨_, rfl⟩
                rw [← hlp] at Hhas hpc Htk
                clear hrow hvr ep hjk hlp hpl hpv
                cases b
                · have Hnx : Hid (decide (r ∈ lp) = inLB O Lv r (p + 1)) := Lib.hid (by rw [Htk.out, ← Hb.out]; rfl)
                  go_wp2_with fail
                  refine (Hhas.out).mono ?_; rintro e w9 ⟨rfl, rfl⟩
                  go_wp2_with fail
                  exact ⟨⟨p + 1, _, by omega, by go_num, rfl, Hnx.out, by first | rfl | trivial⟩, by simp [intOf]; omega⟩
                · have Hnx : Hid (true = inLB O Lv r (p + 1)) := Lib.hid (by rw [Htk.out, ← Hb.out]; rfl)
                  go_wp2_with fail
                  exact ⟨⟨p + 1, true, by omega, by go_num, rfl, Hnx.out, by first | rfl | trivial⟩, by simp [intOf]; omega⟩
              · obtain rfl : p = i + 1 := by omega
                have hb2 := Hb.out
                have hall := inLB_all O Lv r
                rw [Hll.out, ← hb2] at hall
                have hbs : b = true ↔ r ∈ O ∨ r ∈ S := hall.trans (or_congr Iff.rfl (Hml.out r))
                clear hb2 hall
                cases b
                · have hno : ¬ (r ∈ O ∨ r ∈ S) := fun h => by have := hbs.2 h; cases this
                  have Hd2 := Lib.hid (Had.out (fun h => hno (.inl h)) (fun h => hno (.inr h)))
                  clear hno hbs
                  have hz6 := hB3.size
                  have ho6 := Hown3.out
                  go_wp2_with (at_builtin; go_must (refine wpList_app _ rfl _ _ _ rfl w5.heap.size 9 _ 1 16 Tryz.underlying22 info_str rfl (by omega) ho6 [.string r] rfl rfl rfl (one_mem rfl) (by omega) (by omega) hz6 ?_); intro v7 w7 hown7 hb7 hg7 hnb7)
                  obtain ⟨A7, q7, e7, _⟩ := sl_of_own hown7
                  subst e7
                  rw [str_snoc rfl] at hown7
                  exact ⟨⟨j + 1, N3 + 1, q7, A7, O ++ [r], by omega, by go_num, rfl, by rw [List.length_append, ← HN3.out]; rfl, by have := HNj.out; omega, Hd2.out, hown7, hB3.trans hb7⟩, by simp [intOf]; omega⟩
                · have hys := hbs.1 rfl
                  have Hd2 := Lib.hid (Hsk.out hys)
                  clear hys hbs
                  go_wp2_with fail
                  exact ⟨⟨j + 1, N3, q3, A3, O, by omega, by go_num, rfl, HN3.out, by have := HNj.out; omega, Hd2.out, Hown3.out, hB3⟩, by simp [intOf]; omega⟩
        · obtain rfl : j = M := by omega
          have hO : O = R := Hfin.out O (by rw [Hsz.out]; exact HD.out)
          have HO := Lib.hid hO
          have HNR : Hid (N3 = R.length) := Lib.hid (by rw [← HO.out]; exact HN3.out)
          have Hown4 : Hid (wr.ownsRow w5.heap.size 9 1 (.slice A3 N3 q3) N3 (R.map Value.string)) := Lib.hid (by rw [← HO.out]; exact Hown3.out)
          clear hO
          go_wp2_with fail
          go_ret
          exact ⟨A3, N3, q3, rfl, by rw [← HRe.out]; exact HNR.out, by rw [← HRe.out]; exact own_base Hown4.out (by omega), bw_to hBw5 hB3⟩
end Go.Proofs.YtjiiflpoiaaccaaGreat
