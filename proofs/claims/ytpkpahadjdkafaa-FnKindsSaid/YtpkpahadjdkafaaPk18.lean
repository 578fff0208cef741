/- Contracts: powers and order of a row, the rows of a plain course, both sides. -/
import Derived.Test.YtpkpahadjdkafaaPk7
import Derived.Test.YtpkpahadjdkafaaPk17
namespace Go.Proofs.Ytpkpahadjdkafaa
open Go Go.RowKit
set_option linter.unusedVariables false
set_option linter.unusedSimpArgs false

def lenV : Value → Nat
  | .slice _ n _ => n
  | _ => 0
theorem eq_of_bl {x y : ByteArray} (h : (x.toList == y.toList) = true) : x = y := by
  have h := eq_of_beq h
  rw [bytes_toList, bytes_toList] at h
  exact bytes_ext h
theorem bl_of_eq {x y : ByteArray} (h : x = y) : (x.toList == y.toList) = true := by rw [h]; exact beq_self_eq_true _
theorem ord_stop {n K k : Nat} {a : ByteArray} (h : IsOrd n a K) (h1 : 1 ≤ k) (hk : k ≤ K) (e : ((powB n a k).toList == (roundsB n).toList) = true) : k = K := by
  rcases Nat.lt_or_ge k K with hl | hl
  · exact absurd (eq_of_bl e) (h.2.2 k h1 hl)
  · omega
theorem ord_go {n K k : Nat} {a : ByteArray} (h : IsOrd n a K) (hk : k ≤ K) (e : ((powB n a k).toList == (roundsB n).toList) = false) : k < K := by
  rcases Nat.lt_or_ge k K with hl | hl
  · exact hl
  · obtain rfl : k = K := by omega
    rw [bl_of_eq h.2.1] at e; cases e
theorem pow_head {n K : Nat} (a : ByteArray) (h : 1 ≤ K) : (powL n a K)[0]'(by rw [powL_len]; omega) = roundsB n := by simp [powL, powB]
set_option maxRecDepth 10000 in
set_option maxHeartbeats 2000000 in
theorem powers_any (a : ByteArray) (n K : Nat) (w : World) (hn : n ≤ 8) (ha : RowIn n a) (hK : IsOrd n a K) (hKb : K ≤ 16777216) : Calls Try.prog 71 #[.string a] w fun e w' =>
    ∃ A q, e = .returned (.slice A K q) ∧ w'.ownsRow w.heap.size 9 1 (.slice A K q) K ((powL n a K).map Value.string) ∧ Below w.heap.size w w' := by
  have hsz := ha.1
  have HK := Lib.hid hK
  have Ha := Lib.hid ha
  have hK1 := hK.1
  have h1a : Hid (a = powB n a 1) := Lib.hid (pow_one hn ha).symm
  have Htm := Lib.hid (fun k W => times_any (powB n a k) a W (by rw [(pow_in hn ha k).1]; omega) (by rw [hsz]; omega) (row_hin (pow_in hn ha k).1 ha))
  clear hK ha
  go_enter Try.func71, Try.ntmps71
  go_wp2_with (go_at_call 67; refine (rounds_any n _ hn).mono ?_; rintro e w' ⟨rfl, rfl⟩)
  refine box1 (C := fun W => Code.wp _ _ _ _ W) ?_
  intro wb hw k1 hB0
  have hown0 : wb.ownsRow w.heap.size 9 1 (.slice (some ⟨w.heap.size, 0, none⟩) 1 1) 1 [.string (roundsB n)] := own_of_heap k1 (Nat.le_refl _) (by unfold maxLen; omega) rfl
  clear k1
  go_loopw [3, 4] (fun o p wr => ∃ (k : Nat) (A' : Option Addr) (q' : Nat), 1 ≤ k ∧ k ≤ K ∧ p = .string (powB n a k) ∧ o = .slice A' k q' ∧ wr.ownsRow w.heap.size 9 1 (.slice A' k q') k ((powL n a k).map Value.string) ∧ Below w.heap.size w wr) (fun o _ _ => K - lenV o)
  case atStart => exact ⟨1, _, 1, by omega, by omega, by rw [← h1a.out], rfl, hown0, hw⟩
  case round =>
    obtain ⟨k, A', q', h1k, hk, rfl, rfl, hown, hB⟩ := hrel
    have hS := sl_of_own hown
    obtain ⟨A2, c2, e2, _, _, hrd⟩ := hS
    injection e2 with ea eb ec
    subst ea ec
    obtain ⟨ad, rfl, hC⟩ := strs_el (k := 0) hrd (by rw [powL_len]; omega)
    have hC0 := hC _ (Below.refl _ _)
    rw [pow_head a h1k] at hC0
    have hC1 := hC0
    rw [add_zero'] at hC1
    have Hst := Lib.hid (ord_stop HK.out h1k hk)
    have Hgo := Lib.hid (ord_go HK.out hk)
    have Hs : Hid (powL n a (k + 1) = powL n a k ++ [powB n a k]) := Lib.hid (powL_succ n a k)
    have Ht := Lib.hid (Htm.out k)
    have Hx : Hid (timesB (powB n a k) a = powB n a (k + 1)) := Lib.hid rfl
    obtain ⟨x, hx⟩ : ∃ x, x = powB n a k := ⟨_, rfl⟩
    rw [← hx] at Hst Hgo Hs Ht Hx ⊢
    clear hC hrd hx
    cases hb : (x.toList == (roundsB n).toList)
    · have hlt := Hgo.out hb
      go_wp2_with (at_builtin; go_must (refine wpList_app _ rfl _ _ _ rfl w.heap.size 9 _ 1 16 Try.underlying22 info_str rfl (by omega) hown [.string x] rfl rfl rfl (one_mem rfl) (by omega) (by omega) hB.size ?_); intro v2 w3 hown3 hb3 hg3 _)
      refine (Ht.out _).mono ?_; rintro e w2 ⟨rfl, hb2⟩
      have hown4 := own_to hown3 hb2
      obtain ⟨A2, q2, e2, _⟩ := sl_of_own hown4
      subst e2
      rw [str_snoc Hs.out] at hown4
      have hB4 := bw_to (hB.trans hb3) hb2
      clear hown hown3
      go_wp2_with fail
      exact ⟨⟨k + 1, A2, q2, by omega, by omega, by rw [Hx.out], rfl, hown4, hB4⟩, by simp [lenV]; omega⟩
    · obtain rfl := Hst.out hb
      go_wp2_with fail
      go_ret
      exact ⟨_, _, rfl, hown, hB⟩
set_option maxRecDepth 10000 in
set_option maxHeartbeats 2000000 in
theorem l1Order_any (a : ByteArray) (n K : Nat) (w : World) (hn : n ≤ 8) (ha : RowIn n a) (hK : IsOrd n a K) (hKb : K ≤ 16777216) : Calls Try.prog 73 #[.string a] w fun e w' => e = .returned (.int .i64 (K : Int)) ∧ w = w' := by
  have hsz := ha.1
  have HK := Lib.hid hK
  have hK1 := hK.1
  have h1a : Hid (a = powB n a 1) := Lib.hid (pow_one hn ha).symm
  have Htm := Lib.hid (fun k W => l1Times_any (powB n a k) a W (by rw [(pow_in hn ha k).1]; omega) (by rw [hsz]; omega) (row_hin (pow_in hn ha k).1 ha))
  clear hK ha
  go_enter Try.func73, Try.ntmps73
  go_wp2_with fail
  go_loop [3, 4] (fun o p => ∃ k : Nat, 1 ≤ k ∧ k ≤ K ∧ p = .string (powB n a k) ∧ o = .int .i64 k) (fun o _ => K - (intOf o).toNat)
  case atStart => exact ⟨1, by omega, by omega, by rw [← h1a.out], rfl⟩
  case round =>
    obtain ⟨k, h1k, hk, rfl, rfl⟩ := hrel
    have Hst := Lib.hid (ord_stop HK.out h1k hk)
    have Hgo := Lib.hid (ord_go HK.out hk)
    have Ht := Lib.hid (Htm.out k)
    have Hx : Hid (timesB (powB n a k) a = powB n a (k + 1)) := Lib.hid rfl
    obtain ⟨x, hx⟩ : ∃ x, x = powB n a k := ⟨_, rfl⟩
    rw [← hx] at Hst Hgo Ht Hx ⊢
    clear hx
    cases hb : (x.toList == (roundsB n).toList)
    · have hlt := Hgo.out hb
      go_wp2_with (first | (go_at_call 69; refine (l1Rounds_any n _ hn).mono ?_; rintro e w' ⟨rfl, rfl⟩) | (go_at_call 107; refine (Ht.out _).mono ?_; rintro e w' ⟨rfl, rfl⟩))
      exact ⟨⟨k + 1, by omega, by omega, by rw [Hx.out], by go_num⟩, by simp [intOf]; omega⟩
    · obtain rfl := Hst.out hb
      go_wp2_with (go_at_call 69; refine (l1Rounds_any n _ hn).mono ?_; rintro e w' ⟨rfl, rfl⟩)
      go_ret
      exact ⟨rfl, rfl⟩
/-- A good method, its stage, and the number of leads of its course. -/
structure MK (m : Mt) (n K : Nat) : Prop where
  ok : methB m = true
  g : MGood m n
  ord : IsOrd n (runB (roundsB n) m.l) K
  kb : K ≤ 16777216
theorem mk_of {m : Mt} (h : methB m = true) : ∃ n K, MK m n K := by
  obtain ⟨n, hg⟩ := mgood_of h
  obtain ⟨K, hb, hK⟩ := ord_ex hg.hi (run_inv hg.hi m.l (Inv.rounds hg.hi))
  exact ⟨n, K, h, hg, hK, hb⟩
def headM (m : Mt) (n : Nat) : ByteArray := runB (roundsB n) m.l
theorem MK.hin {m : Mt} {n K : Nat} (h : MK m n K) : RowIn n (runB (roundsB n) m.l) := runB_in h.g.hi _ (rounds_in h.g.hi)
def crsL (m : Mt) (n K : Nat) : List ByteArray := if K * m.l.length ≤ 800 then rowsB m.l (powL n (runB (roundsB n) m.l) K) else []
theorem rows_in {n K : Nat} {m : Mt} (h : MK m n K) : ∀ x ∈ rowsB m.l (powL n (runB (roundsB n) m.l) K), RowIn n x := by
  intro x hx
  unfold rowsB at hx
  obtain ⟨y, hy, hx⟩ := List.mem_flatMap.1 hx
  unfold powL at hy
  obtain ⟨j, _, rfl⟩ := List.mem_map.1 hy
  exact lead_in h.g.hi _ (pow_in h.g.hi h.hin j) x hx
theorem crs_len {n K : Nat} {m : Mt} (h : MK m n K) : (crsL m n K).length ≤ 800 := by
  unfold crsL
  split
  · rw [rows_len, powL_len]; assumption
  · simp
set_option maxRecDepth 10000 in
set_option maxHeartbeats 4000000 in
theorem implCourseRows_any (m : Mt) (v : Value) (n K : Nat) (w : World) (hK : MK m n K) (h : MethAt w m v) (hs : MtSmall m) : Calls Try.prog 94 #[m.v v] w fun e w' =>
    ∃ A q, e = .returned (.tuple #[.slice A (crsL m n K).length q, .bool (decide (K * m.l.length ≤ 800))]) ∧ w'.ownsRow w.heap.size 9 1 (.slice A (crsL m n K).length q) (crsL m n K).length ((crsL m n K).map Value.string) ∧ Below w.heap.size w w' := by
  have Hg := Lib.hid (fun W hW => implGoodMethod_any m v W (h.to hW) hs)
  have Hh := Lib.hid (fun W (hW : Below w.heap.size w W) => leadHead_any m v n W hK.g (h.1.to hW))
  have Hlr := Lib.hid (fun W (hW : Below w.heap.size w W) r hr => leadRows_any m v r n W hK.g.hi hr (h.1.to hW) (by have := hK.g.len; omega) hK.g.ok)
  have Hp := Lib.hid (fun W => powers_any (runB (roundsB n) m.l) n K W hK.g.hi hK.hin hK.ord hK.kb)
  rw [hK.ok] at Hg
  have hst := hK.g.st
  have hml := hK.g.len
  have hkb := hK.kb
  have hn8 := hK.g.hi
  have Hin := Lib.hid (fun j => pow_in hK.g.hi hK.hin j)
  obtain ⟨A, c, hv⟩ := h.form
  subst hv
  have hmul : K * m.l.length ≤ 16777216 * 40 := Nat.mul_le_mul hkb hml.2
  obtain ⟨N, hN⟩ : ∃ N, N = K * m.l.length := ⟨_, rfl⟩
  have HN := Lib.hid hN
  have hN2 : (K : Int) * (m.l.length : Int) = (N : Int) := by rw [hN]; simp
  have hNN : IntKind.i64.wrap ((K : Int) * (m.l.length : Int)) = (N : Int) := by rw [hN2]; exact IntWalk.i64_in _ ⟨by omega, by omega⟩
  have hNb : N ≤ 16777216 * 40 := by omega
  have Hdef : Hid (crsL m n K = if N ≤ 800 then rowsB m.l (powL n (runB (roundsB n) m.l) K) else []) := Lib.hid (by rw [hN]; rfl)
  obtain ⟨H, hH⟩ : ∃ H, H = runB (roundsB n) m.l := ⟨_, rfl⟩
  obtain ⟨C, hC⟩ : ∃ C, C = crsL m n K := ⟨_, rfl⟩
  rw [← hH] at Hp Hin Hdef
  rw [← hC] at Hdef ⊢
  simp only [← hH] at Hh
  unfold Mt.v at *
  rw [hst] at *
  rw [← hN]
  clear h hN hmul hK hst hH hC
  go_enter Try.func94, Try.ntmps94
  go_wp2_with fail
  refine box1 (C := fun W => Calls _ _ _ W _) ?_
  intro wb hw k1 hB0
  have R1 := boxRule k1
  clear k1
  refine (Hg.out _ hw).mono ?_; rintro e w1 ⟨rfl, hb1⟩
  have hB1 := bw_to hw hb1
  go_wp2_with fail
  refine (Hh.out _ hB1).mono ?_; rintro e w2 ⟨rfl, hb2⟩
  have hB2 := bw_to hB1 hb2
  have hb12 := bw_to hb1 hb2
  go_wp2_with fail
  refine (Hp.out _).mono ?_; rintro e w3 ⟨A3, q3, rfl, hown3, hb3⟩
  have hB3 := bw_to hB2 hb3
  have hb13 := bw_to hb12 hb3
  have Hown3 := Lib.hid hown3
  clear hown3
  by_cases hbig : N ≤ 800
  · rw [if_pos hbig] at Hdef
    have hd : decide ((800 : Int) < (N : Int)) = false := by simp; omega
    have hdd := Lib.hid (decide_eq_true hbig)
    go_wp2_with fail
    refine box1 (C := fun W => Code.wp _ _ _ _ W) ?_
    intro wd hwd k3 hBd
    have hown0 : wd.ownsRow w3.heap.size 9 1 (.slice (some ⟨w3.heap.size, 0, none⟩) 0 0) 0 [] := own_of_heap (cs := #[]) k3 (Nat.le_refl _) (by unfold maxLen; omega) rfl
    clear k3
    obtain ⟨hs', hhs⟩ : ∃ l, l = powL n H K := ⟨_, rfl⟩
    have hsl : hs'.length = K := by rw [hhs, powL_len]
    have Hhin := Lib.hid (fun x (hx : x ∈ hs') => by rw [hhs] at hx; unfold powL at hx; obtain ⟨j, _, rfl⟩ := List.mem_map.1 hx; exact Hin.out j : ∀ x ∈ hs', RowIn n x)
    rw [← hhs] at Hown3 Hdef
    have hS := strs_of_own (by rw [hsl]; exact Hown3.out)
    obtain ⟨A', c', e', _, hcm, hrd⟩ := hS
    injection e' with ea eb ec
    subst ea ec
    rw [hsl] at hrd
    have Hsl := Lib.hid hsl
    clear hhs hsl eb
    go_loopw [5, 24] (fun o i wr => ∃ (j : Nat) (A' : Option Addr) (q' : Nat), j ≤ K ∧ i = .int .i64 j ∧ o = .slice A' (rowsB m.l (hs'.take j)).length q' ∧ wr.ownsRow w3.heap.size 9 1 (.slice A' (rowsB m.l (hs'.take j)).length q') (rowsB m.l (hs'.take j)).length ((rowsB m.l (hs'.take j)).map Value.string) ∧ Below w3.heap.size w3 wr) (fun _ i _ => K - (intOf i).toNat)
    case atStart => exact ⟨0, _, 0, by omega, rfl, rfl, hown0, hwd⟩
    case round =>
      obtain ⟨j, A', q', hj, rfl, rfl, hown, hB⟩ := hrel
      have hBwr := bw_to hb13 hB
      by_cases hlt : j < K
      · have hltL : j < hs'.length := by rw [Hsl.out]; exact hlt
        obtain ⟨ad, rfl, hC⟩ := strs_el hrd hltL
        have hC0 := hC wr hB
        have hR0 := fun i => R1 wr i hBwr
        have hlen := rows_len m.l (hs'.take j)
        have hjl : (hs'.take j).length = j := by simp; omega
        rw [hjl] at hlen
        have hmul : j * m.l.length ≤ 800 := Nat.le_trans (Nat.mul_le_mul_right _ (by omega : j ≤ K)) (by rw [← HN.out]; exact hbig)
        have Hs : Hid (rowsB m.l (hs'.take (j + 1)) = rowsB m.l (hs'.take j) ++ leadB hs'[j] m.l) := Lib.hid (rows_take hltL)
        have Hll := Lib.hid (lead_len hs'[j] m.l)
        have Hl := Lib.hid (Hlr.out wr (bw_to hw hBwr) hs'[j] (Hhin.out _ (List.getElem_mem hltL)))
        obtain ⟨h, hh⟩ : ∃ h, h = hs'[j] := ⟨_, rfl⟩
        rw [← hh] at hC0 Hs Hl Hll
        obtain ⟨L, hL⟩ : ∃ L, L = rowsB m.l (hs'.take j) := ⟨_, rfl⟩
        rw [← hL] at hlen hown Hs ⊢
        have hLl : L.length ≤ 800 := by omega
        clear hC hh hL hjl hlen hmul hltL
        go_wp2_with fail
        refine Hl.out.mono ?_; rintro e w2 ⟨A1, q1, rfl, hown1, hb2⟩
        have hown2 := own_to hown hb2
        have hB2 := bw_to hB hb2
        have hs1 := sl_of_own hown1
        have hn1 := nilok_own hown1
        go_wp2_with (at_builtin; go_must (refine wpList_app_sl _ rfl _ _ _ rfl w3.heap.size 9 _ 1 16 Try.underlying22 info_str rfl (by omega) hown2 rfl hs1 hn1 rfl (strs_one _) (by omega) (by omega) hB2.size ?_); intro v2 w3' hown3 hb3 hg3 _)
        have e3 : (L ++ leadB h m.l).length = L.length + m.l.length := by rw [List.length_append, Hll.out]
        obtain ⟨A2, q2, e2, _⟩ := sl_of_own hown3
        subst e2
        rw [← List.map_append, ← e3, ← Hs.out] at hown3
        refine ⟨⟨j + 1, A2, q2, by omega, by go_num, by rw [Hs.out, e3], hown3, hB2.trans hb3⟩, by simp [intOf]; omega⟩
      · obtain rfl : j = K := by omega
        rw [List.take_of_length_le (by rw [Hsl.out]; exact Nat.le_refl _), ← Hdef.out] at hown
        have Hown := Lib.hid hown
        have Hd2 : Hid (rowsB m.l (hs'.take j) = C) := Lib.hid (by rw [List.take_of_length_le (by rw [Hsl.out]; exact Nat.le_refl _), ← Hdef.out])
        clear hown
        go_wp2_with fail
        go_ret2
        refine ⟨A', q', by rw [hdd.out, ← Hd2.out]; rfl, own_base Hown.out hB3.size, bw_to hB3 hB⟩
  · rw [if_neg hbig] at Hdef
    have hd : decide ((800 : Int) < (N : Int)) = true := by simp; omega
    have hdd := Lib.hid (decide_eq_false hbig)
    go_wp2_with fail
    go_ret2
    refine ⟨none, 0, by rw [hdd.out, Hdef.out]; rfl, by rw [Hdef.out]; exact World.ownsRow_nil _ _ _ _, hB3⟩
theorem own_ptr {w : World} {base : Nat} {e : TypeId} {size n c : Nat} {A : Option Addr} {xs : List Value} (h : w.ownsRow base e size (.slice A n c) n xs) (hn : 1 ≤ n) : ∃ g, A = some ⟨g, 0, none⟩ ∧ g < w.heap.size := by
  rcases h.2 with ⟨e, _⟩ | ⟨g, cap, cur, e, hb, hg, _⟩
  · injection e with _ e; omega
  · injection e with e1 e2 e3
    exact ⟨g, e1, (Array.getElem?_eq_some_iff.1 hg).1⟩
theorem own_neG {w : World} {base n G : Nat} {e : TypeId} {size : Nat} {v : Value} {xs : List Value} (h : w.ownsRow base e size v n xs) (hG : G < base ∨ w.heap.size ≤ G) : v.ownBlock = none ∨ v.ownBlock ≠ some G := by
  cases hb : v.ownBlock with
  | none => exact .inl rfl
  | some k =>
    have h1 := h.lt k hb
    refine .inr (fun e => ?_)
    injection e with e
    omega
end Go.Proofs.Ytpkpahadjdkafaa
