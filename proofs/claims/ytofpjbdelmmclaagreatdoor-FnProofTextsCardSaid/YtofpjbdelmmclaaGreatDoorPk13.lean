/- Sorting texts, no row occurs twice: the reference's. -/
import Derived.Test.YtofpjbdelmmclaaGreatDoorPk12
import Derived.Test.YtofpjbdelmmclaaGreatDoorPk11
namespace Go.Proofs.YtofpjbdelmmclaaGreatDoor
open Go Go.RowKit
set_option linter.unusedVariables false
set_option linter.unusedSimpArgs false

theorem strs_len {w : World} {A : Option Addr} {n c : Nat} {xs : List ByteArray} (h : Strs w (.slice A n c) xs) : xs.length = n := by
  obtain ⟨A', c', e, _⟩ := h
  injection e with _ e _
  exact e.symm
theorem strs_tail {w : World} {A : Option Addr} {p c : Nat} {x : ByteArray} {xs : List ByteArray} (h : Strs w (.slice A (p + 1) c) (x :: xs)) : ∃ ad, A = some ad ∧ 1 ≤ c ∧ c ≤ maxLen ∧ w.cell? ad = some (.string x) ∧ Strs w (.slice (if c = 1 then some ad else some (ad.add 1)) p (c - 1)) xs := by
  have hp := strs_len h
  obtain ⟨A', c', e, h1, h2, hr⟩ := h
  injection e with ea eb ec
  subst ea ec
  have hp' : p = xs.length := by simpa using hp.symm
  subst hp'
  have h1' : xs.length + 1 ≤ c := h1
  have hcut := Reads.cut hr (k := 1) (cap := c) (by simp) h1
  obtain ⟨ad, rfl, hb, hcell⟩ := hr.2 (by simp)
  have h0 := hcell 0 (.string x) (by simp)
  rw [add_zero'] at h0
  refine ⟨ad, rfl, by omega, h2, h0, _, c - 1, rfl, by omega, by omega, ?_⟩
  have e2 : (if c = 1 then some ad else some (ad.add 1)) = (if c = 1 then some ad else (some ad).map (·.add (1 * 1))) := by simp
  rw [e2]
  simpa using hcut
theorem merge_out {xs ys : List ByteArray} (h : xs = [] ∨ ys = []) : mergeW xs ys = xs ++ ys := by
  rcases h with rfl | rfl
  · simp [mergeW]
  · rw [merge_nil, List.append_nil]
set_option maxRecDepth 100000 in
set_option maxHeartbeats 8000000 in
theorem l6Sort_le : ∀ (N : Nat) (v : Value) (l : List ByteArray) (w : World), l.length ≤ N → N ≤ 1000000 → Strs w v l → NilOk v → Calls Tryz.prog 110 #[v] w fun e w' =>
    ∃ A q, e = .returned (.slice A l.length q) ∧ w'.ownsRow w.heap.size 9 1 (.slice A l.length q) l.length ((sortB l).map Value.string) ∧ Below w.heap.size w w' := by
  intro N
  induction N with
  | zero =>
    intro v l w hl hN hv hn
    have hl0 : l = [] := List.eq_nil_of_length_eq_zero (by omega)
    subst hl0
    have hs := Lib.hid (sortB_short (l := []) (by simp))
    go_enter Tryz.func110, Tryz.ntmps110
    go_wp2_with fail
    refine (l1OwnS_any v [] w hv hn (by simp)).mono ?_; rintro e w1 ⟨r, rfl, hown, hb1⟩
    obtain ⟨A, q, e', _⟩ := sl_of_own hown
    subst e'
    have Hown := Lib.hid hown
    clear hown
    go_wp2_with fail
    go_ret
    exact ⟨A, q, rfl, by rw [hs.out]; exact Hown.out, hb1⟩
  | succ N ih =>
    intro v l w hl hN hv hn
    by_cases hsh : l.length < 2
    · have hs := Lib.hid (sortB_short hsh)
      have Hv := Lib.hid (l1OwnS_any v l w hv hn (by omega))
      clear hv
      go_enter Tryz.func110, Tryz.ntmps110
      go_wp2_with fail
      refine Hv.out.mono ?_; rintro e w1 ⟨r, rfl, hown, hb1⟩
      obtain ⟨A, q, e', _⟩ := sl_of_own hown
      subst e'
      have Hown := Lib.hid hown
      clear hown
      go_wp2_with fail
      go_ret
      exact ⟨A, q, rfl, by rw [hs.out]; exact Hown.out, hb1⟩
    · have Hs := Lib.hid (sortB_long hsh)
      have Hv := Lib.hid (l1OwnS_any v l w hv hn (by omega))
      clear hv hn
      go_enter Tryz.func110, Tryz.ntmps110
      go_wp2_with fail
      refine Hv.out.mono ?_; rintro e w1 ⟨r, rfl, hown, hb1⟩
      have hS := strs_of_own hown
      obtain ⟨A, c, e', hc1, hc2, hrd⟩ := id hS
      subst e'
      obtain ⟨ad, hA, _⟩ := hrd.2 (by omega)
      subst hA
      obtain ⟨n, hn⟩ : ∃ n, n = l.length := ⟨_, rfl⟩
      obtain ⟨h, hh⟩ : ∃ h, h = n / 2 := ⟨_, rfl⟩
      have hh1 : 1 ≤ h := by omega
      have hh2 : h < n := by omega
      have hfrom := strs_from hS (k := h) (by omega)
      have hupto := strs_upto hS (k := h) (by omega)
      have e1 : (l.drop h).length = n - h := by rw [List.length_drop, hn]
      have e2 : (l.take h).length = h := by rw [List.length_take]; omega
      have Ha : Hid (∀ W, Below w1.heap.size w1 W → Calls Tryz.prog 110 #[.slice (some ad) h c] W fun e w' => ∃ A q, e = .returned (.slice A h q) ∧ w'.ownsRow W.heap.size 9 1 (.slice A h q) h ((sortB (l.take h)).map Value.string) ∧ Below W.heap.size W w') := Lib.hid fun W hW => by
        have := ih (.slice (some ad) h c) (l.take h) W (by omega) (by omega) (hupto.to hW) (nilok_some _ _ _)
        rw [e2] at this
        exact this
      have Hb : Hid (∀ W, Below w1.heap.size w1 W → Calls Tryz.prog 110 #[.slice (some (ad.add h)) (n - h) (c - h)] W fun e w' => ∃ A q, e = .returned (.slice A (n - h) q) ∧ w'.ownsRow W.heap.size 9 1 (.slice A (n - h) q) (n - h) ((sortB (l.drop h)).map Value.string) ∧ Below W.heap.size W w') := Lib.hid fun W hW => by
        have := ih (.slice (some (ad.add h)) (n - h) (c - h)) (l.drop h) W (by omega) (by omega) (by rw [hn]; exact hfrom.to hW) (nilok_some _ _ _)
        rw [e1] at this
        exact this
      rw [← hn] at Hs
      rw [← hh] at Hs
      have la : (sortB (l.take h)).length = h := by rw [sortB_len, e2]
      have lb : (sortB (l.drop h)).length = n - h := by rw [sortB_len, e1]
      obtain ⟨sa, hsa⟩ : ∃ s, s = sortB (l.take h) := ⟨_, rfl⟩
      obtain ⟨sb, hsb⟩ : ∃ s, s = sortB (l.drop h) := ⟨_, rfl⟩
      obtain ⟨S, hS'⟩ : ∃ s, s = sortB l := ⟨_, rfl⟩
      rw [← hsa] at Ha Hs la
      rw [← hsb] at Hb Hs lb
      rw [← hS'] at Hs
      have HS := Lib.hid hS'
      have Hla := Lib.hid la
      have Hlb := Lib.hid lb
      have Hn := Lib.hid hn
      unfold maxLen at hc2
      have hN2 : n ≤ 1000000 := by omega
      have hcn : n ≤ c := by omega
      have hnn : 2 ≤ n := by omega
      have hd : decide ((n : Int) < 2) = false := by simp; omega
      have hq1 : (n : Int) / 2 = (h : Int) := by omega
      have hq2 : (n : Int).tdiv 2 = (h : Int) := by rw [Int.tdiv_eq_ediv_of_nonneg (by omega)]; omega
      have hh3 : (h : Int) ≤ (n : Int) := by omega
      have hh4 : (h : Int) ≤ (c : Int) := by omega
      have hh5 : (0 : Int) ≤ (h : Int) := by omega
      have hch : ¬ c = h := by omega
      have hq3 : IntKind.i64.wrap (h : Int) = (h : Int) := IntWalk.i64_in _ ⟨by omega, by omega⟩
      rw [← hn]
      have hdr : Below w1.heap.size w1 w1.drew := Below.drew (Below.refl _ _)
      clear hown hS hrd hfrom hupto e1 e2 hsa hsb la lb hl hsh ih hN Hv hS' hn hh
      go_upto_region 4 with fail
      go_cut [4, 5] (fun s4 s5 wx => ∃ Aa qa Ab qb, s4 = .slice Aa h qa ∧ s5 = .slice Ab (n - h) qb ∧ Strs wx (.slice Aa h qa) sa ∧ Strs wx (.slice Ab (n - h) qb) sb ∧ NilOk (.slice Aa h qa) ∧ NilOk (.slice Ab (n - h) qb) ∧ Below w1.heap.size w1 wx)
      case first =>
        go_region_held3 (fun W => Below w1.heap.size w1 W) (first | with_reducible assumption | exact Below.drew (by assumption) | exact bw_to (by assumption) hb')
          (first | (go_at_call 110; (with_reducible refine (Ha.out _ (by assumption)).mono ?_); rintro e w' ⟨Aa, qa, rfl, hownA, hb'⟩; (have hrA := strs_of_own (by rw [Hla.out]; exact hownA)); (have hnA := nilok_own hownA); (try (have hrB := hrB.to hb'))) | (go_at_call 110; (with_reducible refine (Hb.out _ (by assumption)).mono ?_); rintro e w' ⟨Ab, qb, rfl, hownB, hb'⟩; (have hrB := strs_of_own (by rw [Hlb.out]; exact hownB)); (have hnB := nilok_own hownB); (try (have hrA := hrA.to hb'))))
        all_goals
          have hBB : Below w1.heap.size w1 w' := by assumption
          clear hownA hownB
          go_wp2_with fail
          go_meet
          exact ⟨Aa, qa, Ab, qb, rfl, rfl, hrA, hrB, hnA, hnB, hBB⟩
      case rest =>
        obtain ⟨Aa, qa, Ab, qb, rfl, rfl, hra, hrb, hna, hnb, hBw⟩ := hcut
        have Hm : Hid (mergeW sa sb = [] ++ mergeW sa sb) := Lib.hid rfl
        clear Ha Hb hq1 hq2 hq3 hdr hch hd
        go_wp2_with fail
        go_loopw [4, 5, 6] (fun a b o wr => ∃ (p q r : Nat) (xs ys zs : List ByteArray) (A1 : Option Addr) (c1 : Nat) (A2 : Option Addr) (c2 : Nat) (A3 : Option Addr) (c3 : Nat), a = .slice A1 p c1 ∧ b = .slice A2 q c2 ∧ o = .slice A3 r c3 ∧ Strs wc (.slice A1 p c1) xs ∧ Strs wc (.slice A2 q c2) ys ∧ NilOk (.slice A1 p c1) ∧ NilOk (.slice A2 q c2) ∧ mergeW sa sb = zs ++ mergeW xs ys ∧ wr.ownsRow wc.heap.size 9 1 (.slice A3 r c3) r (zs.map Value.string) ∧ p + q + r = n ∧ Below wc.heap.size wc wr) (fun a b _ _ => lenV a + lenV b)
        case atStart => exact ⟨h, n - h, 0, sa, sb, [], Aa, qa, Ab, qb, none, 0, rfl, rfl, rfl, hra, hrb, hna, hnb, rfl, World.ownsRow_nil _ _ _ _, by omega, Below.refl _ _⟩
        case round =>
          obtain ⟨p, q, r, xs, ys, zs, A1, c1, A2, c2, A3, c3, rfl, rfl, rfl, hx, hy, hnx, hny, hmg, hown, hlen, hB⟩ := hrel
          have hxl := strs_len hx
          have hyl := strs_len hy
          by_cases hp : p = 0
          · have hend : xs = [] ∨ ys = [] := .inl (List.eq_nil_of_length_eq_zero (by omega))
            have hd1 : decide ((0 : Int) < (p : Int)) = false := by simp; omega
            clear hxl hyl
            have Hmg : Hid (sortB l = zs ++ xs ++ ys) := Lib.hid (by rw [← HS.out, Hs.out, hmg, merge_out hend, List.append_assoc])
            clear hmg
            go_wp2_with (first | (at_builtin; refine wpList_app_sl _ rfl _ _ _ rfl wc.heap.size 9 _ 1 16 Tryz.underlying24 info_str rfl (by omega) hown rfl (hx.to hB) hnx rfl (strs_one _) (by omega) (by have := strs_len hx; omega) hB.size ?_; intro v2 w3 hown3 hb3 hg3 _; (have hy3 := hy.to (hB.trans hb3)); (have hsz3 := (hB.trans hb3).size)) | (at_builtin; refine wpList_app_sl _ rfl _ _ _ rfl wc.heap.size 9 _ 1 16 Tryz.underlying24 info_str rfl (by omega) hown3 rfl hy3 hny rfl (strs_one _) (by omega) (by have := strs_len hx; have := strs_len hy; omega) hsz3 ?_; intro v4 w4 hown4 hb4 hg4 _))
            have e4 : r + xs.length + ys.length = l.length := by rw [← Hn.out, ← hlen, strs_len hx, strs_len hy]; omega
            rw [e4, ← List.map_append, ← List.map_append, ← Hmg.out] at hown4
            obtain ⟨A5, q5, e5, _⟩ := sl_of_own hown4
            subst e5
            have Hown4 := Lib.hid hown4
            clear hown4 hown3
            go_wp2_with fail
            go_ret
            exact ⟨A5, q5, rfl, own_base Hown4.out (by have := hb1.size; have := hBw.size; omega), bw_to (bw_to hb1 hBw) ((hB.trans hb3).trans hb4)⟩
          · by_cases hq : q = 0
            · have hend : xs = [] ∨ ys = [] := .inr (List.eq_nil_of_length_eq_zero (by omega))
              subst hq
              obtain ⟨p, rfl⟩ : ∃ p', p = p' + 1 := ⟨p - 1, by omega⟩
              have hd1 : decide ((0 : Int) < (p : Int) + 1) = true := decide_eq_true (by omega)
              clear hxl hyl
              have Hmg : Hid (sortB l = zs ++ xs ++ ys) := Lib.hid (by rw [← HS.out, Hs.out, hmg, merge_out hend, List.append_assoc])
              clear hmg
              go_wp2_with (first | (at_builtin; refine wpList_app_sl _ rfl _ _ _ rfl wc.heap.size 9 _ 1 16 Tryz.underlying24 info_str rfl (by omega) hown rfl (hx.to hB) hnx rfl (strs_one _) (by omega) (by have := strs_len hx; omega) hB.size ?_; intro v2 w3 hown3 hb3 hg3 _; (have hy3 := hy.to (hB.trans hb3)); (have hsz3 := (hB.trans hb3).size)) | (at_builtin; refine wpList_app_sl _ rfl _ _ _ rfl wc.heap.size 9 _ 1 16 Tryz.underlying24 info_str rfl (by omega) hown3 rfl hy3 hny rfl (strs_one _) (by omega) (by have := strs_len hx; have := strs_len hy; omega) hsz3 ?_; intro v4 w4 hown4 hb4 hg4 _))
              have e4 : r + xs.length + ys.length = l.length := by rw [← Hn.out, ← hlen, strs_len hx, strs_len hy]; omega
              rw [e4, ← List.map_append, ← List.map_append, ← Hmg.out] at hown4
              obtain ⟨A5, q5, e5, _⟩ := sl_of_own hown4
              subst e5
              have Hown4 := Lib.hid hown4
              clear hown4 hown3
              go_wp2_with fail
              go_ret
              exact ⟨A5, q5, rfl, own_base Hown4.out (by have := hb1.size; have := hBw.size; omega), bw_to (bw_to hb1 hBw) ((hB.trans hb3).trans hb4)⟩
            · obtain ⟨x, xs, rfl⟩ : ∃ x t, xs = x :: t := List.exists_cons_of_length_pos (by omega)
              obtain ⟨y, ys, rfl⟩ : ∃ x t, ys = x :: t := List.exists_cons_of_length_pos (by omega)
              obtain ⟨p, rfl⟩ : ∃ p', p = p' + 1 := ⟨p - 1, by omega⟩
              obtain ⟨q, rfl⟩ : ∃ q', q = q' + 1 := ⟨q - 1, by omega⟩
              obtain ⟨a1, rfl, hc11, hc12, _, hxt⟩ := strs_tail hx
              obtain ⟨a1', ea1, _, _, hx0, _⟩ := strs_tail (hx.to hB)
              obtain rfl := Option.some.inj ea1
              obtain ⟨a2, rfl, hc21, hc22, _, hyt⟩ := strs_tail hy
              obtain ⟨a2', ea2, _, _, hy0, _⟩ := strs_tail (hy.to hB)
              obtain rfl := Option.some.inj ea2
              have ML := Lib.hid (fun h => merge_l (x := x) (y := y) (a := xs) (b := ys) h)
              have MR := Lib.hid (fun h => merge_r (x := x) (y := y) (a := xs) (b := ys) h)
              have hd1 : decide ((0 : Int) < (p : Int) + 1) = true := decide_eq_true (by omega)
              have hd2 : decide ((0 : Int) < (q : Int) + 1) = true := decide_eq_true (by omega)
              have Hmg := Lib.hid hmg
              clear hmg hxl hyl
              cases hb : nmLt y x
              · have Hmg2 : Hid (mergeW sa sb = (zs ++ [x]) ++ mergeW xs (y :: ys)) := Lib.hid (by rw [Hmg.out, MR.out hb, List.append_assoc]; rfl)
                have hb' : Op.bytesLess y.toList x.toList = false := hb
                clear Hmg ML MR hb
                by_cases hcc : c1 = 1
                · subst hcc
                  rw [if_pos rfl] at hxt
                  go_wp2_with fail
                  go_big_quiet (fail)
                  have hBe : Below wr.heap.size wr (wr.drewN nq) := bw_dr (Below.refl _ _) nq
                  obtain ⟨we, hwe⟩ : ∃ W, W = wr.drewN nq := ⟨_, rfl⟩
                  rw [← hwe] at hBe ⊢
                  have hownE := own_to hown hBe
                  have hBE := bw_to hB hBe
                  have hx0 : we.cell? a1 = some (.string x) := by obtain ⟨_, e, _, _, h, _⟩ := strs_tail (hx.to hBE); cases e; exact h
                  have hy0 : we.cell? a2 = some (.string y) := by obtain ⟨_, e, _, _, h, _⟩ := strs_tail (hy.to hBE); cases e; exact h
                  clear hwe hown
                  go_wp2_with (at_builtin; go_must (refine wpList_app _ rfl _ _ _ rfl wc.heap.size 9 _ 1 16 Tryz.underlying24 info_str rfl (by omega) hownE [.string x] rfl rfl rfl (one_mem rfl) (by omega) (by omega) hBE.size ?_); intro v2 w3 hown3 hb3 hg3 _)
                  obtain ⟨A4, q4, e4, _⟩ := sl_of_own hown3
                  subst e4
                  rw [str_snoc (rfl : zs ++ [x] = zs ++ [x])] at hown3
                  exact ⟨⟨p, q + 1, r + 1, xs, (y :: ys), zs ++ [x], _, _, _, c2, A4, q4, rfl, rfl, rfl, hxt, hy, nilok_some _ _ _, hny, Hmg2.out, hown3, by omega, hBE.trans hb3⟩, by simp [lenV] <;> omega⟩
                · rw [if_neg hcc] at hxt
                  go_wp2_with fail
                  go_big_quiet (fail)
                  have hBe : Below wr.heap.size wr (wr.drewN nq) := bw_dr (Below.refl _ _) nq
                  obtain ⟨we, hwe⟩ : ∃ W, W = wr.drewN nq := ⟨_, rfl⟩
                  rw [← hwe] at hBe ⊢
                  have hownE := own_to hown hBe
                  have hBE := bw_to hB hBe
                  have hx0 : we.cell? a1 = some (.string x) := by obtain ⟨_, e, _, _, h, _⟩ := strs_tail (hx.to hBE); cases e; exact h
                  have hy0 : we.cell? a2 = some (.string y) := by obtain ⟨_, e, _, _, h, _⟩ := strs_tail (hy.to hBE); cases e; exact h
                  clear hwe hown
                  go_wp2_with (at_builtin; go_must (refine wpList_app _ rfl _ _ _ rfl wc.heap.size 9 _ 1 16 Tryz.underlying24 info_str rfl (by omega) hownE [.string x] rfl rfl rfl (one_mem rfl) (by omega) (by omega) hBE.size ?_); intro v2 w3 hown3 hb3 hg3 _)
                  obtain ⟨A4, q4, e4, _⟩ := sl_of_own hown3
                  subst e4
                  rw [str_snoc (rfl : zs ++ [x] = zs ++ [x])] at hown3
                  exact ⟨⟨p, q + 1, r + 1, xs, (y :: ys), zs ++ [x], _, _, _, c2, A4, q4, rfl, rfl, rfl, hxt, hy, nilok_some _ _ _, hny, Hmg2.out, hown3, by omega, hBE.trans hb3⟩, by simp [lenV] <;> omega⟩
              · have Hmg2 : Hid (mergeW sa sb = (zs ++ [y]) ++ mergeW (x :: xs) ys) := Lib.hid (by rw [Hmg.out, ML.out hb, List.append_assoc]; rfl)
                have hb' : Op.bytesLess y.toList x.toList = true := hb
                clear Hmg ML MR hb
                by_cases hcc : c2 = 1
                · subst hcc
                  rw [if_pos rfl] at hyt
                  go_wp2_with fail
                  go_big_quiet (fail)
                  have hBe : Below wr.heap.size wr (wr.drewN nq) := bw_dr (Below.refl _ _) nq
                  obtain ⟨we, hwe⟩ : ∃ W, W = wr.drewN nq := ⟨_, rfl⟩
                  rw [← hwe] at hBe ⊢
                  have hownE := own_to hown hBe
                  have hBE := bw_to hB hBe
                  have hx0 : we.cell? a1 = some (.string x) := by obtain ⟨_, e, _, _, h, _⟩ := strs_tail (hx.to hBE); cases e; exact h
                  have hy0 : we.cell? a2 = some (.string y) := by obtain ⟨_, e, _, _, h, _⟩ := strs_tail (hy.to hBE); cases e; exact h
                  clear hwe hown
                  go_wp2_with (at_builtin; go_must (refine wpList_app _ rfl _ _ _ rfl wc.heap.size 9 _ 1 16 Tryz.underlying24 info_str rfl (by omega) hownE [.string y] rfl rfl rfl (one_mem rfl) (by omega) (by omega) hBE.size ?_); intro v2 w3 hown3 hb3 hg3 _)
                  obtain ⟨A4, q4, e4, _⟩ := sl_of_own hown3
                  subst e4
                  rw [str_snoc (rfl : zs ++ [y] = zs ++ [y])] at hown3
                  exact ⟨⟨p + 1, q, r + 1, (x :: xs), ys, zs ++ [y], _, c1, _, _, A4, q4, rfl, rfl, rfl, hx, hyt, hnx, nilok_some _ _ _, Hmg2.out, hown3, by omega, hBE.trans hb3⟩, by simp [lenV] <;> omega⟩
                · rw [if_neg hcc] at hyt
                  go_wp2_with fail
                  go_big_quiet (fail)
                  have hBe : Below wr.heap.size wr (wr.drewN nq) := bw_dr (Below.refl _ _) nq
                  obtain ⟨we, hwe⟩ : ∃ W, W = wr.drewN nq := ⟨_, rfl⟩
                  rw [← hwe] at hBe ⊢
                  have hownE := own_to hown hBe
                  have hBE := bw_to hB hBe
                  have hx0 : we.cell? a1 = some (.string x) := by obtain ⟨_, e, _, _, h, _⟩ := strs_tail (hx.to hBE); cases e; exact h
                  have hy0 : we.cell? a2 = some (.string y) := by obtain ⟨_, e, _, _, h, _⟩ := strs_tail (hy.to hBE); cases e; exact h
                  clear hwe hown
                  go_wp2_with (at_builtin; go_must (refine wpList_app _ rfl _ _ _ rfl wc.heap.size 9 _ 1 16 Tryz.underlying24 info_str rfl (by omega) hownE [.string y] rfl rfl rfl (one_mem rfl) (by omega) (by omega) hBE.size ?_); intro v2 w3 hown3 hb3 hg3 _)
                  obtain ⟨A4, q4, e4, _⟩ := sl_of_own hown3
                  subst e4
                  rw [str_snoc (rfl : zs ++ [y] = zs ++ [y])] at hown3
                  exact ⟨⟨p + 1, q, r + 1, (x :: xs), ys, zs ++ [y], _, c1, _, _, A4, q4, rfl, rfl, rfl, hx, hyt, hnx, nilok_some _ _ _, Hmg2.out, hown3, by omega, hBE.trans hb3⟩, by simp [lenV] <;> omega⟩
theorem l6Sort_any (v : Value) (l : List ByteArray) (w : World) (hl : l.length ≤ 1000000) (hv : Strs w v l) (hn : NilOk v) : Calls Tryz.prog 110 #[v] w fun e w' =>
    ∃ A q, e = .returned (.slice A l.length q) ∧ w'.ownsRow w.heap.size 9 1 (.slice A l.length q) l.length ((sortB l).map Value.string) ∧ Below w.heap.size w w' := l6Sort_le l.length v l w (Nat.le_refl _) hl hv hn
end Go.Proofs.YtofpjbdelmmclaaGreatDoor
