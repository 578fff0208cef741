/- Contract: MatchBell, both. -/
import Derived.Test.YtimeecimaokldaaEE
import Derived.Test.YtimeecimaokldaaEL
namespace Go.Proofs.Ytimeecimaokldaa
open Go Go.RowKit
set_option linter.unusedVariables false
set_option linter.unusedSimpArgs false

/-- The bell of an asked matching can be matched. -/
def GoodI (b : Bt) (l : List ByteArray) (st : List (Int × Int)) (bell : Int) : Prop := (GoodB b ∧ GoodRs l ∧ GoodS (idL b 0 l)) ∧ GoodS st ∧ ∃ r, l[0]? = some r ∧ 1 ≤ bell ∧ bell ≤ (r.size : Int)
def GoodJ (b : Bt) (l : List ByteArray) (st : List (Int × Int)) (bell s : Int) : Prop := GoodI b l st bell ∧ GoodM (ofL (idL b 0 l) bell) (ofL st bell) s
/-- What MatchBell answers. -/
def MBPost (w : World) (b : Bt) (l : List ByteArray) (st : List (Int × Int)) (bell s : Int) (e : Ending) (w' : World) : Prop :=
  (GoodJ b l st bell s ∧ ∃ (A : Option Addr) (c : Nat), e = .returned (.tuple #[.agg #[.slice A (ofL (idL b 0 l) bell).length c, .int .i64 (prL s (ofL (idL b 0 l) bell) (ofL st bell))], .bool true]) ∧ w'.ownsRow w.heap.size 3 1 (.slice A (ofL (idL b 0 l) bell).length c) (ofL (idL b 0 l) bell).length ((matL s (ofL (idL b 0 l) bell) (ofL st bell) 0).map (Value.int .i64)) ∧ Below w.heap.size w w') ∨
  (¬ GoodJ b l st bell s ∧ e = .returned (.tuple #[.agg #[.slice none 0 0, .int .i64 0], .bool false]) ∧ Below w.heap.size w w')
theorem mb_no {w w' : World} {b : Bt} {l : List ByteArray} {st : List (Int × Int)} {bell s : Int} (h : ¬ GoodI b l st bell) (hb : Below w.heap.size w w') : MBPost w b l st bell s (.returned (.tuple #[.agg #[.slice none 0 0, .int .i64 0], .bool false])) w' :=
  .inr ⟨fun g => h g.1, rfl, hb⟩
theorem mb_go {w1 w2 w : World} {b : Bt} {l : List ByteArray} {st : List (Int × Int)} {bell s : Int} {e : Ending} (h : GoodI b l st bell) (hp : BMPost w1 (ofL (idL b 0 l) bell) (ofL st bell) s e w2) :
    ∃ (A : Option Addr) (n c : Nat) (P : Int) (ok : Bool), e = .returned (.tuple #[.agg #[.slice A n c, .int .i64 P], .bool ok]) ∧ Below w1.heap.size w1 w2 ∧
      (∀ w' : World, w.heap.size ≤ w1.heap.size → Below w.heap.size w w' → (∀ g, w1.heap.size ≤ g → w'.heap[g]? = w2.heap[g]?) → MBPost w b l st bell s (.returned (.tuple #[.agg #[.slice A n c, .int .i64 P], .bool ok])) w') := by
  rcases hp with ⟨hm, A, c, rfl, hown, hb⟩ | ⟨hm, rfl, hb⟩
  · exact ⟨A, _, c, _, true, rfl, hb, fun w' hz hbw hx => .inl ⟨⟨h, hm⟩, A, c, rfl, own_base (own_over hown hx) hz, hbw⟩⟩
  · exact ⟨none, 0, 0, 0, false, rfl, hb, fun w' hz hbw hx => .inr ⟨fun g => hm g.2, rfl, hbw⟩⟩
set_option maxRecDepth 20000 in
set_option maxHeartbeats 4000000 in
theorem MatchBell_any (b : Bt) (v u : Value) (l : List ByteArray) (st : List (Int × Int)) (bell s : Int) (w : World) (hv : Strs w v l) (hf : Fits l) (hu : Sks w u st) : Calls Try.prog 23 #[b.v, v, u, .int .i64 bell, .int .i64 s] w (MBPost w b l st bell s) := by
  have Hid1 := Lib.hid (fun W (hW : Below w.heap.size w W) => implIdeal_any b v l W (hv.to hW) hf)
  have Hgs := Lib.hid (fun W (hW : Below w.heap.size w W) => implGoodS_iff u st W (hu.to hW))
  have Hof := Lib.hid (fun W (hW : Below w.heap.size w W) hl => ofBell_any u st bell W (hu.to hW) hl)
  have Hof2 := Lib.hid (fun V L W (h : Sks W V L) hl => ofBell_any V L bell W h hl)
  have Hbm := Lib.hid (fun U V a c W (h1 : Ints W U a) (h2 : Ints W V c) => BestMatch_any U V a c s W h1 h2)
  have Hbl := Lib.hid (fun n W => isBellE_any n bell W)
  obtain ⟨A1, c1, rfl, h1, h2, hr⟩ := hv
  obtain ⟨A2, c2, rfl, _⟩ := hu
  unfold maxLen at h2
  have HR := Lib.hid hr
  clear hr
  unfold Bt.v at Hid1 ⊢
  go_enter Try.func23, Try.ntmps23
  go_wp2_with fail
  refine box2 (C := fun W => Calls _ _ _ W _) ?_
  intro wb hwb k1 k2 hB0
  have R1 := boxRule k1
  obtain ⟨tm, hX⟩ : ∃ t, Bx wb (w.heap.size + 1) (.slice none 0 0) (.int .i64 0) t := ⟨_, k2⟩
  have hz : w.heap.size + 1 < wb.heap.size := blkE k2
  clear k1 k2 hB0
  refine (Hid1.out _ hwb).mono ?_; rintro e w1 ⟨ok, L, A3, c3, rfl, hown, hb1, hi1, hL⟩
  have Hi1 := Lib.hid hi1
  have HL := Lib.hid hL
  have Hown := Lib.hid hown
  have hX1 := hX.to hb1 hz
  clear hi1 hL hown R1
  cases ok
  · have HN : Hid (¬ GoodI b l st bell) := Lib.hid (fun h => by have := Hi1.out.2 h.1; cases this)
    obtain ⟨⟨x0, x1⟩, f0, f1⟩ := hX1.facts
    have e0 := Lib.hid (hX1.set0 (.slice none 0 0)).facts.1.1
    have e1 := Lib.hid ((hX1.set0 (.slice none 0 0)).set1 (.int .i64 0)).facts.1.2
    have HB := Lib.hid (bw_to hwb hb1)
    clear hX hb1 hX1
    go_wp2_with fail
    refine bodyPost_ret (v := .tuple #[.agg #[.slice none 0 0, .int .i64 0], .bool false]) (by simp [results, go_sem, e0.out, e1.out]) rfl (mb_no HN.out (grow_set (grow_set HB.out (Nat.le_add_right _ 1) _) (Nat.le_add_right _ 1) _))
  have HG1 := Lib.hid (Hi1.out.1 rfl)
  have HL : Hid (L = idL b 0 l) := Lib.hid HL.out
  have hLs : L.length ≤ 2000 := by rw [HL.out]; exact HG1.out.2.2.1
  clear Hi1 hX1
  go_wp2_with fail
  refine (Hgs.out _ (bw_to hwb hb1)).mono ?_; rintro e w2 ⟨ok, rfl, hi2, hb22⟩
  have hb2 := bw_to hb1 hb22
  have Hi2 := Lib.hid hi2
  have hX2 := hX.to hb2 hz
  clear hi2
  cases ok
  · have HN : Hid (¬ GoodI b l st bell) := Lib.hid (fun h => by have := Hi2.out.2 h.2.1; cases this)
    obtain ⟨⟨x0, x1⟩, f0, f1⟩ := hX2.facts
    have e0 := Lib.hid (hX2.set0 (.slice none 0 0)).facts.1.1
    have e1 := Lib.hid ((hX2.set0 (.slice none 0 0)).set1 (.int .i64 0)).facts.1.2
    have HB := Lib.hid (bw_to hwb hb2)
    clear hX hb2 hX2
    go_wp2_with fail
    refine bodyPost_ret (v := .tuple #[.agg #[.slice none 0 0, .int .i64 0], .bool false]) (by simp [results, go_sem, e0.out, e1.out]) rfl (mb_no HN.out (grow_set (grow_set HB.out (Nat.le_add_right _ 1) _) (Nat.le_add_right _ 1) _))
  have HG2 := Lib.hid (Hi2.out.1 rfl)
  clear Hi2
  by_cases hl0 : l.length = 0
  · have HN : Hid (¬ GoodI b l st bell) := Lib.hid (fun h => by
      obtain ⟨r, h3, _⟩ := h.2.2
      rw [List.getElem?_eq_none (by omega)] at h3
      cases h3)
    have e9 : ((l.length : Int) == 0) = true := by simp; exact List.length_eq_zero_iff.mp hl0
    obtain ⟨⟨x0, x1⟩, f0, f1⟩ := hX2.facts
    have e0 := Lib.hid (hX2.set0 (.slice none 0 0)).facts.1.1
    have e1 := Lib.hid ((hX2.set0 (.slice none 0 0)).set1 (.int .i64 0)).facts.1.2
    have HB := Lib.hid (bw_to hwb hb2)
    clear hX hb2 hX2
    go_wp2_with fail
    refine bodyPost_ret (v := .tuple #[.agg #[.slice none 0 0, .int .i64 0], .bool false]) (by simp [results, go_sem, e0.out, e1.out]) rfl (mb_no HN.out (grow_set (grow_set HB.out (Nat.le_add_right _ 1) _) (Nat.le_add_right _ 1) _))
  have hl1 : 0 < l.length := by omega
  have e9 : ((l.length : Int) == 0) = false := by simp; intro h; subst h; exact hl0 rfl
  obtain ⟨ad, rfl, hC⟩ := strs_el HR.out hl1
  have q := hC w2 (bw_to hwb hb2)
  have q0 := q
  rw [add_zero'] at q0
  have Hr0 : Hid (l[0]? = some l[0]) := Lib.hid (List.getElem?_eq_getElem hl1)
  have hrs : l[0].size ≤ maxLen := hf _ (List.getElem_mem hl1)
  obtain ⟨r, hr⟩ : ∃ r, r = l[0] := ⟨_, rfl⟩
  rw [← hr] at q q0 Hr0 hrs
  have Hq := Lib.hid (fun W (hW : Below w2.heap.size w2 W) => (hC W (bw_to (bw_to hwb hb2) hW)))
  unfold maxLen at hrs
  clear hC hl0 hr
  by_cases hbl : 1 ≤ bell ∧ bell ≤ (r.size : Int)
  · have HG3 : Hid (GoodI b l st bell) := Lib.hid ⟨HG1.out, HG2.out, r, Hr0.out, hbl⟩
    have Hbl' := Lib.hid (Hbl.out (r.size : Int) w2)
    rw [decide_eq_true hbl] at Hbl'
    have Hows := Lib.hid (sks_of_own (own_to Hown.out hb22))
    clear hbl Hbl
    go_wp2_with (go_at_call 36; refine Hbl'.out.mono ?_; rintro e w3 ⟨rfl, rfl⟩)
    refine (Hof2.out _ _ _ Hows.out (by omega)).mono ?_; rintro e w4 ⟨A4, c4, rfl, hown4, hb4⟩
    have Hown4 := Lib.hid hown4
    have hb44 := bw_to hb2 hb4
    have hst := HG2.out.1
    clear hown4
    go_wp2_with fail
    refine (Hof.out _ (bw_to hwb hb44) (by omega)).mono ?_; rintro e w5 ⟨A5, c5, rfl, hown5, hb5⟩
    have Hbm' := Lib.hid (Hbm.out _ _ _ _ w5 (ints_of_own (own_to Hown4.out hb5)) (ints_of_own hown5))
    have hb55 := bw_to hb44 hb5
    rw [HL.out] at Hbm'
    rw [HL.out]
    clear hown5 Hbm
    go_wp2_with fail
    refine Hbm'.out.mono ?_; intro e w6 hp
    obtain ⟨A6, n6, c6, P6, ok6, rfl, hb6, hfin⟩ := mb_go (w := w) HG3.out hp
    have Hfin := Lib.hid hfin
    have hB6 := bw_to hb55 hb6
    have hX6 := hX.to hB6 hz
    have hz5 := hb55.size
    obtain ⟨⟨x0, x1⟩, f0, f1⟩ := hX6.facts
    have e0 := Lib.hid (hX6.set0 (.slice A6 n6 c6)).facts.1.1
    have e1 := Lib.hid ((hX6.set0 (.slice A6 n6 c6)).set1 (.int .i64 P6)).facts.1.2
    have HB := Lib.hid (bw_to hwb hB6)
    clear hp hfin hX6 hB6
    go_wp2_with fail
    refine bodyPost_ret (v := .tuple #[.agg #[.slice A6 n6 c6, .int .i64 P6], .bool ok6]) (by simp [results, go_sem, e0.out, e1.out]) rfl (Hfin.out _ (by omega) (grow_set (grow_set HB.out (Nat.le_add_right _ 1) _) (Nat.le_add_right _ 1) _) (fun g' hg' => ?_))
    rw [set_other (by omega), set_other (by omega)]
  · have HN : Hid (¬ GoodI b l st bell) := Lib.hid (fun h => by
      obtain ⟨r', h3, h4⟩ := h.2.2
      rw [Hr0.out] at h3
      injection h3 with h3
      subst h3
      exact hbl h4)
    have Hbl' := Lib.hid (Hbl.out (r.size : Int) w2)
    rw [decide_eq_false hbl] at Hbl'
    clear hbl Hbl
    obtain ⟨⟨x0, x1⟩, f0, f1⟩ := hX2.facts
    have e0 := Lib.hid (hX2.set0 (.slice none 0 0)).facts.1.1
    have e1 := Lib.hid ((hX2.set0 (.slice none 0 0)).set1 (.int .i64 0)).facts.1.2
    have HB := Lib.hid (bw_to hwb hb2)
    go_wp2_with (go_at_call 36; refine Hbl'.out.mono ?_; rintro e w3 ⟨rfl, rfl⟩)
    refine bodyPost_ret (v := .tuple #[.agg #[.slice none 0 0, .int .i64 0], .bool false]) (by simp [results, go_sem, e0.out, e1.out]) rfl (mb_no HN.out (grow_set (grow_set HB.out (Nat.le_add_right _ 1) _) (Nat.le_add_right _ 1) _))
set_option maxRecDepth 20000 in
set_option maxHeartbeats 4000000 in
theorem specMatchBell_any (b : Bt) (v u : Value) (l : List ByteArray) (st : List (Int × Int)) (bell s : Int) (w : World) (hv : Strs w v l) (hf : Fits l) (hu : Sks w u st) : Calls Try.prog 17 #[b.v, v, u, .int .i64 bell, .int .i64 s] w (MBPost w b l st bell s) := by
  have Hid1 := Lib.hid (fun W (hW : Below w.heap.size w W) => specIdeal_any b v l W (hv.to hW) hf)
  have Hgs := Lib.hid (fun W (hW : Below w.heap.size w W) => l21Good_iff u st W (hu.to hW))
  have Hof := Lib.hid (fun W (hW : Below w.heap.size w W) hl => l21Of_any u st bell W (hu.to hW) hl)
  have Hof2 := Lib.hid (fun V L W (h : Sks W V L) hl => l21Of_any V L bell W h hl)
  have Hbm := Lib.hid (fun U V a c W (h1 : Ints W U a) (h2 : Ints W V c) => specBestMatch_any U V a c s W h1 h2)
  have Hbl := Lib.hid (fun n W => l1In_any bell 1 n W)
  obtain ⟨A1, c1, rfl, h1, h2, hr⟩ := hv
  obtain ⟨A2, c2, rfl, _⟩ := hu
  unfold maxLen at h2
  have HR := Lib.hid hr
  clear hr
  unfold Bt.v at Hid1 ⊢
  go_enter Try.func17, Try.ntmps17
  go_wp2_with fail
  refine box2 (C := fun W => Calls _ _ _ W _) ?_
  intro wb hwb k1 k2 hB0
  have R1 := boxRule k1
  obtain ⟨tm, hX⟩ : ∃ t, Bx wb (w.heap.size + 1) (.slice none 0 0) (.int .i64 0) t := ⟨_, k2⟩
  have hz : w.heap.size + 1 < wb.heap.size := blkE k2
  clear k1 k2 hB0
  refine (Hid1.out _ hwb).mono ?_; rintro e w1 ⟨ok, L, A3, c3, rfl, hown, hb1, hi1, hL⟩
  have Hi1 := Lib.hid hi1
  have HL := Lib.hid hL
  have Hown := Lib.hid hown
  have hX1 := hX.to hb1 hz
  clear hi1 hL hown R1
  cases ok
  · have HN : Hid (¬ GoodI b l st bell) := Lib.hid (fun h => by have := Hi1.out.2 h.1; cases this)
    obtain ⟨⟨x0, x1⟩, f0, f1⟩ := hX1.facts
    have e0 := Lib.hid (hX1.set0 (.slice none 0 0)).facts.1.1
    have e1 := Lib.hid ((hX1.set0 (.slice none 0 0)).set1 (.int .i64 0)).facts.1.2
    have HB := Lib.hid (bw_to hwb hb1)
    clear hX hb1 hX1
    go_wp2_with fail
    refine bodyPost_ret (v := .tuple #[.agg #[.slice none 0 0, .int .i64 0], .bool false]) (by simp [results, go_sem, e0.out, e1.out]) rfl (mb_no HN.out (grow_set (grow_set HB.out (Nat.le_add_right _ 1) _) (Nat.le_add_right _ 1) _))
  have HG1 := Lib.hid (Hi1.out.1 rfl)
  have HL : Hid (L = idL b 0 l) := Lib.hid HL.out
  have hLs : L.length ≤ 2000 := by rw [HL.out]; exact HG1.out.2.2.1
  clear Hi1 hX1
  go_wp2_with fail
  refine (Hgs.out _ (bw_to hwb hb1)).mono ?_; rintro e w2 ⟨ok, rfl, hi2, hb22⟩
  have hb2 := bw_to hb1 hb22
  have Hi2 := Lib.hid hi2
  have hX2 := hX.to hb2 hz
  clear hi2
  cases ok
  · have HN : Hid (¬ GoodI b l st bell) := Lib.hid (fun h => by have := Hi2.out.2 h.2.1; cases this)
    obtain ⟨⟨x0, x1⟩, f0, f1⟩ := hX2.facts
    have e0 := Lib.hid (hX2.set0 (.slice none 0 0)).facts.1.1
    have e1 := Lib.hid ((hX2.set0 (.slice none 0 0)).set1 (.int .i64 0)).facts.1.2
    have HB := Lib.hid (bw_to hwb hb2)
    clear hX hb2 hX2
    go_wp2_with fail
    refine bodyPost_ret (v := .tuple #[.agg #[.slice none 0 0, .int .i64 0], .bool false]) (by simp [results, go_sem, e0.out, e1.out]) rfl (mb_no HN.out (grow_set (grow_set HB.out (Nat.le_add_right _ 1) _) (Nat.le_add_right _ 1) _))
  have HG2 := Lib.hid (Hi2.out.1 rfl)
  clear Hi2
  by_cases hl0 : l.length = 0
  · have HN : Hid (¬ GoodI b l st bell) := Lib.hid (fun h => by
      obtain ⟨r, h3, _⟩ := h.2.2
      rw [List.getElem?_eq_none (by omega)] at h3
      cases h3)
    have e9 : ((l.length : Int) == 0) = true := by simp; exact List.length_eq_zero_iff.mp hl0
    obtain ⟨⟨x0, x1⟩, f0, f1⟩ := hX2.facts
    have e0 := Lib.hid (hX2.set0 (.slice none 0 0)).facts.1.1
    have e1 := Lib.hid ((hX2.set0 (.slice none 0 0)).set1 (.int .i64 0)).facts.1.2
    have HB := Lib.hid (bw_to hwb hb2)
    clear hX hb2 hX2
    go_wp2_with fail
    refine bodyPost_ret (v := .tuple #[.agg #[.slice none 0 0, .int .i64 0], .bool false]) (by simp [results, go_sem, e0.out, e1.out]) rfl (mb_no HN.out (grow_set (grow_set HB.out (Nat.le_add_right _ 1) _) (Nat.le_add_right _ 1) _))
  have hl1 : 0 < l.length := by omega
  have e9 : ((l.length : Int) == 0) = false := by simp; intro h; subst h; exact hl0 rfl
  obtain ⟨ad, rfl, hC⟩ := strs_el HR.out hl1
  have q := hC w2 (bw_to hwb hb2)
  have q0 := q
  rw [add_zero'] at q0
  have Hr0 : Hid (l[0]? = some l[0]) := Lib.hid (List.getElem?_eq_getElem hl1)
  have hrs : l[0].size ≤ maxLen := hf _ (List.getElem_mem hl1)
  obtain ⟨r, hr⟩ : ∃ r, r = l[0] := ⟨_, rfl⟩
  rw [← hr] at q q0 Hr0 hrs
  have Hq := Lib.hid (fun W (hW : Below w2.heap.size w2 W) => (hC W (bw_to (bw_to hwb hb2) hW)))
  unfold maxLen at hrs
  clear hC hl0 hr
  by_cases hbl : 1 ≤ bell ∧ bell ≤ (r.size : Int)
  · have HG3 : Hid (GoodI b l st bell) := Lib.hid ⟨HG1.out, HG2.out, r, Hr0.out, hbl⟩
    have Hbl' := Lib.hid (Hbl.out (r.size : Int) w2)
    rw [decide_eq_true hbl] at Hbl'
    have Hows := Lib.hid (sks_of_own (own_to Hown.out hb22))
    clear hbl Hbl
    go_wp2_with (go_at_call 27; refine Hbl'.out.mono ?_; rintro e w3 ⟨rfl, rfl⟩)
    refine (Hof2.out _ _ _ Hows.out (by omega)).mono ?_; rintro e w4 ⟨A4, c4, rfl, hown4, hb4⟩
    have Hown4 := Lib.hid hown4
    have hb44 := bw_to hb2 hb4
    have hst := HG2.out.1
    clear hown4
    go_wp2_with fail
    refine (Hof.out _ (bw_to hwb hb44) (by omega)).mono ?_; rintro e w5 ⟨A5, c5, rfl, hown5, hb5⟩
    have Hbm' := Lib.hid (Hbm.out _ _ _ _ w5 (ints_of_own (own_to Hown4.out hb5)) (ints_of_own hown5))
    have hb55 := bw_to hb44 hb5
    rw [HL.out] at Hbm'
    rw [HL.out]
    clear hown5 Hbm
    go_wp2_with fail
    refine Hbm'.out.mono ?_; intro e w6 hp
    obtain ⟨A6, n6, c6, P6, ok6, rfl, hb6, hfin⟩ := mb_go (w := w) HG3.out hp
    have Hfin := Lib.hid hfin
    have hB6 := bw_to hb55 hb6
    have hX6 := hX.to hB6 hz
    have hz5 := hb55.size
    obtain ⟨⟨x0, x1⟩, f0, f1⟩ := hX6.facts
    have e0 := Lib.hid (hX6.set0 (.slice A6 n6 c6)).facts.1.1
    have e1 := Lib.hid ((hX6.set0 (.slice A6 n6 c6)).set1 (.int .i64 P6)).facts.1.2
    have HB := Lib.hid (bw_to hwb hB6)
    clear hp hfin hX6 hB6
    go_wp2_with fail
    refine bodyPost_ret (v := .tuple #[.agg #[.slice A6 n6 c6, .int .i64 P6], .bool ok6]) (by simp [results, go_sem, e0.out, e1.out]) rfl (Hfin.out _ (by omega) (grow_set (grow_set HB.out (Nat.le_add_right _ 1) _) (Nat.le_add_right _ 1) _) (fun g' hg' => ?_))
    rw [set_other (by omega), set_other (by omega)]
  · have HN : Hid (¬ GoodI b l st bell) := Lib.hid (fun h => by
      obtain ⟨r', h3, h4⟩ := h.2.2
      rw [Hr0.out] at h3
      injection h3 with h3
      subst h3
      exact hbl h4)
    have Hbl' := Lib.hid (Hbl.out (r.size : Int) w2)
    rw [decide_eq_false hbl] at Hbl'
    clear hbl Hbl
    obtain ⟨⟨x0, x1⟩, f0, f1⟩ := hX2.facts
    have e0 := Lib.hid (hX2.set0 (.slice none 0 0)).facts.1.1
    have e1 := Lib.hid ((hX2.set0 (.slice none 0 0)).set1 (.int .i64 0)).facts.1.2
    have HB := Lib.hid (bw_to hwb hb2)
    go_wp2_with (go_at_call 27; refine Hbl'.out.mono ?_; rintro e w3 ⟨rfl, rfl⟩)
    refine bodyPost_ret (v := .tuple #[.agg #[.slice none 0 0, .int .i64 0], .bool false]) (by simp [results, go_sem, e0.out, e1.out]) rfl (mb_no HN.out (grow_set (grow_set HB.out (Nat.le_add_right _ 1) _) (Nat.le_add_right _ 1) _))
end Go.Proofs.Ytimeecimaokldaa
