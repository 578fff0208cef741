/- Contract: the canonical form of a method (the program's). -/
import Derived.Test.YtenhnloljdfjhaaDoorPk14
import Derived.Test.YtenhnloljdfjhaaDoorPk6
namespace Go.Proofs.YtenhnloljdfjhaaDoor
open Go Go.RowKit
set_option linter.unusedVariables false
set_option linter.unusedSimpArgs false

def foldR (xs b : List ByteArray) (k : Nat) : List ByteArray := ((List.range k).map (rot xs)).foldl minS b
theorem foldR_succ (xs b : List ByteArray) (k : Nat) : foldR xs b (k + 1) = minS (foldR xs b k) (rot xs k) := by
  unfold foldR
  rw [List.range_succ, List.map_append, List.foldl_append]
  rfl
theorem foldR_len (xs b : List ByteArray) (h : xs.length = b.length) : ∀ k, (foldR xs b k).length = b.length
  | 0 => rfl
  | k + 1 => by
    rw [foldR_succ, min_len, foldR_len xs b h k]
    rw [rot_len, foldR_len xs b h k, h]
theorem norm_same (l : List ByteArray) : foldR l.reverse (foldR l l l.length) l.length = foldN l l.length := by
  have h : foldR l.reverse (foldR l l l.length) l.length = ((List.range l.length).map (rot l) ++ (List.range l.length).map (rot l.reverse)).foldl minS l := by
    rw [List.foldl_append]; rfl
  rw [h]
  unfold foldN
  refine min_same ?_ ?_ rfl ?_
  · intro c hc
    rcases List.mem_append.1 hc with hc | hc
    · obtain ⟨i, _, rfl⟩ := List.mem_map.1 hc; exact rot_len _ _
    · obtain ⟨i, _, rfl⟩ := List.mem_map.1 hc; rw [rot_len, List.length_reverse]
  · intro c hc
    obtain ⟨i, _, hc⟩ := List.mem_flatMap.1 hc
    simp only [List.mem_cons, List.not_mem_nil, or_false] at hc
    rcases hc with rfl | rfl
    · exact rot_len _ _
    · rw [rot_len, List.length_reverse]
  · intro x
    simp only [List.mem_cons, List.mem_append, List.mem_map, List.mem_flatMap, List.mem_range, List.not_mem_nil, or_false]
    constructor
    · rintro (h | ⟨i, h1, h2⟩ | ⟨i, h1, h2⟩)
      · exact .inl h
      · exact .inr ⟨i, h1, .inl h2.symm⟩
      · exact .inr ⟨i, h1, .inr h2.symm⟩
    · rintro (h | ⟨i, h1, h2 | h2⟩)
      · exact .inl h
      · exact .inr (.inl ⟨i, h1, h2.symm⟩)
      · exact .inr (.inr ⟨i, h1, h2.symm⟩)
end Go.Proofs.YtenhnloljdfjhaaDoor

/- Contracts: methods marked; the canonical form, both sides. -/
namespace Go.Proofs.YtenhnloljdfjhaaDoor
open Go Go.RowKit
set_option linter.unusedVariables false
set_option linter.unusedSimpArgs false

def marksT (k n : Nat) : List ByteArray := (List.range n).map fun i => mText (k + i)
theorem marksT_length (k n : Nat) : (marksT k n).length = n := by simp [marksT]
theorem marksT_get {k n i : Nat} (h : i < (marksT k n).length) : (marksT k n)[i] = mText (k + i) := by simp [marksT]
theorem marksT_succ (k n : Nat) : marksT k (n + 1) = marksT k n ++ [mText (k + n)] := by simp [marksT, List.range_succ]
set_option maxHeartbeats 1000000 in
theorem markStringS_any (v : Value) (n k0 : Nat) (cs : List Value) (base : Nat) (w : World) (h : w.ownsRow base 9 1 v n cs) (hn : n ≤ 1048576) (hk0 : k0 ≤ 100000000000000) : Calls Tryd.prog 22 #[v, .int .i64 k0] w fun e w' =>
    e = .returned (.int .i64 ((k0 + n : Nat) : Int)) ∧ w'.ownsRow base 9 1 v n ((marksT k0 n).map Value.string) ∧ w.grownBy w' v.ownBlock := by
  rcases h.2 with ⟨rfl, rfl⟩ | ⟨g, cap, cur, rfl, hbg, hh, hnc, hcm, _⟩
  · go_enter Tryd.func22, Tryd.ntmps22
    go_wp2_with fail
    go_loopw [1, 5] (fun q i wr => q = .int .i64 k0 ∧ i = .int .i64 0 ∧ wr = w) (fun _ _ _ => 0)
    case atStart => exact ⟨rfl, rfl, rfl⟩
    case round =>
      obtain ⟨rfl, rfl, rfl⟩ := hrel
      go_wp2_with fail
      go_ret
      exact ⟨rfl, World.ownsRow_nil _ _ _ _, gr_refl _ _⟩
  · unfold maxLen at hcm
    go_enter Tryd.func22, Tryd.ntmps22
    go_wp2_with fail
    go_loopw [1, 5] (fun q i wr => ∃ k : Nat, k ≤ n ∧ i = .int .i64 k ∧ q = .int .i64 ((k0 + k : Nat) : Int) ∧ (∃ ds, wr.ownsRow base 9 1 (.slice (some ⟨g, 0, none⟩) n cap) n ds ∧ ds.take k = (marksT k0 k).map Value.string) ∧ w.grownBy wr (some g)) (fun _ i _ => n - (intOf i).toNat)
    case atStart => exact ⟨0, by omega, rfl, rfl, ⟨_, h, rfl⟩, gr_refl _ _⟩
    case round =>
      obtain ⟨k, hk, rfl, rfl, ⟨ds, hown, hds⟩, hgr⟩ := hrel
      have Hds := Lib.hid hds
      clear hds
      by_cases hlt : k < n
      · go_wp2_with fail
        refine (markText_any (k0 + k) _ (by omega)).mono ?_; rintro e w2 ⟨rfl, hb2⟩
        have hown2 := own_to hown hb2
        have hgr2 := gr_below hgr hb2
        obtain ⟨y0, hy⟩ := own_some hown2 (j := k) (by omega)
        have hf := hown2.frozenAt k
        go_wp2_with fail
        refine ⟨⟨k + 1, by omega, by go_num, congrArg (Value.int .i64) (by omega), ⟨_, own_set hown2 _ _, ?_⟩, gr_set hgr2 _⟩, by simp [intOf]; omega⟩
        rw [take_set_last (by have := hown.1; omega), Hds.out, marksT_succ, List.map_append]
        simp
      · obtain rfl : k = n := by omega
        go_wp2_with fail
        go_ret
        refine ⟨rfl, ?_, hgr⟩
        have := Hds.out
        rw [List.take_of_length_le (by rw [hown.1]; omega)] at this
        rw [← this]
        exact hown
set_option maxHeartbeats 1000000 in
theorem heldStringS_any (v : Value) (n k0 : Nat) (w : World) (h : Strs w v (marksT k0 n)) (hn : n ≤ 1048576) (hk0 : k0 ≤ 100000000000000) : Calls Tryd.prog 23 #[v, .int .i64 k0] w fun e w' =>
    e = .returned (.int .i64 ((k0 + n : Nat) : Int)) ∧ Below w.heap.size w w' := by
  obtain ⟨A, c, hv, h1, h2, hr⟩ := h
  rw [marksT_length] at hv h1 hr
  subst hv
  unfold maxLen at h2
  go_enter Tryd.func23, Tryd.ntmps23
  go_wp2_with fail
  go_loopw [1, 5] (fun q i wr => ∃ k : Nat, k ≤ n ∧ i = .int .i64 k ∧ q = .int .i64 ((k0 + k : Nat) : Int) ∧ Below w.heap.size w wr) (fun _ i _ => n - (intOf i).toNat)
  case atStart => exact ⟨0, by omega, rfl, rfl, Below.refl _ _⟩
  case round =>
    obtain ⟨k, hk, rfl, rfl, hB⟩ := hrel
    by_cases hlt : k < n
    · obtain ⟨ad, rfl, hC⟩ := strs_el hr (k := k) (by rw [marksT_length]; exact hlt)
      rw [marksT_get] at hC
      have hq0 : (0 : Int) ≤ (k : Int) := by omega
      have hq1 : (k : Int) < (n : Int) := by omega
      go_wp2_with fail
      go_region_held3 (fun w' => Below w.heap.size w w') (first | exact Below.drew (by assumption) | exact bw_to (by assumption) hb')
        (first | (go_at_call 21; refine (markText_any (k0 + k) _ (by omega)).mono ?_; rintro e w' ⟨rfl, hb'⟩))
      go_wp2_with fail
      exact ⟨⟨k + 1, by omega, by go_num, congrArg (Value.int .i64) (by omega), by assumption⟩, by simp [intOf]; omega⟩
    · obtain rfl : k = n := by omega
      go_wp2_with fail
      go_ret
      exact ⟨rfl, hB⟩
/-- What NormalMethod answers. -/
def nM (m : Mt) : Mt := if methB m then ⟨m.name, m.stage, foldN m.l m.l.length⟩ else ⟨⟨#[]⟩, 0, []⟩
theorem nM_yes {m : Mt} (h : methB m = true) : nM m = ⟨m.name, m.stage, foldN m.l m.l.length⟩ := by unfold nM; rw [if_pos h]
theorem nM_no {m : Mt} (h : methB m = false) : nM m = ⟨⟨#[]⟩, 0, []⟩ := by unfold nM; rw [if_neg (by simp [h])]
theorem methB_len {m : Mt} (h : methB m = true) : 1 ≤ m.l.length ∧ m.l.length ≤ 40 := by unfold methB at h; simp at h; omega
end Go.Proofs.YtenhnloljdfjhaaDoor

/- Contracts: whether two methods are alike. -/
namespace Go.Proofs.YtenhnloljdfjhaaDoor
open Go Go.RowKit
set_option linter.unusedVariables false
set_option linter.unusedSimpArgs false

def alikeB (a b : Mt) : Bool := decide (a.stage = b.stage) && decide (foldN a.l a.l.length = foldN b.l b.l.length)
theorem alike_yes {a b : Mt} (h : a.stage = b.stage) : alikeB a b = decide (foldN a.l a.l.length = foldN b.l b.l.length) := by unfold alikeB; rw [decide_eq_true h, Bool.true_and]
theorem alike_no {a b : Mt} (h : ¬ a.stage = b.stage) : alikeB a b = false := by unfold alikeB; rw [decide_eq_false h, Bool.false_and]
/-- Field 2 of a method. -/
theorem field2 (w : World) (x y : Value) (A : Option Addr) (n c : Nat) : (Instr.field 34 (.agg #[x, y, .slice A n c]) 2).run Tryd.prog w = .ok (.slice A n c) w := by
  unfold Instr.field
  simp [go_sem, asAgg]
end Go.Proofs.YtenhnloljdfjhaaDoor

/- The law AlikeMethods, walked. -/
namespace Go.Proofs.YtenhnloljdfjhaaDoor
open Go Go.RowKit
set_option linter.unusedVariables false
set_option linter.unusedSimpArgs false

end Go.Proofs.YtenhnloljdfjhaaDoor

/- Contracts: the methods of a library that are alike to one. -/
namespace Go.Proofs.YtenhnloljdfjhaaDoor
open Go Go.RowKit
set_option linter.unusedVariables false
set_option linter.unusedSimpArgs false

/-- A library read by a call, no slice of changes without an array and with room. -/
def MethsN (w : World) (v : Value) (ms : List Mt) : Prop := ∃ vs : List Value, vs.length = ms.length ∧ Sl w 3 v ms.length ((ms.zip vs).flatMap mcells) ∧ ∀ p ∈ ms.zip vs, MethAt w p.1 p.2 ∧ NilOk p.2
theorem MethsN.meths {w : World} {v : Value} {ms : List Mt} (h : MethsN w v ms) : Meths w v ms :=
  let ⟨vs, h1, h2, h3⟩ := h; ⟨vs, h1, h2, fun p hp => (h3 p hp).1⟩
theorem MethsN.to {w w' : World} {v : Value} {ms : List Mt} (h : MethsN w v ms) (hb : Below w.heap.size w w') : MethsN w' v ms :=
  let ⟨vs, h1, h2, h3⟩ := h; ⟨vs, h1, h2.to hb, fun p hp => ⟨(h3 p hp).1.to hb, (h3 p hp).2⟩⟩
theorem OwnMeths.methsN {w : World} {base : Nat} {v : Value} {ms : List Mt} (h : OwnMeths w base v ms) (hs : AllSmall ms) : MethsN w v ms := by
  obtain ⟨vs, h1, h2, h3⟩ := h
  refine ⟨vs, h1, sl_of_own h2, fun p hp => ⟨⟨strs_of_own (h3 p hp), ?_, ?_⟩, nilok_own (h3 p hp)⟩⟩
  · exact Nat.le_trans (hs.2 p.1 (List.of_mem_zip hp).1).1 (by unfold maxLen; omega)
  · exact (hs.2 p.1 (List.of_mem_zip hp).1).2.fits
theorem lib_all {ms : List Mt} (h : libB ms = true) : ms.length ≤ 30 ∧ ∀ x ∈ ms, methB x = true := by
  unfold libB at h
  rw [Bool.and_eq_true, decide_eq_true_eq, List.all_eq_true] at h
  refine ⟨h.1, fun x hx => ?_⟩
  obtain ⟨k, hk, rfl⟩ := List.getElem_of_mem hx
  have := h.2 k (List.mem_range.2 hk)
  unfold okAt at this
  rw [Bool.and_eq_true, List.getD_eq_getElem?_getD, List.getElem?_eq_getElem hk] at this
  exact this.1
def alAt (ms : List Mt) (m : Mt) (i : Nat) : Bool := match ms[i]? with
  | some x => alikeB x m
  | none => false
def findTo (ms : List Mt) (m : Mt) (k : Nat) : List Int := ((List.range k).filter (alAt ms m)).map fun (i : Nat) => (i : Int)
theorem findTo_yes {ms : List Mt} {m : Mt} {k : Nat} (h : alAt ms m k = true) : findTo ms m (k + 1) = findTo ms m k ++ [(k : Int)] := by
  unfold findTo; rw [List.range_succ, List.filter_append, List.map_append]; simp [h]
theorem findTo_no {ms : List Mt} {m : Mt} {k : Nat} (h : alAt ms m k = false) : findTo ms m (k + 1) = findTo ms m k := by
  unfold findTo; rw [List.range_succ, List.filter_append, List.map_append]; simp [h]
theorem findTo_len (ms : List Mt) (m : Mt) (k : Nat) : (findTo ms m k).length ≤ k := by
  unfold findTo
  rw [List.length_map]
  exact Nat.le_trans (List.length_filter_le _ _) (by simp)
def findL (ms : List Mt) (m : Mt) : List Int := if libB ms && methB m then findTo ms m ms.length else []
theorem findL_yes {ms : List Mt} {m : Mt} (h : libB ms = true) (h' : methB m = true) : findL ms m = findTo ms m ms.length := by unfold findL; rw [h, h']; rfl
theorem findL_no1 {ms : List Mt} {m : Mt} (h : libB ms = false) : findL ms m = [] := by unfold findL; rw [h]; rfl
theorem findL_no2 {ms : List Mt} {m : Mt} (h : methB m = false) : findL ms m = [] := by unfold findL; rw [h, Bool.and_false]; rfl
theorem findL_len (ms : List Mt) (m : Mt) : (findL ms m).length ≤ ms.length := by
  unfold findL
  split
  · exact findTo_len _ _ _
  · simp
end Go.Proofs.YtenhnloljdfjhaaDoor
