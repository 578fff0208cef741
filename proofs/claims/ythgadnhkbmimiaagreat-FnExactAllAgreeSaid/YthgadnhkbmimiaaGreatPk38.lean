/- ItemOf on both sides, and its law. -/
import Derived.Test.YthgadnhkbmimiaaGreatPk23
import Derived.Test.YthgadnhkbmimiaaGreatPk2
import Derived.Test.YthgadnhkbmimiaaGreatPk36
import Derived.Test.YthgadnhkbmimiaaGreatPk37
namespace Go.Proofs.YthgadnhkbmimiaaGreat
open Go Go.RowKit
set_option linter.unusedVariables false
set_option linter.unusedSimpArgs false

set_option maxHeartbeats 1000000 in
theorem szCalls_any (k : Cl) (k0 : Int) (w : World) (h : ClFit k) (h0 : 0 ≤ k0) (hk0 : k0 ≤ 1048576) : Calls Tryz.prog 9 #[k.v, .int .i64 k0] w fun e w' =>
    ∃ r : Int, e = .returned (.int .i64 r) ∧ -1 ≤ r ∧ r ≤ 1048576 ∧ (0 ≤ r → ClSmall k) ∧ Below w.heap.size w w' := by
  unfold Cl.v
  have h1 := h.1
  have h2 := h.2
  unfold maxLen at h1 h2
  clear h
  go_enter Tryz.func9, Tryz.ntmps9
  go_wp2_with fail
  · go_ret
    exact ⟨_, rfl, by omega, by omega, fun h => absurd h (by omega), bw_al (Below.refl _ _) _⟩
  · go_ret
    exact ⟨_, rfl, by omega, by omega, fun h => absurd h (by omega), bw_al (Below.refl _ _) _⟩
  · go_ret
    exact ⟨_, rfl, by omega, by omega, fun h => ⟨by omega, by omega⟩, bw_al (Below.refl _ _) _⟩
set_option maxHeartbeats 1000000 in
theorem toCalls_any (k : Cl) (w : World) : Calls Tryz.prog 12 #[k.v] w fun e w' => e = .returned k.v ∧ Below w.heap.size w w' := by
  unfold Cl.v
  go_enter Tryz.func12, Tryz.ntmps12
  go_wp2_with fail
  refine bodyPost_ret (v := .agg #[.string k.bob, .string k.single]) (by simp [results, go_sem]) rfl ⟨rfl, ?_⟩
  exact bw_al (bw_al (bw_al (Below.refl _ _) _) _) _
end Go.Proofs.YthgadnhkbmimiaaGreat

/- Rows of texts that a law marks; a method's own row. -/
namespace Go.Proofs.YthgadnhkbmimiaaGreat
open Go Go.RowKit
set_option linter.unusedVariables false
set_option linter.unusedSimpArgs false

def OwnS (w : World) (base : Nat) (v : Value) (L : List ByteArray) : Prop := w.ownsRow base 9 1 v L.length (L.map Value.string)
def FitS (L : List ByteArray) : Prop := L.length ≤ 16777216
def mkS (L : List ByteArray) : List ByteArray := marksT 1 L.length
def endS (L : List ByteArray) : Nat := 1 + L.length
theorem OwnS.to {w w' : World} {base : Nat} {v : Value} {L : List ByteArray} (h : OwnS w base v L) (hb : Below w.heap.size w w') : OwnS w' base v L := own_to (by unfold OwnS at h; exact h) hb
theorem OwnS.base {w : World} {base b2 : Nat} {v : Value} {L : List ByteArray} (h : OwnS w base v L) (hb : b2 ≤ base) : OwnS w b2 v L := own_base (by unfold OwnS at h; exact h) hb
theorem OwnS.kept {w w' : World} {base : Nat} {row : Option Nat} {v : Value} {L : List ByteArray} (h : OwnS w base v L) (hg : w.grownBy w' row) (hr : ∀ k, row = some k → k < base) : OwnS w' base v L := by
  unfold OwnS at *
  refine World.ownsRow.kept h hg ?_
  cases hb : v.ownBlock with
  | none => exact .inl rfl
  | some b => exact .inr fun e => by have := hr b e.symm; have := h.lt b hb; omega
/-- A row that lies below a bound. -/
def LowS (w : World) (B base : Nat) (v : Value) (L : List ByteArray) : Prop := OwnS w base v L ∧ ∀ k, v.ownBlock = some k → k < B
theorem LowS.of {w : World} {base : Nat} {v : Value} {L : List ByteArray} (h : OwnS w base v L) : LowS w w.heap.size base v L := ⟨h, fun k hk => (World.ownsRow.lt (by unfold OwnS at h; exact h) k hk).2⟩
theorem LowS.to {w w' : World} {B base : Nat} {v : Value} {L : List ByteArray} (h : LowS w B base v L) (hb : Below w.heap.size w w') : LowS w' B base v L := ⟨h.1.to hb, h.2⟩
theorem LowS.low {w w' : World} {B B2 base : Nat} {v : Value} {L : List ByteArray} (h : LowS w B base v L) (hb : Below B2 w w') (hB : B ≤ B2) : LowS w' B base v L :=
  ⟨own_low (by have := h.1; unfold OwnS at this; exact this) hb (fun k hk => Nat.lt_of_lt_of_le (h.2 k hk) hB), h.2⟩
theorem LowS.own {w : World} {B base : Nat} {v : Value} {L : List ByteArray} (h : LowS w B base v L) : OwnS w base v L := h.1
theorem OwnS.row {w w' : World} {base : Nat} {v : Value} {L : List ByteArray} (h : OwnS w base v L) {w0 : World} {M : List ByteArray} (h0 : OwnS w0 base v M) (hbw : base ≤ w.heap.size) (hg : w.grownBy w' v.ownBlock) : Below base w w' := (Below.refl _ _).grown hg hbw (fun k hk => (World.ownsRow.lt (by unfold OwnS at h0; exact h0) k hk).1)
theorem OwnS.lt {w : World} {base : Nat} {v : Value} {L : List ByteArray} (h : OwnS w base v L) : ∀ k, v.ownBlock = some k → base ≤ k ∧ k < w.heap.size := World.ownsRow.lt (by unfold OwnS at h; exact h)
theorem OwnS.strs {w : World} {base : Nat} {v : Value} {L : List ByteArray} (h : OwnS w base v L) : Strs w v L := strs_of_own (by unfold OwnS at h; exact h)
theorem OwnS.nilok {w : World} {base : Nat} {v : Value} {L : List ByteArray} (h : OwnS w base v L) : NilOk v := nilok_own (by unfold OwnS at h; exact h)
theorem eqS_ok {w : World} {b b2 : Nat} {v v2 : Value} {L : List ByteArray} (h : OwnS w b v L) (h2 : OwnS w b2 v2 L) : Calls Tryz.prog 25 #[v, v2] w fun e w' => e = .returned (.bool true) ∧ Below w.heap.size w w' := eqStringS_same _ _ L _ h.strs h2.strs
theorem markS_ok {w : World} {base : Nat} {v : Value} {L : List ByteArray} (h : OwnS w base v L) (hf : FitS L) (hb : base ≤ w.heap.size) : Calls Tryz.prog 26 #[v, .int .i64 1] w fun e w' => e = .returned (.int .i64 (endS L : Nat)) ∧ OwnS w' base v (mkS L) ∧ Below base w w' := by
  unfold FitS at hf
  unfold OwnS at h
  refine (markStringS_any v L.length 1 _ base w h (by omega) (by omega)).mono ?_
  rintro e w' ⟨rfl, h2, hg⟩
  refine ⟨rfl, ?_, (Below.refl _ _).grown hg hb (fun k hk => (h.lt k hk).1)⟩
  unfold OwnS mkS
  rw [marksT_length]
  exact h2
theorem heldS_ok {w : World} {base : Nat} {v : Value} {L : List ByteArray} (h : OwnS w base v (mkS L)) (hf : FitS L) : Calls Tryz.prog 27 #[v, .int .i64 1] w fun e w' => e = .returned (.int .i64 (endS L : Nat)) ∧ Below w.heap.size w w' := by
  unfold FitS at hf
  exact heldStringS_any v L.length 1 w h.strs (by omega) (by omega)
theorem toMethod_agP (m : Mt) (v : Value) (w : World) (h1 : MethAt w m v) (hs : MtSmall m) : Calls Tryz.prog 11 #[.agg #[.string m.name, .int .i64 m.stage, v]] w fun e w' => ∃ A c, e = .returned (.agg #[.string m.name, .int .i64 m.stage, .slice A m.l.length c]) ∧ w'.ownsRow w.heap.size 9 1 (.slice A m.l.length c) m.l.length (m.l.map Value.string) ∧ MethAt w' m (.slice A m.l.length c) ∧ Below w.heap.size w w' := by
  refine (toMethod_any m v w h1 hs).mono fun e w' ⟨r, e1, h3, h4⟩ => ?_
  obtain ⟨A, c, hr, _⟩ := sl_of_own h3
  subst hr
  exact ⟨A, c, e1, h3, ⟨strs_of_own h3, h1.2⟩, h4⟩
end Go.Proofs.YthgadnhkbmimiaaGreat

/- Marks of a row of truths; one shape with the rows of texts. -/
namespace Go.Proofs.YthgadnhkbmimiaaGreat
open Go Go.RowKit
set_option linter.unusedVariables false
set_option linter.unusedSimpArgs false

def marksB (k n : Nat) : List Bool := (List.range n).map fun i => decide ((k + i) % 3 = 0)
theorem marksB_length (k n : Nat) : (marksB k n).length = n := by simp [marksB]
theorem marksB_get {k n i : Nat} (h : i < (marksB k n).length) : (marksB k n)[i] = decide ((k + i) % 3 = 0) := by simp [marksB]
theorem marksB_succ (k n : Nat) : marksB k (n + 1) = marksB k n ++ [decide ((k + n) % 3 = 0)] := by simp [marksB, List.range_succ]
theorem mod3 (k : Nat) : (((k : Int)) % 3 == 0) = decide (k % 3 = 0) := by rw [Bool.eq_iff_iff]; simp; omega
theorem mod3' (k : Nat) : (((k : Int)).tmod 3 == 0) = decide (k % 3 = 0) := by rw [Int.tmod_eq_emod_of_nonneg (by omega)]; exact mod3 k
theorem tmod3 (k : Nat) : ((k : Int)).tmod 3 = ((k % 3 : Nat) : Int) := by rw [Int.tmod_eq_emod_of_nonneg (by omega)]; simp
set_option maxHeartbeats 1000000 in
theorem eqBoolS_same (v v2 : Value) (L : List Bool) (b b2 : Nat) (w : World) (h : w.ownsRow b 4 1 v L.length (L.map Value.bool)) (h2 : w.ownsRow b2 4 1 v2 L.length (L.map Value.bool)) : Calls Tryz.prog 17 #[v, v2] w fun e w' => e = .returned (.bool true) ∧ Below w.heap.size w w' := by
  obtain ⟨A, c, rfl, h3, h4, hr⟩ := sl_of_own h
  obtain ⟨A2, c2, rfl, h5, h6, hr2⟩ := sl_of_own h2
  unfold maxLen at h4 h6
  clear h h2
  go_enter Tryz.func17, Tryz.ntmps17
  go_wp2_with fail
  go_loopw [5] (fun i wr => ∃ k : Nat, k ≤ L.length ∧ i = .int .i64 k ∧ Below w.heap.size w wr) (fun i _ => L.length - (intOf i).toNat)
  case atStart => exact ⟨0, by omega, rfl, Below.refl _ _⟩
  case round =>
    obtain ⟨k, hk, rfl, hB⟩ := hrel
    by_cases hlt : k < L.length
    · obtain ⟨ad, u, rfl, hbk, hu, hc⟩ := hr.at_ hlt
      obtain ⟨ad2, u2, rfl, hbk2, hu2, hc2⟩ := hr2.at_ hlt
      rw [List.getElem?_map, List.getElem?_eq_getElem hlt, Option.map_some] at hu hu2
      cases hu
      cases hu2
      rw [← hB.cell (by rw [block_of_add]; exact hbk)] at hc
      rw [← hB.cell (by rw [block_of_add]; exact hbk2)] at hc2
      obtain ⟨x, hx⟩ : ∃ x, x = L[k] := ⟨_, rfl⟩
      rw [← hx] at hc hc2
      have hkI : (k : Int) < (L.length : Int) := by omega
      clear hx hr hr2
      cases x
      · go_wp2_with fail
        go_big_quiet (fail)
        go_wp2_with fail
        exact ⟨⟨k + 1, by omega, by go_num, bw_dr hB _⟩, by simp [intOf]; omega⟩
      · go_wp2_with fail
        go_big_quiet (fail)
        go_wp2_with fail
        exact ⟨⟨k + 1, by omega, by go_num, bw_dr hB _⟩, by simp [intOf]; omega⟩
    · obtain rfl : k = L.length := by omega
      clear hr hr2
      go_wp2_with fail
      go_ret
      exact ⟨rfl, hB⟩
set_option maxHeartbeats 1000000 in
theorem markBoolS_any (v : Value) (n k0 : Nat) (cs : List Value) (base : Nat) (w : World) (h : w.ownsRow base 4 1 v n cs) (hn : n ≤ 1000000) (hk0 : k0 ≤ 1000000) : Calls Tryz.prog 19 #[v, .int .i64 k0] w fun e w' =>
    e = .returned (.int .i64 ((k0 + n : Nat) : Int)) ∧ w'.ownsRow base 4 1 v n ((marksB k0 n).map Value.bool) ∧ w.grownBy w' v.ownBlock := by
  rcases h.2 with ⟨rfl, rfl⟩ | ⟨g, cap, cur, rfl, hbg, hh, hnc, hcm, _⟩
  · go_enter Tryz.func19, Tryz.ntmps19
    go_wp2_with fail
    go_loopw [1, 5] (fun q i wr => q = .int .i64 k0 ∧ i = .int .i64 0 ∧ wr = w) (fun _ _ _ => 0)
    case atStart => exact ⟨rfl, rfl, rfl⟩
    case round =>
      obtain ⟨rfl, rfl, rfl⟩ := hrel
      go_wp2_with fail
      go_ret
      exact ⟨rfl, World.ownsRow_nil _ _ _ _, gr_refl _ _⟩
  · unfold maxLen at hcm
    go_enter Tryz.func19, Tryz.ntmps19
    go_wp2_with fail
    go_loopw [1, 5] (fun q i wr => ∃ k : Nat, k ≤ n ∧ i = .int .i64 k ∧ q = .int .i64 ((k0 + k : Nat) : Int) ∧ (∃ ds, wr.ownsRow base 4 1 (.slice (some ⟨g, 0, none⟩) n cap) n ds ∧ ds.take k = (marksB k0 k).map Value.bool) ∧ w.grownBy wr (some g)) (fun _ i _ => n - (intOf i).toNat)
    case atStart => exact ⟨0, by omega, rfl, rfl, ⟨_, h, rfl⟩, gr_refl _ _⟩
    case round =>
      obtain ⟨k, hk, rfl, rfl, ⟨ds, hown, hds⟩, hgr⟩ := hrel
      have Hds := Lib.hid hds
      clear hds
      by_cases hlt : k < n
      · obtain ⟨y0, hy⟩ := own_some hown (j := k) (by omega)
        have hf := hown.frozenAt k
        obtain ⟨K, hK⟩ : ∃ K, K = k0 + k := ⟨_, rfl⟩
        have HK := Lib.hid hK
        rw [← hK]
        have hm := tmod3 K
        have hw0 : IntKind.i64.wrap ((K % 3 : Nat) : Int) = ((K % 3 : Nat) : Int) := IntWalk.i64_in _ ⟨by omega, by omega⟩
        obtain ⟨r, hr⟩ : ∃ r, r = K % 3 := ⟨_, rfl⟩
        rw [← hr] at hm hw0
        have Hr := Lib.hid hr
        have hK2 : K ≤ 2000000 := by omega
        clear hr hK
        by_cases h0 : r = 0
        · subst h0
          go_wp2_with fail
          refine ⟨⟨k + 1, by omega, by go_num, congrArg (Value.int .i64) (by have := HK.out; omega), ⟨_, own_set hown _ _, ?_⟩, gr_set hgr _⟩, by simp [intOf]; omega⟩
          rw [take_set_last (by have := hown.1; omega), Hds.out, marksB_succ, List.map_append, ← HK.out, ← Hr.out]
          rfl
        · have hd : ((r : Int) == 0) = false := by simp; omega
          go_wp2_with fail
          refine ⟨⟨k + 1, by omega, by go_num, congrArg (Value.int .i64) (by have := HK.out; omega), ⟨_, own_set hown _ _, ?_⟩, gr_set hgr _⟩, by simp [intOf]; omega⟩
          rw [take_set_last (by have := hown.1; omega), Hds.out, marksB_succ, List.map_append, ← HK.out, ← Hr.out, decide_eq_false h0]
          rfl
      · obtain rfl : k = n := by omega
        go_wp2_with fail
        go_ret
        refine ⟨rfl, ?_, hgr⟩
        have := Hds.out
        rw [List.take_of_length_le (by rw [hown.1]; omega)] at this
        rw [← this]
        exact hown
set_option maxHeartbeats 1000000 in
theorem heldBoolS_any (v : Value) (n k0 base : Nat) (w : World) (h : w.ownsRow base 4 1 v n ((marksB k0 n).map Value.bool)) (hn : n ≤ 1000000) (hk0 : k0 ≤ 1000000) : Calls Tryz.prog 20 #[v, .int .i64 k0] w fun e w' =>
    e = .returned (.int .i64 ((k0 + n : Nat) : Int)) ∧ Below w.heap.size w w' := by
  obtain ⟨A, c, rfl, h3, h4, hr⟩ := sl_of_own h
  unfold maxLen at h4
  clear h
  go_enter Tryz.func20, Tryz.ntmps20
  go_wp2_with fail
  go_loopw [1, 5] (fun q i wr => ∃ k : Nat, k ≤ n ∧ i = .int .i64 k ∧ q = .int .i64 ((k0 + k : Nat) : Int) ∧ Below w.heap.size w wr) (fun _ i _ => n - (intOf i).toNat)
  case atStart => exact ⟨0, by omega, rfl, rfl, Below.refl _ _⟩
  case round =>
    obtain ⟨k, hk, rfl, rfl, hB⟩ := hrel
    by_cases hlt : k < n
    · obtain ⟨ad, u, rfl, hbk, hu, hc⟩ := hr.at_ hlt
      have hl : k < (marksB k0 n).length := by rw [marksB_length]; exact hlt
      rw [List.getElem?_map, List.getElem?_eq_getElem hl, Option.map_some, marksB_get] at hu
      cases hu
      have hc2 := hc
      rw [← hB.cell (by rw [block_of_add]; exact hbk)] at hc2
      obtain ⟨K, hK⟩ : ∃ K, K = k0 + k := ⟨_, rfl⟩
      have HK := Lib.hid hK
      rw [← hK] at hc2 ⊢
      have hm := tmod3 K
      have hw0 : IntKind.i64.wrap ((K % 3 : Nat) : Int) = ((K % 3 : Nat) : Int) := IntWalk.i64_in _ ⟨by omega, by omega⟩
      obtain ⟨r, hr'⟩ : ∃ r, r = K % 3 := ⟨_, rfl⟩
      rw [← hr'] at hm hw0 hc2
      have hK2 : K ≤ 2000000 := by omega
      clear hr' hK hc hr
      by_cases h0 : r = 0
      · subst h0
        rw [decide_eq_true rfl] at hc2
        go_wp2_with fail
        exact ⟨⟨k + 1, by omega, by go_num, congrArg (Value.int .i64) (by have := HK.out; omega), by first | exact hB | exact hB.drew | exact bw_dr hB _⟩, by simp [intOf]; omega⟩
      · have hd : ((r : Int) == 0) = false := by simp; omega
        rw [decide_eq_false h0] at hc2
        go_wp2_with fail
        exact ⟨⟨k + 1, by omega, by go_num, congrArg (Value.int .i64) (by have := HK.out; omega), by first | exact hB | exact hB.drew | exact bw_dr hB _⟩, by simp [intOf]; omega⟩
    · obtain rfl : k = n := by omega
      clear hr
      go_wp2_with fail
      go_ret
      exact ⟨rfl, hB⟩
def OwnBo (w : World) (base : Nat) (v : Value) (L : List Bool) : Prop := w.ownsRow base 4 1 v L.length (L.map Value.bool)
def FitBo (L : List Bool) : Prop := L.length ≤ 1000
def mkBo (L : List Bool) : List Bool := marksB 1 L.length
def endBo (L : List Bool) : Nat := 1 + L.length
theorem OwnBo.to {w w' : World} {base : Nat} {v : Value} {L : List Bool} (h : OwnBo w base v L) (hb : Below w.heap.size w w') : OwnBo w' base v L := own_to (by unfold OwnBo at h; exact h) hb
theorem OwnBo.base {w : World} {base b2 : Nat} {v : Value} {L : List Bool} (h : OwnBo w base v L) (hb : b2 ≤ base) : OwnBo w b2 v L := own_base (by unfold OwnBo at h; exact h) hb
theorem OwnBo.kept {w w' : World} {base : Nat} {row : Option Nat} {v : Value} {L : List Bool} (h : OwnBo w base v L) (hg : w.grownBy w' row) (hr : ∀ k, row = some k → k < base) : OwnBo w' base v L := by
  unfold OwnBo at *
  refine World.ownsRow.kept h hg ?_
  cases hb : v.ownBlock with
  | none => exact .inl rfl
  | some b => exact .inr fun e => by have := hr b e.symm; have := h.lt b hb; omega
/-- A row that lies below a bound. -/
def LowBo (w : World) (B base : Nat) (v : Value) (L : List Bool) : Prop := OwnBo w base v L ∧ ∀ k, v.ownBlock = some k → k < B
theorem LowBo.of {w : World} {base : Nat} {v : Value} {L : List Bool} (h : OwnBo w base v L) : LowBo w w.heap.size base v L := ⟨h, fun k hk => (World.ownsRow.lt (by unfold OwnBo at h; exact h) k hk).2⟩
theorem LowBo.to {w w' : World} {B base : Nat} {v : Value} {L : List Bool} (h : LowBo w B base v L) (hb : Below w.heap.size w w') : LowBo w' B base v L := ⟨h.1.to hb, h.2⟩
theorem LowBo.low {w w' : World} {B B2 base : Nat} {v : Value} {L : List Bool} (h : LowBo w B base v L) (hb : Below B2 w w') (hB : B ≤ B2) : LowBo w' B base v L :=
  ⟨own_low (by have := h.1; unfold OwnBo at this; exact this) hb (fun k hk => Nat.lt_of_lt_of_le (h.2 k hk) hB), h.2⟩
theorem LowBo.own {w : World} {B base : Nat} {v : Value} {L : List Bool} (h : LowBo w B base v L) : OwnBo w base v L := h.1
theorem OwnBo.row {w w' : World} {base : Nat} {v : Value} {L : List Bool} (h : OwnBo w base v L) {w0 : World} {M : List Bool} (h0 : OwnBo w0 base v M) (hbw : base ≤ w.heap.size) (hg : w.grownBy w' v.ownBlock) : Below base w w' := (Below.refl _ _).grown hg hbw (fun k hk => (World.ownsRow.lt (by unfold OwnBo at h0; exact h0) k hk).1)
theorem OwnBo.lt {w : World} {base : Nat} {v : Value} {L : List Bool} (h : OwnBo w base v L) : ∀ k, v.ownBlock = some k → base ≤ k ∧ k < w.heap.size := World.ownsRow.lt (by unfold OwnBo at h; exact h)
theorem eqBo_ok {w : World} {b b2 : Nat} {v v2 : Value} {L : List Bool} (h : OwnBo w b v L) (h2 : OwnBo w b2 v2 L) : Calls Tryz.prog 17 #[v, v2] w fun e w' => e = .returned (.bool true) ∧ Below w.heap.size w w' :=
  (eqBoolS_same v v2 L b b2 w (by unfold OwnBo at h; exact h) (by unfold OwnBo at h2; exact h2))
theorem markBo_ok {w : World} {base : Nat} {v : Value} {L : List Bool} (h : OwnBo w base v L) (hf : FitBo L) (hb : base ≤ w.heap.size) : Calls Tryz.prog 19 #[v, .int .i64 1] w fun e w' => e = .returned (.int .i64 (endBo L : Nat)) ∧ OwnBo w' base v (mkBo L) ∧ Below base w w' := by
  unfold FitBo at hf
  unfold OwnBo at h
  refine (markBoolS_any v L.length 1 _ base w h (by omega) (by omega)).mono ?_
  rintro e w' ⟨rfl, h2, hg⟩
  refine ⟨rfl, ?_, (Below.refl _ _).grown hg hb (fun k hk => (h.lt k hk).1)⟩
  unfold OwnBo mkBo
  rw [marksB_length]
  exact h2
theorem heldBo_ok {w : World} {base : Nat} {v : Value} {L : List Bool} (h : OwnBo w base v (mkBo L)) (hf : FitBo L) : Calls Tryz.prog 20 #[v, .int .i64 1] w fun e w' => e = .returned (.int .i64 (endBo L : Nat)) ∧ Below w.heap.size w w' := by
  unfold FitBo at hf
  unfold OwnBo mkBo at h
  rw [marksB_length] at h
  exact heldBoolS_any v L.length 1 base w h (by omega) (by omega)
end Go.Proofs.YthgadnhkbmimiaaGreat
