/- Contracts: the rows of a touch, both sides. -/
import Derived.Test.YtimeecimaokldaaGreatDoorPk36
import Derived.Test.YtimeecimaokldaaGreatDoorPk1
import Derived.Test.YtimeecimaokldaaGreatDoorPk34
import Derived.Test.YtimeecimaokldaaGreatDoorPk35
namespace Go.Proofs.YtimeecimaokldaaGreatDoor
open Go Go.RowKit
set_option linter.unusedVariables false
set_option linter.unusedSimpArgs false

def headsT (m : Mt) (k : Cl) (t : ByteArray) : List ByteArray := headsB (headB m.stage.toNat m.l k.bob k.single) (roundsB m.stage.toNat) t.data.toList
def rowsT (m : Mt) (k : Cl) (t : ByteArray) : List ByteArray := rowsB m.l ((headsT m k t).take t.size)
def askT (m : Mt) (k : Cl) (t : ByteArray) : Bool := callsB m k && touchB t.data.toList
def okT (m : Mt) (k : Cl) (t : ByteArray) : Bool := askT m k t && decide (t.size * m.l.length ≤ 800)
def rowsO (m : Mt) (k : Cl) (t : ByteArray) : List ByteArray := if okT m k t then rowsT m k t else []
theorem headsT_n {m : Mt} {k : Cl} {t : ByteArray} {n : Nat} (h : m.stage = (n : Int)) : headsT m k t = headsB (headB n m.l k.bob k.single) (roundsB n) t.data.toList := by
  unfold headsT; rw [h]; rfl
theorem headsT_len (m : Mt) (k : Cl) (t : ByteArray) : (headsT m k t).length = t.size + 1 := by unfold headsT; rw [heads_len, bytes_len]
theorem headsT_in {m : Mt} {k : Cl} {n : Nat} (h : MGood m n) (t : ByteArray) : ∀ x ∈ headsT m k t, RowIn n x := by
  rw [headsT_n h.st]
  exact heads_in (fun c => head_in h.hi _ _ _ _) _ (rounds_in h.hi)
theorem rowsT_len (m : Mt) (k : Cl) (t : ByteArray) : (rowsT m k t).length = t.size * m.l.length := by
  unfold rowsT; rw [rows_len, List.length_take, headsT_len]; congr 1; omega
theorem touch_size {t : ByteArray} (h : touchB t.data.toList = true) : 1 ≤ t.size ∧ t.size ≤ 60 := by
  unfold touchB at h; rw [Bool.and_eq_true, decide_eq_true_eq, bytes_len] at h; exact h.2
end Go.Proofs.YtimeecimaokldaaGreatDoor

/- ItemOf on both sides, and its law. -/
namespace Go.Proofs.YtimeecimaokldaaGreatDoor
open Go Go.RowKit
set_option linter.unusedVariables false
set_option linter.unusedSimpArgs false

set_option maxHeartbeats 1000000 in
theorem szCalls_any (k : Cl) (k0 : Int) (w : World) (h : ClFit k) (h0 : 0 ≤ k0) (hk0 : k0 ≤ 1048576) : Calls Tryz.prog 8 #[k.v, .int .i64 k0] w fun e w' =>
    ∃ r : Int, e = .returned (.int .i64 r) ∧ -1 ≤ r ∧ r ≤ 1048576 ∧ (0 ≤ r → ClSmall k) ∧ Below w.heap.size w w' := by
  unfold Cl.v
  have h1 := h.1
  have h2 := h.2
  unfold maxLen at h1 h2
  clear h
  go_enter Tryz.func8, Tryz.ntmps8
  go_wp2_with fail
  · go_ret
    exact ⟨_, rfl, by omega, by omega, fun h => absurd h (by omega), bw_al (Below.refl _ _) _⟩
  · go_ret
    exact ⟨_, rfl, by omega, by omega, fun h => absurd h (by omega), bw_al (Below.refl _ _) _⟩
  · go_ret
    exact ⟨_, rfl, by omega, by omega, fun h => ⟨by omega, by omega⟩, bw_al (Below.refl _ _) _⟩
set_option maxHeartbeats 1000000 in
theorem toCalls_any (k : Cl) (w : World) : Calls Tryz.prog 11 #[k.v] w fun e w' => e = .returned k.v ∧ Below w.heap.size w w' := by
  unfold Cl.v
  go_enter Tryz.func11, Tryz.ntmps11
  go_wp2_with fail
  refine bodyPost_ret (v := .agg #[.string k.bob, .string k.single]) (by simp [results, go_sem]) rfl ⟨rfl, ?_⟩
  exact bw_al (bw_al (bw_al (Below.refl _ _) _) _) _
end Go.Proofs.YtimeecimaokldaaGreatDoor

/- Rows of texts that a law marks; a method's own row (QN's text, for a seat without proofs). -/
namespace Go.Proofs.YtimeecimaokldaaGreatDoor
open Go Go.RowKit
set_option linter.unusedVariables false
set_option linter.unusedSimpArgs false

def OwnS (w : World) (base : Nat) (v : Value) (L : List ByteArray) : Prop := w.ownsRow base 9 1 v L.length (L.map Value.string)
def FitS (L : List ByteArray) : Prop := L.length ≤ 16777216
def mkS (L : List ByteArray) : List ByteArray := marksT 1 L.length
def endS (L : List ByteArray) : Nat := 1 + L.length
theorem OwnS.to {w w' : World} {base : Nat} {v : Value} {L : List ByteArray} (h : OwnS w base v L) (hb : Below w.heap.size w w') : OwnS w' base v L := own_to (by unfold OwnS at h; exact h) hb
theorem OwnS.base {w : World} {base b2 : Nat} {v : Value} {L : List ByteArray} (h : OwnS w base v L) (hb : b2 ≤ base) : OwnS w b2 v L := own_base (by unfold OwnS at h; exact h) hb
theorem OwnS.kept {w w' : World} {base : Nat} {row : Option Nat} {v : Value} {L : List ByteArray} (h : OwnS w base v L) (hg : w.grownBy w' row) (hr : ∀ k, row = some k → k < base) : OwnS w' base v L := by
  unfold OwnS at *
  refine World.ownsRow.kept h hg ?_
  cases hb : v.ownBlock with
  | none => exact .inl rfl
  | some b => exact .inr fun e => by have := hr b e.symm; have := h.lt b hb; omega
/-- A row that lies below a bound. -/
def LowS (w : World) (B base : Nat) (v : Value) (L : List ByteArray) : Prop := OwnS w base v L ∧ ∀ k, v.ownBlock = some k → k < B
theorem LowS.of {w : World} {base : Nat} {v : Value} {L : List ByteArray} (h : OwnS w base v L) : LowS w w.heap.size base v L := ⟨h, fun k hk => (World.ownsRow.lt (by unfold OwnS at h; exact h) k hk).2⟩
theorem LowS.to {w w' : World} {B base : Nat} {v : Value} {L : List ByteArray} (h : LowS w B base v L) (hb : Below w.heap.size w w') : LowS w' B base v L := ⟨h.1.to hb, h.2⟩
theorem LowS.low {w w' : World} {B B2 base : Nat} {v : Value} {L : List ByteArray} (h : LowS w B base v L) (hb : Below B2 w w') (hB : B ≤ B2) : LowS w' B base v L :=
  ⟨own_low (by have := h.1; unfold OwnS at this; exact this) hb (fun k hk => Nat.lt_of_lt_of_le (h.2 k hk) hB), h.2⟩
theorem LowS.own {w : World} {B base : Nat} {v : Value} {L : List ByteArray} (h : LowS w B base v L) : OwnS w base v L := h.1
theorem OwnS.row {w w' : World} {base : Nat} {v : Value} {L : List ByteArray} (h : OwnS w base v L) {w0 : World} {M : List ByteArray} (h0 : OwnS w0 base v M) (hbw : base ≤ w.heap.size) (hg : w.grownBy w' v.ownBlock) : Below base w w' := (Below.refl _ _).grown hg hbw (fun k hk => (World.ownsRow.lt (by unfold OwnS at h0; exact h0) k hk).1)
theorem OwnS.lt {w : World} {base : Nat} {v : Value} {L : List ByteArray} (h : OwnS w base v L) : ∀ k, v.ownBlock = some k → base ≤ k ∧ k < w.heap.size := World.ownsRow.lt (by unfold OwnS at h; exact h)
theorem OwnS.strs {w : World} {base : Nat} {v : Value} {L : List ByteArray} (h : OwnS w base v L) : Strs w v L := strs_of_own (by unfold OwnS at h; exact h)
theorem OwnS.nilok {w : World} {base : Nat} {v : Value} {L : List ByteArray} (h : OwnS w base v L) : NilOk v := nilok_own (by unfold OwnS at h; exact h)
theorem eqS_ok {w : World} {b b2 : Nat} {v v2 : Value} {L : List ByteArray} (h : OwnS w b v L) (h2 : OwnS w b2 v2 L) : Calls Tryz.prog 55 #[v, v2] w fun e w' => e = .returned (.bool true) ∧ Below w.heap.size w w' := eqStringS_same _ _ L _ h.strs h2.strs
theorem markS_ok {w : World} {base : Nat} {v : Value} {L : List ByteArray} (h : OwnS w base v L) (hf : FitS L) (hb : base ≤ w.heap.size) : Calls Tryz.prog 56 #[v, .int .i64 1] w fun e w' => e = .returned (.int .i64 (endS L : Nat)) ∧ OwnS w' base v (mkS L) ∧ Below base w w' := by
  unfold FitS at hf
  unfold OwnS at h
  refine (markStringS_any v L.length 1 _ base w h (by omega) (by omega)).mono ?_
  rintro e w' ⟨rfl, h2, hg⟩
  refine ⟨rfl, ?_, (Below.refl _ _).grown hg hb (fun k hk => (h.lt k hk).1)⟩
  unfold OwnS mkS
  rw [marksT_length]
  exact h2
theorem heldS_ok {w : World} {base : Nat} {v : Value} {L : List ByteArray} (h : OwnS w base v (mkS L)) (hf : FitS L) : Calls Tryz.prog 107 #[v, .int .i64 1] w fun e w' => e = .returned (.int .i64 (endS L : Nat)) ∧ Below w.heap.size w w' := by
  unfold FitS at hf
  exact heldStringS_any v L.length 1 w h.strs (by omega) (by omega)
theorem toMethod_agP (m : Mt) (v : Value) (w : World) (h1 : MethAt w m v) (hs : MtSmall m) : Calls Tryz.prog 10 #[.agg #[.string m.name, .int .i64 m.stage, v]] w fun e w' => ∃ A c, e = .returned (.agg #[.string m.name, .int .i64 m.stage, .slice A m.l.length c]) ∧ w'.ownsRow w.heap.size 9 1 (.slice A m.l.length c) m.l.length (m.l.map Value.string) ∧ MethAt w' m (.slice A m.l.length c) ∧ Below w.heap.size w w' := by
  refine (toMethod_any m v w h1 hs).mono fun e w' ⟨r, e1, h3, h4⟩ => ?_
  obtain ⟨A, c, hr, _⟩ := sl_of_own h3
  subst hr
  exact ⟨A, c, e1, h3, ⟨strs_of_own h3, h1.2⟩, h4⟩
end Go.Proofs.YtimeecimaokldaaGreatDoor

/- Contracts: bands marked, and read back. -/
namespace Go.Proofs.YtimeecimaokldaaGreatDoor
open Go Go.RowKit
set_option linter.unusedVariables false
set_option linter.unusedSimpArgs false

theorem mod3p (k : Nat) : (((k : Int) + 1) % 3 == 0) = decide ((k + 1) % 3 = 0) := by rw [Bool.eq_iff_iff]; simp; omega
def marksR (k n : Nat) : List (Nat × Bool) := (List.range n).map fun i => (k + 2 * i, decide ((k + 2 * i + 1) % 3 = 0))
theorem marksR_length (k n : Nat) : (marksR k n).length = n := by simp [marksR]
theorem marksR_get {k n i : Nat} (h : i < (marksR k n).length) : (marksR k n)[i] = (k + 2 * i, decide ((k + 2 * i + 1) % 3 = 0)) := by simp [marksR]
theorem marksR_succ (k n : Nat) : marksR k (n + 1) = marksR k n ++ [(k + 2 * n, decide ((k + 2 * n + 1) % 3 = 0))] := by simp [marksR, List.range_succ]
set_option maxHeartbeats 1000000 in
theorem markRingerS_any (v : Value) (n k0 : Nat) (cs : List Value) (base : Nat) (w : World) (h : w.ownsRow base 104 2 v n cs) (hn : n ≤ 1048576) (hk0 : k0 ≤ 100000000000000) : Calls Tryz.prog 57 #[v, .int .i64 k0] w fun e w' =>
    e = .returned (.int .i64 ((k0 + 2 * n : Nat) : Int)) ∧ w'.ownsRow base 104 2 v n ((marksR k0 n).flatMap rsC) ∧ w.grownBy w' v.ownBlock := by
  rcases h.2 with ⟨rfl, rfl⟩ | ⟨g, cap, cur, rfl, hbg, hh, hnc, hcm, _⟩
  · go_enter Tryz.func57, Tryz.ntmps57
    go_wp2_with fail
    go_loopw [1, 5] (fun q i wr => q = .int .i64 k0 ∧ i = .int .i64 0 ∧ wr = w) (fun _ _ _ => 0)
    case atStart => exact ⟨rfl, rfl, rfl⟩
    case round =>
      obtain ⟨rfl, rfl, rfl⟩ := hrel
      go_wp2_with fail
      go_ret
      exact ⟨rfl, World.ownsRow_nil _ _ _ _, gr_refl _ _⟩
  · unfold maxLen at hcm
    go_enter Tryz.func57, Tryz.ntmps57
    go_wp2_with fail
    go_loopw [1, 5] (fun q i wr => ∃ k : Nat, k ≤ n ∧ i = .int .i64 k ∧ q = .int .i64 ((k0 + 2 * k : Nat) : Int) ∧ (∃ ds, wr.ownsRow base 104 2 (.slice (some ⟨g, 0, none⟩) n cap) n ds ∧ ds.take (k * 2) = (marksR k0 k).flatMap rsC) ∧ w.grownBy wr (some g)) (fun _ i _ => n - (intOf i).toNat)
    case atStart => exact ⟨0, by omega, rfl, rfl, ⟨_, h, rfl⟩, gr_refl _ _⟩
    case round =>
      obtain ⟨k, hk, rfl, rfl, ⟨ds, hown, hds⟩, hgr⟩ := hrel
      have Hds := Lib.hid hds
      clear hds
      by_cases hlt : k < n
      · obtain ⟨⟨y0, y1, hy⟩, hf⟩ := own2 hown hlt
        obtain ⟨K, hK⟩ : ∃ K, K = k0 + 2 * k := ⟨_, rfl⟩
        have HK := Lib.hid hK
        rw [← hK]
        have hK2 : K ≤ 100000004000000 := by omega
        clear hK
        go_wp2_with fail
        refine ⟨⟨k + 1, by omega, by go_num, congrArg (Value.int .i64) (by have := HK.out; omega), ⟨_, own_set (own_set hown _ _) _ _, ?_⟩, gr_set (gr_set hgr _) _⟩, by simp [intOf]; omega⟩
        rw [take_set2 hown.1 hlt Hds.out, marksR_succ, List.flatMap_append, ← HK.out, mod3p]
        rfl
      · obtain rfl : k = n := by omega
        go_wp2_with fail
        go_ret
        refine ⟨rfl, ?_, hgr⟩
        have := Hds.out
        rw [List.take_of_length_le (by rw [hown.1]; omega)] at this
        rw [← this]
        exact hown
set_option maxHeartbeats 1000000 in
theorem heldRingerS_any (v : Value) (n k0 : Nat) (w : World) (h : Sl w 2 v n ((marksR k0 n).flatMap rsC)) (hn : n ≤ 1048576) (hk0 : k0 ≤ 100000000000000) : Calls Tryz.prog 59 #[v, .int .i64 k0] w fun e w' =>
    e = .returned (.int .i64 ((k0 + 2 * n : Nat) : Int)) ∧ Below w.heap.size w w' := by
  obtain ⟨A, c, rfl, h1, h2, hr⟩ := h
  unfold maxLen at h2
  have hL := marksR_length k0 n
  have hr' : Reads w w.heap.size 2 A (marksR k0 n).length ((marksR k0 n).flatMap rsC) := by rw [hL]; exact hr
  have HR := Lib.hid hr'
  have HL := Lib.hid hL
  clear hr hL hr'
  go_enter Tryz.func59, Tryz.ntmps59
  go_wp2_with fail
  go_loopw [1, 5] (fun q i wr => ∃ k : Nat, k ≤ n ∧ i = .int .i64 k ∧ q = .int .i64 ((k0 + 2 * k : Nat) : Int) ∧ Below w.heap.size w wr) (fun _ i _ => n - (intOf i).toNat)
  case atStart => exact ⟨0, by omega, rfl, rfl, Below.refl _ _⟩
  case round =>
    obtain ⟨k, hk, rfl, rfl, hB⟩ := hrel
    by_cases hlt : k < n
    · obtain ⟨ad, rfl, hel⟩ := rs_el HR.out (k := k) (by rw [HL.out]; exact hlt)
      obtain ⟨z0, z1⟩ := hel wr hB
      rw [marksR_get] at z0 z1
      clear hel
      obtain ⟨K, hK⟩ : ∃ K, K = k0 + 2 * k := ⟨_, rfl⟩
      have HK := Lib.hid hK
      simp only [← hK] at z0 z1 ⊢
      have hm := mod3p K
      have hK2 : K ≤ 100000004000000 := by omega
      clear hK
      rw [← hm] at z1
      cases hd : (((K : Int) + 1) % 3 == 0)
      · rw [hd] at z1
        clear hm
        go_wp2_with fail
        exact ⟨⟨k + 1, by omega, by go_num, congrArg (Value.int .i64) (by have := HK.out; omega), by first | exact hB | exact hB.drew | exact bw_dr hB _⟩, by simp [intOf]; omega⟩
      · rw [hd] at z1
        clear hm
        go_wp2_with fail
        exact ⟨⟨k + 1, by omega, by go_num, congrArg (Value.int .i64) (by have := HK.out; omega), by first | exact hB | exact hB.drew | exact bw_dr hB _⟩, by simp [intOf]; omega⟩
    · obtain rfl : k = n := by omega
      go_wp2_with fail
      go_ret
      exact ⟨rfl, hB⟩
set_option maxHeartbeats 1000000 in
theorem heldMethodZ_any (m : Mt) (v : Value) (n k0 : Nat) (w : World) (h : Strs w v (marksT k0 n)) (hn : n ≤ 100000000) (hk0 : k0 ≤ 100000000000000) : Calls Tryz.prog 58 #[.agg #[.string m.name, .int .i64 m.stage, v], .int .i64 k0] w fun e w' =>
    ∃ r : Int, e = .returned (.int .i64 r) ∧ r = ((k0 + n : Nat) : Int) ∧ Below w.heap.size w w' := by
  go_enter Tryz.func58, Tryz.ntmps58
  go_wp2_with fail
  refine box1 (C := fun W => Calls _ _ _ W _) ?_
  intro wb hw k1 hB0
  refine (heldStringS_any _ _ k0 _ (h.to hw) hn hk0).mono ?_; rintro e w1 ⟨rfl, hb1⟩
  go_wp2_with fail
  go_ret
  exact ⟨_, rfl, rfl, bw_to hw hb1⟩
end Go.Proofs.YtimeecimaokldaaGreatDoor

/- A band's variable with its rows, as a law marks them; bands marked, and read back. -/
namespace Go.Proofs.YtimeecimaokldaaGreatDoor
open Go Go.RowKit
set_option linter.unusedVariables false
set_option linter.unusedSimpArgs false

theorem bc_kinds {w : World} {G b2 : Nat} {cs : List Value} {e1 e2 : TypeId} {s2 n2 : Nat} {v2 : Value} {x2 : List Value} (h1 : Bc w G cs e1) (h2 : w.ownsRow b2 e2 s2 v2 n2 x2) (he : e1 ≠ e2) : ∀ k, v2.ownBlock = some k → k ≠ G := by
  intro k hk e
  subst e
  rcases h2.2 with ⟨rfl, _⟩ | ⟨g', cap', cur', rfl, _, hg', _⟩
  · cases hk
  · have : g' = k := by simpa [Value.ownBlock] using hk
    subst this
    unfold Bc at h1
    rw [h1] at hg'
    injection hg' with h
    injection h with _ h _
    exact he h
/-- A band's variable, and its rows: what they hold. -/
structure ZAt (w : World) (base G : Nat) (m : Mt) (k : Cl) (b : Bd) (A1 : Option Addr) (c1 : Nat) (A2 : Option Addr) (c2 : Nat) (L1 : List ByteArray) (L2 : List (Nat × Bool)) : Prop where
  bc : Bc w G [.string m.name, .int .i64 m.stage, .slice A1 m.l.length c1, .string k.bob, .string k.single, .int .i64 b.st, .string b.call, .string b.tr, .slice A2 b.rs.length c2] 33
  ge : base ≤ G
  o1 : w.ownsRow base 9 1 (.slice A1 m.l.length c1) m.l.length (L1.map Value.string)
  o2 : w.ownsRow base 104 2 (.slice A2 b.rs.length c2) b.rs.length (L2.flatMap rsC)
theorem ZAt.to {w w' : World} {base G : Nat} {m : Mt} {k : Cl} {b : Bd} {A1 : Option Addr} {c1 : Nat} {A2 : Option Addr} {c2 : Nat} {L1 : List ByteArray} {L2 : List (Nat × Bool)} (h : ZAt w base G m k b A1 c1 A2 c2 L1 L2) (hb : Below w.heap.size w w') : ZAt w' base G m k b A1 c1 A2 c2 L1 L2 :=
  ⟨h.bc.to hb h.bc.blk, h.ge, own_to h.o1 hb, own_to h.o2 hb⟩
theorem ZAt.kept {w w' : World} {base G : Nat} {m : Mt} {k : Cl} {b : Bd} {A1 : Option Addr} {c1 : Nat} {A2 : Option Addr} {c2 : Nat} {L1 : List ByteArray} {L2 : List (Nat × Bool)} (h : ZAt w base G m k b A1 c1 A2 c2 L1 L2) {row : Option Nat} (hg : w.grownBy w' row) (hr : ∀ k, row = some k → k < base) : ZAt w' base G m k b A1 c1 A2 c2 L1 L2 := by
  have hb : ∀ {e : TypeId} {s n : Nat} {v : Value} {xs : List Value}, w.ownsRow base e s v n xs → w'.ownsRow base e s v n xs := by
    intro e s n v xs ho
    refine World.ownsRow.kept ho hg ?_
    cases hb : v.ownBlock with
    | none => exact .inl rfl
    | some b => exact .inr fun e => by have := hr b e.symm; have := ho.lt b hb; omega
  refine ⟨h.bc.same (hg.block G h.bc.blk (fun e => ?_)), h.ge, hb h.o1, hb h.o2⟩
  have := hr G e.symm
  have := h.ge
  omega
/-- All of a band lies below a bound. -/
structure LowZ (w : World) (B base G : Nat) (m : Mt) (k : Cl) (b : Bd) (A1 : Option Addr) (c1 : Nat) (A2 : Option Addr) (c2 : Nat) (L1 : List ByteArray) (L2 : List (Nat × Bool)) : Prop where
  z : ZAt w base G m k b A1 c1 A2 c2 L1 L2
  g : G < B
  b1 : ∀ i, (Value.slice A1 m.l.length c1).ownBlock = some i → i < B
  b2 : ∀ i, (Value.slice A2 b.rs.length c2).ownBlock = some i → i < B
section
variable {w w' : World} {B base G : Nat} {m : Mt} {k : Cl} {b : Bd} {A1 : Option Addr} {c1 : Nat} {A2 : Option Addr} {c2 : Nat} {L1 : List ByteArray} {L2 : List (Nat × Bool)}
theorem LowZ.of (h : ZAt w base G m k b A1 c1 A2 c2 L1 L2) : LowZ w w.heap.size base G m k b A1 c1 A2 c2 L1 L2 := ⟨h, h.bc.blk, fun i hi => (h.o1.lt i hi).2, fun i hi => (h.o2.lt i hi).2⟩
theorem LowZ.to (h : LowZ w B base G m k b A1 c1 A2 c2 L1 L2) (hb : Below w.heap.size w w') : LowZ w' B base G m k b A1 c1 A2 c2 L1 L2 := ⟨h.z.to hb, h.g, h.b1, h.b2⟩
theorem LowZ.low {B2 : Nat} (h : LowZ w B base G m k b A1 c1 A2 c2 L1 L2) (hb : Below B2 w w') (hB : B ≤ B2) : LowZ w' B base G m k b A1 c1 A2 c2 L1 L2 :=
  ⟨⟨h.z.bc.to hb (Nat.lt_of_lt_of_le h.g hB), h.z.ge, own_low h.z.o1 hb (fun i hi => Nat.lt_of_lt_of_le (h.b1 i hi) hB), own_low h.z.o2 hb (fun i hi => Nat.lt_of_lt_of_le (h.b2 i hi) hB)⟩, h.g, h.b1, h.b2⟩
theorem ZAt.cells (h : ZAt w base G m k b A1 c1 A2 c2 L1 L2) : w.cell? ⟨G, 0, none⟩ = some (.string m.name) ∧ w.cell? ⟨G, 1, none⟩ = some (.int .i64 m.stage) ∧ w.cell? ⟨G, 2, none⟩ = some (.slice A1 m.l.length c1) ∧ w.cell? ⟨G, 3, none⟩ = some (.string k.bob) ∧ w.cell? ⟨G, 4, none⟩ = some (.string k.single) ∧ w.cell? ⟨G, 5, none⟩ = some (.int .i64 b.st) ∧ w.cell? ⟨G, 6, none⟩ = some (.string b.call) ∧ w.cell? ⟨G, 7, none⟩ = some (.string b.tr) ∧ w.cell? ⟨G, 8, none⟩ = some (.slice A2 b.rs.length c2) := h.bc.all9.1
end
theorem eqZ_ok {w : World} {base G base2 G2 : Nat} {m : Mt} {k : Cl} {b : Bd} {A1 : Option Addr} {c1 : Nat} {A2 : Option Addr} {c2 : Nat} {A3 : Option Addr} {c3 : Nat} {A4 : Option Addr} {c4 : Nat} (h : ZAt w base G m k b A1 c1 A2 c2 m.l b.rs) (h2 : ZAt w base2 G2 m k b A3 c3 A4 c4 m.l b.rs) :
    Calls Tryz.prog 13 #[.agg #[.string m.name, .int .i64 m.stage, .slice A1 m.l.length c1, .string k.bob, .string k.single, .int .i64 b.st, .string b.call, .string b.tr, .slice A2 b.rs.length c2], .agg #[.string m.name, .int .i64 m.stage, .slice A3 m.l.length c3, .string k.bob, .string k.single, .int .i64 b.st, .string b.call, .string b.tr, .slice A4 b.rs.length c4]] w fun e w' => e = .returned (.bool true) ∧ Below w.heap.size w w' :=
  eqBand_same m k b _ _ _ _ w (strs_of_own h.o1) (strs_of_own h2.o1) (sl_of_own h.o2) (sl_of_own h2.o2)
def endZ (m : Mt) (b : Bd) : Nat := 1 + m.l.length + 2 * b.rs.length
set_option maxHeartbeats 1000000 in
theorem markZ_ok {w : World} {base G : Nat} {m : Mt} {k : Cl} {b : Bd} {A1 : Option Addr} {c1 : Nat} {A2 : Option Addr} {c2 : Nat} {L1 : List ByteArray} {L2 : List (Nat × Bool)} (h : ZAt w base G m k b A1 c1 A2 c2 L1 L2) (hm : m.l.length ≤ 1048576) (hb : b.rs.length ≤ 1048576) (hw : base ≤ w.heap.size) :
    Calls Tryz.prog 16 #[.agg #[.string m.name, .int .i64 m.stage, .slice A1 m.l.length c1, .string k.bob, .string k.single, .int .i64 b.st, .string b.call, .string b.tr, .slice A2 b.rs.length c2], .int .i64 1] w fun e w' => ∃ r : Int, e = .returned (.int .i64 r) ∧ r = ((endZ m b : Nat) : Int) ∧
      ZAt w' base G m k b A1 c1 A2 c2 (marksT 1 m.l.length) (marksR (1 + m.l.length) b.rs.length) ∧ Below base w w' := by
  have H := Lib.hid h
  have Hn2 : ∀ n, n = b.rs.length → Hid (n = b.rs.length) := fun n e => Lib.hid e
  obtain ⟨n2, hn2⟩ : ∃ n, n = b.rs.length := ⟨_, rfl⟩
  have HN := Hn2 n2 hn2
  rw [← hn2] at hb
  rw [← hn2]
  have ho2 := h.o2
  have ho1 := h.o1
  rw [← hn2] at ho2
  clear Hn2 hn2 h
  go_enter Tryz.func16, Tryz.ntmps16
  go_wp2_with fail
  refine box1 (C := fun W => Calls _ _ _ W _) ?_
  intro wb hwb k1 hB0
  have h1 : Bc wb w.heap.size [.string m.name, .int .i64 m.stage, .slice A1 m.l.length c1, .string k.bob, .string k.single, .int .i64 b.st, .string b.call, .string b.tr, .slice A2 n2 c2] 33 := k1
  clear k1
  refine (markMethod_any m _ m.l.length 1 _ base wb (own_to ho1 hwb) (by omega) (by omega)).mono ?_; rintro e w1 ⟨r, rfl, hr, hown, hg⟩
  subst hr
  have hne := bc_kinds h1 (own_to ho1 hwb) (by decide)
  have hl1 : Bc w1 w.heap.size _ 33 := h1.same (hg.block _ h1.blk (fun e => hne _ e.symm rfl))
  have x8 := hl1.at_ 8 rfl
  have ho2b := (own_to ho2 hwb).kept hg (by
    rcases own_kinds' (own_to ho2 hwb) (own_to ho1 hwb) (by decide) with e | e
    · exact .inl e
    · exact .inr e)
  have Hg := Lib.hid hg
  have Hown := Lib.hid hown
  have Hho2 := Lib.hid ho2
  have Hho1 := Lib.hid ho1
  clear hne h1 hl1 hg hown ho2 ho1
  go_wp2_with fail
  refine (markRingerS_any _ n2 (1 + m.l.length) _ base w1 ho2b (by omega) (by omega)).mono ?_; rintro e w2 ⟨rfl, hown2, hg2⟩
  go_wp2_with fail
  go_ret
  have hz := HN.out
  refine ⟨_, rfl, by unfold endZ; omega, ?_, ?_⟩
  · have hbl := H.out.bc.blk
    have z1 := bc_kinds H.out.bc Hho1.out (by decide)
    have z2 := bc_kinds H.out.bc H.out.o2 (by decide)
    have zb := hwb.size
    subst hz
    refine ⟨H.out.bc.same ?_, H.out.ge, ?_, hown2⟩
    · rw [hg2.block G (by have := Hg.out.size; omega) (fun e => z2 _ e.symm rfl), Hg.out.block G (by omega) (fun e => z1 _ e.symm rfl), hwb.block G hbl]
    · refine World.ownsRow.kept Hown.out hg2 ?_
      rcases own_kinds' Hho1.out Hho2.out (by decide) with e | e
      · exact .inl e
      · exact .inr e
  · have e1 := (Below.refl base w).trans (hwb.mono hw)
    have e2 := e1.grown Hg.out (Nat.le_trans hw hwb.size) (fun k hk => (Hho1.out.lt k hk).1)
    exact e2.grown hg2 (Nat.le_trans hw (Nat.le_trans hwb.size Hg.out.size)) (fun k hk => (Hho2.out.lt k hk).1)
set_option maxHeartbeats 1000000 in
theorem heldZ_ok {w : World} {base G : Nat} {m : Mt} {k : Cl} {b : Bd} {A1 : Option Addr} {c1 : Nat} {A2 : Option Addr} {c2 : Nat} (h : ZAt w base G m k b A1 c1 A2 c2 (marksT 1 m.l.length) (marksR (1 + m.l.length) b.rs.length)) (hm : m.l.length ≤ 1048576) (hb : b.rs.length ≤ 1048576) :
    Calls Tryz.prog 17 #[.agg #[.string m.name, .int .i64 m.stage, .slice A1 m.l.length c1, .string k.bob, .string k.single, .int .i64 b.st, .string b.call, .string b.tr, .slice A2 b.rs.length c2], .int .i64 1] w fun e w' => ∃ r : Int, e = .returned (.int .i64 r) ∧ r = ((endZ m b : Nat) : Int) ∧ Below w.heap.size w w' := by
  have ho1 : Strs w (.slice A1 m.l.length c1) (marksT 1 m.l.length) := strs_ownX h.o1
  have ho2 := sl_of_own h.o2
  have HE : Hid (endZ m b = 1 + m.l.length + 2 * b.rs.length) := Lib.hid rfl
  obtain ⟨E, hE⟩ : ∃ E, E = endZ m b := ⟨_, rfl⟩
  rw [← hE] at HE ⊢
  obtain ⟨n2, hn2⟩ : ∃ n, n = b.rs.length := ⟨_, rfl⟩
  rw [← hn2] at hb HE ho2 ⊢
  clear hn2 hE h
  go_enter Tryz.func17, Tryz.ntmps17
  go_wp2_with fail
  refine box1 (C := fun W => Calls _ _ _ W _) ?_
  intro wb hwb k1 hB0
  have h1 : Bc wb w.heap.size [.string m.name, .int .i64 m.stage, .slice A1 m.l.length c1, .string k.bob, .string k.single, .int .i64 b.st, .string b.call, .string b.tr, .slice A2 n2 c2] 33 := k1
  clear k1
  refine (heldMethodZ_any m _ m.l.length 1 wb (ho1.to hwb) (by omega) (by omega)).mono ?_; rintro e w1 ⟨r, rfl, hr, hb1⟩
  have hr0 : ¬ r < 0 := by omega
  have x8 := (h1.to hb1 h1.blk).at_ 8 rfl
  have hB1 := bw_to hwb hb1
  clear h1
  subst hr
  go_wp2_with fail
  refine (heldRingerS_any _ n2 (1 + m.l.length) w1 (ho2.to hB1) (by omega) (by omega)).mono ?_; rintro e w2 ⟨rfl, hb2⟩
  have hr1 : ¬ ((1 + m.l.length + 2 * n2 : Nat) : Int) < 0 := by omega
  go_wp2_with fail
  go_ret
  exact ⟨_, rfl, by have := HE.out; omega, bw_to hB1 hb2⟩
end Go.Proofs.YtimeecimaokldaaGreatDoor
