/- Contracts: bands compared. -/
import Derived.Test.YtimeecimaokldaaGreatDoorPk33
import Derived.Test.YtimeecimaokldaaGreatDoorPk3
import Derived.Test.YtimeecimaokldaaGreatDoorPk4
namespace Go.Proofs.YtimeecimaokldaaGreatDoor
open Go Go.RowKit
set_option linter.unusedVariables false
set_option linter.unusedSimpArgs false

theorem eqRinger_same (x : Nat × Bool) (w : World) : Calls Tryz.prog 105 #[.agg #[.int .i64 x.1, .bool x.2], .agg #[.int .i64 x.1, .bool x.2]] w fun e w' => e = .returned (.bool true) ∧ Below w.heap.size w w' := by
  go_enter Tryz.func105, Tryz.ntmps105
  go_wp2
  go_ret
  exact ⟨rfl, bw_al (bw_al (Below.refl _ _) _) _⟩
theorem eqRingerS_same (a b : Value) (xs : List (Nat × Bool)) (w : World) (ha : Sl w 2 a xs.length (xs.flatMap rsC)) (hb : Sl w 2 b xs.length (xs.flatMap rsC)) : Calls Tryz.prog 54 #[a, b] w fun e w' => e = .returned (.bool true) ∧ Below w.heap.size w w' := by
  obtain ⟨A, c, rfl, h1, h2, hr⟩ := ha
  obtain ⟨A', c', rfl, h1', h2', hr'⟩ := hb
  unfold maxLen at h2 h2'
  go_enter Tryz.func54, Tryz.ntmps54
  go_wp2_with fail
  go_loopw [5] (fun i wr => ∃ k : Nat, k ≤ xs.length ∧ i = .int .i64 k ∧ Below w.heap.size w wr) (fun i _ => xs.length - (intOf i).toNat)
  case atStart => exact ⟨0, by omega, rfl, Below.refl _ _⟩
  case round =>
    obtain ⟨k, hk, rfl, hB⟩ := hrel
    by_cases hlt : k < xs.length
    · obtain ⟨ad, rfl, hC⟩ := rs_el hr hlt
      obtain ⟨ad', rfl, hC'⟩ := rs_el hr' hlt
      go_wp2_with fail
      go_region_held3 (fun w' => Below w.heap.size w w') (first | exact Below.drew (by assumption) | exact bw_to (by assumption) hb')
        (first | (go_at_call 105; refine (eqRinger_same xs[k] _).mono ?_; rintro e w' ⟨rfl, hb'⟩))
      go_wp2_with fail
      exact ⟨⟨k + 1, by omega, by go_num, by assumption⟩, by simp [intOf]; omega⟩
    · go_wp2_with fail
      go_ret
      exact ⟨rfl, hB⟩
theorem eqCallsB_same (k : Cl) (w : World) : Calls Tryz.prog 53 #[.agg #[.string k.bob, .string k.single], .agg #[.string k.bob, .string k.single]] w fun e w' => e = .returned (.bool true) ∧ Below w.heap.size w w' := by
  go_enter Tryz.func53, Tryz.ntmps53
  go_wp2
  go_ret
  exact ⟨rfl, bw_al (bw_al (Below.refl _ _) _) _⟩
set_option maxHeartbeats 2000000 in
theorem eqBand_same (m : Mt) (k : Cl) (b : Bd) (v r v' r' : Value) (w : World) (h : Strs w v m.l) (h' : Strs w v' m.l) (hr : Sl w 2 r b.rs.length (b.rs.flatMap rsC)) (hr' : Sl w 2 r' b.rs.length (b.rs.flatMap rsC)) : Calls Tryz.prog 13 #[b.v m k v r, b.v m k v' r'] w fun e w' => e = .returned (.bool true) ∧ Below w.heap.size w w' := by
  have Hm := Lib.hid (fun W (hW : Below w.heap.size w W) => eqMethod_same m v v' W (h.to hW) (h'.to hW))
  have Hr := Lib.hid (fun W (hW : Below w.heap.size w W) => eqRingerS_same r r' b.rs W (hr.to hW) (hr'.to hW))
  have Hk := Lib.hid (fun W => eqCallsB_same k W)
  obtain ⟨A, q, rfl, _⟩ := h
  obtain ⟨A', q', rfl, _⟩ := h'
  obtain ⟨Ar, qr, rfl, _⟩ := hr
  obtain ⟨Ar', qr', rfl, _⟩ := hr'
  unfold Bd.v
  unfold Mt.v at Hm
  go_enter Tryz.func13, Tryz.ntmps13
  go_wp2_with fail
  refine box2 (C := fun W => Calls _ _ _ W _) ?_
  intro wb hw k1 k2 hB0
  have h1 : Bc wb w.heap.size [.string m.name, .int .i64 m.stage, .slice A m.l.length q, .string k.bob, .string k.single, .int .i64 b.st, .string b.call, .string b.tr, .slice Ar b.rs.length qr] 33 := k1
  have h2 : Bc wb (w.heap.size + 1) [.string m.name, .int .i64 m.stage, .slice A' m.l.length q', .string k.bob, .string k.single, .int .i64 b.st, .string b.call, .string b.tr, .slice Ar' b.rs.length qr'] 33 := k2
  clear k1 k2
  refine (Hm.out _ hw).mono ?_; rintro e w1 ⟨rfl, hb1⟩
  obtain ⟨x0, x1, x2, x3, x4, x5, x6, x7, x8⟩ := (h1.to hb1 h1.blk).all9.1
  obtain ⟨y0, y1, y2, y3, y4, y5, y6, y7, y8⟩ := (h2.to hb1 h2.blk).all9.1
  go_wp2_with fail
  refine (Hk.out _).mono ?_; rintro e w2 ⟨rfl, hb2⟩
  have hb12 := bw_to hb1 hb2
  clear x0 x1 x2 x3 x4 x5 x6 x7 x8 y0 y1 y2 y3 y4 y5 y6 y7 y8
  obtain ⟨x0, x1, x2, x3, x4, x5, x6, x7, x8⟩ := (h1.to hb12 h1.blk).all9.1
  obtain ⟨y0, y1, y2, y3, y4, y5, y6, y7, y8⟩ := (h2.to hb12 h2.blk).all9.1
  have Hb12 := Lib.hid (bw_to hw hb12)
  clear h1 h2 hb1 hb2 hb12 hw hB0
  go_wp2_with fail
  refine (Hr.out _ Hb12.out).mono ?_; rintro e w3 ⟨rfl, hb3⟩
  clear x0 x1 x2 x3 x4 x5 x6 x7 x8 y0 y1 y2 y3 y4 y5 y6 y7 y8
  have H3 := Lib.hid (bw_to Hb12.out hb3)
  clear hb3
  go_wp2_with fail
  go_ret
  exact ⟨rfl, H3.out⟩
end Go.Proofs.YtimeecimaokldaaGreatDoor

/- Contracts: strikes marked, and read back. -/
namespace Go.Proofs.YtimeecimaokldaaGreatDoor
open Go Go.RowKit
set_option linter.unusedVariables false
set_option linter.unusedSimpArgs false

def marksK (k n : Nat) : List (Int × Int) := (List.range n).map fun i => (((k + 2 * i : Nat) : Int), ((k + 2 * i + 1 : Nat) : Int))
theorem marksK_length (k n : Nat) : (marksK k n).length = n := by simp [marksK]
theorem marksK_get {k n i : Nat} (h : i < (marksK k n).length) : (marksK k n)[i] = (((k + 2 * i : Nat) : Int), ((k + 2 * i + 1 : Nat) : Int)) := by simp [marksK]
theorem marksK_succ (k n : Nat) : marksK k (n + 1) = marksK k n ++ [(((k + 2 * n : Nat) : Int), ((k + 2 * n + 1 : Nat) : Int))] := by simp [marksK, List.range_succ]
set_option maxHeartbeats 1000000 in
theorem markStrikeS_any (v : Value) (n k0 : Nat) (cs : List Value) (base : Nat) (w : World) (h : w.ownsRow base 95 2 v n cs) (hn : n ≤ 1048576) (hk0 : k0 ≤ 100000000000000) : Calls Tryz.prog 22 #[v, .int .i64 k0] w fun e w' =>
    e = .returned (.int .i64 ((k0 + 2 * n : Nat) : Int)) ∧ w'.ownsRow base 95 2 v n ((marksK k0 n).flatMap skC) ∧ w.grownBy w' v.ownBlock := by
  rcases h.2 with ⟨rfl, rfl⟩ | ⟨g, cap, cur, rfl, hbg, hh, hnc, hcm, _⟩
  · go_enter Tryz.func22, Tryz.ntmps22
    go_wp2_with fail
    go_loopw [1, 5] (fun q i wr => q = .int .i64 k0 ∧ i = .int .i64 0 ∧ wr = w) (fun _ _ _ => 0)
    case atStart => exact ⟨rfl, rfl, rfl⟩
    case round =>
      obtain ⟨rfl, rfl, rfl⟩ := hrel
      go_wp2_with fail
      go_ret
      exact ⟨rfl, World.ownsRow_nil _ _ _ _, gr_refl _ _⟩
  · unfold maxLen at hcm
    go_enter Tryz.func22, Tryz.ntmps22
    go_wp2_with fail
    go_loopw [1, 5] (fun q i wr => ∃ k : Nat, k ≤ n ∧ i = .int .i64 k ∧ q = .int .i64 ((k0 + 2 * k : Nat) : Int) ∧ (∃ ds, wr.ownsRow base 95 2 (.slice (some ⟨g, 0, none⟩) n cap) n ds ∧ ds.take (k * 2) = (marksK k0 k).flatMap skC) ∧ w.grownBy wr (some g)) (fun _ i _ => n - (intOf i).toNat)
    case atStart => exact ⟨0, by omega, rfl, rfl, ⟨_, h, rfl⟩, gr_refl _ _⟩
    case round =>
      obtain ⟨k, hk, rfl, rfl, ⟨ds, hown, hds⟩, hgr⟩ := hrel
      have Hds := Lib.hid hds
      clear hds
      by_cases hlt : k < n
      · obtain ⟨⟨y0, y1, hy⟩, hf⟩ := own2 hown hlt
        go_wp2_with fail
        refine ⟨⟨k + 1, by omega, by go_num, congrArg (Value.int .i64) (by omega), ⟨_, own_set (own_set hown _ _) _ _, ?_⟩, gr_set (gr_set hgr _) _⟩, by simp [intOf]; omega⟩
        rw [take_set2 hown.1 hlt Hds.out, marksK_succ, List.flatMap_append]
        congr 1
      · obtain rfl : k = n := by omega
        go_wp2_with fail
        go_ret
        refine ⟨rfl, ?_, hgr⟩
        have := Hds.out
        rw [List.take_of_length_le (by rw [hown.1]; omega)] at this
        rw [← this]
        exact hown
set_option maxHeartbeats 1000000 in
theorem heldStrikeS_any (v : Value) (n k0 : Nat) (w : World) (h : Sks w v (marksK k0 n)) (hn : n ≤ 1048576) (hk0 : k0 ≤ 100000000000000) : Calls Tryz.prog 23 #[v, .int .i64 k0] w fun e w' =>
    e = .returned (.int .i64 ((k0 + 2 * n : Nat) : Int)) ∧ w = w' := by
  obtain ⟨A, c, rfl, h1, h2, hr⟩ := h
  unfold maxLen at h2
  have hB := Below.refl w.heap.size w
  have hL := marksK_length k0 n
  rw [hL] at h1
  have HR := Lib.hid hr
  have HL := Lib.hid hL
  rw [hL]
  clear hr hL
  go_enter Tryz.func23, Tryz.ntmps23
  go_wp2_with fail
  go_loopw [1, 5] (fun q i wr => ∃ k : Nat, k ≤ n ∧ i = .int .i64 k ∧ q = .int .i64 ((k0 + 2 * k : Nat) : Int) ∧ wr = w) (fun _ i _ => n - (intOf i).toNat)
  case atStart => exact ⟨0, by omega, rfl, rfl, rfl⟩
  case round =>
    obtain ⟨k, hk, rfl, rfl, rfl⟩ := hrel
    by_cases hlt : k < n
    · obtain ⟨ad, rfl, hel⟩ := sks_el HR.out (k := k) (by rw [HL.out]; exact hlt)
      obtain ⟨z0, z1⟩ := hel wr hB
      rw [marksK_get] at z0 z1
      clear hel
      go_wp2_with fail
      all_goals first
        | (go_ret; omega)
        | exact ⟨⟨k + 1, by omega, by go_num, congrArg (Value.int .i64) (by omega), trivial⟩, by simp [intOf]; omega⟩
    · obtain rfl : k = n := by omega
      go_wp2_with fail
      go_ret
      exact ⟨rfl, rfl⟩
end Go.Proofs.YtimeecimaokldaaGreatDoor

/- A row of strikes that a law marks. -/
namespace Go.Proofs.YtimeecimaokldaaGreatDoor
open Go Go.RowKit
set_option linter.unusedVariables false
set_option linter.unusedSimpArgs false

theorem own_lowK {w w' : World} {base B n : Nat} {e : TypeId} {size : Nat} {v : Value} {xs : List Value} (h : w.ownsRow base e size v n xs) (hb : Below B w w') (hn : ∀ k, v.ownBlock = some k → k < B) : w'.ownsRow base e size v n xs := by
  obtain ⟨h1, h2⟩ := h
  refine ⟨h1, ?_⟩
  rcases h2 with h2 | ⟨g, cap, cur, rfl, hbase, hg, r⟩
  · exact .inl h2
  · exact .inr ⟨g, cap, cur, rfl, hbase, (hb.block g (hn g rfl)).trans hg, r⟩
def OwnK (w : World) (base : Nat) (v : Value) (L : List (Int × Int)) : Prop := w.ownsRow base 95 2 v L.length (L.flatMap skC)
def FitK (L : List (Int × Int)) : Prop := L.length ≤ 1000000
def mkK (L : List (Int × Int)) : List (Int × Int) := marksK 1 L.length
def endK (L : List (Int × Int)) : Nat := 1 + 2 * L.length
theorem OwnK.to {w w' : World} {base : Nat} {v : Value} {L : List (Int × Int)} (h : OwnK w base v L) (hb : Below w.heap.size w w') : OwnK w' base v L := own_to (by unfold OwnK at h; exact h) hb
theorem OwnK.base {w : World} {base b2 : Nat} {v : Value} {L : List (Int × Int)} (h : OwnK w base v L) (hb : b2 ≤ base) : OwnK w b2 v L := own_base (by unfold OwnK at h; exact h) hb
theorem OwnK.kept {w w' : World} {base : Nat} {row : Option Nat} {v : Value} {L : List (Int × Int)} (h : OwnK w base v L) (hg : w.grownBy w' row) (hr : ∀ k, row = some k → k < base) : OwnK w' base v L := by
  unfold OwnK at *
  refine World.ownsRow.kept h hg ?_
  cases hb : v.ownBlock with
  | none => exact .inl rfl
  | some b => exact .inr fun e => by have := hr b e.symm; have := h.lt b hb; omega
/-- A row that lies below a bound. -/
def LowK (w : World) (B base : Nat) (v : Value) (L : List (Int × Int)) : Prop := OwnK w base v L ∧ ∀ k, v.ownBlock = some k → k < B
theorem LowK.of {w : World} {base : Nat} {v : Value} {L : List (Int × Int)} (h : OwnK w base v L) : LowK w w.heap.size base v L := ⟨h, fun k hk => (World.ownsRow.lt (by unfold OwnK at h; exact h) k hk).2⟩
theorem LowK.to {w w' : World} {B base : Nat} {v : Value} {L : List (Int × Int)} (h : LowK w B base v L) (hb : Below w.heap.size w w') : LowK w' B base v L := ⟨h.1.to hb, h.2⟩
theorem LowK.low {w w' : World} {B B2 base : Nat} {v : Value} {L : List (Int × Int)} (h : LowK w B base v L) (hb : Below B2 w w') (hB : B ≤ B2) : LowK w' B base v L :=
  ⟨own_lowK (by have := h.1; unfold OwnK at this; exact this) hb (fun k hk => Nat.lt_of_lt_of_le (h.2 k hk) hB), h.2⟩
theorem LowK.own {w : World} {B base : Nat} {v : Value} {L : List (Int × Int)} (h : LowK w B base v L) : OwnK w base v L := h.1
theorem OwnK.row {w w' : World} {base : Nat} {v : Value} {L : List (Int × Int)} (h : OwnK w base v L) {w0 : World} {M : List (Int × Int)} (h0 : OwnK w0 base v M) (hbw : base ≤ w.heap.size) (hg : w.grownBy w' v.ownBlock) : Below base w w' := (Below.refl _ _).grown hg hbw (fun k hk => (World.ownsRow.lt (by unfold OwnK at h0; exact h0) k hk).1)
theorem OwnK.lt {w : World} {base : Nat} {v : Value} {L : List (Int × Int)} (h : OwnK w base v L) : ∀ k, v.ownBlock = some k → base ≤ k ∧ k < w.heap.size := World.ownsRow.lt (by unfold OwnK at h; exact h)
theorem eqK_ok {w : World} {b b2 : Nat} {v v2 : Value} {L : List (Int × Int)} (h : OwnK w b v L) (h2 : OwnK w b2 v2 L) : Calls Tryz.prog 21 #[v, v2] w fun e w' => e = .returned (.bool true) ∧ Below w.heap.size w w' :=
  (eqStrikeS_same v v2 L w (sks_of_own (by unfold OwnK at h; exact h)) (sks_of_own (by unfold OwnK at h2; exact h2)))
theorem markK_ok {w : World} {base : Nat} {v : Value} {L : List (Int × Int)} (h : OwnK w base v L) (hf : FitK L) (hb : base ≤ w.heap.size) : Calls Tryz.prog 22 #[v, .int .i64 1] w fun e w' => e = .returned (.int .i64 (endK L : Nat)) ∧ OwnK w' base v (mkK L) ∧ Below base w w' := by
  unfold FitK at hf
  unfold OwnK at h
  refine (markStrikeS_any v L.length 1 _ base w h (by omega) (by omega)).mono ?_
  rintro e w' ⟨rfl, h2, hg⟩
  refine ⟨rfl, ?_, (Below.refl _ _).grown hg hb (fun k hk => (h.lt k hk).1)⟩
  unfold OwnK mkK
  rw [marksK_length]
  exact h2
theorem heldK_ok {w : World} {base : Nat} {v : Value} {L : List (Int × Int)} (h : OwnK w base v (mkK L)) (hf : FitK L) : Calls Tryz.prog 23 #[v, .int .i64 1] w fun e w' => e = .returned (.int .i64 (endK L : Nat)) ∧ Below w.heap.size w w' := by
  unfold FitK at hf
  unfold OwnK mkK at h
  refine (heldStrikeS_any v L.length 1 w (sks_of_own h) (by omega) (by omega)).mono ?_
  rintro e w' ⟨rfl, rfl⟩
  exact ⟨rfl, Below.refl _ _⟩
end Go.Proofs.YtimeecimaokldaaGreatDoor

/- Texts and methods marked; a variable that holds a method. -/
namespace Go.Proofs.YtimeecimaokldaaGreatDoor
open Go Go.RowKit
set_option linter.unusedVariables false
set_option linter.unusedSimpArgs false

def marksT (k n : Nat) : List ByteArray := (List.range n).map fun i => mText (k + i)
theorem marksT_length (k n : Nat) : (marksT k n).length = n := by simp [marksT]
theorem marksT_get {k n i : Nat} (h : i < (marksT k n).length) : (marksT k n)[i] = mText (k + i) := by simp [marksT]
theorem marksT_succ (k n : Nat) : marksT k (n + 1) = marksT k n ++ [mText (k + n)] := by simp [marksT, List.range_succ]
set_option maxHeartbeats 1000000 in
theorem markStringS_any (v : Value) (n k0 : Nat) (cs : List Value) (base : Nat) (w : World) (h : w.ownsRow base 9 1 v n cs) (hn : n ≤ 100000000) (hk0 : k0 ≤ 100000000000000) : Calls Tryz.prog 56 #[v, .int .i64 k0] w fun e w' =>
    e = .returned (.int .i64 ((k0 + n : Nat) : Int)) ∧ w'.ownsRow base 9 1 v n ((marksT k0 n).map Value.string) ∧ w.grownBy w' v.ownBlock := by
  rcases h.2 with ⟨rfl, rfl⟩ | ⟨g, cap, cur, rfl, hbg, hh, hnc, hcm, _⟩
  · go_enter Tryz.func56, Tryz.ntmps56
    go_wp2_with fail
    go_loopw [1, 5] (fun q i wr => q = .int .i64 k0 ∧ i = .int .i64 0 ∧ wr = w) (fun _ _ _ => 0)
    case atStart => exact ⟨rfl, rfl, rfl⟩
    case round =>
      obtain ⟨rfl, rfl, rfl⟩ := hrel
      go_wp2_with fail
      go_ret
      exact ⟨rfl, World.ownsRow_nil _ _ _ _, gr_refl _ _⟩
  · unfold maxLen at hcm
    go_enter Tryz.func56, Tryz.ntmps56
    go_wp2_with fail
    go_loopw [1, 5] (fun q i wr => ∃ k : Nat, k ≤ n ∧ i = .int .i64 k ∧ q = .int .i64 ((k0 + k : Nat) : Int) ∧ (∃ ds, wr.ownsRow base 9 1 (.slice (some ⟨g, 0, none⟩) n cap) n ds ∧ ds.take k = (marksT k0 k).map Value.string) ∧ w.grownBy wr (some g)) (fun _ i _ => n - (intOf i).toNat)
    case atStart => exact ⟨0, by omega, rfl, rfl, ⟨_, h, rfl⟩, gr_refl _ _⟩
    case round =>
      obtain ⟨k, hk, rfl, rfl, ⟨ds, hown, hds⟩, hgr⟩ := hrel
      have Hds := Lib.hid hds
      clear hds
      by_cases hlt : k < n
      · go_wp2_with fail
        refine (markText_any (k0 + k) _ (by omega)).mono ?_; rintro e w2 ⟨rfl, hb2⟩
        have hown2 := own_to hown hb2
        have hgr2 := gr_below hgr hb2
        obtain ⟨y0, hy⟩ := own_some hown2 (j := k) (by omega)
        have hf := hown2.frozenAt k
        go_wp2_with fail
        refine ⟨⟨k + 1, by omega, by go_num, congrArg (Value.int .i64) (by omega), ⟨_, own_set hown2 _ _, ?_⟩, gr_set hgr2 _⟩, by simp [intOf]; omega⟩
        rw [take_set_last (by have := hown.1; omega), Hds.out, marksT_succ, List.map_append]
        simp
      · obtain rfl : k = n := by omega
        go_wp2_with fail
        go_ret
        refine ⟨rfl, ?_, hgr⟩
        have := Hds.out
        rw [List.take_of_length_le (by rw [hown.1]; omega)] at this
        rw [← this]
        exact hown
set_option maxHeartbeats 1000000 in
theorem heldStringS_any (v : Value) (n k0 : Nat) (w : World) (h : Strs w v (marksT k0 n)) (hn : n ≤ 100000000) (hk0 : k0 ≤ 100000000000000) : Calls Tryz.prog 107 #[v, .int .i64 k0] w fun e w' =>
    e = .returned (.int .i64 ((k0 + n : Nat) : Int)) ∧ Below w.heap.size w w' := by
  obtain ⟨A, c, hv, h1, h2, hr⟩ := h
  rw [marksT_length] at hv h1 hr
  subst hv
  unfold maxLen at h2
  go_enter Tryz.func107, Tryz.ntmps107
  go_wp2_with fail
  go_loopw [1, 5] (fun q i wr => ∃ k : Nat, k ≤ n ∧ i = .int .i64 k ∧ q = .int .i64 ((k0 + k : Nat) : Int) ∧ Below w.heap.size w wr) (fun _ i _ => n - (intOf i).toNat)
  case atStart => exact ⟨0, by omega, rfl, rfl, Below.refl _ _⟩
  case round =>
    obtain ⟨k, hk, rfl, rfl, hB⟩ := hrel
    by_cases hlt : k < n
    · obtain ⟨ad, rfl, hC⟩ := strs_el hr (k := k) (by rw [marksT_length]; exact hlt)
      rw [marksT_get] at hC
      have hq0 : (0 : Int) ≤ (k : Int) := by omega
      have hq1 : (k : Int) < (n : Int) := by omega
      go_wp2_with fail
      go_region_held3 (fun w' => Below w.heap.size w w') (first | exact Below.drew (by assumption) | exact bw_to (by assumption) hb')
        (first | (go_at_call 106; refine (markText_any (k0 + k) _ (by omega)).mono ?_; rintro e w' ⟨rfl, hb'⟩))
      go_wp2_with fail
      exact ⟨⟨k + 1, by omega, by go_num, congrArg (Value.int .i64) (by omega), by assumption⟩, by simp [intOf]; omega⟩
    · obtain rfl : k = n := by omega
      go_wp2_with fail
      go_ret
      exact ⟨rfl, hB⟩
set_option maxHeartbeats 1000000 in
theorem markMethod_any (m : Mt) (v : Value) (n k0 : Nat) (cs : List Value) (base : Nat) (w : World) (h : w.ownsRow base 9 1 v n cs) (hn : n ≤ 100000000) (hk0 : k0 ≤ 100000000000000) : Calls Tryz.prog 15 #[m.v v, .int .i64 k0] w fun e w' =>
    ∃ r : Int, e = .returned (.int .i64 r) ∧ r = ((k0 + n : Nat) : Int) ∧ w'.ownsRow base 9 1 v n ((marksT k0 n).map Value.string) ∧ w.grownBy w' v.ownBlock := by
  unfold Mt.v
  go_enter Tryz.func15, Tryz.ntmps15
  go_wp2_with fail
  refine box1 (C := fun W => Calls _ _ _ W _) ?_
  intro wb hw k1 hB0
  refine (markStringS_any _ _ k0 _ _ _ (own_to h hw) hn hk0).mono ?_; rintro e w1 ⟨rfl, hown, hg⟩
  go_wp2_with fail
  go_ret
  exact ⟨_, rfl, rfl, hown, ⟨hg.os.trans hw.os, hg.tape.trans hw.tape, hg.output.trans hw.output, Nat.le_trans hw.size hg.size, fun k hk hne => (hg.block k (Nat.lt_of_lt_of_le hk hw.size) hne).trans (hw.block k hk)⟩⟩
/-- A variable that holds a method. -/
def XBox (w : World) (G : Nat) (m : Mt) (r : Value) : Prop := w.ownsRow G 29 3 (.slice (some ⟨G, 0, none⟩) 1 1) 1 [.string m.name, .int .i64 m.stage, r]
theorem xbox_of {w : World} {G : Nat} {m : Mt} {r : Value} (h : w.heap[G]? = some (.cells #[.string m.name, .int .i64 m.stage, r] 29 (0, 0))) : XBox w G m r :=
  own_of_heap (base := G) (n := 1) (size := 3) h (Nat.le_refl _) (by unfold maxLen; omega) rfl
theorem xbox_c {w : World} {G : Nat} {m : Mt} {r : Value} (h : XBox w G m r) : w.cell? ⟨G, 0, none⟩ = some (.string m.name) ∧ w.cell? ⟨G, 1, none⟩ = some (.int .i64 m.stage) ∧ w.cell? ⟨G, 2, none⟩ = some r := by
  unfold XBox at h
  exact ⟨h.cellAt 0 (by omega), h.cellAt 1 (by omega), h.cellAt 2 (by omega)⟩
theorem xbox_f {w : World} {G : Nat} {m : Mt} {r : Value} (h : XBox w G m r) : w.frozen? ⟨G, 0, none⟩ = false ∧ w.frozen? ⟨G, 1, none⟩ = false ∧ w.frozen? ⟨G, 2, none⟩ = false := by
  unfold XBox at h
  exact ⟨h.frozenAt 0, h.frozenAt 1, h.frozenAt 2⟩
theorem xbox_to {w w' : World} {G : Nat} {m : Mt} {r : Value} (h : XBox w G m r) (hb : Below w.heap.size w w') : XBox w' G m r := own_to (by unfold XBox at h; exact h) hb
theorem xbox_row {w w' : World} {G : Nat} {m : Mt} {r v : Value} (h : XBox w G m r) (hg : w.grownBy w' v.ownBlock) (hne : v.ownBlock = none ∨ v.ownBlock ≠ some G) : XBox w' G m r := by
  refine World.ownsRow.kept (by unfold XBox at h; exact h) hg (.inr ?_)
  rcases hne with e | e
  · rw [e]; intro e'; cases e'
  · exact fun e' => e e'.symm
theorem strs_ownX {w : World} {base n : Nat} {e : TypeId} {v : Value} {zs : List ByteArray} (h : w.ownsRow base e 1 v n (zs.map Value.string)) : Strs w v zs := by
  have hl : zs.length = n := by have := h.1; simpa using this
  subst hl
  exact sl_of_own h
end Go.Proofs.YtimeecimaokldaaGreatDoor
