/- KindOf's law. -/
import Derived.Test.YtpkpahadjdkafaaPk29
import Derived.Test.YtpkpahadjdkafaaPk28
import Derived.Test.YtpkpahadjdkafaaPk11
import Derived.Lib.AppendIntMem
import Derived.Lib.ItoaNum
namespace Go.Proofs.Ytpkpahadjdkafaa
open Go Go.RowKit
set_option linter.unusedVariables false
set_option linter.unusedSimpArgs false

set_option maxHeartbeats 2000000 in
theorem implKindOf_yes (m : Mt) (v : Value) (n K : Nat) (w : World) (hK : MK m n K) (h : MethAt w m v) (hs : MtSmall m) : Calls Try.prog 26 #[m.v v] w fun e w' => e = .returned (.tuple #[.string (kindT (kw0 m n K) (kw1 m n) (kw2 m n) (kw3 m)), .bool true]) ∧ Below w.heap.size w w' := by
  have Hg := Lib.hid (fun W (hW : Below w.heap.size w W) => implGoodMethod_any m v W (h.to hW) hs)
  have Hk := Lib.hid (fun W (hW : Below w.heap.size w W) => kindOf_any m v n K W hK (h.to hW) hs)
  rw [hK.ok] at Hg
  obtain ⟨s, hs'⟩ : ∃ s, s = kindT (kw0 m n K) (kw1 m n) (kw2 m n) (kw3 m) := ⟨_, rfl⟩
  rw [← hs'] at Hk ⊢
  obtain ⟨A, c, hv⟩ := h.form
  subst hv
  unfold Mt.v at *
  clear h hK hs'
  go_enter Try.func26, Try.ntmps26
  go_wp2_with fail
  refine box1 (C := fun W => Calls _ _ _ W _) ?_
  intro wb hw k1 hB0
  have R1 := boxRule k1
  clear k1
  refine (Hg.out _ hw).mono ?_; rintro e w1 ⟨rfl, hb1⟩
  have hB1 := bw_to hw hb1
  go_wp2_with fail
  refine (Hk.out _ hB1).mono ?_; rintro e w2 ⟨rfl, hb2⟩
  go_wp2_with fail
  go_ret2
  exact ⟨rfl, bw_to hB1 hb2⟩
set_option maxHeartbeats 2000000 in
theorem implKindOf_no (m : Mt) (v : Value) (w : World) (hn : methB m = false) (h : MethAt w m v) (hs : MtSmall m) : Calls Try.prog 26 #[m.v v] w fun e w' => e = .returned (.tuple #[.string ⟨#[]⟩, .bool false]) ∧ Below w.heap.size w w' := by
  have Hg := Lib.hid (fun W (hW : Below w.heap.size w W) => implGoodMethod_any m v W (h.to hW) hs)
  rw [hn] at Hg
  obtain ⟨A, c, hv⟩ := h.form
  subst hv
  unfold Mt.v at *
  clear h hn
  go_enter Try.func26, Try.ntmps26
  go_wp2_with fail
  refine box1 (C := fun W => Calls _ _ _ W _) ?_
  intro wb hw k1 hB0
  have R1 := boxRule k1
  clear k1
  refine (Hg.out _ hw).mono ?_; rintro e w1 ⟨rfl, hb1⟩
  go_wp2_with fail
  go_ret2
  exact ⟨rfl, bw_to hw hb1⟩
set_option maxHeartbeats 2000000 in
theorem specKindOf_no (m : Mt) (v : Value) (w : World) (hn : methB m = false) (h : MethAt w m v) (hs : MtSmall m) : Calls Try.prog 25 #[m.v v] w fun e w' => e = .returned (.tuple #[.string ⟨#[]⟩, .bool false]) ∧ Below w.heap.size w w' := by
  have Hg := Lib.hid (fun W (hW : Below w.heap.size w W) => l4Good_any m v W (h.to hW) hs)
  rw [hn] at Hg
  obtain ⟨A, c, hv⟩ := h.form
  subst hv
  unfold Mt.v at *
  clear h hn
  go_enter Try.func25, Try.ntmps25
  go_wp2_with fail
  refine box1 (C := fun W => Calls _ _ _ W _) ?_
  intro wb hw k1 hB0
  have R1 := boxRule k1
  clear k1
  refine (Hg.out _ hw).mono ?_; rintro e w1 ⟨rfl, hb1⟩
  go_wp2_with fail
  go_ret2
  exact ⟨rfl, bw_to hw hb1⟩
/-- What both sides answer. -/
theorem kind_both (m : Mt) (hs : MtSmall m) : ∃ (s : ByteArray) (b : Bool), (∀ v W, MethAt W m v → Calls Try.prog 26 #[m.v v] W fun e w' => e = .returned (.tuple #[.string s, .bool b]) ∧ Below W.heap.size W w') ∧ (∀ v W, MethAt W m v → Calls Try.prog 25 #[m.v v] W fun e w' => e = .returned (.tuple #[.string s, .bool b]) ∧ Below W.heap.size W w') := by
  cases hm : methB m
  · exact ⟨⟨#[]⟩, false, fun v W h => implKindOf_no m v W hm h hs, fun v W h => specKindOf_no m v W hm h hs⟩
  · obtain ⟨n, K, hK⟩ := mk_of hm
    exact ⟨_, true, fun v W h => implKindOf_yes m v n K W hK h hs, fun v W h => specKindOf_yes m v n K W hK h hs⟩
theorem toMethod_agK (m : Mt) (v : Value) (w : World) (h1 : MethAt w m v) (hs : MtSmall m) : Calls Try.prog 10 #[.agg #[.string m.name, .int .i64 m.stage, v]] w fun e w' => ∃ A c, e = .returned (.agg #[.string m.name, .int .i64 m.stage, .slice A m.l.length c]) ∧ MethAt w' m (.slice A m.l.length c) ∧ Below w.heap.size w w' := by
  refine (toMethod_any m v w h1 hs).mono fun e w' ⟨r, e1, h3, h4⟩ => ?_
  obtain ⟨A, c, hr, _⟩ := sl_of_own h3
  subst hr
  exact ⟨A, c, e1, ⟨strs_of_own h3, h1.2⟩, h4⟩
set_option maxRecDepth 100000 in
set_option maxHeartbeats 4000000 in
theorem lawKindOf_any (m : Mt) (v : Value) (w : World) (hm : MethAt w m v) : Calls Try.prog 5 #[m.v v] w fun e w' => e = .returned (.bool true) ∧ Below w.heap.size w w' := by
  have Hm := Lib.hid hm
  obtain ⟨A, c, hv⟩ := hm.form
  subst hv
  clear hm
  unfold Mt.v
  go_enter Try.func5, Try.ntmps5
  go_wp2_with fail
  refine box1 (C := fun W => Calls _ _ _ W _) ?_
  intro wb hw k1 hB0
  have R1 := boxRule k1
  clear k1
  have Hz1 := Lib.hid (fun W hW => szMethod_any m (.slice A m.l.length c) 1048576 W (Hm.out.to (bw_to hw hW)) (by omega) (by omega))
  unfold Mt.v at *
  refine (Hz1.out _ hB0).mono ?_; rintro e w1 ⟨r, rfl, hr0, hr1, hrl, hb1⟩
  have Hrl := Lib.hid hrl
  clear hrl
  by_cases hneg : r < 0
  · go_wp2_with fail
    go_ret
    exact ⟨rfl, bw_to hw hb1⟩
  · have Sm := Lib.hid (Hrl.out (by omega))
    have Hto := Lib.hid (fun W hW => toMethod_agK m (.slice A m.l.length c) W (Hm.out.to (bw_to hw hW)) Sm.out)
    obtain ⟨s, b, hi, hs⟩ := kind_both m Sm.out
    have Hi := Lib.hid hi
    have Hs := Lib.hid hs
    unfold Mt.v at *
    clear hi hs
    go_wp2_with fail
    refine (Hto.out _ hb1).mono ?_; rintro e w2 ⟨A2, c2, rfl, tm2, hb2⟩
    have hB2 := bw_to hb1 hb2
    go_wp2_with fail
    refine (Hs.out _ _ tm2).mono ?_; rintro e w3 ⟨rfl, hb3⟩
    have hB3 := bw_to hB2 hb3
    clear tm2 hb1 hb2 hb3 hB2
    go_wp2_with fail
    refine (Hto.out _ hB3).mono ?_; rintro e w4 ⟨A4, c4, rfl, tm4, hb4⟩
    have hB4 := bw_to hB3 hb4
    clear hB3 hb4
    go_wp2_with fail
    refine box1 (C := fun W => Calls _ _ _ W _) ?_
    intro w5 hw5 k5 hB5
    have R5 := boxRule k5
    clear k5
    have tm5 := Lib.hid (tm4.to hw5)
    have hB5w := bw_to hB4 hw5
    refine (Hi.out _ _ tm5.out).mono ?_; rintro e w6 ⟨rfl, hb6⟩
    have hB6 := bw_to hB5w hb6
    have R6 := fun i W hW => R5 W i (bw_to hb6 hW)
    have R7 := fun i W hW => R1 W i (bw_to hB6 hW)
    have tm6 := Lib.hid (tm5.out.to hb6)
    have hd6 : Below w6.heap.size w6 w6.drew := Below.drew (Below.refl _ _)
    have hst := Below.refl w6.heap.size w6
    clear hw5 hB4 tm4 R5 hb6
    go_upto_region 10 with fail
    go_region_held3 (fun W => Below w6.heap.size w6 W) (first | with_reducible assumption | exact Below.drew (by assumption) | exact bw_to (by assumption) hb')
      (first | (go_at_call 14; refine (eqMethod_same m _ _ _ (Strs.to tm6.out.1 (by assumption)) tm.1).mono ?_; rintro e w' ⟨rfl, hb'⟩) | (go_at_call 10; refine (Hto.out _ (bw_to hB6 (by assumption))).mono ?_; rintro e w' ⟨A1, c1, rfl, tm, hb'⟩))
    all_goals
      have hBB : Below w6.heap.size w6 w' := by assumption
      go_wp2_with fail
      go_ret
      exact ⟨rfl, bw_to hw (bw_to hB6 hBB)⟩
end Go.Proofs.Ytpkpahadjdkafaa

/- Contracts: a number as text, both sides. -/
namespace Go.Proofs.Ytpkpahadjdkafaa
open Go Go.RowKit
set_option linter.unusedVariables false
set_option linter.unusedSimpArgs false

/-- The library's table of powers of ten lies in w, and stays. -/
def Tab10 (w : World) : Prop := ∀ w', Below w.heap.size w w' → Lib.TabIs Try.prog w' "internal/strconv.uint64pow10" .u64 Lib.pow10Tab
theorem Tab10.to {w w' : World} (h : Tab10 w) (hb : Below w.heap.size w w') : Tab10 w' := fun w2 h2 => h w2 (bw_to hb h2)
def numT (n : Int) : ByteArray := ⟨(Lib.itoa n).toArray⟩
theorem dec_len : ∀ (k u : Nat), u < 10 ^ (k + 1) → (Lib.decDigits u).length ≤ k + 1
  | 0, u, h => by rw [Lib.decDigits, dif_pos (by simpa using h)]; simp
  | k + 1, u, h => by
    by_cases hs : u < 10
    · rw [Lib.decDigits, dif_pos hs]; simp
    · rw [Lib.decDigits, dif_neg hs, List.length_append]
      have := dec_len k (u / 10) (Nat.div_lt_of_lt_mul (by rw [Nat.pow_succ] at h; omega))
      simp; omega
theorem numT_size {n : Int} (h0 : -1000000000000 ≤ n) (h1 : n ≤ 1000000000000) : (numT n).size ≤ 14 := by
  show (Lib.itoa n).toArray.size ≤ 14
  rw [List.size_toArray]
  unfold Lib.itoa
  split
  · have := dec_len 12 n.natAbs (by omega)
    simp; omega
  · have := dec_len 12 n.toNat (by omega)
    omega
theorem numT_nat (n : Nat) : numT n = ⟨(Lib.decDigits n).toArray⟩ := by unfold numT Lib.itoa; rw [if_neg (by omega)]; rfl
theorem numT_small {n : Nat} (h : n < 10) : numT n = digit n := by
  rw [numT_nat, Lib.decDigits, dif_pos h]
  unfold digit
  rw [Nat.mod_eq_of_lt h]
theorem numT_big {n : Nat} (h : ¬ n < 10) : numT n = numT ((n / 10 : Nat) : Int) ++ digit n := by
  rw [numT_nat, numT_nat, Lib.decDigits, dif_neg h]
  unfold digit
  apply ByteArray.ext
  simp
theorem below_grow {w : World} (os : Array Obj) (k : Nat) : Below w.heap.size w (Go.Sort.grow (w.drewN k) os) := by
  have h := bw_dr (Below.refl w.heap.size w) k
  refine ⟨h.os, h.tape, h.output, ?_, fun i hi => ?_⟩
  · show w.heap.size ≤ (w.heap ++ os).size
    simp
  · show (w.heap ++ os)[i]? = _
    rw [Array.getElem?_append_left hi]
theorem one_byte_small {P : Program} {src dst e : TypeId} (hs : P.underlying src = some (.slice e)) (he : P.underlying e = some (.int .u8)) (hd : P.underlying dst = some .string) (W : World) (n : Nat) (hn : n < 10) :
    (convert src dst (.slice (some ⟨W.heap.size, 0, none⟩) 1 1)).run P (W.alloc (.cells #[.int .u8 (48 + (n : Int))] e)) = .ok (.string (digit n)) (W.alloc (.cells #[.int .u8 (48 + (n : Int))] e)) := by
  have h := one_byte hs he hd W n
  rw [show (n : Int) % 10 = n from by omega] at h
  exact h
theorem one_byte_at {P : Program} {src dst e : TypeId} (hs : P.underlying src = some (.slice e)) (he : P.underlying e = some (.int .u8)) (hd : P.underlying dst = some .string) (n : Nat) (W : World) (g : Nat) (hc : W.cell? ⟨g, 0, none⟩ = some (.int .u8 (48 + (n : Int) % 10))) :
    (convert src dst (.slice (some ⟨g, 0, none⟩) 1 1)).run P W = .ok (.string (digit n)) W := by
  refine run_convert_bytes_back _ src dst e ⟨g, 0, none⟩ 1 [UInt8.ofNat (48 + n % 10)] hs he hd (fun j hj => ?_)
  have : j = 0 := by simpa using hj
  subst this
  rw [Addr.add_lit, hc]
  simp
  omega
theorem cell_aft {X w' : World} {B g : Nat} {cs : Array Value} {e : TypeId} {v : Value} (hb : Below B X w') (hB : g < B) (hX : X.heap[g]? = some (.cells cs e (0, 0))) (hv : cs[0]? = some v) : w'.cell? ⟨g, 0, none⟩ = some v :=
  (hb.cell (p := ⟨g, 0, none⟩) hB).trans ((heap_cell hX 0).trans hv)
set_option maxRecDepth 10000 in
set_option maxHeartbeats 1000000 in
theorem l1Num_any (n : Nat) : ∀ (w : World), n ≤ 1000000000000 → Calls Try.prog 152 #[.int .i64 n] w fun e w' => e = .returned (.string (numT n)) ∧ Below w.heap.size w w' := by
  induction n using Nat.strongRecOn with
  | _ n ih =>
    intro w hn
    by_cases hlt : n < 10
    · have hcv := fun W => one_byte_small (n := n) Try.underlying61 Try.underlying5 Try.underlying9 W hlt
      go_enter Try.func152, Try.ntmps152
      go_wp2_with fail
      go_ret
      exact ⟨by rw [numT_small hlt]; rfl, bw_al (Below.refl _ _) _⟩
    · have hcv := one_byte_at (n := n) Try.underlying61 Try.underlying5 Try.underlying9
      go_enter Try.func152, Try.ntmps152
      go_wp2_with fail
      have hst := Below.refl w.heap.size w
      have hq : ((n / 10 : Nat) : Int) = (n : Int) / 10 := by omega
      have ih' := fun W => ih (n / 10) (by omega) W (by omega)
      have hsz : (numT ((n / 10 : Nat) : Int)).size ≤ 14 := numT_size (by omega) (by omega)
      rw [hq] at hsz
      simp only [hq] at ih'
      have Ih := Lib.hid ih'
      have Hq := Lib.hid hq
      have hds : (digit n).size = 1 := rfl
      have hov : ¬ 9223372036854775807 < (numT ((n : Int) / 10)).size + 1 := by omega
      have hov2 : (numT ((n : Int) / 10)).size + 1 ≤ 9223372036854775807 := by omega
      have hw3 : ((n : Int)).tmod 10 = (n : Int) % 10 := Int.tmod_eq_emod_of_nonneg (by omega)
      have hw4 : IntKind.u8.wrap (48 + (n : Int) % 10) = 48 + (n : Int) % 10 := by unfold IntKind.wrap; simp [IntKind.signed, IntKind.bits]; omega
      have hw2 : IntKind.i64.wrap ((n : Int) / 10) = (n : Int) / 10 := IntWalk.i64_in _ (by omega)
      have hw1 : IntKind.i64.wrap (48 + (n : Int) % 10) = 48 + (n : Int) % 10 := IntWalk.i64_in _ (by omega)
      clear ih ih' hq
      have Hn := Lib.hid hn
      clear hn
      have HB := Lib.hid hst
      clear hst
      go_region_with (go_at_call 152; refine (Ih.out _).mono ?_; rintro e w' ⟨rfl, hb'⟩; (try have hc7 := cell_aft (v := .int .u8 (48 + (n : Int) % 10)) hb' (g := w.heap.size) (by simp) (heap_new w (.cells #[.int .u8 (48 + (n : Int) % 10)] 5)) rfl))
      all_goals
        go_wp2_with fail
        go_ret
        exact ⟨by rw [numT_big hlt, Hq.out]; rfl, by first | exact bw_al (bw_to (Below.drew HB.out) hb') _ | exact bw_to (Below.drew (bw_al HB.out _)) hb'⟩
end Go.Proofs.Ytpkpahadjdkafaa
