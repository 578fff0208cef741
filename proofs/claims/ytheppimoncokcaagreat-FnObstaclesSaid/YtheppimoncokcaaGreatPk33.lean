/- A row of a stage is a good row: the program's check. -/
import Derived.Test.YtheppimoncokcaaGreatPk10
import Derived.Test.YtheppimoncokcaaGreatPk2
import Derived.Test.YtheppimoncokcaaGreatPk31
import Derived.Test.YtheppimoncokcaaGreatPk32
import Derived.Test.YtheppimoncokcaaGreatPk11
import Derived.Test.YtheppimoncokcaaGreatPk7
import Derived.Lib.AppendIntMem
import Derived.Lib.ItoaNum
namespace Go.Proofs.YtheppimoncokcaaGreat
open Go Go.RowKit
set_option linter.unusedVariables false
set_option linter.unusedSimpArgs false

theorem permG_in {n : Nat} (hn : n ≤ 8) {r : ByteArray} (h : PermR n r) : RowIn n r :=
  ⟨by have := h.length_eq; rw [roundsL_len, bytes_len] at this; exact this, fun b hb => inL_rounds hn b (h.mem_iff.1 hb)⟩
theorem roundsG_nodup {n : Nat} (hn : n ≤ 8) : (roundsL n).Nodup := by
  have : n = 0 ∨ n = 1 ∨ n = 2 ∨ n = 3 ∨ n = 4 ∨ n = 5 ∨ n = 6 ∨ n = 7 ∨ n = 8 := by omega
  rcases this with rfl | rfl | rfl | rfl | rfl | rfl | rfl | rfl | rfl <;> decide
theorem permG_nodup {n : Nat} (hn : n ≤ 8) {r : ByteArray} (h : PermR n r) : r.data.toList.Nodup := h.nodup_iff.2 (roundsG_nodup hn)
/-- The mask of some bytes. -/
def maskG : List UInt8 → Nat
  | [] => 0
  | b :: l => 2 ^ (b.toNat - 49) ||| maskG l
theorem maskG_bit : ∀ (l : List UInt8) (j : Nat), (maskG l).testBit j = l.any (fun b => decide (b.toNat - 49 = j))
  | [], j => by simp [maskG]
  | b :: l, j => by
    rw [maskG, Nat.testBit_or, maskG_bit l j, List.any_cons, Nat.testBit_two_pow]
theorem maskG_lt : ∀ (l : List UInt8), (∀ b ∈ l, b.toNat < 57) → maskG l < 256
  | [], _ => by simp [maskG]
  | b :: l, h => by
    rw [maskG]
    have h1 := maskG_lt l (fun x hx => h x (List.mem_cons_of_mem _ hx))
    have h2 := h b (List.mem_cons_self ..)
    have h3 : 2 ^ (b.toNat - 49) < 2 ^ 8 := Nat.pow_lt_pow_right (by omega) (by omega)
    exact Nat.or_lt_two_pow (n := 8) (by simpa using h3) (by simpa using h1)
theorem maskG_snoc (l : List UInt8) (b : UInt8) : maskG (l ++ [b]) = maskG l ||| 2 ^ (b.toNat - 49) := by
  induction l with
  | nil => simp [maskG]
  | cons a l ih => rw [List.cons_append, maskG, ih, maskG, Nat.or_assoc]
theorem i64G_or_nat (a b : Nat) (ha : a < 9223372036854775808) (hb : b < 9223372036854775808) : bits .or .i64 (a : Int) (b : Int) = ((a ||| b : Nat) : Int) := by
  have ofInt : ∀ a : Nat, a < 9223372036854775808 → (BitVec.ofInt 64 (a : Int)).toNat = a := fun a ha => by
    rw [BitVec.ofInt_natCast, BitVec.toNat_ofNat]; exact Nat.mod_eq_of_lt (by omega)
  have hx : a ||| b < 2 ^ 63 := Nat.or_lt_two_pow (by omega) (by omega)
  show IntKind.i64.wrap ((BitVec.ofInt 64 (a : Int) ||| BitVec.ofInt 64 (b : Int)).toNat : Int) = _
  rw [BitVec.toNat_or, ofInt a ha, ofInt b hb, IntKind.wrap_i64]
  omega
theorem maskG_new {n : Nat} (hn : n ≤ 8) {r : ByteArray} (h : PermR n r) {k : Nat} (hk : k < r.data.toList.length) : (maskG (r.data.toList.take k)).testBit (r.data.toList[k].toNat - 49) = false := by
  rw [maskG_bit, List.any_eq_false]
  intro b hb
  rw [decide_eq_true_eq]
  intro e
  have hin := permG_in hn h
  have h1 := hin.2 b (List.mem_of_mem_take hb)
  have h2 := hin.2 _ (List.getElem_mem hk)
  have hbe : b = r.data.toList[k] := UInt8.toNat_inj.1 (by omega)
  obtain ⟨i, hi, hie⟩ := List.getElem_of_mem hb
  rw [List.length_take] at hi
  rw [List.getElem_take] at hie
  exact (List.pairwise_iff_getElem.1 (permG_nodup hn h)) i k (by omega) hk (by omega) (hie.trans hbe)
set_option maxRecDepth 10000 in
set_option maxHeartbeats 2000000 in
theorem goodRowG_yes (n : Nat) (r : ByteArray) (w : World) (hn : n ≤ 8) (h3 : 3 ≤ n) (h : PermR n r) : Calls Tryz.prog 57 #[.string r] w fun e w' => e = .returned (.bool true) ∧ w = w' := by
  have hin := permG_in hn h
  have hsz := hin.1
  have Hin := Lib.hid hin
  have Hmk := Lib.hid (fun k hk => maskG_new hn h (k := k) hk)
  have Hst := Lib.hid (fun W => isStage_any (n : Int) W)
  rw [show decide (3 ≤ (n : Int) ∧ (n : Int) ≤ 8) = true by simp; omega] at Hst
  have Hlt := Lib.hid (fun k => maskG_lt (r.data.toList.take k) (fun b hb => by have := hin.2 b (List.mem_of_mem_take hb); omega))
  clear h hin
  go_enter Tryz.func57, Tryz.ntmps57
  go_wp2_with (go_at_call 95; refine (Hst.out _).mono ?_; rintro e w' ⟨rfl, rfl⟩)
  go_loop [3, 12] (fun s i => ∃ k : Nat, k ≤ n ∧ i = .int .i64 k ∧ s = .int .i64 ((maskG (r.data.toList.take k) : Nat) : Int)) (fun _ i => n - (intOf i).toNat)
  case atStart => exact ⟨0, by omega, rfl, rfl⟩
  case round =>
    obtain ⟨k, hk, rfl, rfl⟩ := hrel
    by_cases hlt : k < n
    · have hkr : k < r.size := by omega
      have hkl : k < r.data.toList.length := by rw [bytes_len]; exact hkr
      have hat := Hin.out.at_ hkr
      have hmk := Hmk.out k hkl
      rw [bytes_get r k hkr] at hmk
      have hM := Hlt.out k
      have Hs : Hid (maskG (r.data.toList.take (k + 1)) = maskG (r.data.toList.take k) ||| 2 ^ (r[k].toNat - 49)) := Lib.hid (by rw [List.take_succ_eq_append_getElem hkl, maskG_snoc, bytes_get r k hkr])
      obtain ⟨M, hMe⟩ : ∃ M, M = maskG (r.data.toList.take k) := ⟨_, rfl⟩
      rw [← hMe] at hmk hM Hs ⊢
      obtain ⟨j, hj⟩ : ∃ j, r[k].toNat = j + 49 := ⟨r[k].toNat - 49, by omega⟩
      have hj2 : (r[k].toNat : Int) - 49 = (j : Int) := by omega
      have hj8 : j < 8 := by omega
      rw [hj, Nat.add_sub_cancel] at hmk Hs
      have hb := bit_test M j (by omega)
      rw [hmk] at hb
      have ho := i64G_or_nat M (2 ^ j) (by omega) (Nat.lt_of_lt_of_le (Nat.pow_lt_pow_right (by omega) hj8) (by omega))
      have hjI : (r[k].toNat : Int) = (j : Int) + 49 := by omega
      have Hj := Lib.hid hj
      have hj0 : decide ((j : Int) < 0) = false := by simp
      have hjn : (j : Int) < (n : Int) := by omega
      obtain ⟨x, hx⟩ : ∃ x : UInt8, x = r[k] := ⟨_, rfl⟩
      clear hMe hmk hj
      have Hw : Hid (wrap64 ((2 : Int) ^ j) = ((2 ^ j : Nat) : Int)) := Lib.hid (by
        have h1 : 2 ^ j < 2 ^ 8 := Nat.pow_lt_pow_right (by omega) hj8
        have e : (2 : Int) ^ j = ((2 ^ j : Nat) : Int) := by simp
        rw [e]
        generalize 2 ^ j = p at h1
        exact IntWalk.wrap64_in _ ⟨by omega, by omega⟩)
      have Ho := Lib.hid ho
      clear ho
      go_wp2_with fail
      refine ⟨⟨k + 1, by omega, by go_num, ?_⟩, by simp [intOf]; omega⟩
      rw [Hw.out, Ho.out, Hs.out]
    · obtain rfl : k = n := by omega
      go_wp2_with fail
      go_ret
      exact ⟨rfl, rfl⟩
end Go.Proofs.YtheppimoncokcaaGreat

/- The order of a row; what rings ask of a drawn method, both sides. -/
namespace Go.Proofs.YtheppimoncokcaaGreat
open Go Go.RowKit
set_option linter.unusedVariables false
set_option linter.unusedSimpArgs false

theorem bk_qin {m : Mt} {k : Cl} {n T : Nat} {P B B' Q : ByteArray} (h : BK m k n T P B B' Q) : Q ∈ cloB n [P, B] T := by
  have h1 := bk_setIn h (K := 2) (clo_rounds n [P, B] T) (timesB (roundsB n) (powB n Q 1)) (setB_mem.2 ⟨1, by omega, rfl⟩)
  rw [pow_one h.hn h.invQ.1, rounds_times h.hn h.invQ.1] at h1
  exact h1
theorem orderOf_none (w : World) : Calls Tryz.prog 16 #[.string ⟨#[]⟩] w fun e w' => e = .returned (.tuple #[.int .i64 0, .bool false]) ∧ Below w.heap.size w w' := by
  have Hst := Lib.hid (fun W => isStage_any (0 : Int) W)
  rw [show decide (3 ≤ (0 : Int) ∧ (0 : Int) ≤ 8) = false by decide] at Hst
  have hg : Calls Tryz.prog 57 #[.string ⟨#[]⟩] w fun e w' => e = .returned (.bool false) ∧ w = w' := by
    go_enter Tryz.func57, Tryz.ntmps57
    go_wp2_with (go_at_call 95; refine (Hst.out _).mono ?_; rintro e w' ⟨rfl, rfl⟩)
    go_ret
    exact ⟨rfl, rfl⟩
  go_enter Tryz.func16, Tryz.ntmps16
  go_wp2_with fail
  refine hg.mono ?_; rintro e w1 ⟨rfl, rfl⟩
  go_wp2_with fail
  go_ret2
  exact ⟨rfl, Below.refl _ _⟩
theorem orderOf_yes (n K : Nat) (q : ByteArray) (w : World) (hn : n ≤ 8) (h3 : 3 ≤ n) (hp : PermR n q) (hq : RowIn n q) (hK : IsOrd n q K) (hKb : K ≤ 16777216) : Calls Tryz.prog 16 #[.string q] w fun e w' => e = .returned (.tuple #[.int .i64 K, .bool true]) ∧ Below w.heap.size w w' := by
  have Hg := Lib.hid (fun W => goodRowG_yes n q W hn h3 hp)
  have Hpw := Lib.hid (fun W => powers_any q n K W hn hq hK hKb)
  have hlen := Lib.hid (powL_len n q K)
  clear hp hq hK
  go_enter Tryz.func16, Tryz.ntmps16
  go_wp2_with fail
  refine (Hg.out _).mono ?_; rintro e w1 ⟨rfl, rfl⟩
  go_wp2_with fail
  refine (Hpw.out _).mono ?_; rintro e w2 ⟨A, q1, rfl, _, hb2⟩
  have hB := Lib.hid hb2
  clear hb2
  go_wp2_with fail
  go_ret2
  exact ⟨rfl, hB.out⟩
end Go.Proofs.YtheppimoncokcaaGreat

/- Contracts: a number as text, both sides. -/
namespace Go.Proofs.YtheppimoncokcaaGreat
open Go Go.RowKit
set_option linter.unusedVariables false
set_option linter.unusedSimpArgs false

/-- The library's table of powers of ten lies in w, and stays. -/
def Tab10 (w : World) : Prop := ∀ w', Below w.heap.size w w' → Lib.TabIs Tryz.prog w' "internal/strconv.uint64pow10" .u64 Lib.pow10Tab
theorem Tab10.to {w w' : World} (h : Tab10 w) (hb : Below w.heap.size w w') : Tab10 w' := fun w2 h2 => h w2 (bw_to hb h2)
def numT (n : Int) : ByteArray := ⟨(Lib.itoa n).toArray⟩
theorem dec_len : ∀ (k u : Nat), u < 10 ^ (k + 1) → (Lib.decDigits u).length ≤ k + 1
  | 0, u, h => by rw [Lib.decDigits, dif_pos (by simpa using h)]; simp
  | k + 1, u, h => by
    by_cases hs : u < 10
    · rw [Lib.decDigits, dif_pos hs]; simp
    · rw [Lib.decDigits, dif_neg hs, List.length_append]
      have := dec_len k (u / 10) (Nat.div_lt_of_lt_mul (by rw [Nat.pow_succ] at h; omega))
      simp; omega
theorem numT_size {n : Int} (h0 : -1000000000000 ≤ n) (h1 : n ≤ 1000000000000) : (numT n).size ≤ 14 := by
  show (Lib.itoa n).toArray.size ≤ 14
  rw [List.size_toArray]
  unfold Lib.itoa
  split
  · have := dec_len 12 n.natAbs (by omega)
    simp; omega
  · have := dec_len 12 n.toNat (by omega)
    omega
theorem numT_nat (n : Nat) : numT n = ⟨(Lib.decDigits n).toArray⟩ := by unfold numT Lib.itoa; rw [if_neg (by omega)]; rfl
theorem numT_small {n : Nat} (h : n < 10) : numT n = digit n := by
  rw [numT_nat, Lib.decDigits, dif_pos h]
  unfold digit
  rw [Nat.mod_eq_of_lt h]
theorem numT_big {n : Nat} (h : ¬ n < 10) : numT n = numT ((n / 10 : Nat) : Int) ++ digit n := by
  rw [numT_nat, numT_nat, Lib.decDigits, dif_neg h]
  unfold digit
  apply ByteArray.ext
  simp
theorem below_grow {w : World} (os : Array Obj) (k : Nat) : Below w.heap.size w (Go.Sort.grow (w.drewN k) os) := by
  have h := bw_dr (Below.refl w.heap.size w) k
  refine ⟨h.os, h.tape, h.output, ?_, fun i hi => ?_⟩
  · show w.heap.size ≤ (w.heap ++ os).size
    simp
  · show (w.heap ++ os)[i]? = _
    rw [Array.getElem?_append_left hi]
theorem one_byte_small {P : Program} {src dst e : TypeId} (hs : P.underlying src = some (.slice e)) (he : P.underlying e = some (.int .u8)) (hd : P.underlying dst = some .string) (W : World) (n : Nat) (hn : n < 10) :
    (convert src dst (.slice (some ⟨W.heap.size, 0, none⟩) 1 1)).run P (W.alloc (.cells #[.int .u8 (48 + (n : Int))] e)) = .ok (.string (digit n)) (W.alloc (.cells #[.int .u8 (48 + (n : Int))] e)) := by
  have h := one_byte hs he hd W n
  rw [show (n : Int) % 10 = n from by omega] at h
  exact h
theorem one_byte_at {P : Program} {src dst e : TypeId} (hs : P.underlying src = some (.slice e)) (he : P.underlying e = some (.int .u8)) (hd : P.underlying dst = some .string) (n : Nat) (W : World) (g : Nat) (hc : W.cell? ⟨g, 0, none⟩ = some (.int .u8 (48 + (n : Int) % 10))) :
    (convert src dst (.slice (some ⟨g, 0, none⟩) 1 1)).run P W = .ok (.string (digit n)) W := by
  refine run_convert_bytes_back _ src dst e ⟨g, 0, none⟩ 1 [UInt8.ofNat (48 + n % 10)] hs he hd (fun j hj => ?_)
  have : j = 0 := by simpa using hj
  subst this
  rw [Addr.add_lit, hc]
  simp
  omega
theorem cell_aft {X w' : World} {B g : Nat} {cs : Array Value} {e : TypeId} {v : Value} (hb : Below B X w') (hB : g < B) (hX : X.heap[g]? = some (.cells cs e (0, 0))) (hv : cs[0]? = some v) : w'.cell? ⟨g, 0, none⟩ = some v :=
  (hb.cell (p := ⟨g, 0, none⟩) hB).trans ((heap_cell hX 0).trans hv)
set_option maxRecDepth 10000 in
set_option maxHeartbeats 1000000 in
theorem l1Num_any (n : Nat) : ∀ (w : World), n ≤ 1000000000000 → Calls Tryz.prog 84 #[.int .i64 n] w fun e w' => e = .returned (.string (numT n)) ∧ Below w.heap.size w w' := by
  induction n using Nat.strongRecOn with
  | _ n ih =>
    intro w hn
    by_cases hlt : n < 10
    · have hcv := fun W => one_byte_small (n := n) Tryz.underlying22 Tryz.underlying5 Tryz.underlying9 W hlt
      go_enter Tryz.func84, Tryz.ntmps84
      go_wp2_with fail
      go_ret
      exact ⟨by rw [numT_small hlt]; rfl, bw_al (Below.refl _ _) _⟩
    · have hcv := one_byte_at (n := n) Tryz.underlying22 Tryz.underlying5 Tryz.underlying9
      go_enter Tryz.func84, Tryz.ntmps84
      go_wp2_with fail
      have hst := Below.refl w.heap.size w
      have hq : ((n / 10 : Nat) : Int) = (n : Int) / 10 := by omega
      have ih' := fun W => ih (n / 10) (by omega) W (by omega)
      have hsz : (numT ((n / 10 : Nat) : Int)).size ≤ 14 := numT_size (by omega) (by omega)
      rw [hq] at hsz
      simp only [hq] at ih'
      have Ih := Lib.hid ih'
      have Hq := Lib.hid hq
      have hds : (digit n).size = 1 := rfl
      have hov : ¬ 9223372036854775807 < (numT ((n : Int) / 10)).size + 1 := by omega
      have hov2 : (numT ((n : Int) / 10)).size + 1 ≤ 9223372036854775807 := by omega
      have hw3 : ((n : Int)).tmod 10 = (n : Int) % 10 := Int.tmod_eq_emod_of_nonneg (by omega)
      have hw4 : IntKind.u8.wrap (48 + (n : Int) % 10) = 48 + (n : Int) % 10 := by unfold IntKind.wrap; simp [IntKind.signed, IntKind.bits]; omega
      have hw2 : IntKind.i64.wrap ((n : Int) / 10) = (n : Int) / 10 := IntWalk.i64_in _ (by omega)
      have hw1 : IntKind.i64.wrap (48 + (n : Int) % 10) = 48 + (n : Int) % 10 := IntWalk.i64_in _ (by omega)
      clear ih ih' hq
      have Hn := Lib.hid hn
      clear hn
      have HB := Lib.hid hst
      clear hst
      go_region_with (go_at_call 84; refine (Ih.out _).mono ?_; rintro e w' ⟨rfl, hb'⟩; (try have hc7 := cell_aft (v := .int .u8 (48 + (n : Int) % 10)) hb' (g := w.heap.size) (by simp) (heap_new w (.cells #[.int .u8 (48 + (n : Int) % 10)] 5)) rfl))
      all_goals
        go_wp2_with fail
        go_ret
        exact ⟨by rw [numT_big hlt, Hq.out]; rfl, by first | exact bw_al (bw_to (Below.drew HB.out) hb') _ | exact bw_to (Below.drew (bw_al HB.out _)) hb'⟩
end Go.Proofs.YtheppimoncokcaaGreat
