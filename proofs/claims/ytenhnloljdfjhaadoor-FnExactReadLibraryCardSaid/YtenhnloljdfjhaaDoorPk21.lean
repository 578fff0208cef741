/- Contracts: a number as text, both sides. -/
import Derived.Test.YtenhnloljdfjhaaDoorPk20
import Derived.Test.YtenhnloljdfjhaaDoorPk6
import Derived.Lib.AppendIntMem
import Derived.Lib.ItoaNum
import Derived.Test.YtenhnloljdfjhaaDoorPk3
namespace Go.Proofs.YtenhnloljdfjhaaDoor
open Go Go.RowKit
set_option linter.unusedVariables false
set_option linter.unusedSimpArgs false

/-- The library's table of powers of ten lies in w, and stays. -/
def Tab10 (w : World) : Prop := ∀ w', Below w.heap.size w w' → Lib.TabIs Tryd.prog w' "internal/strconv.uint64pow10" .u64 Lib.pow10Tab
theorem Tab10.to {w w' : World} (h : Tab10 w) (hb : Below w.heap.size w w') : Tab10 w' := fun w2 h2 => h w2 (bw_to hb h2)
def numT (n : Int) : ByteArray := ⟨(Lib.itoa n).toArray⟩
theorem dec_len : ∀ (k u : Nat), u < 10 ^ (k + 1) → (Lib.decDigits u).length ≤ k + 1
  | 0, u, h => by rw [Lib.decDigits, dif_pos (by simpa using h)]; simp
  | k + 1, u, h => by
    by_cases hs : u < 10
    · rw [Lib.decDigits, dif_pos hs]; simp
    · rw [Lib.decDigits, dif_neg hs, List.length_append]
      have := dec_len k (u / 10) (Nat.div_lt_of_lt_mul (by rw [Nat.pow_succ] at h; omega))
      simp; omega
theorem numT_size {n : Int} (h0 : -1000000000000 ≤ n) (h1 : n ≤ 1000000000000) : (numT n).size ≤ 14 := by
  show (Lib.itoa n).toArray.size ≤ 14
  rw [List.size_toArray]
  unfold Lib.itoa
  split
  · have := dec_len 12 n.natAbs (by omega)
    simp; omega
  · have := dec_len 12 n.toNat (by omega)
    omega
theorem numT_nat (n : Nat) : numT n = ⟨(Lib.decDigits n).toArray⟩ := by unfold numT Lib.itoa; rw [if_neg (by omega)]; rfl
theorem numT_small {n : Nat} (h : n < 10) : numT n = digit n := by
  rw [numT_nat, Lib.decDigits, dif_pos h]
  unfold digit
  rw [Nat.mod_eq_of_lt h]
theorem numT_big {n : Nat} (h : ¬ n < 10) : numT n = numT ((n / 10 : Nat) : Int) ++ digit n := by
  rw [numT_nat, numT_nat, Lib.decDigits, dif_neg h]
  unfold digit
  apply ByteArray.ext
  simp
theorem below_grow {w : World} (os : Array Obj) (k : Nat) : Below w.heap.size w (Go.Sort.grow (w.drewN k) os) := by
  have h := bw_dr (Below.refl w.heap.size w) k
  refine ⟨h.os, h.tape, h.output, ?_, fun i hi => ?_⟩
  · show w.heap.size ≤ (w.heap ++ os).size
    simp
  · show (w.heap ++ os)[i]? = _
    rw [Array.getElem?_append_left hi]
set_option maxHeartbeats 1000000 in
theorem decimal_any (n : Int) (w : World) (h0 : -1000000000000 ≤ n) (h1 : n ≤ 1000000000000) (ht : Tab10 w) : Calls Tryd.prog 35 #[.int .i64 n] w fun e w' => e = .returned (.string (numT n)) ∧ Below w.heap.size w w' := by
  have Ht := Lib.hid (ht w (Below.refl _ _))
  clear ht
  go_enter Tryd.func35, Tryd.ntmps35
  go_wp2_with fail
  refine (Tryd.strconv_Itoa n (by omega) (by omega) w Ht.out).mono ?_; rintro e w' ⟨rfl, k, os, rfl⟩
  go_wp2_with fail
  go_ret
  exact ⟨rfl, below_grow _ _⟩
theorem one_byte_small {P : Program} {src dst e : TypeId} (hs : P.underlying src = some (.slice e)) (he : P.underlying e = some (.int .u8)) (hd : P.underlying dst = some .string) (W : World) (n : Nat) (hn : n < 10) :
    (convert src dst (.slice (some ⟨W.heap.size, 0, none⟩) 1 1)).run P (W.alloc (.cells #[.int .u8 (48 + (n : Int))] e)) = .ok (.string (digit n)) (W.alloc (.cells #[.int .u8 (48 + (n : Int))] e)) := by
  have h := one_byte hs he hd W n
  rw [show (n : Int) % 10 = n from by omega] at h
  exact h
theorem one_byte_at {P : Program} {src dst e : TypeId} (hs : P.underlying src = some (.slice e)) (he : P.underlying e = some (.int .u8)) (hd : P.underlying dst = some .string) (n : Nat) (W : World) (g : Nat) (hc : W.cell? ⟨g, 0, none⟩ = some (.int .u8 (48 + (n : Int) % 10))) :
    (convert src dst (.slice (some ⟨g, 0, none⟩) 1 1)).run P W = .ok (.string (digit n)) W := by
  refine run_convert_bytes_back _ src dst e ⟨g, 0, none⟩ 1 [UInt8.ofNat (48 + n % 10)] hs he hd (fun j hj => ?_)
  have : j = 0 := by simpa using hj
  subst this
  rw [Addr.add_lit, hc]
  simp
  omega
theorem cell_aft {X w' : World} {B g : Nat} {cs : Array Value} {e : TypeId} {v : Value} (hb : Below B X w') (hB : g < B) (hX : X.heap[g]? = some (.cells cs e (0, 0))) (hv : cs[0]? = some v) : w'.cell? ⟨g, 0, none⟩ = some v :=
  (hb.cell (p := ⟨g, 0, none⟩) hB).trans ((heap_cell hX 0).trans hv)
set_option maxRecDepth 10000 in
set_option maxHeartbeats 1000000 in
theorem l1Num_any (n : Nat) : ∀ (w : World), n ≤ 1000000000000 → Calls Tryd.prog 29 #[.int .i64 n] w fun e w' => e = .returned (.string (numT n)) ∧ Below w.heap.size w w' := by
  induction n using Nat.strongRecOn with
  | _ n ih =>
    intro w hn
    by_cases hlt : n < 10
    · have hcv := fun W => one_byte_small (n := n) Tryd.underlying61 Tryd.underlying5 Tryd.underlying9 W hlt
      go_enter Tryd.func29, Tryd.ntmps29
      go_wp2_with fail
      go_ret
      exact ⟨by rw [numT_small hlt]; rfl, bw_al (Below.refl _ _) _⟩
    · have hcv := one_byte_at (n := n) Tryd.underlying61 Tryd.underlying5 Tryd.underlying9
      go_enter Tryd.func29, Tryd.ntmps29
      go_wp2_with fail
      have hst := Below.refl w.heap.size w
      have hq : ((n / 10 : Nat) : Int) = (n : Int) / 10 := by omega
      have ih' := fun W => ih (n / 10) (by omega) W (by omega)
      have hsz : (numT ((n / 10 : Nat) : Int)).size ≤ 14 := numT_size (by omega) (by omega)
      rw [hq] at hsz
      simp only [hq] at ih'
      have Ih := Lib.hid ih'
      have Hq := Lib.hid hq
      have hds : (digit n).size = 1 := rfl
      have hov : ¬ 9223372036854775807 < (numT ((n : Int) / 10)).size + 1 := by omega
      have hov2 : (numT ((n : Int) / 10)).size + 1 ≤ 9223372036854775807 := by omega
      have hw3 : ((n : Int)).tmod 10 = (n : Int) % 10 := Int.tmod_eq_emod_of_nonneg (by omega)
      have hw4 : IntKind.u8.wrap (48 + (n : Int) % 10) = 48 + (n : Int) % 10 := by unfold IntKind.wrap; simp [IntKind.signed, IntKind.bits]; omega
      have hw2 : IntKind.i64.wrap ((n : Int) / 10) = (n : Int) / 10 := IntWalk.i64_in _ (by omega)
      have hw1 : IntKind.i64.wrap (48 + (n : Int) % 10) = 48 + (n : Int) % 10 := IntWalk.i64_in _ (by omega)
      clear ih ih' hq
      have Hn := Lib.hid hn
      clear hn
      have HB := Lib.hid hst
      clear hst
      go_region_with (go_at_call 29; refine (Ih.out _).mono ?_; rintro e w' ⟨rfl, hb'⟩; (try have hc7 := cell_aft (v := .int .u8 (48 + (n : Int) % 10)) hb' (g := w.heap.size) (by simp) (heap_new w (.cells #[.int .u8 (48 + (n : Int) % 10)] 5)) rfl))
      all_goals
        go_wp2_with fail
        go_ret
        exact ⟨by rw [numT_big hlt, Hq.out]; rfl, by first | exact bw_al (bw_to (Below.drew HB.out) hb') _ | exact bw_to (Below.drew (bw_al HB.out _)) hb'⟩
end Go.Proofs.YtenhnloljdfjhaaDoor

/- Contracts: the text of a study, both sides. -/
namespace Go.Proofs.YtenhnloljdfjhaaDoor
open Go Go.RowKit
set_option linter.unusedVariables false
set_option linter.unusedSimpArgs false

def opt (c : Bool) (x t : ByteArray) : ByteArray := if c then t ++ x else t
def leadW : ByteArray := ⟨#[108, 101, 97, 100, 115, 32]⟩
def rowsW : ByteArray := ⟨#[44, 32, 114, 111, 119, 115, 32]⟩
def roundW : ByteArray := ⟨#[44, 32, 114, 111, 117, 110, 100]⟩
def trueW : ByteArray := ⟨#[44, 32, 116, 114, 117, 101]⟩
def evenW : ByteArray := ⟨#[44, 32, 101, 118, 101, 110]⟩
def scoreW : ByteArray := ⟨#[44, 32, 115, 99, 111, 114, 101, 32]⟩
def okS (a b s : Int) : Bool := decide (1 ≤ a ∧ a ≤ 60) && decide (1 ≤ b ∧ b ≤ 800) && decide (-1000000 ≤ s ∧ s ≤ 1000000)
def studyT (a b : Int) (p q r : Bool) (s : Int) : ByteArray := opt r evenW (opt q trueW (opt p roundW (leadW ++ numT a ++ rowsW ++ numT b))) ++ scoreW ++ numT s
def stT (a b : Int) (p q r : Bool) (s : Int) : ByteArray := if okS a b s then studyT a b p q r s else ⟨#[]⟩
theorem okS_no1 {a b s : Int} (h : ¬ (1 ≤ a ∧ a ≤ 60)) : okS a b s = false := by unfold okS; rw [decide_eq_false h]; rfl
theorem okS_no2 {a b s : Int} (h : ¬ (1 ≤ b ∧ b ≤ 800)) : okS a b s = false := by unfold okS; rw [decide_eq_false h, Bool.and_false]; rfl
theorem okS_no3 {a b s : Int} (h : ¬ (-1000000 ≤ s ∧ s ≤ 1000000)) : okS a b s = false := by unfold okS; rw [decide_eq_false h, Bool.and_false]
theorem okS_yes {a b s : Int} (h1 : 1 ≤ a ∧ a ≤ 60) (h2 : 1 ≤ b ∧ b ≤ 800) (h3 : -1000000 ≤ s ∧ s ≤ 1000000) : okS a b s = true := by unfold okS; rw [decide_eq_true h1, decide_eq_true h2, decide_eq_true h3]; rfl
theorem stT_no {a b s : Int} {p q r : Bool} (h : okS a b s = false) : stT a b p q r s = ⟨#[]⟩ := by unfold stT; rw [h]; rfl
theorem stT_yes {a b s : Int} {p q r : Bool} (h : okS a b s = true) : stT a b p q r s = studyT a b p q r s := by unfold stT; rw [h]; rfl
theorem l1Num_int (a : Int) (w : World) (h0 : 0 ≤ a) (h1 : a ≤ 1000000000000) : Calls Tryd.prog 29 #[.int .i64 a] w fun e w' => e = .returned (.string (numT a)) ∧ Below w.heap.size w w' := by
  obtain ⟨n, rfl⟩ : ∃ n : Nat, a = n := ⟨a.toNat, by omega⟩
  exact l1Num_any n w (by omega)
def zs (k : Nat) : ByteArray := ⟨(List.replicate k (48 : UInt8)).toArray⟩
theorem zs_size (k : Nat) : (zs k).size = k := by show (List.replicate k (48 : UInt8)).toArray.size = k; simp
theorem zs_one : numT 0 = zs 1 := (numT_small (n := 0) (by omega)).trans rfl
theorem zs_succ (k : Nat) : (⟨#[48]⟩ : ByteArray) ++ zs k = zs (k + 1) := by
  apply ByteArray.ext
  simp [zs, List.replicate_succ]
theorem mill : numT 1000000 = numT 1 ++ zs 6 := by
  have e1 : numT 1000000 = numT 100000 ++ digit 1000000 := numT_big (n := 1000000) (by omega)
  have e2 : numT 100000 = numT 10000 ++ digit 100000 := numT_big (n := 100000) (by omega)
  have e3 : numT 10000 = numT 1000 ++ digit 10000 := numT_big (n := 10000) (by omega)
  have e4 : numT 1000 = numT 100 ++ digit 1000 := numT_big (n := 1000) (by omega)
  have e5 : numT 100 = numT 10 ++ digit 100 := numT_big (n := 100) (by omega)
  have e6 : numT 10 = numT 1 ++ digit 10 := numT_big (n := 10) (by omega)
  rw [e1, e2, e3, e4, e5, e6]
  apply ByteArray.ext
  apply Array.toList_inj.1
  simp [zs, digit, List.replicate]
theorem numT_neg {n : Int} (h : n < 0) : numT n = (⟨#[45]⟩ : ByteArray) ++ numT (-n) := by
  unfold numT Lib.itoa
  rw [if_pos h, if_neg (by omega), show (-n).toNat = n.natAbs from by omega]
  apply ByteArray.ext
  simp
end Go.Proofs.YtenhnloljdfjhaaDoor
