/- Contracts of the library laid at this program (the kit's shelf, its plain mode). -/
import Derived.Shelf.Strconv.Itoa0
import Derived.Shelf.Strconv.Itoa1
import Derived.Shelf.LaysM
import Derived.Shelf.Strconv.Itoa2
import Derived.Shelf.Strconv.Itoa3
import Derived.Test.YtimeecimaokldaaGreatDoorProg
import Derived.Test.YtimeecimaokldaaGreatDoorPk3
import Derived.Lib.AppendIntMem
import Derived.Lib.ItoaNum
import Derived.Test.YtimeecimaokldaaGreatDoorPk12
namespace Go.Proofs
open Go.Shelf
def Tryz.laysM171_ren : Go.Shelf.Ren := ⟨fun | 171 => 123 | 243 => 157 | 246 => 195 | 283 => 218 | 284 => 219 | 285 => 220 | 286 => 221 | 129 => 230 | 317 => 229 | 318 => 231 | 319 => 232 | 320 => 233 | 337 => 235 | 338 => 236 | n => n, fun | 3 => 3 | 9 => 9 | 2 => 2 | 4 => 4 | 171 => 196 | 0 => 0 | 53 => 97 | 37 => 53 | 5 => 5 | 173 => 199 | 212 => 207 | 51 => 208 | 20 => 20 | 213 => 209 | 46 => 155 | 232 => 213 | 233 => 214 | n => n, fun | 17 => 0 | 18 => 1 | 19 => 2 | n => n⟩
theorem Tryz.laysM171 : Go.Proofs.LaysM.n171 Tryz.prog Tryz.laysM171_ren := {
  mixed := by kernel_rfl
  f129 := Tryz.func230.trans (congrArg some (by kernel_rfl))
  f171 := Tryz.func123.trans (congrArg some (by kernel_rfl))
  f243 := Tryz.func157.trans (congrArg some (by kernel_rfl))
  f246 := Tryz.func195.trans (congrArg some (by kernel_rfl))
  f283 := Tryz.func218.trans (congrArg some (by kernel_rfl))
  f284 := Tryz.func219.trans (congrArg some (by kernel_rfl))
  f285 := Tryz.func220.trans (congrArg some (by kernel_rfl))
  f286 := Tryz.func221.trans (congrArg some (by kernel_rfl))
  f317 := Tryz.func229.trans (congrArg some (by kernel_rfl))
  f318 := Tryz.func231.trans (congrArg some (by kernel_rfl))
  f319 := Tryz.func232.trans (congrArg some (by kernel_rfl))
  f320 := Tryz.func233.trans (congrArg some (by kernel_rfl))
  f337 := Tryz.func235.trans (congrArg some (by kernel_rfl))
  f338 := Tryz.func236.trans (congrArg some (by kernel_rfl))
  t0 := Tryz.underlying0
  a0 := Tryz.isAgg0
  z0 := Tryz.sizeOf0
  v0 := Tryz.zeroValue0
  t2 := Tryz.underlying2
  a2 := Tryz.isAgg2
  z2 := Tryz.sizeOf2
  v2 := Tryz.zeroValue2
  t3 := Tryz.underlying3
  a3 := Tryz.isAgg3
  z3 := Tryz.sizeOf3
  v3 := Tryz.zeroValue3
  t4 := Tryz.underlying4
  a4 := Tryz.isAgg4
  z4 := Tryz.sizeOf4
  v4 := Tryz.zeroValue4
  t5 := Tryz.underlying5
  a5 := Tryz.isAgg5
  z5 := Tryz.sizeOf5
  v5 := Tryz.zeroValue5
  t9 := Tryz.underlying9
  a9 := Tryz.isAgg9
  z9 := Tryz.sizeOf9
  v9 := Tryz.zeroValue9
  t20 := Tryz.underlying20
  a20 := Tryz.isAgg20
  z20 := Tryz.sizeOf20
  v20 := Tryz.zeroValue20
  t37 := Tryz.underlying53
  a37 := Tryz.isAgg53
  z37 := Tryz.sizeOf53
  v37 := Tryz.zeroValue53
  t46 := Tryz.underlying155
  a46 := Tryz.isAgg155
  z46 := Tryz.sizeOf155
  v46 := Tryz.zeroValue155
  t51 := Tryz.underlying208
  a51 := Tryz.isAgg208
  z51 := Tryz.sizeOf208
  v51 := Tryz.zeroValue208
  t53 := Tryz.underlying97
  a53 := Tryz.isAgg97
  z53 := Tryz.sizeOf97
  v53 := Tryz.zeroValue97
  t171 := Tryz.underlying196
  a171 := Tryz.isAgg196
  z171 := Tryz.sizeOf196
  v171 := Tryz.zeroValue196
  t173 := Tryz.underlying199
  a173 := Tryz.isAgg199
  z173 := Tryz.sizeOf199
  v173 := Tryz.zeroValue199
  t212 := Tryz.underlying207
  a212 := Tryz.isAgg207
  z212 := Tryz.sizeOf207
  v212 := Tryz.zeroValue207
  t213 := Tryz.underlying209
  a213 := Tryz.isAgg209
  z213 := Tryz.sizeOf209
  t232 := Tryz.underlying213
  a232 := Tryz.isAgg213
  z232 := Tryz.sizeOf213
  v232 := Tryz.zeroValue213
  t233 := Tryz.underlying214
  a233 := Tryz.isAgg214
  z233 := Tryz.sizeOf214
  v233 := Tryz.zeroValue214
  g17 := by kernel_rfl
  g18 := by kernel_rfl
  g19 := by kernel_rfl
  i0 := by kernel_rfl
  i2 := by kernel_rfl
  i3 := by kernel_rfl
  i4 := by kernel_rfl
  i5 := by kernel_rfl
  i9 := by kernel_rfl
  i20 := by kernel_rfl
  i37 := by kernel_rfl
  i46 := by kernel_rfl
  i51 := by kernel_rfl
  i53 := by kernel_rfl
  i171 := by kernel_rfl
  i173 := by kernel_rfl
  i212 := by kernel_rfl
  i232 := by kernel_rfl
  i233 := by kernel_rfl
  m17 := by kernel_rfl
  m18 := by kernel_rfl
  m19 := by kernel_rfl }
open Go.RowKit Go.Sort Go.Lib in
theorem Tryz.strconv_Itoa (n : Int) (h0 : -9223372036854775808 ≤ n) (h1 : n ≤ 9223372036854775807) (w : World) (htab : Lib.TabIs Tryz.prog w "internal/strconv.uint64pow10" .u64 Lib.pow10Tab) :
    Calls Tryz.prog 123 #[.int .i64 n] w fun e w' => e = .returned (.string ⟨(Lib.itoa n).toArray⟩) ∧ ∃ k os, w' = grow (w.drewN k) os := Any.strconv_Itoa Tryz.laysM171 n h0 h1 w htab
end Go.Proofs

/- Contracts: a number as text, both sides. -/
namespace Go.Proofs.YtimeecimaokldaaGreatDoor
open Go Go.RowKit
set_option linter.unusedVariables false
set_option linter.unusedSimpArgs false

/-- The library's table of powers of ten lies in w, and stays. -/
def Tab10 (w : World) : Prop := ∀ w', Below w.heap.size w w' → Lib.TabIs Tryz.prog w' "internal/strconv.uint64pow10" .u64 Lib.pow10Tab
theorem Tab10.to {w w' : World} (h : Tab10 w) (hb : Below w.heap.size w w') : Tab10 w' := fun w2 h2 => h w2 (bw_to hb h2)
def numT (n : Int) : ByteArray := ⟨(Lib.itoa n).toArray⟩
theorem dec_len : ∀ (k u : Nat), u < 10 ^ (k + 1) → (Lib.decDigits u).length ≤ k + 1
  | 0, u, h => by rw [Lib.decDigits, dif_pos (by simpa using h)]; simp
  | k + 1, u, h => by
    by_cases hs : u < 10
    · rw [Lib.decDigits, dif_pos hs]; simp
    · rw [Lib.decDigits, dif_neg hs, List.length_append]
      have := dec_len k (u / 10) (Nat.div_lt_of_lt_mul (by rw [Nat.pow_succ] at h; omega))
      simp; omega
theorem numT_size {n : Int} (h0 : -1000000000000 ≤ n) (h1 : n ≤ 1000000000000) : (numT n).size ≤ 14 := by
  show (Lib.itoa n).toArray.size ≤ 14
  rw [List.size_toArray]
  unfold Lib.itoa
  split
  · have := dec_len 12 n.natAbs (by omega)
    simp; omega
  · have := dec_len 12 n.toNat (by omega)
    omega
theorem numT_nat (n : Nat) : numT n = ⟨(Lib.decDigits n).toArray⟩ := by unfold numT Lib.itoa; rw [if_neg (by omega)]; rfl
theorem numT_small {n : Nat} (h : n < 10) : numT n = digit n := by
  rw [numT_nat, Lib.decDigits, dif_pos h]
  unfold digit
  rw [Nat.mod_eq_of_lt h]
theorem numT_big {n : Nat} (h : ¬ n < 10) : numT n = numT ((n / 10 : Nat) : Int) ++ digit n := by
  rw [numT_nat, numT_nat, Lib.decDigits, dif_neg h]
  unfold digit
  apply ByteArray.ext
  simp
theorem below_grow {w : World} (os : Array Obj) (k : Nat) : Below w.heap.size w (Go.Sort.grow (w.drewN k) os) := by
  have h := bw_dr (Below.refl w.heap.size w) k
  refine ⟨h.os, h.tape, h.output, ?_, fun i hi => ?_⟩
  · show w.heap.size ≤ (w.heap ++ os).size
    simp
  · show (w.heap ++ os)[i]? = _
    rw [Array.getElem?_append_left hi]
set_option maxHeartbeats 1000000 in
theorem decimal_any (n : Int) (w : World) (h0 : -1000000000000 ≤ n) (h1 : n ≤ 1000000000000) (ht : Tab10 w) : Calls Tryz.prog 80 #[.int .i64 n] w fun e w' => e = .returned (.string (numT n)) ∧ Below w.heap.size w w' := by
  have Ht := Lib.hid (ht w (Below.refl _ _))
  clear ht
  go_enter Tryz.func80, Tryz.ntmps80
  go_wp2_with fail
  refine (Tryz.strconv_Itoa n (by omega) (by omega) w Ht.out).mono ?_; rintro e w' ⟨rfl, k, os, rfl⟩
  go_wp2_with fail
  go_ret
  exact ⟨rfl, below_grow _ _⟩
theorem one_byte_small {P : Program} {src dst e : TypeId} (hs : P.underlying src = some (.slice e)) (he : P.underlying e = some (.int .u8)) (hd : P.underlying dst = some .string) (W : World) (n : Nat) (hn : n < 10) :
    (convert src dst (.slice (some ⟨W.heap.size, 0, none⟩) 1 1)).run P (W.alloc (.cells #[.int .u8 (48 + (n : Int))] e)) = .ok (.string (digit n)) (W.alloc (.cells #[.int .u8 (48 + (n : Int))] e)) := by
  have h := one_byte hs he hd W n
  rw [show (n : Int) % 10 = n from by omega] at h
  exact h
theorem one_byte_at {P : Program} {src dst e : TypeId} (hs : P.underlying src = some (.slice e)) (he : P.underlying e = some (.int .u8)) (hd : P.underlying dst = some .string) (n : Nat) (W : World) (g : Nat) (hc : W.cell? ⟨g, 0, none⟩ = some (.int .u8 (48 + (n : Int) % 10))) :
    (convert src dst (.slice (some ⟨g, 0, none⟩) 1 1)).run P W = .ok (.string (digit n)) W := by
  refine run_convert_bytes_back _ src dst e ⟨g, 0, none⟩ 1 [UInt8.ofNat (48 + n % 10)] hs he hd (fun j hj => ?_)
  have : j = 0 := by simpa using hj
  subst this
  rw [Addr.add_lit, hc]
  simp
  omega
theorem cell_aft {X w' : World} {B g : Nat} {cs : Array Value} {e : TypeId} {v : Value} (hb : Below B X w') (hB : g < B) (hX : X.heap[g]? = some (.cells cs e (0, 0))) (hv : cs[0]? = some v) : w'.cell? ⟨g, 0, none⟩ = some v :=
  (hb.cell (p := ⟨g, 0, none⟩) hB).trans ((heap_cell hX 0).trans hv)
set_option maxRecDepth 10000 in
set_option maxHeartbeats 1000000 in
theorem l1Num_any (n : Nat) : ∀ (w : World), n ≤ 1000000000000 → Calls Tryz.prog 134 #[.int .i64 n] w fun e w' => e = .returned (.string (numT n)) ∧ Below w.heap.size w w' := by
  induction n using Nat.strongRecOn with
  | _ n ih =>
    intro w hn
    by_cases hlt : n < 10
    · have hcv := fun W => one_byte_small (n := n) Tryz.underlying53 Tryz.underlying5 Tryz.underlying9 W hlt
      go_enter Tryz.func134, Tryz.ntmps134
      go_wp2_with fail
      go_ret
      exact ⟨by rw [numT_small hlt]; rfl, bw_al (Below.refl _ _) _⟩
    · have hcv := one_byte_at (n := n) Tryz.underlying53 Tryz.underlying5 Tryz.underlying9
      go_enter Tryz.func134, Tryz.ntmps134
      go_wp2_with fail
      have hst := Below.refl w.heap.size w
      have hq : ((n / 10 : Nat) : Int) = (n : Int) / 10 := by omega
      have ih' := fun W => ih (n / 10) (by omega) W (by omega)
      have hsz : (numT ((n / 10 : Nat) : Int)).size ≤ 14 := numT_size (by omega) (by omega)
      rw [hq] at hsz
      simp only [hq] at ih'
      have Ih := Lib.hid ih'
      have Hq := Lib.hid hq
      have hds : (digit n).size = 1 := rfl
      have hov : ¬ 9223372036854775807 < (numT ((n : Int) / 10)).size + 1 := by omega
      have hov2 : (numT ((n : Int) / 10)).size + 1 ≤ 9223372036854775807 := by omega
      have hw3 : ((n : Int)).tmod 10 = (n : Int) % 10 := Int.tmod_eq_emod_of_nonneg (by omega)
      have hw4 : IntKind.u8.wrap (48 + (n : Int) % 10) = 48 + (n : Int) % 10 := by unfold IntKind.wrap; simp [IntKind.signed, IntKind.bits]; omega
      have hw2 : IntKind.i64.wrap ((n : Int) / 10) = (n : Int) / 10 := IntWalk.i64_in _ (by omega)
      have hw1 : IntKind.i64.wrap (48 + (n : Int) % 10) = 48 + (n : Int) % 10 := IntWalk.i64_in _ (by omega)
      clear ih ih' hq
      have Hn := Lib.hid hn
      clear hn
      have HB := Lib.hid hst
      clear hst
      go_region_with (go_at_call 134; refine (Ih.out _).mono ?_; rintro e w' ⟨rfl, hb'⟩; (try have hc7 := cell_aft (v := .int .u8 (48 + (n : Int) % 10)) hb' (g := w.heap.size) (by simp) (heap_new w (.cells #[.int .u8 (48 + (n : Int) % 10)] 5)) rfl))
      all_goals
        go_wp2_with fail
        go_ret
        exact ⟨by rw [numT_big hlt, Hq.out]; rfl, by first | exact bw_al (bw_to (Below.drew HB.out) hb') _ | exact bw_to (Below.drew (bw_al HB.out _)) hb'⟩
end Go.Proofs.YtimeecimaokldaaGreatDoor

/- Plain: where a change moves a bell; a band's state and its steps. -/
namespace Go.Proofs.YtimeecimaokldaaGreatDoor
open Go Go.RowKit
set_option linter.unusedVariables false
set_option linter.unusedSimpArgs false

def movL : List Nat → Nat → Nat
  | [], p => p
  | q :: l, p => if p = q then q + 1 else if p = q + 1 then q else movL l p
def Gap : Nat → List Nat → Prop
  | _, [] => True
  | lo, q :: l => lo ≤ q ∧ Gap (q + 2) l
theorem Gap.mono : ∀ {l : List Nat} {a b : Nat}, Gap b l → a ≤ b → Gap a l
  | [], _, _, _, _ => trivial
  | q :: l, a, b, h, hab => ⟨Nat.le_trans hab h.1, h.2⟩
theorem movL_low : ∀ {l : List Nat} {lo p : Nat}, Gap lo l → p < lo → movL l p = p
  | [], _, _, _, _ => rfl
  | q :: l, lo, p, h, hp => by
    have h1 := h.1
    rw [movL, if_neg (by omega), if_neg (by omega)]
    exact movL_low (h.2.mono (show q + 2 ≤ q + 2 by omega)) (by omega)
theorem movL_ge : ∀ {l : List Nat} {lo p : Nat}, Gap lo l → lo ≤ p → lo ≤ movL l p
  | [], _, _, _, h => h
  | q :: l, lo, p, h, hp => by
    have h1 := h.1
    rw [movL]
    by_cases e : p = q
    · rw [if_pos e]; omega
    · rw [if_neg e]
      by_cases e2 : p = q + 1
      · rw [if_pos e2]; exact h1
      · rw [if_neg e2]
        rcases Nat.lt_or_ge p (q + 2) with h3 | h3
        · rw [movL_low h.2 h3]; exact hp
        · have := movL_ge h.2 h3; omega
theorem movL_inv : ∀ {l : List Nat} {lo : Nat} (p : Nat), Gap lo l → movL l (movL l p) = p
  | [], _, _, _ => rfl
  | q :: l, lo, p, h => by
    by_cases e : p = q
    · subst e
      rw [show movL (p :: l) p = p + 1 by simp [movL]]
      simp [movL]
    · by_cases e2 : p = q + 1
      · subst e2
        rw [show movL (q :: l) (q + 1) = q by simp [movL]]
        simp [movL]
      · have h1 : movL (q :: l) p = movL l p := by rw [movL, if_neg e, if_neg e2]
        rw [h1]
        rcases Nat.lt_or_ge p (q + 2) with h3 | h3
        · rw [movL_low h.2 h3, h1, movL_low h.2 h3]
        · have h4 := movL_ge h.2 h3
          rw [movL, if_neg (by omega), if_neg (by omega)]
          exact movL_inv p h.2
theorem movL_rng : ∀ {l : List Nat} {p n : Nat}, (∀ q ∈ l, 1 ≤ q ∧ q < n) → 1 ≤ p → p ≤ n → 1 ≤ movL l p ∧ movL l p ≤ n
  | [], _, _, _, h1, h2 => ⟨h1, h2⟩
  | q :: l, p, n, h, h1, h2 => by
    have hq := h q (List.mem_cons_self ..)
    rw [movL]
    by_cases e : p = q
    · rw [if_pos e]; omega
    · rw [if_neg e]
      by_cases e2 : p = q + 1
      · rw [if_pos e2]; omega
      · rw [if_neg e2]; exact movL_rng (fun x hx => h x (List.mem_cons_of_mem _ hx)) h1 h2
theorem swapAt_get {b : List UInt8} {q y : Nat} (hq : 1 ≤ q ∧ q < b.length) (hy : 1 ≤ y) : (swapAt b q).getD (y - 1) 0 = b.getD ((if y = q then q + 1 else if y = q + 1 then q else y) - 1) 0 := by
  unfold swapAt
  by_cases e : y = q
  · subst e
    rw [if_pos rfl, List.getD_eq_getElem?_getD, List.getElem?_set_ne (by omega), List.getElem?_set_self (by omega)]
    rfl
  · rw [if_neg e]
    by_cases e2 : y = q + 1
    · subst e2
      rw [if_pos rfl, List.getD_eq_getElem?_getD, show q + 1 - 1 = q by omega, List.getElem?_set_self (by simp; omega)]
      rfl
    · rw [if_neg e2, List.getD_eq_getElem?_getD, List.getElem?_set_ne (by omega), List.getElem?_set_ne (by omega), List.getD_eq_getElem?_getD]
theorem fold_get : ∀ {l : List Nat} {b : List UInt8} {lo y : Nat}, Gap lo l → (∀ q ∈ l, 1 ≤ q ∧ q < b.length) → 1 ≤ y → (l.foldl swapAt b).getD (y - 1) 0 = b.getD (movL l y - 1) 0
  | [], b, lo, y, _, _, _ => rfl
  | q :: l, b, lo, y, hg, hl, hy => by
    have hq := hl q (List.mem_cons_self ..)
    have hm : 1 ≤ movL l y := by
      rcases Nat.lt_or_ge y (q + 2) with h3 | h3
      · rw [movL_low hg.2 h3]; exact hy
      · have := movL_ge hg.2 h3; omega
    rw [List.foldl_cons, fold_get hg.2 (fun x hx => by rw [swapAt_len]; exact hl x (List.mem_cons_of_mem _ hx)) hy, swapAt_get hq hm]
    congr 2
    rw [movL]
    by_cases e : y = q
    · subst e
      rw [movL_low hg.2 (by omega), if_pos rfl]
    · rw [if_neg (c := y = q) e]
      by_cases e2 : y = q + 1
      · subst e2
        rw [movL_low hg.2 (by omega), if_neg (by omega), if_pos rfl]
      · rw [if_neg (c := y = q + 1) e2]
        rcases Nat.lt_or_ge y (q + 2) with h3 | h3
        · rw [movL_low hg.2 h3, if_neg e, if_neg e2]
        · have := movL_ge hg.2 h3
          rw [if_neg (by omega), if_neg (by omega)]
theorem swaps_gap {c : List UInt8} {n : Nat} (f : Nat) : ∀ (p : Nat), n - p ≤ f → Gap p (swapsW c n p) := by
  induction f with
  | zero => intro p hf; rw [swapsW_end (by omega)]; trivial
  | succ f ih =>
    intro p hf
    by_cases h : p < n
    · cases hs : stays c p
      · rw [swapsW_swap h hs]; exact ⟨Nat.le_refl _, ih (p + 2) (by omega)⟩
      · rw [swapsW_stay h hs]; exact (ih (p + 1) (by omega)).mono (by omega)
    · rw [swapsW_end h]; trivial
/-- The position to which a change moves a bell. -/
def movB (n : Nat) (c : ByteArray) (p : Nat) : Nat := movL (swapsW c.data.toList n 1) p
theorem swaps_in {n : Nat} {c : List UInt8} : ∀ q ∈ swapsW c n 1, 1 ≤ q ∧ q < n := fun q hq => swapsW_mem (n - 1) 1 (by omega) q hq
theorem movB_rng {n p : Nat} (c : ByteArray) (h1 : 1 ≤ p) (h2 : p ≤ n) : 1 ≤ movB n c p ∧ movB n c p ≤ n := movL_rng swaps_in h1 h2
theorem movB_inv {n : Nat} (c : ByteArray) (p : Nat) : movB n c (movB n c p) = p := movL_inv (lo := 1) p (swaps_gap (n - 1) 1 (by omega))
/-- The bell at a position behind a change. -/
theorem ch_at {n y : Nat} (hn : n ≤ 8) (c : ByteArray) (h1 : 1 ≤ y) (h2 : y ≤ n) (h : y - 1 < (chB n c).size) : ((chB n c)[y - 1]).toNat = movB n c y + 48 := by
  have hr := movB_rng c h1 h2
  have e1 : (chB n c)[y - 1] = (chB n c).data.toList.getD (y - 1) 0 := by
    rw [List.getD_eq_getElem?_getD, List.getElem?_eq_getElem (by rw [bytes_len]; exact h), bytes_get _ _ h]; rfl
  have e2 : (chB n c).data.toList = (swapsW c.data.toList n 1).foldl swapAt (roundsL n) := by unfold chB chL; rw [ofL_list]
  rw [e1, e2, fold_get (lo := 1) (swaps_gap (n - 1) 1 (by omega)) (fun q hq => by rw [roundsL_len]; exact swaps_in q hq) h1, List.getD_eq_getElem?_getD, show movL (swapsW c.data.toList n 1) y = movB n c y from rfl, roundsL_get (by omega)]
  show (UInt8.ofNat _).toNat = _
  rw [UInt8.toNat_ofNat_of_lt' (by show 49 + (movB n c y - 1) < 256; omega)]
  omega
/-- A band's state: the change to come, the call, the true row, the ringers' places and deafness. -/
structure Bd where
  st : Nat
  call : ByteArray
  tr : ByteArray
  rs : List (Nat × Bool)
def rsC (p : Nat × Bool) : List Value := [.int .i64 p.1, .bool p.2]
def Bd.v (m : Mt) (k : Cl) (b : Bd) (v r : Value) : Value := .agg #[.string m.name, .int .i64 m.stage, v, .string k.bob, .string k.single, .int .i64 b.st, .string b.call, .string b.tr, r]
structure BGood (m : Mt) (k : Cl) (n : Nat) (b : Bd) : Prop where
  c : CGood m k n
  st : b.st < m.l.length
  call : ∃ x, b.call = callT x ∧ (x = 112 ∨ x = 98 ∨ x = 115)
  tr : RowIn n b.tr
  len : b.rs.length = n
  rs : ∀ p ∈ b.rs, 1 ≤ p.1 ∧ p.1 ≤ n
def ownC (m : Mt) (b : Bd) : ByteArray := m.l.getD b.st ⟨#[]⟩
def callC1 (b : Bd) : UInt8 := b.call.data.toList.getD 0 0
def hearC (m : Mt) (k : Cl) (b : Bd) : ByteArray := (calledL m.l k.bob k.single (callC1 b)).getD b.st ⟨#[]⟩
def movR (n : Nat) (own c : ByteArray) (p : Nat × Bool) : Nat × Bool := (movB n (if p.2 then own else c) p.1, p.2)
def stepB (m : Mt) (k : Cl) (n : Nat) (b : Bd) : Bd :=
  if b.st + 1 = m.l.length then ⟨0, ⟨#[112]⟩, applyB b.tr (hearC m k b), b.rs.map fun p => ((movR n (ownC m b) (hearC m k b) p).1, false)⟩
  else ⟨b.st + 1, b.call, applyB b.tr (hearC m k b), b.rs.map (movR n (ownC m b) (hearC m k b))⟩
theorem BGood.step {m : Mt} {k : Cl} {n : Nat} {b : Bd} (h : BGood m k n b) : BGood m k n (stepB m k n b) := by
  have hn := h.c.m.hi
  have hst := h.st
  unfold stepB
  split
  · refine ⟨h.c, by simp; omega, ⟨112, rfl, .inl rfl⟩, apply_in hn h.tr _, by simp [h.len], ?_⟩
    intro p hp
    obtain ⟨q, hq, rfl⟩ := List.mem_map.1 hp
    exact movB_rng _ (h.rs q hq).1 (h.rs q hq).2
  · refine ⟨h.c, by show b.st + 1 < m.l.length; omega, h.call, apply_in hn h.tr _, by simp [h.len], ?_⟩
    intro p hp
    obtain ⟨q, hq, rfl⟩ := List.mem_map.1 hp
    exact movB_rng _ (h.rs q hq).1 (h.rs q hq).2
def callB (b : Bd) (c : ByteArray) : Bd := { b with call := c }
def deafB (b : Bd) (i : Nat) : Bd := { b with rs := b.rs.set (i - 1) ((b.rs.getD (i - 1) (0, false)).1, true) }
theorem BGood.called {m : Mt} {k : Cl} {n : Nat} {b : Bd} (h : BGood m k n b) {x : UInt8} (hx : x = 112 ∨ x = 98 ∨ x = 115) : BGood m k n (callB b (callT x)) := ⟨h.c, h.st, ⟨x, rfl, hx⟩, h.tr, h.len, h.rs⟩
theorem BGood.deaf {m : Mt} {k : Cl} {n : Nat} {b : Bd} (h : BGood m k n b) {i : Nat} (h1 : 1 ≤ i) (h2 : i ≤ n) : BGood m k n (deafB b i) := by
  refine ⟨h.c, h.st, h.call, h.tr, by simp [deafB, h.len], ?_⟩
  intro p hp
  unfold deafB at hp
  rcases List.mem_or_eq_of_mem_set hp with hp | rfl
  · exact h.rs p hp
  · have hl := h.len
    have hi : i - 1 < b.rs.length := by omega
    have := h.rs _ (List.getElem_mem hi)
    rw [List.getD_eq_getElem?_getD, List.getElem?_eq_getElem hi]
    exact this
/-- The three kinds of acts that a touch makes. -/
inductive Act3 where
  | step
  | call (c : UInt8)
  | deaf (i : Nat)
def Act3.c : Act3 → List Value
  | .step => [.int .i64 1, .int .i64 0, .int .i64 0, .string ⟨#[]⟩]
  | .call c => [.int .i64 2, .int .i64 0, .int .i64 0, .string (callT c)]
  | .deaf i => [.int .i64 3, .int .i64 i, .int .i64 0, .string ⟨#[]⟩]
def Act3.ok (n : Nat) : Act3 → Prop
  | .step => True
  | .call c => c = 112 ∨ c = 98 ∨ c = 115
  | .deaf i => 1 ≤ i ∧ i ≤ n
def doB (m : Mt) (k : Cl) (n : Nat) (b : Bd) : Act3 → Bd
  | .step => stepB m k n b
  | .call c => callB b (callT c)
  | .deaf i => deafB b i
theorem BGood.done {m : Mt} {k : Cl} {n : Nat} {b : Bd} (h : BGood m k n b) {a : Act3} (ha : a.ok n) : BGood m k n (doB m k n b a) := by
  cases a with
  | step => exact h.step
  | call c => exact h.called ha
  | deaf i => exact h.deaf ha.1 ha.2
/-- The row of a band's ringers, as a text. -/
def rowP (p : Nat) : Nat → List (Nat × Bool) → ByteArray
  | _, [] => ⟨#[]⟩
  | i, r :: l => (if r.1 = p then numT ((i : Int) + 1) else ⟨#[]⟩) ++ rowP p (i + 1) l
def rowsPl (rs : List (Nat × Bool)) : Nat → ByteArray
  | 0 => ⟨#[]⟩
  | p + 1 => rowsPl rs p ++ rowP (p + 1) 0 rs
def rowOf (b : Bd) : ByteArray := rowsPl b.rs b.rs.length
def isStep : Act3 → Bool
  | .step => true
  | _ => false
/-- A band behind some acts, and its rows before each step. -/
def playB (m : Mt) (k : Cl) (n : Nat) (b : Bd) : List Act3 → Bd × List ByteArray
  | [] => (b, [])
  | a :: l => ((playB m k n (doB m k n b a) l).1, (if isStep a then [rowOf b] else []) ++ (playB m k n (doB m k n b a) l).2)
def newB (n : Nat) : Bd := ⟨0, ⟨#[112]⟩, roundsB n, (List.range n).map fun i => (i + 1, false)⟩
theorem newB_good {m : Mt} {k : Cl} {n : Nat} (h : CGood m k n) : BGood m k n (newB n) := by
  refine ⟨h, h.m.len.1, ⟨112, rfl, .inl rfl⟩, rounds_in h.m.hi, by simp [newB], ?_⟩
  intro p hp
  obtain ⟨i, hi, rfl⟩ := List.mem_map.1 hp
  have := List.mem_range.1 hi
  constructor <;> simp <;> omega
end Go.Proofs.YtimeecimaokldaaGreatDoor
