/- Contracts: a number as text, both sides. -/
import Derived.Test.YtjiiflpoiaaccaaGreatPk10
import Derived.Test.YtjiiflpoiaaccaaGreatPk3
import Derived.Lib.AppendIntMem
import Derived.Lib.ItoaNum
import Derived.Test.YtjiiflpoiaaccaaGreatPk31
namespace Go.Proofs.YtjiiflpoiaaccaaGreat
open Go Go.RowKit
set_option linter.unusedVariables false
set_option linter.unusedSimpArgs false

/-- The library's table of powers of ten lies in w, and stays. -/
def Tab10 (w : World) : Prop := ∀ w', Below w.heap.size w w' → Lib.TabIs Tryz.prog w' "internal/strconv.uint64pow10" .u64 Lib.pow10Tab
theorem Tab10.to {w w' : World} (h : Tab10 w) (hb : Below w.heap.size w w') : Tab10 w' := fun w2 h2 => h w2 (bw_to hb h2)
def numT (n : Int) : ByteArray := ⟨(Lib.itoa n).toArray⟩
theorem dec_len : ∀ (k u : Nat), u < 10 ^ (k + 1) → (Lib.decDigits u).length ≤ k + 1
  | 0, u, h => by rw [Lib.decDigits, dif_pos (by simpa using h)]; simp
  | k + 1, u, h => by
    by_cases hs : u < 10
    · rw [Lib.decDigits, dif_pos hs]; simp
    · rw [Lib.decDigits, dif_neg hs, List.length_append]
      have := dec_len k (u / 10) (Nat.div_lt_of_lt_mul (by rw [Nat.pow_succ] at h; omega))
      simp; omega
theorem numT_size {n : Int} (h0 : -1000000000000 ≤ n) (h1 : n ≤ 1000000000000) : (numT n).size ≤ 14 := by
  show (Lib.itoa n).toArray.size ≤ 14
  rw [List.size_toArray]
  unfold Lib.itoa
  split
  · have := dec_len 12 n.natAbs (by omega)
    simp; omega
  · have := dec_len 12 n.toNat (by omega)
    omega
theorem numT_nat (n : Nat) : numT n = ⟨(Lib.decDigits n).toArray⟩ := by unfold numT Lib.itoa; rw [if_neg (by omega)]; rfl
theorem numT_small {n : Nat} (h : n < 10) : numT n = digit n := by
  rw [numT_nat, Lib.decDigits, dif_pos h]
  unfold digit
  rw [Nat.mod_eq_of_lt h]
theorem numT_big {n : Nat} (h : ¬ n < 10) : numT n = numT ((n / 10 : Nat) : Int) ++ digit n := by
  rw [numT_nat, numT_nat, Lib.decDigits, dif_neg h]
  unfold digit
  apply ByteArray.ext
  simp
theorem below_grow {w : World} (os : Array Obj) (k : Nat) : Below w.heap.size w (Go.Sort.grow (w.drewN k) os) := by
  have h := bw_dr (Below.refl w.heap.size w) k
  refine ⟨h.os, h.tape, h.output, ?_, fun i hi => ?_⟩
  · show w.heap.size ≤ (w.heap ++ os).size
    simp
  · show (w.heap ++ os)[i]? = _
    rw [Array.getElem?_append_left hi]
theorem one_byte_small {P : Program} {src dst e : TypeId} (hs : P.underlying src = some (.slice e)) (he : P.underlying e = some (.int .u8)) (hd : P.underlying dst = some .string) (W : World) (n : Nat) (hn : n < 10) :
    (convert src dst (.slice (some ⟨W.heap.size, 0, none⟩) 1 1)).run P (W.alloc (.cells #[.int .u8 (48 + (n : Int))] e)) = .ok (.string (digit n)) (W.alloc (.cells #[.int .u8 (48 + (n : Int))] e)) := by
  have h := one_byte hs he hd W n
  rw [show (n : Int) % 10 = n from by omega] at h
  exact h
theorem one_byte_at {P : Program} {src dst e : TypeId} (hs : P.underlying src = some (.slice e)) (he : P.underlying e = some (.int .u8)) (hd : P.underlying dst = some .string) (n : Nat) (W : World) (g : Nat) (hc : W.cell? ⟨g, 0, none⟩ = some (.int .u8 (48 + (n : Int) % 10))) :
    (convert src dst (.slice (some ⟨g, 0, none⟩) 1 1)).run P W = .ok (.string (digit n)) W := by
  refine run_convert_bytes_back _ src dst e ⟨g, 0, none⟩ 1 [UInt8.ofNat (48 + n % 10)] hs he hd (fun j hj => ?_)
  have : j = 0 := by simpa using hj
  subst this
  rw [Addr.add_lit, hc]
  simp
  omega
theorem cell_aft {X w' : World} {B g : Nat} {cs : Array Value} {e : TypeId} {v : Value} (hb : Below B X w') (hB : g < B) (hX : X.heap[g]? = some (.cells cs e (0, 0))) (hv : cs[0]? = some v) : w'.cell? ⟨g, 0, none⟩ = some v :=
  (hb.cell (p := ⟨g, 0, none⟩) hB).trans ((heap_cell hX 0).trans hv)
set_option maxRecDepth 10000 in
set_option maxHeartbeats 1000000 in
theorem l1Num_any (n : Nat) : ∀ (w : World), n ≤ 1000000000000 → Calls Tryz.prog 192 #[.int .i64 n] w fun e w' => e = .returned (.string (numT n)) ∧ Below w.heap.size w w' := by
  induction n using Nat.strongRecOn with
  | _ n ih =>
    intro w hn
    by_cases hlt : n < 10
    · have hcv := fun W => one_byte_small (n := n) Tryz.underlying37 Tryz.underlying5 Tryz.underlying9 W hlt
      go_enter Tryz.func192, Tryz.ntmps192
      go_wp2_with fail
      go_ret
      exact ⟨by rw [numT_small hlt]; rfl, bw_al (Below.refl _ _) _⟩
    · have hcv := one_byte_at (n := n) Tryz.underlying37 Tryz.underlying5 Tryz.underlying9
      go_enter Tryz.func192, Tryz.ntmps192
      go_wp2_with fail
      have hst := Below.refl w.heap.size w
      have hq : ((n / 10 : Nat) : Int) = (n : Int) / 10 := by omega
      have ih' := fun W => ih (n / 10) (by omega) W (by omega)
      have hsz : (numT ((n / 10 : Nat) : Int)).size ≤ 14 := numT_size (by omega) (by omega)
      rw [hq] at hsz
      simp only [hq] at ih'
      have Ih := Lib.hid ih'
      have Hq := Lib.hid hq
      have hds : (digit n).size = 1 := rfl
      have hov : ¬ 9223372036854775807 < (numT ((n : Int) / 10)).size + 1 := by omega
      have hov2 : (numT ((n : Int) / 10)).size + 1 ≤ 9223372036854775807 := by omega
      have hw3 : ((n : Int)).tmod 10 = (n : Int) % 10 := Int.tmod_eq_emod_of_nonneg (by omega)
      have hw4 : IntKind.u8.wrap (48 + (n : Int) % 10) = 48 + (n : Int) % 10 := by unfold IntKind.wrap; simp [IntKind.signed, IntKind.bits]; omega
      have hw2 : IntKind.i64.wrap ((n : Int) / 10) = (n : Int) / 10 := IntWalk.i64_in _ (by omega)
      have hw1 : IntKind.i64.wrap (48 + (n : Int) % 10) = 48 + (n : Int) % 10 := IntWalk.i64_in _ (by omega)
      clear ih ih' hq
      have Hn := Lib.hid hn
      clear hn
      have HB := Lib.hid hst
      clear hst
      go_region_with (go_at_call 192; refine (Ih.out _).mono ?_; rintro e w' ⟨rfl, hb'⟩; (try have hc7 := cell_aft (v := .int .u8 (48 + (n : Int) % 10)) hb' (g := w.heap.size) (by simp) (heap_new w (.cells #[.int .u8 (48 + (n : Int) % 10)] 5)) rfl))
      all_goals
        go_wp2_with fail
        go_ret
        exact ⟨by rw [numT_big hlt, Hq.out]; rfl, by first | exact bw_al (bw_to (Below.drew HB.out) hb') _ | exact bw_to (Below.drew (bw_al HB.out _)) hb'⟩
end Go.Proofs.YtjiiflpoiaaccaaGreat

/- Two bells change places in a row: plain, and the program's. -/
namespace Go.Proofs.YtjiiflpoiaaccaaGreat
open Go Go.RowKit
set_option linter.unusedVariables false
set_option linter.unusedSimpArgs false

def swapC (i j : Nat) (c : UInt8) : UInt8 := if c.toNat = i + 48 then UInt8.ofNat (j + 48) else if c.toNat = j + 48 then UInt8.ofNat (i + 48) else c
def swapB (i j : Nat) (r : ByteArray) : ByteArray := ofL (r.data.toList.map (swapC i j))
theorem u8_of {c : UInt8} {i : Nat} (h : c.toNat = i + 48) : UInt8.ofNat (i + 48) = c := by rw [← h]; exact UInt8.ofNat_toNat
theorem nd_inj {l : List UInt8} (hn : l.Nodup) {p q : Nat} (hp : p < l.length) (hq : q < l.length) (e : l[p] = l[q]) : p = q := by
  rcases Nat.lt_trichotomy p q with h | h | h
  · exact absurd e ((List.pairwise_iff_getElem.1 hn) p q hp hq h)
  · exact h
  · exact absurd e.symm ((List.pairwise_iff_getElem.1 hn) q p hq hp h)
/-- The two places of the bells change their bytes. -/
theorem swap_set {l : List UInt8} {i j a b : Nat} (hn : l.Nodup) (ha : a < l.length) (hb : b < l.length) (hai : l[a].toNat = i + 48) (hbj : l[b].toNat = j + 48) (hij : i ≠ j) : (l.set a l[b]).set b l[a] = l.map (swapC i j) := by
  apply List.ext_getElem (by simp)
  intro p h1 h2
  have hp : p < l.length := by simpa using h2
  rw [List.getElem_map]
  by_cases e : p = b
  · subst e
    rw [List.getElem_set_self]
    unfold swapC
    rw [if_neg (by omega), if_pos hbj, u8_of hai]
  · rw [List.getElem_set_ne (by omega)]
    by_cases e2 : p = a
    · subst e2
      rw [List.getElem_set_self]
      unfold swapC
      rw [if_pos hai, u8_of hbj]
    · rw [List.getElem_set_ne (by omega)]
      unfold swapC
      have h3 : ¬ l[p].toNat = i + 48 := fun h => e2 (nd_inj hn hp _ (UInt8.toNat_inj.1 (by rw [h, hai])))
      have h4 : ¬ l[p].toNat = j + 48 := fun h => e (nd_inj hn hp _ (UInt8.toNat_inj.1 (by rw [h, hbj])))
      rw [if_neg h3, if_neg h4]
theorem perm_place {n : Nat} (hn : n ≤ 8) {r : ByteArray} (h : PermR n r) {i : Nat} (h1 : 1 ≤ i) (h2 : i ≤ n) : ∃ (a : Nat) (ha : a < r.size), r[a].toNat = i + 48 := by
  have hm : UInt8.ofNat (49 + (i - 1)) ∈ r.data.toList := by
    rw [h.mem_iff]
    unfold roundsL
    rw [List.mem_map]
    exact ⟨i - 1, List.mem_range.2 (by omega), rfl⟩
  obtain ⟨a, ha, e⟩ := List.mem_iff_getElem.1 hm
  have ha' : a < r.size := by rw [← bytes_len]; exact ha
  refine ⟨a, ha', ?_⟩
  rw [← bytes_get r a ha', e, UInt8.toNat_ofNat_of_lt' (by show 49 + (i - 1) < 256; omega)]
  omega
theorem swap_perm {n : Nat} (hn : n ≤ 8) {r : ByteArray} (h : PermR n r) {i j : Nat} (h1 : 1 ≤ i) (h2 : i ≤ n) (h3 : 1 ≤ j) (h4 : j ≤ n) (hij : i ≠ j) : PermR n (swapB i j r) := by
  obtain ⟨a, ha, hai⟩ := perm_place hn h h1 h2
  obtain ⟨b, hb, hbj⟩ := perm_place hn h h3 h4
  have e := swap_set (perm_nodup hn h) (by rw [bytes_len]; exact ha : a < r.data.toList.length) (by rw [bytes_len]; exact hb) hai hbj hij
  unfold PermR swapB
  rw [ofL_list, ← e]
  exact (List.set_set_perm _ _).trans h
theorem swap_snoc {r : ByteArray} {k : Nat} (hk : k < r.size) (i j : Nat) : (r.data.toList.take (k + 1)).map (swapC i j) = (r.data.toList.take k).map (swapC i j) ++ [swapC i j r[k]] := map_take_succ (by rw [bytes_len]; exact hk)
theorem placeOf_any (r : ByteArray) (i k : Nat) (w : World) (hr : r.size ≤ 8) (hin : ∀ p (h : p < r.size), 49 ≤ r[p].toNat) (hk : k < r.size) (hki : r[k].toNat = i + 48) (hno : ∀ p (h : p < r.size), p < k → r[p].toNat ≠ i + 48) : Calls Tryz.prog 200 #[.string r, .int .i64 i] w fun e w' =>
    e = .returned (.int .i64 ((k : Int) + 1)) ∧ w = w' := by
  have Hin := Lib.hid hin
  have Hno := Lib.hid hno
  clear hin hno
  go_enter Tryz.func200, Tryz.ntmps200
  go_wp2_with fail
  go_loopw [8] (fun x wr => ∃ q : Nat, q ≤ k ∧ x = .int .i64 q ∧ wr = w) (fun x _ => r.size - (intOf x).toNat)
  case atStart => exact ⟨0, by omega, rfl, rfl⟩
  case round =>
    obtain ⟨q, hq, rfl, rfl⟩ := hrel
    have hqr : q < r.size := by omega
    have h49 := Hin.out q hqr
    have hlt8 := r[q].toNat_lt
    by_cases e : q = k
    · subst e
      have hv : IntKind.u8.wrap ((r[q].toNat : Int) - 48) = (i : Int) := by rw [IntWalk.u8_in _ ⟨by omega, by omega⟩]; omega
      have Hk := Lib.hid hki
      have hwi : wrap64 (i : Int) = (i : Int) := IntWalk.wrap64_in (i : Int) ⟨by omega, by omega⟩
      clear hki
      go_wp2_with fail
      go_ret
      exact ⟨rfl, rfl⟩
    · have hne := Hno.out q hqr (by omega)
      have hv : IntKind.u8.wrap ((r[q].toNat : Int) - 48) = (r[q].toNat : Int) - 48 := by rw [IntWalk.u8_in _ ⟨by omega, by omega⟩]
      have hd : ((r[q].toNat : Int) - 48 == (i : Int)) = false := by simp; omega
      have Hn := Lib.hid hne
      clear hne
      go_wp2_with fail
      exact ⟨⟨q + 1, by omega, by go_num, trivial⟩, by simp [intOf]; omega⟩
set_option maxRecDepth 10000 in
set_option maxHeartbeats 2000000 in
theorem exchanged_any (n : Nat) (r : ByteArray) (i j : Nat) (w : World) (hn : n ≤ 8) (hr : PermR n r) (h1 : 1 ≤ i) (h2 : i ≤ n) (h3 : 1 ≤ j) (h4 : j ≤ n) (hij : i ≠ j) : Calls Tryz.prog 106 #[.string r, .int .i64 i, .int .i64 j] w fun e w' =>
    e = .returned (.string (swapB i j r)) ∧ Below w.heap.size w w' := by
  have hri := perm_in hn hr
  have hrs := hri.1
  obtain ⟨a, ha, hai⟩ := perm_place hn hr h1 h2
  obtain ⟨b, hb, hbj⟩ := perm_place hn hr h3 h4
  have hnd := perm_nodup hn hr
  have hin : ∀ p (h : p < r.size), 49 ≤ r[p].toNat := fun p h => by have := (hri.at_ h).1; omega
  have hno : ∀ k (hk : k < r.size) v, r[k].toNat = v → ∀ p (h : p < r.size), p < k → r[p].toNat ≠ v := fun k hk v hv p h hpk e => by
    have := nd_inj hnd (by rw [bytes_len]; exact h) (by rw [bytes_len]; exact hk) (UInt8.toNat_inj.1 ((e.trans hv.symm) : r[p].toNat = r[k].toNat))
    omega
  have HA := Lib.hid (fun W => placeOf_any r i a W (by omega) hin ha hai (hno a ha _ hai))
  have HB := Lib.hid (fun W => placeOf_any r j b W (by omega) hin hb hbj (hno b hb _ hbj))
  have hab : a ≠ b := fun e => by subst e; omega
  obtain ⟨w1, C, hcv, hrow, hb1⟩ := bytes_of r n hrs w
  have e := swap_set hnd (by rw [bytes_len]; exact ha : a < r.data.toList.length) (by rw [bytes_len]; exact hb) hai hbj hij
  have HT : Hid (swapB i j r = ofL ((r.data.toList.set a r.data.toList[b]).set b r.data.toList[a])) := Lib.hid (by unfold swapB; rw [e])
  have c0 := hrow.cell (j := a) (by rw [bytes_len]; exact ha)
  have c1 := hrow.cell (j := b) (by rw [bytes_len]; exact hb)
  have f0 := hrow.free (j := a) (by omega)
  have f1 := hrow.free (j := b) (by omega)
  have Hrow := Lib.hid hrow
  obtain ⟨x, hx⟩ : ∃ x, x = r.data.toList[a] := ⟨_, rfl⟩
  obtain ⟨y, hy⟩ : ∃ y, y = r.data.toList[b] := ⟨_, rfl⟩
  rw [← hx] at c0 HT
  rw [← hy] at c1 HT
  unfold u8v at c0 c1
  have hw1 : IntKind.i64.wrap ((a : Int) + 1 - 1) = a := by rw [IntWalk.i64_in _ ⟨by omega, by omega⟩]; omega
  have hw2 : IntKind.i64.wrap ((b : Int) + 1 - 1) = b := by rw [IntWalk.i64_in _ ⟨by omega, by omega⟩]; omega
  have hw3 : (a : Int) + 1 - 1 = a := by omega
  have hw4 : (b : Int) + 1 - 1 = b := by omega
  have hia : (a : Int) < n := by omega
  have hib : (b : Int) < n := by omega
  have hba : b ≠ a := fun e => hab e.symm
  have hzn : a < n := by omega
  have hzb : b < n := by omega
  clear hr hri hai hbj hnd hin hno e hrow hx hy
  go_enter Tryz.func106, Tryz.ntmps106
  go_wp2_with fail
  refine (HA.out _).mono ?_; rintro e w2 ⟨rfl, rfl⟩
  go_wp2_with fail
  refine (HB.out _).mono ?_; rintro e w2 ⟨rfl, rfl⟩
  go_wp2_with fail
  go_region
  have Hr2 := (((Hrow.out.set hzn y).set hzb x).to (Below.drew (Below.refl _ _)))
  have Hb2 := Lib.hid ((grow_set (grow_set hb1 (Nat.le_refl _) (u8v y) (j := a)) (Nat.le_refl _) (u8v x) (j := b)).drew)
  have hcv2 := Hr2.conv (cap := C) Tryz.underlying37 Tryz.underlying5 Tryz.underlying9
  unfold u8v at hcv2
  clear hw1 hw2 hw3 hw4 hia hib hba c0 c1 f0 f1 Hr2 hcv
  go_wp2_with fail
  go_ret
  exact ⟨ret_str HT.out.symm, Hb2.out⟩
set_option maxRecDepth 10000 in
set_option maxHeartbeats 2000000 in
theorem l31Swap_any (n : Nat) (r : ByteArray) (i j : Nat) (w : World) (hn : n ≤ 8) (hr : PermR n r) (h1 : 1 ≤ i) (h2 : i ≤ n) (h3 : 1 ≤ j) (h4 : j ≤ n) : Calls Tryz.prog 99 #[.string r, .int .i64 i, .int .i64 j] w fun e w' =>
    e = .returned (.string (swapB i j r)) ∧ Below w.heap.size w w' := by
  have hri := perm_in hn hr
  have hrs := hri.1
  have Hin := Lib.hid (fun p (h : p < r.size) => (by have := hri.at_ h; omega : 49 ≤ r[p].toNat ∧ r[p].toNat < 57))
  have HN := Lib.hid (fun W (v : Nat) (hv : v ≤ 8) => l1Num_any v W (by omega))
  have HS := Lib.hid (fun (v : Nat) (hv : v ≤ 8) => (by rw [numT_small (by omega)]; rfl : numT (v : Int) = ⟨#[UInt8.ofNat (48 + v % 10)]⟩))
  clear hr hri
  go_enter Tryz.func99, Tryz.ntmps99
  go_wp2_with fail
  go_loopw [7, 8] (fun s x wr => ∃ (k : Nat) (t : ByteArray), k ≤ n ∧ x = .int .i64 ((k : Int) + 1) ∧ s = .string t ∧ t.size = k ∧ t = ofL ((r.data.toList.take k).map (swapC i j)) ∧ Below w.heap.size w wr) (fun _ x _ => n + 1 - (intOf x).toNat)
  case atStart => exact ⟨0, _, by omega, rfl, rfl, rfl, rfl, Below.refl _ _⟩
  case round =>
    obtain ⟨k, t, hk, rfl, rfl, hts, ht, hB⟩ := hrel
    have Ht := Lib.hid ht
    clear ht
    by_cases hlt : k < n
    · have hkr : k < r.size := by omega
      have hin := Hin.out k hkr
      have hat := Lib.hid (l1At_any r k wr (by unfold maxLen; omega) hkr (by omega))
      have Hsn := Lib.hid (swap_snoc hkr i j)
      have hkw : IntKind.i64.wrap ((k : Int) + 1 + 1) = (k : Int) + 1 + 1 := IntWalk.i64_in _ ⟨by omega, by omega⟩
      have hkn : (k : Int) + 1 ≤ (n : Int) := by omega
      by_cases e1 : r[k].toNat = i + 48
      · have Hc : Hid (swapC i j r[k] = UInt8.ofNat (j + 48)) := Lib.hid (by unfold swapC; rw [if_pos e1])
        have hv : (r[k].toNat : Int) - 48 = (i : Int) := by omega
        rw [hv] at hat
        have Hnn := Lib.hid (HN.out wr j (by omega))
        have Hss := Lib.hid (HS.out j (by omega))
        have hj1 : (numT (j : Int)).size = 1 := by rw [Hss.out]; rfl
        obtain ⟨tj, htj⟩ : ∃ x, x = numT (j : Int) := ⟨_, rfl⟩
        rw [← htj] at Hnn Hss hj1
        have Hap : Hid (t ++ tj = ofL ((r.data.toList.take (k + 1)).map (swapC i j))) := Lib.hid (by
          rw [Hsn.out, Hc.out, Ht.out, Hss.out]
          have e : 48 + j % 10 = j + 48 := by omega
          rw [e]
          exact bytes_ext (by simp [ofL]))
        have hsz : (t ++ tj).size = k + 1 := by rw [ByteArray.size_append, hts, hj1]
        have Hsz := Lib.hid hsz
        have hsum : ¬ 9223372036854775807 < t.size + tj.size := by omega
        clear hv hsz htj e1
        go_wp2_with fail
        refine (hat.out).mono ?_; rintro e w1 ⟨rfl, rfl⟩
        go_wp2_with fail
        refine (Hnn.out).mono ?_; rintro e w1 ⟨rfl, hb1⟩
        have hB1 := bw_to hB hb1
        go_wp2_with fail
        exact ⟨⟨k + 1, t ++ tj, by omega, by go_num, rfl, Hsz.out, Hap.out, hB1⟩, by simp [intOf]; omega⟩
      · by_cases e2 : r[k].toNat = j + 48
        · have Hc : Hid (swapC i j r[k] = UInt8.ofNat (i + 48)) := Lib.hid (by unfold swapC; rw [if_neg e1, if_pos e2])
          have hv : (r[k].toNat : Int) - 48 = (j : Int) := by omega
          have hne : ((j : Int) == (i : Int)) = false := by simp; omega
          rw [hv] at hat
          have Hnn := Lib.hid (HN.out wr i (by omega))
          have Hss := Lib.hid (HS.out i (by omega))
          have hj1 : (numT (i : Int)).size = 1 := by rw [Hss.out]; rfl
          obtain ⟨tj, htj⟩ : ∃ x, x = numT (i : Int) := ⟨_, rfl⟩
          rw [← htj] at Hnn Hss hj1
          have Hap : Hid (t ++ tj = ofL ((r.data.toList.take (k + 1)).map (swapC i j))) := Lib.hid (by
            rw [Hsn.out, Hc.out, Ht.out, Hss.out]
            have e : 48 + i % 10 = i + 48 := by omega
            rw [e]
            exact bytes_ext (by simp [ofL]))
          have hsz : (t ++ tj).size = k + 1 := by rw [ByteArray.size_append, hts, hj1]
          have Hsz := Lib.hid hsz
          have hsum : ¬ 9223372036854775807 < t.size + tj.size := by omega
          clear hv hsz htj e1 e2
          go_wp2_with fail
          refine (hat.out).mono ?_; rintro e w1 ⟨rfl, rfl⟩
          go_wp2_with fail
          refine (Hnn.out).mono ?_; rintro e w1 ⟨rfl, hb1⟩
          have hB1 := bw_to hB hb1
          go_wp2_with fail
          exact ⟨⟨k + 1, t ++ tj, by omega, by go_num, rfl, Hsz.out, Hap.out, hB1⟩, by simp [intOf]; omega⟩
        · have Hc : Hid (swapC i j r[k] = r[k]) := Lib.hid (by unfold swapC; rw [if_neg e1, if_neg e2])
          have hne : ((r[k].toNat : Int) - 48 == (i : Int)) = false := by simp; omega
          have hne2 : ((r[k].toNat : Int) - 48 == (j : Int)) = false := by simp; omega
          have Hap : Hid (t ++ r.extract k (k + 1) = ofL ((r.data.toList.take (k + 1)).map (swapC i j))) := Lib.hid (by rw [Hsn.out, Hc.out, Ht.out]; exact ext_app hkr _)
          have hex : (r.extract k (k + 1)).size = 1 := by rw [ByteArray.size_extract]; omega
          have Hsz : Hid ((t ++ r.extract k (k + 1)).size = k + 1) := Lib.hid (by rw [ByteArray.size_append, hts, hex])
          have hsum : ¬ 9223372036854775807 < t.size + (r.extract k (k + 1)).size := by omega
          have hk1 : IntKind.i64.wrap ((k : Int) + 1 - 1) = k := by rw [IntWalk.i64_in _ ⟨by omega, by omega⟩]; omega
          have hk2 : (k : Int) + 1 - 1 = k := by omega
          have hx1 : ((k : Int) + 1).toNat = k + 1 := by omega
          clear e1 e2
          go_wp2_with fail
          refine (hat.out).mono ?_; rintro e w1 ⟨rfl, rfl⟩
          go_wp2_with fail
          exact ⟨⟨k + 1, t ++ r.extract k (k + 1), by omega, by go_num, rfl, Hsz.out, Hap.out, hB⟩, by simp [intOf]; omega⟩
    · obtain rfl : k = n := by omega
      have hT : swapB i j r = t := by
        rw [Ht.out]; unfold swapB
        rw [List.take_of_length_le (by rw [bytes_len]; omega)]
      have HT := Lib.hid hT
      clear hT
      go_wp2_with fail
      go_ret
      exact ⟨ret_str HT.out.symm, hB⟩
end Go.Proofs.YtjiiflpoiaaccaaGreat
