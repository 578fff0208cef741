/- Truth by lead heads, a touch that comes round: the program's. -/
import Derived.Test.YtbdioapgekaejaaGreatPk34
import Derived.Test.YtbdioapgekaejaaGreatPk19
import Derived.Test.YtbdioapgekaejaaGreatPk21
import Derived.Shelf.Small.Bits
import Derived.Shelf.Small.Strs
import Derived.Shelf.Strconv.Itoa0
import Derived.Shelf.Slices.Turned
import Derived.Shelf.SlSortCmp.WholeK
import Derived.Shelf.SlSortCmp.NoneTotal
import Derived.Ground.SlsfProg
import Derived.Test.YtbdioapgekaejaaGreatProg
import Derived.Test.YtbdioapgekaejaaGreatPk3
import Derived.Test.YtbdioapgekaejaaGreatPk18
import Derived.Test.YtbdioapgekaejaaGreatPk12
namespace Go.Proofs.YtbdioapgekaejaaGreat
open Go Go.RowKit
set_option linter.unusedVariables false
set_option linter.unusedSimpArgs false

theorem scanB_inv {n : Nat} (hn : n ≤ 8) : ∀ (cs : List ByteArray) {r : ByteArray}, Inv n r → ∀ x ∈ scanB r cs, Inv n x
  | [], r, hr, x, hx => by rw [List.mem_singleton.1 hx]; exact hr
  | c :: cs, r, hr, x, hx => by
    rw [scanB] at hx
    rcases List.mem_cons.1 hx with rfl | hx
    · exact hr
    · exact scanB_inv hn cs (apply_inv hn hr c) x hx
theorem lead_inv {n : Nat} (hn : n ≤ 8) (cs : List ByteArray) {r : ByteArray} (hr : Inv n r) : ∀ x ∈ leadB r cs, Inv n x := fun x hx => scanB_inv hn cs hr x (List.mem_of_mem_take hx)
theorem heads_inv {n : Nat} (hn : n ≤ 8) {f : UInt8 → ByteArray} (hf : ∀ c, Inv n (f c)) : ∀ (t : List UInt8) {h : ByteArray}, Inv n h → ∀ x ∈ headsB f h t, Inv n x
  | [], h, hh, x, hx => by rw [List.mem_singleton.1 hx]; exact hh
  | c :: t, h, hh, x, hx => by
    rw [headsB] at hx
    rcases List.mem_cons.1 hx with rfl | hx
    · exact hh
    · exact heads_inv hn hf t (hh.times hn (hf c)) x hx
/-- The inverse of a row. -/
noncomputable def trB (n : Nat) (a : ByteArray) : ByteArray := Classical.epsilon fun b => Inv2 n a b
theorem trB_ok {n : Nat} (hn : n ≤ 8) {a : ByteArray} (h : Inv n a) : Inv2 n a (trB n a) := Classical.epsilon_spec (inv2_of hn h)
theorem Inv2.inv {n : Nat} {a b : ByteArray} (h : Inv2 n a b) : Inv n b := ⟨h.hb, a, h.ha, h.ba, h.ab⟩
noncomputable def quoB (n : Nat) (x y : ByteArray) : ByteArray := timesB x (trB n y)
noncomputable def prodL (n : Nat) (xs ys : List ByteArray) : List ByteArray := xs.flatMap fun x => ys.map (quoB n x)
theorem prod_take {n : Nat} {xs ys : List ByteArray} {i : Nat} (h : i < xs.length) : prodL n (xs.take (i + 1)) ys = prodL n (xs.take i) ys ++ ys.map (quoB n xs[i]) := by
  unfold prodL; rw [List.take_succ_eq_append_getElem h, List.flatMap_append]; simp
/-- No two of a row's first entries clash. -/
def PairsOk (P : Nat → Nat → Prop) (L i k : Nat) : Prop := (∀ a b, a < i → a < b → b < L → P a b) ∧ (∀ b, i < b → b < k → P i b)
theorem pairs_start (P : Nat → Nat → Prop) (L : Nat) : PairsOk P L 0 1 := ⟨fun a b h => by omega, fun b h1 h2 => by omega⟩
theorem pairs_yes {P : Nat → Nat → Prop} {L i k : Nat} (hp : P i k) : PairsOk P L i (k + 1) ↔ PairsOk P L i k :=
  ⟨fun h => ⟨h.1, fun b h1 h2 => h.2 b h1 (by omega)⟩, fun h => ⟨h.1, fun b h1 h2 => by
    by_cases e : b = k
    · rw [e]; exact hp
    · exact h.2 b h1 (by omega)⟩⟩
theorem pairs_no {P : Nat → Nat → Prop} {L i k : Nat} (hi : i < k) (hp : ¬ P i k) : ¬ PairsOk P L i (k + 1) := fun h => hp (h.2 k hi (by omega))
theorem pairs_next {P : Nat → Nat → Prop} {L i : Nat} (hi : i < L) : PairsOk P L (i + 1) (i + 1 + 1) ↔ PairsOk P L i L :=
  ⟨fun h => ⟨fun a b h1 h2 h3 => h.1 a b (by omega) h2 h3, fun b h1 h2 => h.1 i b (by omega) h1 h2⟩, fun h => ⟨fun a b h1 h2 h3 => by
    by_cases e : a = i
    · rw [e]; exact h.2 b (by omega) h3
    · exact h.1 a b (by omega) h2 h3, fun b h1 h2 => by omega⟩⟩
/-- Two heads clash. -/
noncomputable def NoClash (n : Nat) (S hs : List ByteArray) (a b : Nat) : Prop := timesB (trB n (hs.getD a ⟨#[]⟩)) (hs.getD b ⟨#[]⟩) ∉ S
noncomputable def Clear (n : Nat) (S hs : List ByteArray) : Prop := ∀ a b, a < b → b < hs.length → NoClash n S hs a b
theorem clear_end {n : Nat} {S hs : List ByteArray} : PairsOk (NoClash n S hs) hs.length hs.length (hs.length + 1) ↔ Clear n S hs :=
  ⟨fun h a b h1 h2 => h.1 a b (by omega) h1 h2, fun h => ⟨fun a b _ h2 h3 => h a b h2 h3, fun b h1 h2 => by omega⟩⟩
/-- Truth by lead heads. -/
noncomputable def leadR (n : Nat) (m : Mt) : List ByteArray := leadB (roundsB n) m.l
open Classical in
noncomputable def thB (n : Nat) (m : Mt) (k : Cl) (t : ByteArray) : Bool := decide (leadR n m).Nodup && decide (Clear n (prodL n (leadR n m) (leadR n m)) ((headsT m k t).take t.size))
def endT (m : Mt) (k : Cl) (t : ByteArray) : ByteArray := endB (headB m.stage.toNat m.l k.bob k.single) (roundsB m.stage.toNat) t.data.toList
theorem headsT_last (m : Mt) (k : Cl) (t : ByteArray) : (headsT m k t)[t.size]? = some (endT m k t) := by
  have := heads_last (headB m.stage.toNat m.l k.bob k.single) t.data.toList (roundsB m.stage.toNat)
  rw [bytes_len] at this
  exact this
theorem headsT_inv {m : Mt} {k : Cl} {n : Nat} (h : MGood m n) (t : ByteArray) : ∀ x ∈ headsT m k t, Inv n x := by
  rw [headsT_n h.st]
  exact heads_inv h.hi (fun c => run_inv h.hi _ (Inv.rounds h.hi)) _ (Inv.rounds h.hi)
set_option maxRecDepth 10000 in
set_option maxHeartbeats 2000000 in
theorem touchEnd_any (m : Mt) (v : Value) (k : Cl) (t : ByteArray) (n : Nat) (w : World) (hg : CGood m k n) (hv : Strs w v m.l) (ht : touchB t.data.toList = true) : Calls Tryz.prog 65 #[m.v v, k.v, .string t] w fun e w' => e = .returned (.string (endT m k t)) ∧ Below w.heap.size w w' := by
  have Hh := Lib.hid (fun W hW => heads_any m v k t n W hg (hv.to hW) ht)
  rw [← headsT_n hg.m.st] at Hh
  have Hhl := Lib.hid (headsT_len m k t)
  have Hlast := Lib.hid (headsT_last m k t)
  have hts := touch_size ht
  obtain ⟨A, c, hv', _⟩ := hv
  subst hv'
  unfold Mt.v Cl.v at *
  clear hg ht
  go_enter Tryz.func65, Tryz.ntmps65
  go_wp2_with fail
  refine box2 (C := fun W => Calls _ _ _ W _) ?_
  intro wb hw k1 k2 hB0
  have R1 := boxRule k1
  have R2 := boxRule k2
  clear k1 k2
  refine (Hh.out _ hw).mono ?_; rintro e w1 ⟨A1, q1, rfl, hown, hb1⟩
  obtain ⟨A', c', e', _, _, hrd⟩ := sl_of_own hown
  cases e'
  rw [← Hhl.out] at hrd
  obtain ⟨ad, rfl, hC⟩ := strs_el (k := t.size) hrd (by rw [Hhl.out]; omega)
  have hC0 := hC _ (Below.refl _ _)
  have he : (headsT m k t)[t.size]'(by rw [Hhl.out]; omega) = endT m k t := by
    obtain ⟨h1, h2⟩ := List.getElem?_eq_some_iff.1 Hlast.out
    exact h2
  rw [he] at hC0
  clear hC he hrd hown
  go_wp2_with fail
  go_ret
  exact ⟨rfl, bw_to hw hb1⟩
theorem str_beq (a b : ByteArray) : (a.toList == b.toList) = decide (a = b) := by
  rw [bytes_toList, bytes_toList, Bool.eq_iff_iff, beq_iff_eq, decide_eq_true_eq]
  exact ⟨bytes_ext, fun h => by rw [h]⟩
set_option maxHeartbeats 2000000 in
theorem comesRound_any (m : Mt) (v : Value) (k : Cl) (t : ByteArray) (n : Nat) (w : World) (hg : CGood m k n) (hv : Strs w v m.l) (ht : touchB t.data.toList = true) : Calls Tryz.prog 31 #[m.v v, k.v, .string t] w fun e w' => e = .returned (.bool (decide (endT m k t = roundsB n))) ∧ Below w.heap.size w w' := by
  have He := Lib.hid (fun W hW => touchEnd_any m v k t n W hg (hv.to hW) ht)
  have hn := hg.m.hi
  have hst := hg.m.st
  obtain ⟨A, c, hv', _⟩ := hv
  subst hv'
  unfold Mt.v Cl.v at *
  rw [hst] at He ⊢
  clear hg ht hst
  go_enter Tryz.func31, Tryz.ntmps31
  go_wp2_with fail
  refine box2 (C := fun W => Code.wp _ _ _ _ W) ?_
  intro wb hw k1 k2 hB0
  have R1 := boxRule k1
  have R2 := boxRule k2
  have hdr : Below wb.heap.size wb wb.drew := Below.drew (Below.refl _ _)
  clear k1 k2
  go_region_held3 (fun W => Below wb.heap.size wb W) (first | exact Below.drew (by assumption) | exact bw_to (by assumption) hb')
    (first | (go_at_call 66; refine (rounds_any n _ hn).mono ?_; rintro e w' ⟨rfl, rfl⟩) | (go_at_call 65; refine (He.out _ (bw_to hw (by assumption))).mono ?_; rintro e w' ⟨rfl, hb'⟩))
  all_goals
    have hBB : Below wb.heap.size wb w' := by assumption
    go_wp2_with fail
    go_ret
    exact ⟨ret_bool (str_beq _ _), bw_to hw hBB⟩
end Go.Proofs.YtbdioapgekaejaaGreat

/- Truth by lead heads: the reference's. -/
namespace Go.Proofs.YtbdioapgekaejaaGreat
open Go Go.RowKit
set_option linter.unusedVariables false
set_option linter.unusedSimpArgs false

set_option maxHeartbeats 2000000 in
theorem l1HasQ_any (V : Value) (l : List ByteArray) (r : ByteArray) (w : World) (hV : Strs w V l) : Calls Tryz.prog 137 #[V, .string r] w fun e w' => e = .returned (.bool (decide (r ∈ l))) ∧ w = w' := by
  obtain ⟨A, c, rfl, h1, h2, hrd⟩ := hV
  unfold maxLen at h2
  go_enter Tryz.func137, Tryz.ntmps137
  go_wp2_with fail
  go_loop [9] (fun i => ∃ k : Nat, k ≤ l.length ∧ i = .int .i64 k ∧ r ∉ l.take k) (fun i => l.length - (intOf i).toNat)
  case atStart => exact ⟨0, by omega, rfl, by simp⟩
  case round =>
    obtain ⟨k, hk, rfl, hn⟩ := hrel
    have Hn := Lib.hid hn
    clear hn
    by_cases hlt : k < l.length
    · obtain ⟨ad, rfl, hC⟩ := strs_el hrd hlt
      have hC0 := hC w (Below.refl _ _)
      have He := Lib.hid (str_beq l[k] r)
      have Hno : Hid (l[k] ≠ r → r ∉ l.take (k + 1)) := Lib.hid (fun h hm => by
        rw [List.take_succ_eq_append_getElem hlt, List.mem_append, List.mem_singleton] at hm
        rcases hm with hm | hm
        · exact Hn.out hm
        · exact h hm.symm)
      have Hyes : Hid (l[k] = r → r ∈ l) := Lib.hid (fun h => by rw [← h]; exact List.getElem_mem hlt)
      obtain ⟨x, hx⟩ : ∃ x, x = l[k] := ⟨_, rfl⟩
      rw [← hx] at hC0 He Hno Hyes
      clear hC hx
      cases hb : (x.toList == r.toList)
      · have Hne : Hid (x ≠ r) := Lib.hid (fun e => by rw [He.out, decide_eq_true e] at hb; cases hb)
        go_wp2_with fail
        exact ⟨⟨k + 1, by omega, by go_num, Hno.out Hne.out⟩, by simp [intOf]; omega⟩
      · have Hd := Lib.hid (decide_eq_true (Hyes.out (by rw [He.out] at hb; exact of_decide_eq_true hb)))
        go_wp2_with fail
        go_ret
        exact ⟨ret_bool Hd.out.symm, rfl⟩
    · have Hd := Lib.hid (decide_eq_false (fun h : r ∈ l => Hn.out (by rw [List.take_of_length_le (by omega)]; exact h)))
      go_wp2_with fail
      go_ret
      exact ⟨ret_bool Hd.out.symm, rfl⟩
end Go.Proofs.YtbdioapgekaejaaGreat

/- The shelf's sorting of lines, laid at this program. -/
namespace Go.Proofs
open Go.Shelf
def Tryz.sortL_ren : Go.Shelf.Ren := ⟨fun | 6 => 33 | 15 => 70 | 14 => 69 | 28 => 112 | 29 => 113 | 20 => 104 | 21 => 105 | 22 => 106 | 23 => 107 | 24 => 108 | 25 => 109 | 26 => 110 | 27 => 111 | 46 => 144 | 47 => 145 | 48 => 146 | 49 => 147 | 50 => 148 | 57 => 163 | n => n, fun | 22 => 31 | 24 => 51 | 25 => 69 | 3 => 3 | 39 => 101 | 0 => 0 | 53 => 134 | 55 => 60 | 4 => 4 | 46 => 128 | 45 => 127 | 50 => 43 | 5 => 5 | 9 => 9 | 66 => 147 | 70 => 151 | 76 => 160 | 77 => 161 | n => n, fun | n => n⟩
theorem Tryz.sortL : Go.Proofs.SlLaysF0.n6 Tryz.prog Tryz.sortL_ren := {
  mixed := by kernel_rfl
  f6 := ⟨Tryz.f33.name, by decide, Tryz.func33.trans (congrArg some (by kernel_rfl))⟩
  f14 := ⟨Tryz.f69.name, by decide, Tryz.func69.trans (congrArg some (by kernel_rfl))⟩
  f15 := Tryz.func70.trans (congrArg some (by kernel_rfl))
  f20 := ⟨Tryz.f104.name, by decide, Tryz.func104.trans (congrArg some (by kernel_rfl))⟩
  f21 := ⟨Tryz.f105.name, by decide, Tryz.func105.trans (congrArg some (by kernel_rfl))⟩
  f22 := ⟨Tryz.f106.name, by decide, Tryz.func106.trans (congrArg some (by kernel_rfl))⟩
  f23 := ⟨Tryz.f107.name, by decide, Tryz.func107.trans (congrArg some (by kernel_rfl))⟩
  f24 := ⟨Tryz.f108.name, by decide, Tryz.func108.trans (congrArg some (by kernel_rfl))⟩
  f25 := ⟨Tryz.f109.name, by decide, Tryz.func109.trans (congrArg some (by kernel_rfl))⟩
  f26 := ⟨Tryz.f110.name, by decide, Tryz.func110.trans (congrArg some (by kernel_rfl))⟩
  f27 := ⟨Tryz.f111.name, by decide, Tryz.func111.trans (congrArg some (by kernel_rfl))⟩
  f28 := Tryz.func112.trans (congrArg some (by kernel_rfl))
  f29 := Tryz.func113.trans (congrArg some (by kernel_rfl))
  f46 := ⟨Tryz.f144.name, by decide, Tryz.func144.trans (congrArg some (by kernel_rfl))⟩
  f47 := Tryz.func145.trans (congrArg some (by kernel_rfl))
  f48 := Tryz.func146.trans (congrArg some (by kernel_rfl))
  f49 := ⟨Tryz.f147.name, by decide, Tryz.func147.trans (congrArg some (by kernel_rfl))⟩
  f50 := ⟨Tryz.f148.name, by decide, Tryz.func148.trans (congrArg some (by kernel_rfl))⟩
  f57 := ⟨Tryz.f163.name, by decide, Tryz.func163.trans (congrArg some (by kernel_rfl))⟩
  t0 := Tryz.underlying0
  a0 := Tryz.isAgg0
  z0 := Tryz.sizeOf0
  v0 := Tryz.zeroValue0
  t3 := Tryz.underlying3
  a3 := Tryz.isAgg3
  z3 := Tryz.sizeOf3
  v3 := Tryz.zeroValue3
  t4 := Tryz.underlying4
  a4 := Tryz.isAgg4
  z4 := Tryz.sizeOf4
  v4 := Tryz.zeroValue4
  t5 := Tryz.underlying5
  a5 := Tryz.isAgg5
  z5 := Tryz.sizeOf5
  v5 := Tryz.zeroValue5
  t9 := Tryz.underlying9
  a9 := Tryz.isAgg9
  z9 := Tryz.sizeOf9
  v9 := Tryz.zeroValue9
  t22 := Tryz.underlying31
  a22 := Tryz.isAgg31
  z22 := Tryz.sizeOf31
  v22 := Tryz.zeroValue31
  t25 := Tryz.underlying69
  a25 := Tryz.isAgg69
  z25 := Tryz.sizeOf69
  v25 := Tryz.zeroValue69
  t39 := Tryz.underlying101
  a39 := Tryz.isAgg101
  z39 := Tryz.sizeOf101
  v39 := Tryz.zeroValue101
  t45 := Tryz.underlying127
  a45 := Tryz.isAgg127
  z45 := Tryz.sizeOf127
  v45 := Tryz.zeroValue127
  t46 := Tryz.underlying128
  a46 := Tryz.isAgg128
  z46 := Tryz.sizeOf128
  v46 := Tryz.zeroValue128
  t50 := Tryz.underlying43
  a50 := Tryz.isAgg43
  z50 := Tryz.sizeOf43
  v50 := Tryz.zeroValue43
  t53 := Tryz.underlying134
  a53 := Tryz.isAgg134
  z53 := Tryz.sizeOf134
  v53 := Tryz.zeroValue134
  t55 := Tryz.underlying60
  a55 := Tryz.isAgg60
  z55 := Tryz.sizeOf60
  v55 := Tryz.zeroValue60
  t66 := Tryz.underlying147
  a66 := Tryz.isAgg147
  z66 := Tryz.sizeOf147
  v66 := Tryz.zeroValue147
  t70 := Tryz.underlying151
  a70 := Tryz.isAgg151
  z70 := Tryz.sizeOf151
  v70 := Tryz.zeroValue151
  t76 := Tryz.underlying160
  a76 := Tryz.isAgg160
  z76 := Tryz.sizeOf160
  v76 := Tryz.zeroValue160
  t77 := Tryz.underlying161
  a77 := Tryz.isAgg161
  z77 := Tryz.sizeOf161
  v77 := Tryz.zeroValue161 }
end Go.Proofs

/- The lines of a proof, sorted by their rows: slices.SortFunc at structs. -/
namespace Go.Proofs.YtbdioapgekaejaaGreat
open Go Go.RowKit Go.Sort Go.Lib
set_option linter.unusedVariables false
set_option linter.unusedSimpArgs false

/-- Where a row stands first. -/
def idxB (r : ByteArray) : List ByteArray → Nat
  | [] => 0
  | x :: l => if x = r then 0 else idxB r l + 1
theorem idxB_get : ∀ {l : List ByteArray}, l.Nodup → ∀ k (hk : k < l.length), idxB l[k] l = k
  | x :: l, h, 0, _ => by simp [idxB]
  | x :: l, h, k + 1, hk => by
    rw [List.nodup_cons] at h
    have hk' : k < l.length := by simpa using hk
    have hne : x ≠ l[k] := fun e => h.1 (by rw [e]; exact List.getElem_mem hk')
    rw [idxB]
    show (if x = l[k] then 0 else idxB l[k] l + 1) = k + 1
    rw [if_neg hne, idxB_get h.2 k hk']
/-- The cells of a row's line: the row, the lead, the place in the lead. -/
def encL (N : Nat) (rows : List ByteArray) (r : ByteArray) : List Value := [.string r, .int .i64 ((idxB r rows / N : Nat) : Int), .int .i64 ((idxB r rows % N : Nat) : Int)]
theorem encL_len (N : Nat) (rows : List ByteArray) (r : ByteArray) : (encL N rows r).length = 3 := rfl
theorem encL_one (N : Nat) (rows : List ByteArray) (r : ByteArray) : ∀ v ∈ encL N rows r, v.oneCell' = true := by
  intro v hv
  unfold encL at hv
  simp only [List.mem_cons, List.not_mem_nil, or_false] at hv
  rcases hv with rfl | rfl | rfl <;> rfl
def encU (N : Nat) (rows : List ByteArray) (l : List UInt8) : List Value := encL N rows (ofL l)
theorem cmp_neg : ∀ (x y : List UInt8), compareBytes x y < 0 ↔ x < y
  | [], [] => by simp [compareBytes]
  | [], _ :: _ => by simp [compareBytes]
  | _ :: _, [] => by simp [compareBytes]
  | a :: x, b :: y => by
    unfold compareBytes
    rw [List.cons_lt_cons_iff]
    by_cases h1 : a < b
    · rw [if_pos h1]; simp [h1]
    · rw [if_neg h1]
      by_cases h2 : b < a
      · rw [if_pos h2]
        have hne : a ≠ b := fun e => by rw [e] at h2; exact absurd h2 (UInt8.lt_irrefl b)
        simp [h1, hne]
      · rw [if_neg h2]
        have he : a = b := by
          have := UInt8.le_antisymm (UInt8.not_lt.1 h2) (UInt8.not_lt.1 h1)
          exact this
        rw [cmp_neg x y]
        simp [h1, he]
theorem lt_cmp (x y : List UInt8) : ltOf compareBytes x y = decide (x < y) := by
  unfold ltOf
  rw [Bool.eq_iff_iff, decide_eq_true_eq, decide_eq_true_eq]
  exact cmp_neg x y
theorem swo_cmp : SWO (ltOf compareBytes) where
  irrefl x := by rw [lt_cmp]; exact decide_eq_false (List.lt_irrefl x)
  trans x y z h1 h2 := by
    rw [lt_cmp] at *
    rw [decide_eq_true_eq] at *
    exact List.lt_trans h1 h2
  ntrans x y z h1 h2 := by
    rw [lt_cmp] at *
    rw [decide_eq_false_iff_not] at *
    rw [List.not_lt] at *
    exact List.le_trans h2 h1
theorem tot_cmp (x y : List UInt8) (h1 : ltOf compareBytes x y = false) (h2 : ltOf compareBytes y x = false) : x = y := by
  rw [lt_cmp, decide_eq_false_iff_not, List.not_lt] at h1 h2
  exact List.le_antisymm h2 h1
theorem le_cmp : (fun x y : List UInt8 => !ltOf compareBytes y x) = fun x y => decide (x ≤ y) := by
  funext x y
  rw [lt_cmp]
  by_cases h : y < x
  · rw [decide_eq_true h, decide_eq_false (List.not_le.2 h)]; rfl
  · rw [decide_eq_false h, decide_eq_true (List.not_lt.1 h)]; rfl
theorem heap_sortedK {w : World} {g n : Nat} {os : Array Obj} {cur : Array Value} {e : TypeId} {fr : Nat × Nat} (F : Array Value) (hb : w.heap[g]? = some (.cells cur e fr)) :
    (grow (putRow id (Sort.ahead w n) g 0 F) os).heap[g]? = some (.cells (putCells id 0 F cur) e fr) := by
  have hg : g < w.heap.size := (Array.getElem?_eq_some_iff.1 hb).1
  rw [heap_grow_old _ _ (by simpa using hg)]
  simp [putRow, mapBlock, Sort.ahead, Array.getElem?_modify, hb, onCells]
theorem grownBy_sortedK {w : World} {g n : Nat} {os : Array Obj} (F : Array Value) : w.grownBy (grow (putRow id (Sort.ahead w n) g 0 F) os) (some g) := by
  refine ⟨rfl, rfl, rfl, by simp, fun k hk hne => ?_⟩
  rw [heap_grow_old _ _ (by simpa using hk)]
  have : g ≠ k := fun e => hne (by rw [e])
  simp [putRow, mapBlock, Sort.ahead, Array.getElem?_modify, this]
theorem take_putCellsK (cur F : Array Value) (h : F.size ≤ cur.size) : (putCells id 0 F cur).toList.take F.size = F.toList := by
  apply List.ext_getElem?
  intro j
  by_cases hj : j < F.size
  · rw [List.getElem?_take_of_lt hj, Array.getElem?_toList]
    simp [putCells, hj, show j < cur.size by omega]
  · rw [List.getElem?_take_eq_none (by omega), List.getElem?_eq_none (by simp; omega)]
theorem flat_list {N : Nat} {rows l : List ByteArray} : (flatK (encU N rows) 3 (l.map (·.data.toList)).toArray).toList = l.flatMap (encL N rows) := by
  apply List.ext_getElem?
  intro t
  have hs : (flatK (encU N rows) 3 (l.map (·.data.toList)).toArray).toList.length = l.length * 3 := by simp
  have hs2 : (l.flatMap (encL N rows)).length = l.length * 3 := flat_length (C := encL N rows) (sz := 3) (fun x _ => encL_len N rows x)
  by_cases ht : t < l.length * 3
  · have hi : t / 3 < l.length := by omega
    have h1 := get_flatK (encU N rows) 3 (l.map (·.data.toList)).toArray t (by simpa using ht)
    have h2 := flat_get (C := encL N rows) (sz := 3) (fun x _ => encL_len N rows x) (List.getElem?_eq_getElem hi) (Nat.mod_lt t (by omega : 0 < 3))
    have e : t / 3 * 3 + t % 3 = t := by omega
    rw [e] at h2
    rw [h2, List.getElem?_eq_getElem (by rw [hs]; exact ht)]
    have h3 : t % 3 < (encL N rows l[t / 3]).length := by rw [encL_len]; omega
    rw [List.getElem?_eq_getElem h3]
    congr 1
    have h4 : (l.map (·.data.toList)).toArray[t / 3]! = l[t / 3].data.toList := by simp [hi]
    rw [h4] at h1
    have h5 : encU N rows l[t / 3].data.toList = encL N rows l[t / 3] := by unfold encU; rw [ofL_eq]
    rw [h5] at h1
    have h6 : (encL N rows l[t / 3])[t % 3]! = (encL N rows l[t / 3])[t % 3] := by rw [getElem!_pos]
    rw [h6] at h1
    rw [← h1]
    have h7 : t < (flatK (encU N rows) 3 (l.map (·.data.toList)).toArray).size := by simpa using ht
    rw [getElem!_pos _ t h7]
    rfl
  · rw [List.getElem?_eq_none (by rw [hs]; omega), List.getElem?_eq_none (by rw [hs2]; omega)]
set_option maxHeartbeats 1000000 in
theorem lineCmp_any (x y : ByteArray) (a b c d : Int) (W : World) : Calls Tryz.prog 34 #[.agg #[.string x, .int .i64 a, .int .i64 b], .agg #[.string y, .int .i64 c, .int .i64 d]] W fun e w' => e = .returned (.int .i64 (compareBytes x.data.toList y.data.toList)) ∧ ∃ q os', w' = grow (W.drewN q) os' := by
  have hcon := fun W' => Tryz.strings_Compare x y W'
  generalize compareBytes x.data.toList y.data.toList = r at hcon ⊢
  go_enter Tryz.func34, Tryz.ntmps34
  go_wp2_with (go_at_call 35; refine (hcon _).mono ?_; rintro e w' ⟨rfl, rfl⟩)
  go_ret
  exact ⟨rfl, 0, _, by rw [alloc_eq_grow, alloc_eq_grow, grow_grow]; rfl⟩
theorem cmpLays_line (N : Nat) (rows : List ByteArray) (blk off size : Nat) (w : World) : CmpLays Tryz.prog 34 #[] (encU N rows) 3 compareBytes blk off size w :=
  fun _ _ _ _ x y => by
    have h := lineCmp_any (ofL x) (ofL y) ((idxB (ofL x) rows / N : Nat) : Int) ((idxB (ofL x) rows % N : Nat) : Int) ((idxB (ofL y) rows / N : Nat) : Int) ((idxB (ofL y) rows % N : Nat) : Int)
    simp only [ofL_list] at h
    exact h _
set_option maxHeartbeats 2000000 in
theorem sortLn_any (N g n c base : Nat) (rows : List ByteArray) (w : World) (h : w.ownsRow base 51 3 (.slice (some ⟨g, 0, none⟩) n c) n (rows.flatMap (encL N rows))) (hl : n ≤ 100000000) : Calls Tryz.prog 33 #[.slice (some ⟨g, 0, none⟩) n c, .func (.func 34) #[] #[]] w fun e w' =>
    e = .returned (.tuple #[]) ∧ w'.ownsRow base 51 3 (.slice (some ⟨g, 0, none⟩) n c) n ((sortB rows).flatMap (encL N rows)) ∧ Below base w w' ∧ w.grownBy w' (some g) := by
  have eg : ∀ args w, (callFunc 34 args).run Tryz.prog w = .ok (.enter 34 args) w := enters_of Tryz.func34 (by kernel_rfl) rfl
  have hlen : rows.length = n := by
    have h1 := h.1
    rw [flat_length (C := encL N rows) (sz := 3) (fun x _ => encL_len N rows x)] at h1
    omega
  subst hlen
  rcases h.2 with ⟨hnil, _⟩ | ⟨g', cap, cur, hv, hbase, hb, h1, h2, h3, h4⟩
  · cases hnil
  · injection hv with ha hn hc
    injection ha with ha
    injection ha with ha
    subst ha hc
    have hsz : (rows.map (·.data.toList)).toArray.size = rows.length := by simp
    have hfl : (flatK (encU N rows) 3 (rows.map (·.data.toList)).toArray).size = rows.length * 3 := by simp
    have hH : HoldsK (encU N rows) 3 w g 0 (rows.map (·.data.toList)).toArray := by
      intro j hj
      rw [hfl] at hj
      have hfz := h.frozenAt j
      have hc := h.cellAt j hj
      rw [Nat.zero_add]
      refine ⟨?_, hfz⟩
      rw [hc, ← flat_list, Array.getElem?_toList, getElem!_pos _ j (by rw [hfl]; exact hj), Array.getElem?_eq_getElem (by rw [hfl]; exact hj)]
      rfl
    have hS := AnyQ.slices_SortFunc_total Tryz.sortL 3 Tryz.isAgg51 Tryz.sizeOf51 (encU N rows) (fun _ => rfl) (fun x => encL_one N rows _) compareBytes swo_cmp 34 #[] g 0 c (rows.map (·.data.toList)).toArray w eg (cmpLays_line N rows g 0 _ w) hH (Array.getElem?_eq_some_iff.1 hb).1 (by rw [hsz]; omega) tot_cmp
    rw [hsz, le_cmp] at hS
    have hperm : ((rows.map (·.data.toList)).toArray.toList.mergeSort fun x y => decide (x ≤ y)) = (sortB rows).map (·.data.toList) := by
      rw [← merge_sortB rows, List.map_map]
      conv => lhs; rw [← List.map_id ((rows.map (·.data.toList)).toArray.toList.mergeSort fun x y => decide (x ≤ y))]
      apply List.map_congr_left
      intro x _
      exact (ofL_list x).symm
    rw [hperm] at hS
    change Calls Tryz.prog 33 _ _ _ at hS
    refine hS.mono ?_
    rintro e w' ⟨rfl, k, os, rfl⟩
    have hg := grownBy_sortedK (w := w) (g := g) (n := k) (os := os) (flatK (encU N rows) 3 ((sortB rows).map (·.data.toList)).toArray)
    have hsl : (flatK (encU N rows) 3 ((sortB rows).map (·.data.toList)).toArray).size = rows.length * 3 := by simp [sortB_len]
    refine ⟨rfl, ⟨?_, .inr ⟨g, c, _, rfl, hbase, heap_sortedK _ hb, h1, h2, by simp [putCells, h3], ?_⟩⟩, (Below.refl _ _).grown hg (by have := (Array.getElem?_eq_some_iff.1 hb).1; omega) (fun k hk => by cases hk; exact hbase), hg⟩
    · rw [flat_length (C := encL N rows) (sz := 3) (fun x _ => encL_len N rows x), sortB_len]
    · rw [← flat_list, ← hsl]
      exact take_putCellsK cur _ (by rw [hsl, h3]; exact Nat.mul_le_mul_right _ h1)
end Go.Proofs.YtbdioapgekaejaaGreat

/- Truth by lead heads: the program's, whole. -/
namespace Go.Proofs.YtbdioapgekaejaaGreat
open Go Go.RowKit
set_option linter.unusedVariables false
set_option linter.unusedSimpArgs false

theorem updF_snoc {L : List ByteArray} {x : ByteArray} {f : ByteArray → Bool} (h : ∀ s, f s = true ↔ s ∈ L) (s : ByteArray) : updF f x s = true ↔ s ∈ L ++ [x] := by
  unfold updF
  rw [List.mem_append, List.mem_singleton, ← h s]
  by_cases e : s = x
  · rw [if_pos e]; simp [e]
  · rw [if_neg e]; simp [e]
theorem info_isl : (Tryz.prog.info? 72).map (fun i => (i.zero, i.size, i.bytes)) = some (some (.slice none 0 0), 1, 24) := by kernel_rfl
end Go.Proofs.YtbdioapgekaejaaGreat

/- Contract: a method turned (the reference's). -/
namespace Go.Proofs.YtbdioapgekaejaaGreat
open Go Go.RowKit
set_option linter.unusedVariables false
set_option linter.unusedSimpArgs false

theorem own_blk {w w' : World} {base : Nat} {e : TypeId} {size n g c : Nat} {xs : List Value} (h : w.ownsRow base e size (.slice (some ⟨g, 0, none⟩) n c) n xs) (hb : w'.heap[g]? = w.heap[g]?) : w'.ownsRow base e size (.slice (some ⟨g, 0, none⟩) n c) n xs := by
  obtain ⟨h1, h2⟩ := h
  refine ⟨h1, ?_⟩
  rcases h2 with ⟨h2, _⟩ | ⟨g', cap, cur, hv, hg, hp, r⟩
  · cases h2
  · cases hv
    exact .inr ⟨g, c, cur, rfl, hg, hb.trans hp, r⟩
theorem sl_new (w : World) (cs : Array Value) (e : TypeId) (n : Nat) (hn : n ≤ maxLen) (hs : cs.size = n) : Sl (w.alloc (.cells cs e)) 1 (.slice (some ⟨w.heap.size, 0, none⟩) n n) n cs.toList :=
  sl_of_own (own_of_heap (base := 0) (heap_new w _) (Nat.zero_le _) hn (by omega))
theorem rev_snoc {xs : List ByteArray} {j p : Nat} (hp : p + j + 1 = xs.length) : (xs.reverse.take (j + 1)).map Value.string = (xs.reverse.take j).map Value.string ++ [.string (xs[p]'(by omega))] := by
  rw [List.take_succ_eq_append_getElem (by simp; omega), List.map_append]
  congr 1
  simp only [List.map_cons, List.map_nil]
  congr 2
  rw [List.getElem_reverse]
  congr 1; omega
end Go.Proofs.YtbdioapgekaejaaGreat
