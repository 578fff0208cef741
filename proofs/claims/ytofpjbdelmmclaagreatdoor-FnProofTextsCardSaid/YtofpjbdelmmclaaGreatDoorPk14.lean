/- Contracts of the reference: the rank of a row, what is seen, the group that rows generate. -/
import Derived.Test.YtofpjbdelmmclaaGreatDoorPk11
import Derived.Test.YtofpjbdelmmclaaGreatDoorPk13
namespace Go.Proofs.YtofpjbdelmmclaaGreatDoor
open Go Go.RowKit
set_option linter.unusedVariables false
set_option linter.unusedSimpArgs false

theorem fact_le {n : Nat} (h : n ≤ 8) : factB n ≤ 40320 := by
  have : n = 0 ∨ n = 1 ∨ n = 2 ∨ n = 3 ∨ n = 4 ∨ n = 5 ∨ n = 6 ∨ n = 7 ∨ n = 8 := by omega
  rcases this with rfl | rfl | rfl | rfl | rfl | rfl | rfl | rfl | rfl <;> decide
set_option maxHeartbeats 1000000 in
theorem l1Fact_any (n : Nat) (w : World) (hn : n ≤ 8) : Calls Tryz.prog 112 #[.int .i64 n] w fun e w' => e = .returned (.int .i64 (factB n : Int)) ∧ w = w' := by
  have hf := fact_le hn
  go_enter Tryz.func112, Tryz.ntmps112
  go_wp2_with fail
  go_loop [0, 3] (fun i o => ∃ m k : Nat, m ≤ n ∧ i = .int .i64 m ∧ o = .int .i64 k ∧ k * factB m = factB n) (fun i _ => (intOf i).toNat)
  case atStart => exact ⟨n, 1, by omega, rfl, rfl, by omega⟩
  case round =>
    obtain ⟨m, k, hm, rfl, rfl, hk⟩ := hrel
    have hk2 : k ≤ 40320 := by
      have h1 := fact_pos m
      have : k * 1 ≤ k * factB m := Nat.mul_le_mul_left _ h1
      omega
    by_cases hlt : 1 < m
    · obtain ⟨j, rfl⟩ : ∃ j, m = j + 1 := ⟨m - 1, by omega⟩
      have hkm : k * (j + 1) ≤ 40320 * 8 := Nat.mul_le_mul hk2 (by omega)
      have hw1 : IntKind.i64.wrap ((k : Int) * ((j : Int) + 1)) = ((k * (j + 1) : Nat) : Int) := by
        have e : (k : Int) * ((j : Int) + 1) = ((k * (j + 1) : Nat) : Int) := by simp
        rw [e]
        exact IntWalk.i64_in _ ⟨by omega, by omega⟩
      have hd : decide ((1 : Int) < (j : Int) + 1) = true := decide_eq_true (by omega)
      have Hk : Hid (k * (j + 1) * factB j = factB n) := Lib.hid (by rw [← hk, factB, Nat.mul_assoc])
      clear hk hkm
      go_wp2_with fail
      exact ⟨⟨j, k * (j + 1), by omega, by go_num, by first | rfl | simp, Hk.out⟩, by simp [intOf] <;> omega⟩
    · have hd : decide ((1 : Int) < (m : Int)) = false := decide_eq_false (by omega)
      have hk1 : k = factB n := by
        have : m = 0 ∨ m = 1 := by omega
        rcases this with rfl | rfl
        · simpa [factB] using hk
        · simpa [factB] using hk
      have Hk := Lib.hid hk1
      clear hk hk1
      go_wp2_with fail
      go_ret
      exact ⟨ret_int (by rw [Hk.out]), rfl⟩
/-- A row of truths in block g. -/
def SB (W : World) (base g N : Nat) (f : Nat → Bool) : Prop := W.ownsRow base 4 1 (.slice (some ⟨g, 0, none⟩) N N) N ((List.range N).map fun i => Value.bool (f i))
theorem SB.cell {W : World} {base g N : Nat} {f : Nat → Bool} (h : SB W base g N f) {i : Nat} (hi : i < N) : W.cell? ⟨g, i, none⟩ = some (.bool (f i)) := by
  rw [h.cellAt i (by omega), List.getElem?_map, List.getElem?_eq_getElem (by simpa using hi)]; simp
theorem SB.free {W : World} {base g N : Nat} {f : Nat → Bool} (h : SB W base g N f) (i : Nat) : W.frozen? ⟨g, i, none⟩ = false := h.frozenAt i
theorem SB.to {W W' : World} {base g N : Nat} {f : Nat → Bool} (h : SB W base g N f) (hb : Below W.heap.size W W') : SB W' base g N f := own_to h hb
theorem SB.set {W : World} {base g N : Nat} {f : Nat → Bool} (h : SB W base g N f) {i : Nat} (hi : i < N) : SB (W.setCell ⟨g, i, none⟩ (.bool true)) base g N (fun j => if j = i then true else f j) := by
  have h2 := own_set h i (.bool true)
  unfold SB
  have e : ((List.range N).map fun j => Value.bool (f j)).set i (.bool true) = (List.range N).map fun j => Value.bool (if j = i then true else f j) := by
    apply List.ext_getElem?
    intro j
    rw [List.getElem?_set, List.getElem?_map, List.getElem?_map]
    simp only [List.length_map, List.length_range]
    by_cases hij : i = j
    · subst hij
      rw [if_pos rfl, if_pos hi, List.getElem?_eq_getElem (by simpa using hi)]
      simp
    · rw [if_neg hij]
      by_cases hj : j < N
      · rw [List.getElem?_eq_getElem (by simpa using hj)]
        simp only [Option.map_some, List.getElem_range]
        rw [if_neg (fun e => hij e.symm)]
      · rw [List.getElem?_eq_none (by simpa using hj)]; rfl
  rw [← e]
  exact h2
theorem SB.lt {W : World} {base g N : Nat} {f : Nat → Bool} (h : SB W base g N f) : base ≤ g ∧ g < W.heap.size := World.ownsRow.lt h g rfl
theorem info_bool : (Tryz.prog.info? 4).map (fun i => (i.zero, i.size, i.bytes)) = some (some (.bool false), 1, 1) := by kernel_rfl
set_option maxHeartbeats 1000000 in
theorem l6Seen_any (n : Nat) (w : World) (hn : n ≤ 8) : Calls Tryz.prog 106 #[.int .i64 n] w fun e w' => e = .returned (.slice (some ⟨w.heap.size, 0, none⟩) (factB n) (factB n)) ∧ SB w' w.heap.size w.heap.size (factB n) (fun _ => false) ∧ Below w.heap.size w w' := by
  obtain ⟨i0, hi0, hz0, hs0, hb0⟩ := info_parts info_bool
  have hf := fact_le hn
  go_enter Tryz.func106, Tryz.ntmps106
  go_wp2_with (first | (go_at_call 112; refine (l1Fact_any n _ hn).mono ?_; rintro e w' ⟨rfl, rfl⟩) | (at_make; refine wpList_make_full _ rfl _ _ _ rfl w.heap.size 4 i0 _ 1 Tryz.underlying124 hi0 hz0 hs0 _ _ _ _ (factB n) rfl rfl rfl rfl (by rw [hb0]; omega) (by unfold maxLen; omega) (Nat.le_refl _) ?_; intro w1 hown1 hgr1))
  have hB1 := bw_gr (Below.refl _ _) hgr1
  have h2 : SB w1 w.heap.size w.heap.size (factB n) (fun _ => false) := by
    rw [Nat.mul_one] at hown1
    unfold SB
    have e : (madeCells (Value.bool false).cells (factB n)).toList = (List.range (factB n)).map fun _ => Value.bool false := by
      have e2 := made_rep (.bool false) (factB n)
      rw [show (Value.bool false).cells = #[.bool false] from rfl, e2]
      apply List.ext_getElem?
      intro i
      rw [List.getElem?_map]
      by_cases hi : i < factB n
      · rw [List.getElem?_eq_getElem (by simpa using hi), List.getElem?_eq_getElem (by simpa using hi)]; simp
      · rw [List.getElem?_eq_none (by simpa using hi), List.getElem?_eq_none (by simpa using hi)]; rfl
    rw [← e]; exact hown1
  have H2 := Lib.hid h2
  clear hown1 h2
  go_wp2_with fail
  go_ret
  exact ⟨rfl, H2.out, hB1⟩
theorem lessN_step {l : List UInt8} {i j : Nat} (hij : i < j) (hj : j < l.length) (x : UInt8) : lessN x ((l.take (j + 1)).drop (i + 1)) = lessN x ((l.take j).drop (i + 1)) + (if l[j] < x then 1 else 0) := by
  unfold lessN
  rw [List.take_succ_eq_append_getElem hj, List.drop_append_of_le_length (by rw [List.length_take]; omega), List.countP_append]
  simp [List.countP_cons]
set_option maxRecDepth 10000 in
set_option maxHeartbeats 4000000 in
theorem l1Place_any (n : Nat) (a : ByteArray) (w : World) (hn : n ≤ 8) (ha : PermR n a) : Calls Tryz.prog 108 #[.string a] w fun e w' => e = .returned (.int .i64 (placeB a : Int)) ∧ Below w.heap.size w w' := by
  have hl : a.data.toList.length = n := by rw [ha.length_eq, roundsL_len]
  have hsz : a.size = n := by rw [← bytes_len, hl]
  have hpl := place_lt ha
  have hfl := fact_le hn
  have Hl := Lib.hid hl
  obtain ⟨V, hV⟩ : ∃ V, V = placeB a := ⟨_, rfl⟩
  rw [← hV] at hpl
  have HV : Hid (V = placeF 0 a.data.toList) := Lib.hid hV
  rw [← hV]
  clear hl ha hV
  go_enter Tryz.func108, Tryz.ntmps108
  go_wp2_with fail
  go_loopw [3, 4] (fun o i wr => ∃ k K : Nat, k ≤ n ∧ i = .int .i64 k ∧ o = .int .i64 K ∧ placeF K (a.data.toList.drop k) = V ∧ Below w.heap.size w wr) (fun _ i _ => n - (intOf i).toNat)
  case atStart => exact ⟨0, 0, by omega, rfl, rfl, HV.out.symm, Below.refl _ _⟩
  case round =>
    obtain ⟨k, K, hk, rfl, rfl, hpf, hB⟩ := hrel
    have hKb : K ≤ 40320 := by
      rw [placeF_add] at hpf
      have h1 := fact_pos (a.data.toList.drop k).length
      have : K * 1 ≤ K * factB (a.data.toList.drop k).length := Nat.mul_le_mul_left _ h1
      omega
    by_cases hlt : k < n
    · have hka : k < a.size := by rw [hsz]; exact hlt
      have hkl : k < a.data.toList.length := by rw [Hl.out]; exact hlt
      have Hpf : Hid (placeF (K * (n - k) + lessN a[k] (a.data.toList.drop (k + 1))) (a.data.toList.drop (k + 1)) = V) := Lib.hid (by
        rw [← hpf, List.drop_eq_getElem_cons hkl, placeF, bytes_get a k hka]
        congr 3
        rw [List.length_drop, Hl.out]; omega)
      have hll := lessN_le a[k] (a.data.toList.drop (k + 1))
      rw [List.length_drop, Hl.out] at hll
      obtain ⟨lt, hlt'⟩ : ∃ x, x = lessN a[k] (a.data.toList.drop (k + 1)) := ⟨_, rfl⟩
      rw [← hlt'] at Hpf hll
      have Hfin : Hid (lessN a[k] ((a.data.toList.take n).drop (k + 1)) = lt) := Lib.hid (by rw [hlt', ← Hl.out, List.take_length])
      have H0 : Hid (lessN a[k] ((a.data.toList.take (k + 1)).drop (k + 1)) = 0) := Lib.hid (by rw [List.drop_of_length_le (by rw [List.length_take]; omega)]; rfl)
      clear hpf hlt'
      go_wp2_with fail
      obtain ⟨wo, rfl⟩ : ∃ wo : World, wo = wr := ⟨_, rfl⟩
      go_loopw [5, 6] (fun o i wr => ∃ j c : Nat, k + 1 ≤ j ∧ j ≤ n ∧ i = .int .i64 j ∧ o = .int .i64 c ∧ lessN a[k] ((a.data.toList.take j).drop (k + 1)) = c ∧ c ≤ j ∧ Below wo.heap.size wo wr) (fun _ i _ => n - (intOf i).toNat)
      case atStart => exact ⟨k + 1, 0, by omega, by omega, by go_num, rfl, H0.out, by omega, Below.refl _ _⟩
      case round =>
        obtain ⟨j, c, hj1, hj, rfl, rfl, hc, hcj, hB2⟩ := hrel
        by_cases hlt2 : j < n
        · have hja : j < a.size := by omega
          have Hst : Hid (lessN a[k] ((a.data.toList.take (j + 1)).drop (k + 1)) = c + (if a[j] < a[k] then 1 else 0)) := Lib.hid (by rw [lessN_step (by omega) (by rw [Hl.out]; exact hlt2), hc, bytes_get a j hja])
          have Hle := Lib.hid (UInt8.lt_iff_toNat_lt (a := a[j]) (b := a[k]))
          clear hc
          by_cases hcc : a[j] < a[k]
          · rw [if_pos hcc] at Hst
            have hd : decide ((a[j].toNat : Int) < (a[k].toNat : Int)) = true := decide_eq_true (by have := Hle.out.1 hcc; omega)
            have Hc := Lib.hid hcc
            clear hcc
            go_wp2_with fail
            go_big_quiet (fail)
            go_wp2_with fail
            exact ⟨⟨j + 1, c + 1, by omega, by omega, by go_num, by go_num, Hst.out, by omega, bw_dr hB2 _⟩, by simp [intOf]; omega⟩
          · rw [if_neg hcc] at Hst
            have hd : decide ((a[j].toNat : Int) < (a[k].toNat : Int)) = false := decide_eq_false (fun h => hcc (Hle.out.2 (by omega)))
            have Hc := Lib.hid hcc
            clear hcc
            go_wp2_with fail
            go_big_quiet (fail)
            go_wp2_with fail
            exact ⟨⟨j + 1, c, by omega, by omega, by go_num, by go_num, Hst.out, by omega, bw_dr hB2 _⟩, by simp [intOf]; omega⟩
        · obtain rfl : j = n := by omega
          have hcl : c = lt := by rw [← hc]; exact Hfin.out
          have Hcl := Lib.hid hcl
          have hmul : K * (j - k) ≤ 40320 * 8 := Nat.mul_le_mul hKb (by omega)
          have hs1 : (j : Int) - (k : Int) = ((j - k : Nat) : Int) := by omega
          have hw1 : IntKind.i64.wrap ((K : Int) * ((j : Int) - (k : Int))) = ((K * (j - k) : Nat) : Int) := by
            rw [hs1, show (K : Int) * ((j - k : Nat) : Int) = ((K * (j - k) : Nat) : Int) by simp]
            exact IntWalk.i64_in _ ⟨by omega, by omega⟩
          have hw2 : IntKind.i64.wrap (((K * (j - k) : Nat) : Int) + (c : Int)) = ((K * (j - k) + c : Nat) : Int) := by
            rw [show ((K * (j - k) : Nat) : Int) + (c : Int) = ((K * (j - k) + c : Nat) : Int) by simp]
            exact IntWalk.i64_in _ ⟨by omega, by omega⟩
          have Hpf2 : Hid (placeF (K * (j - k) + c) (a.data.toList.drop (k + 1)) = V) := Lib.hid (by rw [hcl]; exact Hpf.out)
          obtain ⟨M, hM⟩ : ∃ M, M = K * (j - k) + c := ⟨_, rfl⟩
          rw [← hM] at hw2 Hpf2
          obtain ⟨M0, hM0⟩ : ∃ M0, M0 = K * (j - k) := ⟨_, rfl⟩
          rw [← hM0] at hw1 hw2
          clear hc hcl hmul hs1 hM hM0 Hpf Hfin H0
          go_wp2_with fail
          exact ⟨⟨k + 1, M, by omega, by go_num, by first | rfl | (simp [hw1, hw2]), Hpf2.out, bw_to hB hB2⟩, by simp [intOf]; omega⟩
    · obtain rfl : k = n := by omega
      rw [List.drop_of_length_le (by rw [Hl.out]; exact Nat.le_refl _)] at hpf
      have Hp : Hid (K = V) := Lib.hid hpf
      clear hpf
      go_wp2_with fail
      go_ret
      exact ⟨ret_int (by rw [Hp.out]), hB⟩
end Go.Proofs.YtofpjbdelmmclaaGreatDoor

/- The group that rows generate: the reference's. -/
namespace Go.Proofs.YtofpjbdelmmclaaGreatDoor
open Go Go.RowKit
set_option linter.unusedVariables false
set_option linter.unusedSimpArgs false

def grp8 (F : List ByteArray) : List ByteArray := if F.length ≤ 800 then sortB F else []
theorem grp8_yes {F : List ByteArray} (h : F.length ≤ 800) : grp8 F = sortB F := by unfold grp8; rw [if_pos h]
theorem grp8_no {F : List ByteArray} (h : ¬ F.length ≤ 800) : grp8 F = [] := by unfold grp8; rw [if_neg h]
theorem part_get8 {n : Nat} {gens : List ByteArray} {t : Nat} (h : t < (cloB n gens t).length) (j : Nat) (y : ByteArray) : (partB n gens t j y)[t]? = some (cloB n gens t)[t] := by
  obtain ⟨r, hr⟩ := exp_pre y (gens.take j) (cloB n gens t)
  unfold partB
  rw [← hr, List.getElem?_append_left h, List.getElem?_eq_getElem h]
/-- What the row of truths says of some rows. -/
def SeenOf (n : Nat) (f : Nat → Bool) (L : List ByteArray) : Prop := ∀ x, PermR n x → (f (placeB x) = true ↔ x ∈ L)
theorem SeenOf.put {n : Nat} {f : Nat → Bool} {L : List ByteArray} (h : SeenOf n f L) {x : ByteArray} (hx : PermR n x) : SeenOf n (fun j => if j = placeB x then true else f j) (L ++ [x]) := by
  intro z hz
  show (if placeB z = placeB x then true else f (placeB z)) = true ↔ _
  rw [List.mem_append, List.mem_singleton, ← h z hz]
  by_cases e : placeB z = placeB x
  · rw [if_pos e]; simp [place_inj hz hx e]
  · rw [if_neg e]
    constructor
    · exact .inl
    · rintro (h | rfl)
      · exact h
      · exact absurd rfl e
theorem SeenOf.none (n : Nat) : SeenOf n (fun _ => false) [] := fun x _ => by simp
set_option maxRecDepth 100000 in
set_option maxHeartbeats 8000000 in
theorem l6Close_any (n T : Nat) (gens : List ByteArray) (V : Value) (w : World) (hn : n ≤ 8) (hg : ∀ g ∈ gens, RowIn n g) (hgp : ∀ g ∈ gens, PermR n g) (hV : Strs w V gens) (hg0 : 1 ≤ gens.length) (hgl : gens.length ≤ 100) (hT : IsClo n gens T) (hTb : T ≤ 16777216) :
    Calls Tryz.prog 167 #[V] w fun e w' => ∃ A q, e = .returned (.tuple #[.slice A (grp8 (cloB n gens T)).length q, .bool (decide ((cloB n gens T).length ≤ 800))]) ∧ w'.ownsRow w.heap.size 9 1 (.slice A (grp8 (cloB n gens T)).length q) (grp8 (cloB n gens T)).length ((grp8 (cloB n gens T)).map Value.string) ∧ Below w.heap.size w w' := by
  have Hall := Lib.hid (clo_all (P := RowIn n) (n := n) (gens := gens) (rounds_in hn) (fun x g hx hg' => times_in hx (hg g hg')))
  have HallP := Lib.hid (clo_all (P := PermR n) (n := n) (gens := gens) (PermR.rounds hn) (fun x g hx hg' => hx.times hn (hgp g hg')))
  have HT := Lib.hid hT
  have Hg := Lib.hid hg
  have Hgp := Lib.hid hgp
  have Hyes := Lib.hid (fun h => grp8_yes (F := cloB n gens T) h)
  have Hno := Lib.hid (fun h => grp8_no (F := cloB n gens T) h)
  have hfl := fact_le hn
  have hfp := fact_pos n
  obtain ⟨A0, c0, rfl, hgc, hgm, hrd⟩ := hV
  unfold maxLen at hgm
  have hrs : (roundsB n).size = n := rounds_size hn
  have Hpr := Lib.hid (PermR.rounds hn)
  obtain ⟨ad0, hA0, hC0'⟩ := strs_el (k := 0) hrd (by omega)
  subst hA0
  have hg00 := hg _ (List.getElem_mem (show 0 < gens.length by omega))
  have h0 := hC0' w (Below.refl _ _)
  obtain ⟨g0, eg0⟩ : ∃ g, g = gens[0] := ⟨_, rfl⟩
  rw [← eg0] at h0 hg00
  have h0' := h0
  rw [add_zero'] at h0'
  have hg0s : g0.size = n := hg00.1
  clear hT hg hgp hC0' eg0 hg00
  go_enter Tryz.func167, Tryz.ntmps167
  go_wp2_with (go_at_call 109; refine (l1Rounds_any n _ hn).mono ?_; rintro e w' ⟨rfl, rfl⟩)
  refine (l6Seen_any n w hn).mono ?_; rintro e w1 ⟨rfl, hs1, hb1⟩
  obtain ⟨N, hN⟩ : ∃ N, N = factB n := ⟨_, rfl⟩
  have hplr : placeB (roundsB n) < N := by rw [hN]; exact place_lt Hpr.out
  have HplN : Hid (∀ x, PermR n x → placeB x < N) := Lib.hid (fun x hx => by rw [hN]; exact place_lt hx)
  have HpL := Lib.hid (fun W => l1Place_any n (roundsB n) W hn Hpr.out)
  rw [← hN] at hs1 hfl hfp ⊢
  have hNm : (N : Int) ≤ 9223372036854775807 := by omega
  obtain ⟨p0, hp0⟩ : ∃ p, p = placeB (roundsB n) := ⟨_, rfl⟩
  rw [← hp0] at hplr HpL
  have hs1c := Lib.hid hs1
  clear hN
  go_wp2_with fail
  refine (HpL.out _).mono ?_; rintro e w2 ⟨rfl, hb2⟩
  have hs2 := hs1c.out.to hb2
  have hc2 := hs2.cell hplr
  have hf2 := hs2.free p0
  have hs3 := hs2.set hplr
  have hseen0 : SeenOf n (fun j => if j = p0 then true else false) [roundsB n] := by
    have := (SeenOf.none n).put Hpr.out
    rw [← hp0] at this
    simpa using this
  have Hseen0 := Lib.hid hseen0
  have Hs3 := Lib.hid hs3
  have hB3 : Below w.heap.size w (w2.setCell ⟨w.heap.size, p0, none⟩ (.bool true)) := grow_set (bw_to hb1 hb2) (Nat.le_refl _) _
  have hwl : w.heap.size < w2.heap.size := hs2.lt.2
  clear hs1 hs2 hs3 hp0 hseen0
  go_wp2_with fail
  refine box1 (C := fun W => Code.wp _ _ _ _ W) ?_
  intro w4 hw4 k4 hB04
  have hsz24 : (w2.setCell ⟨w.heap.size, p0, none⟩ (.bool true)).heap.size = w2.heap.size := by simp [World.setCell]
  have hown0 : w4.ownsRow w2.heap.size 9 1 (.slice (some ⟨w2.heap.size, 0, none⟩) 1 1) 1 ([roundsB n].map Value.string) := by
    rw [hsz24] at k4
    exact own_of_heap k4 (Nat.le_refl _) (by unfold maxLen; omega) rfl
  have hs4 := Lib.hid (Hs3.out.to hw4)
  have hB4 := bw_to hB3 hw4
  have hs24 : w2.heap.size ≤ w4.heap.size := by have := hw4.size; omega
  obtain ⟨f0, hf0⟩ : ∃ f, f = (fun j => if j = p0 then true else false) := ⟨_, rfl⟩
  have hs4' : SB w4 w.heap.size w.heap.size N f0 := by rw [hf0]; exact hs4.out
  rw [← hf0] at Hseen0
  clear k4 hc2 hf2 hs4 Hs3 hf0 hw4 hB3 hsz24 hB04
  go_wp2_with fail
  go_loopw [6, 7] (fun o i wr => ∃ (t : Nat) (L : List ByteArray) (A : Option Addr) (q : Nat) (f : Nat → Bool), t ≤ T ∧ i = .int .i64 t ∧ L = cloB n gens t ∧ o = .slice A L.length q ∧ wr.ownsRow w2.heap.size 9 1 (.slice A L.length q) L.length (L.map Value.string) ∧ SB wr w.heap.size w.heap.size N f ∧ SeenOf n f L ∧ L.length ≤ 800 ∧ Below w.heap.size w wr ∧ w2.heap.size ≤ wr.heap.size) (fun _ i _ => T + 1 - (intOf i).toNat)
  case atStart => exact ⟨0, [roundsB n], _, 1, f0, by omega, rfl, rfl, rfl, hown0, hs4', Hseen0.out, by simp, hB4, hs24⟩
  case round =>
    obtain ⟨t, L, A, q, f, ht, rfl, hL, rfl, hown, hm, hf, hl, hB, hsz⟩ := hrel
    have hlq := sl_cap hown
    have HL := Lib.hid hL
    have Hf := Lib.hid hf
    have Hm := Lib.hid hm
    clear hL hf hm hs4' hown0
    by_cases hlt : t < L.length
    · have htT : t < T := by
        rcases Nat.lt_or_ge t T with h | h
        · exact h
        · have e : t = T := by omega
          have := HT.out.1
          rw [← e, ← HL.out] at this; omega
      have hlt' : t < (cloB n gens t).length := by rw [← HL.out]; exact hlt
      obtain ⟨y, hy⟩ : ∃ y, y = (cloB n gens t)[t] := ⟨_, rfl⟩
      have Hy : Hid (RowIn n y) := Lib.hid (by rw [hy]; exact Hall.out t _ (List.getElem_mem hlt'))
      have HyP : Hid (PermR n y) := Lib.hid (by rw [hy]; exact HallP.out t _ (List.getElem_mem hlt'))
      have Hpl : Hid (∀ j, (partB n gens t j y).length ≤ (cloB n gens T).length) := Lib.hid (fun j => by rw [hy]; exact part_len HT.out htT)
      have Hpg : Hid (∀ j, (partB n gens t j y)[t]? = some y) := Lib.hid (fun j => by rw [part_get8 hlt' j y, hy])
      have Hpa : Hid (partB n gens t gens.length y = cloB n gens (t + 1)) := Lib.hid (by rw [hy]; exact part_all hlt')
      have Hp0 : Hid (L = partB n gens t 0 y) := Lib.hid HL.out
      clear hy hlt'
      go_wp2_with fail
      obtain ⟨wo, rfl⟩ : ∃ wo : World, wo = wr := ⟨_, rfl⟩
      go_loopw [6, 33] (fun o i wr => ∃ (j : Nat) (L : List ByteArray) (A : Option Addr) (q : Nat) (f : Nat → Bool), j ≤ gens.length ∧ i = .int .i64 j ∧ L = partB n gens t j y ∧ o = .slice A L.length q ∧ wr.ownsRow w2.heap.size 9 1 (.slice A L.length q) L.length (L.map Value.string) ∧ SB wr w.heap.size w.heap.size N f ∧ SeenOf n f L ∧ L.length ≤ 800 + j ∧ Below w.heap.size w wr ∧ w2.heap.size ≤ wr.heap.size) (fun _ i _ => gens.length - (intOf i).toNat)
      case atStart => exact ⟨0, L, A, q, f, by omega, rfl, Hp0.out, rfl, hown, Hm.out, Hf.out, by omega, hB, hsz⟩
      case round =>
        clear hown hlq hl hlt HL Hf Hm Hp0
        obtain ⟨j, L, A, q, f, hj, rfl, hL, rfl, hown, hm, hf, hl, hB, hsz⟩ := hrel
        have hlq := sl_cap hown
        have HL := Lib.hid hL
        clear hL
        by_cases hlt : j < gens.length
        · obtain ⟨ad, eA, hC⟩ := strs_el hrd hlt
          cases eA
          have hC0 := hC _ hB
          have hgin := Hg.out _ (List.getElem_mem hlt)
          have hgpe := Hgp.out _ (List.getElem_mem hlt)
          obtain ⟨A', c', e', hx1, hx2, hrdL⟩ := sl_of_own hown
          injection e' with ea _ ec
          subst ea ec
          have htL : t < L.length := by
            have h := Hpg.out j
            rw [← HL.out] at h
            exact (List.getElem?_eq_some_iff.1 h).1
          obtain ⟨ad2, rfl, hC2⟩ := strs_el hrdL htL
          have hC20 := hC2 _ (Below.refl _ _)
          have ey : L[t] = y := by
            have h := Hpg.out j
            rw [← HL.out] at h
            exact (List.getElem?_eq_some_iff.1 h).2
          rw [ey] at hC20
          obtain ⟨g, eg⟩ : ∃ g, g = gens[j] := ⟨_, rfl⟩
          have Hps : Hid (partB n gens t (j + 1) y = visitB L (timesB y g)) := Lib.hid (by rw [part_succ hlt, ← HL.out, eg])
          rw [← eg] at hC0 hgin hgpe
          have Hti := Lib.hid (HyP.out.times hn hgpe)
          have Htm := Lib.hid (fun W => l1Times_any y g W (by rw [Hy.out.1]; omega) (by rw [hgin.1]; omega) (row_hin Hy.out.1 hgin))
          have hownH := Lib.hid hown
          have Hm := Lib.hid hm
          have Hf := Lib.hid hf
          clear hC hC2 ey eg hgin hgpe hrdL hx2 hown hm hf
          go_wp2_with (go_at_call 145; refine (Htm.out _).mono ?_; rintro e w' ⟨rfl, rfl⟩)
          obtain ⟨x, hx⟩ : ∃ x, x = timesB y g := ⟨_, rfl⟩
          rw [← hx] at Hps Hti ⊢
          have Hpx := Lib.hid (fun W => l1Place_any n x W hn Hti.out)
          have hpxN := HplN.out x Hti.out
          have Hfx := Lib.hid (Hf.out x Hti.out)
          obtain ⟨p, hp⟩ : ∃ p, p = placeB x := ⟨_, rfl⟩
          rw [← hp] at Hpx hpxN Hfx
          have Hput : Hid (SeenOf n (fun j => if j = p then true else f j) (L ++ [x])) := Lib.hid (by rw [hp]; exact Hf.out.put Hti.out)
          clear hx hp
          refine (Hpx.out _).mono ?_; rintro e w5 ⟨rfl, hb5⟩
          have hm5 := Hm.out.to hb5
          have hown5 := own_to hownH.out hb5
          have hB5 := bw_to hB hb5
          have hsz5 : w2.heap.size ≤ w5.heap.size := Nat.le_trans hsz hb5.size
          have hc5 := hm5.cell hpxN
          have Hm5 := Lib.hid hm5
          clear hm5
          cases hb : f p
          · rw [hb] at hc5
            have hnm : x ∉ L := fun h => by rw [Hfx.out.2 h] at hb; cases hb
            have Hv : Hid (partB n gens t (j + 1) y = L ++ [x]) := Lib.hid (by rw [Hps.out]; unfold visitB; rw [if_neg hnm])
            have Hown5 := Lib.hid hown5
            clear hnm hown5
            go_wp2_with fail
            refine (Hpx.out _).mono ?_; rintro e w6 ⟨rfl, hb6⟩
            have hm6 := Hm5.out.to hb6
            have hc6 := hm6.cell hpxN
            have hf6 := hm6.free p
            have hs6 := hm6.set hpxN
            have hown6 := own_past (own_to Hown5.out hb6) hwl p (.bool true)
            have hB6 : Below w.heap.size w (w6.setCell ⟨w.heap.size, p, none⟩ (.bool true)) := grow_set (bw_to hB5 hb6) (Nat.le_refl _) _
            have hsz6 : w2.heap.size ≤ (w6.setCell ⟨w.heap.size, p, none⟩ (.bool true)).heap.size := by simp [World.setCell]; exact Nat.le_trans hsz5 hb6.size
            have Hs6 := Lib.hid hs6
            clear hm6 hs6
            go_wp2_with (at_builtin; go_must (refine wpList_app_at _ rfl _ _ _ rfl w2.heap.size 9 _ 1 16 Tryz.underlying24 info_str rfl (by omega) hown6 [.string x] rfl rfl rfl (by simp [World.setCell]) (one_mem rfl) (by omega) (by omega) hsz6 ?_); intro v7 w7 hown7 hb7 hg7 _)
            obtain ⟨A7, q7, e7, _⟩ := sl_of_own hown7
            subst e7
            have hm7 : SB w7 w.heap.size w.heap.size N (fun j => if j = p then true else f j) := World.ownsRow.kept Hs6.out hg7 (.inr (fun e => by have := (hown6.lt w.heap.size e.symm).1; omega))
            rw [str_snoc (rfl : L ++ [x] = L ++ [x])] at hown7
            have e8 : (L ++ [x]).length = L.length + 1 := by simp
            exact ⟨⟨j + 1, L ++ [x], A7, q7, _, by omega, by go_num, Hv.out.symm, by rw [e8], by rw [e8]; exact hown7, hm7, Hput.out, by rw [e8]; omega, hB6.trans (hb7.mono (by omega)), by have := hg7.size; omega⟩, by simp [intOf]; omega⟩
          · rw [hb] at hc5
            have hmem := Hfx.out.1 hb
            have Hv : Hid (partB n gens t (j + 1) y = L) := Lib.hid (by rw [Hps.out]; unfold visitB; rw [if_pos hmem])
            clear hmem
            go_wp2_with fail
            exact ⟨⟨j + 1, L, _, q, f, by omega, by go_num, Hv.out.symm, rfl, hown5, Hm5.out, Hf.out, by omega, hB5, hsz5⟩, by simp [intOf]; omega⟩
        · obtain rfl : j = gens.length := by omega
          have Hm := Lib.hid hm
          have Hf := Lib.hid hf
          have HL2 : Hid (L = cloB n gens (t + 1)) := Lib.hid (by rw [HL.out, Hpa.out])
          clear hm hf
          by_cases h800 : L.length ≤ 800
          · have hd : decide ((800 : Int) < (L.length : Int)) = false := decide_eq_false (by omega)
            go_wp2_with fail
            exact ⟨⟨t + 1, L, A, q, f, by omega, by go_num, HL2.out, rfl, hown, Hm.out, Hf.out, by omega, hB, hsz⟩, by simp [intOf]; omega⟩
          · have hd : decide ((800 : Int) < (L.length : Int)) = true := decide_eq_true (by omega)
            have HF : Hid (¬ (cloB n gens T).length ≤ 800) := Lib.hid (by
              have h := clo_len_mono (n := n) (gens := gens) (show t + 1 ≤ T by omega)
              rw [← HL2.out] at h
              omega)
            have hdd := Lib.hid (decide_eq_false HF.out)
            have HE := Lib.hid (Hno.out HF.out)
            clear hown
            go_wp2_with fail
            go_ret2
            refine ⟨none, 0, by rw [hdd.out, HE.out]; rfl, by rw [HE.out]; exact World.ownsRow_nil _ _ _ _, hB⟩
    · have htT : t = T := by
        rcases Nat.lt_or_ge t T with h | h
        · have := HT.out.2 t h; rw [← HL.out] at this; omega
        · omega
      subst htT
      have hF : (cloB n gens t).length ≤ 800 := by rw [← HL.out]; exact hl
      have hdd := Lib.hid (decide_eq_true hF)
      have HE := Lib.hid (Hyes.out hF)
      have Hso := Lib.hid (l6Sort_any (.slice A L.length q) L wr (by omega) (strs_of_own hown) (nilok_own hown))
      clear hown hF
      go_wp2_with fail
      refine Hso.out.mono ?_; rintro e w8 ⟨A8, q8, rfl, hown8, hb8⟩
      have Hown8 := Lib.hid hown8
      clear hown8
      go_wp2_with fail
      go_ret2
      have e9 : (grp8 (cloB n gens t)).length = L.length := by rw [HE.out, sortB_len, ← HL.out]
      refine ⟨A8, q8, by rw [hdd.out, e9]; rfl, ?_, bw_to hB hb8⟩
      rw [e9, HE.out, ← HL.out]
      exact own_base Hown8.out (by omega)
end Go.Proofs.YtofpjbdelmmclaaGreatDoor
