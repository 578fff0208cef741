/- Changes: a plain account; the contracts of l2Change, places, arePlaces, GoodChange. -/
import Derived.Test.YtimeecimaokldaaGreatDoorPk1
namespace Go.Proofs.YtimeecimaokldaaGreatDoor
open Go Go.RowKit
set_option linter.unusedVariables false
set_option linter.unusedSimpArgs false

def place (c : UInt8) : Int := (c.toNat : Int) - 48
def fromB (n : Int) : Int → List UInt8 → Bool
  | last, [] => decide ((n - last) % 2 = 0)
  | last, c :: cs => decide (last + 1 ≤ place c ∧ place c ≤ n) && (!decide ((place c - last) % 2 = 0) && fromB n (place c) cs)
def changeB (n : Int) (l : List UInt8) : Bool :=
  decide (3 ≤ n ∧ n ≤ 8) && (decide (1 ≤ l.length ∧ (l.length : Int) ≤ n - 2) && (if l = [45] then decide (n % 2 = 0) else fromB n 0 l))

theorem fromB_step {n last : Int} {l : List UInt8} {k : Nat} {b : Bool} (hk : k < l.length) (h0 : fromB n last (l.drop k) = b) (h1 : last + 1 ≤ place l[k] ∧ place l[k] ≤ n) (h2 : ¬ (place l[k] - last) % 2 = 0) :
    fromB n (place l[k]) (l.drop (k + 1)) = b := by
  rw [List.drop_eq_getElem_cons hk] at h0
  rw [fromB, decide_eq_true h1, decide_eq_false h2] at h0
  simpa using h0
theorem fromB_no1 {n last : Int} {l : List UInt8} {k : Nat} {b : Bool} (hk : k < l.length) (h0 : fromB n last (l.drop k) = b) (h1 : ¬ (last + 1 ≤ place l[k] ∧ place l[k] ≤ n)) : b = false := by
  rw [List.drop_eq_getElem_cons hk] at h0
  rw [fromB, decide_eq_false h1] at h0
  simpa using h0.symm
theorem fromB_no2 {n last : Int} {l : List UInt8} {k : Nat} {b : Bool} (hk : k < l.length) (h0 : fromB n last (l.drop k) = b) (h2 : (place l[k] - last) % 2 = 0) : b = false := by
  rw [List.drop_eq_getElem_cons hk] at h0
  rw [fromB, decide_eq_true h2] at h0
  simpa using h0.symm
theorem fromB_end {n last : Int} {l : List UInt8} {k : Nat} {b : Bool} (hk : ¬ k < l.length) (h0 : fromB n last (l.drop k) = b) : b = decide ((n - last) % 2 = 0) := by
  rw [List.drop_of_length_le (by omega)] at h0
  exact h0.symm
theorem changeB_no1 {n : Int} {l : List UInt8} (h : ¬ (3 ≤ n ∧ n ≤ 8)) : changeB n l = false := by unfold changeB; rw [decide_eq_false h]; rfl
theorem changeB_no2 {n : Int} {l : List UInt8} (h : ¬ (1 ≤ l.length ∧ (l.length : Int) ≤ n - 2)) : changeB n l = false := by unfold changeB; rw [decide_eq_false h]; simp
theorem changeB_dash {n : Int} {l : List UInt8} (h0 : 3 ≤ n ∧ n ≤ 8) (h : l = [45]) : changeB n l = decide (n % 2 = 0) := by
  unfold changeB; rw [decide_eq_true h0, decide_eq_true (by rw [h]; simp; omega), if_pos h]; rfl
theorem changeB_from {n : Int} {l : List UInt8} (h0 : 3 ≤ n ∧ n ≤ 8) (h1 : 1 ≤ l.length ∧ (l.length : Int) ≤ n - 2) (h : ¬ l = [45]) : changeB n l = fromB n 0 l := by
  unfold changeB; rw [decide_eq_true h0, decide_eq_true h1, if_neg h]; rfl
theorem bytes_toList (s : ByteArray) : s.toList = s.data.toList := ByteArray.toList_eq s
theorem dash_iff (s : ByteArray) : (s.toList == [45]) = decide (s.data.toList = [45]) := by rw [bytes_toList]; by_cases h : s.data.toList = [45] <;> simp [h]
theorem empty_iff (s : ByteArray) : s.toList.isEmpty = decide (s.data.toList.length = 0) := by rw [bytes_toList]; cases h : s.data.toList <;> simp
theorem place_wrap (c : UInt8) : wrap64 (wrap64 (c.toNat : Int) - 48) = place c := by
  have h := c.toNat_lt
  rw [IntWalk.wrap64_in (c.toNat : Int) ⟨by omega, by omega⟩, IntWalk.wrap64_in _ ⟨by omega, by omega⟩]; rfl
theorem place_rng (c : UInt8) : -48 ≤ place c ∧ place c ≤ 207 := by
  have h := c.toNat_lt
  unfold place; omega
theorem place_u8 (c : UInt8) (h : 49 ≤ (c.toNat : Int)) : IntKind.u8.wrap ((c.toNat : Int) - 48) = place c := by
  have h := c.toNat_lt
  rw [IntWalk.u8_in _ ⟨by omega, by omega⟩]; rfl
theorem info_i64 : (Tryz.prog.info? 3).map (fun i => (i.zero, i.size, i.bytes)) = some (some (.int .i64 0), 1, 8) := by kernel_rfl
theorem info_str : (Tryz.prog.info? 9).map (fun i => (i.zero, i.size, i.bytes)) = some (some (.string ⟨#[]⟩), 1, 16) := by kernel_rfl
theorem beq_dec (a b : Int) : (a == b) = decide (a = b) := rfl
set_option maxHeartbeats 1000000 in
theorem l2Change_any (n : Int) (s : ByteArray) (w : World) (hs : s.size ≤ maxLen) : Calls Tryz.prog 129 #[.int .i64 n, .string s] w fun e w' => e = .returned (.bool (changeB n s.data.toList)) ∧ w = w' := by
  unfold maxLen at hs
  have hlen : s.data.toList.length = s.size := by simp
  by_cases h1 : 3 ≤ n ∧ n ≤ 8
  · have e2 : IntKind.i64.wrap (n - 2) = n - 2 := IntWalk.i64_in _ ⟨by omega, by omega⟩
    have e1 : decide (3 ≤ n ∧ n ≤ 8) = true := decide_eq_true h1
    have hz := empty_iff s
    by_cases h0 : s.data.toList.length = 0
    · rw [decide_eq_true h0] at hz
      have H := Lib.hid (changeB_no2 (n := n) (l := s.data.toList) (by omega))
      clear h0
      go_enter Tryz.func129, Tryz.ntmps129
      go_wp2_with (go_at_call 43; refine (l1In_any _ _ _ _).mono ?_; rintro e w' ⟨rfl, rfl⟩; rw [e1])
      go_ret
      exact ⟨ret_bool H.out.symm, rfl⟩
    · rw [decide_eq_false h0] at hz
      by_cases h2 : (s.size : Int) ≤ n - 2
      · have h2' : 1 ≤ s.data.toList.length ∧ (s.data.toList.length : Int) ≤ n - 2 := ⟨by omega, by rw [hlen]; exact h2⟩
        have hd := dash_iff s
        by_cases h3 : s.data.toList = [45]
        · have H := Lib.hid (changeB_dash h1 h3)
          rw [decide_eq_true h3] at hd
          clear h3 h2'
          go_enter Tryz.func129, Tryz.ntmps129
          go_wp2_with (go_at_call 43; refine (l1In_any _ _ _ _).mono ?_; rintro e w' ⟨rfl, rfl⟩; rw [e1])
          go_ret
          exact ⟨ret_bool H.out.symm, rfl⟩
        · have H := Lib.hid (changeB_from h1 h2' h3)
          rw [decide_eq_false h3] at hd
          clear h2' h3
          go_enter Tryz.func129, Tryz.ntmps129
          go_wp2_with (go_at_call 43; refine (l1In_any _ _ _ _).mono ?_; rintro e w' ⟨rfl, rfl⟩; rw [e1])
          go_loop [5, 6] (fun t i => ∃ (last : Int) (k : Nat), k ≤ s.size ∧ i = .int .i64 k ∧ t = .int .i64 last ∧ 0 ≤ last ∧ last ≤ n ∧ fromB n last (s.data.toList.drop k) = fromB n 0 s.data.toList) (fun _ i => s.size - (intOf i).toNat)
          case atStart => exact ⟨0, 0, by omega, rfl, rfl, by omega, by omega, rfl⟩
          case round =>
            obtain ⟨last, k, hk, rfl, rfl, hl0, hl1, hf⟩ := hrel
            have Hf := Lib.hid hf
            clear hf
            by_cases hlt : k < s.size
            · go_wp2_with (go_at_call 43; refine (l1In_any _ _ _ _).mono ?_; rintro e w' ⟨rfl, rfl⟩)
              · rename_i h
                rw [place_wrap] at h
                go_ret
                exact ⟨ret_bool (H.out.trans (fromB_no1 (n := n) (last := last) (k := k) (by omega) Hf.out (by rw [bytes_get _ _ hlt]; omega))).symm, rfl⟩
              · rename_i h h'
                rw [place_wrap] at h h'
                go_ret
                exact ⟨ret_bool (H.out.trans (fromB_no2 (n := n) (last := last) (k := k) (by omega) Hf.out (by rw [bytes_get _ _ hlt]; simpa using h'))).symm, rfl⟩
              · rename_i h h'
                rw [place_wrap] at h h'
                refine ⟨⟨place s[k], k + 1, by omega, by go_num, by rw [place_wrap], by omega, by omega, ?_⟩, by simp [intOf]; omega⟩
                exact fromB_step (by omega) Hf.out (by rw [bytes_get _ _ hlt]; exact h) (by rw [bytes_get _ _ hlt]; simpa using h')
            · go_wp2_with fail
              go_ret
              exact ⟨ret_bool (H.out.trans (fromB_end (by omega) Hf.out)).symm, rfl⟩
      · have H := Lib.hid (changeB_no2 (n := n) (l := s.data.toList) (by omega))
        go_enter Tryz.func129, Tryz.ntmps129
        go_wp2_with (go_at_call 43; refine (l1In_any _ _ _ _).mono ?_; rintro e w' ⟨rfl, rfl⟩; rw [e1])
        go_ret
        exact ⟨ret_bool H.out.symm, rfl⟩
  · have e1 : decide (3 ≤ n ∧ n ≤ 8) = false := decide_eq_false h1
    have H := Lib.hid (changeB_no1 (l := s.data.toList) h1)
    go_enter Tryz.func129, Tryz.ntmps129
    go_wp2_with (go_at_call 43; refine (l1In_any _ _ _ _).mono ?_; rintro e w' ⟨rfl, rfl⟩; rw [e1])
    go_ret
    exact ⟨ret_bool H.out.symm, rfl⟩
def isDig (c : UInt8) : Bool := decide (1 ≤ place c ∧ place c ≤ 8)
def digitsB (l : List UInt8) : Bool := l.all isDig
def chainB : Int → List Int → Bool
  | _, [] => true
  | a, b :: l => decide (a < b) && (!decide ((b - a) % 2 = 0) && chainB b l)
def areB (n : Int) (zs : List Int) : Bool :=
  !decide (zs.length = 0) && (!decide ((zs.length : Int) = n) && (!decide (zs.headD 0 % 2 = 0) && (decide (zs.getLastD 0 % 2 = n % 2) && (decide (zs.getLastD 0 ≤ n) && chainB (zs.headD 0) (zs.drop 1)))))
theorem are_of {n : Int} {zs : List Int} (hp : 0 < zs.length) : areB n zs =
    (!decide ((zs.length : Int) = n) && (!decide (zs[0] % 2 = 0) && (decide (zs[zs.length - 1] % 2 = n % 2) && (decide (zs[zs.length - 1] ≤ n) && chainB zs[0] (zs.drop 1))))) := by
  have hz0 : zs[0] = zs.headD 0 := by cases zs <;> simp at hp ⊢
  have hz1 : zs[zs.length - 1] = zs.getLastD 0 := by rw [List.getLastD_eq_getLast?, List.getLast?_eq_getElem?, List.getElem?_eq_getElem (by omega)]; rfl
  rw [hz0, hz1, areB, decide_eq_false (show ¬ zs.length = 0 by omega)]
  rfl
theorem chain_step {a : Int} {l : List Int} {k : Nat} {b : Bool} (hk : k < l.length) (h0 : chainB a (l.drop k) = b) (h1 : a < l[k]) (h2 : ¬ (l[k] - a) % 2 = 0) : chainB l[k] (l.drop (k + 1)) = b := by
  rw [List.drop_eq_getElem_cons hk, chainB, decide_eq_true h1, decide_eq_false h2] at h0
  simpa using h0
theorem chain_no1 {a : Int} {l : List Int} {k : Nat} {b : Bool} (hk : k < l.length) (h0 : chainB a (l.drop k) = b) (h1 : ¬ a < l[k]) : b = false := by
  rw [List.drop_eq_getElem_cons hk, chainB, decide_eq_false h1] at h0
  simpa using h0.symm
theorem chain_no2 {a : Int} {l : List Int} {k : Nat} {b : Bool} (hk : k < l.length) (h0 : chainB a (l.drop k) = b) (h2 : (l[k] - a) % 2 = 0) : b = false := by
  rw [List.drop_eq_getElem_cons hk, chainB, decide_eq_true h2] at h0
  simpa using h0.symm
theorem chain_end {a : Int} {l : List Int} {k : Nat} {b : Bool} (hk : l.length ≤ k) (h0 : chainB a (l.drop k) = b) : b = true := by
  rw [List.drop_of_length_le hk] at h0
  exact h0.symm

set_option maxHeartbeats 1000000 in
theorem places_any (s : ByteArray) (w : World) (hs : s.size ≤ 1048576) : Calls Tryz.prog 170 #[.string s] w fun e w' =>
    Below w.heap.size w w' ∧ ((digitsB s.data.toList = false ∧ e = .returned (.tuple #[.slice none 0 0, .bool false])) ∨
      (digitsB s.data.toList = true ∧ ∃ r : Value, e = .returned (.tuple #[r, .bool true]) ∧ Ints w' r (s.data.toList.map place))) := by
  have hlen : s.data.toList.length = s.size := by simp
  go_enter Tryz.func170, Tryz.ntmps170
  go_wp2_with fail
  refine box1 (C := fun W => Code.wp _ _ _ _ W) ?_
  intro wb hw k1 hB0
  have hown0 : wb.ownsRow w.heap.size 3 1 (.slice (some ⟨w.heap.size, 0, none⟩) 0 0) 0 [] := own_of_heap (cs := #[]) k1 (by omega) (by unfold maxLen; omega) rfl
  clear k1
  go_loopw [4, 9] (fun v i wr => ∃ k : Nat, k ≤ s.size ∧ i = .int .i64 k ∧ (s.data.toList.take k).all isDig = true ∧ wr.ownsRow w.heap.size 3 1 v k (((s.data.toList.take k).map place).map (Value.int .i64)) ∧ Below w.heap.size w wr) (fun _ i _ => s.size - (intOf i).toNat)
  case atStart => exact ⟨0, by omega, rfl, by simp, hown0, hw⟩
  case round =>
    obtain ⟨k, hk, rfl, hall, hown, hB⟩ := hrel
    by_cases hlt : k < s.size
    · have hlt' : k < s.data.toList.length := by omega
      have hpl := place_u8 s[k]
      by_cases hd : isDig s[k] = true
      · have H := Lib.hid (all_step hlt' hall (p := isDig) hd)
        have hdd : 49 ≤ (s[k].toNat : Int) ∧ (s[k].toNat : Int) ≤ 56 := by have := of_decide_eq_true hd; unfold place at this; omega
        have hpl' := hpl hdd.1
        have hp64 : wrap64 (place s[k]) = place s[k] := IntWalk.wrap64_in _ ⟨by have := place_rng s[k]; omega, by have := place_rng s[k]; omega⟩
        clear hall hd hpl
        go_wp2_with (at_builtin; go_must (refine wpList_app wr rfl _ _ _ rfl w.heap.size 3 _ 1 8 Tryz.underlying57 info_i64 rfl (by omega) hown [.int .i64 (place s[k])] rfl rfl rfl (one_mem rfl) (by omega) (by omega) hB.size ?_); intro v2 w2 hown2 hb2 _ _)
        refine ⟨⟨k + 1, by omega, by go_num, H.out, ?_, ?_⟩, by simp [intOf]; omega⟩
        · rw [map_take_succ (f := place) hlt', List.map_append]
          exact hown2
        · exact hB.trans hb2
      · have H := Lib.hid (all_false (p := isDig) hlt' (by rw [bytes_get _ _ hlt]; simpa using hd))
        have hdd : ¬ (49 ≤ (s[k].toNat : Int) ∧ (s[k].toNat : Int) ≤ 56) := fun h => hd (decide_eq_true (by unfold place; omega))
        clear hd hpl hall
        go_wp2_with fail
        all_goals
          go_ret2
          exact ⟨hB, .inl ⟨H.out, rfl⟩⟩
    · go_wp2_with fail
      go_ret2
      obtain rfl : k = s.size := by omega
      rw [List.take_of_length_le (by omega)] at hall hown
      refine ⟨hB, .inr ⟨hall, _, rfl, ?_⟩⟩
      exact sl_of_own (by simpa [hlen] using hown)
set_option maxRecDepth 100000 in
set_option maxHeartbeats 2000000 in
theorem arePlaces_any (n : Int) (v : Value) (zs : List Int) (w : World) (hv : Ints w v zs) (hz : ∀ z ∈ zs, 1 ≤ z ∧ z ≤ 8) (hn : 3 ≤ n ∧ n ≤ 8) : Calls Tryz.prog 171 #[.int .i64 n, v] w fun e w' => e = .returned (.bool (areB n zs)) ∧ Below w.heap.size w w' := by
  obtain ⟨A, c, rfl, h1, h2, hr⟩ := hv
  unfold maxLen at h2
  by_cases hne : zs.length = 0
  · obtain rfl := List.eq_nil_of_length_eq_zero hne
    go_enter Tryz.func171, Tryz.ntmps171
    go_wp2_with fail
    go_ret
    exact ⟨ret_bool rfl, Below.refl _ _⟩
  · have hp : 0 < zs.length := by omega
    have hp1 : zs.length - 1 < zs.length := by omega
    obtain ⟨ad, rfl, hC0⟩ := ints_el hr hp
    obtain ⟨ad', hA, hC1⟩ := ints_el hr hp1
    cases hA
    rw [add_zero'] at hC0
    have hBr := Below.refl w.heap.size w
    have hi0 : (0 : Int) ≤ (zs.length : Int) - 1 := by omega
    have hi1 : ((zs.length : Int) - 1).toNat = zs.length - 1 := by omega
    have r0 := hz _ (List.getElem_mem hp)
    have r1 := hz _ (List.getElem_mem hp1)
    have HA := Lib.hid (are_of (n := n) hp)
    obtain ⟨z0, e0⟩ : ∃ z, z = zs[0] := ⟨_, rfl⟩
    obtain ⟨z1, e1⟩ : ∃ z, z = zs[zs.length - 1] := ⟨_, rfl⟩
    rw [← e0] at hC0 r0 HA
    rw [← e1] at hC1 r1 HA
    have E0 := Lib.hid e0
    clear e0 e1
    have hw1 : IntKind.i64.wrap ((zs.length : Int) - 1) = (zs.length : Int) - 1 := IntWalk.i64_in _ ⟨by omega, by omega⟩
    go_enter Tryz.func171, Tryz.ntmps171
    go_wp2_with fail
    · rename_i h1 h2
      go_ret
      exact ⟨ret_bool (by rw [HA.out]; simp [h2]), hBr⟩
    · rename_i h1 h2 h3
      go_ret
      exact ⟨ret_bool (by rw [HA.out]; simp [h3]), hBr⟩
    · rename_i h1 h2 h3 h4
      go_ret
      exact ⟨ret_bool (by rw [HA.out]; simp [h4]), hBr⟩
    · rename_i h1 h2 h3 h4 h5
      go_ret
      exact ⟨ret_bool (by rw [HA.out]; simp; omega), hBr⟩
    · rename_i h1 h2 h3 h4 h5
      have HB := Lib.hid (show areB n zs = chainB z0 (zs.drop 1) by rw [HA.out, decide_eq_false (show ¬ (zs.length : Int) = n by assumption), decide_eq_false (show ¬ z0 % 2 = 0 by assumption), decide_eq_true (show z1 % 2 = n % 2 by assumption), decide_eq_true (show z1 ≤ n by assumption)]; rfl)
      clear h1 h2 h3
      clear hC0 hC1 HA
      go_loopw [5] (fun i wr => ∃ k : Nat, ∃ h : k - 1 < zs.length, 1 ≤ k ∧ k ≤ zs.length ∧ i = .int .i64 k ∧ chainB zs[k-1] (zs.drop k) = chainB z0 (zs.drop 1) ∧ Below w.heap.size w wr) (fun i _ => zs.length - (intOf i).toNat)
      case atStart => exact ⟨1, by omega, by omega, by omega, rfl, by rw [E0.out], hBr⟩
      case round =>
        obtain ⟨k, hk1, hk0, hk, rfl, hch, hB⟩ := hrel
        by_cases hlt : k < zs.length
        · obtain ⟨ad', hA, hC0⟩ := ints_el hr hk1
          cases hA
          obtain ⟨ad', hA, hC1⟩ := ints_el hr hlt
          cases hA
          have Hs := Lib.hid hch
          clear hch
          have r0 := hz _ (List.getElem_mem hk1)
          have r1 := hz _ (List.getElem_mem hlt)
          have f1 := Lib.hid (chain_no1 hlt Hs.out)
          have f2 := Lib.hid (chain_no2 hlt Hs.out)
          have f3 := Lib.hid (chain_step hlt Hs.out)
          clear Hs
          obtain ⟨p, e0⟩ : ∃ z, z = zs[k - 1] := ⟨_, rfl⟩
          obtain ⟨q, e1⟩ : ∃ z, z = zs[k] := ⟨_, rfl⟩
          rw [← e0] at hC0 r0 f1 f2 f3
          rw [← e1] at hC1 r1 f1 f2 f3
          have E1 := Lib.hid e1
          clear e0 e1
          have hw1 : IntKind.i64.wrap ((k : Int) - 1) = (k : Int) - 1 := IntWalk.i64_in _ ⟨by omega, by omega⟩
          have hw2 : IntKind.i64.wrap (q - p) = q - p := IntWalk.i64_in _ ⟨by omega, by omega⟩
          have hi0 : (0 : Int) ≤ (k : Int) - 1 := by omega
          have hi1 : ((k : Int) - 1).toNat = k - 1 := by omega
          have hi2 : (k : Int) - 1 < zs.length := by omega
          have hi3 : (1 : Int) ≤ k := by omega
          have hi4 : (k : Int) < zs.length := by omega
          have hi5 : (k : Int) ≤ zs.length := by omega
          by_cases hq : q ≤ p
          · have d1 : decide (q ≤ p) = true := decide_eq_true hq
            go_wp2_with fail
            go_big_quiet (fail)
            go_wp2_with fail
            go_ret
            exact ⟨ret_bool (HB.out.trans (f1.out (by omega))).symm, bw_dr hB _⟩
          · have d1 : decide (q ≤ p) = false := decide_eq_false hq
            have ht : (q - p).tmod 2 = (q - p) % 2 := Int.tmod_eq_emod_of_nonneg (by omega)
            by_cases hm : (q - p) % 2 = 0
            · have d2 : ((q - p) % 2 == 0) = true := by simp [hm]
              have d3 : decide ((q - p) % 2 = 0) = true := by simp [hm]
              go_wp2_with fail
              go_big_quiet (fail)
              go_wp2_with fail
              go_ret
              exact ⟨ret_bool (HB.out.trans (f2.out hm)).symm, bw_dr hB _⟩
            · have d2 : ((q - p) % 2 == 0) = false := by simp [hm]
              have d3 : decide ((q - p) % 2 = 0) = false := by simp [hm]
              go_wp2_with fail
              go_big_quiet (fail)
              go_wp2_with fail
              have f3 := f3.out (by omega) hm
              refine ⟨⟨k + 1, by omega, by omega, by omega, by go_num, ?_, bw_dr hB _⟩, by simp [intOf]; omega⟩
              rw [← f3, E1.out]
              rfl
        · go_wp2_with fail
          go_ret
          exact ⟨ret_bool (HB.out.trans (by rw [← hch, List.drop_of_length_le (by omega)]; rfl)).symm, hB⟩
theorem chain_bd {zs : List Int} : ∀ {a : Int}, chainB a zs = true → a + zs.length ≤ zs.getLastD a ∧ (zs.getLastD a - a - zs.length) % 2 = 0 ∧ ∀ z ∈ zs, a + 1 ≤ z ∧ z ≤ zs.getLastD a := by
  induction zs with
  | nil => intro a _; simp
  | cons b t ih =>
    intro a h
    rw [chainB, Bool.and_eq_true, Bool.and_eq_true] at h
    obtain ⟨h1, h2, h3⟩ := h
    have h1 := of_decide_eq_true h1
    have h2 : ¬ (b - a) % 2 = 0 := by simpa using h2
    obtain ⟨i1, i2, i3⟩ := ih h3
    rw [List.getLastD_cons, List.length_cons]
    refine ⟨by omega, by omega, ?_⟩
    intro z hz
    rcases List.mem_cons.1 hz with rfl | hz
    · omega
    · have := i3 z hz; omega
theorem fromB_chain {n : Int} {l : List UInt8} : ∀ {a : Int}, a ≤ n → fromB n a l = (chainB a (l.map place) && (decide ((l.map place).getLastD a ≤ n) && decide ((n - (l.map place).getLastD a) % 2 = 0))) := by
  induction l with
  | nil => intro a h; simp [fromB, chainB, h]
  | cons c t ih =>
    intro a h
    rw [List.map_cons, List.getLastD_cons, fromB, chainB]
    by_cases h1 : a < place c
    · by_cases h2 : place c ≤ n
      · rw [ih h2, decide_eq_true (show a + 1 ≤ place c ∧ place c ≤ n by omega), decide_eq_true h1]
        simp [Bool.and_assoc]
      · rw [decide_eq_false (show ¬ (a + 1 ≤ place c ∧ place c ≤ n) by omega)]
        symm
        cases hc : chainB (place c) (t.map place)
        · simp
        · have := (chain_bd hc).1
          rw [decide_eq_false (show ¬ (t.map place).getLastD (place c) ≤ n by omega)]
          simp
    · rw [decide_eq_false (show ¬ (a + 1 ≤ place c ∧ place c ≤ n) by omega), decide_eq_false h1]
      rfl
theorem changeB_are {n : Int} {l : List UInt8} (hn : 3 ≤ n ∧ n ≤ 8) (hd : ¬ l = [45]) : changeB n l = (digitsB l && areB n (l.map place)) := by
  unfold changeB
  rw [decide_eq_true hn, if_neg hd, fromB_chain (by omega)]
  cases l with
  | nil => rfl
  | cons c t =>
    unfold digitsB areB
    rw [List.map_cons, List.getLastD_cons, List.length_cons, List.length_cons, List.length_map, List.headD_cons, List.drop_one, List.tail_cons]
    rw [Bool.eq_iff_iff]
    simp only [Bool.and_eq_true, Bool.true_and, decide_eq_true_eq, Bool.not_eq_true', decide_eq_false_iff_not, chainB]
    constructor
    · rintro ⟨⟨h1, h2⟩, ⟨h3, h4, h5⟩, h6, h7⟩
      obtain ⟨i1, i2, i3⟩ := chain_bd h5
      refine ⟨?_, by omega, by omega, by omega, by omega, by omega, h5⟩
      rw [List.all_eq_true]
      intro x hx
      apply decide_eq_true
      rcases List.mem_cons.1 hx with rfl | hx
      · omega
      · have := i3 _ (List.mem_map_of_mem hx); omega
    · rintro ⟨h1, h2, h3, h4, h5, h6, h7⟩
      obtain ⟨i1, i2, i3⟩ := chain_bd h7
      have h8 := of_decide_eq_true (List.all_eq_true.1 h1 c (by simp))
      rw [List.length_map] at i1 i2
      refine ⟨⟨by omega, by omega⟩, ⟨by omega, by omega, h7⟩, by omega, by omega⟩
theorem digits_rng {l : List UInt8} (h : digitsB l = true) : ∀ z ∈ l.map place, 1 ≤ z ∧ z ≤ 8 := by
  intro z hz
  obtain ⟨c, hc, rfl⟩ := List.mem_map.1 hz
  exact of_decide_eq_true (List.all_eq_true.1 h c hc)
set_option maxHeartbeats 1000000 in
theorem GoodChange_any (n : Int) (s : ByteArray) (w : World) (hs : s.size ≤ 1048576) : Calls Tryz.prog 137 #[.int .i64 n, .string s] w fun e w' => e = .returned (.bool (changeB n s.data.toList)) ∧ Below w.heap.size w w' := by
  have hBr := Below.refl w.heap.size w
  by_cases h1 : 3 ≤ n ∧ n ≤ 8
  · have e1 : decide (3 ≤ n ∧ n ≤ 8) = true := decide_eq_true h1
    have hd := dash_iff s
    by_cases h3 : s.data.toList = [45]
    · have H := Lib.hid (changeB_dash h1 h3)
      rw [decide_eq_true h3] at hd
      clear h3
      go_enter Tryz.func137, Tryz.ntmps137
      go_wp2_with (go_at_call 79; refine (isStage_any _ _).mono ?_; rintro e w' ⟨rfl, rfl⟩; rw [e1])
      go_ret
      exact ⟨ret_bool H.out.symm, hBr⟩
    · have H := Lib.hid (changeB_are h1 h3)
      rw [decide_eq_false h3] at hd
      clear h3
      go_enter Tryz.func137, Tryz.ntmps137
      go_wp2_with (go_at_call 79; refine (isStage_any _ _).mono ?_; rintro e w' ⟨rfl, rfl⟩; rw [e1])
      refine (places_any _ _ hs).mono ?_
      rintro e w1 ⟨hb1, (⟨hf, rfl⟩ | ⟨hf, r, rfl, hr⟩)⟩
      · go_wp2_with fail
        go_ret
        exact ⟨ret_bool (by rw [H.out, hf]; rfl), hb1⟩
      · go_wp2_with (go_at_call 171; refine (arePlaces_any _ _ _ _ hr (digits_rng hf) h1).mono ?_; rintro e w2 ⟨rfl, hb2⟩)
        go_ret
        exact ⟨ret_bool (by rw [H.out, hf]; rfl), hb1.trans (hb2.mono hb1.size)⟩
  · have e1 : decide (3 ≤ n ∧ n ≤ 8) = false := decide_eq_false h1
    have H := Lib.hid (changeB_no1 (l := s.data.toList) h1)
    go_enter Tryz.func137, Tryz.ntmps137
    go_wp2_with (go_at_call 79; refine (isStage_any _ _).mono ?_; rintro e w' ⟨rfl, rfl⟩; rw [e1])
    go_ret
    exact ⟨ret_bool H.out.symm, hBr⟩
end Go.Proofs.YtimeecimaokldaaGreatDoor
