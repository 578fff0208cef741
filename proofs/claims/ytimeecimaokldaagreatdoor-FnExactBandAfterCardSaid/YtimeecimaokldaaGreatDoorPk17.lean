/- Contracts: good beats, the time of a blow; the times of one bell; both sides. -/
import Derived.Test.YtimeecimaokldaaGreatDoorPk16
namespace Go.Proofs.YtimeecimaokldaaGreatDoor
open Go Go.RowKit
set_option linter.unusedVariables false
set_option linter.unusedSimpArgs false

structure Bt where
  st : Int
  gap : Int
  hand : Int
def Bt.v (b : Bt) : Value := .agg #[.int .i64 b.st, .int .i64 b.gap, .int .i64 b.hand]
def GoodB (b : Bt) : Prop := (0 ≤ b.st ∧ b.st ≤ 1000000) ∧ (1 ≤ b.gap ∧ b.gap ≤ 2000) ∧ (0 ≤ b.hand ∧ b.hand ≤ 2000)
set_option maxHeartbeats 1000000 in
theorem implGoodBeat_iff (b : Bt) (w : World) : Calls Tryz.prog 72 #[b.v] w (BIff (GoodB b) w) := by
  obtain ⟨a, g, h⟩ := b
  unfold Bt.v
  by_cases h1 : 0 ≤ a ∧ a ≤ 1000000
  · by_cases h2 : 1 ≤ g ∧ g ≤ 2000
    · by_cases h3 : 0 ≤ h ∧ h ≤ 2000
      · have HY : Hid (GoodB ⟨a, g, h⟩) := Lib.hid ⟨h1, h2, h3⟩
        have d1 := decide_eq_true h1
        have d2 := decide_eq_true h2
        have d3 := decide_eq_true h3
        clear h1 h2 h3
        go_enter Tryz.func72, Tryz.ntmps72
        go_wp2_with (go_at_call 113; refine (within_any _ _ _ _).mono ?_; rintro e w' ⟨rfl, rfl⟩; first | rw [d1] | rw [d2] | rw [d3])
        go_ret
        exact biff_yes HY.out (bw_al (Below.refl _ _) _)
      · have HN : Hid (¬ GoodB ⟨a, g, h⟩) := Lib.hid (fun x => h3 x.2.2)
        have d1 := decide_eq_true h1
        have d2 := decide_eq_true h2
        have d3 := decide_eq_false h3
        clear h1 h2 h3
        go_enter Tryz.func72, Tryz.ntmps72
        go_wp2_with (go_at_call 113; refine (within_any _ _ _ _).mono ?_; rintro e w' ⟨rfl, rfl⟩; first | rw [d1] | rw [d2] | rw [d3])
        go_ret
        exact biff_no HN.out (bw_al (Below.refl _ _) _)
    · have HN : Hid (¬ GoodB ⟨a, g, h⟩) := Lib.hid (fun x => h2 x.2.1)
      have d1 := decide_eq_true h1
      have d2 := decide_eq_false h2
      clear h1 h2
      go_enter Tryz.func72, Tryz.ntmps72
      go_wp2_with (go_at_call 113; refine (within_any _ _ _ _).mono ?_; rintro e w' ⟨rfl, rfl⟩; first | rw [d1] | rw [d2])
      go_ret
      exact biff_no HN.out (bw_al (Below.refl _ _) _)
  · have HN : Hid (¬ GoodB ⟨a, g, h⟩) := Lib.hid (fun x => h1 x.1)
    have d1 := decide_eq_false h1
    clear h1
    go_enter Tryz.func72, Tryz.ntmps72
    go_wp2_with (go_at_call 113; refine (within_any _ _ _ _).mono ?_; rintro e w' ⟨rfl, rfl⟩; rw [d1])
    go_ret
    exact biff_no HN.out (bw_al (Below.refl _ _) _)
def blowV (b : Bt) (n row place : Int) : Int := b.st + b.gap * (n * row + place - 1) + b.hand * (row / 2)
set_option maxHeartbeats 1000000 in
theorem blowAt_any (b : Bt) (n row place : Nat) (w : World) (hb : GoodB b) (hn : n ≤ 8) (hr : row ≤ 800) (hp : 1 ≤ place ∧ place ≤ 8) : Calls Tryz.prog 74 #[b.v, .int .i64 n, .int .i64 row, .int .i64 place] w fun e w' =>
    e = .returned (.int .i64 (blowV b n row place)) ∧ Below w.heap.size w w' := by
  obtain ⟨a, g, h⟩ := b
  unfold GoodB at hb
  simp only at hb
  have hm0 : n * row ≤ 8 * 800 := Nat.mul_le_mul hn hr
  have hv : blowV ⟨a, g, h⟩ n row place = a + g * ((n * row : Nat) + (place : Int) - 1) + h * ((row / 2 : Nat) : Int) := by
    unfold blowV; simp
  rw [hv]
  have e0 : (n : Int) * (row : Int) = ((n * row : Nat) : Int) := by simp
  have e5 : ((row : Int) / 2) = ((row / 2 : Nat) : Int) := by simp
  have e6 : (row : Int).tdiv 2 = ((row / 2 : Nat) : Int) := by rw [Int.tdiv_eq_ediv_of_nonneg (by omega)]; simp
  obtain ⟨m, hm⟩ : ∃ m, m = n * row := ⟨_, rfl⟩
  obtain ⟨d, hd⟩ : ∃ d, d = row / 2 := ⟨_, rfl⟩
  have hdd : d ≤ 400 := by omega
  rw [← hm] at hm0 e0 ⊢
  rw [← hd] at e5 e6 ⊢
  have g1 : 0 ≤ g * ((m : Int) + place - 1) ∧ g * ((m : Int) + place - 1) ≤ 2000 * 6408 := by
    refine ⟨Int.mul_nonneg (by omega) (by omega), Int.le_trans (Int.mul_le_mul_of_nonneg_right (show g ≤ 2000 by omega) (by omega)) (Int.mul_le_mul_of_nonneg_left (by omega) (by omega))⟩
  have g2 : 0 ≤ h * (d : Int) ∧ h * (d : Int) ≤ 2000 * 400 := by
    refine ⟨Int.mul_nonneg (by omega) (by omega), Int.le_trans (Int.mul_le_mul_of_nonneg_right (show h ≤ 2000 by omega) (by omega)) (Int.mul_le_mul_of_nonneg_left (by omega) (by omega))⟩
  have w0 : IntKind.i64.wrap ((n : Int) * (row : Int)) = (m : Int) := by rw [e0]; exact IntWalk.i64_in _ ⟨by omega, by omega⟩
  have w1 : IntKind.i64.wrap ((m : Int) + (place : Int)) = m + place := IntWalk.i64_in _ ⟨by omega, by omega⟩
  have w2 : IntKind.i64.wrap ((m : Int) + (place : Int) - 1) = m + place - 1 := IntWalk.i64_in _ ⟨by omega, by omega⟩
  have w3 : IntKind.i64.wrap (g * ((m : Int) + place - 1)) = g * ((m : Int) + place - 1) := IntWalk.i64_in _ ⟨by omega, by omega⟩
  have w4 : IntKind.i64.wrap (h * (d : Int)) = h * (d : Int) := IntWalk.i64_in _ ⟨by omega, by omega⟩
  have w5 : IntKind.i64.wrap (d : Int) = (d : Int) := IntWalk.i64_in _ ⟨by omega, by omega⟩
  have w6 : IntKind.i64.wrap (a + g * ((m : Int) + place - 1)) = a + g * ((m : Int) + place - 1) := IntWalk.i64_in _ ⟨by omega, by omega⟩
  have w7 : IntKind.i64.wrap (a + g * ((m : Int) + place - 1) + h * (d : Int)) = a + g * ((m : Int) + place - 1) + h * (d : Int) := IntWalk.i64_in _ ⟨by omega, by omega⟩
  have z1 : wrap64 (g * ((m : Int) + place - 1)) = g * ((m : Int) + place - 1) := IntWalk.wrap64_in _ ⟨by omega, by omega⟩
  have z2 : wrap64 (a + g * ((m : Int) + place - 1)) = a + g * ((m : Int) + place - 1) := IntWalk.wrap64_in _ ⟨by omega, by omega⟩
  have z3 : wrap64 (h * (d : Int)) = h * (d : Int) := IntWalk.wrap64_in _ ⟨by omega, by omega⟩
  have z4 : wrap64 (a + g * ((m : Int) + place - 1) + h * (d : Int)) = a + g * ((m : Int) + place - 1) + h * (d : Int) := IntWalk.wrap64_in _ ⟨by omega, by omega⟩
  have HZ := Lib.hid (And.intro z1 (And.intro z2 (And.intro z3 z4)))
  clear hm hd hv hb e0 hm0 g1 g2 w3 w4 w6 w7 z1 z2 z3 z4
  unfold Bt.v
  go_enter Tryz.func74, Tryz.ntmps74
  go_wp2_with fail
  go_ret
  obtain ⟨z1, z2, z3, z4⟩ := HZ.out
  exact ⟨ret_int (by rw [z1, z2, z3, z4]), bw_al (Below.refl _ _) _⟩
set_option maxHeartbeats 1000000 in
theorem l21Beat_iff (b : Bt) (w : World) : Calls Tryz.prog 83 #[b.v] w (BIff (GoodB b) w) := by
  obtain ⟨a, g, h⟩ := b
  unfold Bt.v
  by_cases h1 : 0 ≤ a ∧ a ≤ 1000000
  · by_cases h2 : 1 ≤ g ∧ g ≤ 2000
    · by_cases h3 : 0 ≤ h ∧ h ≤ 2000
      · have HY : Hid (GoodB ⟨a, g, h⟩) := Lib.hid ⟨h1, h2, h3⟩
        have d1 := decide_eq_true h1
        have d2 := decide_eq_true h2
        have d3 := decide_eq_true h3
        clear h1 h2 h3
        go_enter Tryz.func83, Tryz.ntmps83
        go_wp2_with (go_at_call 43; refine (l1In_any _ _ _ _).mono ?_; rintro e w' ⟨rfl, rfl⟩; first | rw [d1] | rw [d2] | rw [d3])
        go_ret
        exact biff_yes HY.out (bw_al (Below.refl _ _) _)
      · have HN : Hid (¬ GoodB ⟨a, g, h⟩) := Lib.hid (fun x => h3 x.2.2)
        have d1 := decide_eq_true h1
        have d2 := decide_eq_true h2
        have d3 := decide_eq_false h3
        clear h1 h2 h3
        go_enter Tryz.func83, Tryz.ntmps83
        go_wp2_with (go_at_call 43; refine (l1In_any _ _ _ _).mono ?_; rintro e w' ⟨rfl, rfl⟩; first | rw [d1] | rw [d2] | rw [d3])
        go_ret
        exact biff_no HN.out (bw_al (Below.refl _ _) _)
    · have HN : Hid (¬ GoodB ⟨a, g, h⟩) := Lib.hid (fun x => h2 x.2.1)
      have d1 := decide_eq_true h1
      have d2 := decide_eq_false h2
      clear h1 h2
      go_enter Tryz.func83, Tryz.ntmps83
      go_wp2_with (go_at_call 43; refine (l1In_any _ _ _ _).mono ?_; rintro e w' ⟨rfl, rfl⟩; first | rw [d1] | rw [d2])
      go_ret
      exact biff_no HN.out (bw_al (Below.refl _ _) _)
  · have HN : Hid (¬ GoodB ⟨a, g, h⟩) := Lib.hid (fun x => h1 x.1)
    have d1 := decide_eq_false h1
    clear h1
    go_enter Tryz.func83, Tryz.ntmps83
    go_wp2_with (go_at_call 43; refine (l1In_any _ _ _ _).mono ?_; rintro e w' ⟨rfl, rfl⟩; rw [d1])
    go_ret
    exact biff_no HN.out (bw_al (Below.refl _ _) _)
set_option maxHeartbeats 1000000 in
theorem l21Blow_any (b : Bt) (n row place : Nat) (w : World) (hb : GoodB b) (hn : n ≤ 8) (hr : row ≤ 800) (hp : 1 ≤ place ∧ place ≤ 8) : Calls Tryz.prog 142 #[b.v, .int .i64 n, .int .i64 row, .int .i64 place] w fun e w' =>
    e = .returned (.int .i64 (blowV b n row place)) ∧ Below w.heap.size w w' := by
  obtain ⟨a, g, h⟩ := b
  unfold GoodB at hb
  simp only at hb
  have hm0 : n * row ≤ 8 * 800 := Nat.mul_le_mul hn hr
  have hv : blowV ⟨a, g, h⟩ n row place = a + g * ((n * row : Nat) + (place : Int) - 1) + h * ((row / 2 : Nat) : Int) := by
    unfold blowV; simp
  rw [hv]
  have e0 : (n : Int) * (row : Int) = ((n * row : Nat) : Int) := by simp
  have e5 : ((row : Int) / 2) = ((row / 2 : Nat) : Int) := by simp
  have e6 : (row : Int).tdiv 2 = ((row / 2 : Nat) : Int) := by rw [Int.tdiv_eq_ediv_of_nonneg (by omega)]; simp
  obtain ⟨m, hm⟩ : ∃ m, m = n * row := ⟨_, rfl⟩
  obtain ⟨d, hd⟩ : ∃ d, d = row / 2 := ⟨_, rfl⟩
  have hdd : d ≤ 400 := by omega
  rw [← hm] at hm0 e0 ⊢
  rw [← hd] at e5 e6 ⊢
  have g1 : 0 ≤ g * ((m : Int) + place - 1) ∧ g * ((m : Int) + place - 1) ≤ 2000 * 6408 := by
    refine ⟨Int.mul_nonneg (by omega) (by omega), Int.le_trans (Int.mul_le_mul_of_nonneg_right (show g ≤ 2000 by omega) (by omega)) (Int.mul_le_mul_of_nonneg_left (by omega) (by omega))⟩
  have g2 : 0 ≤ h * (d : Int) ∧ h * (d : Int) ≤ 2000 * 400 := by
    refine ⟨Int.mul_nonneg (by omega) (by omega), Int.le_trans (Int.mul_le_mul_of_nonneg_right (show h ≤ 2000 by omega) (by omega)) (Int.mul_le_mul_of_nonneg_left (by omega) (by omega))⟩
  have w0 : IntKind.i64.wrap ((n : Int) * (row : Int)) = (m : Int) := by rw [e0]; exact IntWalk.i64_in _ ⟨by omega, by omega⟩
  have w1 : IntKind.i64.wrap ((m : Int) + (place : Int)) = m + place := IntWalk.i64_in _ ⟨by omega, by omega⟩
  have w2 : IntKind.i64.wrap ((m : Int) + (place : Int) - 1) = m + place - 1 := IntWalk.i64_in _ ⟨by omega, by omega⟩
  have w3 : IntKind.i64.wrap (g * ((m : Int) + place - 1)) = g * ((m : Int) + place - 1) := IntWalk.i64_in _ ⟨by omega, by omega⟩
  have w4 : IntKind.i64.wrap (h * (d : Int)) = h * (d : Int) := IntWalk.i64_in _ ⟨by omega, by omega⟩
  have w5 : IntKind.i64.wrap (d : Int) = (d : Int) := IntWalk.i64_in _ ⟨by omega, by omega⟩
  have w6 : IntKind.i64.wrap (a + g * ((m : Int) + place - 1)) = a + g * ((m : Int) + place - 1) := IntWalk.i64_in _ ⟨by omega, by omega⟩
  have w7 : IntKind.i64.wrap (a + g * ((m : Int) + place - 1) + h * (d : Int)) = a + g * ((m : Int) + place - 1) + h * (d : Int) := IntWalk.i64_in _ ⟨by omega, by omega⟩
  have z1 : wrap64 (g * ((m : Int) + place - 1)) = g * ((m : Int) + place - 1) := IntWalk.wrap64_in _ ⟨by omega, by omega⟩
  have z2 : wrap64 (a + g * ((m : Int) + place - 1)) = a + g * ((m : Int) + place - 1) := IntWalk.wrap64_in _ ⟨by omega, by omega⟩
  have z3 : wrap64 (h * (d : Int)) = h * (d : Int) := IntWalk.wrap64_in _ ⟨by omega, by omega⟩
  have z4 : wrap64 (a + g * ((m : Int) + place - 1) + h * (d : Int)) = a + g * ((m : Int) + place - 1) + h * (d : Int) := IntWalk.wrap64_in _ ⟨by omega, by omega⟩
  have HZ := Lib.hid (And.intro z1 (And.intro z2 (And.intro z3 z4)))
  clear hm hd hv hb e0 hm0 g1 g2 w3 w4 w6 w7 z1 z2 z3 z4
  unfold Bt.v
  go_enter Tryz.func142, Tryz.ntmps142
  go_wp2_with fail
  go_ret
  obtain ⟨z1, z2, z3, z4⟩ := HZ.out
  exact ⟨ret_int (by rw [z1, z2, z3, z4]), bw_al (Below.refl _ _) _⟩
def ofBw (l : List (Int × Int)) (b : Int) : List Int := (l.filter (fun p => decide (p.1 = b))).map Prod.snd
theorem ofBw_take {l : List (Int × Int)} {b : Int} {k : Nat} (h : k < l.length) : ofBw (l.take (k + 1)) b = ofBw (l.take k) b ++ (if l[k].1 = b then [l[k].2] else []) := by
  unfold ofBw
  rw [List.take_succ_eq_append_getElem h, List.filter_append, List.map_append]
  by_cases e : l[k].1 = b <;> simp [e]
theorem ofBw_len (l : List (Int × Int)) (b : Int) : (ofBw l b).length ≤ l.length := by
  unfold ofBw
  rw [List.length_map]
  exact List.length_filter_le _ _
theorem nb_sliceE {w : World} {base : Nat} {e : TypeId} {size n : Nat} {v : Value} {cs : List Value} (h : w.ownsRow base e size v n cs) : ∃ A c, v = .slice A n c := by
  rcases h.2 with ⟨rfl, rfl⟩ | ⟨g, cap, cur, rfl, _⟩
  · exact ⟨_, _, rfl⟩
  · exact ⟨_, _, rfl⟩
theorem info_intE : (Tryz.prog.info? 3).map (fun i => (i.zero, i.size, i.bytes)) = some (some (.int .i64 0), 1, 8) := by kernel_rfl
set_option maxRecDepth 10000 in
set_option maxHeartbeats 2000000 in
theorem ofBell_any (v : Value) (l : List (Int × Int)) (b : Int) (w : World) (hv : Sks w v l) (hl : l.length ≤ 10000000) : Calls Tryz.prog 77 #[v, .int .i64 b] w fun e w' =>
    ∃ A c, e = .returned (.slice A (ofBw l b).length c) ∧ w'.ownsRow w.heap.size 3 1 (.slice A (ofBw l b).length c) (ofBw l b).length ((ofBw l b).map (Value.int .i64)) ∧ Below w.heap.size w w' := by
  obtain ⟨A, c, rfl, h1, h2, hr⟩ := hv
  unfold maxLen at h2
  have HR := Lib.hid hr
  clear hr
  go_enter Tryz.func77, Tryz.ntmps77
  go_wp2_with fail
  refine box1 (C := fun W => Code.wp _ _ _ _ W) ?_
  intro wq hwq k1 hBq
  have hown := own_of_heap (base := w.heap.size) (n := 0) (size := 1) k1 (Nat.le_refl _) (by unfold maxLen; omega) rfl
  clear k1 hBq
  go_loopw [5, 11] (fun v i wr => ∃ (k : Nat) (A : Option Addr) (c : Nat), k ≤ l.length ∧ i = .int .i64 k ∧ v = .slice A (ofBw (l.take k) b).length c ∧ wr.ownsRow w.heap.size 3 1 (.slice A (ofBw (l.take k) b).length c) (ofBw (l.take k) b).length ((ofBw (l.take k) b).map (Value.int .i64)) ∧ Below w.heap.size w wr) (fun _ i _ => l.length - (intOf i).toNat)
  case atStart => exact ⟨0, _, _, by omega, rfl, rfl, hown, hwq⟩
  case round =>
    obtain ⟨k, A1, c1, hk, rfl, rfl, ho, hB⟩ := hrel
    have Ho := Lib.hid ho
    clear ho
    by_cases hlt : k < l.length
    · obtain ⟨ad, rfl, hC⟩ := sks_el HR.out hlt
      obtain ⟨q0, q1⟩ := hC wr hB
      have Ht := Lib.hid (ofBw_take (b := b) hlt)
      have hz := ofBw_len (l.take k) b
      rw [List.length_take] at hz
      obtain ⟨S, hS⟩ : ∃ S, S = ofBw (l.take k) b := ⟨_, rfl⟩
      obtain ⟨p, hp⟩ : ∃ p, p = l[k] := ⟨_, rfl⟩
      rw [← hp] at q0 q1 Ht
      rw [← hS] at Ho Ht hz ⊢
      have hz2 : S.length ≤ 10000000 := by omega
      have hwz := hB.size
      clear hC hS hp hz
      obtain ⟨x, y⟩ := p
      simp only at q0 q1 Ht
      by_cases he : x = b
      · have hbq : ((x : Int) == b) = true := by simp [he]
        rw [if_pos he] at Ht
        clear he
        go_upto_region 5 with fail
        refine box1 (C := fun W => Code.wp _ _ _ _ W) ?_
        intro ws hws k2 hBs
        have c0 := (boxRule k2) ws 0 hBs
        have c1 := (boxRule k2) ws 1 hBs
        have Hox := Lib.hid (own_to Ho.out hws)
        have Hza := Lib.hid (Nat.le_trans hwz hws.size)
        have HBs := Lib.hid (hB.trans (hws.mono hwz))
        clear k2 hBs hws
        go_wp2_with (at_builtin; go_must (refine wpList_app _ rfl _ _ _ rfl w.heap.size 3 _ 1 8 Tryz.underlying57 info_intE rfl (by omega) Hox.out [.int .i64 y] rfl rfl rfl (one_mem rfl) (by omega) (by omega) Hza.out ?_); intro v3 w3 hown3 hb3 hg3 _; (obtain ⟨A3, q3, rfl⟩ := nb_sliceE hown3); (have Hown3 := Lib.hid hown3); (have Hb3 := Lib.hid hb3); clear hown3 hb3 hg3)
        refine ⟨⟨k + 1, A3, q3, by omega, by go_num, by rw [Ht.out, List.length_append]; rfl, ?_, HBs.out.trans Hb3.out⟩, by simp [intOf]; omega⟩
        rw [Ht.out, List.length_append, List.map_append]
        exact Hown3.out
      · have hbq : ((x : Int) == b) = false := by simp [he]
        rw [if_neg he, List.append_nil] at Ht
        clear he
        go_wp2_with fail
        refine ⟨⟨k + 1, A1, c1, by omega, by go_num, by rw [Ht.out], ?_, bw_al hB _⟩, by simp [intOf]; omega⟩
        rw [Ht.out]
        exact own_to Ho.out (bw_al (Below.refl _ _) _)
    · obtain rfl : k = l.length := by omega
      rw [List.take_length] at Ho ⊢
      go_wp2_with fail
      go_ret
      exact ⟨A1, c1, rfl, Ho.out, hB⟩
set_option maxRecDepth 10000 in
set_option maxHeartbeats 2000000 in
theorem l21Of_any (v : Value) (l : List (Int × Int)) (b : Int) (w : World) (hv : Sks w v l) (hl : l.length ≤ 10000000) : Calls Tryz.prog 88 #[v, .int .i64 b] w fun e w' =>
    ∃ A c, e = .returned (.slice A (ofBw l b).length c) ∧ w'.ownsRow w.heap.size 3 1 (.slice A (ofBw l b).length c) (ofBw l b).length ((ofBw l b).map (Value.int .i64)) ∧ Below w.heap.size w w' := by
  obtain ⟨A, c, rfl, h1, h2, hr⟩ := hv
  unfold maxLen at h2
  have HR := Lib.hid hr
  clear hr
  go_enter Tryz.func88, Tryz.ntmps88
  go_wp2_with fail
  go_loopw [5, 10] (fun v i wr => ∃ (k : Nat) (A : Option Addr) (c : Nat), k ≤ l.length ∧ i = .int .i64 k ∧ v = .slice A (ofBw (l.take k) b).length c ∧ wr.ownsRow w.heap.size 3 1 (.slice A (ofBw (l.take k) b).length c) (ofBw (l.take k) b).length ((ofBw (l.take k) b).map (Value.int .i64)) ∧ Below w.heap.size w wr) (fun _ i _ => l.length - (intOf i).toNat)
  case atStart => exact ⟨0, none, 0, by omega, rfl, rfl, World.ownsRow_nil _ _ _ _, Below.refl _ _⟩
  case round =>
    obtain ⟨k, A1, c1, hk, rfl, rfl, ho, hB⟩ := hrel
    have Ho := Lib.hid ho
    clear ho
    by_cases hlt : k < l.length
    · obtain ⟨ad, rfl, hC⟩ := sks_el HR.out hlt
      obtain ⟨q0, q1⟩ := hC wr hB
      have Ht := Lib.hid (ofBw_take (b := b) hlt)
      have hz := ofBw_len (l.take k) b
      rw [List.length_take] at hz
      obtain ⟨S, hS⟩ : ∃ S, S = ofBw (l.take k) b := ⟨_, rfl⟩
      obtain ⟨p, hp⟩ : ∃ p, p = l[k] := ⟨_, rfl⟩
      rw [← hp] at q0 q1 Ht
      rw [← hS] at Ho Ht hz ⊢
      have hz2 : S.length ≤ 10000000 := by omega
      have hwz := hB.size
      clear hC hS hp hz
      obtain ⟨x, y⟩ := p
      simp only at q0 q1 Ht
      by_cases he : x = b
      · have hbq : ((x : Int) == b) = true := by simp [he]
        rw [if_pos he] at Ht
        clear he
        go_upto_region 5 with fail
        refine box1 (C := fun W => Code.wp _ _ _ _ W) ?_
        intro ws hws k2 hBs
        have c0 := (boxRule k2) ws 0 hBs
        have c1 := (boxRule k2) ws 1 hBs
        have Hox := Lib.hid (own_to Ho.out hws)
        have Hza := Lib.hid (Nat.le_trans hwz hws.size)
        have HBs := Lib.hid (hB.trans (hws.mono hwz))
        clear k2 hBs hws
        go_wp2_with (at_builtin; go_must (refine wpList_app _ rfl _ _ _ rfl w.heap.size 3 _ 1 8 Tryz.underlying57 info_intE rfl (by omega) Hox.out [.int .i64 y] rfl rfl rfl (one_mem rfl) (by omega) (by omega) Hza.out ?_); intro v3 w3 hown3 hb3 hg3 _; (obtain ⟨A3, q3, rfl⟩ := nb_sliceE hown3); (have Hown3 := Lib.hid hown3); (have Hb3 := Lib.hid hb3); clear hown3 hb3 hg3)
        refine ⟨⟨k + 1, A3, q3, by omega, by go_num, by rw [Ht.out, List.length_append]; rfl, ?_, HBs.out.trans Hb3.out⟩, by simp [intOf]; omega⟩
        rw [Ht.out, List.length_append, List.map_append]
        exact Hown3.out
      · have hbq : ((x : Int) == b) = false := by simp [he]
        rw [if_neg he, List.append_nil] at Ht
        clear he
        go_wp2_with fail
        refine ⟨⟨k + 1, A1, c1, by omega, by go_num, by rw [Ht.out], ?_, bw_al hB _⟩, by simp [intOf]; omega⟩
        rw [Ht.out]
        exact own_to Ho.out (bw_al (Below.refl _ _) _)
    · obtain rfl : k = l.length := by omega
      rw [List.take_length] at Ho ⊢
      go_wp2_with fail
      go_ret
      exact ⟨A1, c1, rfl, Ho.out, hB⟩
end Go.Proofs.YtimeecimaokldaaGreatDoor
