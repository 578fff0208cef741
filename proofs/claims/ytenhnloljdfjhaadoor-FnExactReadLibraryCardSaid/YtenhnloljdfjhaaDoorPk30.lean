/- Contracts: an abbreviated change made whole, both sides. -/
import Derived.Test.YtenhnloljdfjhaaDoorPk29
import Derived.Test.YtenhnloljdfjhaaDoorPk13
import Derived.Test.YtenhnloljdfjhaaDoorPk21
namespace Go.Proofs.YtenhnloljdfjhaaDoor
open Go Go.RowKit
set_option linter.unusedVariables false
set_option linter.unusedSimpArgs false

def cands (s d : ByteArray) : List ByteArray := [s, s ++ d, ⟨#[49]⟩ ++ s, ⟨#[49]⟩ ++ s ++ d]
def dgt (n : Int) : ByteArray := ⟨#[UInt8.ofNat (48 + n.toNat)]⟩
def tdS (s : ByteArray) : ByteArray := if s.data.toList = [120] then ⟨#[45]⟩ else s
def tdC (n : Int) (s : ByteArray) : Option ByteArray := (cands (tdS s) (dgt n)).find? (fun c => changeB n c.data.toList)
def tdF (n : Int) (s : ByteArray) : Option ByteArray := if 3 ≤ n ∧ n ≤ 8 then tdC n s else none
def tdV (n : Int) (s : ByteArray) : ByteArray := (tdF n s).getD ⟨#[]⟩
theorem tdF_yes {n : Int} {s : ByteArray} (h : 3 ≤ n ∧ n ≤ 8) : tdF n s = tdC n s := if_pos h
theorem tdF_no {n : Int} {s : ByteArray} (h : ¬ (3 ≤ n ∧ n ≤ 8)) : tdF n s = none := if_neg h
theorem tidy_C (n : Int) (s : ByteArray) : tidyL n s.data.toList = (tdC n s).map (fun c => c.data.toList) := by
  have e : tidyC n (if s.data.toList = [120] then [45] else s.data.toList) = (cands (tdS s) (dgt n)).map (fun c => c.data.toList) := by
    unfold tidyC cands tdS dgt
    split <;> simp
  unfold tidyL tdC
  rw [e, List.find?_map]
  rfl
theorem chg_of {n : Int} {rest : List UInt8} {t : ByteArray} (ht : t.data.toList = (tokL rest).1) : chgO n rest = if (tokL rest).1 = [] then none else (tdC n t).map (fun c => (c, (tokL rest).2)) := by
  unfold chgO
  split
  · rfl
  · rw [← ht, tidy_C]
    cases tdC n t with
    | none => rfl
    | some c => rfl
theorem tdC_ok {n : Int} {s c : ByteArray} (h : tdC n s = some c) : changeB n c.data.toList = true := by
  unfold tdC at h
  simpa using List.find?_some h
theorem change_ne {n : Int} {l : List UInt8} (h : changeB n l = true) : 1 ≤ l.length := by
  unfold changeB at h
  simp only [Bool.and_eq_true, decide_eq_true_eq] at h
  exact h.2.1.1
theorem change_small {n : Int} {l : List UInt8} (h : changeB n l = true) : l.length ≤ 6 := by
  unfold changeB at h
  simp only [Bool.and_eq_true, decide_eq_true_eq] at h
  omega
theorem tdC_size {n : Int} {s c : ByteArray} (h : tdC n s = some c) : 1 ≤ c.size ∧ c.size ≤ 6 := by
  have h1 := change_ne (tdC_ok h)
  have h2 := change_small (tdC_ok h)
  rw [bytes_len] at h1 h2
  exact ⟨h1, h2⟩
theorem cands_size {s d : ByteArray} (hd : d.size ≤ 1) : ∀ c ∈ cands s d, c.size ≤ s.size + 2 := by
  intro c hc
  simp only [cands, List.mem_cons, List.not_mem_nil, or_false] at hc
  have h1 : (⟨#[49]⟩ : ByteArray).size = 1 := rfl
  rcases hc with rfl | rfl | rfl | rfl <;> (try simp only [ByteArray.size_append, h1]) <;> omega
theorem tdS_size (s : ByteArray) : (tdS s).size ≤ s.size + 1 := by
  unfold tdS
  split
  · have h1 : (⟨#[45]⟩ : ByteArray).size = 1 := rfl
    omega
  · omega
/-- The candidates from k on. -/
def tdK (n : Int) (s d : ByteArray) (k : Nat) : Option ByteArray := ((cands s d).drop k).find? (fun c => changeB n c.data.toList)
theorem tdK_zero (n : Int) (s d : ByteArray) : tdK n s d 0 = (cands s d).find? (fun c => changeB n c.data.toList) := rfl
theorem tdK_hit {n : Int} {s d : ByteArray} {k : Nat} (hk : k < (cands s d).length) (h : changeB n ((cands s d)[k]).data.toList = true) : tdK n s d k = some (cands s d)[k] := by
  unfold tdK
  rw [List.drop_eq_getElem_cons hk]
  exact List.find?_cons_of_pos (p := fun c : ByteArray => changeB n c.data.toList) h
theorem tdK_miss {n : Int} {s d : ByteArray} {k : Nat} (hk : k < (cands s d).length) (h : changeB n ((cands s d)[k]).data.toList = false) : tdK n s d k = tdK n s d (k + 1) := by
  unfold tdK
  rw [List.drop_eq_getElem_cons hk]
  exact List.find?_cons_of_neg (p := fun c : ByteArray => changeB n c.data.toList) (by simp [h])
theorem tdK_end {n : Int} {s d : ByteArray} {k : Nat} (hk : 4 ≤ k) : tdK n s d k = none := by
  unfold tdK
  rw [List.drop_eq_nil_of_le (by simp [cands]; omega)]
  rfl
theorem last_of {N : Nat} (h : 3 ≤ N ∧ N ≤ 8) : (roundsB N).extract (N - 1) N = dgt N := by
  obtain ⟨h1, h2⟩ := h
  have : N = 3 ∨ N = 4 ∨ N = 5 ∨ N = 6 ∨ N = 7 ∨ N = 8 := by omega
  rcases this with rfl | rfl | rfl | rfl | rfl | rfl <;> rfl
theorem num_dgt {N : Nat} (h : 3 ≤ N ∧ N ≤ 8) : numT N = dgt N := by
  obtain ⟨h1, h2⟩ := h
  rw [numT_small (n := N) (by omega)]
  have : N = 3 ∨ N = 4 ∨ N = 5 ∨ N = 6 ∨ N = 7 ∨ N = 8 := by omega
  rcases this with rfl | rfl | rfl | rfl | rfl | rfl <;> rfl
theorem x_iff (s : ByteArray) : (s.toList == [120]) = decide (s.data.toList = [120]) := by rw [bytes_toList]; by_cases h : s.data.toList = [120] <;> simp [h]
theorem cands_cell {P : World → Prop} {g : Nat} {s d : ByteArray} (h : ∀ (w' : World) (i : Nat), P w' → w'.cell? ⟨g, i, none⟩ = #[Value.string s, .string (s ++ d), .string ((⟨#[49]⟩ : ByteArray) ++ s), .string ((⟨#[49]⟩ : ByteArray) ++ s ++ d)][i]?) :
    ∀ (k : Nat) (hk : k < (cands s d).length) (w' : World), P w' → w'.cell? ⟨g, k, none⟩ = some (.string (cands s d)[k]) := by
  intro k hk w' hp
  rw [h w' k hp]
  have hk' : k < 4 := hk
  match k, hk' with
  | 0, _ => rfl
  | 1, _ => rfl
  | 2, _ => rfl
  | 3, _ => rfl
set_option maxRecDepth 10000 in
set_option maxHeartbeats 4000000 in
theorem implTidy_any (n : Int) (s : ByteArray) (w : World) (hs : s.size ≤ 1000000) : Calls Tryd.prog 62 #[.int .i64 n, .string s] w fun e w' => e = .returned (.tuple #[.string (tdV n s), .bool (tdF n s).isSome]) ∧ Below w.heap.size w w' := by
  by_cases hn : 3 ≤ n ∧ n ≤ 8
  rotate_left
  · have e1 : decide (3 ≤ n ∧ n ≤ 8) = false := decide_eq_false hn
    have e2 : tdV n s = ⟨#[]⟩ := by unfold tdV; rw [tdF_no hn]; rfl
    rw [e2, tdF_no hn]
    go_enter Tryd.func62, Tryd.ntmps62
    go_wp2_with (go_at_call 31; refine (isStage_any _ _).mono ?_; rintro e w' ⟨rfl, rfl⟩; rw [e1])
    go_ret2
    exact ⟨by rfl, Below.refl _ _⟩
  · unfold tdV
    rw [tdF_yes hn]
    obtain ⟨N, rfl⟩ : ∃ N : Nat, n = N := ⟨n.toNat, by omega⟩
    have hN : 3 ≤ N ∧ N ≤ 8 := by omega
    have e1 : decide (3 ≤ (N : Int) ∧ (N : Int) ≤ 8) = true := decide_eq_true hn
    have hr := rounds_size (n := N) (by omega)
    have hl := last_of hN
    have hx := x_iff s
    have hz := tdS_size s
    have hCz : ∀ c ∈ cands (tdS s) (dgt N), c.size ≤ 1000004 := fun c hc => by have := cands_size (s := tdS s) (d := dgt N) (Nat.le_refl _) c hc; omega
    obtain ⟨d, hd⟩ : ∃ d, d = dgt (N : Int) := ⟨_, rfl⟩
    have hd1 : d.size = 1 := by rw [hd]; rfl
    unfold tdC
    rw [← hd] at hl hCz ⊢
    rw [← tdK_zero]
    obtain ⟨s1, hs1⟩ : ∃ s1, s1 = tdS s := ⟨_, rfl⟩
    rw [← hs1] at hz hCz ⊢
    have HCz := Lib.hid hCz
    obtain ⟨F, hF⟩ : ∃ F, F = tdK N s1 d 0 := ⟨_, rfl⟩
    rw [← hF]
    have HF := Lib.hid hF
    have Hl := Lib.hid hl
    obtain ⟨b, hb⟩ : ∃ b, b = decide (s.data.toList = [120]) := ⟨_, rfl⟩
    have hs1' : s1 = if b then ⟨#[45]⟩ else s := by rw [hs1, hb]; unfold tdS; by_cases h : s.data.toList = [120] <;> simp [h]
    rw [← hb] at hx
    clear hd hCz hF hl hs1 hb
    go_enter Tryd.func62, Tryd.ntmps62
    cases b
    all_goals
      first | rw [if_pos rfl] at hs1' | rw [if_neg Bool.false_ne_true] at hs1'
      go_wp2_with (go_at_call 31; refine (isStage_any _ _).mono ?_; rintro e w' ⟨rfl, rfl⟩; rw [e1])
      refine (rounds_any N _ (by omega)).mono ?_; rintro e w' ⟨rfl, rfl⟩
      go_wp2_with fail
      rw [Hl.out, ← hs1']
      clear hs1'
      refine box1 (C := fun W => Code.wp _ _ _ _ W) ?_
      intro wb hw k1 hB0
      have R1 := cands_cell (boxRule k1)
      clear k1
      go_loopw [31] (fun i wr => ∃ k : Nat, k ≤ 4 ∧ i = .int .i64 k ∧ Below wb.heap.size wb wr ∧ Hid (F = tdK N s1 d k)) (fun i _ => 4 - (intOf i).toNat)
      case atStart => exact ⟨0, by omega, rfl, hB0, HF⟩
      case round =>
        obtain ⟨k, hk, rfl, hB, HFk⟩ := hrel
        by_cases hlt : k < 4
        · have q := R1 k hlt wr hB
          have hm := HCz.out _ (List.getElem_mem hlt)
          have H1 := Lib.hid (fun h => HFk.out.trans (tdK_hit (n := N) (d := d) hlt h))
          have H2 := Lib.hid (fun h => HFk.out.trans (tdK_miss (n := N) (d := d) hlt h))
          obtain ⟨c, hc⟩ : ∃ c, c = (cands s1 d)[k]'hlt := ⟨_, rfl⟩
          rw [← hc] at q hm H1 H2
          obtain ⟨bb, hbb⟩ : ∃ b, b = changeB N c.data.toList := ⟨_, rfl⟩
          have HG := Lib.hid (fun W => GoodChange_any N c W (by omega))
          rw [← hbb] at H1 H2 HG
          clear hc hbb
          go_wp2_with fail
          refine (HG.out _).mono ?_; rintro e w2 ⟨rfl, hb2⟩
          cases bb
          · go_wp2_with fail
            exact ⟨⟨k + 1, by omega, by go_num, bw_to hB hb2, Lib.hid (H2.out (by trivial))⟩, by simp [intOf]; omega⟩
          · have e := H1.out (by trivial)
            subst e
            go_wp2_with fail
            go_ret2
            exact ⟨by rfl, bw_to hw (bw_to hB hb2)⟩
        · have e := HFk.out.trans (tdK_end (by omega))
          subst e
          go_wp2_with fail
          go_ret2
          exact ⟨by rfl, bw_to hw hB⟩
set_option maxRecDepth 10000 in
set_option maxHeartbeats 4000000 in
theorem l3Tidy_any (n : Int) (s : ByteArray) (w : World) (hs : s.size ≤ 1000000) (hn : 3 ≤ n ∧ n ≤ 8) : Calls Tryd.prog 56 #[.int .i64 n, .string s] w fun e w' => e = .returned (.string ((tdC n s).getD ⟨#[]⟩)) ∧ Below w.heap.size w w' := by
    obtain ⟨N, rfl⟩ : ∃ N : Nat, n = N := ⟨n.toNat, by omega⟩
    have hN : 3 ≤ N ∧ N ≤ 8 := by omega
    have hl := num_dgt hN
    have hx := x_iff s
    have hz := tdS_size s
    have hCz : ∀ c ∈ cands (tdS s) (dgt N), c.size ≤ 1000004 := fun c hc => by have := cands_size (s := tdS s) (d := dgt N) (Nat.le_refl _) c hc; omega
    have HN := Lib.hid (fun W => l1Num_int (N : Int) W (by omega) (by omega))
    rw [hl] at HN
    obtain ⟨d, hd⟩ : ∃ d, d = dgt (N : Int) := ⟨_, rfl⟩
    have hd1 : d.size = 1 := by rw [hd]; rfl
    unfold tdC
    rw [← hd] at hCz HN ⊢
    rw [← tdK_zero]
    obtain ⟨s1, hs1⟩ : ∃ s1, s1 = tdS s := ⟨_, rfl⟩
    rw [← hs1] at hz hCz ⊢
    have HCz := Lib.hid hCz
    obtain ⟨F, hF⟩ : ∃ F, F = tdK N s1 d 0 := ⟨_, rfl⟩
    rw [← hF]
    have HF := Lib.hid hF
    obtain ⟨b, hb⟩ : ∃ b, b = decide (s.data.toList = [120]) := ⟨_, rfl⟩
    have hs1' : s1 = if b then ⟨#[45]⟩ else s := by rw [hs1, hb]; unfold tdS; by_cases h : s.data.toList = [120] <;> simp [h]
    rw [← hb] at hx
    clear hd hCz hF hl hs1 hb
    go_enter Tryd.func56, Tryd.ntmps56
    cases b
    all_goals
      first | rw [if_pos rfl] at hs1' | rw [if_neg Bool.false_ne_true] at hs1'
      go_wp2_with fail
      refine (HN.out _).mono ?_; rintro e w2 ⟨rfl, hb2⟩
      go_wp2_with fail
      refine (HN.out _).mono ?_; rintro e w3 ⟨rfl, hb3⟩
      go_wp2_with fail
      rw [← hs1']
      clear hs1'
      have hb4 := bw_to hb2 hb3
      refine box1 (C := fun W => Code.wp _ _ _ _ W) ?_
      intro wb hw k1 hB0
      have R1 := cands_cell (boxRule k1)
      have hw := bw_to hb4 hw
      clear k1
      go_loopw [23] (fun i wr => ∃ k : Nat, k ≤ 4 ∧ i = .int .i64 k ∧ Below wb.heap.size wb wr ∧ Hid (F = tdK N s1 d k)) (fun i _ => 4 - (intOf i).toNat)
      case atStart => exact ⟨0, by omega, rfl, hB0, HF⟩
      case round =>
        obtain ⟨k, hk, rfl, hB, HFk⟩ := hrel
        by_cases hlt : k < 4
        · have q := R1 k hlt wr hB
          have hm := HCz.out _ (List.getElem_mem hlt)
          have H1 := Lib.hid (fun h => HFk.out.trans (tdK_hit (n := N) (d := d) hlt h))
          have H2 := Lib.hid (fun h => HFk.out.trans (tdK_miss (n := N) (d := d) hlt h))
          obtain ⟨c, hc⟩ : ∃ c, c = (cands s1 d)[k]'hlt := ⟨_, rfl⟩
          rw [← hc] at q hm H1 H2
          obtain ⟨bb, hbb⟩ : ∃ b, b = changeB N c.data.toList := ⟨_, rfl⟩
          have HG := Lib.hid (fun W => l2Change_any N c W (by unfold maxLen; omega))
          rw [← hbb] at H1 H2 HG
          clear hc hbb
          go_wp2_with fail
          refine (HG.out _).mono ?_; rintro e w2' ⟨rfl, rfl⟩
          cases bb
          · go_wp2_with fail
            exact ⟨⟨k + 1, by omega, by go_num, hB, Lib.hid (H2.out (by trivial))⟩, by simp [intOf]; omega⟩
          · have e := H1.out (by trivial)
            subst e
            go_wp2_with fail
            go_ret
            exact ⟨by rfl, bw_to hw hB⟩
        · have e := HFk.out.trans (tdK_end (by omega))
          subst e
          go_wp2_with fail
          go_ret
          exact ⟨by rfl, bw_to hw hB⟩
end Go.Proofs.YtenhnloljdfjhaaDoor
