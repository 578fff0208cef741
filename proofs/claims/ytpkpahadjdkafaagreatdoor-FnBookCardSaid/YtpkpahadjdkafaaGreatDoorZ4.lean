/- Records, a plain account: a line is read back; one changed byte is found. -/
import Derived.Test.YtpkpahadjdkafaaGreatDoorZ1
namespace Go.Proofs.YtpkpahadjdkafaaGreatDoor
open Go Go.RowKit
set_option linter.unusedVariables false
set_option linter.unusedSimpArgs false

theorem u8_dig {u : Nat} (h : u < 10) : (UInt8.ofNat (48 + u)).toNat = 48 + u := by
  rw [UInt8.toNat_ofNat']; omega
theorem dec_all : ∀ u : Nat, (Lib.decDigits u).all digC = true := by
  intro u
  induction u using Nat.strongRecOn with
  | _ u ih =>
    rw [Lib.decDigits]
    have one : ∀ v, v < 10 → digC (UInt8.ofNat (48 + v)) = true := by
      intro v hv
      unfold digC
      rw [u8_dig hv]
      exact decide_eq_true (by omega)
    split
    · rename_i h
      rw [List.all_cons, one u h]; rfl
    · rename_i h
      rw [List.all_append, ih (u / 10) (by omega)]
      rw [List.all_cons, one (u % 10) (by omega)]; rfl
theorem dec_val : ∀ u : Nat, dval (Lib.decDigits u) = u := by
  intro u
  induction u using Nat.strongRecOn with
  | _ u ih =>
    rw [Lib.decDigits]
    split
    · rename_i h
      have := dval_snoc [] (UInt8.ofNat (48 + u))
      rw [List.nil_append] at this
      rw [this, u8_dig h]
      show 10 * 0 + _ = _
      omega
    · rename_i h
      rw [dval_snoc, ih (u / 10) (by omega), u8_dig (by omega)]
      omega
theorem dec_ne : ∀ u : Nat, Lib.decDigits u ≠ [] := by
  intro u
  rw [Lib.decDigits]
  split <;> simp
theorem dec_head : ∀ u : Nat, 1 ≤ u → (Lib.decDigits u)[0]?.getD 0 ≠ 48 := by
  intro u
  induction u using Nat.strongRecOn with
  | _ u ih =>
    intro h1
    rw [Lib.decDigits]
    split
    · rename_i h
      intro e
      have e' : UInt8.ofNat (48 + u) = 48 := e
      have := congrArg UInt8.toNat e'
      rw [u8_dig h] at this
      have h48 : (48 : UInt8).toNat = 48 := rfl
      omega
    · rename_i h
      rw [List.getElem?_append_left (List.length_pos_iff.2 (dec_ne _))]
      exact ih (u / 10) (by omega) (by omega)
theorem dec_can {u m : Nat} (h : (Lib.decDigits u).length ≤ m) : canB (Lib.decDigits u) m = true := by
  refine can_yes ⟨List.length_pos_iff.2 (dec_ne u), h⟩ ?_ (dec_all u)
  rintro ⟨h1, h2⟩
  refine dec_head u ?_ h2
  rcases Nat.eq_zero_or_pos u with rfl | h0
  · rw [Lib.decDigits, dif_pos (by omega)] at h1
    simp at h1
  · exact h0
theorem numT_list (u : Nat) : (numT u).data.toList = Lib.decDigits u := by rw [numT_nat]
theorem read_num {n : Int} (h0 : 0 ≤ n) (h1 : n ≤ 999999) : readV (numT n).data.toList = n := by
  obtain ⟨u, rfl⟩ : ∃ u : Nat, n = u := ⟨n.toNat, by omega⟩
  rw [numT_list, readV_yes (dec_can (dec_len 5 u (by omega))), dec_val]
theorem numT_inj {a b : Nat} (h : numT a = numT b) : a = b := by
  have e := congrArg (fun s : ByteArray => dval s.data.toList) h
  simp only [numT_list, dec_val] at e
  exact e
theorem dig_ne {l : List UInt8} (h : l.all digC = true) : ∀ b ∈ l, b ≠ 32 := by
  intro b hb e
  subst e
  have := List.all_eq_true.1 h _ hb
  revert this; decide
theorem split_app (c : UInt8) : ∀ (x y : List UInt8), (∀ b ∈ x, b ≠ c) → splitL c (x ++ c :: y) = x :: splitL c y
  | [], y, _ => by rw [List.nil_append, splitL, if_pos rfl]
  | b :: x, y, h => by
    rw [List.cons_append, splitL, if_neg (h b (by simp)), split_app c x y (fun b hb => h b (by simp [hb]))]
    rfl
theorem split_one (c : UInt8) : ∀ (x : List UInt8), (∀ b ∈ x, b ≠ c) → splitL c x = [x]
  | [], _ => rfl
  | b :: x, h => by
    rw [splitL, if_neg (h b (by simp)), split_one c x (fun b hb => h b (by simp [hb]))]
    rfl
def sumT (r : Rc) : ByteArray := numT (sumL (recT r).data.toList)
theorem line_list (r : Rc) : (lineT r).data.toList = (recT r).data.toList ++ 32 :: ((sumT r).data.toList ++ [10]) := by
  unfold lineT sumT
  simp [ByteArray.data_append]
theorem rec_list (r : Rc) (t : List UInt8) : (recT r).data.toList ++ 32 :: t = (numT r.day).data.toList ++ 32 :: (r.meth.data.toList ++ 32 :: (r.touch.data.toList ++ 32 :: ((numT r.rows).data.toList ++ 32 :: (r.note.data.toList ++ 32 :: t)))) := by
  unfold recT
  simp [ByteArray.data_append]
theorem num_ne {n : Int} (h0 : 0 ≤ n) : ∀ b ∈ (numT n).data.toList, b ≠ 32 := by
  obtain ⟨u, rfl⟩ : ∃ u : Nat, n = u := ⟨n.toNat, by omega⟩
  rw [numT_list]
  exact dig_ne (dec_all u)
theorem tail_ne (r : Rc) : ∀ b ∈ (sumT r).data.toList ++ [10], b ≠ 32 := by
  intro b hb
  rcases List.mem_append.1 hb with hb | hb
  · exact num_ne (n := (sumL (recT r).data.toList : Nat)) (by omega) b hb
  · rw [List.mem_singleton.1 hb]; decide
theorem rec_words {r : Rc} (h : recB r = true) : (∀ b ∈ r.meth.data.toList, b ≠ 32) ∧ (∀ b ∈ r.touch.data.toList, b ≠ 32) ∧ ∀ b ∈ r.note.data.toList, b ≠ 32 := by
  unfold recB wordB touchB noteB at h
  simp only [Bool.and_eq_true] at h
  refine ⟨fun b hb e => ?_, fun b hb e => ?_, fun b hb e => ?_⟩
  · subst e; have := List.all_eq_true.1 h.2.1.1 _ hb; revert this; decide
  · subst e; have := List.all_eq_true.1 h.2.2.1.1 _ hb; revert this; decide
  · subst e; have := List.all_eq_true.1 h.2.2.2.2.1 _ hb; revert this; decide
theorem line_split {r : Rc} (h : recB r = true) : splitW 32 (lineT r) = [numT r.day, r.meth, r.touch, numT r.rows, r.note, sumT r ++ nl] := by
  obtain ⟨h1, h2, h3, h4, _⟩ := rec_bd h
  obtain ⟨w1, w2, w3⟩ := rec_words h
  apply splitW_of
  rw [line_list, rec_list, split_app 32 _ _ (num_ne h1), split_app 32 _ _ w1, split_app 32 _ _ w2, split_app 32 _ _ (num_ne (by omega)), split_app 32 _ _ w3, split_one 32 _ (tail_ne r)]
  simp [nl, ByteArray.data_append]
/-- A good record's line is read back. -/
theorem read_line {r : Rc} (h : recB r = true) : readO (lineT r) = some r := by
  obtain ⟨h1, h2, h3, h4, _⟩ := rec_bd h
  unfold readO
  rw [line_split h, readW, read_num h1 (by omega), read_num (by omega) (by omega)]
  have e : (⟨r.day, r.meth, r.touch, r.rows, r.note⟩ : Rc) = r := rfl
  rw [e, h, if_pos (by simp)]
theorem readO_line {s : ByteArray} {r : Rc} (h : readO s = some r) : lineT r = s := by
  unfold readO readW at h
  split at h
  · split at h
    · rename_i hh
      cases h
      have := (Bool.and_eq_true _ _ ▸ hh : _ ∧ _).2
      have := eq_of_beq this
      simp only [ByteArray.toList_eq] at this
      apply ByteArray.ext
      exact Array.toList_inj.1 this
    · cases h
  · cases h
def sumF (n : Nat) (l : List UInt8) : Nat := l.foldl (fun n c => (33 * n + c.toNat) % 99991) n
theorem sumF_ne : ∀ (l : List UInt8) (n m : Nat), n < 99991 → m < 99991 → n ≠ m → sumF n l ≠ sumF m l
  | [], n, m, _, _, h => h
  | c :: l, n, m, hn, hm, h => by
    refine sumF_ne l ((33 * n + c.toNat) % 99991) ((33 * m + c.toNat) % 99991) (Nat.mod_lt _ (by omega)) (Nat.mod_lt _ (by omega)) ?_
    intro e
    omega
theorem sumL_ne {a b : List UInt8} {c d : UInt8} (h : c ≠ d) : sumL (a ++ c :: b) ≠ sumL (a ++ d :: b) := by
  have e : ∀ c : UInt8, sumL (a ++ c :: b) = sumF ((33 * sumL a + c.toNat) % 99991) b := by
    intro c
    unfold sumL sumF
    rw [List.foldl_append, List.foldl_cons]
  rw [e, e]
  have hc := c.toNat_lt
  have hd := d.toNat_lt
  have hne : c.toNat ≠ d.toNat := fun e => h (UInt8.toNat_inj.1 e)
  refine sumF_ne b _ _ (Nat.mod_lt _ (by omega)) (Nat.mod_lt _ (by omega)) ?_
  intro e
  omega
/-- The place of the last space. -/
theorem last_sp {l x t : List UInt8} (e : l = x ++ 32 :: t) (ht : ∀ b ∈ t, b ≠ 32) : l[x.length]? = some 32 ∧ ∀ i, x.length < i → l[i]? ≠ some 32 := by
  subst e
  refine ⟨by simp, fun i hi h => ?_⟩
  rw [List.getElem?_append_right (by omega), show i - x.length = (i - x.length - 1) + 1 by omega, List.getElem?_cons_succ] at h
  exact ht 32 (List.mem_of_getElem? h) rfl
/-- A line with one changed byte is no record's line. -/
theorem read_changed {r : Rc} {b : ByteArray} {k : Nat} (hsame : ∀ i, i ≠ k → b.data.toList[i]? = (lineT r).data.toList[i]?) (h1 : (lineT r).data.toList[k]? ≠ some 32) (h2 : b.data.toList[k]? ≠ some 32) (hne : b ≠ lineT r) : readO b = none := by
  cases hr : readO b with
  | none => rfl
  | some r' =>
    exfalso
    have hb := readO_line hr
    have e0 := line_list r
    have e1 := line_list r'
    rw [hb] at e1
    obtain ⟨p1, p2⟩ := last_sp e0 (tail_ne r)
    obtain ⟨q1, q2⟩ := last_sp e1 (tail_ne r')
    have hp : (recT r).data.toList.length = (recT r').data.toList.length := by
      rcases Nat.lt_trichotomy (recT r).data.toList.length (recT r').data.toList.length with h | h | h
      · refine absurd ?_ (p2 _ h)
        rw [← hsame _ (fun e => h2 (by rw [← e]; exact q1))]
        exact q1
      · exact h
      · refine absurd ?_ (q2 _ h)
        rw [hsame _ (fun e => h1 (by rw [← e]; exact p1))]
        exact p1
    obtain ⟨X, hX⟩ : ∃ X, X = (recT r).data.toList := ⟨_, rfl⟩
    obtain ⟨X', hX'⟩ : ∃ X, X = (recT r').data.toList := ⟨_, rfl⟩
    obtain ⟨S, hS⟩ : ∃ X, X = (sumT r).data.toList ++ [10] := ⟨_, rfl⟩
    obtain ⟨S', hS'⟩ : ∃ X, X = (sumT r').data.toList ++ [10] := ⟨_, rfl⟩
    obtain ⟨l, hl⟩ : ∃ l, l = (lineT r).data.toList := ⟨_, rfl⟩
    obtain ⟨l', hl'⟩ : ∃ l, l = b.data.toList := ⟨_, rfl⟩
    rw [← hX, ← hX'] at hp
    rw [← hl, ← hX, ← hS] at e0
    rw [← hl', ← hX', ← hS'] at e1
    rw [← hl, ← hl'] at hsame
    rw [← hl] at h1
    rw [← hX] at p1
    rw [← hl] at p1
    have hkp : k ≠ X.length := fun e => h1 (by rw [e]; exact p1)
    have tk : X = l.take X.length := by rw [e0]; simp
    have tk' : X' = l'.take X.length := by rw [e1, hp]; simp
    have dr : S = l.drop (X.length + 1) := by rw [e0]; simp
    have dr' : S' = l'.drop (X.length + 1) := by rw [e1, hp]; simp
    rcases Nat.lt_or_gt_of_ne hkp with hk | hk
    · have hSS : S = S' := by
        rw [dr, dr']
        apply List.ext_getElem?
        intro i
        rw [List.getElem?_drop, List.getElem?_drop, hsame _ (by omega)]
      rw [hS, hS'] at hSS
      have hs2 : sumT r = sumT r' := by
        apply ByteArray.ext
        exact Array.toList_inj.1 (List.append_cancel_right hSS)
      have hsum := numT_inj hs2
      rw [← hX, ← hX'] at hsum
      have hXk : X = X.take k ++ X[k] :: X.drop (k + 1) := by
        rw [← List.drop_eq_getElem_cons hk, List.take_append_drop]
      have hXk' : X' = X'.take k ++ (X'[k]'(by omega)) :: X'.drop (k + 1) := by
        rw [← List.drop_eq_getElem_cons (show k < X'.length by omega), List.take_append_drop]
      have hx : ∀ i, i ≠ k → X'[i]? = X[i]? := by
        intro i hi
        rw [tk, tk', List.getElem?_take, List.getElem?_take, hsame i hi]
      have ht : X'.take k = X.take k := by
        apply List.ext_getElem?
        intro i
        rw [List.getElem?_take, List.getElem?_take]
        split
        · exact hx i (by omega)
        · rfl
      have hd : X'.drop (k + 1) = X.drop (k + 1) := by
        apply List.ext_getElem?
        intro i
        rw [List.getElem?_drop, List.getElem?_drop, hx _ (by omega)]
      rw [ht, hd] at hXk'
      by_cases hc : X[k] = X'[k]'(by omega)
      · refine hne ?_
        have hXX : X' = X := by rw [hXk', ← hc, ← hXk]
        have hll : l' = l := by rw [e1, e0, hXX, hS, hS', hs2]
        apply ByteArray.ext
        rw [hl, hl'] at hll
        exact Array.toList_inj.1 hll
      · rw [hXk, hXk'] at hsum
        exact sumL_ne hc hsum
    · refine hne ?_
      have hXX : X = X' := by
        rw [tk, tk']
        apply List.ext_getElem?
        intro i
        rw [List.getElem?_take, List.getElem?_take]
        split
        · exact (hsame i (by omega)).symm
        · rfl
      have hs2 : sumT r = sumT r' := by unfold sumT; rw [← hX, ← hX', hXX]
      have hll : l' = l := by rw [e1, e0, hXX, hS, hS', hs2]
      apply ByteArray.ext
      rw [hl, hl'] at hll
      exact Array.toList_inj.1 hll
end Go.Proofs.YtpkpahadjdkafaaGreatDoor
