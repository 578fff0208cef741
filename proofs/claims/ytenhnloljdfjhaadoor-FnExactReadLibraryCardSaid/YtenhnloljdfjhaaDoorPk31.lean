/- A notation read place by place: the same plain functions without a bound on the rounds. -/
import Derived.Test.YtenhnloljdfjhaaDoorPk30
namespace Go.Proofs.YtenhnloljdfjhaaDoor
open Go Go.RowKit
set_option linter.unusedVariables false
set_option linter.unusedSimpArgs false

theorem tok_app (l : List UInt8) : (tokL l).1 ++ (tokL l).2 = l := by
  cases l with
  | nil => rfl
  | cons c t =>
    rw [tokL]
    by_cases h : c = 45 ∨ c = 120
    · rw [if_pos h]; rfl
    · rw [if_neg h]; exact List.takeWhile_append_dropWhile
theorem tok_len (l : List UInt8) : (tokL l).1.length + (tokL l).2.length = l.length := by
  have := congrArg List.length (tok_app l)
  rw [List.length_append] at this
  exact this
theorem tok_drop (l : List UInt8) : (tokL l).2 = l.drop (tokL l).1.length := by
  have h := tok_app l
  have : ((tokL l).1 ++ (tokL l).2).drop (tokL l).1.length = (tokL l).2 := List.drop_left' rfl
  rw [h] at this
  exact this.symm
theorem tok_take (l : List UInt8) : (tokL l).1 = l.take (tokL l).1.length := by
  have h := tok_app l
  have : ((tokL l).1 ++ (tokL l).2).take (tokL l).1.length = (tokL l).1 := List.take_left' rfl
  rw [h] at this
  exact this.symm
theorem chg_short {n : Int} {l r : List UInt8} {c : ByteArray} (h : chgO n l = some (c, r)) : r.length < l.length ∧ r = (tokL l).2 := by
  unfold chgO at h
  split at h
  · cases h
  · rename_i hne
    split at h
    · cases h
    · cases h
      have := tok_len l
      have := List.length_pos_iff.2 hne
      exact ⟨by omega, rfl⟩
theorem blk_short {n : Int} : ∀ {f : Nat} {l r : List UInt8} {cs : List ByteArray}, blkO n f l = some (cs, r) → r.length < l.length ∧ 0 < cs.length
  | 0, l, r, cs, h => by cases h
  | f + 1, l, r, cs, h => by
    rw [blkO] at h
    split at h
    · cases h
    · rename_i c hc
      cases h
      exact ⟨(chg_short hc).1, by simp⟩
    · rename_i c b t hc
      have hs := (chg_short hc).1
      split at h
      · cases h
        exact ⟨hs, by simp⟩
      · split at h
        · cases h
        · rename_i cs' r' hb
          cases h
          have := (blk_short hb).1
          refine ⟨?_, by simp⟩
          split at this <;> simp at hs this <;> omega
theorem blk_fuel {n : Int} : ∀ {f : Nat} {l : List UInt8}, l.length < f → ∀ g, l.length < g → blkO n f l = blkO n g l
  | 0, l, h, g, hg => by omega
  | f + 1, l, h, 0, hg => by omega
  | f + 1, l, h, g + 1, hg => by
    rw [blkO, blkO]
    cases hc : chgO n l with
    | none => rfl
    | some p =>
      obtain ⟨c, t⟩ := p
      have hs := (chg_short hc).1
      cases t with
      | nil => rfl
      | cons b t =>
        simp only
        split
        · rfl
        · rw [blk_fuel (f := f) (g := g) (by split <;> simp at hs ⊢ <;> omega) (by split <;> simp at hs ⊢ <;> omega)]
def blkW (n : Int) (l : List UInt8) : Option (List ByteArray × List UInt8) := blkO n (l.length + 1) l
theorem blkW_none {n : Int} {l : List UInt8} (h : chgO n l = none) : blkW n l = none := by unfold blkW; rw [blkO, h]
theorem blkW_end {n : Int} {l : List UInt8} {c : ByteArray} (h : chgO n l = some (c, [])) : blkW n l = some ([c], []) := by unfold blkW; rw [blkO, h]
theorem blkW_comma {n : Int} {l t : List UInt8} {c : ByteArray} (h : chgO n l = some (c, 44 :: t)) : blkW n l = some ([c], 44 :: t) := by unfold blkW; rw [blkO, h]; rfl
theorem blkW_more {n : Int} {l t : List UInt8} {c : ByteArray} {b : UInt8} (h : chgO n l = some (c, b :: t)) (hb : ¬ b = 44) :
    blkW n l = (blkW n (if b = 46 then t else b :: t)).map (fun p => (c :: p.1, p.2)) := by
  have hs := (chg_short h).1
  unfold blkW
  rw [blkO, h]
  simp only [if_neg hb]
  rw [blk_fuel (f := l.length) (g := (if b = 46 then t else b :: t).length + 1) (by split <;> simp at hs ⊢ <;> omega) (by omega)]
  cases blkO n ((if b = 46 then t else b :: t).length + 1) (if b = 46 then t else b :: t) with
  | none => rfl
  | some p => rfl
theorem nt_fuel {n : Int} : ∀ {f : Nat} {l : List UInt8}, l.length < f → ∀ g, l.length < g → ntO n f l = ntO n g l
  | 0, l, h, g, hg => by omega
  | f + 1, l, h, 0, hg => by omega
  | f + 1, l, h, g + 1, hg => by
    rw [ntO, ntO]
    cases hc : blkO n (l.length + 1) l with
    | none => rfl
    | some p =>
      obtain ⟨c, t⟩ := p
      have hs := (blk_short hc).1
      cases t with
      | nil => rfl
      | cons b t =>
        simp only
        rw [nt_fuel (f := f) (g := g) (by simp at hs; omega) (by simp at hs; omega)]
def ntW (n : Int) (l : List UInt8) : Option (List (List ByteArray)) := ntO n (l.length + 1) l
theorem ntW_none {n : Int} {l : List UInt8} (h : blkW n l = none) : ntW n l = none := by unfold ntW; unfold blkW at h; rw [ntO, h]
theorem ntW_end {n : Int} {l : List UInt8} {c : List ByteArray} (h : blkW n l = some (c, [])) : ntW n l = some [c] := by unfold ntW; unfold blkW at h; rw [ntO, h]
theorem ntW_more {n : Int} {l t : List UInt8} {c : List ByteArray} {b : UInt8} (h : blkW n l = some (c, b :: t)) : ntW n l = (ntW n t).map (fun p => c :: p) := by
  unfold ntW
  unfold blkW at h
  have hs := (blk_short h).1
  rw [ntO, h]
  simp only
  rw [nt_fuel (f := l.length) (g := t.length + 1) (by simp at hs; omega) (by omega)]
  cases ntO n (t.length + 1) t with
  | none => rfl
  | some p => rfl
theorem ntn_none {n : Int} {s : ByteArray} (h : ¬ ((3 ≤ n ∧ n ≤ 8) ∧ 1 ≤ s.size ∧ s.size ≤ 200)) : ntnO n s = none := if_neg h
theorem ntn_bad {n : Int} {s : ByteArray} (h : ntW n s.data.toList = none) : ntnO n s = none := by
  unfold ntnO
  unfold ntW at h
  rw [bytes_len] at h
  split
  · rw [h]
  · rfl
theorem ntn_some {n : Int} {s : ByteArray} {bs : List (List ByteArray)} (h0 : (3 ≤ n ∧ n ≤ 8) ∧ 1 ≤ s.size ∧ s.size ≤ 200) (h : ntW n s.data.toList = some bs) : ntnO n s = if bs.length ≤ 4 ∧ (outL bs).length ≤ 40 then some (outL bs) else none := by
  unfold ntnO
  unfold ntW at h
  rw [bytes_len] at h
  rw [if_pos h0, h]
/-- The text from place k on. -/
def txF (s : ByteArray) (k : Nat) : List UInt8 := s.data.toList.drop k
theorem txF_len (s : ByteArray) (k : Nat) : (txF s k).length = s.size - k := by unfold txF; rw [List.length_drop, bytes_len]
theorem txF_zero (s : ByteArray) : txF s 0 = s.data.toList := rfl
theorem txF_cons {s : ByteArray} {k : Nat} (h : k < s.size) : txF s k = s[k] :: txF s (k + 1) := by
  unfold txF
  rw [List.drop_eq_getElem_cons (by rw [bytes_len]; exact h), bytes_get _ _ h]
theorem txF_nil {s : ByteArray} {k : Nat} (h : s.size ≤ k) : txF s k = [] := List.eq_nil_of_length_eq_zero (by rw [txF_len]; omega)
/-- How long the word at place k is. -/
def tkn (s : ByteArray) (k : Nat) : Nat := (tokL (txF s k)).1.length
theorem tkn_le {s : ByteArray} {k : Nat} (h : k ≤ s.size) : k + tkn s k ≤ s.size := by
  have := tok_len (txF s k)
  rw [txF_len] at this
  unfold tkn; omega
theorem tkn_nil {s : ByteArray} {k : Nat} (h : s.size ≤ k) : tkn s k = 0 := by unfold tkn; rw [txF_nil h]; rfl
theorem tkn_dash {s : ByteArray} {k : Nat} (h : k < s.size) (hc : s[k] = 45 ∨ s[k] = 120) : tkn s k = 1 := by
  unfold tkn; rw [txF_cons h, tokL, if_pos hc]; rfl
/-- How many digits stand from place k on. -/
def dgn (s : ByteArray) (k : Nat) : Nat := ((txF s k).takeWhile digY).length
theorem tkn_dig {s : ByteArray} {k : Nat} (h : k < s.size) (hc : ¬ (s[k] = 45 ∨ s[k] = 120)) : tkn s k = dgn s k := by
  unfold tkn dgn
  rw [txF_cons h, tokL, if_neg hc]
theorem dgn_end {s : ByteArray} {k : Nat} (h : s.size ≤ k) : dgn s k = 0 := by unfold dgn; rw [txF_nil h]; rfl
theorem dgn_no {s : ByteArray} {k : Nat} (h : k < s.size) (hd : digY s[k] = false) : dgn s k = 0 := by
  unfold dgn; rw [txF_cons h, List.takeWhile_cons_of_neg (by simp [hd])]; rfl
theorem dgn_yes {s : ByteArray} {k : Nat} (h : k < s.size) (hd : digY s[k] = true) : dgn s k = dgn s (k + 1) + 1 := by
  unfold dgn; rw [txF_cons h, List.takeWhile_cons_of_pos hd]; rfl
theorem ext_word {s : ByteArray} {k : Nat} (hk : k ≤ s.size) : (s.extract k (k + tkn s k)).data.toList = (tokL (txF s k)).1 := by
  rw [tok_take]
  unfold tkn txF
  simp
theorem chg_at {n : Int} {s : ByteArray} {k : Nat} (hk : k ≤ s.size) : chgO n (txF s k) = if tkn s k = 0 then none else (tdC n (s.extract k (k + tkn s k))).map (fun c => (c, txF s (k + tkn s k))) := by
  rw [chg_of (ext_word hk)]
  have e : (tokL (txF s k)).2 = txF s (k + tkn s k) := by
    rw [tok_drop]; unfold tkn txF; rw [List.drop_drop]
  rw [e]
  unfold tkn
  by_cases h : (tokL (txF s k)).1 = []
  · rw [if_pos h, if_pos (by rw [h]; rfl)]
  · rw [if_neg h, if_neg (fun h' => h (List.eq_nil_of_length_eq_zero h'))]
end Go.Proofs.YtenhnloljdfjhaaDoor
