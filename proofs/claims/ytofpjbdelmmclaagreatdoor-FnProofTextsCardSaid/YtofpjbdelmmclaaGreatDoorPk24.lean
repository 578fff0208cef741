/- Lines of a proof in memory: a row, a lead, a place. -/
import Derived.Test.YtofpjbdelmmclaaGreatDoorPk5
import Derived.Test.YtofpjbdelmmclaaGreatDoorPk23
import Derived.Test.YtofpjbdelmmclaaGreatDoorPk18
import Derived.Test.YtofpjbdelmmclaaGreatDoorPk21
import Derived.Lib.IndexBytes
namespace Go.Proofs.YtofpjbdelmmclaaGreatDoor
open Go Go.RowKit
set_option linter.unusedVariables false
set_option linter.unusedSimpArgs false

def lnC (l : Ln) : List Value := [.string l.row, .int .i64 l.lead, .int .i64 l.at']
theorem lnC_len (l : Ln) : (lnC l).length = 3 := rfl
def Lns (w : World) (v : Value) (ls : List Ln) : Prop := Sl w 3 v ls.length (ls.flatMap lnC)
theorem Lns.to {w w' : World} {v : Value} {ls : List Ln} (h : Lns w v ls) (hb : Below w.heap.size w w') : Lns w' v ls := Sl.to h hb
theorem lns_of_own {w : World} {base : Nat} {e : TypeId} {v : Value} {ls : List Ln} (h : w.ownsRow base e 3 v ls.length (ls.flatMap lnC)) : Lns w v ls := sl_of_own h
theorem lns_own_v {w : World} {base n : Nat} {e : TypeId} {v : Value} {ls : List Ln} (hl : ls.length = n) (h : w.ownsRow base e 3 v n (ls.flatMap lnC)) : Lns w v ls := by subst hl; exact lns_of_own h
theorem lns_nil (w : World) : Lns w (.slice none 0 0) [] := ⟨none, 0, rfl, Nat.le_refl _, by unfold maxLen; omega, Reads.none_⟩
theorem lns_form {w : World} {v : Value} {ls : List Ln} (h : Lns w v ls) : ∃ A c, v = .slice A ls.length c ∧ ls.length ≤ c ∧ c ≤ maxLen := by obtain ⟨A, c, e, h1, h2, _⟩ := h; exact ⟨A, c, e, h1, h2⟩
theorem lns_el {w : World} {B : Nat} {A : Option Addr} {ls : List Ln} {n : Nat} (hr : Reads w B 3 A n (ls.flatMap lnC)) (hn : n = ls.length) {k : Nat} (hk : k < ls.length) :
    ∃ ad, A = some ad ∧ ∀ w', Below B w w' → w'.cell? (ad.add (k * 3)) = some (.string ls[k].row) ∧ w'.cell? ⟨(ad.add (k * 3)).block, (ad.add (k * 3)).off + 1, none⟩ = some (.int .i64 ls[k].lead) ∧
      w'.cell? ⟨(ad.add (k * 3)).block, (ad.add (k * 3)).off + 2, none⟩ = some (.int .i64 ls[k].at') := by
  subst hn
  obtain ⟨ad, e, h⟩ := hr.el (fun _ _ => rfl) hk
  refine ⟨ad, e, fun w' hb => ⟨?_, ?_, ?_⟩⟩
  · have := h w' hb 0 _ (by omega) rfl; rwa [add_zero'] at this
  · exact h w' hb 1 _ (by omega) rfl
  · exact h w' hb 2 _ (by omega) rfl
theorem lns_fromG {w : World} {ad : Addr} {c k n : Nat} {ls : List Ln} (h : Lns w (.slice (some ad) n c) ls) (hn : ls.length = n) (hk : k ≤ n) : Lns w (.slice (if c = k then some ad else some (ad.add (k * 3))) (n - k) (c - k)) (ls.drop k) := by
  subst hn
  obtain ⟨A', c', hA, h1, h2, hr⟩ := h
  cases hA
  have hc := hr.cut (k := k) (cap := c) (by omega) h1
  refine ⟨_, c - k, by rw [List.length_drop], by rw [List.length_drop]; omega, by omega, ?_⟩
  have e2 : (if c = k then some ad else some (ad.add (k * 3))) = (if c = k then some ad else (some ad).map (·.add (k * 3))) := by simp
  have e3 : (ls.drop k).flatMap lnC = (ls.flatMap lnC).drop (k * 3) := by
    conv => rhs; rw [← List.take_append_drop k ls]
    have hlt : ((ls.take k).flatMap lnC).length = k * 3 := by rw [flat_length (C := lnC) (sz := 3) (fun _ _ => rfl), List.length_take]; congr 1; omega
    rw [List.flatMap_append, ← hlt, List.drop_left]
  rw [e2, List.length_drop, e3]
  exact hc
/-- A text of one to eight digits. -/
def digB (s : ByteArray) : Bool := s.data.toList.all (fun c => decide (48 ≤ c.toNat ∧ c.toNat ≤ 57)) && decide (1 ≤ s.size ∧ s.size ≤ 8)
def lnB (l : Ln) : Bool := digB l.row && (decide (0 ≤ l.lead ∧ l.lead ≤ 60) && decide (0 ≤ l.at' ∧ l.at' ≤ 40))
/-- The form of a proof. -/
def shapeB (hs : List ByteArray) (ls : List Ln) : Bool := decide (hs.length ≤ 61) && decide (ls.length ≤ 800) && (hs.all digB && ls.all lnB)
/-- Are the heads those of a touch that comes round? -/
def headsOk (m : Mt) (k : Cl) (t : ByteArray) (hs : List ByteArray) : Bool := decide (hs = headsT m k t) && decide (endT m k t = roundsB m.stage.toNat)
/-- Where a proof lies: -1 nowhere, 0 the heads, 1 the number of lines, 2 + i line i. -/
def lieZ (m : Mt) (k : Cl) (t : ByteArray) (hs : List ByteArray) (ls : List Ln) : Int :=
  if headsOk m k t hs then (if ls.length = t.size * m.l.length then (match badAt (okLn nmLt (rowsT m k t) m.l.length t.size ls) ls.length with | none => -1 | some i => (i : Int) + 2) else 1) else 0
end Go.Proofs.YtofpjbdelmmclaaGreatDoor

/- The text of a proof, a plain account: it is read back, and no other text is read. -/
namespace Go.Proofs.YtofpjbdelmmclaaGreatDoor
open Go Go.RowKit
set_option linter.unusedVariables false
set_option linter.unusedSimpArgs false

theorem u8_digV {u : Nat} (h : u < 10) : (UInt8.ofNat (48 + u)).toNat = 48 + u := by
  rw [UInt8.toNat_ofNat']; omega
theorem dec_allV : ∀ u : Nat, (Lib.decDigits u).all digY = true := by
  intro u
  induction u using Nat.strongRecOn with
  | _ u ih =>
    rw [Lib.decDigits]
    have one : ∀ v, v < 10 → digY (UInt8.ofNat (48 + v)) = true := by
      intro v hv
      unfold digY
      rw [u8_digV hv]
      exact decide_eq_true (by omega)
    split
    · rename_i h
      rw [List.all_cons, one u h]; rfl
    · rename_i h
      rw [List.all_append, ih (u / 10) (by omega)]
      rw [List.all_cons, one (u % 10) (by omega)]; rfl
theorem dec_valV : ∀ u : Nat, dval (Lib.decDigits u) = u := by
  intro u
  induction u using Nat.strongRecOn with
  | _ u ih =>
    rw [Lib.decDigits]
    split
    · rename_i h
      have := dval_snoc [] (UInt8.ofNat (48 + u))
      rw [List.nil_append] at this
      rw [this, u8_digV h]
      show 10 * 0 + _ = _
      omega
    · rename_i h
      rw [dval_snoc, ih (u / 10) (by omega), u8_digV (by omega)]
      omega
theorem dec_neV : ∀ u : Nat, Lib.decDigits u ≠ [] := by
  intro u
  rw [Lib.decDigits]
  split <;> simp
theorem dec_headV : ∀ u : Nat, 1 ≤ u → (Lib.decDigits u)[0]?.getD 0 ≠ 48 := by
  intro u
  induction u using Nat.strongRecOn with
  | _ u ih =>
    intro h1
    rw [Lib.decDigits]
    split
    · rename_i h
      intro e
      have e' : UInt8.ofNat (48 + u) = 48 := e
      have := congrArg UInt8.toNat e'
      rw [u8_digV h] at this
      have h48 : (48 : UInt8).toNat = 48 := rfl
      omega
    · rename_i h
      rw [List.getElem?_append_left (List.length_pos_iff.2 (dec_neV _))]
      exact ih (u / 10) (by omega) (by omega)
theorem dec_canV {u m : Nat} (h : (Lib.decDigits u).length ≤ m) : canB (Lib.decDigits u) m = true := by
  refine can_yes ⟨List.length_pos_iff.2 (dec_neV u), h⟩ ?_ (dec_allV u)
  rintro ⟨h1, h2⟩
  refine dec_headV u ?_ h2
  rcases Nat.eq_zero_or_pos u with rfl | h0
  · rw [Lib.decDigits, dif_pos (by omega)] at h1
    simp at h1
  · exact h0
theorem numT_listV (u : Nat) : (numT u).data.toList = Lib.decDigits u := by rw [numT_nat]
theorem read_numV {n : Int} (h0 : 0 ≤ n) (h1 : n ≤ 999999) : readV (numT n).data.toList = n := by
  obtain ⟨u, rfl⟩ : ∃ u : Nat, n = u := ⟨n.toNat, by omega⟩
  rw [numT_listV, readV_yes (dec_canV (dec_len 5 u (by omega))), dec_valV]
theorem numT_injV {a b : Nat} (h : numT a = numT b) : a = b := by
  have e := congrArg (fun s : ByteArray => dval s.data.toList) h
  simp only [numT_listV, dec_valV] at e
  exact e
theorem dig_neV {l : List UInt8} (h : l.all digY = true) : ∀ b ∈ l, b ≠ 32 := by
  intro b hb e
  subst e
  have := List.all_eq_true.1 h _ hb
  revert this; decide
theorem split_appV (c : UInt8) : ∀ (x y : List UInt8), (∀ b ∈ x, b ≠ c) → splitL c (x ++ c :: y) = x :: splitL c y
  | [], y, _ => by rw [List.nil_append, splitL, if_pos rfl]
  | b :: x, y, h => by
    rw [List.cons_append, splitL, if_neg (h b (by simp)), split_appV c x y (fun b hb => h b (by simp [hb]))]
    rfl
theorem split_oneV (c : UInt8) : ∀ (x : List UInt8), (∀ b ∈ x, b ≠ c) → splitL c x = [x]
  | [], _ => rfl
  | b :: x, h => by
    rw [splitL, if_neg (h b (by simp)), split_oneV c x (fun b hb => h b (by simp [hb]))]
    rfl

/-- A line's text without its end, the heads' text, the lines' text. -/
def lnL (l : Ln) : List UInt8 := l.row.data.toList ++ 32 :: ((numT l.lead).data.toList ++ 46 :: (numT l.at').data.toList)
def hdL : List ByteArray → List UInt8
  | [] => []
  | [h] => h.data.toList
  | h :: h' :: t => h.data.toList ++ 32 :: hdL (h' :: t)
def bdL (ls : List Ln) : List UInt8 := ls.flatMap fun l => lnL l ++ [10]
def prT (hs : List ByteArray) (ls : List Ln) : ByteArray := ⟨(hdL hs ++ 10 :: bdL ls).toArray⟩
def baL (l : List UInt8) : ByteArray := ⟨l.toArray⟩
theorem baL_list (l : List UInt8) : (baL l).data.toList = l := by simp [baL]
theorem cut_app {c : UInt8} {x y : List UInt8} (h : ∀ b ∈ x, b ≠ c) : Lib.cut (x ++ c :: y) [c] = (x, y, true) := by
  have hi : Lib.index (x ++ c :: y) [c] = (x.length : Int) := by
    rw [Lib.index_one]
    have hx : (x ++ c :: y)[x.length]? = some c := by simp
    have hlt : ∀ k, k < x.length → (x ++ c :: y)[k]? ≠ some c := by
      intro k hk e
      rw [List.getElem?_append_left hk, List.getElem?_eq_getElem hk] at e
      injection e with e
      exact h _ (List.getElem_mem hk) e
    rcases (by have := Lib.indexByte_ge (x ++ c :: y) c; omega : Lib.indexByte (x ++ c :: y) c = -1 ∨ 0 ≤ Lib.indexByte (x ++ c :: y) c) with hn | hp
    · exact absurd hx (Lib.indexByte_none hn x.length)
    · obtain ⟨o, ho⟩ : ∃ o : Nat, Lib.indexByte (x ++ c :: y) c = (o : Int) := ⟨_, (Int.toNat_of_nonneg hp).symm⟩
      obtain ⟨h1, h2⟩ := Lib.indexByte_some ho
      rw [ho]
      rcases Nat.lt_trichotomy o x.length with hl | hl | hl
      · exact absurd h1 (hlt o hl)
      · rw [hl]
      · exact absurd hx (h2 x.length hl)
  unfold Lib.cut
  rw [hi, if_pos (by omega)]
  simp
theorem dig_byte {s : ByteArray} (h : digB s = true) : (∀ b ∈ s.data.toList, 48 ≤ b.toNat ∧ b.toNat ≤ 57) ∧ 1 ≤ s.size := by
  unfold digB at h
  rw [Bool.and_eq_true, List.all_eq_true, decide_eq_true_eq] at h
  exact ⟨fun b hb => of_decide_eq_true (h.1 b hb), h.2.1⟩
theorem num_byte {n : Int} (h0 : 0 ≤ n) : ∀ b ∈ (numT n).data.toList, 48 ≤ b.toNat ∧ b.toNat ≤ 57 := by
  obtain ⟨u, rfl⟩ : ∃ u : Nat, n = u := ⟨n.toNat, by omega⟩
  rw [numT_listV]
  intro b hb
  have := List.all_eq_true.1 (dec_allV u) b hb
  unfold digY at this
  have := of_decide_eq_true this
  omega
theorem ne_of_dig {b c : UInt8} (h : 48 ≤ b.toNat ∧ b.toNat ≤ 57) (hc : c = 10 ∨ c = 32 ∨ c = 46) : b ≠ c := by
  rintro rfl
  rcases hc with rfl | rfl | rfl <;> revert h <;> decide
theorem ln_parts {l : Ln} (h : lnB l = true) : digB l.row = true ∧ (0 ≤ l.lead ∧ l.lead ≤ 60) ∧ (0 ≤ l.at' ∧ l.at' ≤ 40) := by
  unfold lnB at h
  rw [Bool.and_eq_true, Bool.and_eq_true, decide_eq_true_eq, decide_eq_true_eq] at h
  exact h
theorem lnL_ne {l : Ln} (h : lnB l = true) : ∀ b ∈ lnL l, b ≠ 10 := by
  obtain ⟨h1, h2, h3⟩ := ln_parts h
  intro b hb
  unfold lnL at hb
  rcases List.mem_append.1 hb with hb | hb
  · exact ne_of_dig ((dig_byte h1).1 b hb) (.inl rfl)
  · rcases List.mem_cons.1 hb with rfl | hb
    · decide
    · rcases List.mem_append.1 hb with hb | hb
      · exact ne_of_dig (num_byte h2.1 b hb) (.inl rfl)
      · rcases List.mem_cons.1 hb with rfl | hb
        · decide
        · exact ne_of_dig (num_byte h3.1 b hb) (.inl rfl)
theorem hdL_ne {c : UInt8} (hc : c = 10) : ∀ {hs : List ByteArray}, hs.all digB = true → ∀ b ∈ hdL hs, b ≠ c
  | [], _, b, hb => by cases hb
  | [h], hh, b, hb => by
    have := (dig_byte (List.all_eq_true.1 hh h (by simp))).1 b hb
    exact ne_of_dig this (.inl hc)
  | h :: h' :: t, hh, b, hb => by
    unfold hdL at hb
    rcases List.mem_append.1 hb with hb | hb
    · exact ne_of_dig ((dig_byte (List.all_eq_true.1 hh h (by simp))).1 b hb) (.inl hc)
    · rcases List.mem_cons.1 hb with rfl | hb
      · rw [hc]; decide
      · exact hdL_ne hc (hs := h' :: t) (by rw [List.all_cons, Bool.and_eq_true] at hh; exact hh.2) b hb
theorem split_hd : ∀ {h : ByteArray} {t : List ByteArray}, (h :: t).all digB = true → splitL 32 (hdL (h :: t)) = (h :: t).map (·.data.toList)
  | h, [], hh => by
    show splitL 32 h.data.toList = [h.data.toList]
    exact split_oneV 32 _ (fun b hb => ne_of_dig ((dig_byte (List.all_eq_true.1 hh h (by simp))).1 b hb) (.inr (.inl rfl)))
  | h, h' :: t, hh => by
    show splitL 32 (h.data.toList ++ 32 :: hdL (h' :: t)) = _
    rw [split_appV 32 _ _ (fun b hb => ne_of_dig ((dig_byte (List.all_eq_true.1 hh h (by simp))).1 b hb) (.inr (.inl rfl))), split_hd (by rw [List.all_cons, Bool.and_eq_true] at hh; exact hh.2)]
    rfl
theorem split_bd : ∀ {ls : List Ln}, ls.all lnB = true → splitL 10 (bdL ls) = ls.map lnL ++ [[]]
  | [], _ => rfl
  | l :: ls, h => by
    rw [List.all_cons, Bool.and_eq_true] at h
    show splitL 10 ((lnL l ++ [10]) ++ bdL ls) = _
    rw [List.append_assoc, List.singleton_append, split_appV 10 _ _ (lnL_ne h.1), split_bd h.2]
    rfl
theorem shape_parts {hs : List ByteArray} {ls : List Ln} (h : shapeB hs ls = true) : hs.length ≤ 61 ∧ ls.length ≤ 800 ∧ hs.all digB = true ∧ ls.all lnB = true := by
  unfold shapeB at h
  simp only [Bool.and_eq_true, decide_eq_true_eq] at h
  exact ⟨h.1.1, h.1.2, h.2.1, h.2.2⟩
theorem splitW_pr {hs : List ByteArray} {ls : List Ln} (h : shapeB hs ls = true) : splitW 10 (prT hs ls) = baL (hdL hs) :: (ls.map (fun l => baL (lnL l)) ++ [baL []]) := by
  obtain ⟨_, _, h1, h2⟩ := shape_parts h
  unfold splitW prT
  have e : (⟨(hdL hs ++ 10 :: bdL ls).toArray⟩ : ByteArray).data.toList = hdL hs ++ 10 :: bdL ls := by simp
  rw [e, split_appV 10 _ _ (hdL_ne rfl h1), split_bd h2]
  simp [baL]
/-- Read line by line. -/
def rdAcc (f : ByteArray → Option Ln) : List ByteArray → List Ln → Option (List Ln)
  | [], acc => some acc
  | x :: t, acc => match f x with
    | none => none
    | some l => rdAcc f t (acc ++ [l])
theorem rd_some {f : ByteArray → Option Ln} {x : ByteArray} {t : List ByteArray} {acc : List Ln} {l : Ln} (h : f x = some l) : rdAcc f (x :: t) acc = rdAcc f t (acc ++ [l]) := by rw [rdAcc, h]
theorem rd_none {f : ByteArray → Option Ln} {x : ByteArray} {t : List ByteArray} {acc : List Ln} (h : f x = none) : rdAcc f (x :: t) acc = none := by rw [rdAcc, h]
theorem rd_lines {f : ByteArray → Option Ln} : ∀ {ls acc : List Ln}, (∀ l ∈ ls, f (baL (lnL l)) = some l) → rdAcc f (ls.map fun l => baL (lnL l)) acc = some (acc ++ ls)
  | [], acc, _ => by rw [List.append_nil]; rfl
  | l :: ls, acc, h => by
    rw [List.map_cons, rd_some (h l (by simp)), rd_lines (fun x hx => h x (by simp [hx]))]
    simp
/-- A line as the program reads it, as the specification does. -/
def lnO (x : ByteArray) : Option Ln :=
  let c := Lib.cut x.data.toList [32]
  let d := Lib.cut c.2.1 [46]
  if c.2.2 && d.2.2 && canB d.1 2 && canB d.2.1 2 then some ⟨baL c.1, numV d.1 2, numV d.2.1 2⟩ else none
def lnS (x : ByteArray) : Option Ln :=
  match splitW 32 x with
  | [a, b] => match splitW 46 b with
    | [c, d] => some ⟨a, readV c.data.toList, readV d.data.toList⟩
    | _ => none
  | _ => none
theorem num_can {n : Int} (h : 0 ≤ n ∧ n ≤ 60) : canB (numT n).data.toList 2 = true ∧ numV (numT n).data.toList 2 = n := by
  obtain ⟨u, rfl⟩ : ∃ u : Nat, n = u := ⟨n.toNat, by omega⟩
  have hc : canB (Lib.decDigits u) 2 = true := dec_canV (dec_len 1 u (by omega))
  rw [numT_listV]
  exact ⟨hc, by rw [numV_yes hc, dec_valV]⟩
theorem lnO_line {l : Ln} (h : lnB l = true) : lnO (baL (lnL l)) = some l := by
  obtain ⟨h1, h2, h3⟩ := ln_parts h
  have e1 : Lib.cut (lnL l) [32] = (l.row.data.toList, (numT l.lead).data.toList ++ 46 :: (numT l.at').data.toList, true) := cut_app (fun b hb => ne_of_dig ((dig_byte h1).1 b hb) (.inr (.inl rfl)))
  have e2 : Lib.cut ((numT l.lead).data.toList ++ 46 :: (numT l.at').data.toList) [46] = ((numT l.lead).data.toList, (numT l.at').data.toList, true) := cut_app (fun b hb => ne_of_dig (num_byte h2.1 b hb) (.inr (.inr rfl)))
  obtain ⟨c1, c2⟩ := num_can (n := l.lead) (by omega)
  obtain ⟨c3, c4⟩ := num_can (n := l.at') (by omega)
  have e3 : baL l.row.data.toList = l.row := by unfold baL; apply ByteArray.ext; simp
  unfold lnO
  simp only [baL_list, e1, e2, c1, c2, c3, c4, e3]
  rfl
theorem lnS_line {l : Ln} (h : lnB l = true) : lnS (baL (lnL l)) = some l := by
  obtain ⟨h1, h2, h3⟩ := ln_parts h
  have hr : ∀ b ∈ l.row.data.toList, b ≠ 32 := fun b hb => ne_of_dig ((dig_byte h1).1 b hb) (.inr (.inl rfl))
  have ht : ∀ b ∈ (numT l.lead).data.toList ++ 46 :: (numT l.at').data.toList, b ≠ 32 := by
    intro b hb
    rcases List.mem_append.1 hb with hb | hb
    · exact ne_of_dig (num_byte h2.1 b hb) (.inr (.inl rfl))
    · rcases List.mem_cons.1 hb with rfl | hb
      · decide
      · exact ne_of_dig (num_byte h3.1 b hb) (.inr (.inl rfl))
  have e1 : splitW 32 (baL (lnL l)) = [l.row, baL ((numT l.lead).data.toList ++ 46 :: (numT l.at').data.toList)] := by
    unfold splitW
    rw [baL_list]
    unfold lnL
    rw [split_appV 32 _ _ hr, split_oneV 32 _ ht]
    simp [baL]
  have e2 : splitW 46 (baL ((numT l.lead).data.toList ++ 46 :: (numT l.at').data.toList)) = [numT l.lead, numT l.at'] := by
    unfold splitW
    rw [baL_list, split_appV 46 _ _ (fun b hb => ne_of_dig (num_byte h2.1 b hb) (.inr (.inr rfl))), split_oneV 46 _ (fun b hb => ne_of_dig (num_byte h3.1 b hb) (.inr (.inr rfl)))]
    simp
  unfold lnS
  rw [e1]
  simp only [e2]
  rw [read_numV (by omega) (by omega), read_numV (by omega) (by omega)]
/-- A proof read from a text, the lines by f. -/
def hdsO (h : ByteArray) : List ByteArray := if h.data.toList = [] then [] else splitW 32 h
def prG (f : ByteArray → Option Ln) (s : ByteArray) : Option (List ByteArray × List Ln) :=
  match (splitW 10 s).dropLast with
  | [] => none
  | h :: t => match rdAcc f t [] with
    | none => none
    | some ls => if shapeB (hdsO h) ls && decide (prT (hdsO h) ls = s) then some (hdsO h, ls) else none
theorem prG_ok {f : ByteArray → Option Ln} {s : ByteArray} {hs : List ByteArray} {ls : List Ln} (h : prG f s = some (hs, ls)) : shapeB hs ls = true ∧ prT hs ls = s := by
  unfold prG at h
  split at h
  · cases h
  · split at h
    · cases h
    · split at h
      · rename_i hh
        cases h
        rw [Bool.and_eq_true, decide_eq_true_eq] at hh
        exact hh
      · cases h
theorem hds_hd {hs : List ByteArray} (h : hs.all digB = true) : hdsO (baL (hdL hs)) = hs := by
  unfold hdsO
  rw [baL_list]
  cases hs with
  | nil => rfl
  | cons x t =>
    have hx := (dig_byte (List.all_eq_true.1 h x (by simp))).2
    have hne : hdL (x :: t) ≠ [] := by
      intro e
      have hl := congrArg List.length e
      cases t with
      | nil =>
        have : x.data.toList.length = 0 := hl
        rw [bytes_len] at this; omega
      | cons y t =>
        have : (x.data.toList ++ 32 :: hdL (y :: t)).length = 0 := hl
        rw [List.length_append, List.length_cons] at this; omega
    rw [if_neg hne]
    unfold splitW
    rw [baL_list, split_hd h, List.map_map]
    conv => rhs; rw [← List.map_id (x :: t)]
    apply List.map_congr_left
    intro y _
    show (⟨y.data.toList.toArray⟩ : ByteArray) = y
    apply ByteArray.ext; simp
theorem prG_text {f : ByteArray → Option Ln} (hf : ∀ l, lnB l = true → f (baL (lnL l)) = some l) {hs : List ByteArray} {ls : List Ln} (h : shapeB hs ls = true) : prG f (prT hs ls) = some (hs, ls) := by
  obtain ⟨_, _, h1, h2⟩ := shape_parts h
  have e : (splitW 10 (prT hs ls)).dropLast = baL (hdL hs) :: ls.map (fun l => baL (lnL l)) := by
    rw [splitW_pr h, ← List.cons_append, List.dropLast_concat]
  unfold prG
  rw [e]
  simp only
  rw [rd_lines (fun l hl => hf l (List.all_eq_true.1 h2 l hl))]
  simp only [List.nil_append]
  rw [hds_hd h1, h, decide_eq_true rfl]
  rfl
theorem prG_same (s : ByteArray) : prG lnO s = prG lnS s := by
  cases h1 : prG lnO s with
  | some p =>
    obtain ⟨hs, ls⟩ := p
    obtain ⟨hh, ht⟩ := prG_ok h1
    rw [← ht]
    exact (prG_text (fun l => lnS_line) hh).symm
  | none =>
    cases h2 : prG lnS s with
    | none => rfl
    | some p =>
      obtain ⟨hs, ls⟩ := p
      obtain ⟨hh, ht⟩ := prG_ok h2
      rw [← ht, prG_text (fun l => lnO_line) hh] at h1
      cases h1
/-- What both readers answer. -/
def prR (s : ByteArray) : Option (List ByteArray × List Ln) := if s.size ≤ 20000 then prG lnS s else none
theorem prR_big {s : ByteArray} (h : ¬ s.size ≤ 20000) : prR s = none := by unfold prR; rw [if_neg h]
theorem prR_spec {s : ByteArray} (h : s.size ≤ 20000) : prR s = prG lnS s := by unfold prR; rw [if_pos h]
theorem prR_impl {s : ByteArray} (h : s.size ≤ 20000) : prR s = prG lnO s := by rw [prR_spec h, prG_same]
/-- A text whose last line does not end is no proof's. -/
theorem prR_last {s : ByteArray} {X : List ByteArray} {x : ByteArray} (h : splitW 10 s = X ++ [x]) (hx : x.data.toList ≠ []) : prR s = none := by
  by_cases hz : s.size ≤ 20000
  · rw [prR_spec hz]
    cases hp : prG lnS s with
    | none => rfl
    | some p =>
      obtain ⟨hs, ls⟩ := p
      obtain ⟨hh, ht⟩ := prG_ok hp
      have e := splitW_pr hh
      rw [ht, h, ← List.cons_append] at e
      have := (List.append_inj' e rfl).2
      injection this with this
      rw [this, baL_list] at hx
      exact absurd rfl hx
  · exact prR_big hz
theorem prR_text {hs : List ByteArray} {ls : List Ln} (h : shapeB hs ls = true) (hz : (prT hs ls).size ≤ 20000) : prR (prT hs ls) = some (hs, ls) := by
  rw [prR_spec hz]; exact prG_text (fun l => lnS_line) h
theorem prR_ok {s : ByteArray} {hs : List ByteArray} {ls : List Ln} (h : prR s = some (hs, ls)) : shapeB hs ls = true ∧ prT hs ls = s ∧ s.size ≤ 20000 := by
  unfold prR at h
  by_cases hz : s.size ≤ 20000
  · rw [if_pos hz] at h
    exact ⟨(prG_ok h).1, (prG_ok h).2, hz⟩
  · rw [if_neg hz] at h; cases h
end Go.Proofs.YtofpjbdelmmclaaGreatDoor
