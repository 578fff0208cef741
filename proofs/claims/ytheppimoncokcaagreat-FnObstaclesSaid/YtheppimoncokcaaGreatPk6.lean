/- The sign of a row: a plain account. -/
import Derived.Test.YtheppimoncokcaaGreatPk5
import Derived.Test.YtheppimoncokcaaGreatPk3
namespace Go.Proofs.YtheppimoncokcaaGreat
open Go Go.RowKit
set_option linter.unusedVariables false
set_option linter.unusedSimpArgs false

/-- What the inner loop makes of a sign. -/
def inE (x : UInt8) : List UInt8 → Bool → Bool
  | [], b => b
  | y :: t, b => inE x t (if x < y then !b else b)
theorem inE_snoc (x : UInt8) : ∀ (l : List UInt8) (y : UInt8) (b : Bool), inE x (l ++ [y]) b = if x < y then !(inE x l b) else inE x l b
  | [], y, b => by simp [inE]
  | z :: l, y, b => by rw [List.cons_append, inE, inE_snoc x l, inE]
theorem inE_take {x : UInt8} {l : List UInt8} {k : Nat} (b : Bool) (hk : k < l.length) : inE x (l.take (k + 1)) b = if x < l[k] then !(inE x (l.take k) b) else inE x (l.take k) b := by
  rw [List.take_succ_eq_append_getElem hk, inE_snoc]
/-- The sign so far, behind some bells. -/
def evF (b : Bool) (pre : List UInt8) : List UInt8 → Bool
  | [] => b
  | x :: t => evF (inE x pre b) (pre ++ [x]) t
theorem evF_snoc : ∀ (t : List UInt8) (b : Bool) (pre : List UInt8) (x : UInt8), evF b pre (t ++ [x]) = inE x (pre ++ t) (evF b pre t)
  | [], b, pre, x => by simp [evF]
  | y :: t, b, pre, x => by rw [List.cons_append, evF, evF_snoc t, evF, List.append_assoc]; rfl
def evenB (s : ByteArray) : Bool := evF true [] s.data.toList
theorem evF_take {l : List UInt8} {k : Nat} (hk : k < l.length) : evF true [] (l.take (k + 1)) = inE l[k] (l.take k) (evF true [] (l.take k)) := by
  rw [List.take_succ_eq_append_getElem hk, evF_snoc]; rfl
theorem inE_not (x : UInt8) : ∀ (l : List UInt8) (b : Bool), inE x l (!b) = !(inE x l b)
  | [], b => rfl
  | y :: t, b => by
    rw [inE, inE]
    split
    · exact inE_not x t (!b)
    · exact inE_not x t b
theorem evF_not : ∀ (l : List UInt8) (b : Bool) (pre : List UInt8), evF (!b) pre l = !(evF b pre l)
  | [], b, pre => rfl
  | x :: t, b, pre => by rw [evF, evF, inE_not, evF_not t]
theorem inE_swap (x y z : UInt8) (b : Bool) : ∀ (p q : List UInt8), inE x (p ++ y :: z :: q) b = inE x (p ++ z :: y :: q) b := by
  intro p q
  induction p generalizing b with
  | nil =>
    simp only [List.nil_append, inE]
    split <;> split <;> rfl
  | cons w p ih => rw [List.cons_append, List.cons_append, inE, inE, ih]
theorem evF_pre : ∀ (l : List UInt8) (b : Bool) (p q : List UInt8) (y z : UInt8), evF b (p ++ y :: z :: q) l = evF b (p ++ z :: y :: q) l
  | [], b, p, q, y, z => rfl
  | x :: t, b, p, q, y, z => by
    rw [evF, evF, inE_swap, show (p ++ y :: z :: q) ++ [x] = p ++ y :: z :: (q ++ [x]) by simp, show (p ++ z :: y :: q) ++ [x] = p ++ z :: y :: (q ++ [x]) by simp, evF_pre t]
theorem inE_two {x y : UInt8} (h : x ≠ y) (pre : List UInt8) (b : Bool) : inE x (pre ++ [y]) (inE y pre b) = !(inE y (pre ++ [x]) (inE x pre b)) := by
  rw [inE_snoc, inE_snoc]
  have key : ∀ (l : List UInt8) (b : Bool), inE x l (inE y l b) = inE y l (inE x l b) := by
    have hx : ∀ (z : UInt8) (l : List UInt8) (b : Bool), inE z l b = (b == inE z l true) := by
      intro z l b
      cases b
      · have := inE_not z l true
        simp only [Bool.not_true] at this
        rw [this]; cases inE z l true <;> rfl
      · cases inE z l true <;> rfl
    intro l b
    rw [hx x l (inE y l b), hx y l b, hx y l (inE x l b), hx x l b]
    cases b <;> cases inE x l true <;> cases inE y l true <;> rfl
  rw [key]
  rcases Nat.lt_trichotomy x.toNat y.toNat with hl | hl | hl
  · have h1 : x < y := UInt8.lt_iff_toNat_lt.2 hl
    have h2 : ¬ y < x := by rw [UInt8.lt_iff_toNat_lt]; omega
    rw [if_pos h1, if_neg h2]
  · exact absurd (UInt8.toNat_inj.1 hl) h
  · have h1 : y < x := UInt8.lt_iff_toNat_lt.2 hl
    have h2 : ¬ x < y := by rw [UInt8.lt_iff_toNat_lt]; omega
    rw [if_neg h2, if_pos h1, Bool.not_not]
theorem evF_flip {x y : UInt8} (h : x ≠ y) : ∀ (p q : List UInt8) (b : Bool) (pre : List UInt8), evF b pre (p ++ x :: y :: q) = !(evF b pre (p ++ y :: x :: q))
  | [], q, b, pre => by
    simp only [List.nil_append, evF]
    rw [inE_two h.symm, evF_not, List.append_assoc, List.append_assoc]
    congr 1
    exact evF_pre q _ pre [] x y
  | z :: p, q, b, pre => by rw [List.cons_append, List.cons_append, evF, evF, evF_flip h p]
theorem swapAt_form {l : List UInt8} {p : Nat} (h1 : 1 ≤ p) (h2 : p < l.length) : l = l.take (p - 1) ++ l[p - 1] :: l[p] :: l.drop (p + 1) ∧ swapAt l p = l.take (p - 1) ++ l[p] :: l[p - 1] :: l.drop (p + 1) := by
  have e : l = l.take (p - 1) ++ l[p - 1] :: l[p] :: l.drop (p + 1) := by
    conv => lhs; rw [← List.take_append_drop (p - 1) l]
    congr 1
    rw [List.drop_eq_getElem_cons (by omega), show p - 1 + 1 = p by omega, List.drop_eq_getElem_cons h2]
  refine ⟨e, ?_⟩
  apply List.ext_getElem?
  intro i
  by_cases hi : i < l.length
  · rw [swapAt_get h1 h2 hi]
    by_cases a : i + 1 = p
    · rw [if_pos a, List.getElem?_append_right (by rw [List.length_take]; omega), show i - (l.take (p - 1)).length = 0 by rw [List.length_take]; omega, List.getElem?_eq_getElem (by omega)]
      simp only [a]; rfl
    · rw [if_neg a]
      by_cases b : i = p
      · rw [if_pos b, List.getElem?_append_right (by rw [List.length_take]; omega), show i - (l.take (p - 1)).length = 1 by rw [List.length_take]; omega, List.getElem?_eq_getElem (by omega)]
        simp only [b]; rfl
      · rw [if_neg b]
        by_cases c : i < p - 1
        · rw [List.getElem?_append_left (by rw [List.length_take]; omega), List.getElem?_take_of_lt c]
        · rw [List.getElem?_append_right (by rw [List.length_take]; omega), show i - (l.take (p - 1)).length = (i - p - 1) + 1 + 1 by rw [List.length_take]; omega, List.getElem?_cons_succ, List.getElem?_cons_succ, List.getElem?_drop]
          congr 1; omega
  · rw [List.getElem?_eq_none (by rw [swapAt_len]; omega), List.getElem?_eq_none (by simp only [List.length_append, List.length_take, List.length_cons, List.length_drop]; omega)]
theorem ev_swap {l : List UInt8} (hd : l.Nodup) {p : Nat} (h1 : 1 ≤ p) (h2 : p < l.length) : evF true [] (swapAt l p) = !(evF true [] l) := by
  obtain ⟨e1, e2⟩ := swapAt_form h1 h2
  have hne : l[p] ≠ l[p - 1] := fun e => (List.pairwise_iff_getElem.1 hd) (p - 1) p (by omega) h2 (by omega) e.symm
  rw [e2, evF_flip hne, ← e1]
theorem swapAt_perm {l : List UInt8} {p : Nat} (h1 : 1 ≤ p) (h2 : p < l.length) : (swapAt l p).Perm l := by
  obtain ⟨e1, e2⟩ := swapAt_form h1 h2
  rw [e2]
  conv => rhs; rw [e1]
  exact List.Perm.append_left _ (List.Perm.swap ..)
theorem ev_fold : ∀ (ps : List Nat) (l : List UInt8), l.Nodup → (∀ p ∈ ps, 1 ≤ p ∧ p < l.length) → evF true [] (ps.foldl swapAt l) = (evF true [] l ^^ decide (ps.length % 2 = 1)) ∧ (ps.foldl swapAt l).Perm l
  | [], l, _, _ => by simp
  | p :: ps, l, hd, hp => by
    have h0 := hp p (List.mem_cons_self ..)
    have hperm := swapAt_perm h0.1 h0.2
    obtain ⟨i1, i2⟩ := ev_fold ps (swapAt l p) (hperm.nodup_iff.2 hd) (fun q hq => by rw [swapAt_len]; exact hp q (List.mem_cons_of_mem _ hq))
    rw [List.foldl_cons]
    refine ⟨?_, i2.trans hperm⟩
    rw [i1, ev_swap hd h0.1 h0.2, List.length_cons]
    have e : decide ((ps.length + 1) % 2 = 1) = !decide (ps.length % 2 = 1) := by
      rcases Nat.mod_two_eq_zero_or_one ps.length with h | h
      · rw [decide_eq_false (by omega : ¬ ps.length % 2 = 1), decide_eq_true (by omega)]; rfl
      · rw [decide_eq_true h, decide_eq_false (by omega)]; rfl
    rw [e]
    cases evF true [] l <;> cases decide (ps.length % 2 = 1) <;> rfl
theorem timesL_set (a : List UInt8) (b : List UInt8) (i : Nat) (x : UInt8) : timesL a (b.set i x) = (timesL a b).set i (a.getD (x.toNat - 49) 0) := by
  unfold timesL; rw [List.map_set]
theorem timesL_swap (a : List UInt8) {b : List UInt8} {p : Nat} (h : p < b.length) : timesL a (swapAt b p) = swapAt (timesL a b) p := by
  have g : ∀ i, i < b.length → (timesL a b).getD i 0 = a.getD ((b.getD i 0).toNat - 49) 0 := fun i hi => by
    unfold timesL
    rw [List.getD_eq_getElem?_getD, List.getElem?_map, List.getElem?_eq_getElem hi, List.getD_eq_getElem?_getD, List.getD_eq_getElem?_getD, List.getElem?_eq_getElem hi]
    simp [List.getD_eq_getElem?_getD]
  unfold swapAt
  rw [timesL_set, timesL_set, g _ h, g _ (by omega)]
theorem timesL_fold (a : List UInt8) : ∀ (ps : List Nat) (b : List UInt8), (∀ p ∈ ps, p < b.length) → timesL a (ps.foldl swapAt b) = ps.foldl swapAt (timesL a b)
  | [], b, _ => rfl
  | p :: ps, b, h => by
    rw [List.foldl_cons, List.foldl_cons, timesL_fold a ps _ (fun q hq => by rw [swapAt_len]; exact h q (List.mem_cons_of_mem _ hq)), timesL_swap a (h p (List.mem_cons_self ..))]
theorem Inv.nodup {n : Nat} (hn : n ≤ 8) {a : ByteArray} (h : Inv n a) : a.data.toList.Nodup := by
  obtain ⟨ha, b, hb, _, h2⟩ := h
  have e : timesL b.data.toList a.data.toList = roundsL n := by
    have h3 : (timesB b a).data.toList = (roundsB n).data.toList := by rw [h2]
    rw [rounds_list hn] at h3
    rw [← h3]; unfold timesB; rw [ofL_list]
  rw [List.Nodup, List.pairwise_iff_getElem]
  intro i j hi hj hij hx
  have hl := ha.len
  have ei : (timesL b.data.toList a.data.toList)[i]? = (roundsL n)[i]? := by rw [e]
  have ej : (timesL b.data.toList a.data.toList)[j]? = (roundsL n)[j]? := by rw [e]
  unfold timesL at ei ej
  rw [List.getElem?_map, List.getElem?_eq_getElem hi, roundsL_get (by omega), Option.map_some] at ei
  rw [List.getElem?_map, List.getElem?_eq_getElem hj, roundsL_get (by omega), Option.map_some] at ej
  rw [hx] at ei
  have e2 := Option.some.inj (ei.symm.trans ej)
  have := congrArg UInt8.toNat e2
  rw [u8_49 (by omega), u8_49 (by omega)] at this
  omega
theorem ev_apply {n : Nat} (hn : n ≤ 8) {r : ByteArray} (hr : Inv n r) (c : ByteArray) : evenB (applyB r c) = (evenB r ^^ decide ((swapsW c.data.toList n 1).length % 2 = 1)) := by
  have hm := fun p hp => swapsW_mem (c := c.data.toList) (n := n) (n - 1) 1 (by omega) p hp
  have e : (applyB r c).data.toList = (swapsW c.data.toList n 1).foldl swapAt r.data.toList := by
    unfold applyB timesB chB
    rw [ofL_list, ofL_list, hr.1.1]
    unfold chL
    rw [timesL_fold _ _ _ (fun p hp => by rw [roundsL_len]; exact (hm p hp).2), timesL_rounds hn hr.1.len]
  unfold evenB
  rw [e]
  exact (ev_fold _ _ (hr.nodup hn) (fun p hp => by rw [hr.1.len]; exact hm p hp)).1
def swapCount (n : Nat) (cs : List ByteArray) : Nat := (cs.map fun c => (swapsW c.data.toList n 1).length).sum
theorem ev_run {n : Nat} (hn : n ≤ 8) : ∀ (cs : List ByteArray) {r : ByteArray}, Inv n r → evenB (runB r cs) = (evenB r ^^ decide (swapCount n cs % 2 = 1))
  | [], r, hr => by simp [runB, swapCount]
  | c :: cs, r, hr => by
    show evenB (runB (applyB r c) cs) = _
    rw [ev_run hn cs (apply_inv hn hr c), ev_apply hn hr]
    have e : swapCount n (c :: cs) = (swapsW c.data.toList n 1).length + swapCount n cs := by simp [swapCount]
    rw [e]
    generalize (swapsW c.data.toList n 1).length = x
    generalize swapCount n cs = y
    rcases Nat.mod_two_eq_zero_or_one x with h | h <;> rcases Nat.mod_two_eq_zero_or_one y with h' | h'
    · rw [decide_eq_false (by omega : ¬ x % 2 = 1), decide_eq_false (by omega : ¬ y % 2 = 1), decide_eq_false (by omega : ¬ (x + y) % 2 = 1)]; simp
    · rw [decide_eq_false (by omega : ¬ x % 2 = 1), decide_eq_true h', decide_eq_true (by omega : (x + y) % 2 = 1)]; simp
    · rw [decide_eq_true h, decide_eq_false (by omega : ¬ y % 2 = 1), decide_eq_true (by omega : (x + y) % 2 = 1)]; simp
    · rw [decide_eq_true h, decide_eq_true h', decide_eq_false (by omega : ¬ (x + y) % 2 = 1)]; simp
theorem ev_reverse {n : Nat} (hn : n ≤ 8) (cs : List ByteArray) : evenB (runB (roundsB n) cs.reverse) = evenB (runB (roundsB n) cs) := by
  rw [ev_run hn _ (Inv.rounds hn), ev_run hn _ (Inv.rounds hn)]
  have e : swapCount n cs.reverse = swapCount n cs := by
    unfold swapCount
    rw [List.map_reverse]
    exact (List.reverse_perm _).sum_nat
  rw [e]
end Go.Proofs.YtheppimoncokcaaGreat

/- Contracts: slices of strings (size, copy, sameness), lists of changes. -/
namespace Go.Proofs.YtheppimoncokcaaGreat
open Go Go.RowKit
set_option linter.unusedVariables false
set_option linter.unusedSimpArgs false

/-- No string of the list is too long for a machine. -/
def Fits (ss : List ByteArray) : Prop := ∀ s ∈ ss, s.size ≤ maxLen
/-- What the size's measure gives for a list that fits into it. -/
def Small (ss : List ByteArray) : Prop := ss.length ≤ 1048576 ∧ ∀ s ∈ ss, s.size ≤ 1048576
theorem Small.fits {ss : List ByteArray} (h : Small ss) : Fits ss := fun s hs => Nat.le_trans (h.2 s hs) (by unfold maxLen; omega)
theorem take_all {p : ByteArray → Prop} {ss : List ByteArray} {k : Nat} (hk : k < ss.length) (h : ∀ s ∈ ss.take k, p s) (h1 : p ss[k]) : ∀ s ∈ ss.take (k + 1), p s := by
  intro s hs
  rw [List.take_succ_eq_append_getElem hk] at hs
  rcases List.mem_append.1 hs with hs | hs
  · exact h s hs
  · rw [List.mem_singleton.1 hs]; exact h1
def chgs (n : Int) (ss : List ByteArray) : Bool := ss.all fun s => changeB n s.data.toList
theorem areChanges_any (n : Int) (v : Value) (ss : List ByteArray) (w : World) (h : Strs w v ss) (hf : Small ss) : Calls Tryz.prog 138 #[.int .i64 n, v] w fun e w' => e = .returned (.bool (decide (1 ≤ ss.length ∧ ss.length ≤ 40) && chgs n ss)) ∧ Below w.heap.size w w' := by
  obtain ⟨A, c, rfl, h1, h2, hr⟩ := h
  unfold maxLen at h2
  have Hf := Lib.hid hf.2
  have hf1 := hf.1
  clear hf
  by_cases hbig : 1 ≤ ss.length ∧ ss.length ≤ 40
  · have e1 := Lib.hid (decide_eq_true hbig)
    go_enter Tryz.func138, Tryz.ntmps138
    go_wp2_with fail
    go_loopw [17] (fun i wr => ∃ k : Nat, k ≤ ss.length ∧ i = .int .i64 k ∧ (ss.take k).all (fun s => changeB n s.data.toList) = true ∧ Below w.heap.size w wr) (fun i _ => ss.length - (intOf i).toNat)
    case atStart => exact ⟨0, by omega, rfl, by simp, Below.refl _ _⟩
    case round =>
      obtain ⟨k, hk, rfl, hs, hB⟩ := hrel
      have Hs := Lib.hid hs
      clear hs
      by_cases hlt : k < ss.length
      · obtain ⟨ad, rfl, hC⟩ := strs_el hr hlt
        have hsz := Hf.out _ (List.getElem_mem hlt)
        have H1 := Lib.hid (all_false (p := fun s => changeB n s.data.toList) hlt)
        have H2 := Lib.hid (all_step (p := fun s => changeB n s.data.toList) hlt Hs.out)
        obtain ⟨b, hb⟩ : ∃ b, b = changeB n ss[k].data.toList := ⟨_, rfl⟩
        rw [← hb] at H1 H2
        cases b
        all_goals
          have Hb := Lib.hid hb
          clear hb
        · go_wp2_with (go_at_call 120; refine (GoodChange_any _ _ _ hsz).mono ?_; rintro e w1 ⟨rfl, hb1⟩; rw [← Hb.out])
          go_ret
          exact ⟨ret_bool (by rw [e1.out]; exact (H1.out (by simp)).symm), bw_to hB hb1⟩
        · go_wp2_with (go_at_call 120; refine (GoodChange_any _ _ _ hsz).mono ?_; rintro e w1 ⟨rfl, hb1⟩; rw [← Hb.out])
          exact ⟨⟨k + 1, by omega, by go_num, H2.out (by simp), bw_to hB hb1⟩, by simp [intOf]; omega⟩
      · go_wp2_with fail
        go_ret
        obtain rfl : k = ss.length := by omega
        exact ⟨ret_bool (by rw [e1.out]; exact (all_true rfl Hs.out).symm), hB⟩
  · have e1 := Lib.hid (decide_eq_false hbig)
    go_enter Tryz.func138, Tryz.ntmps138
    go_wp2_with fail
    all_goals
      go_ret
      exact ⟨ret_bool (by first | rfl | (rw [e1.out]; rfl)), Below.refl _ _⟩
end Go.Proofs.YtheppimoncokcaaGreat

/- Contracts: methods, one and slices of them (goodness, size, copy, sameness). -/
namespace Go.Proofs.YtheppimoncokcaaGreat
open Go Go.RowKit
set_option linter.unusedVariables false
set_option linter.unusedSimpArgs false

/-- A method, its slice of changes left out of sight. -/
structure Mt where
  name : ByteArray
  stage : Int
  l : List ByteArray
def methB (m : Mt) : Bool := wordB m.name.data.toList && (decide (3 ≤ m.stage ∧ m.stage ≤ 8) && (decide (1 ≤ m.l.length ∧ m.l.length ≤ 40) && chgs m.stage m.l))
/-- In w the value v is the slice of m's changes, and no string is too long. -/
def MethAt (w : World) (m : Mt) (v : Value) : Prop := Strs w v m.l ∧ m.name.size ≤ maxLen ∧ Fits m.l
theorem MethAt.to {w w' : World} {m : Mt} {v : Value} (h : MethAt w m v) (hb : Below w.heap.size w w') : MethAt w' m v := ⟨h.1.to hb, h.2⟩
def MtSmall (m : Mt) : Prop := m.name.size ≤ 1048576 ∧ Small m.l
def Mt.v (m : Mt) (v : Value) : Value := .agg #[.string m.name, .int .i64 m.stage, v]
def mcells (p : Mt × Value) : List Value := [.string p.1.name, .int .i64 p.1.stage, p.2]
def Meths (w : World) (v : Value) (ms : List Mt) : Prop := ∃ vs : List Value, vs.length = ms.length ∧ Sl w 3 v ms.length ((ms.zip vs).flatMap mcells) ∧ ∀ p ∈ ms.zip vs, MethAt w p.1 p.2
theorem Meths.to {w w' : World} {v : Value} {ms : List Mt} (h : Meths w v ms) (hb : Below w.heap.size w w') : Meths w' v ms :=
  let ⟨vs, h1, h2, h3⟩ := h; ⟨vs, h1, h2.to hb, fun p hp => (h3 p hp).to hb⟩
theorem meths_el {w : World} {B : Nat} {A : Option Addr} {ms : List Mt} {vs : List Value} {n : Nat} (hl : vs.length = ms.length) (hr : Reads w B 3 A n ((ms.zip vs).flatMap mcells)) (hn : n = ms.length) {k : Nat} (hk : k < ms.length) :
    ∃ ad v, A = some ad ∧ (ms[k], v) ∈ ms.zip vs ∧ ∀ w', Below B w w' → w'.cell? (ad.add (k * 3)) = some (.string ms[k].name) ∧ w'.cell? ⟨(ad.add (k * 3)).block, (ad.add (k * 3)).off + 1, none⟩ = some (.int .i64 ms[k].stage) ∧
      w'.cell? ⟨(ad.add (k * 3)).block, (ad.add (k * 3)).off + 2, none⟩ = some v := by
  subst hn
  have hz : (ms.zip vs).length = ms.length := by simp [hl]
  have hk' : k < (ms.zip vs).length := by omega
  have hkv : k < vs.length := by omega
  rw [← hz] at hr
  obtain ⟨ad, e, h⟩ := hr.el (fun _ _ => rfl) hk'
  refine ⟨ad, vs[k], e, ?_, fun w' hb => ⟨?_, ?_, ?_⟩⟩
  · have := List.getElem_mem hk'
    rwa [List.getElem_zip] at this
  · have := h w' hb 0 (.string ms[k].name) (by omega) (by rw [List.getElem_zip]; rfl); rwa [add_zero'] at this
  · exact h w' hb 1 (.int .i64 ms[k].stage) (by omega) (by rw [List.getElem_zip]; rfl)
  · exact h w' hb 2 vs[k] (by omega) (by rw [List.getElem_zip]; rfl)
theorem meth_stage (m : Mt) : (decide (1 ≤ m.l.length ∧ m.l.length ≤ 40) && chgs m.stage m.l) = (decide (3 ≤ m.stage ∧ m.stage ≤ 8) && (decide (1 ≤ m.l.length ∧ m.l.length ≤ 40) && chgs m.stage m.l)) := by
  by_cases h : 3 ≤ m.stage ∧ m.stage ≤ 8
  · rw [decide_eq_true h]; rfl
  · rw [decide_eq_false h]
    cases e : m.l with
    | nil => rfl
    | cons s t => simp [chgs, changeB_no1 h]
set_option maxHeartbeats 1000000 in
theorem implGoodMethod_any (m : Mt) (v : Value) (w : World) (h : MethAt w m v) (hs : MtSmall m) : Calls Tryz.prog 119 #[m.v v] w fun e w' => e = .returned (.bool (methB m)) ∧ Below w.heap.size w w' := by
  unfold Mt.v
  have hr := h.1
  have h2 := h.2.1
  have hsm := hs.2
  have Hs := Lib.hid (meth_stage m)
  clear h hs
  go_enter Tryz.func119, Tryz.ntmps119
  go_wp2_with fail
  refine box1 (C := fun W => Calls _ _ _ W _) ?_
  intro wb hw k1 hB0
  have R1 := boxRule k1
  clear k1
  have hr1 := hr.to hw
  refine (isWord_any _ _ h2).mono ?_; rintro e w1 ⟨rfl, rfl⟩
  go_wp2_with (go_at_call 138; refine (areChanges_any _ _ _ _ hr1 hsm).mono ?_; rintro e w1 ⟨rfl, hb1⟩)
  · go_ret
    exact ⟨ret_bool (by unfold methB; rw [← Hs.out]; simp [*]), bw_to hw hb1⟩
  · go_ret
    exact ⟨ret_bool (by unfold methB; simp [*]), hw⟩
set_option maxHeartbeats 1000000 in
theorem l4Good_any (m : Mt) (v : Value) (w : World) (h : MethAt w m v) (hs : MtSmall m) : Calls Tryz.prog 166 #[m.v v] w fun e w' => e = .returned (.bool (methB m)) ∧ Below w.heap.size w w' := by
  unfold Mt.v
  have hr := h.1
  have h2 := h.2.1
  have Hf := Lib.hid hs.2.2
  have hf1 := hs.2.1
  clear h hs
  obtain ⟨A, c, rfl, h1, h3, hr⟩ := hr
  unfold maxLen at h3
  go_enter Tryz.func166, Tryz.ntmps166
  go_wp2_with fail
  refine box1 (C := fun W => Code.wp _ _ _ _ W) ?_
  intro wb hw k1 hB0
  have R1 := boxRule k1
  clear k1
  have hr1 := hr.to hw
  clear hr
  go_loopw [8] (fun i wr => ∃ k : Nat, k ≤ m.l.length ∧ i = .int .i64 k ∧ (m.l.take k).all (fun s => changeB m.stage s.data.toList) = true ∧ Below wb.heap.size wb wr) (fun i _ => m.l.length - (intOf i).toNat)
  case atStart => exact ⟨0, by omega, rfl, by simp, hB0⟩
  case round =>
    obtain ⟨k, hk, rfl, hs, hB⟩ := hrel
    have Hs := Lib.hid hs
    clear hs
    by_cases hlt : k < m.l.length
    · obtain ⟨ad, rfl, hC⟩ := strs_el hr1 hlt
      have hsz : (m.l[k]).size ≤ maxLen := Nat.le_trans (Hf.out _ (List.getElem_mem hlt)) (by unfold maxLen; omega)
      have H1 := Lib.hid (all_false (p := fun s => changeB m.stage s.data.toList) hlt)
      have H2 := Lib.hid (all_step (p := fun s => changeB m.stage s.data.toList) hlt Hs.out)
      obtain ⟨b, hb⟩ : ∃ b, b = changeB m.stage m.l[k].data.toList := ⟨_, rfl⟩
      rw [← hb] at H1 H2
      cases b
      all_goals
        have Hb := Lib.hid hb
        clear hb
      · go_wp2_with (go_at_call 153; refine (l2Change_any _ _ _ hsz).mono ?_; rintro e w1 ⟨rfl, rfl⟩; rw [← Hb.out])
        go_ret
        exact ⟨ret_bool (by have := H1.out (by simp); unfold methB chgs; rw [this]; simp), bw_to hw hB⟩
      · go_wp2_with (go_at_call 153; refine (l2Change_any _ _ _ hsz).mono ?_; rintro e w1 ⟨rfl, rfl⟩; rw [← Hb.out])
        exact ⟨⟨k + 1, by omega, by go_num, H2.out (by simp), hB⟩, by simp [intOf]; omega⟩
    · have Ha : chgs m.stage m.l = true := all_true (by omega) Hs.out
      have HA := Lib.hid Ha
      clear Ha
      go_wp2_with (first | (go_at_call 174; refine (l4Name_any _ _ h2).mono ?_; rintro e w1 ⟨rfl, rfl⟩) | (go_at_call 154; refine (l1In_any _ _ _ _).mono ?_; rintro e w1 ⟨rfl, rfl⟩))
      all_goals
        go_ret
        exact ⟨ret_bool (by unfold methB; rw [HA.out]; rw [Bool.eq_iff_iff]; simp [*]; try omega), bw_to hw hB⟩
end Go.Proofs.YtheppimoncokcaaGreat
