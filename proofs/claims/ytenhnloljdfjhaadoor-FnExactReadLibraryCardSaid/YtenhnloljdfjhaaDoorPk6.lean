/- Contracts: marks (the text m followed by a number's digits). -/
import Derived.Test.YtenhnloljdfjhaaDoorPk3
import Derived.Laws.IdiomStrings
import Derived.Test.YtenhnloljdfjhaaDoorPk5
namespace Go.Proofs.YtenhnloljdfjhaaDoor
open Go Go.RowKit
set_option linter.unusedVariables false
set_option linter.unusedSimpArgs false

def digit (n : Nat) : ByteArray := ⟨#[UInt8.ofNat (48 + n % 10)]⟩
def mGo : Nat → Nat → ByteArray → ByteArray
  | 0, _, t => t
  | f + 1, n, t => if n = 0 then t else mGo f (n / 10) (digit n ++ t)
/-- The text of mark k. -/
def mText (k : Nat) : ByteArray := (⟨#[109]⟩ : ByteArray) ++ (if k = 0 then (⟨#[48]⟩ : ByteArray) else mGo 20 k ⟨#[]⟩)
theorem mGo_zero (f : Nat) (t : ByteArray) : mGo f 0 t = t := by cases f <;> rfl
theorem mGo_step {f n : Nat} (h : 0 < n) (t : ByteArray) : mGo (f + 1) n t = mGo f (n / 10) (digit n ++ t) := by rw [mGo, if_neg (by omega)]
theorem digit_size (n : Nat) : (digit n).size = 1 := rfl
theorem one_byte {P : Program} {src dst e : TypeId} (hs : P.underlying src = some (.slice e)) (he : P.underlying e = some (.int .u8)) (hd : P.underlying dst = some .string) (W : World) (n : Nat) :
    (convert src dst (.slice (some ⟨W.heap.size, 0, none⟩) 1 1)).run P (W.alloc (.cells #[.int .u8 (48 + (n : Int) % 10)] e)) = .ok (.string (digit n)) (W.alloc (.cells #[.int .u8 (48 + (n : Int) % 10)] e)) := by
  refine run_convert_bytes_back _ src dst e ⟨W.heap.size, 0, none⟩ 1 [UInt8.ofNat (48 + n % 10)] hs he hd (fun j hj => ?_)
  have : j = 0 := by simpa using hj
  subst this
  rw [Addr.add_lit, heap_cell (heap_new W _)]
  simp
  omega

/-- 'only the row g, and what is new, has turned'. -/
theorem gr_refl (w : World) (row : Option Nat) : w.grownBy w row := World.grownBy.refl w row
theorem gr_below {a w w1 : World} {row : Option Nat} (h : a.grownBy w row) (hb : Below w.heap.size w w1) : a.grownBy w1 row :=
  ⟨hb.os.trans h.os, hb.tape.trans h.tape, hb.output.trans h.output, Nat.le_trans h.size hb.size, fun k hk hn => (hb.block k (Nat.lt_of_lt_of_le hk h.size)).trans (h.block k hk hn)⟩
theorem gr_set {a w : World} {g j : Nat} (h : a.grownBy w (some g)) (u : Value) : a.grownBy (w.setCell ⟨g, j, none⟩ u) (some g) :=
  ⟨h.os, h.tape, h.output, by simpa [World.setCell] using h.size, fun i hi hne => (Below.heap_setCell w ⟨g, j, none⟩ u i (by rintro rfl; exact hne rfl)).trans (h.block i hi hne)⟩
set_option maxHeartbeats 1000000 in
theorem markText_any (k : Nat) (w : World) (hk : k ≤ 1000000000000000) : Calls Tryd.prog 21 #[.int .i64 k] w fun e w' => e = .returned (.string (mText k)) ∧ Below w.heap.size w w' := by
  by_cases h0 : k = 0
  · subst h0
    go_enter Tryd.func21, Tryd.ntmps21
    go_wp2_with fail
    go_ret
    exact ⟨rfl, Below.refl _ _⟩
  · have hk1 : ¬ (k : Int) ≤ 0 := by omega
    have H0 := Lib.hid h0
    clear h0
    go_enter Tryd.func21, Tryd.ntmps21
    go_wp2_with fail
    go_loopw [0, 3] (fun q s wr => ∃ f n : Nat, ∃ t : ByteArray, q = .int .i64 n ∧ n ≤ 1000000000000000 ∧ s = .string t ∧ mGo f n t = mGo 20 k ⟨#[]⟩ ∧ n < 10 ^ f ∧ f + t.size = 20 ∧ Below w.heap.size w wr) (fun q _ _ => (intOf q).toNat)
    case atStart => exact ⟨20, k, ⟨#[]⟩, rfl, hk, rfl, rfl, by omega, rfl, Below.refl _ _⟩
    case round =>
      obtain ⟨f, n, t, rfl, hn, rfl, hgo, hf, hsz, hB⟩ := hrel
      have Hgo := Lib.hid hgo
      have Hf := Lib.hid hf
      have Hsz := Lib.hid hsz
      have hts : t.size ≤ 20 := by omega
      clear hgo hf hsz
      by_cases hlt : 0 < n
      · have hcv := one_byte (n := n) Tryd.underlying61 Tryd.underlying5 Tryd.underlying9
        have hds := digit_size n
        go_wp2_with fail
        have hfp : f ≠ 0 := by rintro rfl; have := Hf.out; omega
        obtain ⟨f', rfl⟩ : ∃ f', f = f' + 1 := ⟨f - 1, by omega⟩
        have hf' := Hf.out
        rw [Nat.pow_succ] at hf'
        refine ⟨⟨f', n / 10, digit n ++ t, congrArg (Value.int .i64) (by omega), by omega, rfl, by rw [← mGo_step hlt]; exact Hgo.out, Nat.div_lt_of_lt_mul (by omega), ?_, bw_al hB _⟩, by simp [intOf]; omega⟩
        have := Hsz.out
        rw [ByteArray.size_append, digit_size]
        omega
      · obtain rfl : n = 0 := by omega
        go_wp2_with fail
        go_ret
        refine ⟨congrArg (fun s => Ending.returned (Value.string s)) ?_, hB⟩
        have := Hgo.out
        rw [mGo_zero] at this
        unfold mText
        rw [if_neg H0.out, ← this]
/-- Two rows that the call made one after the other lie apart. -/
theorem own_apart {w1 w2 : World} {b1 b2 : Nat} {e1 e2 : TypeId} {s1 s2 n1 n2 : Nat} {v1 v2 : Value} {x1 x2 : List Value} (h1 : w1.ownsRow b1 e1 s1 v1 n1 x1) (h2 : w2.ownsRow b2 e2 s2 v2 n2 x2) (hb : w1.heap.size ≤ b2) :
    v2.ownBlock = none ∨ v2.ownBlock ≠ v1.ownBlock := by
  cases hv : v2.ownBlock with
  | none => exact .inl rfl
  | some k =>
    refine .inr fun h => ?_
    have := (h2.lt k hv).1
    have := (h1.lt k h.symm).2
    omega
theorem own_apart' {w1 w2 : World} {b1 b2 : Nat} {e1 e2 : TypeId} {s1 s2 n1 n2 : Nat} {v1 v2 : Value} {x1 x2 : List Value} (h1 : w1.ownsRow b1 e1 s1 v1 n1 x1) (h2 : w2.ownsRow b2 e2 s2 v2 n2 x2) (hb : w1.heap.size ≤ b2) :
    v1.ownBlock = none ∨ v1.ownBlock ≠ v2.ownBlock := by
  rcases own_apart h1 h2 hb with h | h
  · cases hv : v1.ownBlock with
    | none => exact .inl rfl
    | some k => rw [h]; exact .inr (by simp)
  · exact .inr fun e => h e.symm
/-- A write into a row of the call's own leaves all that lay below as it was. -/
theorem bw_row {a w w1 : World} {base : Nat} {e : TypeId} {s n : Nat} {v : Value} {x : List Value} (h : Below a.heap.size a w) {w0 : World} (ho : w0.ownsRow base e s v n x) (hb : a.heap.size ≤ base) (hg : w.grownBy w1 v.ownBlock) : Below a.heap.size a w1 :=
  h.grown hg h.size (fun k hk => Nat.le_trans hb (ho.lt k hk).1)
def marksI (k n : Nat) : List Int := (List.range n).map fun i => ((k + i : Nat) : Int)
theorem marksI_length (k n : Nat) : (marksI k n).length = n := by simp [marksI]
theorem marksI_get {k n i : Nat} (h : i < (marksI k n).length) : (marksI k n)[i] = ((k + i : Nat) : Int) := by simp [marksI]
theorem marksI_succ (k n : Nat) : marksI k (n + 1) = marksI k n ++ [((k + n : Nat) : Int)] := by simp [marksI, List.range_succ]
end Go.Proofs.YtenhnloljdfjhaaDoor

/- Contracts: slices of methods (size, copy, sameness). -/
namespace Go.Proofs.YtenhnloljdfjhaaDoor
open Go Go.RowKit
set_option linter.unusedVariables false
set_option linter.unusedSimpArgs false

def AllSmall (ms : List Mt) : Prop := ms.length ≤ 1048576 ∧ ∀ m ∈ ms, MtSmall m
theorem take_allM {p : Mt → Prop} {ss : List Mt} {k : Nat} (hk : k < ss.length) (h : ∀ s ∈ ss.take k, p s) (h1 : p ss[k]) : ∀ s ∈ ss.take (k + 1), p s := by
  intro s hs
  rw [List.take_succ_eq_append_getElem hk] at hs
  rcases List.mem_append.1 hs with hs | hs
  · exact h s hs
  · rw [List.mem_singleton.1 hs]; exact h1
theorem frozen_of_heap {w w' : World} {g : Nat} {cs : Array Value} {t : TypeId} (h : w.heap[g]? = some (.cells cs t (0, 0))) (j : Nat) (hb : Below w.heap.size w w') : w'.frozen? ⟨g, j, none⟩ = false := by
  have hg : g < w.heap.size := by
    rcases Nat.lt_or_ge g w.heap.size with hlt | hge
    · exact hlt
    · rw [Array.getElem?_eq_none hge] at h; cases h
  rw [hb.frozen (p := ⟨g, j, none⟩) hg]
  simp [World.frozen?, h]
/-- A write below a row's base leaves the row. -/
theorem own_past {w : World} {base g : Nat} {e : TypeId} {size n : Nat} {v : Value} {xs : List Value} (h : w.ownsRow base e size v n xs) (hg : g < base) (j : Nat) (u : Value) : (w.setCell ⟨g, j, none⟩ u).ownsRow base e size v n xs :=
  h.kept (row := some g) (gr_set (gr_refl w (some g)) u) (by
    cases hv : v.ownBlock with
    | none => exact .inl rfl
    | some k => exact .inr (fun e => by cases e; have := (h.lt g hv).1; omega))
theorem box3s {C : World → Prop} {w : World} {o1 o2 o3 : Obj} (h : ∀ wb, Below w.heap.size w wb → wb.heap.size = w.heap.size + 3 → wb.heap[w.heap.size]? = some o1 → wb.heap[w.heap.size + 1]? = some o2 → wb.heap[w.heap.size + 2]? = some o3 → Below wb.heap.size wb wb → C wb) : C (((w.alloc o1).alloc o2).alloc o3) :=
  box3 (C := fun W => W.heap.size = w.heap.size + 3 → C W) (fun wb a b c d e f => h wb a f b c d e) (by simp)
theorem own3 {w : World} {base : Nat} {e : TypeId} {n g cap k : Nat} {xs : List Value} (h : w.ownsRow base e 3 (.slice (some ⟨g, 0, none⟩) n cap) n xs) (hk : k < n) :
    (∃ y0 y1 y2, w.cell? ⟨g, k * 3, none⟩ = some y0 ∧ w.cell? ⟨g, k * 3 + 1, none⟩ = some y1 ∧ w.cell? ⟨g, k * 3 + 2, none⟩ = some y2) ∧
    (w.frozen? ⟨g, k * 3, none⟩ = false ∧ w.frozen? ⟨g, k * 3 + 1, none⟩ = false ∧ w.frozen? ⟨g, k * 3 + 2, none⟩ = false) := by
  obtain ⟨y0, e0⟩ := own_some h (j := k * 3) (by omega)
  obtain ⟨y1, e1⟩ := own_some h (j := k * 3 + 1) (by omega)
  obtain ⟨y2, e2⟩ := own_some h (j := k * 3 + 2) (by omega)
  exact ⟨⟨y0, y1, y2, e0, e1, e2⟩, h.frozenAt _, h.frozenAt _, h.frozenAt _⟩
theorem take_set3 {cs ds : List Value} {k n : Nat} {v0 v1 v2 : Value} (hl : cs.length = n * 3) (hk : k < n) (h : cs.take (k * 3) = ds) :
    (((cs.set (k * 3) v0).set (k * 3 + 1) v1).set (k * 3 + 2) v2).take ((k + 1) * 3) = ds ++ [v0, v1, v2] := by
  rw [show (k + 1) * 3 = k * 3 + 2 + 1 from by omega, take_set_last (by simp; omega), take_set_last (by simp; omega), take_set_last (by omega), h]
  simp
theorem zip_snoc {ms : List Mt} {vs : List Value} {k : Nat} (hk : k < ms.length) (hv : vs.length = k) (v : Value) : (ms.take (k + 1)).zip (vs ++ [v]) = (ms.take k).zip vs ++ [(ms[k], v)] := by
  rw [List.take_succ_eq_append_getElem hk, List.zip_append (by simp; omega)]
  rfl
/-- A row of methods of the call's own, each with a slice of its own. -/
def OwnMeths (w : World) (base : Nat) (v : Value) (ms : List Mt) : Prop := ∃ vs : List Value, vs.length = ms.length ∧ w.ownsRow base 34 3 v ms.length ((ms.zip vs).flatMap mcells) ∧ ∀ p ∈ ms.zip vs, w.ownsRow base 9 1 p.2 p.1.l.length (p.1.l.map Value.string)
theorem OwnMeths.meths {w : World} {base : Nat} {v : Value} {ms : List Mt} (h : OwnMeths w base v ms) (hs : AllSmall ms) : Meths w v ms := by
  obtain ⟨vs, h1, h2, h3⟩ := h
  refine ⟨vs, h1, sl_of_own h2, fun p hp => ⟨strs_of_own (h3 p hp), ?_, ?_⟩⟩
  · exact Nat.le_trans (hs.2 p.1 (List.of_mem_zip hp).1).1 (by unfold maxLen; omega)
  · exact (hs.2 p.1 (List.of_mem_zip hp).1).2.fits
theorem OwnMeths.to {w w' : World} {base : Nat} {v : Value} {ms : List Mt} (h : OwnMeths w base v ms) (hb : Below w.heap.size w w') : OwnMeths w' base v ms :=
  let ⟨vs, h1, h2, h3⟩ := h; ⟨vs, h1, own_to h2 hb, fun p hp => own_to (h3 p hp) hb⟩
theorem info_meth : (Tryd.prog.info? 34).map (fun i => (i.zero, i.size, i.bytes)) = some (some (.agg #[.string ⟨#[]⟩, .int .i64 0, .slice none 0 0]), 3, 48) := by kernel_rfl
set_option maxHeartbeats 1000000 in
theorem eqMethod_same (m : Mt) (v v' : Value) (w : World) (h : Strs w v m.l) (h' : Strs w v' m.l) : Calls Tryd.prog 20 #[m.v v, m.v v'] w fun e w' => e = .returned (.bool true) ∧ Below w.heap.size w w' := by
  unfold Mt.v
  go_enter Tryd.func20, Tryd.ntmps20
  go_wp2_with fail
  refine box2 (C := fun W => Calls _ _ _ W _) ?_
  intro wb hw k1 k2 hB0
  refine (eqStringS_same _ _ _ _ (h.to hw) (h'.to hw)).mono ?_; rintro e w1 ⟨rfl, hb1⟩
  go_wp2_with fail
  go_ret
  exact ⟨rfl, bw_to hw hb1⟩
set_option maxHeartbeats 1000000 in
theorem eqMethodS_same (a b : Value) (ms : List Mt) (w : World) (ha : Meths w a ms) (hb : Meths w b ms) : Calls Tryd.prog 6 #[a, b] w fun e w' => e = .returned (.bool true) ∧ Below w.heap.size w w' := by
  obtain ⟨vs, hvl, ⟨A, c, rfl, h1, h2, hr⟩, hat⟩ := ha
  obtain ⟨vs', hvl', ⟨A', c', rfl, h1', h2', hr'⟩, hat'⟩ := hb
  unfold maxLen at h2 h2'
  have Hat := Lib.hid hat
  have Hat' := Lib.hid hat'
  clear hat hat'
  go_enter Tryd.func6, Tryd.ntmps6
  go_wp2_with fail
  go_loopw [5] (fun i wr => ∃ k : Nat, k ≤ ms.length ∧ i = .int .i64 k ∧ Below w.heap.size w wr) (fun i _ => ms.length - (intOf i).toNat)
  case atStart => exact ⟨0, by omega, rfl, Below.refl _ _⟩
  case round =>
    obtain ⟨k, hk, rfl, hB⟩ := hrel
    by_cases hlt : k < ms.length
    · obtain ⟨ad, v, rfl, hmem, hC⟩ := meths_el hvl hr rfl hlt
      obtain ⟨ad', v', rfl, hmem', hC'⟩ := meths_el hvl' hr' rfl hlt
      have hm := (Hat.out _ hmem).1
      have hm' := (Hat'.out _ hmem').1
      go_wp2_with fail
      go_region_held3 (fun w' => Below w.heap.size w w') (first | exact Below.drew (by assumption) | exact bw_to (by assumption) hb')
        (first | (go_at_call 20; refine (eqMethod_same ms[k] _ _ _ (hm.to (by assumption)) (hm'.to (by assumption))).mono ?_; rintro e w' ⟨rfl, hb'⟩))
      go_wp2_with fail
      exact ⟨⟨k + 1, by omega, by go_num, by assumption⟩, by simp [intOf]; omega⟩
    · go_wp2_with fail
      go_ret
      exact ⟨rfl, hB⟩
end Go.Proofs.YtenhnloljdfjhaaDoor
