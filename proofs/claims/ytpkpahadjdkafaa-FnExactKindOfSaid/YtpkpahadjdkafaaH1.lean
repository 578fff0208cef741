/- Contracts: marks (the text m followed by a number's digits). -/
import Derived.Test.YtpkpahadjdkafaaM2
import Derived.Laws.IdiomStrings
namespace Go.Proofs.Ytpkpahadjdkafaa
open Go Go.RowKit
set_option linter.unusedVariables false
set_option linter.unusedSimpArgs false

def digit (n : Nat) : ByteArray := ⟨#[UInt8.ofNat (48 + n % 10)]⟩
def mGo : Nat → Nat → ByteArray → ByteArray
  | 0, _, t => t
  | f + 1, n, t => if n = 0 then t else mGo f (n / 10) (digit n ++ t)
/-- The text of mark k. -/
def mText (k : Nat) : ByteArray := (⟨#[109]⟩ : ByteArray) ++ (if k = 0 then (⟨#[48]⟩ : ByteArray) else mGo 20 k ⟨#[]⟩)
theorem mGo_zero (f : Nat) (t : ByteArray) : mGo f 0 t = t := by cases f <;> rfl
theorem mGo_step {f n : Nat} (h : 0 < n) (t : ByteArray) : mGo (f + 1) n t = mGo f (n / 10) (digit n ++ t) := by rw [mGo, if_neg (by omega)]
theorem digit_size (n : Nat) : (digit n).size = 1 := rfl
theorem one_byte {P : Program} {src dst e : TypeId} (hs : P.underlying src = some (.slice e)) (he : P.underlying e = some (.int .u8)) (hd : P.underlying dst = some .string) (W : World) (n : Nat) :
    (convert src dst (.slice (some ⟨W.heap.size, 0, none⟩) 1 1)).run P (W.alloc (.cells #[.int .u8 (48 + (n : Int) % 10)] e)) = .ok (.string (digit n)) (W.alloc (.cells #[.int .u8 (48 + (n : Int) % 10)] e)) := by
  refine run_convert_bytes_back _ src dst e ⟨W.heap.size, 0, none⟩ 1 [UInt8.ofNat (48 + n % 10)] hs he hd (fun j hj => ?_)
  have : j = 0 := by simpa using hj
  subst this
  rw [Addr.add_lit, heap_cell (heap_new W _)]
  simp
  omega

/-- 'only the row g, and what is new, has turned'. -/
theorem gr_refl (w : World) (row : Option Nat) : w.grownBy w row := World.grownBy.refl w row
theorem gr_below {a w w1 : World} {row : Option Nat} (h : a.grownBy w row) (hb : Below w.heap.size w w1) : a.grownBy w1 row :=
  ⟨hb.os.trans h.os, hb.tape.trans h.tape, hb.output.trans h.output, Nat.le_trans h.size hb.size, fun k hk hn => (hb.block k (Nat.lt_of_lt_of_le hk h.size)).trans (h.block k hk hn)⟩
theorem gr_set {a w : World} {g j : Nat} (h : a.grownBy w (some g)) (u : Value) : a.grownBy (w.setCell ⟨g, j, none⟩ u) (some g) :=
  ⟨h.os, h.tape, h.output, by simpa [World.setCell] using h.size, fun i hi hne => (Below.heap_setCell w ⟨g, j, none⟩ u i (by rintro rfl; exact hne rfl)).trans (h.block i hi hne)⟩
/-- Two rows that the call made one after the other lie apart. -/
theorem own_apart {w1 w2 : World} {b1 b2 : Nat} {e1 e2 : TypeId} {s1 s2 n1 n2 : Nat} {v1 v2 : Value} {x1 x2 : List Value} (h1 : w1.ownsRow b1 e1 s1 v1 n1 x1) (h2 : w2.ownsRow b2 e2 s2 v2 n2 x2) (hb : w1.heap.size ≤ b2) :
    v2.ownBlock = none ∨ v2.ownBlock ≠ v1.ownBlock := by
  cases hv : v2.ownBlock with
  | none => exact .inl rfl
  | some k =>
    refine .inr fun h => ?_
    have := (h2.lt k hv).1
    have := (h1.lt k h.symm).2
    omega
theorem own_apart' {w1 w2 : World} {b1 b2 : Nat} {e1 e2 : TypeId} {s1 s2 n1 n2 : Nat} {v1 v2 : Value} {x1 x2 : List Value} (h1 : w1.ownsRow b1 e1 s1 v1 n1 x1) (h2 : w2.ownsRow b2 e2 s2 v2 n2 x2) (hb : w1.heap.size ≤ b2) :
    v1.ownBlock = none ∨ v1.ownBlock ≠ v2.ownBlock := by
  rcases own_apart h1 h2 hb with h | h
  · cases hv : v1.ownBlock with
    | none => exact .inl rfl
    | some k => rw [h]; exact .inr (by simp)
  · exact .inr fun e => h e.symm
/-- A write into a row of the call's own leaves all that lay below as it was. -/
theorem bw_row {a w w1 : World} {base : Nat} {e : TypeId} {s n : Nat} {v : Value} {x : List Value} (h : Below a.heap.size a w) {w0 : World} (ho : w0.ownsRow base e s v n x) (hb : a.heap.size ≤ base) (hg : w.grownBy w1 v.ownBlock) : Below a.heap.size a w1 :=
  h.grown hg h.size (fun k hk => Nat.le_trans hb (ho.lt k hk).1)
def marksI (k n : Nat) : List Int := (List.range n).map fun i => ((k + i : Nat) : Int)
theorem marksI_length (k n : Nat) : (marksI k n).length = n := by simp [marksI]
theorem marksI_get {k n i : Nat} (h : i < (marksI k n).length) : (marksI k n)[i] = ((k + i : Nat) : Int) := by simp [marksI]
theorem marksI_succ (k n : Nat) : marksI k (n + 1) = marksI k n ++ [((k + n : Nat) : Int)] := by simp [marksI, List.range_succ]
end Go.Proofs.Ytpkpahadjdkafaa
