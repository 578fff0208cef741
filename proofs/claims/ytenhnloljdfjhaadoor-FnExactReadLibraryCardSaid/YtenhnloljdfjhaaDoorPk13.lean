/- Contracts: notes, calls, touches. -/
import Derived.Test.YtenhnloljdfjhaaDoorPk3
import Derived.Test.YtenhnloljdfjhaaDoorPk12
import Derived.Laws.IdiomStrings
import Derived.Test.YtenhnloljdfjhaaDoorPk10
namespace Go.Proofs.YtenhnloljdfjhaaDoor
open Go Go.RowKit
set_option linter.unusedVariables false
set_option linter.unusedSimpArgs false

def noteC (c : UInt8) : Bool := decide (97 ≤ (c.toNat : Int) ∧ (c.toNat : Int) ≤ 122) || decide (48 ≤ (c.toNat : Int) ∧ (c.toNat : Int) ≤ 57) || decide ((c.toNat : Int) = 46) || decide ((c.toNat : Int) = 45)
def noteB (l : List UInt8) : Bool := l.all noteC && decide (l.length ≤ 20)
theorem noteC_t {c : UInt8} (h : noteC c = true) : (97 ≤ (c.toNat : Int) ∧ (c.toNat : Int) ≤ 122) ∨ (48 ≤ (c.toNat : Int) ∧ (c.toNat : Int) ≤ 57) ∨ (c.toNat : Int) = 46 ∨ (c.toNat : Int) = 45 := by
  unfold noteC at h; simpa only [Bool.or_eq_true, decide_eq_true_eq, or_assoc] using h
theorem noteC_f {c : UInt8} (h : noteC c = false) : ¬ ((97 ≤ (c.toNat : Int) ∧ (c.toNat : Int) ≤ 122) ∨ (48 ≤ (c.toNat : Int) ∧ (c.toNat : Int) ≤ 57) ∨ (c.toNat : Int) = 46 ∨ (c.toNat : Int) = 45) := by
  intro k
  have : noteC c = true := by unfold noteC; simpa only [Bool.or_eq_true, decide_eq_true_eq, or_assoc] using k
  rw [h] at this; cases this
theorem note_no {l : List UInt8} {k : Nat} (hk : k < l.length) (h : noteC l[k] = false) : noteB l = false := by unfold noteB; rw [all_false hk h]; rfl
theorem note_end {s : ByteArray} {k : Nat} (hk : k ≤ s.size) (hn : ¬ k < s.size) (h : (s.data.toList.take k).all noteC = true) : decide ((s.size : Int) ≤ 20) = noteB s.data.toList := by
  unfold noteB
  rw [all_true (by simp; omega) h, bytes_len]
  simp only [Bool.true_and]
  congr 1
  apply propext
  omega
def callC (c : UInt8) : Bool := decide ((c.toNat : Int) = 112) || decide ((c.toNat : Int) = 98) || decide ((c.toNat : Int) = 115)
def callS (s : ByteArray) : Bool := (s.toList == [112]) || (s.toList == [98]) || (s.toList == [115])
def touchB (l : List UInt8) : Bool := l.all callC && decide (1 ≤ l.length ∧ l.length ≤ 60)
theorem ext_list (s : ByteArray) (i j : Nat) : (s.extract i j).data.toList = (s.data.toList.drop i).take (j - i) := by
  simp [ByteArray.data_extract, Array.toList_extract, List.extract_eq_take_drop, List.drop_take]
theorem ext_one {s : ByteArray} {k : Nat} (h : k < s.size) : (s.extract k (k + 1)).toList = [s[k]] := by
  rw [ByteArray.toList_eq, ext_list, Nat.add_sub_cancel_left, List.drop_eq_getElem_cons (by simpa using h)]
  rfl
theorem nat_u8 (c d : UInt8) : ([c] == [d]) = decide ((c.toNat : Int) = (d.toNat : Int)) := by
  rw [Bool.eq_iff_iff, decide_eq_true_eq, beq_iff_eq]
  constructor
  · intro h
    rw [(List.cons.inj h).1]
  · intro h
    have e : c = d := UInt8.toNat_inj.1 (by omega)
    rw [e]
theorem callS_def (s : ByteArray) : callS s = ((s.toList == [112]) || (s.toList == [98]) || (s.toList == [115])) := rfl
theorem callS_one {s : ByteArray} {k : Nat} (h : k < s.size) : callS (s.extract k (k + 1)) = callC s[k] := by
  unfold callS callC
  rw [ext_one h, nat_u8, nat_u8, nat_u8]
  rfl
theorem touch_of {s : ByteArray} {b : Bool} (h : s.data.toList.all callC = b) {c : Bool} (hc : c = decide (1 ≤ (s.size : Int) ∧ (s.size : Int) ≤ 60)) : touchB s.data.toList = (c && b) := by
  unfold touchB
  rw [h, hc, bytes_len, Bool.and_comm]
  congr 2
  apply propext
  omega
end Go.Proofs.YtenhnloljdfjhaaDoor

/- Contracts: rounds, the product of rows. -/
namespace Go.Proofs.YtenhnloljdfjhaaDoor
open Go Go.RowKit
set_option linter.unusedVariables false
set_option linter.unusedSimpArgs false

theorem ret_str {a b : ByteArray} (h : a = b) : Ending.returned (.string a) = .returned (.string b) := by rw [h]
theorem rounds_any (n : Nat) (w : World) (hn : n ≤ 8) : Calls Tryd.prog 71 #[.int .i64 n] w fun e w' => e = .returned (.string (roundsB n)) ∧ w = w' := by
  have he : (⟨#[49, 50, 51, 52, 53, 54, 55, 56]⟩ : ByteArray).size = 8 := rfl
  have hr : roundsB n = (⟨#[49, 50, 51, 52, 53, 54, 55, 56]⟩ : ByteArray).extract 0 n := rfl
  have Hr := Lib.hid hr
  clear hr
  go_enter Tryd.func71, Tryd.ntmps71
  go_wp2_with fail
  go_ret
  exact ⟨ret_str Hr.out.symm, rfl⟩
theorem info_u8 : (Tryd.prog.info? 5).map (fun i => (i.zero, i.size, i.bytes)) = some (some (.int .u8 0), 1, 1) := by kernel_rfl
def u8v (c : UInt8) : Value := .int .u8 (c.toNat : Int)
theorem conv_back {P : Program} {src dst e : TypeId} (hs : P.underlying src = some (.slice e)) (he : P.underlying e = some (.int .u8)) (hd : P.underlying dst = some .string) {w : World} {base g n cap : Nat} {cs : List Value} {l : List UInt8}
    (h : w.ownsRow base e 1 (.slice (some ⟨g, 0, none⟩) n cap) n cs) (hc : cs = l.map u8v) (hl : l.length = n) : (convert src dst (.slice (some ⟨g, 0, none⟩) n cap)).run P w = .ok (.string (ofL l)) w := by
  subst hl hc
  refine run_convert_bytes_back w src dst e ⟨g, 0, none⟩ cap l hs he hd (fun j hj => ?_)
  rw [Addr.add_lit, Nat.zero_add, h.cellAt j (by omega)]
  simp [u8v, hj]
theorem timesL_len (a b : List UInt8) : (timesL a b).length = b.length := by simp [timesL]
theorem times_snoc {a b : ByteArray} {k : Nat} (hk : k < b.size) {m : Nat} (hm : m = b[k].toNat - 49) (hl : m < a.size) : timesL a.data.toList (b.data.toList.take (k + 1)) = timesL a.data.toList (b.data.toList.take k) ++ [a[m]] := by
  subst hm
  rw [timesL_take (by rw [bytes_len]; exact hk), List.getD_eq_getElem?_getD, bytes_get b k hk, List.getElem?_eq_getElem (by rw [bytes_len]; exact hl)]
  rfl
end Go.Proofs.YtenhnloljdfjhaaDoor

/- Contracts: a method with other changes; a method's copy of the reference. -/
namespace Go.Proofs.YtenhnloljdfjhaaDoor
open Go Go.RowKit
set_option linter.unusedVariables false
set_option linter.unusedSimpArgs false

theorem blk_lt {w : World} {g : Nat} {o : Obj} (h : w.heap[g]? = some o) : g < w.heap.size := by
  rcases Nat.lt_or_ge g w.heap.size with hlt | hge
  · exact hlt
  · rw [Array.getElem?_eq_none hge] at h; cases h
theorem boxRuleB {wb : World} {g B : Nat} {cs : Array Value} {t : TypeId} (h : wb.heap[g]? = some (.cells cs t (0, 0))) (hB : g < B) : ∀ (w' : World) (i : Nat), Below B wb w' → w'.cell? ⟨g, i, none⟩ = cs[i]? := by
  intro w' i hb
  exact cell_of_row w' g i cs t (0, 0) ((hb.block g hB).trans h)
theorem set3_low {a w : World} {B g : Nat} {p q r : Nat} {x y z : Value} (h : Below B a w) (hg : B ≤ g) : Below B a (((w.setCell ⟨g, p, none⟩ x).setCell ⟨g, q, none⟩ y).setCell ⟨g, r, none⟩ z) :=
  ((h.setCell (p := ⟨g, p, none⟩) hg x).setCell (p := ⟨g, q, none⟩) hg y).setCell (p := ⟨g, r, none⟩) hg z
end Go.Proofs.YtenhnloljdfjhaaDoor

/- Contracts: a method that begins with its change k; a method turned. -/
namespace Go.Proofs.YtenhnloljdfjhaaDoor
open Go Go.RowKit
set_option linter.unusedVariables false
set_option linter.unusedSimpArgs false

end Go.Proofs.YtenhnloljdfjhaaDoor

/- Contract: a method turned (the reference's). -/
namespace Go.Proofs.YtenhnloljdfjhaaDoor
open Go Go.RowKit
set_option linter.unusedVariables false
set_option linter.unusedSimpArgs false

theorem own_blk {w w' : World} {base : Nat} {e : TypeId} {size n g c : Nat} {xs : List Value} (h : w.ownsRow base e size (.slice (some ⟨g, 0, none⟩) n c) n xs) (hb : w'.heap[g]? = w.heap[g]?) : w'.ownsRow base e size (.slice (some ⟨g, 0, none⟩) n c) n xs := by
  obtain ⟨h1, h2⟩ := h
  refine ⟨h1, ?_⟩
  rcases h2 with ⟨h2, _⟩ | ⟨g', cap, cur, hv, hg, hp, r⟩
  · cases h2
  · cases hv
    exact .inr ⟨g, c, cur, rfl, hg, hb.trans hp, r⟩
theorem sl_new (w : World) (cs : Array Value) (e : TypeId) (n : Nat) (hn : n ≤ maxLen) (hs : cs.size = n) : Sl (w.alloc (.cells cs e)) 1 (.slice (some ⟨w.heap.size, 0, none⟩) n n) n cs.toList :=
  sl_of_own (own_of_heap (base := 0) (heap_new w _) (Nat.zero_le _) hn (by omega))
theorem rev_snoc {xs : List ByteArray} {j p : Nat} (hp : p + j + 1 = xs.length) : (xs.reverse.take (j + 1)).map Value.string = (xs.reverse.take j).map Value.string ++ [.string (xs[p]'(by omega))] := by
  rw [List.take_succ_eq_append_getElem (by simp; omega), List.map_append]
  congr 1
  simp only [List.map_cons, List.map_nil]
  congr 2
  rw [List.getElem_reverse]
  congr 1; omega
end Go.Proofs.YtenhnloljdfjhaaDoor

/- FindName on both sides. -/
namespace Go.Proofs.YtenhnloljdfjhaaDoor
open Go Go.RowKit
set_option linter.unusedVariables false
set_option linter.unusedSimpArgs false

def ixOf (s : ByteArray) : Nat → List Mt → Int
  | _, [] => -1
  | k, m :: t => if (m.name.toList == s.toList) = true then k else ixOf s (k + 1) t
theorem ix_hit {s : ByteArray} {ms : List Mt} {k : Nat} {r : Int} (hk : k < ms.length) (h : ixOf s k (ms.drop k) = r) (hh : (ms[k].name.toList == s.toList) = true) : r = k := by
  rw [List.drop_eq_getElem_cons hk, ixOf, if_pos hh] at h; exact h.symm
theorem ix_step {s : ByteArray} {ms : List Mt} {k : Nat} {r : Int} (hk : k < ms.length) (h : ixOf s k (ms.drop k) = r) (hh : (ms[k].name.toList == s.toList) = false) : ixOf s (k + 1) (ms.drop (k + 1)) = r := by
  rw [List.drop_eq_getElem_cons hk, ixOf, if_neg (by rw [hh]; decide)] at h; exact h
theorem ix_end {s : ByteArray} {ms : List Mt} {k : Nat} {r : Int} (hk : ms.length ≤ k) (h : ixOf s k (ms.drop k) = r) : r = -1 := by
  rw [List.drop_of_length_le hk] at h; exact h.symm
theorem ix_rng (s : ByteArray) : ∀ (ms : List Mt) (k : Nat), ixOf s k ms = -1 ∨ (0 ≤ ixOf s k ms ∧ ixOf s k ms < k + ms.length)
  | [], k => .inl rfl
  | m :: t, k => by
    rw [ixOf]
    split
    · right; simp only [List.length_cons]; omega
    · rcases ix_rng s t (k + 1) with h | h
      · exact .inl h
      · right; simp only [List.length_cons]; omega
def fnN (ms : List Mt) (s : ByteArray) : Int := if libB ms then (if ixOf s 0 ms < 0 then 0 else ixOf s 0 ms) else 0
def fnB (ms : List Mt) (s : ByteArray) : Bool := libB ms && decide (0 ≤ ixOf s 0 ms)
theorem fn_no {ms : List Mt} {s : ByteArray} (h : libB ms = false) : Ending.returned (.tuple #[.int .i64 0, .bool false]) = .returned (.tuple #[.int .i64 (fnN ms s), .bool (fnB ms s)]) := by unfold fnN fnB; rw [h]; rfl
theorem fn_neg {ms : List Mt} {s : ByteArray} (h : ixOf s 0 ms < 0) : Ending.returned (.tuple #[.int .i64 0, .bool false]) = .returned (.tuple #[.int .i64 (fnN ms s), .bool (fnB ms s)]) := by
  unfold fnN fnB; rw [if_pos h, decide_eq_false (by omega), Bool.and_false]; split <;> rfl
theorem fn_yes {ms : List Mt} {s : ByteArray} (hl : libB ms = true) (h : ¬ ixOf s 0 ms < 0) : Ending.returned (.tuple #[.int .i64 (ixOf s 0 ms), .bool true]) = .returned (.tuple #[.int .i64 (fnN ms s), .bool (fnB ms s)]) := by
  unfold fnN fnB; rw [hl, if_neg h, decide_eq_true (by omega)]; rfl
end Go.Proofs.YtenhnloljdfjhaaDoor
