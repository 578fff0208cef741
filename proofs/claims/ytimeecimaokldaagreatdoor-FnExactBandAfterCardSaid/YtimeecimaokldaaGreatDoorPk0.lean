/- The frame of a law's row: what a law's walk must give is 'true, and nothing that was there has turned'. -/
import Derived.Test.YtimeecimaokldaaGreatDoorRows
import Derived.Below
import Derived.ChangeSame
import Derived.WideKeyArgs
import Derived.ProofKit
import Derived.Test.YtimeecimaokldaaGreatDoorChecked
import Derived.WalkKit
import Derived.WalkSpells
import Derived.WalkLawsBesides
import Derived.Lib.Hide
import Derived.BigGuardPart
import Derived.BigQuiet
import Derived.Deep.QuietTactic
import Derived.Deep.DeepFit
import Derived.Deep.DeepCutAuto
import Derived.Deep.RegionWith
import Derived.Deep.RegionHeld3
import Derived.StillTailTactics
import Derived.Laws.OwnMore
import Derived.Laws.MakeOwn
import Derived.Laws.CopyOwn
import Derived.Maps.AppendAt
import Derived.Deep.AppendLies
import Derived.Deep.Draws
namespace Go.Proofs.YtimeecimaokldaaGreatDoor
open Go Go.RowKit Go.WideShapes Go.ChangeShapes
set_option linter.unusedVariables false
set_option linter.unusedSimpArgs false

section
variable {H : Type} {enc : TypeId × Value → H} {P : Program}
theorem post_of_below {f : Func} {s : ChangeSpec} {apart fresh handsOn again : Bool} {W W' : World} {args : Array Value} {v : Value} {ds gs : List (DataW H)} {before pa pv : List MemPlace}
    (hW : DataW.Whole enc P f.params.toList s.vars apart W args.toList ds gs before)
    (hres : ∀ (b : Nat) (sp : Nat → Bool) (hd : Bool), DataW.TrodAll enc P W' b sp hd f.resultTypes.toList (v.resultList f.resultTypes.size) (s.fn H (ds ++ gs)).results [])
    (hargs : ∀ sp : Nat → Bool, (∀ p ∈ before, sp p.block = true) → DataW.TrodAll enc P W' 0 sp true f.params.toList args.toList (s.fn H (ds ++ gs)).args pa)
    (hvars : ∀ sp : Nat → Bool, (∀ p ∈ before, sp p.block = true) → DataW.TrodVars enc P W' sp s.vars (s.fn H (ds ++ gs)).vars pv)
    (hps : before = pa ++ pv) (hb : Below W.heap.size W W')
    (hok : ∀ (j : Nat) (t : TypeId) (r : Value), f.resultTypes[j]? = some t → (v.resultList f.resultTypes.size)[j]? = some r → Value.okWide P W' .any 0 t r) :
    s.post enc P f apart fresh handsOn again W args v W' := by
  have hlt : ∀ p ∈ before, p.block < W.heap.size := fun p hp => hW.lt p hp
  have hold : ∀ p ∈ before, (fun b => decide (b < W.heap.size)) p.block = true := fun p hp => by simpa using hlt p hp
  refine ⟨ds, gs, before, [], pa, pv, hW, hres _ _ _, hargs _ hold, hvars _ hold, World.keptBut_mono (fun p hp => ⟨hp, ?_⟩) (hb.frame (· ∈ before)), fun _ => ?_⟩
  · rw [hps, List.mem_append] at hp
    exact Or.inr hp
  · obtain ⟨_, _, _, _, _, hz, hn⟩ := hW
    refine ⟨hok, _, _, ([] ++ pa) ++ pv, ⟨[] ++ pa, pv, trodAll_append (hargs _ (fun _ _ => rfl)) (hres _ _ _), hvars _ (fun _ _ => rfl), rfl, ?_, ?_⟩, ?_⟩
    · intro b off hp
      have hin : MemPlace.cell b off ∈ before := by rw [hps]; simpa using hp
      rw [hb.frozen (hlt _ hin)]
      exact hz b off hin
    · intro ha
      have := hn ha
      rw [hps] at this
      simpa using this
    · intro p hp _
      rw [hps]
      simpa using hp

theorem trodAll_below (hl : laidOutB P = true) {W W' : World} (hb : Below W.heap.size W W') {sp : Nat → Bool} : ∀ (ts : List TypeId) (vs : List Value) (ds : List (DataW H)) (ps : List MemPlace),
    (∀ t ∈ ts, P.readableRec t = true ∧ t < P.types.size) → DataW.TrodAll enc P W 0 (fun _ => true) true ts vs ds ps → (∀ x ∈ ps, x.block < W.heap.size) → (∀ p ∈ ps, sp p.block = true) →
    DataW.TrodAll enc P W' 0 sp true ts vs ds ps
  | [], [], [], _, _, h, _, _ => h
  | t :: ts, v :: vs, d :: ds, ps, hp, h, hlt, hsp => by
    obtain ⟨p, q, h1, h2, rfl⟩ := h
    obtain ⟨hr, hrow⟩ := hp t (List.mem_cons_self ..)
    refine ⟨p, q, WideElems.Trod_stays hl hr hrow h1 (fun x hx => hb.same (hlt x (List.mem_append_left _ hx))) (fun x hx => hsp x (List.mem_append_left _ hx)),
      trodAll_below hl hb ts vs ds q (fun t ht => hp t (List.mem_cons_of_mem _ ht)) h2 (fun x hx => hlt x (List.mem_append_right _ hx)) (fun x hx => hsp x (List.mem_append_right _ hx)), rfl⟩
  | [], [], _ :: _, _, _, h, _, _ => h.elim
  | [], _ :: _, _, _, _, h, _, _ => by cases ‹List (DataW H)› <;> exact h.elim
  | _ :: _, [], _, _, _, h, _, _ => by cases ‹List (DataW H)› <;> exact h.elim
  | _ :: _, _ :: _, [], _, _, h, _, _ => h.elim

/-- WHAT A LAW's WALK OWES: 'true', and all that was there is as it was. -/
theorem law_post {f : Func} {s : ChangeSpec} {fresh handsOn again : Bool} {W W' : World} {args : Array Value} {ds gs : List (DataW H)} {before : List MemPlace} {tb : TypeId}
    (hl : laidOutB P = true) (hpar : f.params.toList.all (fun t => P.readableRec t && decide (t < P.types.size)) = true)
    (hvars : s.vars = []) (hout : (s.fn H (ds ++ gs)).vars = []) (hres : (s.fn H (ds ++ gs)).results = [.lit (.bool true)]) (hargs : (s.fn H (ds ++ gs)).args = ds)
    (hrt : f.resultTypes = #[tb]) (htb : P.underlying tb = some .bool)
    (hW : DataW.Whole enc P f.params.toList s.vars false W args.toList ds gs before) (hb : Below W.heap.size W W') :
    s.post enc P f false fresh handsOn again W args (.bool true) W' := by
  have hW0 := hW
  have hlt : ∀ p ∈ before, p.block < W.heap.size := fun p hp => hW.lt p hp
  obtain ⟨p, q, hA, hV, rfl, _, _⟩ := hW
  rw [hvars] at hV
  have hq : q = [] := by
    cases gs with
    | nil => exact hV
    | cons _ _ => exact hV.elim
  subst hq
  rw [List.append_nil] at hlt
  refine post_of_below (pa := p) (pv := []) hW0 (fun b sp hd => ?_) (fun sp hsp => ?_) (fun sp _ => ?_) rfl hb ?_
  · rw [hres, hrt]
    exact trodAll_mk1 (shut_bool htb true)
  · rw [hargs]
    rw [List.append_nil] at hsp
    refine trodAll_below hl hb _ _ _ _ (fun t ht => ?_) hA hlt hsp
    have := List.all_eq_true.1 hpar t ht
    simpa using this
  · rw [hvars, hout]
    rfl
  · intro j t r hj hr
    rw [hrt] at hj hr
    match j with
    | 0 =>
      simp only [List.getElem?_toArray, List.getElem?_cons_zero, Option.some.injEq] at hj
      subst hj
      simp only [Value.resultList] at hr
      simp at hr
      subst hr
      exact okWide_bool_mk htb true
    | j + 1 => simp at hj
end
end Go.Proofs.YtimeecimaokldaaGreatDoor

/- Words for memory: slices that read as lists. (Reads, Blk: howto/extra-words.md's plain theorems.) -/
namespace Go.Proofs.YtimeecimaokldaaGreatDoor
open Go Go.RowKit
set_option linter.unusedVariables false
set_option linter.unusedSimpArgs false

theorem ret_bool {a b : Bool} (h : a = b) : Ending.returned (.bool a) = .returned (.bool b) := by rw [h]
theorem ret_int {a b : Int} (h : a = b) : Ending.returned (.int .i64 a) = .returned (.int .i64 b) := by rw [h]

theorem bw_al {a w : World} (h : Below a.heap.size a w) (o : Obj) : Below a.heap.size a (w.alloc o) := h.alloc h.size o
theorem bw_dr {a w : World} (h : Below a.heap.size a w) (n : Nat) : Below a.heap.size a (w.drewN n) := ⟨h.os, h.tape, h.output, h.size, h.block⟩
theorem bw_tr {a w w' : World} {B : Nat} (h : Below a.heap.size a w) (k : Below B w w') (hB : a.heap.size ≤ B) : Below a.heap.size a w' := h.trans (k.mono hB)
theorem bw_to {a w w' : World} (h : Below a.heap.size a w) (k : Below w.heap.size w w') : Below a.heap.size a w' := h.trans (k.mono h.size)
theorem bcell {W w1 : World} (hb : Below W.heap.size W w1) : (∀ b o, b < W.heap.size → w1.cell? ⟨b, o, none⟩ = W.cell? ⟨b, o, none⟩) ∧ (∀ b o, b < W.heap.size → w1.frozen? ⟨b, o, none⟩ = W.frozen? ⟨b, o, none⟩) :=
  ⟨fun b o h => hb.cell (p := ⟨b, o, none⟩) h, fun b o h => hb.frozen (p := ⟨b, o, none⟩) h⟩

/-- A base world wb, in which the boxes of a function's struct parameters lie: every later world reads them alike. -/
theorem boxRule {wb : World} {g : Nat} {cs : Array Value} {t : TypeId} (h : wb.heap[g]? = some (.cells cs t (0, 0))) : ∀ (w' : World) (i : Nat), Below wb.heap.size wb w' → w'.cell? ⟨g, i, none⟩ = cs[i]? := by
  intro w' i hb
  have hg : g < wb.heap.size := by
    rcases Nat.lt_or_ge g wb.heap.size with hlt | hge
    · exact hlt
    · rw [Array.getElem?_eq_none hge] at h; cases h
  have h' : w'.heap[g]? = some (.cells cs t (0, 0)) := (hb.block g hg).trans h
  exact cell_of_row w' g i cs t (0, 0) h'
theorem heap_new (w : World) (o : Obj) : (w.alloc o).heap[w.heap.size]? = some o := heap_alloc_new w o
theorem box1 {C : World → Prop} {w : World} {o : Obj} (h : ∀ wb, Below w.heap.size w wb → wb.heap[w.heap.size]? = some o → Below wb.heap.size wb wb → C wb) : C (w.alloc o) :=
  h _ (bw_al (Below.refl _ _) o) (heap_new w o) (Below.refl _ _)
theorem box2 {C : World → Prop} {w : World} {o1 o2 : Obj} (h : ∀ wb, Below w.heap.size w wb → wb.heap[w.heap.size]? = some o1 → wb.heap[w.heap.size + 1]? = some o2 → Below wb.heap.size wb wb → C wb) : C ((w.alloc o1).alloc o2) :=
  h _ (bw_al (bw_al (Below.refl _ _) o1) o2) ((Below.heap_alloc _ _ _ (by simp)).trans (heap_new w o1)) (by have := heap_new (w.alloc o1) o2; simpa using this) (Below.refl _ _)
theorem box3 {C : World → Prop} {w : World} {o1 o2 o3 : Obj} (h : ∀ wb, Below w.heap.size w wb → wb.heap[w.heap.size]? = some o1 → wb.heap[w.heap.size + 1]? = some o2 → wb.heap[w.heap.size + 2]? = some o3 → Below wb.heap.size wb wb → C wb) : C (((w.alloc o1).alloc o2).alloc o3) :=
  h _ (bw_al (bw_al (bw_al (Below.refl _ _) o1) o2) o3) ((Below.heap_alloc _ _ _ (by simp; omega)).trans ((Below.heap_alloc _ _ _ (by simp)).trans (heap_new w o1)))
    ((Below.heap_alloc _ _ _ (by simp)).trans (by have := heap_new (w.alloc o1) o2; simpa using this)) (by have := heap_new ((w.alloc o1).alloc o2) o3; simpa using this) (Below.refl _ _)
theorem block_of_add (a : Addr) (n : Nat) : (a.add n).block = a.block := by unfold Addr.add; split <;> rfl
theorem add_of_add (a : Addr) (i j : Nat) : (a.add i).add j = a.add (i + j) := by
  unfold Addr.add
  by_cases hi : i = 0 <;> by_cases hj : j = 0 <;> simp [hi, hj, Nat.add_assoc]

section
variable {α : Type} {C : α → List Value} {sz : Nat}
theorem flat_length {xs : List α} (h : ∀ x ∈ xs, (C x).length = sz) : (xs.flatMap C).length = xs.length * sz := by
  induction xs with
  | nil => simp
  | cons x xs ih =>
    rw [List.flatMap_cons, List.length_append, h x (List.mem_cons_self ..), ih (fun z hz => h z (List.mem_cons_of_mem _ hz)), List.length_cons, Nat.succ_mul, Nat.add_comm]
theorem flat_get {xs : List α} (h : ∀ x ∈ xs, (C x).length = sz) {i j : Nat} {x : α} (hi : xs[i]? = some x) (hj : j < sz) : (xs.flatMap C)[i * sz + j]? = (C x)[j]? := by
  induction xs generalizing i with
  | nil => simp at hi
  | cons z xs ih =>
    have hz := h z (List.mem_cons_self ..)
    rw [List.flatMap_cons]
    cases i with
    | zero =>
      simp at hi
      subst hi
      rw [List.getElem?_append_left (by omega)]
      simp
    | succ i =>
      rw [List.getElem?_append_right (by rw [hz, Nat.succ_mul]; omega), hz]
      have e : (i + 1) * sz + j - sz = i * sz + j := by rw [Nat.succ_mul]; omega
      rw [e]
      exact ih (fun z hz => h z (List.mem_cons_of_mem _ hz)) (by simpa using hi)
theorem flat_at {xs : List α} (h : ∀ x ∈ xs, (C x).length = sz) (hs : 0 < sz) {k : Nat} {u : Value} (hk : (xs.flatMap C)[k]? = some u) : ∃ i j x, k = i * sz + j ∧ j < sz ∧ xs[i]? = some x ∧ (C x)[j]? = some u := by
  have hlt := (List.getElem?_eq_some_iff.1 hk).1
  rw [flat_length h] at hlt
  have hi : k / sz < xs.length := Nat.div_lt_of_lt_mul (by rw [Nat.mul_comm]; exact hlt)
  have e : k = k / sz * sz + k % sz := by rw [Nat.mul_comm]; exact (Nat.div_add_mod k sz).symm
  refine ⟨k / sz, k % sz, xs[k / sz], e, Nat.mod_lt _ hs, List.getElem?_eq_getElem hi, ?_⟩
  rw [← flat_get h (List.getElem?_eq_getElem hi) (Nat.mod_lt _ hs), ← e]
  exact hk
end

/-- The slice '.slice A n c' holds the cells xs (n elements of 'size' cells each), below block B. -/
def Reads (w : World) (B size : Nat) (A : Option Addr) (n : Nat) (xs : List Value) : Prop :=
  xs.length = n * size ∧ (0 < n → ∃ ad, A = some ad ∧ ad.block < B ∧ ∀ j u, xs[j]? = some u → w.cell? (ad.add j) = some u)

section
variable {w w' : World} {B B' size n : Nat} {A : Option Addr} {xs : List Value}
theorem Reads.none_ : Reads w B size A 0 [] := ⟨by simp, fun h => absurd h (by omega)⟩
theorem Reads.at_ {k : Nat} (h : Reads w B 1 A n xs) (hk : k < n) : ∃ ad u, A = some ad ∧ ad.block < B ∧ xs[k]? = some u ∧ w.cell? (ad.add k) = some u := by
  obtain ⟨ad, e, hb, hc⟩ := h.2 (by omega)
  have hl : k < xs.length := by have := h.1; omega
  exact ⟨ad, xs[k], e, hb, List.getElem?_eq_getElem hl, hc k _ (List.getElem?_eq_getElem hl)⟩
theorem Reads.keep (h : Reads w B size A n xs) (hk : ∀ p : Addr, p.block < B → w'.cell? p = w.cell? p) : Reads w' B size A n xs :=
  ⟨h.1, fun hn => by
    obtain ⟨ad, e, hb, hc⟩ := h.2 hn
    exact ⟨ad, e, hb, fun j u hu => (hk _ (by rw [block_of_add]; exact hb)).trans (hc j u hu)⟩⟩
theorem Reads.more (h : Reads w B size A n xs) (hB : B ≤ B') : Reads w B' size A n xs :=
  ⟨h.1, fun hn => by
    obtain ⟨ad, e, hb, hc⟩ := h.2 hn
    exact ⟨ad, e, by omega, hc⟩⟩
theorem Reads.below (h : Reads w B size A n xs) (hb : Below B w w') : Reads w' B size A n xs := h.keep fun _ hp => hb.cell hp
theorem Reads.to (h : Reads w w.heap.size size A n xs) (hb : Below w.heap.size w w') : Reads w' w'.heap.size size A n xs := (h.below hb).more hb.size
theorem Reads.cut (h : Reads w B size A n xs) {k cap : Nat} (hk : k ≤ n) (hc : n ≤ cap) :
    Reads w B size (if cap = k then A else A.map (·.add (k * size))) (n - k) (xs.drop (k * size)) := by
  refine ⟨by rw [List.length_drop, h.1, Nat.sub_mul], fun hn => ?_⟩
  obtain ⟨ad, rfl, hb, hcell⟩ := h.2 (by omega)
  rw [if_neg (by omega)]
  refine ⟨ad.add (k * size), rfl, by rw [block_of_add]; exact hb, fun j u hu => ?_⟩
  rw [add_of_add]
  exact hcell _ u (by rw [← hu, List.getElem?_drop])
theorem Reads.of_own {base : Nat} {e : TypeId} {c : Nat} (h : w.ownsRow base e size (.slice A n c) n xs) : Reads w w.heap.size size A n xs := by
  refine ⟨h.1, fun hn => ?_⟩
  obtain ⟨g, cap, hv, _, hlt⟩ := h.form hn
  have hA : A = some ⟨g, 0, none⟩ := by injection hv
  subst hA
  exact ⟨_, rfl, hlt, h.cells (g := g) rfl⟩
end

theorem add_zero' (a : Addr) : a.add 0 = a := by simp [Addr.add]
theorem add_succ' (a : Addr) (j : Nat) : a.add (j + 1) = ⟨a.block, a.off + (j + 1), none⟩ := by simp [Addr.add]
/-- Element k of a slice, cell by cell, in whatever later world. -/
theorem Reads.el {α : Type} {C : α → List Value} {w : World} {B sz : Nat} {A : Option Addr} {xs : List α} (h : Reads w B sz A xs.length (xs.flatMap C)) (hl : ∀ x ∈ xs, (C x).length = sz) {k : Nat} (hk : k < xs.length) :
    ∃ ad, A = some ad ∧ ∀ w', Below B w w' → ∀ j u, j < sz → (C xs[k])[j]? = some u → w'.cell? ((ad.add (k * sz)).add j) = some u := by
  obtain ⟨ad, e, hb, hc⟩ := h.2 (by omega)
  refine ⟨ad, e, fun w' hbw j u hj hu => ?_⟩
  rw [add_of_add, hbw.cell (by rw [block_of_add]; exact hb)]
  exact hc _ _ ((flat_get hl (List.getElem?_eq_getElem hk) hj).trans hu)

/-- The slice value v reads as the cells cs, n elements of 'size' cells. -/
def Sl (w : World) (size : Nat) (v : Value) (n : Nat) (cs : List Value) : Prop := ∃ A c, v = .slice A n c ∧ n ≤ c ∧ c ≤ maxLen ∧ Reads w w.heap.size size A n cs
theorem Sl.to {w w' : World} {size n : Nat} {v : Value} {cs : List Value} (h : Sl w size v n cs) (hb : Below w.heap.size w w') : Sl w' size v n cs :=
  let ⟨A, c, e, h1, h2, hr⟩ := h; ⟨A, c, e, h1, h2, hr.to hb⟩

def Ints (w : World) (v : Value) (zs : List Int) : Prop := Sl w 1 v zs.length (zs.map (Value.int .i64))
def Strs (w : World) (v : Value) (ss : List ByteArray) : Prop := Sl w 1 v ss.length (ss.map Value.string)
/-- Element k of a slice of numbers, of strings. -/
theorem ints_el {w : World} {B : Nat} {A : Option Addr} {zs : List Int} {n : Nat} (hr : Reads w B 1 A n (zs.map (Value.int .i64))) {k : Nat} (hk : k < zs.length) :
    ∃ ad, A = some ad ∧ ∀ w', Below B w w' → w'.cell? (ad.add k) = some (.int .i64 zs[k]) := by
  have hn : zs.length = n := by have := hr.1; simpa using this
  obtain ⟨ad, e, hb, hc⟩ := hr.2 (by omega)
  exact ⟨ad, e, fun w' hbw => by rw [hbw.cell (by rw [block_of_add]; exact hb)]; exact hc _ _ (by simp [hk])⟩
theorem strs_el {w : World} {B : Nat} {A : Option Addr} {zs : List ByteArray} {n : Nat} (hr : Reads w B 1 A n (zs.map Value.string)) {k : Nat} (hk : k < zs.length) :
    ∃ ad, A = some ad ∧ ∀ w', Below B w w' → w'.cell? (ad.add k) = some (.string zs[k]) := by
  have hn : zs.length = n := by have := hr.1; simpa using this
  obtain ⟨ad, e, hb, hc⟩ := hr.2 (by omega)
  exact ⟨ad, e, fun w' hbw => by rw [hbw.cell (by rw [block_of_add]; exact hb)]; exact hc _ _ (by simp [hk])⟩
theorem Ints.to {w w' : World} {v : Value} {zs : List Int} (h : Ints w v zs) (hb : Below w.heap.size w w') : Ints w' v zs := Sl.to h hb
theorem Strs.to {w w' : World} {v : Value} {zs : List ByteArray} (h : Strs w v zs) (hb : Below w.heap.size w w') : Strs w' v zs := Sl.to h hb

theorem i64_and_nat (a b : Nat) (ha : a < 9223372036854775808) (hb : b < 9223372036854775808) : bits .and .i64 (a : Int) (b : Int) = ((a &&& b : Nat) : Int) := by
  have ofInt : ∀ a : Nat, a < 9223372036854775808 → (BitVec.ofInt 64 (a : Int)).toNat = a := fun a ha => by
    rw [BitVec.ofInt_natCast, BitVec.toNat_ofNat]; exact Nat.mod_eq_of_lt (by omega)
  have hx : a &&& b < 2 ^ 63 := Nat.and_lt_two_pow _ (by omega)
  show IntKind.i64.wrap ((BitVec.ofInt 64 (a : Int) &&& BitVec.ofInt 64 (b : Int)).toNat : Int) = _
  rw [BitVec.toNat_and, ofInt a ha, ofInt b hb, IntKind.wrap_i64]
  omega
theorem bit_test (mask k : Nat) (h : mask < 9223372036854775808) : (bits BinOp.and IntKind.i64 ((mask : Int) / 2 ^ k) 1 == 1) = mask.testBit k := by
  have e : (mask : Int) / 2 ^ k = ((mask / 2 ^ k : Nat) : Int) := by rw [Int.natCast_ediv, Int.natCast_pow]; rfl
  have hle : mask / 2 ^ k ≤ mask := Nat.div_le_self _ _
  rw [e, show (1 : Int) = ((1 : Nat) : Int) from rfl, i64_and_nat _ _ (by omega) (by omega), Nat.testBit_eq_decide_div_mod_eq, Nat.and_one_is_mod]
  rw [Bool.eq_iff_iff]
  simp
  omega

theorem all_true {α : Type} {p : α → Bool} {l : List α} {n : Nat} (hn : n = l.length) (h : (l.take n).all p = true) : l.all p = true := by
  rwa [hn, List.take_length] at h
theorem all_false {α : Type} {p : α → Bool} {l : List α} {k : Nat} (hk : k < l.length) (h : p l[k] = false) : l.all p = false := by
  rw [← Bool.not_eq_true, List.all_eq_true]
  intro h'
  rw [h' _ (List.getElem_mem hk)] at h
  cases h
theorem all_step {α : Type} {p : α → Bool} {l : List α} {k : Nat} (hk : k < l.length) (h0 : (l.take k).all p = true) (h : p l[k] = true) : (l.take (k + 1)).all p = true := by
  rw [List.take_succ_eq_append_getElem hk, List.all_append, h0]
  simp [h]
theorem own_to {w w1 : World} {base : Nat} {e : TypeId} {size n : Nat} {v : Value} {xs : List Value} (h : w.ownsRow base e size v n xs) (hb : Below w.heap.size w w1) : w1.ownsRow base e size v n xs :=
  h.kept (row := none) ⟨hb.os, hb.tape, hb.output, hb.size, fun i hi _ => hb.block i hi⟩ (by cases hv : v.ownBlock <;> simp)
theorem bw_gr {a w w' : World} (h : Below a.heap.size a w) (hg : w.grownBy w' none) : Below a.heap.size a w' := h.grown hg h.size (fun _ e => by cases e)
theorem own_some {w : World} {base : Nat} {e : TypeId} {size n g cap : Nat} {xs : List Value} (h : w.ownsRow base e size (.slice (some ⟨g, 0, none⟩) n cap) n xs) {j : Nat} (hj : j < n * size) : ∃ y, w.cell? ⟨g, j, none⟩ = some y :=
  ⟨_, (h.cellAt j hj).trans (List.getElem?_eq_getElem (by rw [h.1]; exact hj))⟩
theorem take_set_last {α : Type} {l : List α} {j : Nat} {v : α} (h : j < l.length) : (l.set j v).take (j + 1) = l.take j ++ [v] := by
  rw [List.take_succ_eq_append_getElem (by simpa using h), List.take_set_of_le (Nat.le_refl j)]
  simp
theorem map_take_succ {α β : Type} {f : α → β} {l : List α} {k : Nat} (h : k < l.length) : (l.take (k + 1)).map f = (l.take k).map f ++ [f l[k]] := by
  rw [List.take_succ_eq_append_getElem h, List.map_append]; rfl
theorem flat_take {α : Type} {C : α → List Value} {xs : List α} {k : Nat} (h : k < xs.length) : (xs.take (k + 1)).flatMap C = (xs.take k).flatMap C ++ C xs[k] := by
  rw [List.take_succ_eq_append_getElem h, List.flatMap_append]; simp
theorem grow_set {a w : World} (h : Below a.heap.size a w) {g j : Nat} (hg : a.heap.size ≤ g) (u : Value) : Below a.heap.size a (w.setCell ⟨g, j, none⟩ u) := h.setCell (p := ⟨g, j, none⟩) hg u
theorem own_set {w : World} {base : Nat} {e : TypeId} {size n g cap : Nat} {xs : List Value} (h : w.ownsRow base e size (.slice (some ⟨g, 0, none⟩) n cap) n xs) (j : Nat) (u : Value) : (w.setCell ⟨g, j, none⟩ u).ownsRow base e size (.slice (some ⟨g, 0, none⟩) n cap) n (xs.set j u) := (h.stored j u).1
/-- A row of four cells an element: element k is written. -/
theorem own4 {w : World} {base : Nat} {e : TypeId} {n g cap k : Nat} {xs : List Value} (h : w.ownsRow base e 4 (.slice (some ⟨g, 0, none⟩) n cap) n xs) (hk : k < n) :
    (∃ y0 y1 y2 y3, w.cell? ⟨g, k * 4, none⟩ = some y0 ∧ w.cell? ⟨g, k * 4 + 1, none⟩ = some y1 ∧ w.cell? ⟨g, k * 4 + 2, none⟩ = some y2 ∧ w.cell? ⟨g, k * 4 + 3, none⟩ = some y3) ∧
    (w.frozen? ⟨g, k * 4, none⟩ = false ∧ w.frozen? ⟨g, k * 4 + 1, none⟩ = false ∧ w.frozen? ⟨g, k * 4 + 2, none⟩ = false ∧ w.frozen? ⟨g, k * 4 + 3, none⟩ = false) := by
  obtain ⟨y0, e0⟩ := own_some h (j := k * 4) (by omega)
  obtain ⟨y1, e1⟩ := own_some h (j := k * 4 + 1) (by omega)
  obtain ⟨y2, e2⟩ := own_some h (j := k * 4 + 2) (by omega)
  obtain ⟨y3, e3⟩ := own_some h (j := k * 4 + 3) (by omega)
  exact ⟨⟨y0, y1, y2, y3, e0, e1, e2, e3⟩, h.frozenAt _, h.frozenAt _, h.frozenAt _, h.frozenAt _⟩
theorem take_set4 {cs ds : List Value} {k n : Nat} {v0 v1 v2 v3 : Value} (hl : cs.length = n * 4) (hk : k < n) (h : cs.take (k * 4) = ds) :
    ((((cs.set (k * 4) v0).set (k * 4 + 1) v1).set (k * 4 + 2) v2).set (k * 4 + 3) v3).take ((k + 1) * 4) = ds ++ [v0, v1, v2, v3] := by
  rw [show (k + 1) * 4 = k * 4 + 3 + 1 from by omega, take_set_last (by simp; omega), take_set_last (by simp; omega), take_set_last (by simp; omega), take_set_last (by omega), h]
  simp
/-- 'append(v, x)' of one element (its cells: news), v a row of the call's own: in the world in which the element's block has just been laid. -/
theorem wpList_app {P : Program} (w : World) {ops : Array Oper} {rest : List Oper} {o : Oper} {a : Act} {Q : Exit → Act → World → Prop} (hgd : o.guard = none) (s x : Operand) (t : TypeId)
    (ho : o.op = .call { callee := .builtin .append, args := #[s, x], argTypes := #[t, t] })
    (base : Nat) (e : TypeId) (z : Value) (size bytes : Nat) (ht : P.underlying t = some (.slice e)) (hinfo : (P.info? e).map (fun i => (i.zero, i.size, i.bytes)) = some (some z, size, bytes))
    (hzs : z.cells.size = size) (hsz : 0 < size) {v : Value} {n : Nat} {xs : List Value} (hown : w.ownsRow base e size v n xs) (news : List Value) (hl : news.length = size) (hs : a.eval s = v)
    (hx : a.eval x = .slice (some ⟨w.heap.size, 0, none⟩) 1 1) (h1 : ∀ u ∈ news, u.oneCell' = true) (hby : bytes ≤ 1024) (hn : n ≤ 100000000) (hbase : base ≤ w.heap.size)
    (h : ∀ v' w', w'.ownsRow base e size v' (n + 1) (xs ++ news) → Below base w w' → w.grownBy w' v.ownBlock → (v'.ownBlock = v.ownBlock ∨ ∀ g, v'.ownBlock = some g → w.heap.size ≤ g) → wpList P ops Q rest (a.put o.dst v') w') :
    wpList P ops Q (o :: rest) a (w.alloc (.cells news.toArray e)) := by
  obtain ⟨i0, hi, hz, hsi, hbi⟩ := info_parts hinfo
  have hcell : ∀ j u, news[j]? = some u → (w.alloc (.cells news.toArray e)).cell? ((⟨w.heap.size, 0, none⟩ : Addr).add j) = some u := by
    intro j u hu
    rw [Addr.add_lit, cell_of_row _ w.heap.size (0 + j) news.toArray e (0, 0) (heap_new w _)]
    simpa using hu
  refine wpList_plain hgd fun K hK => ?_
  obtain ⟨v', w', hrun, h2, h3, _, h5⟩ := run_append_own_at (P := P) (w.alloc (.cells news.toArray e)) base t o.type e i0 z size bytes ht hi hz hsi hbi hzs hsz v n xs (hown.alloc _) ⟨w.heap.size, 0, none⟩ 1 1 news (by omega) hcell h1
    (by unfold maxLen; omega) (Nat.le_trans (Nat.mul_le_mul_left _ hby) (by omega)) (by simp; omega)
  unfold Oper.wp execOp
  simp only [ho, resolve, invoke, builtin, Sem.run_bind, Sem.run_pure, Result.andThen_ok, List.map_toArray, List.map_cons, List.map_nil, hs, hx, hrun]
  have hg : w.grownBy w' v.ownBlock := ⟨h3.os, h3.tape, h3.output, by have := h3.size; simp at this; omega, fun k hk hne => (h3.block k (by simp; omega) hne).trans (Below.heap_alloc w _ k hk)⟩
  refine hK _ _ (h v' w' h2 ((Below.refl _ _).grown hg hbase (fun k hk => (hown.lt k hk).1)) hg ?_)
  rcases h5 with h5 | h5
  · exact .inl h5
  · refine .inr fun g hg' => ?_
    rw [h5] at hg'
    injection hg' with hg'
    simp at hg'
    omega
theorem sl_of_own {w : World} {base : Nat} {e : TypeId} {size n : Nat} {v : Value} {xs : List Value} (h : w.ownsRow base e size v n xs) : Sl w size v n xs := by
  rcases h.2 with ⟨rfl, rfl⟩ | ⟨g, cap, cur, rfl, _, _, hn, hc, _⟩
  · exact ⟨none, 0, rfl, Nat.le_refl _, by unfold maxLen; omega, by have := h.1; simp at this; subst this; exact Reads.none_⟩
  · exact ⟨_, cap, rfl, hn, hc, Reads.of_own h⟩
theorem ints_of_own {w : World} {base : Nat} {e : TypeId} {v : Value} {zs : List Int} (h : w.ownsRow base e 1 v zs.length (zs.map (Value.int .i64))) : Ints w v zs := sl_of_own h
theorem strs_of_own {w : World} {base : Nat} {e : TypeId} {v : Value} {zs : List ByteArray} (h : w.ownsRow base e 1 v zs.length (zs.map Value.string)) : Strs w v zs := sl_of_own h
theorem bytes_get (s : ByteArray) (k : Nat) (h : k < s.size) : s.data.toList[k]'(by simpa using h) = s[k] := rfl
theorem bytes_len (s : ByteArray) : s.data.toList.length = s.size := by simp
end Go.Proofs.YtimeecimaokldaaGreatDoor
