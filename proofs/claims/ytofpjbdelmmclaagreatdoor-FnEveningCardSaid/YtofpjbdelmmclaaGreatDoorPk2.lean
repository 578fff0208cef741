/- Contracts: the cursor over the drawn bytes: next, pick, one, among, of. Each turns the cursor's own block and makes memory; nothing else. -/
import Derived.Test.YtofpjbdelmmclaaGreatDoorPk1
import Derived.Shelf.Strings.Builder1
import Derived.Shelf.Strings.Builder2
import Derived.Shelf.Strings.OnBuilder
import Derived.Shelf.Strconv.Itoa0
import Derived.Shelf.Strconv.Itoa1
import Derived.Shelf.LaysM
import Derived.Shelf.Strconv.Itoa2
import Derived.Shelf.Strconv.Itoa3
import Derived.Shelf.Strings.Search1
import Derived.Shelf.Strings.Search2
import Derived.Shelf.Strings.Search3
import Derived.Shelf.Strings.Cut
import Derived.Shelf.Strings.Count
import Derived.Shelf.Strings.Shaped
import Derived.Shelf.Unicode.DecodeSlow
import Derived.Shelf.Slices.Turned
import Derived.Test.YtofpjbdelmmclaaGreatDoorProg
namespace Go.Proofs.YtofpjbdelmmclaaGreatDoor
open Go Go.RowKit
set_option linter.unusedVariables false
set_option linter.unusedSimpArgs false

/-- A slice of bytes that lies below block B. -/
def BytesAt (w : World) (B : Nat) (v : Value) : Prop := ∃ A n c, ∃ zs : List Int, v = .slice A n c ∧ zs.length = n ∧ n ≤ c ∧ c ≤ maxLen ∧ Reads w B 1 A n (zs.map (Value.int .u8)) ∧ ∀ z ∈ zs, 0 ≤ z ∧ z ≤ 255
theorem BytesAt.keep {w w' : World} {B : Nat} {v : Value} (h : BytesAt w B v) (hk : ∀ p : Addr, p.block < B → w'.cell? p = w.cell? p) : BytesAt w' B v :=
  let ⟨A, n, c, zs, h1, h2, h3, h4, h5, h6⟩ := h; ⟨A, n, c, zs, h1, h2, h3, h4, h5.keep hk, h6⟩
theorem BytesAt.more {w : World} {B B' : Nat} {v : Value} (h : BytesAt w B v) (hB : B ≤ B') : BytesAt w B' v :=
  let ⟨A, n, c, zs, h1, h2, h3, h4, h5, h6⟩ := h; ⟨A, n, c, zs, h1, h2, h3, h4, h5.more hB, h6⟩
theorem gb_cell {w w' : World} {g : Nat} (h : w.grownBy w' (some g)) {p : Addr} (hp : p.block < w.heap.size) (hn : p.block ≠ g) : w'.cell? p = w.cell? p := by
  have e := h.block p.block hp (fun x => hn (by injection x))
  unfold World.cell?
  rw [e]
theorem gb_refl (w : World) (g : Nat) : w.grownBy w (some g) := World.grownBy.refl w _
theorem gb_to {a w w' : World} {g : Nat} (h : a.grownBy w (some g)) (hb : Below w.heap.size w w') : a.grownBy w' (some g) :=
  ⟨hb.os.trans h.os, hb.tape.trans h.tape, hb.output.trans h.output, Nat.le_trans h.size hb.size, fun k hk hn => (hb.block k (Nat.lt_of_lt_of_le hk h.size)).trans (h.block k hk hn)⟩
theorem gb_tr {a w w' : World} {g : Nat} (h : a.grownBy w (some g)) (h' : w.grownBy w' (some g)) : a.grownBy w' (some g) :=
  ⟨h'.os.trans h.os, h'.tape.trans h.tape, h'.output.trans h.output, Nat.le_trans h.size h'.size, fun k hk hn => (h'.block k (Nat.lt_of_lt_of_le hk h.size) hn).trans (h.block k hk hn)⟩
theorem gb_set {a w : World} {g : Nat} (h : a.grownBy w (some g)) (j : Nat) (u : Value) : a.grownBy (w.setCell ⟨g, j, none⟩ u) (some g) :=
  ⟨h.os, h.tape, h.output, by simpa [World.setCell] using h.size, fun i hi hne => (Below.heap_setCell w ⟨g, j, none⟩ u i (by rintro rfl; exact hne rfl)).trans (h.block i hi hne)⟩
theorem gb_dr {a w : World} {g : Nat} (h : a.grownBy w (some g)) (n : Nat) : a.grownBy (w.drewN n) (some g) := ⟨h.os, h.tape, h.output, h.size, h.block⟩
theorem gb_al {a w : World} {g : Nat} (h : a.grownBy w (some g)) (o : Obj) : a.grownBy (w.alloc o) (some g) := gb_to h ((Below.refl _ _).alloc (Nat.le_refl _) o)
/-- From a world in which block g is new. -/
theorem gb_below {a w w' : World} {g : Nat} (hb : Below a.heap.size a w) (h : w.grownBy w' (some g)) (hg : a.heap.size ≤ g) : Below a.heap.size a w' :=
  ⟨h.os.trans hb.os, h.tape.trans hb.tape, h.output.trans hb.output, Nat.le_trans hb.size h.size, fun k hk => (h.block k (Nat.lt_of_lt_of_le hk hb.size) (fun x => by injection x with x; omega)).trans (hb.block k hk)⟩
/-- The cursor in block C: at most 'lim' bytes read. -/
def Cur (w : World) (C lim : Nat) : Prop := ∃ v, ∃ at_ seed : Int, BytesAt w C v ∧ 0 ≤ at_ ∧ at_ ≤ lim ∧ 0 ≤ seed ∧ seed < 18446744073709551616 ∧
  w.ownsRow C 70 3 (.slice (some ⟨C, 0, none⟩) 1 1) 1 [v, .int .i64 at_, .int .u64 seed]
theorem Cur.lt {w : World} {C lim : Nat} (h : Cur w C lim) : C < w.heap.size := let ⟨_, _, _, _, _, _, _, _, ho⟩ := h; (ho.lt C rfl).2
theorem Cur.to {w w' : World} {C lim : Nat} (h : Cur w C lim) (hb : Below w.heap.size w w') : Cur w' C lim := by
  have hC := h.lt
  obtain ⟨v, a, s, h1, h2, h3, h4, h5, ho⟩ := h
  exact ⟨v, a, s, h1.keep (fun p hp => hb.cell (by omega)), h2, h3, h4, h5, own_to ho hb⟩
theorem Cur.more {w : World} {C lim lim' : Nat} (h : Cur w C lim) (hl : lim ≤ lim') : Cur w C lim' := by
  obtain ⟨v, a, s, h1, h2, h3, h4, h5, ho⟩ := h
  exact ⟨v, a, s, h1, h2, by omega, h4, h5, ho⟩
theorem Cur.al {w : World} {C lim : Nat} (h : Cur w C lim) (o : Obj) : Cur (w.alloc o) C lim := h.to ((Below.refl _ _).alloc (Nat.le_refl _) o)
theorem own1 {w : World} {base : Nat} {e : TypeId} {g cap : Nat} {a b c : Value} (h : w.ownsRow base e 3 (.slice (some ⟨g, 0, none⟩) 1 cap) 1 [a, b, c]) :
    (w.cell? ⟨g, 0, none⟩ = some a ∧ w.cell? ⟨g, 1, none⟩ = some b ∧ w.cell? ⟨g, 2, none⟩ = some c) ∧ (w.frozen? ⟨g, 0, none⟩ = false ∧ w.frozen? ⟨g, 1, none⟩ = false ∧ w.frozen? ⟨g, 2, none⟩ = false) :=
  ⟨⟨(h.cellAt 0 (by omega)).trans rfl, (h.cellAt 1 (by omega)).trans rfl, (h.cellAt 2 (by omega)).trans rfl⟩, h.frozenAt _, h.frozenAt _, h.frozenAt _⟩
/-- What a draw of a number leaves. -/
def DrewInt (w : World) (C lim : Nat) (P : Int → Prop) (e : Ending) (w' : World) : Prop := ∃ b : Int, e = .returned (.int .i64 b) ∧ P b ∧ Cur w' C lim ∧ w.grownBy w' (some C)
theorem and_255 (s : Int) (h0 : 0 ≤ s) (h1 : s < 18446744073709551616) : 0 ≤ bits .and .u64 s 255 ∧ bits .and .u64 s 255 ≤ 255 := by
  obtain ⟨n, rfl⟩ : ∃ n : Nat, s = n := ⟨s.toNat, by omega⟩
  have e : bits .and .u64 (n : Int) 255 = ((n &&& 255 : Nat) : Int) := by
    show IntKind.u64.wrap ((BitVec.ofInt 64 (n : Int) &&& BitVec.ofInt 64 (255 : Int)).toNat : Int) = _
    rw [BitVec.toNat_and]
    have a : (BitVec.ofInt 64 (n : Int)).toNat = n := by rw [BitVec.ofInt_natCast, BitVec.toNat_ofNat]; exact Nat.mod_eq_of_lt (by omega)
    have b : (BitVec.ofInt 64 (255 : Int)).toNat = 255 := by decide
    rw [a, b]
    have hx : n &&& 255 ≤ 255 := Nat.and_le_right
    unfold IntKind.wrap
    simp [IntKind.signed, IntKind.bits]
    omega
  rw [e]
  have hx : n &&& 255 ≤ 255 := Nat.and_le_right
  omega
theorem u64_bd (x : Int) : 0 ≤ IntKind.u64.wrap x ∧ IntKind.u64.wrap x < 18446744073709551616 := by
  unfold IntKind.wrap; simp [IntKind.signed, IntKind.bits]; omega
theorem own_dr {w : World} {base : Nat} {e : TypeId} {size n : Nat} {v : Value} {xs : List Value} (h : w.ownsRow base e size v n xs) (m : Nat) : (w.drewN m).ownsRow base e size v n xs := own_to h (bw_dr (Below.refl _ _) m)
/-- The end of 'next': the cursor's two numbers written. -/
theorem cur_fin (w : World) (C lim : Nat) {v : Value} (at_ : Int) {s : Int} (ho : w.ownsRow C 70 3 (.slice (some ⟨C, 0, none⟩) 1 1) 1 [v, .int .i64 at_, .int .u64 s]) (h2 : 0 ≤ at_) (h3 : at_ ≤ lim) (hv : BytesAt w C v) (b : Int) (hb0 : 0 ≤ b) (hb1 : b ≤ 255) (s' : Int)
    (hs : 0 ≤ s' ∧ s' < 18446744073709551616) (n m : Nat) {e : Ending} (he : e = .returned (.int .i64 b)) {W : World} (hW : W = (((w.drewN n).setCell ⟨C, 1, none⟩ (.int .i64 (at_ + 1))).setCell ⟨C, 2, none⟩ (.int .u64 s')).drewN m) : DrewInt w C (lim + 1) (fun b => 0 ≤ b ∧ b ≤ 255) e W := by
  subst hW
  have hCl := (ho.lt C rfl).2
  have hgb : w.grownBy ((((w.drewN n).setCell ⟨C, 1, none⟩ (.int .i64 (at_ + 1))).setCell ⟨C, 2, none⟩ (.int .u64 s')).drewN m) (some C) := gb_dr (gb_set (gb_set (gb_dr (gb_refl w C) n) 1 _) 2 _) m
  exact ⟨b, he, ⟨hb0, hb1⟩, ⟨v, at_ + 1, s', hv.keep (fun p hp => gb_cell hgb (by omega) (by omega)), by omega, by omega, hs.1, hs.2, own_dr (own_set (own_set (own_dr ho n) 1 _) 2 _) m⟩, hgb⟩
theorem w255 (x : Int) (k : Nat) : 0 ≤ wrap64 (bits .and .u64 (IntKind.u64.wrap x / (k + 1 : Nat)) 255) ∧ wrap64 (bits .and .u64 (IntKind.u64.wrap x / (k + 1 : Nat)) 255) ≤ 255 := by
  have h := u64_bd x
  have h0 : 0 ≤ IntKind.u64.wrap x / ((k + 1 : Nat) : Int) := Int.ediv_nonneg h.1 (by omega)
  have h1 : IntKind.u64.wrap x / ((k + 1 : Nat) : Int) ≤ IntKind.u64.wrap x := Int.ediv_le_self _ h.1
  have hb := and_255 (IntKind.u64.wrap x / ((k + 1 : Nat) : Int)) h0 (by omega)
  have e : wrap64 (bits .and .u64 (IntKind.u64.wrap x / ((k + 1 : Nat) : Int)) 255) = bits .and .u64 (IntKind.u64.wrap x / ((k + 1 : Nat) : Int)) 255 := by
    unfold wrap64
    omega
  rw [e]
  exact hb
set_option maxRecDepth 10000 in
set_option maxHeartbeats 2000000 in
theorem next_any (w : World) (C lim : Nat) (h : Cur w C lim) (hl : lim ≤ 2000000000000) : Calls Tryz.prog 88 #[.pointer (some ⟨C, 0, none⟩)] w (DrewInt w C (lim + 1) fun b => 0 ≤ b ∧ b ≤ 255) := by
  have hCl := h.lt
  obtain ⟨v, a, s, ⟨A, n, c, zs, rfl, rfl, hnc, hc, hr, hz⟩, h2, h3, h4, h5, ho⟩ := h
  unfold maxLen at hc
  have hz' := Lib.hid hz
  clear hz
  have hg := gb_refl w C
  have hne : ∀ ad : Addr, ad.block < C → ad.block ≠ C := fun ad h => by omega
  by_cases hlt : a < (zs.length : Int)
  · obtain ⟨k, rfl⟩ : ∃ k : Nat, a = k := ⟨a.toNat, by omega⟩
    obtain ⟨ad, u, rfl, hb, hu, hcell⟩ := hr.at_ (k := k) (by omega)
    have hkl : k < zs.length := by omega
    have hu' : u = .int .u8 zs[k] := by simpa [hkl] using hu.symm
    subst hu'
    have hzk := hz'.out _ (List.getElem_mem hkl)
    obtain ⟨z, ez⟩ : ∃ z, z = zs[k] := ⟨_, rfl⟩
    rw [← ez] at hcell hzk
    obtain ⟨hz0, hz1⟩ := hzk
    obtain ⟨⟨c0, c1, c2⟩, f0, f1, f2⟩ := own1 ho
    have Ho := Lib.hid ho
    have Hr := Lib.hid hr
    clear hu ez ho hr hne hg
    go_enter Tryz.func88, Tryz.ntmps88
    go_wp2_with fail
    go_big_quiet (fail)
    go_wp2_with fail
    go_big_quiet (fail)
    go_wp2_with fail
    go_big_quiet (fail)
    go_wp2_with fail
    go_ret
    exact cur_fin w C lim _ Ho.out (by omega) (by omega) ⟨_, _, _, zs, rfl, rfl, hnc, by unfold maxLen; omega, Hr.out, hz'.out⟩ z (by omega) (by omega) _ (u64_bd _) _ _ rfl rfl
  · have ha : (zs.length : Int) ≤ a := by omega
    have hu3 : ∀ x : Int, 0 ≤ IntKind.u64.wrap x := fun x => (u64_bd x).1
    have hu4 : ∀ x : Int, IntKind.u64.wrap x ≤ 18446744073709551615 := fun x => by have := (u64_bd x).2; omega
    obtain ⟨⟨c0, c1, c2⟩, f0, f1, f2⟩ := own1 ho
    have Ho := Lib.hid ho
    have Hr := Lib.hid hr
    clear ho hr hne hg
    go_enter Tryz.func88, Tryz.ntmps88
    go_wp2_with fail
    go_big_quiet (fail)
    go_wp2_with fail
    go_big_quiet (fail)
    go_wp2_with fail
    go_ret
    exact cur_fin w C lim a Ho.out (by omega) (by omega) ⟨_, _, _, zs, rfl, rfl, hnc, by unfold maxLen; omega, Hr.out, hz'.out⟩ _ (w255 _ 1099511627775).1 (w255 _ 1099511627775).2 _ (u64_bd _) _ _ rfl rfl
def DrewBool (w : World) (C lim : Nat) (e : Ending) (w' : World) : Prop := ∃ b : Bool, e = .returned (.bool b) ∧ Cur w' C lim ∧ w.grownBy w' (some C)
def DrewStr (w : World) (C lim : Nat) (P : ByteArray → Prop) (e : Ending) (w' : World) : Prop := ∃ s : ByteArray, e = .returned (.string s) ∧ P s ∧ Cur w' C lim ∧ w.grownBy w' (some C)
set_option maxHeartbeats 2000000 in
theorem pick_any (w : World) (C lim : Nat) (n : Int) (h : Cur w C lim) (hl : lim ≤ 1000000000000) (h1 : 1 ≤ n) (h2 : n ≤ 1000000000) : Calls Tryz.prog 56 #[.pointer (some ⟨C, 0, none⟩), .int .i64 n] w (DrewInt w C (lim + 2) fun b => 0 ≤ b ∧ b < n) := by
  have H := Lib.hid h
  clear h
  by_cases hn1 : n ≤ 1
  · go_enter Tryz.func56, Tryz.ntmps56
    go_wp2_with fail
    go_ret
    exact ⟨0, rfl, ⟨by omega, by omega⟩, H.out.more (by omega), gb_refl _ _⟩
  · by_cases hn2 : 200 < n
    · go_enter Tryz.func56, Tryz.ntmps56
      go_wp2_with fail
      refine (next_any w C lim H.out (by omega)).mono ?_; rintro e w1 ⟨b, rfl, hb, hc1, hg1⟩
      have Hc1 := Lib.hid hc1
      have Hg1 := Lib.hid hg1
      clear hc1 hg1
      obtain ⟨hb0, hb1⟩ := hb
      go_wp2_with fail
      refine (next_any w1 C (lim + 1) Hc1.out (by omega)).mono ?_; rintro e w2 ⟨b', rfl, hb', hc2, hg2⟩
      have Hc2 := Lib.hid hc2
      have Hg2 := Lib.hid hg2
      clear hc2 hg2
      obtain ⟨hb0', hb1'⟩ := hb'
      go_wp2_with fail
      go_ret
      refine ⟨_, rfl, ⟨?_, ?_⟩, Hc2.out, gb_tr Hg1.out Hg2.out⟩
      · first | exact Int.emod_nonneg _ (by omega) | exact Int.tmod_nonneg _ (by omega)
      · first | exact Int.emod_lt_of_pos _ (by omega) | exact Int.tmod_lt_of_pos _ (by omega)
    · go_enter Tryz.func56, Tryz.ntmps56
      go_wp2_with fail
      refine (next_any w C lim H.out (by omega)).mono ?_; rintro e w1 ⟨b, rfl, hb, hc1, hg1⟩
      have Hc1 := Lib.hid hc1
      have Hg1 := Lib.hid hg1
      clear hc1 hg1
      obtain ⟨hb0, hb1⟩ := hb
      go_wp2_with fail
      go_ret
      refine ⟨_, rfl, ⟨?_, ?_⟩, Hc1.out.more (by omega), Hg1.out⟩
      · first | exact Int.emod_nonneg _ (by omega) | exact Int.tmod_nonneg _ (by omega)
      · first | exact Int.emod_lt_of_pos _ (by omega) | exact Int.tmod_lt_of_pos _ (by omega)
theorem one_any (w : World) (C lim : Nat) (n : Int) (h : Cur w C lim) (hl : lim ≤ 1000000000000) (h1 : 1 ≤ n) (h2 : n ≤ 1000000000) : Calls Tryz.prog 36 #[.pointer (some ⟨C, 0, none⟩), .int .i64 n] w (DrewBool w C (lim + 2)) := by
  have H := Lib.hid h
  clear h
  go_enter Tryz.func36, Tryz.ntmps36
  go_wp2_with fail
  refine (pick_any w C lim n H.out hl h1 h2).mono ?_; rintro e w1 ⟨b, rfl, hb, hc1, hg1⟩
  have Hc1 := Lib.hid hc1
  have Hg1 := Lib.hid hg1
  clear hc1 hg1 hb
  go_wp2_with fail
  go_ret
  exact ⟨_, rfl, Hc1.out, Hg1.out⟩
theorem among_any (w : World) (C lim : Nat) (g n : Nat) (zs : List Int) (h : Cur w C lim) (hl : lim ≤ 1000000000000) (hn : zs.length = n) (h1 : 1 ≤ n) (h2 : n ≤ 1000000) (hz : w.heap[g]? = some (.cells (zs.map (Value.int .i64)).toArray 3 (0, 0))) (hg : g ≠ C) :
    Calls Tryz.prog 37 #[.pointer (some ⟨C, 0, none⟩), .slice (some ⟨g, 0, none⟩) n n] w (DrewInt w C (lim + 2) fun b => b ∈ zs) := by
  subst hn
  have H := Lib.hid h
  clear h
  have hgl : g < w.heap.size := (Array.getElem?_eq_some_iff.1 hz).1
  have Hz := Lib.hid hz
  clear hz
  go_enter Tryz.func37, Tryz.ntmps37
  go_wp2_with fail
  refine (pick_any w C lim zs.length H.out hl (by omega) (by omega)).mono ?_; rintro e w1 ⟨b, rfl, hb, hc1, hg1⟩
  obtain ⟨k, rfl⟩ : ∃ k : Nat, b = k := ⟨b.toNat, by omega⟩
  have hk : k < zs.length := by omega
  have hcell : w1.cell? ⟨g, k, none⟩ = some (.int .i64 zs[k]) := by
    rw [heap_cell ((hg1.block g hgl (fun x => hg (by injection x))).trans Hz.out)]
    simp [hk]
  have Hc1 := Lib.hid hc1
  have Hg1 := Lib.hid hg1
  clear hc1 hg1 hb
  go_wp2_with fail
  go_ret
  exact ⟨_, rfl, List.getElem_mem hk, Hc1.out, Hg1.out⟩
/-- Of a list laid just ahead. -/
theorem among_lit (W : World) (C lim n : Nat) (zs : List Int) (h : Cur W C lim) (hl : lim ≤ 1000000000000) (hn : zs.length = n) (h1 : 1 ≤ n) (h2 : n ≤ 1000000) :
    Calls Tryz.prog 37 #[.pointer (some ⟨C, 0, none⟩), .slice (some ⟨W.heap.size, 0, none⟩) n n] (W.alloc (.cells (zs.map (Value.int .i64)).toArray 3)) (DrewInt W C (lim + 2) fun b => b ∈ zs) := by
  refine (among_any _ C lim W.heap.size n zs (h.al _) hl hn h1 h2 (heap_new W _) (Nat.ne_of_gt h.lt)).mono ?_
  rintro e w' ⟨b, he, hb, hc, hg⟩
  exact ⟨b, he, hb, hc, gb_tr (gb_al (gb_refl _ _) _) hg⟩
theorem among_at (W : World) (C lim n g : Nat) (zs : List Int) (hg : g = W.heap.size) (h : Cur W C lim) (hl : lim ≤ 1000000000000) (hn : zs.length = n) (h1 : 1 ≤ n) (h2 : n ≤ 1000000) :
    Calls Tryz.prog 37 #[.pointer (some ⟨C, 0, none⟩), .slice (some ⟨g, 0, none⟩) n n] (W.alloc (.cells (zs.map (Value.int .i64)).toArray 3)) (DrewInt W C (lim + 2) fun b => b ∈ zs) := by
  subst hg; exact among_lit W C lim n zs h hl hn h1 h2
theorem of_any (w : World) (C lim : Nat) (g n : Nat) (zs : List ByteArray) (h : Cur w C lim) (hl : lim ≤ 1000000000000) (hn : zs.length = n) (h1 : 1 ≤ n) (h2 : n ≤ 1000000) (hz : w.heap[g]? = some (.cells (zs.map Value.string).toArray 9 (0, 0))) (hg : g ≠ C) :
    Calls Tryz.prog 99 #[.pointer (some ⟨C, 0, none⟩), .slice (some ⟨g, 0, none⟩) n n] w (DrewStr w C (lim + 2) fun b => b ∈ zs) := by
  subst hn
  have H := Lib.hid h
  clear h
  have hgl : g < w.heap.size := (Array.getElem?_eq_some_iff.1 hz).1
  have Hz := Lib.hid hz
  clear hz
  go_enter Tryz.func99, Tryz.ntmps99
  go_wp2_with fail
  refine (pick_any w C lim zs.length H.out hl (by omega) (by omega)).mono ?_; rintro e w1 ⟨b, rfl, hb, hc1, hg1⟩
  obtain ⟨k, rfl⟩ : ∃ k : Nat, b = k := ⟨b.toNat, by omega⟩
  have hk : k < zs.length := by omega
  have hcell : w1.cell? ⟨g, k, none⟩ = some (.string zs[k]) := by
    rw [heap_cell ((hg1.block g hgl (fun x => hg (by injection x))).trans Hz.out)]
    simp [hk]
  have Hc1 := Lib.hid hc1
  have Hg1 := Lib.hid hg1
  clear hc1 hg1 hb
  go_wp2_with fail
  go_ret
  exact ⟨_, rfl, List.getElem_mem hk, Hc1.out, Hg1.out⟩
theorem of_lit (W : World) (C lim n : Nat) (zs : List ByteArray) (h : Cur W C lim) (hl : lim ≤ 1000000000000) (hn : zs.length = n) (h1 : 1 ≤ n) (h2 : n ≤ 1000000) :
    Calls Tryz.prog 99 #[.pointer (some ⟨C, 0, none⟩), .slice (some ⟨W.heap.size, 0, none⟩) n n] (W.alloc (.cells (zs.map Value.string).toArray 9)) (DrewStr W C (lim + 2) fun b => b ∈ zs) := by
  refine (of_any _ C lim W.heap.size n zs (h.al _) hl hn h1 h2 (heap_new W _) (Nat.ne_of_gt h.lt)).mono ?_
  rintro e w' ⟨b, he, hb, hc, hg⟩
  exact ⟨b, he, hb, hc, gb_tr (gb_al (gb_refl _ _) _) hg⟩
theorem of_at (W : World) (C lim n g : Nat) (zs : List ByteArray) (hg : g = W.heap.size) (h : Cur W C lim) (hl : lim ≤ 1000000000000) (hn : zs.length = n) (h1 : 1 ≤ n) (h2 : n ≤ 1000000) :
    Calls Tryz.prog 99 #[.pointer (some ⟨C, 0, none⟩), .slice (some ⟨g, 0, none⟩) n n] (W.alloc (.cells (zs.map Value.string).toArray 9)) (DrewStr W C (lim + 2) fun b => b ∈ zs) := by
  subst hg; exact of_lit W C lim n zs h hl hn h1 h2
end Go.Proofs.YtofpjbdelmmclaaGreatDoor

/- A law's arguments opened: bytes. -/
namespace Go.Proofs.YtofpjbdelmmclaaGreatDoor
open Go Go.RowKit Go.WideShapes Go.ChangeShapes Go.ChangeAt Go.Joins Go.Deep
set_option linter.unusedVariables false
set_option linter.unusedSimpArgs false
set_option maxRecDepth 100000
section
variable {H : Type} {enc : TypeId × Value → H} {w : World} {base : Nat} {spare : Nat → Bool} {held : Bool}
theorem cells_u8 : Tryz.prog.cellsOf 5 = 1 := by kernel_rfl
theorem u8_bd {n : Int} (h : (Lit.int .u8 n).wf = true) : 0 ≤ n ∧ n ≤ 255 := by
  simpa [Lit.wf, IntKind.min, IntKind.max, IntKind.signed, IntKind.bits] using h
theorem op_Bytes {b0 : Nat} {r : Reach} {v : Value} {d : DataW H} {p : List MemPlace} (hv : Value.okWide Tryz.prog w r b0 22 v) (h : DataW.Trod enc Tryz.prog w base spare held 22 v d p) :
    ∃ k : Nat, BytesAt w w.heap.size v := by
  obtain ⟨a, l, c, rfl⟩ := okWide_slice Tryz.underlying22 hv
  obtain ⟨n, hn⟩ := h
  obtain ⟨v', e, xs, hsl, hg⟩ := rd_slice (C := fun z : Int => [Value.int .u8 z]) (good := fun z => 0 ≤ z ∧ z ≤ 255) Tryz.underlying22 cells_u8 (by omega)
    (fun n cs y hy => by obtain ⟨z, e, _, wf⟩ := DataW.trod_int Tryz.underlying5 hy; exact ⟨z, e, u8_bd wf⟩) hn
  simp only [Value.cells, List.cons.injEq, and_true] at e
  subst e
  obtain ⟨A, c', e, h1, h2, hr⟩ := hsl
  refine ⟨0, A, _, c', xs, e, rfl, h1, h2, ?_, hg⟩
  rw [← List.flatMap_singleton' (xs.map _), List.flatMap_map]
  exact hr
end
end Go.Proofs.YtofpjbdelmmclaaGreatDoor

/- Contracts of the library laid at this program (the kit's shelf, its plain mode). -/
namespace Go.Proofs
open Go.Shelf
def Tryz.lays156_ren : Go.Shelf.Ren := ⟨fun | 156 => 91 | 165 => 121 | 166 => 122 | 169 => 123 | 240 => 153 | 241 => 154 | 276 => 187 | 277 => 188 | n => n, fun | 31 => 24 | 9 => 9 | 3 => 3 | 4 => 4 | 0 => 0 | 20 => 20 | 72 => 135 | 76 => 139 | 70 => 133 | 37 => 22 | 75 => 138 | 127 => 157 | 164 => 176 | 5 => 5 | 80 => 117 | n => n, fun | n => n⟩
theorem Tryz.lays156 : Go.Proofs.Lays.n156 Tryz.prog Tryz.lays156_ren := {
  mixed := by kernel_rfl
  f156 := Tryz.func91.trans (congrArg some (by kernel_rfl))
  f165 := Tryz.func121.trans (congrArg some (by kernel_rfl))
  f166 := Tryz.func122.trans (congrArg some (by kernel_rfl))
  f169 := Tryz.func123.trans (congrArg some (by kernel_rfl))
  f240 := Tryz.func153.trans (congrArg some (by kernel_rfl))
  f241 := Tryz.func154.trans (congrArg some (by kernel_rfl))
  f276 := Tryz.func187.trans (congrArg some (by kernel_rfl))
  f277 := Tryz.func188.trans (congrArg some (by kernel_rfl))
  t0 := Tryz.underlying0
  a0 := Tryz.isAgg0
  z0 := Tryz.sizeOf0
  v0 := Tryz.zeroValue0
  t3 := Tryz.underlying3
  a3 := Tryz.isAgg3
  z3 := Tryz.sizeOf3
  v3 := Tryz.zeroValue3
  t4 := Tryz.underlying4
  a4 := Tryz.isAgg4
  z4 := Tryz.sizeOf4
  v4 := Tryz.zeroValue4
  t9 := Tryz.underlying9
  a9 := Tryz.isAgg9
  z9 := Tryz.sizeOf9
  v9 := Tryz.zeroValue9
  t20 := Tryz.underlying20
  a20 := Tryz.isAgg20
  z20 := Tryz.sizeOf20
  v20 := Tryz.zeroValue20
  t31 := Tryz.underlying24
  a31 := Tryz.isAgg24
  z31 := Tryz.sizeOf24
  v31 := Tryz.zeroValue24
  t37 := Tryz.underlying22
  a37 := Tryz.isAgg22
  z37 := Tryz.sizeOf22
  v37 := Tryz.zeroValue22
  t70 := Tryz.underlying133
  a70 := Tryz.isAgg133
  z70 := Tryz.sizeOf133
  v70 := Tryz.zeroValue133
  t72 := Tryz.underlying135
  a72 := Tryz.isAgg135
  z72 := Tryz.sizeOf135
  v72 := Tryz.zeroValue135
  t75 := Tryz.underlying138
  a75 := Tryz.isAgg138
  z75 := Tryz.sizeOf138
  v75 := Tryz.zeroValue138
  t76 := Tryz.underlying139
  a76 := Tryz.isAgg139
  z76 := Tryz.sizeOf139
  v76 := Tryz.zeroValue139
  t127 := Tryz.underlying157
  a127 := Tryz.isAgg157
  z127 := Tryz.sizeOf157
  v127 := Tryz.zeroValue157
  t164 := Tryz.underlying176
  a164 := Tryz.isAgg176
  z164 := Tryz.sizeOf176
  v164 := Tryz.zeroValue176 }
theorem Tryz.Builder_Extra_156 : Builder.Extra Tryz.prog Tryz.lays156_ren := {
  sizeBuilder := by kernel_rfl
  liesBuilder := by kernel_rfl
  t5 := Tryz.underlying5
  a5 := Tryz.isAgg5
  z5 := Tryz.sizeOf5
  v5 := Tryz.zeroValue5
  infoByte := by kernel_rfl
  cellsByte := by kernel_rfl
  sizeByte := by kernel_rfl
  neB5 := by decide }
open Go.RowKit in
theorem Tryz.strings_Join_none (a : Option Addr) (c : Nat) (sep : ByteArray) (w : World) :
    Calls Tryz.prog 91 #[.slice a 0 c, .string sep] w fun e w' => e = .returned (.string ⟨#[]⟩) ∧ w' = w := Any.strings_Join_none Tryz.lays156 Tryz.Builder_Extra_156 a c sep w
open Go.RowKit in
theorem Tryz.strings_Join (bk o c : Nat) (xs : List ByteArray) (sep : ByteArray) (w : World) (hcells : ∀ (j : Nat) x, xs[j]? = some x → w.cell? ⟨bk, o + j, none⟩ = some (.string x)) (hbk : bk < w.heap.size) (hN : xs.length ≤ 140737488355328) (hcap : xs.length ≤ c) (hlen : (Lib.join (xs.map (·.data.toList)) sep.data.toList).length ≤ 140737488355328) :
    Calls Tryz.prog 91 #[.slice (some ⟨bk, o, none⟩) xs.length c, .string sep] w fun e w' => e = .returned (.string ⟨(Lib.join (xs.map (·.data.toList)) sep.data.toList).toArray⟩) ∧ Below w.heap.size w w' := Any.strings_Join Tryz.lays156 Tryz.Builder_Extra_156 bk o c xs sep w hcells hbk hN hcap hlen
def Tryz.laysM171_ren : Go.Shelf.Ren := ⟨fun | 171 => 90 | 243 => 120 | 246 => 152 | 283 => 183 | 284 => 184 | 285 => 185 | 286 => 186 | 129 => 206 | 317 => 205 | 318 => 207 | 319 => 208 | 320 => 209 | 337 => 212 | 338 => 213 | n => n, fun | 3 => 3 | 9 => 9 | 2 => 2 | 4 => 4 | 171 => 171 | 0 => 0 | 53 => 68 | 37 => 22 | 5 => 5 | 173 => 174 | 212 => 197 | 51 => 193 | 20 => 20 | 213 => 198 | 46 => 66 | 232 => 202 | 233 => 203 | n => n, fun | 17 => 3 | 18 => 4 | 19 => 5 | n => n⟩
theorem Tryz.laysM171 : Go.Proofs.LaysM.n171 Tryz.prog Tryz.laysM171_ren := {
  mixed := by kernel_rfl
  f129 := Tryz.func206.trans (congrArg some (by kernel_rfl))
  f171 := Tryz.func90.trans (congrArg some (by kernel_rfl))
  f243 := Tryz.func120.trans (congrArg some (by kernel_rfl))
  f246 := Tryz.func152.trans (congrArg some (by kernel_rfl))
  f283 := Tryz.func183.trans (congrArg some (by kernel_rfl))
  f284 := Tryz.func184.trans (congrArg some (by kernel_rfl))
  f285 := Tryz.func185.trans (congrArg some (by kernel_rfl))
  f286 := Tryz.func186.trans (congrArg some (by kernel_rfl))
  f317 := Tryz.func205.trans (congrArg some (by kernel_rfl))
  f318 := Tryz.func207.trans (congrArg some (by kernel_rfl))
  f319 := Tryz.func208.trans (congrArg some (by kernel_rfl))
  f320 := Tryz.func209.trans (congrArg some (by kernel_rfl))
  f337 := Tryz.func212.trans (congrArg some (by kernel_rfl))
  f338 := Tryz.func213.trans (congrArg some (by kernel_rfl))
  t0 := Tryz.underlying0
  a0 := Tryz.isAgg0
  z0 := Tryz.sizeOf0
  v0 := Tryz.zeroValue0
  t2 := Tryz.underlying2
  a2 := Tryz.isAgg2
  z2 := Tryz.sizeOf2
  v2 := Tryz.zeroValue2
  t3 := Tryz.underlying3
  a3 := Tryz.isAgg3
  z3 := Tryz.sizeOf3
  v3 := Tryz.zeroValue3
  t4 := Tryz.underlying4
  a4 := Tryz.isAgg4
  z4 := Tryz.sizeOf4
  v4 := Tryz.zeroValue4
  t5 := Tryz.underlying5
  a5 := Tryz.isAgg5
  z5 := Tryz.sizeOf5
  v5 := Tryz.zeroValue5
  t9 := Tryz.underlying9
  a9 := Tryz.isAgg9
  z9 := Tryz.sizeOf9
  v9 := Tryz.zeroValue9
  t20 := Tryz.underlying20
  a20 := Tryz.isAgg20
  z20 := Tryz.sizeOf20
  v20 := Tryz.zeroValue20
  t37 := Tryz.underlying22
  a37 := Tryz.isAgg22
  z37 := Tryz.sizeOf22
  v37 := Tryz.zeroValue22
  t46 := Tryz.underlying66
  a46 := Tryz.isAgg66
  z46 := Tryz.sizeOf66
  v46 := Tryz.zeroValue66
  t51 := Tryz.underlying193
  a51 := Tryz.isAgg193
  z51 := Tryz.sizeOf193
  v51 := Tryz.zeroValue193
  t53 := Tryz.underlying68
  a53 := Tryz.isAgg68
  z53 := Tryz.sizeOf68
  v53 := Tryz.zeroValue68
  t171 := Tryz.underlying171
  a171 := Tryz.isAgg171
  z171 := Tryz.sizeOf171
  v171 := Tryz.zeroValue171
  t173 := Tryz.underlying174
  a173 := Tryz.isAgg174
  z173 := Tryz.sizeOf174
  v173 := Tryz.zeroValue174
  t212 := Tryz.underlying197
  a212 := Tryz.isAgg197
  z212 := Tryz.sizeOf197
  v212 := Tryz.zeroValue197
  t213 := Tryz.underlying198
  a213 := Tryz.isAgg198
  z213 := Tryz.sizeOf198
  t232 := Tryz.underlying202
  a232 := Tryz.isAgg202
  z232 := Tryz.sizeOf202
  v232 := Tryz.zeroValue202
  t233 := Tryz.underlying203
  a233 := Tryz.isAgg203
  z233 := Tryz.sizeOf203
  v233 := Tryz.zeroValue203
  g17 := by kernel_rfl
  g18 := by kernel_rfl
  g19 := by kernel_rfl
  i0 := by kernel_rfl
  i2 := by kernel_rfl
  i3 := by kernel_rfl
  i4 := by kernel_rfl
  i5 := by kernel_rfl
  i9 := by kernel_rfl
  i20 := by kernel_rfl
  i37 := by kernel_rfl
  i46 := by kernel_rfl
  i51 := by kernel_rfl
  i53 := by kernel_rfl
  i171 := by kernel_rfl
  i173 := by kernel_rfl
  i212 := by kernel_rfl
  i232 := by kernel_rfl
  i233 := by kernel_rfl
  m17 := by kernel_rfl
  m18 := by kernel_rfl
  m19 := by kernel_rfl }
open Go.RowKit Go.Sort Go.Lib in
theorem Tryz.strconv_Itoa (n : Int) (h0 : -9223372036854775808 ≤ n) (h1 : n ≤ 9223372036854775807) (w : World) (htab : Lib.TabIs Tryz.prog w "internal/strconv.uint64pow10" .u64 Lib.pow10Tab) :
    Calls Tryz.prog 90 #[.int .i64 n] w fun e w' => e = .returned (.string ⟨(Lib.itoa n).toArray⟩) ∧ ∃ k os, w' = grow (w.drewN k) os := Any.strconv_Itoa Tryz.laysM171 n h0 h1 w htab
def Tryz.lays145_ren : Go.Shelf.Ren := ⟨fun | 145 => 82 | 220 => 116 | 219 => 150 | 217 => 179 | 225 => 180 | 224 => 181 | 267 => 182 | 266 => 203 | 314 => 204 | n => n, fun | 9 => 9 | 4 => 4 | 59 => 106 | 3 => 3 | 5 => 5 | 46 => 66 | 146 => 194 | 51 => 193 | n => n, fun | 1 => 0 | n => n⟩
theorem Tryz.lays145 : Go.Proofs.Lays.n145 Tryz.prog Tryz.lays145_ren := {
  mixed := by kernel_rfl
  f145 := Tryz.func82.trans (congrArg some (by kernel_rfl))
  f217 := Tryz.func179.trans (congrArg some (by kernel_rfl))
  f219 := Tryz.func150.trans (congrArg some (by kernel_rfl))
  f220 := Tryz.func116.trans (congrArg some (by kernel_rfl))
  f224 := Tryz.func181.trans (congrArg some (by kernel_rfl))
  f225 := Tryz.func180.trans (congrArg some (by kernel_rfl))
  f266 := Tryz.func203.trans (congrArg some (by kernel_rfl))
  f267 := Tryz.func182.trans (congrArg some (by kernel_rfl))
  f314 := Tryz.func204.trans (congrArg some (by kernel_rfl))
  t3 := Tryz.underlying3
  a3 := Tryz.isAgg3
  z3 := Tryz.sizeOf3
  v3 := Tryz.zeroValue3
  t4 := Tryz.underlying4
  a4 := Tryz.isAgg4
  z4 := Tryz.sizeOf4
  v4 := Tryz.zeroValue4
  t5 := Tryz.underlying5
  a5 := Tryz.isAgg5
  z5 := Tryz.sizeOf5
  v5 := Tryz.zeroValue5
  t9 := Tryz.underlying9
  a9 := Tryz.isAgg9
  z9 := Tryz.sizeOf9
  v9 := Tryz.zeroValue9
  t46 := Tryz.underlying66
  a46 := Tryz.isAgg66
  z46 := Tryz.sizeOf66
  v46 := Tryz.zeroValue66
  t51 := Tryz.underlying193
  a51 := Tryz.isAgg193
  z51 := Tryz.sizeOf193
  v51 := Tryz.zeroValue193
  t59 := Tryz.underlying106
  a59 := Tryz.isAgg106
  z59 := Tryz.sizeOf106
  v59 := Tryz.zeroValue106
  t146 := Tryz.underlying194
  a146 := Tryz.isAgg194
  z146 := Tryz.sizeOf194
  v146 := Tryz.zeroValue194
  g1 := by kernel_rfl }
open Go.RowKit Go.Lib in
theorem Tryz.strings_Cut (s sep : ByteArray) (m : Int) (w : World) (hs : s.size < 4294967281) (hm : w.cell? ⟨0, 0, none⟩ = some (.int .i64 m)) :
    Calls Tryz.prog 82 #[.string s, .string sep] w fun e w' => e = .returned (.tuple #[.string ⟨(Lib.cut s.data.toList sep.data.toList).1.toArray⟩, .string ⟨(Lib.cut s.data.toList sep.data.toList).2.1.toArray⟩, .bool (Lib.cut s.data.toList sep.data.toList).2.2]) ∧ ∃ n, w' = w.drewN n := Any.strings_Cut Tryz.lays145 s sep m w hs hm
end Go.Proofs
