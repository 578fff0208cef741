/- Contracts: who asks for a repair, and the least touch, the specification's. -/
import Derived.Test.YtjiiflpoiaaccaaGreatPk32
import Derived.Test.YtjiiflpoiaaccaaGreatPk30
namespace Go.Proofs.YtjiiflpoiaaccaaGreat
open Go Go.RowKit
set_option linter.unusedVariables false
set_option linter.unusedSimpArgs false

set_option maxRecDepth 10000 in
set_option maxHeartbeats 400000 in
theorem l1Row_yes (n : Nat) (r : ByteArray) (w : World) (hn : n ≤ 8) (h3 : 3 ≤ n) (h : PermR n r) : Calls Tryz.prog 279 #[.string r] w fun e w' => e = .returned (.bool true) ∧ Below w.heap.size w w' := by
  have hri := perm_in hn h
  have hrs := hri.1
  have hnd := perm_nodup hn h
  have Hin := Lib.hid (fun p (h : p < r.size) => (by have := hri.at_ h; omega : 49 ≤ r[p].toNat ∧ r[p].toNat ≤ 48 + r.size))
  have Hne := Lib.hid (fun p q (hp : p < r.size) (hq : q < r.size) (hpq : p < q) (e : r[p].toNat = r[q].toNat) => (by
    have := nd_inj hnd (by rw [bytes_len]; exact hp) (by rw [bytes_len]; exact hq) (UInt8.toNat_inj.1 e : r[p] = r[q])
    omega : False))
  have HI := Lib.hid (fun W => l1In_any (r.size : Int) 3 8 W)
  rw [show decide (3 ≤ (r.size : Int) ∧ (r.size : Int) ≤ 8) = true by simp; omega] at HI
  have hr8 : r.size ≤ 8 := by omega
  clear h hri hnd hrs hn h3
  go_enter Tryz.func279, Tryz.ntmps279
  go_wp2_with (go_at_call 97; refine (HI.out _).mono ?_; rintro e w' ⟨rfl, rfl⟩)
  go_loopw [3] (fun x wr => ∃ k : Nat, k ≤ r.size ∧ x = .int .i64 k ∧ Below w.heap.size w wr) (fun x _ => r.size - (intOf x).toNat)
  case atStart => exact ⟨0, by omega, rfl, Below.refl _ _⟩
  case round =>
    obtain ⟨k, hk, rfl, hB⟩ := hrel
    by_cases hlt : k < r.size
    · have hin := Hin.out k hlt
      have h1 : ¬ (r[k].toNat : Int) < 49 := by omega
      have hlt8 := r[k].toNat_lt
      have hv : IntKind.u8.wrap ((r[k].toNat : Int) - 48) = (r[k].toNat : Int) - 48 := IntWalk.u8_in _ ⟨by omega, by omega⟩
      have h2 : ¬ (r.size : Int) < (r[k].toNat : Int) - 48 := by omega
      have hd2 : decide ((r.size : Int) < (r[k].toNat : Int) - 48) = false := by simp; omega
      have hd1 : decide ((r[k].toNat : Int) < 49) = false := by simp; omega
      go_wp2_with fail
      obtain ⟨wo, hwo⟩ : ∃ wo : World, wo = wr := ⟨_, rfl⟩
      go_loopw [4] (fun x w' => ∃ q : Nat, q ≤ k ∧ x = .int .i64 q ∧ Below w.heap.size w w') (fun x _ => k - (intOf x).toNat)
      case atStart => exact ⟨0, by omega, rfl, hB⟩
      case round =>
        obtain ⟨q, hq, rfl, hB2⟩ := hrel
        by_cases hlt2 : q < k
        · have hqr : q < r.size := by omega
          have hne : ¬ (r[q].toNat : Int) = (r[k].toNat : Int) := fun e => Hne.out q k hqr hlt hlt2 (by omega)
          have hne2 : ((r[q].toNat : Int) == (r[k].toNat : Int)) = false := by simpa using hne
          have hq0 : (q : Int) < (k : Int) := by omega
          go_wp2_with fail
          go_big_quiet (fail)
          go_wp2_with fail
          exact ⟨⟨q + 1, by omega, by go_num, bw_dr hB2 _⟩, by simp [intOf]; omega⟩
        · obtain rfl : q = k := by omega
          go_wp2_with fail
          exact ⟨⟨q + 1, by omega, by go_num, hB2⟩, by simp [intOf]; omega⟩
    · obtain rfl : k = r.size := by omega
      go_wp2_with fail
      go_ret
      exact ⟨rfl, hB⟩
theorem l1Two_yes (n : Nat) (a b : ByteArray) (w : World) (hn : n ≤ 8) (h3 : 3 ≤ n) (ha : PermR n a) (hb : PermR n b) : Calls Tryz.prog 259 #[.string a, .string b] w fun e w' => e = .returned (.bool true) ∧ Below w.heap.size w w' := by
  have HA := Lib.hid (fun W => l1Row_yes n a W hn h3 ha)
  have HB := Lib.hid (fun W => l1Row_yes n b W hn h3 hb)
  have has := (perm_in hn ha).1
  have hbs := (perm_in hn hb).1
  have hab : (a.size : Int) = (b.size : Int) := by omega
  have hab2 : ((a.size : Int) == (b.size : Int)) = true := by simpa using hab
  clear ha hb has hbs
  go_enter Tryz.func259, Tryz.ntmps259
  go_wp2_with fail
  refine (HA.out _).mono ?_; rintro e w1 ⟨rfl, hb1⟩
  go_wp2_with fail
  refine (HB.out _).mono ?_; rintro e w2 ⟨rfl, hb2⟩
  go_wp2_with fail
  go_ret
  exact ⟨rfl, hb1.trans (hb2.mono hb1.size)⟩
theorem l15Good_any (m : Mt) (v : Value) (w : World) (h : MethAt w m v) (hs : MtSmall m) (hm : methB m = true) : Calls Tryz.prog 258 #[m.v v] w fun e w' => e = .returned (.bool (decide (4 ≤ m.stage))) ∧ Below w.heap.size w w' := by
  have HM := Lib.hid (fun W (hW : Below w.heap.size w W) => l4Good_any m v W (h.to hW) hs)
  rw [hm] at HM
  obtain ⟨A, q, hv⟩ := h.form
  subst hv
  unfold Mt.v at *
  obtain ⟨d, hd⟩ : ∃ d, d = decide (4 ≤ m.stage) := ⟨_, rfl⟩
  rw [← hd]
  have hd2 : decide (4 ≤ m.stage) = d := hd.symm
  have hd3 : decide (m.stage ≥ 4) = d := hd.symm
  clear hd h hs hm
  go_enter Tryz.func258, Tryz.ntmps258
  go_wp2_with fail
  refine box1 (C := fun W => Calls _ _ _ W _) ?_
  intro wb hw k1 hB0
  have R1 := boxRule k1
  refine (HM.out _ hw).mono ?_; rintro e w1 ⟨rfl, hb1⟩
  have r1 := fun i => R1 w1 i hb1
  clear k1
  go_wp2_with fail
  go_ret
  exact ⟨by first | rfl | rw [hd2], bw_to hw hb1⟩
set_option maxRecDepth 10000 in
set_option maxHeartbeats 800000 in
theorem l15Asked_any (m : Mt) (v : Value) (k : Cl) (n : Nat) (fr tg : ByteArray) (w : World) (hg : CGood m k n) (hc : callsB m k = true) (hf : PermR n fr) (ht : PermR n tg) (h : MethAt w m v) (hs : MtSmall m) (hk : ClSmall k) : Calls Tryz.prog 188 #[m.v v, k.v, .string fr, .string tg] w fun e w' => e = .returned (.bool (decide (4 ≤ m.stage) && !decide (fr = tg))) ∧ Below w.heap.size w w' := by
  have hmb : methB m = true := by unfold callsB at hc; rw [Bool.and_eq_true] at hc; exact hc.1
  have HG := Lib.hid (fun W (hW : Below w.heap.size w W) => l15Good_any m v W (h.to hW) hs hmb)
  have HC := Lib.hid (fun W (hW : Below w.heap.size w W) => l8Good_any m v k W (h.to hW) hs hk)
  rw [hc] at HC
  have HT := Lib.hid (fun W => l1Two_yes n fr tg W hg.m.hi hg.m.lo hf ht)
  have hfs := (perm_in hg.m.hi hf).1
  have hsn : (fr.size : Int) = m.stage := by rw [hg.m.st, hfs]
  have hsn2 : ((fr.size : Int) == m.stage) = true := by simpa using hsn
  obtain ⟨A, q, hv⟩ := h.form
  subst hv
  unfold Mt.v Cl.v at *
  have he : (!(fr.toList == tg.toList)) = !decide (fr = tg) := by rw [str_beq]
  obtain ⟨d, hd⟩ : ∃ d, d = decide (4 ≤ m.stage) := ⟨_, rfl⟩
  rw [← hd]
  simp only [← hd] at HG
  obtain ⟨e1, he1⟩ : ∃ d, d = !decide (fr = tg) := ⟨_, rfl⟩
  rw [← he1]
  rw [← he1] at he
  clear hd h hs hk hmb hc hf ht hg hfs he1
  cases d
  · go_enter Tryz.func188, Tryz.ntmps188
    go_wp2_with fail
    refine box2 (C := fun W => Calls _ _ _ W _) ?_
    intro wb hw k1 k2 hB0
    have R1 := boxRule k1
    have R2 := boxRule k2
    refine (HG.out _ hw).mono ?_; rintro e w1 ⟨rfl, hb1⟩
    clear k1 k2
    go_wp2_with fail
    go_ret
    exact ⟨by rw [Bool.false_and]; rfl, bw_to hw hb1⟩
  · go_enter Tryz.func188, Tryz.ntmps188
    go_wp2_with fail
    refine box2 (C := fun W => Calls _ _ _ W _) ?_
    intro wb hw k1 k2 hB0
    have R1 := boxRule k1
    have R2 := boxRule k2
    refine (HG.out _ hw).mono ?_; rintro e w1 ⟨rfl, hb1⟩
    have r1 := fun i => R1 w1 i hb1
    have r2 := fun i => R2 w1 i hb1
    clear k1 k2
    go_wp2_with fail
    refine (HC.out _ (bw_to hw hb1)).mono ?_; rintro e w2 ⟨rfl, hb2⟩
    go_wp2_with fail
    refine (HT.out _).mono ?_; rintro e w3 ⟨rfl, hb3⟩
    have hB3 := bw_to (bw_to hb1 hb2) hb3
    have r3 := fun i => R1 w3 i hB3
    go_wp2_with fail
    go_ret
    exact ⟨by first | (rw [Bool.true_and, ← he]; rfl) | (rw [Bool.true_and]; rfl), bw_to hw hB3⟩
end Go.Proofs.YtjiiflpoiaaccaaGreat

/- What is new, sorted and each once: plain. -/
namespace Go.Proofs.YtjiiflpoiaaccaaGreat
open Go Go.RowKit
set_option linter.unusedVariables false
set_option linter.unusedSimpArgs false

structure Dd (S Z : List ByteArray) (k : Nat) (O : List ByteArray) : Prop where
  s : SortedS O
  n : O.Nodup
  m : ∀ x, x ∈ O ↔ x ∈ Z.take k ∧ x ∉ S
theorem Dd.zero (S Z : List ByteArray) : Dd S Z 0 [] := ⟨List.Pairwise.nil, List.nodup_nil, fun x => by simp⟩
theorem take_low {Z : List ByteArray} (hZ : SortedS Z) {k : Nat} (hk : k < Z.length) {x : ByteArray} (hx : x ∈ Z.take k) : nmLt Z[k] x = false := by
  obtain ⟨i, hi, rfl⟩ := List.mem_iff_getElem.1 hx
  rw [List.getElem_take]
  rw [List.length_take] at hi
  exact List.pairwise_iff_getElem.1 hZ i k (by omega) hk (by omega)
theorem Dd.last {S Z O : List ByteArray} {k : Nat} (h : Dd S Z k O) (hZ : SortedS Z) (hk : k < Z.length) (h0 : 0 < O.length) : O[O.length - 1] = Z[k] ↔ Z[k] ∈ O := by
  constructor
  · intro e; rw [← e]; exact List.getElem_mem _
  · intro hm
    obtain ⟨i, hi, e⟩ := List.mem_iff_getElem.1 hm
    by_cases hil : i = O.length - 1
    · subst hil; exact e
    · have h1 := List.pairwise_iff_getElem.1 h.s i (O.length - 1) hi (by omega) (by omega)
      have h2 := take_low hZ hk ((h.m _).1 (List.getElem_mem (by omega : O.length - 1 < O.length))).1
      rw [e] at h1
      exact sl_tot h1 h2
theorem Dd.add {S Z O : List ByteArray} {k : Nat} (h : Dd S Z k O) (hZ : SortedS Z) (hk : k < Z.length) (hno : Z[k] ∉ O) (hS : Z[k] ∉ S) : Dd S Z (k + 1) (O ++ [Z[k]]) := by
  refine ⟨?_, ?_, fun x => ?_⟩
  · rw [SortedS, List.pairwise_append]
    refine ⟨h.s, List.pairwise_singleton _ _, fun a ha b hb => ?_⟩
    rw [List.mem_singleton.1 hb]
    exact take_low hZ hk ((h.m a).1 ha).1
  · rw [List.nodup_append]
    exact ⟨h.n, by simp, fun a ha b hb e => hno (by rw [List.mem_singleton.1 hb] at e; rw [← e]; exact ha)⟩
  · rw [List.mem_append, List.mem_singleton, h.m x, List.take_succ_eq_append_getElem hk, List.mem_append, List.mem_singleton]
    constructor
    · rintro (⟨h1, h2⟩ | rfl)
      · exact ⟨.inl h1, h2⟩
      · exact ⟨.inr rfl, hS⟩
    · rintro ⟨h1 | rfl, h2⟩
      · exact .inl ⟨h1, h2⟩
      · exact .inr rfl
theorem Dd.skip {S Z O : List ByteArray} {k : Nat} (h : Dd S Z k O) (hk : k < Z.length) (hin : Z[k] ∈ O ∨ Z[k] ∈ S) : Dd S Z (k + 1) O := by
  refine ⟨h.s, h.n, fun x => ?_⟩
  rw [h.m x, List.take_succ_eq_append_getElem hk, List.mem_append, List.mem_singleton]
  constructor
  · rintro ⟨h1, h2⟩; exact ⟨.inl h1, h2⟩
  · rintro ⟨h1 | rfl, h2⟩
    · exact ⟨h1, h2⟩
    · rcases hin with h3 | h3
      · exact (h.m _).1 h3
      · exact absurd h3 h2
theorem same_len : ∀ {a b : List ByteArray}, a.Nodup → (∀ x, x ∈ a → x ∈ b) → ∃ c, b.Perm (a ++ c)
  | [], b, _, _ => ⟨b, List.Perm.refl _⟩
  | x :: a, b, hn, h => by
    rw [List.nodup_cons] at hn
    obtain ⟨b1, b2, rfl⟩ := List.append_of_mem (h x (.head _))
    have h2 : ∀ y, y ∈ a → y ∈ b1 ++ b2 := fun y hy => by
      have h3 := h y (.tail _ hy)
      rw [List.mem_append, List.mem_cons] at h3
      rw [List.mem_append]
      rcases h3 with h3 | rfl | h3
      · exact .inl h3
      · exact absurd hy hn.1
      · exact .inr h3
    obtain ⟨c, hc⟩ := same_len hn.2 h2
    exact ⟨c, (List.perm_middle).trans (List.Perm.cons x hc)⟩
theorem same_perm {a b : List ByteArray} (ha : a.Nodup) (hb : b.Nodup) (h : ∀ x, x ∈ a ↔ x ∈ b) : a.Perm b := by
  obtain ⟨c, hc⟩ := same_len ha (fun x => (h x).1)
  obtain ⟨d, hd⟩ := same_len hb (fun x => (h x).2)
  have h1 := hc.length_eq
  have h2 := hd.length_eq
  rw [List.length_append] at h1 h2
  have h3 : c = [] := List.eq_nil_of_length_eq_zero (by omega)
  rw [h3, List.append_nil] at hc
  exact hc.symm
theorem Dd.all {S A O : List ByteArray} (h : Dd S (sortB A) (sortB A).length O) (hS : S.Nodup) : O = sortB (newsB S A) := by
  refine sorted_uniq (same_perm h.n (news_nodup hS A) fun x => ?_) h.s
  rw [h.m x, List.take_length, sortB_mem, news_mem hS]
/-- How many rows the layers hold. -/
def lensB (L : List (List ByteArray)) : Nat := (L.map List.length).sum
theorem lens_snoc (L : List (List ByteArray)) (l : List ByteArray) : lensB (L ++ [l]) = lensB L + l.length := by simp [lensB]
theorem lens_lays (hs : List ByteArray) (fr : ByteArray) : ∀ i, lensB (laysU hs fr (i + 1)) = (seenR hs fr i).length
  | 0 => by simp [lensB, laysU, layR, seenR, lsR]
  | i + 1 => by rw [laysU_succ, lens_snoc, lens_lays hs fr i, seenR_len]
theorem lens_take {L : List (List ByteArray)} {k : Nat} (h : k < L.length) : lensB (L.take (k + 1)) = lensB (L.take k) + L[k].length := by rw [List.take_succ_eq_append_getElem h, lens_snoc]
theorem lens_le {L : List (List ByteArray)} (k : Nat) : lensB (L.take k) ≤ lensB L := by
  have e : lensB L = lensB (L.take k) + lensB (L.drop k) := by
    unfold lensB
    rw [← List.sum_append, ← List.map_append, List.take_append_drop]
  omega
theorem mem_lays {hs : List ByteArray} {fr z : ByteArray} {i : Nat} : (∃ l ∈ laysU hs fr (i + 1), z ∈ l) ↔ z ∈ seenR hs fr i := by
  rw [seenR_mem]
  unfold laysU
  constructor
  · rintro ⟨l, hl, hz⟩
    obtain ⟨j, hj, rfl⟩ := List.mem_map.1 hl
    exact ⟨j, by have := List.mem_range.1 hj; omega, hz⟩
  · rintro ⟨j, hj, hz⟩
    exact ⟨_, List.mem_map.2 ⟨j, List.mem_range.2 (by omega), rfl⟩, hz⟩
end Go.Proofs.YtjiiflpoiaaccaaGreat

/- Contracts: the next layer and the layers of a repair, the specification's. -/
namespace Go.Proofs.YtjiiflpoiaaccaaGreat
open Go Go.RowKit
set_option linter.unusedVariables false
set_option linter.unusedSimpArgs false

theorem l15Many_any (V : Value) (L : List (List ByteArray)) (vs : List Value) (base : Nat) (w : World) (h : OwnSV w base V L vs) (hl : lensB L ≤ 100000) (hL : L.length ≤ 1000) : Calls Tryz.prog 260 #[V] w fun e w' => e = .returned (.int .i64 (lensB L)) ∧ w = w' := by
  obtain ⟨A, c, rfl⟩ := h.form
  have Hh := Lib.hid h
  have hvl := h.len
  clear h
  go_enter Tryz.func260, Tryz.ntmps260
  go_wp2_with fail
  go_loopw [3, 8] (fun s x wr => ∃ k : Nat, k ≤ L.length ∧ x = .int .i64 k ∧ s = .int .i64 (lensB (L.take k)) ∧ wr = w) (fun _ x _ => L.length - (intOf x).toNat)
  case atStart => exact ⟨0, by omega, rfl, rfl, rfl⟩
  case round =>
    obtain ⟨k, hk, rfl, rfl, rfl⟩ := hrel
    by_cases hlt : k < L.length
    · have hkv : k < vs.length := by omega
      obtain ⟨g, hg, _⟩ := own_ptr Hh.out.1 (by omega)
      subst hg
      have hc := Hh.out.at hlt hkv
      have hrow := Hh.out.2 k hlt hkv
      obtain ⟨Ak, ck, ek, _⟩ := sl_of_own hrow
      rw [ek] at hc
      have hs := lens_take hlt
      have hle := lens_le (L := L) (k + 1)
      rw [hs] at hle
      have Hs := Lib.hid hs
      have hw : IntKind.i64.wrap ((lensB (L.take k) : Int) + (L[k].length : Int)) = (lensB (L.take k) : Int) + (L[k].length : Int) := IntWalk.i64_in _ ⟨by omega, by omega⟩
      clear hs hrow ek
      go_wp2_with fail
      refine ⟨⟨k + 1, by omega, by go_num, ?_, by first | rfl | trivial⟩, by simp [intOf]; omega⟩
      rw [Hs.out]; simp
    · obtain rfl : k = L.length := by omega
      have e : L.take L.length = L := List.take_length
      have hz : lensB (L.take L.length) = lensB L := by rw [e]
      have Hz := Lib.hid hz
      clear e hz
      go_wp2_with fail
      go_ret
      exact ⟨by rw [← Hz.out]; rfl, rfl⟩
end Go.Proofs.YtjiiflpoiaaccaaGreat
