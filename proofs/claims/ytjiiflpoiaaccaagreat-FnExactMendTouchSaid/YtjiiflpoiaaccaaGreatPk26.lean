/- Contracts: what a repair asks, the program's. -/
import Derived.Test.YtjiiflpoiaaccaaGreatPk25
import Derived.Test.YtjiiflpoiaaccaaGreatPk18
import Derived.Test.YtjiiflpoiaaccaaGreatPk14
namespace Go.Proofs.YtjiiflpoiaaccaaGreat
open Go Go.RowKit
set_option linter.unusedVariables false
set_option linter.unusedSimpArgs false

theorem perm_in {n : Nat} (hn : n ≤ 8) {r : ByteArray} (h : PermR n r) : RowIn n r :=
  ⟨by have := h.length_eq; rw [roundsL_len, bytes_len] at this; exact this, fun b hb => inL_rounds hn b (h.mem_iff.1 hb)⟩
theorem rounds_nodup {n : Nat} (hn : n ≤ 8) : (roundsL n).Nodup := by
  have : n = 0 ∨ n = 1 ∨ n = 2 ∨ n = 3 ∨ n = 4 ∨ n = 5 ∨ n = 6 ∨ n = 7 ∨ n = 8 := by omega
  rcases this with rfl | rfl | rfl | rfl | rfl | rfl | rfl | rfl | rfl <;> decide
theorem perm_nodup {n : Nat} (hn : n ≤ 8) {r : ByteArray} (h : PermR n r) : r.data.toList.Nodup := h.nodup_iff.2 (rounds_nodup hn)
/-- The mask of some bytes. -/
def maskOf : List UInt8 → Nat
  | [] => 0
  | b :: l => 2 ^ (b.toNat - 49) ||| maskOf l
theorem mask_bit : ∀ (l : List UInt8) (j : Nat), (maskOf l).testBit j = l.any (fun b => decide (b.toNat - 49 = j))
  | [], j => by simp [maskOf]
  | b :: l, j => by
    rw [maskOf, Nat.testBit_or, mask_bit l j, List.any_cons, Nat.testBit_two_pow]
theorem mask_lt : ∀ (l : List UInt8), (∀ b ∈ l, b.toNat < 57) → maskOf l < 256
  | [], _ => by simp [maskOf]
  | b :: l, h => by
    rw [maskOf]
    have h1 := mask_lt l (fun x hx => h x (List.mem_cons_of_mem _ hx))
    have h2 := h b (List.mem_cons_self ..)
    have h3 : 2 ^ (b.toNat - 49) < 2 ^ 8 := Nat.pow_lt_pow_right (by omega) (by omega)
    exact Nat.or_lt_two_pow (n := 8) (by simpa using h3) (by simpa using h1)
theorem mask_snoc (l : List UInt8) (b : UInt8) : maskOf (l ++ [b]) = maskOf l ||| 2 ^ (b.toNat - 49) := by
  induction l with
  | nil => simp [maskOf]
  | cons a l ih => rw [List.cons_append, maskOf, ih, maskOf, Nat.or_assoc]
theorem i64_or_nat (a b : Nat) (ha : a < 9223372036854775808) (hb : b < 9223372036854775808) : bits .or .i64 (a : Int) (b : Int) = ((a ||| b : Nat) : Int) := by
  have ofInt : ∀ a : Nat, a < 9223372036854775808 → (BitVec.ofInt 64 (a : Int)).toNat = a := fun a ha => by
    rw [BitVec.ofInt_natCast, BitVec.toNat_ofNat]; exact Nat.mod_eq_of_lt (by omega)
  have hx : a ||| b < 2 ^ 63 := Nat.or_lt_two_pow (by omega) (by omega)
  show IntKind.i64.wrap ((BitVec.ofInt 64 (a : Int) ||| BitVec.ofInt 64 (b : Int)).toNat : Int) = _
  rw [BitVec.toNat_or, ofInt a ha, ofInt b hb, IntKind.wrap_i64]
  omega
theorem mask_new {n : Nat} (hn : n ≤ 8) {r : ByteArray} (h : PermR n r) {k : Nat} (hk : k < r.data.toList.length) : (maskOf (r.data.toList.take k)).testBit (r.data.toList[k].toNat - 49) = false := by
  rw [mask_bit, List.any_eq_false]
  intro b hb
  rw [decide_eq_true_eq]
  intro e
  have hin := perm_in hn h
  have h1 := hin.2 b (List.mem_of_mem_take hb)
  have h2 := hin.2 _ (List.getElem_mem hk)
  have hbe : b = r.data.toList[k] := UInt8.toNat_inj.1 (by omega)
  obtain ⟨i, hi, hie⟩ := List.getElem_of_mem hb
  rw [List.length_take] at hi
  rw [List.getElem_take] at hie
  exact (List.pairwise_iff_getElem.1 (perm_nodup hn h)) i k (by omega) hk (by omega) (hie.trans hbe)
set_option maxRecDepth 10000 in
set_option maxHeartbeats 2000000 in
theorem goodRow_yes (n : Nat) (r : ByteArray) (w : World) (hn : n ≤ 8) (h3 : 3 ≤ n) (h : PermR n r) : Calls Tryz.prog 166 #[.string r] w fun e w' => e = .returned (.bool true) ∧ w = w' := by
  have hin := perm_in hn h
  have hsz := hin.1
  have Hin := Lib.hid hin
  have Hmk := Lib.hid (fun k hk => mask_new hn h (k := k) hk)
  have Hst := Lib.hid (fun W => isStage_any (n : Int) W)
  rw [show decide (3 ≤ (n : Int) ∧ (n : Int) ≤ 8) = true by simp; omega] at Hst
  have Hlt := Lib.hid (fun k => mask_lt (r.data.toList.take k) (fun b hb => by have := hin.2 b (List.mem_of_mem_take hb); omega))
  clear h hin
  go_enter Tryz.func166, Tryz.ntmps166
  go_wp2_with (go_at_call 248; refine (Hst.out _).mono ?_; rintro e w' ⟨rfl, rfl⟩)
  go_loop [3, 12] (fun s i => ∃ k : Nat, k ≤ n ∧ i = .int .i64 k ∧ s = .int .i64 ((maskOf (r.data.toList.take k) : Nat) : Int)) (fun _ i => n - (intOf i).toNat)
  case atStart => exact ⟨0, by omega, rfl, rfl⟩
  case round =>
    obtain ⟨k, hk, rfl, rfl⟩ := hrel
    by_cases hlt : k < n
    · have hkr : k < r.size := by omega
      have hkl : k < r.data.toList.length := by rw [bytes_len]; exact hkr
      have hat := Hin.out.at_ hkr
      have hmk := Hmk.out k hkl
      rw [bytes_get r k hkr] at hmk
      have hM := Hlt.out k
      have Hs : Hid (maskOf (r.data.toList.take (k + 1)) = maskOf (r.data.toList.take k) ||| 2 ^ (r[k].toNat - 49)) := Lib.hid (by rw [List.take_succ_eq_append_getElem hkl, mask_snoc, bytes_get r k hkr])
      obtain ⟨M, hMe⟩ : ∃ M, M = maskOf (r.data.toList.take k) := ⟨_, rfl⟩
      rw [← hMe] at hmk hM Hs ⊢
      obtain ⟨j, hj⟩ : ∃ j, r[k].toNat = j + 49 := ⟨r[k].toNat - 49, by omega⟩
      have hj2 : (r[k].toNat : Int) - 49 = (j : Int) := by omega
      have hj8 : j < 8 := by omega
      rw [hj, Nat.add_sub_cancel] at hmk Hs
      have hb := bit_test M j (by omega)
      rw [hmk] at hb
      have ho := i64_or_nat M (2 ^ j) (by omega) (Nat.lt_of_lt_of_le (Nat.pow_lt_pow_right (by omega) hj8) (by omega))
      have hjI : (r[k].toNat : Int) = (j : Int) + 49 := by omega
      have Hj := Lib.hid hj
      have hj0 : decide ((j : Int) < 0) = false := by simp
      have hjn : (j : Int) < (n : Int) := by omega
      obtain ⟨x, hx⟩ : ∃ x : UInt8, x = r[k] := ⟨_, rfl⟩
      clear hMe hmk hj
      have Hw : Hid (wrap64 ((2 : Int) ^ j) = ((2 ^ j : Nat) : Int)) := Lib.hid (by
        have h1 : 2 ^ j < 2 ^ 8 := Nat.pow_lt_pow_right (by omega) hj8
        have e : (2 : Int) ^ j = ((2 ^ j : Nat) : Int) := by simp
        rw [e]
        generalize 2 ^ j = p at h1
        exact IntWalk.wrap64_in _ ⟨by omega, by omega⟩)
      have Ho := Lib.hid ho
      clear ho
      go_wp2_with fail
      refine ⟨⟨k + 1, by omega, by go_num, ?_⟩, by simp [intOf]; omega⟩
      rw [Hw.out, Ho.out, Hs.out]
    · obtain rfl : k = n := by omega
      go_wp2_with fail
      go_ret
      exact ⟨rfl, rfl⟩
set_option maxHeartbeats 1000000 in
theorem isRowOf_yes (n : Nat) (r : ByteArray) (w : World) (hn : n ≤ 8) (h3 : 3 ≤ n) (h : PermR n r) : Calls Tryz.prog 233 #[.int .i64 n, .string r] w fun e w' => e = .returned (.bool true) ∧ w = w' := by
  have Hg := Lib.hid (fun W => goodRow_yes n r W hn h3 h)
  have hsz := (perm_in hn h).1
  clear h
  go_enter Tryz.func233, Tryz.ntmps233
  go_wp2_with (go_at_call 166; refine (Hg.out _).mono ?_; rintro e w' ⟨rfl, rfl⟩)
  go_ret
  exact ⟨rfl, rfl⟩
set_option maxHeartbeats 1000000 in
theorem isLarge_any (m : Mt) (v : Value) (n : Nat) (w : World) (hg : methB m = true) (hst : m.stage = (n : Int)) (h : MethAt w m v) (hs : MtSmall m) : Calls Tryz.prog 266 #[m.v v] w fun e w' => e = .returned (.bool (decide (4 ≤ n))) ∧ Below w.heap.size w w' := by
  have HM := Lib.hid (fun W (hW : Below w.heap.size w W) => implGoodMethod_any m v W (h.to hW) hs)
  rw [hg] at HM
  obtain ⟨A, q, hv⟩ := h.form
  subst hv
  unfold Mt.v at *
  rw [hst] at HM ⊢
  clear h hs hg hst
  go_enter Tryz.func266, Tryz.ntmps266
  go_wp2_with fail
  refine box1 (C := fun W => Calls _ _ _ W _) ?_
  intro wb hw k1 hB0
  have R1 := boxRule k1
  clear k1
  refine (HM.out _ hw).mono ?_; rintro e w1 ⟨rfl, hb1⟩
  have r1 := R1 w1 1 hb1
  have hw1 := bw_to hw hb1
  by_cases h4 : 4 ≤ n
  · have hd : decide ((4 : Int) ≤ (n : Int)) = true := by simp; omega
    clear R1
    go_wp2_with fail
    go_ret
    exact ⟨ret_bool (decide_eq_true h4).symm, hw1⟩
  · have hd : decide ((4 : Int) ≤ (n : Int)) = false := by simp; omega
    clear R1
    go_wp2_with fail
    go_ret
    exact ⟨ret_bool (decide_eq_false h4).symm, hw1⟩
set_option maxHeartbeats 2000000 in
theorem goodRepair_any (m : Mt) (v : Value) (k : Cl) (n : Nat) (fr tg : ByteArray) (w : World) (hg : CGood m k n) (hc : callsB m k = true) (h4 : 4 ≤ n) (hf : PermR n fr) (ht : PermR n tg) (h : MethAt w m v) (hs : MtSmall m) (hk : ClSmall k) : Calls Tryz.prog 197 #[m.v v, k.v, .string fr, .string tg] w fun e w' => e = .returned (.bool (!decide (fr = tg))) ∧ Below w.heap.size w w' := by
  have hmb : methB m = true := by unfold callsB at hc; rw [Bool.and_eq_true] at hc; exact hc.1
  have hn := hg.m.hi
  have hst := hg.m.st
  have HL := Lib.hid (fun W (hW : Below w.heap.size w W) => isLarge_any m v n W hmb hg.m.st (h.to hW) hs)
  rw [decide_eq_true h4] at HL
  have HC := Lib.hid (fun W (hW : Below w.heap.size w W) => GoodCalls_any m v k W (h.to hW) hs hk)
  rw [hc] at HC
  have H1 := Lib.hid (fun W => isRowOf_yes n fr W hn (by omega) hf)
  have H2 := Lib.hid (fun W => isRowOf_yes n tg W hn (by omega) ht)
  have He := Lib.hid (str_beq fr tg)
  obtain ⟨A, q, hv⟩ := h.form
  subst hv
  unfold Mt.v Cl.v at *
  rw [hst] at HL HC ⊢
  clear h hs hk hg hc hmb hf ht hst
  go_enter Tryz.func197, Tryz.ntmps197
  go_wp2_with fail
  refine box2 (C := fun W => Calls _ _ _ W _) ?_
  intro wb hw k1 k2 hB0
  have R1 := boxRule k1
  have R2 := boxRule k2
  clear k1 k2
  refine (HL.out _ hw).mono ?_; rintro e w1 ⟨rfl, hb1⟩
  have r1 := fun i => R1 w1 i hb1
  have r2 := fun i => R2 w1 i hb1
  go_wp2_with fail
  refine (HC.out _ (bw_to hw hb1)).mono ?_; rintro e w2 ⟨rfl, hb2⟩
  have hB2 := bw_to hb1 hb2
  have s1 := R1 w2 1 hB2
  clear r1 r2 R1 R2
  go_wp2_with (first | (go_at_call_of 233 (Value.string fr); refine (H1.out _).mono ?_; rintro e w' ⟨rfl, rfl⟩) | (go_at_call_of 233 (Value.string tg); refine (H2.out _).mono ?_; rintro e w' ⟨rfl, rfl⟩))
  go_ret
  exact ⟨ret_bool (by rw [← He.out]), bw_to hw hB2⟩
set_option maxRecDepth 10000 in
set_option maxHeartbeats 2000000 in
theorem callHeads_any (m : Mt) (v : Value) (k : Cl) (n : Nat) (w : World) (hg : CGood m k n) (hv : Strs w v m.l) : Calls Tryz.prog 199 #[m.v v, k.v] w fun e w' =>
    ∃ A q, e = .returned (.slice A 3 q) ∧ w'.ownsRow w.heap.size 9 1 (.slice A 3 q) 3 ((headsR (headB n m.l k.bob k.single)).map Value.string) ∧ Below w.heap.size w w' := by
  have HH := fun W (hW : Below w.heap.size w W) c => callHead_any m v k n c W hg (hv.to hW)
  obtain ⟨F, hF⟩ : ∃ F, F = headB n m.l k.bob k.single := ⟨_, rfl⟩
  rw [← hF] at HH ⊢
  obtain ⟨A, q, hv', _⟩ := hv
  subst hv'
  unfold Mt.v Cl.v at *
  have H112 : Hid (∀ W, Below w.heap.size w W → Calls Tryz.prog 194 #[.agg #[.string m.name, .int .i64 m.stage, .slice A m.l.length q], .agg #[.string k.bob, .string k.single], .string ⟨#[112]⟩] W fun e w' => e = .returned (.string (F 112)) ∧ Below W.heap.size W w') := Lib.hid fun W hW => HH W hW 112
  have H98 : Hid (∀ W, Below w.heap.size w W → Calls Tryz.prog 194 #[.agg #[.string m.name, .int .i64 m.stage, .slice A m.l.length q], .agg #[.string k.bob, .string k.single], .string ⟨#[98]⟩] W fun e w' => e = .returned (.string (F 98)) ∧ Below W.heap.size W w') := Lib.hid fun W hW => HH W hW 98
  have H115 : Hid (∀ W, Below w.heap.size w W → Calls Tryz.prog 194 #[.agg #[.string m.name, .int .i64 m.stage, .slice A m.l.length q], .agg #[.string k.bob, .string k.single], .string ⟨#[115]⟩] W fun e w' => e = .returned (.string (F 115)) ∧ Below W.heap.size W w') := Lib.hid fun W hW => HH W hW 115
  clear hg hF HH
  go_enter Tryz.func199, Tryz.ntmps199
  go_wp2_with fail
  refine box2 (C := fun W => Code.wp _ _ _ _ W) ?_
  intro wb hw k1 k2 hB0
  have R1 := boxRule k1
  have R2 := boxRule k2
  have hdr : Below wb.heap.size wb wb.drew := Below.drew (Below.refl _ _)
  clear k1 k2
  have K112 := Lib.hid (fun W (hW : Below wb.heap.size wb W) => H112.out W (bw_to hw hW))
  have K98 := Lib.hid (fun W (hW : Below wb.heap.size wb W) => H98.out W (bw_to hw hW))
  have K115 := Lib.hid (fun W (hW : Below wb.heap.size wb W) => H115.out W (bw_to hw hW))
  go_region_held3 (fun W => Below wb.heap.size wb W) (first | with_reducible assumption | exact Below.drew (by with_reducible assumption) | exact bw_to (by with_reducible assumption) hb' | exact bw_al (by with_reducible assumption) _)
    (first | (go_at_call_of 194 (Value.string { data := #[115] }); ((with_reducible refine (K115.out _ (by with_reducible assumption)).mono ?_); rintro e w' ⟨rfl, hb'⟩); (have hBn := bw_to (by assumption : Below wb.heap.size wb _) hb')) | (go_at_call_of 194 (Value.string { data := #[98] }); ((with_reducible refine (K98.out _ (by with_reducible assumption)).mono ?_); rintro e w' ⟨rfl, hb'⟩); (have hBn := bw_to (by assumption : Below wb.heap.size wb _) hb')) | (go_at_call_of 194 (Value.string { data := #[112] }); ((with_reducible refine (K112.out _ (by with_reducible assumption)).mono ?_); rintro e w' ⟨rfl, hb'⟩); (have hBn := bw_to (by assumption : Below wb.heap.size wb _) hb')))
  all_goals
    have hBB : Below wb.heap.size wb w' := by assumption
    have Ho := Lib.hid (own_of_heap (base := w.heap.size) (n := 3) (size := 1) (heap_new w' (.cells #[.string (F 112), .string (F 98), .string (F 115)] 9)) (by have := hBB.size; have := hw.size; omega) (by unfold maxLen; omega) rfl)
    have HB := Lib.hid (bw_al (bw_to hw hBB) (.cells #[.string (F 112), .string (F 98), .string (F 115)] 9))
    go_wp2_with fail
    go_ret
    exact ⟨_, _, rfl, Ho.out, HB.out⟩
end Go.Proofs.YtjiiflpoiaaccaaGreat

/- The group that rows generate: the program's. -/
namespace Go.Proofs.YtjiiflpoiaaccaaGreat
open Go Go.RowKit
set_option linter.unusedVariables false
set_option linter.unusedSimpArgs false

def grpL (F : List ByteArray) : List ByteArray := if F.length ≤ 130 then sortB F else []
theorem grpL_yes {F : List ByteArray} (h : F.length ≤ 130) : grpL F = sortB F := by unfold grpL; rw [if_pos h]
theorem grpL_no {F : List ByteArray} (h : ¬ F.length ≤ 130) : grpL F = [] := by unfold grpL; rw [if_neg h]
theorem part_get {n : Nat} {gens : List ByteArray} {t : Nat} (h : t < (cloB n gens t).length) (j : Nat) (y : ByteArray) : (partB n gens t j y)[t]? = some (cloB n gens t)[t] := by
  obtain ⟨r, hr⟩ := exp_pre y (gens.take j) (cloB n gens t)
  unfold partB
  rw [← hr, List.getElem?_append_left h, List.getElem?_eq_getElem h]
theorem updF_app {L : List ByteArray} {x : ByteArray} {f : ByteArray → Bool} (h : ∀ s, f s = true ↔ s ∈ L) (s : ByteArray) : updF f x s = true ↔ s ∈ L ++ [x] := by
  unfold updF
  rw [List.mem_append, List.mem_singleton, ← h s]
  by_cases e : s = x
  · rw [if_pos e]; simp [e]
  · rw [if_neg e]; simp [e]
set_option maxRecDepth 100000 in
set_option maxHeartbeats 8000000 in
theorem generated_any (n T : Nat) (gens : List ByteArray) (V : Value) (w : World) (hn : n ≤ 8) (hg : ∀ g ∈ gens, RowIn n g) (hV : Strs w V gens) (hgl : gens.length ≤ 1000) (hT : IsClo n gens T) (hTb : T ≤ 16777216) :
    Calls Tryz.prog 244 #[.int .i64 n, V, .int .i64 130] w fun e w' => ∃ A q, e = .returned (.tuple #[.slice A (grpL (cloB n gens T)).length q, .bool (decide ((cloB n gens T).length ≤ 130))]) ∧ w'.ownsRow w.heap.size 9 1 (.slice A (grpL (cloB n gens T)).length q) (grpL (cloB n gens T)).length ((grpL (cloB n gens T)).map Value.string) ∧ Below w.heap.size w w' := by
  have Hall := Lib.hid (clo_all (P := RowIn n) (n := n) (gens := gens) (rounds_in hn) (fun x g hx hg' => times_in hx (hg g hg')))
  have HT := Lib.hid hT
  have Hg := Lib.hid hg
  have Hyes := Lib.hid (fun h => grpL_yes (F := cloB n gens T) h)
  have Hno := Lib.hid (fun h => grpL_no (F := cloB n gens T) h)
  obtain ⟨A0, c0, rfl, hgc, hgm, hrd⟩ := hV
  unfold maxLen at hgm
  have hrs : (roundsB n).size ≤ maxLen := by rw [rounds_size hn]; unfold maxLen; omega
  have Hrs := Lib.hid hrs
  clear hT hg hrs
  go_enter Tryz.func244, Tryz.ntmps244
  go_wp2_with fail
  refine upon_mkS ?_
  intro w1 hm1 hb1
  go_wp2_with (go_at_call 195; refine (rounds_any n _ hn).mono ?_; rintro e w' ⟨rfl, rfl⟩)
  refine upon_insS Tryz.underlying197 hm1 (by omega) (roundsB n) Hrs.out ?_
  intro w2 hm2 hg2
  have hb2 := gr_lowS hb1 hg2 (Nat.le_refl _)
  go_wp2_with (go_at_call 195; refine (rounds_any n _ hn).mono ?_; rintro e w' ⟨rfl, rfl⟩)
  refine box1 (C := fun W => Code.wp _ _ _ _ W) ?_
  intro w3 hw3 k3 hB03
  have hbl : w.heap.size < w2.heap.size := hm2.lt
  have hown0 : w3.ownsRow w2.heap.size 9 1 (.slice (some ⟨w2.heap.size, 0, none⟩) 1 1) 1 ([roundsB n].map Value.string) := own_of_heap k3 (Nat.le_refl _) (by unfold maxLen; omega) rfl
  have hm3 := hm2.to hw3
  have hB3 := bw_to hb2 hw3
  have hs3 : w2.heap.size ≤ w3.heap.size := hw3.size
  clear k3 hm1 hg2
  go_wp2_with fail
  go_loopw [9, 10] (fun o i wr => ∃ (t : Nat) (L : List ByteArray) (A : Option Addr) (q cnt : Nat) (f : ByteArray → Bool), t ≤ T ∧ i = .int .i64 t ∧ L = cloB n gens t ∧ o = .slice A L.length q ∧ wr.ownsRow w2.heap.size 9 1 (.slice A L.length q) L.length (L.map Value.string) ∧ SM wr w.heap.size cnt f ∧ (∀ s, f s = true ↔ s ∈ L) ∧ cnt ≤ 200 ∧ cnt ≤ L.length ∧ L.length ≤ 130 ∧ Below w.heap.size w wr ∧ w2.heap.size ≤ wr.heap.size) (fun _ i _ => T + 1 - (intOf i).toNat)
  case atStart => exact ⟨0, [roundsB n], _, 1, 1, _, by omega, rfl, rfl, rfl, hown0, hm3, fun s => by unfold updF; by_cases e : s = roundsB n <;> simp [e], by omega, by simp, by simp, hB3, hs3⟩
  case round =>
    obtain ⟨t, L, A, q, cnt, f, ht, rfl, hL, rfl, hown, hm, hf, hc1, hc2, hl, hB, hsz⟩ := hrel
    have hlq := sl_cap hown
    have HL := Lib.hid hL
    have Hf := Lib.hid hf
    have Hm := Lib.hid hm
    clear hL hf hm
    by_cases hlt : t < L.length
    · have htT : t < T := by
        rcases Nat.lt_or_ge t T with h | h
        · exact h
        · have e : t = T := by omega
          have := HT.out.1
          rw [← e, ← HL.out] at this; omega
      have hlt' : t < (cloB n gens t).length := by rw [← HL.out]; exact hlt
      obtain ⟨y, hy⟩ : ∃ y, y = (cloB n gens t)[t] := ⟨_, rfl⟩
      have Hy : Hid (RowIn n y) := Lib.hid (by rw [hy]; exact Hall.out t _ (List.getElem_mem hlt'))
      have Hpl : Hid (∀ j, (partB n gens t j y).length ≤ (cloB n gens T).length) := Lib.hid (fun j => by rw [hy]; exact part_len HT.out htT)
      have Hpg : Hid (∀ j, (partB n gens t j y)[t]? = some y) := Lib.hid (fun j => by rw [part_get hlt' j y, hy])
      have Hpa : Hid (partB n gens t gens.length y = cloB n gens (t + 1)) := Lib.hid (by rw [hy]; exact part_all hlt')
      have Hp0 : Hid (L = partB n gens t 0 y) := Lib.hid HL.out
      clear hy hlt'
      go_wp2_with fail
      obtain ⟨wo, rfl⟩ : ∃ wo : World, wo = wr := ⟨_, rfl⟩
      go_loopw [9, 29] (fun o i wr => ∃ (j : Nat) (L : List ByteArray) (A : Option Addr) (q cnt : Nat) (f : ByteArray → Bool), j ≤ gens.length ∧ i = .int .i64 j ∧ L = partB n gens t j y ∧ o = .slice A L.length q ∧ wr.ownsRow w2.heap.size 9 1 (.slice A L.length q) L.length (L.map Value.string) ∧ SM wr w.heap.size cnt f ∧ (∀ s, f s = true ↔ s ∈ L) ∧ cnt ≤ 200 ∧ cnt ≤ L.length ∧ L.length ≤ 130 ∧ Below w.heap.size w wr ∧ w2.heap.size ≤ wr.heap.size) (fun _ i _ => gens.length - (intOf i).toNat)
      case atStart => exact ⟨0, L, A, q, cnt, f, by omega, rfl, Hp0.out, rfl, hown, Hm.out, Hf.out, hc1, hc2, hl, hB, hsz⟩
      case round =>
        clear hown hlq hc2 hl hlt HL Hf Hm Hp0
        obtain ⟨j, L, A, q, cnt, f, hj, rfl, hL, rfl, hown, hm, hf, hc1, hc2, hl, hB, hsz⟩ := hrel
        have hlq := sl_cap hown
        have HL := Lib.hid hL
        clear hL
        by_cases hlt : j < gens.length
        · obtain ⟨ad, rfl, hC⟩ := strs_el hrd hlt
          have hC0 := hC _ hB
          have hgin := Hg.out _ (List.getElem_mem hlt)
          obtain ⟨A', c', e', hx1, hx2, hrdL⟩ := sl_of_own hown
          injection e' with ea _ ec
          subst ea ec
          have htL : t < L.length := by
            have h := Hpg.out j
            rw [← HL.out] at h
            exact (List.getElem?_eq_some_iff.1 h).1
          obtain ⟨ad2, rfl, hC2⟩ := strs_el hrdL htL
          have hC20 := hC2 _ (Below.refl _ _)
          have ey : L[t] = y := by
            have h := Hpg.out j
            rw [← HL.out] at h
            exact (List.getElem?_eq_some_iff.1 h).2
          rw [ey] at hC20
          obtain ⟨g, eg⟩ : ∃ g, g = gens[j] := ⟨_, rfl⟩
          have Hps : Hid (partB n gens t (j + 1) y = visitB L (timesB y g)) := Lib.hid (by rw [part_succ hlt, ← HL.out, eg])
          rw [← eg] at hC0 hgin
          have Hti := Lib.hid (times_in Hy.out hgin)
          have Htm := Lib.hid (fun W => times_any y g W (by rw [Hy.out.1]; omega) (by rw [hgin.1]; omega) (row_hin Hy.out.1 hgin))
          have hownH := Lib.hid hown
          have Hm := Lib.hid hm
          have Hf := Lib.hid hf
          clear hC hC2 ey eg hgin hrdL hx2 hown hm hf
          go_wp2_with fail
          refine (Htm.out _).mono ?_; rintro e w5 ⟨rfl, hb5⟩
          obtain ⟨x, hx⟩ : ∃ x, x = timesB y g := ⟨_, rfl⟩
          rw [← hx] at Hps Hti ⊢
          have hxs : x.size ≤ maxLen := by rw [Hti.out.1]; unfold maxLen; omega
          have hm5 := Hm.out.to hb5
          have hown5 := own_to hownH.out hb5
          have hB5 := bw_to hB hb5
          have hsz5 : w2.heap.size ≤ w5.heap.size := Nat.le_trans hsz hb5.size
          have hlk := hm5.look 197 Tryz.underlying197 x hxs
          have Hm5 := Lib.hid hm5
          have Hxs := Lib.hid hxs
          clear hx hm5 hxs
          cases hb : f x
          · have hnm : x ∉ L := fun h => by rw [(Hf.out x).2 h] at hb; cases hb
            have Hv : Hid (partB n gens t (j + 1) y = L ++ [x]) := Lib.hid (by rw [Hps.out]; unfold visitB; rw [if_neg hnm])
            rw [hb] at hlk
            by_cases h130 : L.length = 130
            · have HF : Hid (¬ (cloB n gens T).length ≤ 130) := Lib.hid (by
                have h := Hpl.out (j + 1)
                rw [Hv.out, List.length_append, h130] at h
                simp at h
                omega)
              have hd : ((L.length : Int) == 130) = true := by simp; omega
              have hdd := Lib.hid (decide_eq_false HF.out)
              have HE := Lib.hid (Hno.out HF.out)
              clear hown5
              go_wp2_with fail
              go_ret2
              refine ⟨none, 0, by rw [hdd.out, HE.out]; rfl, by rw [HE.out]; exact World.ownsRow_nil _ _ _ _, hB5⟩
            · have hd : ((L.length : Int) == 130) = false := by simp; omega
              go_wp2_with fail
              refine upon_insS Tryz.underlying197 Hm5.out (by omega) x Hxs.out ?_
              intro w6 hm6 hg6
              have hown6 := hown5.kept hg6 (own_neG hown5 (.inl hbl))
              have hB6 := gr_lowS hB5 hg6 (Nat.le_refl _)
              have hsz6 : w2.heap.size ≤ w6.heap.size := Nat.le_trans hsz5 hg6.size
              have Hm6 := Lib.hid hm6
              clear hown5 hm6 hg6
              go_wp2_with (at_builtin; go_must (refine wpList_app _ rfl _ _ _ rfl w2.heap.size 9 _ 1 16 Tryz.underlying22 info_str rfl (by omega) hown6 [.string x] rfl rfl rfl (one_mem rfl) (by omega) (by omega) hsz6 ?_); intro v7 w7 hown7 hb7 hg7 _)
              obtain ⟨A7, q7, e7, _⟩ := sl_of_own hown7
              subst e7
              have hm7 := Hm6.out.kept hg7 ((own_neG (G := w.heap.size) hown6 (.inl hbl)).elim (fun h => by rw [h]; simp) (fun h e => h e.symm))
              rw [str_snoc (rfl : L ++ [x] = L ++ [x])] at hown7
              have e8 : (L ++ [x]).length = L.length + 1 := by simp
              exact ⟨⟨j + 1, L ++ [x], A7, q7, _, _, by omega, by go_num, Hv.out.symm, by rw [e8], by rw [e8]; exact hown7, hm7, updF_app Hf.out, by omega, by rw [e8]; omega, by rw [e8]; omega, hB6.trans (hb7.mono (by omega)), by have := hg7.size; omega⟩, by simp [intOf]; omega⟩
          · have hmem := (Hf.out x).1 hb
            have Hv : Hid (partB n gens t (j + 1) y = L) := Lib.hid (by rw [Hps.out]; unfold visitB; rw [if_pos hmem])
            rw [hb] at hlk
            clear hmem
            go_wp2_with fail
            exact ⟨⟨j + 1, L, _, q, cnt, f, by omega, by go_num, Hv.out.symm, rfl, hown5, Hm5.out, Hf.out, by omega, by omega, by omega, hB5, hsz5⟩, by simp [intOf]; omega⟩
        · obtain rfl : j = gens.length := by omega
          have Hm := Lib.hid hm
          have Hf := Lib.hid hf
          clear hm hf
          go_wp2_with fail
          exact ⟨⟨t + 1, L, A, q, cnt, f, by omega, by go_num, by rw [HL.out, Hpa.out], rfl, hown, Hm.out, Hf.out, by omega, by omega, by omega, hB, hsz⟩, by simp [intOf]; omega⟩
    · have htT : t = T := by
        rcases Nat.lt_or_ge t T with h | h
        · have := HT.out.2 t h; rw [← HL.out] at this; omega
        · omega
      subst htT
      have hF : (cloB n gens t).length ≤ 130 := by rw [← HL.out]; exact hl
      have hdd := Lib.hid (decide_eq_true hF)
      have HE := Lib.hid (Hyes.out hF)
      obtain ⟨g, hA, hgl2⟩ := own_ptr hown (by
        have := clo_len_mono (n := n) (gens := gens) (Nat.zero_le t)
        rw [← HL.out] at this
        exact this)
      subst hA
      have Hso := Lib.hid (sortS_any g L.length q w2.heap.size L wr hown (by omega))
      clear hown hF
      go_wp2_with fail
      refine Hso.out.mono ?_; rintro e w8 ⟨rfl, hown8, hb8, hs8⟩
      have Hown8 := Lib.hid hown8
      clear hown8
      go_wp2_with fail
      go_ret2
      have e9 : (grpL (cloB n gens t)).length = L.length := by rw [HE.out, sortB_len, ← HL.out]
      refine ⟨_, q, by rw [hdd.out, e9]; rfl, ?_, hB.trans (hb8.mono (by omega))⟩
      rw [e9, HE.out, ← HL.out]
      exact own_base Hown8.out (by omega)
end Go.Proofs.YtjiiflpoiaaccaaGreat
