/- Contracts: calls: their goodness, the lead heads that they give, both sides. -/
import Derived.Test.YtimeecimaokldaaGreatDoorPk10
import Derived.Test.YtimeecimaokldaaGreatDoorPk1
import Derived.Deep.Slices
import Derived.Deep.Fields
import Derived.Lib.SmallJoins
namespace Go.Proofs.YtimeecimaokldaaGreatDoor
open Go Go.RowKit
set_option linter.unusedVariables false
set_option linter.unusedSimpArgs false

structure Cl where
  bob : ByteArray
  single : ByteArray
def Cl.v (k : Cl) : Value := .agg #[.string k.bob, .string k.single]
def ClSmall (k : Cl) : Prop := k.bob.size ≤ 1048576 ∧ k.single.size ≤ 1048576
def ClFit (k : Cl) : Prop := k.bob.size ≤ maxLen ∧ k.single.size ≤ maxLen
theorem ClSmall.fit {k : Cl} (h : ClSmall k) : ClFit k := ⟨Nat.le_trans h.1 (by unfold maxLen; omega), Nat.le_trans h.2 (by unfold maxLen; omega)⟩
def callsB (m : Mt) (k : Cl) : Bool := methB m && (changeB m.stage k.bob.data.toList && changeB m.stage k.single.data.toList)
structure CGood (m : Mt) (k : Cl) (n : Nat) : Prop where
  m : MGood m n
  small : ClSmall k
  bob : chOk k.bob.data.toList
  single : chOk k.single.data.toList
theorem cgood_of {m : Mt} {k : Cl} (h : callsB m k = true) : ∃ n, CGood m k n := by
  unfold callsB at h
  rw [Bool.and_eq_true, Bool.and_eq_true] at h
  obtain ⟨n, hm⟩ := mgood_of h.1
  have h1 := changeB_size h.2.1
  have h2 := changeB_size h.2.2
  rw [bytes_len] at h1 h2
  exact ⟨n, hm, ⟨by omega, by omega⟩, chOk_of h.2.1, chOk_of h.2.2⟩
theorem calls_chs {m : Mt} {k : Cl} {n : Nat} (h : CGood m k n) (c : UInt8) : ChsOk (calledL m.l k.bob k.single c) := by
  intro x hx
  unfold calledL at hx
  rcases List.mem_append.1 hx with hx | hx
  · exact h.m.ok x (List.mem_of_mem_take hx)
  · rw [List.mem_singleton.1 hx]
    unfold callCh
    split
    · exact ⟨h.small.1, h.bob⟩
    · split
      · exact ⟨h.small.2, h.single⟩
      · rw [List.getLastD_eq_getLast?]
        cases hl : m.l.getLast? with
        | none => exact ⟨by show 0 ≤ _; omega, .inr rfl⟩
        | some y => exact h.m.ok y (List.mem_of_getLast? hl)
/-- The text of a call. -/
def callT (c : UInt8) : ByteArray := ⟨#[c]⟩
theorem callT_list (c : UInt8) : (callT c).toList = [c] := by rw [bytes_toList]; rfl
theorem callT_is (c d : UInt8) : ((callT c).toList == [d]) = decide (c = d) := by rw [callT_list, Bool.eq_iff_iff]; simp
set_option maxHeartbeats 2000000 in
theorem GoodCalls_any (m : Mt) (v : Value) (k : Cl) (w : World) (h : MethAt w m v) (hs : MtSmall m) (hk : ClSmall k) : Calls Tryz.prog 97 #[m.v v, k.v] w fun e w' => e = .returned (.bool (callsB m k)) ∧ Below w.heap.size w w' := by
  have HM := Lib.hid (fun W hW => implGoodMethod_any m v W (h.to hW) hs)
  have HB := Lib.hid (fun W => GoodChange_any m.stage k.bob W hk.1)
  have HS := Lib.hid (fun W => GoodChange_any m.stage k.single W hk.2)
  have HT : Hid (callsB m k = (methB m && (changeB m.stage k.bob.data.toList && changeB m.stage k.single.data.toList))) := Lib.hid rfl
  obtain ⟨A, c, hv⟩ := h.form
  subst hv
  obtain ⟨p, hp⟩ : ∃ p, p = methB m := ⟨_, rfl⟩
  obtain ⟨q, hq⟩ : ∃ q, q = changeB m.stage k.bob.data.toList := ⟨_, rfl⟩
  obtain ⟨r, hr⟩ : ∃ r, r = changeB m.stage k.single.data.toList := ⟨_, rfl⟩
  rw [← hp] at HM HT
  rw [← hq] at HB HT
  rw [← hr] at HS HT
  clear h hp hq hr
  unfold Mt.v Cl.v at *
  go_enter Tryz.func97, Tryz.ntmps97
  go_wp2_with fail
  refine box2 (C := fun W => Calls _ _ _ W _) ?_
  intro wb hw k1 k2 hB0
  have R1 := boxRule k1
  have R2 := boxRule k2
  clear k1 k2
  refine (HM.out _ hw).mono ?_; rintro e w1 ⟨rfl, hb1⟩
  cases p
  · go_wp2_with fail
    go_ret
    exact ⟨ret_bool (by rw [HT.out]; rfl), bw_to hw hb1⟩
  · go_wp2_with fail
    refine (HB.out _).mono ?_; rintro e w2 ⟨rfl, hb2⟩
    have hB2 := bw_to hb1 hb2
    cases q
    · go_wp2_with fail
      go_ret
      exact ⟨ret_bool (by rw [HT.out]; rfl), bw_to hw hB2⟩
    · go_wp2_with fail
      refine (HS.out _).mono ?_; rintro e w3 ⟨rfl, hb3⟩
      go_wp2_with fail
      go_ret
      exact ⟨ret_bool (by rw [HT.out]; rfl), bw_to hw (bw_to hB2 hb3)⟩
set_option maxHeartbeats 2000000 in
theorem l8Good_any (m : Mt) (v : Value) (k : Cl) (w : World) (h : MethAt w m v) (hs : MtSmall m) (hk : ClSmall k) : Calls Tryz.prog 131 #[m.v v, k.v] w fun e w' => e = .returned (.bool (callsB m k)) ∧ Below w.heap.size w w' := by
  have HM := Lib.hid (fun W hW => l4Good_any m v W (h.to hW) hs)
  have HB := Lib.hid (fun W => l2Change_any m.stage k.bob W hk.fit.1)
  have HS := Lib.hid (fun W => l2Change_any m.stage k.single W hk.fit.2)
  have HT : Hid (callsB m k = (methB m && (changeB m.stage k.bob.data.toList && changeB m.stage k.single.data.toList))) := Lib.hid rfl
  obtain ⟨A, c, hv⟩ := h.form
  subst hv
  obtain ⟨p, hp⟩ : ∃ p, p = methB m := ⟨_, rfl⟩
  obtain ⟨q, hq⟩ : ∃ q, q = changeB m.stage k.bob.data.toList := ⟨_, rfl⟩
  obtain ⟨r, hr⟩ : ∃ r, r = changeB m.stage k.single.data.toList := ⟨_, rfl⟩
  rw [← hp] at HM HT
  rw [← hq] at HB HT
  rw [← hr] at HS HT
  clear h hp hq hr
  unfold Mt.v Cl.v at *
  go_enter Tryz.func131, Tryz.ntmps131
  go_wp2_with fail
  refine box2 (C := fun W => Calls _ _ _ W _) ?_
  intro wb hw k1 k2 hB0
  have R1 := boxRule k1
  have R2 := boxRule k2
  clear k1 k2
  refine (HM.out _ hw).mono ?_; rintro e w1 ⟨rfl, hb1⟩
  cases p
  · go_wp2_with fail
    go_ret
    exact ⟨ret_bool (by rw [HT.out]; rfl), bw_to hw hb1⟩
  · go_wp2_with fail
    refine (HB.out _).mono ?_; rintro e w2 ⟨rfl, rfl⟩
    cases q
    · go_wp2_with fail
      go_ret
      exact ⟨ret_bool (by rw [HT.out]; rfl), bw_to hw hb1⟩
    · go_wp2_with fail
      refine (HS.out _).mono ?_; rintro e w3 ⟨rfl, rfl⟩
      go_wp2_with fail
      go_ret
      exact ⟨ret_bool (by rw [HT.out]; rfl), bw_to hw hb1⟩
set_option maxHeartbeats 1000000 in
theorem goodFor_any (m : Mt) (v : Value) (k : Cl) (t : ByteArray) (w : World) (h : MethAt w m v) (hs : MtSmall m) (hk : ClSmall k) (ht : t.size ≤ maxLen) : Calls Tryz.prog 48 #[m.v v, k.v, .string t] w fun e w' => e = .returned (.bool (callsB m k && touchB t.data.toList)) ∧ Below w.heap.size w w' := by
  have HM := Lib.hid (fun W hW => GoodCalls_any m v k W (h.to hW) hs hk)
  have HB := Lib.hid (fun W => GoodTouch_any t W ht)
  obtain ⟨A, c, hv⟩ := h.form
  subst hv
  obtain ⟨p, hp⟩ : ∃ p, p = callsB m k := ⟨_, rfl⟩
  obtain ⟨q, hq⟩ : ∃ q, q = touchB t.data.toList := ⟨_, rfl⟩
  rw [← hp, ← hq]
  rw [← hp] at HM
  rw [← hq] at HB
  clear h hp hq
  unfold Mt.v Cl.v at *
  go_enter Tryz.func48, Tryz.ntmps48
  go_wp2_with fail
  refine box2 (C := fun W => Calls _ _ _ W _) ?_
  intro wb hw k1 k2 hB0
  refine (HM.out _ hw).mono ?_; rintro e w1 ⟨rfl, hb1⟩
  cases p
  · go_wp2_with fail
    go_ret
    exact ⟨rfl, bw_to hw hb1⟩
  · go_wp2_with fail
    refine (HB.out _).mono ?_; rintro e w2 ⟨rfl, rfl⟩
    go_wp2_with fail
    go_ret
    exact ⟨ret_bool (by simp), bw_to hw hb1⟩
theorem last_get {l : List ByteArray} (h : 1 ≤ l.length) : l[l.length - 1]'(by omega) = l.getLastD ⟨#[]⟩ := by
  rw [List.getLastD_eq_getLast?, List.getLast?_eq_getElem?, List.getElem?_eq_getElem (by omega)]; rfl
set_option maxHeartbeats 1000000 in
theorem l8Change_any (m : Mt) (v : Value) (k : Cl) (c : UInt8) (w : World) (h : Strs w v m.l) (hl : 1 ≤ m.l.length ∧ m.l.length ≤ 40) : Calls Tryz.prog 228 #[m.v v, k.v, .string (callT c)] w fun e w' => e = .returned (.string (callCh m.l k.bob k.single c)) ∧ Below w.heap.size w w' := by
  have e1 := callT_is c 98
  have e2 := callT_is c 115
  have HT : Hid (callCh m.l k.bob k.single c = if c = 98 then k.bob else if c = 115 then k.single else m.l.getLastD ⟨#[]⟩) := Lib.hid rfl
  obtain ⟨A, q, hv, h1, h2, hrd⟩ := h
  subst hv
  unfold maxLen at h2
  obtain ⟨ad, rfl, hC⟩ := strs_el (k := m.l.length - 1) hrd (by omega)
  rw [last_get hl.1] at hC
  have hi0 : (0 : Int) ≤ (m.l.length : Int) - 1 := by omega
  have hi1 : ((m.l.length : Int) - 1).toNat = m.l.length - 1 := by omega
  obtain ⟨y, hy⟩ : ∃ y, y = m.l.getLastD ⟨#[]⟩ := ⟨_, rfl⟩
  rw [← hy] at hC HT
  unfold Mt.v Cl.v
  clear hrd hy
  by_cases c1 : c = 98
  · rw [decide_eq_true c1] at e1
    have HE : Hid (callCh m.l k.bob k.single c = k.bob) := Lib.hid (by rw [HT.out, if_pos c1])
    clear c1 HT
    go_enter Tryz.func228, Tryz.ntmps228
    go_wp2_with fail
    go_ret
    exact ⟨ret_str HE.out.symm, bw_al (bw_al (Below.refl _ _) _) _⟩
  · rw [decide_eq_false c1] at e1
    by_cases c2 : c = 115
    · rw [decide_eq_true c2] at e2
      have HE : Hid (callCh m.l k.bob k.single c = k.single) := Lib.hid (by rw [HT.out, if_neg c1, if_pos c2])
      clear c1 c2 HT
      go_enter Tryz.func228, Tryz.ntmps228
      go_wp2_with fail
      go_ret
      exact ⟨ret_str HE.out.symm, bw_al (bw_al (Below.refl _ _) _) _⟩
    · rw [decide_eq_false c2] at e2
      have HE : Hid (callCh m.l k.bob k.single c = y) := Lib.hid (by rw [HT.out, if_neg c1, if_neg c2])
      have hCA : ∀ o1 o2, ((w.alloc o1).alloc o2).cell? (ad.add (m.l.length - 1)) = some (.string y) := fun _ _ => hC _ (bw_al (bw_al (Below.refl _ _) _) _)
      clear c1 c2 HT hC
      go_enter Tryz.func228, Tryz.ntmps228
      go_wp2_with fail
      go_ret
      exact ⟨ret_str HE.out.symm, bw_al (bw_al (Below.refl _ _) _) _⟩
set_option maxRecDepth 10000 in
set_option maxHeartbeats 2000000 in
theorem l8Head_any (m : Mt) (v : Value) (k : Cl) (n : Nat) (c : UInt8) (w : World) (hg : CGood m k n) (hv : Strs w v m.l) : Calls Tryz.prog 206 #[m.v v, k.v, .string (callT c)] w fun e w' => e = .returned (.string (headB n m.l k.bob k.single c)) ∧ Below w.heap.size w w' := by
  have HT := Lib.hid (headB_last n m.l k.bob k.single c)
  have hst := hg.m.st
  have hn := hg.m.hi
  have hl := hg.m.len
  have Hg := Lib.hid hg
  obtain ⟨ad, q, rfl⟩ := strs_some hv hl.1
  have h1 : m.l.length ≤ q := let ⟨_, _, e, h1, _⟩ := hv; by cases e; exact h1
  have h2 : q ≤ maxLen := let ⟨_, _, e, _, h2, _⟩ := hv; by cases e; exact h2
  unfold maxLen at h2
  have Hv := Lib.hid hv
  have Hu := Lib.hid (strs_upto hv (k := m.l.length - 1) (by omega))
  have Hch := Lib.hid (fun W hW => l8Change_any m (.slice (some ad) m.l.length q) k c W (Hv.out.to hW) hl)
  have Hcc := Lib.hid (calls_chs hg c (callCh m.l k.bob k.single c) (by unfold calledL; simp))
  obtain ⟨L, hL⟩ : ∃ L, L = m.l.take (m.l.length - 1) := ⟨_, rfl⟩
  have hLl : L.length = m.l.length - 1 := by rw [hL]; simp
  have hLok : ChsOk L := hg.m.ok.sub (fun c hc => by rw [hL] at hc; exact List.mem_of_mem_take hc)
  rw [← hL] at HT Hu
  obtain ⟨y, hy⟩ : ∃ y, y = callCh m.l k.bob k.single c := ⟨_, rfl⟩
  rw [← hy] at HT Hch Hcc
  unfold Mt.v Cl.v at *
  rw [hst] at Hch
  rw [hst]
  have hi0 : (0 : Int) ≤ (m.l.length : Int) - 1 := by omega
  have hi1 : ((m.l.length : Int) - 1).toNat = m.l.length - 1 := by omega
  have hi2 : (m.l.length : Int) - 1 ≤ (q : Int) := by omega
  have hi3 : (1 : Int) ≤ (m.l.length : Int) := by omega
  have hi4 : (m.l.length : Int) ≤ (q : Int) + 1 := by omega
  have hi5 : 1 ≤ m.l.length := by omega
  have hi6 : m.l.length ≤ q + 1 := by omega
  have hi7 : m.l.length - 1 ≤ q := by omega
  have hLl2 : L.length ≤ 1000000 := by omega
  have HLl := Lib.hid hLl
  clear hv hst hg hL hy hLl
  go_enter Tryz.func206, Tryz.ntmps206
  go_wp2_with fail
  refine box2 (C := fun W => Code.wp _ _ _ _ W) ?_
  intro wb hw k1 k2 hB0
  have R1 := boxRule k1
  have R2 := boxRule k2
  have Hru := Lib.hid (fun W hW => l4Lead_any (roundsB n) (.slice (some ad) (m.l.length - 1) q) L n W hn (rounds_in hn) (Strs.to Hu.out (bw_to hw hW)) hLl2 hLok)
  have hdr : Below wb.heap.size wb wb.drew := Below.drew (Below.refl _ _)
  clear k1 k2 hLok
  go_region_held3 (fun W => Below wb.heap.size wb W) (first | exact Below.drew (by assumption) | exact bw_to (by assumption) hb')
    (first | (go_at_call 96; refine (l1Rounds_any n _ hn).mono ?_; rintro e w' ⟨rfl, rfl⟩) | (go_at_call 213; refine (Hru.out _ (by assumption)).mono ?_; rintro e w' ⟨A1, q1, rfl, hown, hb'⟩))
  all_goals
    clear hown
    have hb1 : Below wb.heap.size wb w' := by assumption
    have hin := runB_in hn L (rounds_in hn)
    have Hap := Lib.hid (fun W => l2Apply_any (runB (roundsB n) L) y W (by rw [hin.1]; exact hn) Hcc.out.1)
    obtain ⟨z, hz⟩ : ∃ z, z = runB (roundsB n) L := ⟨_, rfl⟩
    rw [← hz] at Hap HT ⊢
    clear hin hz
    go_wp2_with fail
    refine (Hch.out _ (bw_to hw (by first | exact hb1 | exact hb1.drew))).mono ?_; rintro e w3 ⟨rfl, hb3⟩
    have hB3 := bw_to hw (bw_to (by first | exact hb1 | exact hb1.drew) hb3)
    go_wp2_with fail
    refine (Hap.out _).mono ?_; rintro e w4 ⟨rfl, hb4⟩
    go_wp2_with fail
    go_ret
    exact ⟨ret_str HT.out.symm, bw_to hB3 hb4⟩
end Go.Proofs.YtimeecimaokldaaGreatDoor

/- A law's arguments opened: calls. -/
namespace Go.Proofs.YtimeecimaokldaaGreatDoor
open Go Go.RowKit Go.WideShapes Go.ChangeShapes Go.ChangeAt Go.Joins Go.Deep
set_option linter.unusedVariables false
set_option linter.unusedSimpArgs false
set_option maxRecDepth 100000

section
variable {H : Type} {enc : TypeId × Value → H} {w : World} {base : Nat} {spare : Nat → Bool} {held : Bool}
theorem cells_Calls : Tryz.prog.cellsOf 26 = 2 := by kernel_rfl
theorem op_Calls {b0 : Nat} {r : Reach} {v : Value} {d : DataW H} {p : List MemPlace} (hv : Value.okWide Tryz.prog w r b0 26 v) (h : DataW.Trod enc Tryz.prog w base spare held 26 v d p) :
    ∃ k : Cl, v = k.v ∧ ClFit k := by
  obtain ⟨cs, n, rfl, hn⟩ := agg_of Tryz.underlying26 hv h
  obtain ⟨hl, m, hf⟩ := rd_struct Tryz.underlying26 hn
  rw [cells_Calls] at hl
  match cs, hl with
  | ⟨[c0, c1]⟩, _ =>
    obtain ⟨y0, h0⟩ : ∃ y', DataW.trod enc Tryz.prog w base spare held m 9 [c0] = some y' := by simpa [cells_string] using hf 0 _ rfl
    obtain ⟨y1, h1⟩ : ∃ y', DataW.trod enc Tryz.prog w base spare held m 9 [c1] = some y' := by simpa [cells_string] using hf 1 _ rfl
    obtain ⟨s, e0, _, hs⟩ := DataW.trod_string Tryz.underlying9 h0
    obtain ⟨s', e1, _, hs'⟩ := DataW.trod_string Tryz.underlying9 h1
    simp only [List.cons.injEq, and_true] at e0 e1
    subst e0 e1
    exact ⟨⟨s, s'⟩, rfl, hs, hs'⟩
end
end Go.Proofs.YtimeecimaokldaaGreatDoor
