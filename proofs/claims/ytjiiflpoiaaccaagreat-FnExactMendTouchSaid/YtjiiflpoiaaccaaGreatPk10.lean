/- Contracts: calls: their goodness, the lead heads that they give, both sides. -/
import Derived.Test.YtjiiflpoiaaccaaGreatPk9
import Derived.Test.YtjiiflpoiaaccaaGreatPk1
import Derived.Deep.Slices
import Derived.Deep.Fields
import Derived.Lib.SmallJoins
import Derived.Shelf.Strings.Builder1
import Derived.Shelf.Strings.Builder2
import Derived.Shelf.Small.Bits
import Derived.Shelf.Small.Strs
import Derived.Shelf.Strconv.Itoa0
import Derived.Shelf.Sort.Plain
import Derived.Shelf.Bits.Mul64
import Derived.Shelf.Slices.Turned
import Derived.Ground.Names2Prog
import Derived.Shelf.Slices.Clone
import Derived.Shelf.Slices.CompactS
import Derived.Shelf.Slices.Cells
import Derived.Shelf.Slices.In.SortNone
import Derived.Test.YtjiiflpoiaaccaaGreatProg
import Derived.Ground.SlgnProg
import Derived.Shelf.SlicesE.Clone
import Derived.Shelf.SlSortCmp.WholeK
import Derived.Shelf.SlSortCmp.NoneTotal
import Derived.Ground.SlsfProg
namespace Go.Proofs.YtjiiflpoiaaccaaGreat
open Go Go.RowKit
set_option linter.unusedVariables false
set_option linter.unusedSimpArgs false

structure Cl where
  bob : ByteArray
  single : ByteArray
def Cl.v (k : Cl) : Value := .agg #[.string k.bob, .string k.single]
def ClSmall (k : Cl) : Prop := k.bob.size ≤ 1048576 ∧ k.single.size ≤ 1048576
def ClFit (k : Cl) : Prop := k.bob.size ≤ maxLen ∧ k.single.size ≤ maxLen
theorem ClSmall.fit {k : Cl} (h : ClSmall k) : ClFit k := ⟨Nat.le_trans h.1 (by unfold maxLen; omega), Nat.le_trans h.2 (by unfold maxLen; omega)⟩
def callsB (m : Mt) (k : Cl) : Bool := methB m && (changeB m.stage k.bob.data.toList && changeB m.stage k.single.data.toList)
structure CGood (m : Mt) (k : Cl) (n : Nat) : Prop where
  m : MGood m n
  small : ClSmall k
  bob : chOk k.bob.data.toList
  single : chOk k.single.data.toList
theorem cgood_of {m : Mt} {k : Cl} (h : callsB m k = true) : ∃ n, CGood m k n := by
  unfold callsB at h
  rw [Bool.and_eq_true, Bool.and_eq_true] at h
  obtain ⟨n, hm⟩ := mgood_of h.1
  have h1 := changeB_size h.2.1
  have h2 := changeB_size h.2.2
  rw [bytes_len] at h1 h2
  exact ⟨n, hm, ⟨by omega, by omega⟩, chOk_of h.2.1, chOk_of h.2.2⟩
theorem calls_chs {m : Mt} {k : Cl} {n : Nat} (h : CGood m k n) (c : UInt8) : ChsOk (calledL m.l k.bob k.single c) := by
  intro x hx
  unfold calledL at hx
  rcases List.mem_append.1 hx with hx | hx
  · exact h.m.ok x (List.mem_of_mem_take hx)
  · rw [List.mem_singleton.1 hx]
    unfold callCh
    split
    · exact ⟨h.small.1, h.bob⟩
    · split
      · exact ⟨h.small.2, h.single⟩
      · rw [List.getLastD_eq_getLast?]
        cases hl : m.l.getLast? with
        | none => exact ⟨by show 0 ≤ _; omega, .inr rfl⟩
        | some y => exact h.m.ok y (List.mem_of_getLast? hl)
/-- The text of a call. -/
def callT (c : UInt8) : ByteArray := ⟨#[c]⟩
theorem callT_list (c : UInt8) : (callT c).toList = [c] := by rw [bytes_toList]; rfl
theorem callT_is (c d : UInt8) : ((callT c).toList == [d]) = decide (c = d) := by rw [callT_list, Bool.eq_iff_iff]; simp
set_option maxHeartbeats 2000000 in
theorem GoodCalls_any (m : Mt) (v : Value) (k : Cl) (w : World) (h : MethAt w m v) (hs : MtSmall m) (hk : ClSmall k) : Calls Tryz.prog 193 #[m.v v, k.v] w fun e w' => e = .returned (.bool (callsB m k)) ∧ Below w.heap.size w w' := by
  have HM := Lib.hid (fun W hW => implGoodMethod_any m v W (h.to hW) hs)
  have HB := Lib.hid (fun W => GoodChange_any m.stage k.bob W hk.1)
  have HS := Lib.hid (fun W => GoodChange_any m.stage k.single W hk.2)
  have HT : Hid (callsB m k = (methB m && (changeB m.stage k.bob.data.toList && changeB m.stage k.single.data.toList))) := Lib.hid rfl
  obtain ⟨A, c, hv⟩ := h.form
  subst hv
  obtain ⟨p, hp⟩ : ∃ p, p = methB m := ⟨_, rfl⟩
  obtain ⟨q, hq⟩ : ∃ q, q = changeB m.stage k.bob.data.toList := ⟨_, rfl⟩
  obtain ⟨r, hr⟩ : ∃ r, r = changeB m.stage k.single.data.toList := ⟨_, rfl⟩
  rw [← hp] at HM HT
  rw [← hq] at HB HT
  rw [← hr] at HS HT
  clear h hp hq hr
  unfold Mt.v Cl.v at *
  go_enter Tryz.func193, Tryz.ntmps193
  go_wp2_with fail
  refine box2 (C := fun W => Calls _ _ _ W _) ?_
  intro wb hw k1 k2 hB0
  have R1 := boxRule k1
  have R2 := boxRule k2
  clear k1 k2
  refine (HM.out _ hw).mono ?_; rintro e w1 ⟨rfl, hb1⟩
  cases p
  · go_wp2_with fail
    go_ret
    exact ⟨ret_bool (by rw [HT.out]; rfl), bw_to hw hb1⟩
  · go_wp2_with fail
    refine (HB.out _).mono ?_; rintro e w2 ⟨rfl, hb2⟩
    have hB2 := bw_to hb1 hb2
    cases q
    · go_wp2_with fail
      go_ret
      exact ⟨ret_bool (by rw [HT.out]; rfl), bw_to hw hB2⟩
    · go_wp2_with fail
      refine (HS.out _).mono ?_; rintro e w3 ⟨rfl, hb3⟩
      go_wp2_with fail
      go_ret
      exact ⟨ret_bool (by rw [HT.out]; rfl), bw_to hw (bw_to hB2 hb3)⟩
set_option maxHeartbeats 2000000 in
theorem l8Good_any (m : Mt) (v : Value) (k : Cl) (w : World) (h : MethAt w m v) (hs : MtSmall m) (hk : ClSmall k) : Calls Tryz.prog 256 #[m.v v, k.v] w fun e w' => e = .returned (.bool (callsB m k)) ∧ Below w.heap.size w w' := by
  have HM := Lib.hid (fun W hW => l4Good_any m v W (h.to hW) hs)
  have HB := Lib.hid (fun W => l2Change_any m.stage k.bob W hk.fit.1)
  have HS := Lib.hid (fun W => l2Change_any m.stage k.single W hk.fit.2)
  have HT : Hid (callsB m k = (methB m && (changeB m.stage k.bob.data.toList && changeB m.stage k.single.data.toList))) := Lib.hid rfl
  obtain ⟨A, c, hv⟩ := h.form
  subst hv
  obtain ⟨p, hp⟩ : ∃ p, p = methB m := ⟨_, rfl⟩
  obtain ⟨q, hq⟩ : ∃ q, q = changeB m.stage k.bob.data.toList := ⟨_, rfl⟩
  obtain ⟨r, hr⟩ : ∃ r, r = changeB m.stage k.single.data.toList := ⟨_, rfl⟩
  rw [← hp] at HM HT
  rw [← hq] at HB HT
  rw [← hr] at HS HT
  clear h hp hq hr
  unfold Mt.v Cl.v at *
  go_enter Tryz.func256, Tryz.ntmps256
  go_wp2_with fail
  refine box2 (C := fun W => Calls _ _ _ W _) ?_
  intro wb hw k1 k2 hB0
  have R1 := boxRule k1
  have R2 := boxRule k2
  clear k1 k2
  refine (HM.out _ hw).mono ?_; rintro e w1 ⟨rfl, hb1⟩
  cases p
  · go_wp2_with fail
    go_ret
    exact ⟨ret_bool (by rw [HT.out]; rfl), bw_to hw hb1⟩
  · go_wp2_with fail
    refine (HB.out _).mono ?_; rintro e w2 ⟨rfl, rfl⟩
    cases q
    · go_wp2_with fail
      go_ret
      exact ⟨ret_bool (by rw [HT.out]; rfl), bw_to hw hb1⟩
    · go_wp2_with fail
      refine (HS.out _).mono ?_; rintro e w3 ⟨rfl, rfl⟩
      go_wp2_with fail
      go_ret
      exact ⟨ret_bool (by rw [HT.out]; rfl), bw_to hw hb1⟩
set_option maxHeartbeats 1000000 in
theorem goodFor_any (m : Mt) (v : Value) (k : Cl) (t : ByteArray) (w : World) (h : MethAt w m v) (hs : MtSmall m) (hk : ClSmall k) (ht : t.size ≤ maxLen) : Calls Tryz.prog 101 #[m.v v, k.v, .string t] w fun e w' => e = .returned (.bool (callsB m k && touchB t.data.toList)) ∧ Below w.heap.size w w' := by
  have HM := Lib.hid (fun W hW => GoodCalls_any m v k W (h.to hW) hs hk)
  have HB := Lib.hid (fun W => GoodTouch_any t W ht)
  obtain ⟨A, c, hv⟩ := h.form
  subst hv
  obtain ⟨p, hp⟩ : ∃ p, p = callsB m k := ⟨_, rfl⟩
  obtain ⟨q, hq⟩ : ∃ q, q = touchB t.data.toList := ⟨_, rfl⟩
  rw [← hp, ← hq]
  rw [← hp] at HM
  rw [← hq] at HB
  clear h hp hq
  unfold Mt.v Cl.v at *
  go_enter Tryz.func101, Tryz.ntmps101
  go_wp2_with fail
  refine box2 (C := fun W => Calls _ _ _ W _) ?_
  intro wb hw k1 k2 hB0
  refine (HM.out _ hw).mono ?_; rintro e w1 ⟨rfl, hb1⟩
  cases p
  · go_wp2_with fail
    go_ret
    exact ⟨rfl, bw_to hw hb1⟩
  · go_wp2_with fail
    refine (HB.out _).mono ?_; rintro e w2 ⟨rfl, rfl⟩
    go_wp2_with fail
    go_ret
    exact ⟨ret_bool (by simp), bw_to hw hb1⟩
set_option maxHeartbeats 1000000 in
theorem l9Asked_any (m : Mt) (v : Value) (k : Cl) (t : ByteArray) (w : World) (h : MethAt w m v) (hs : MtSmall m) (hk : ClSmall k) (ht : t.size ≤ maxLen) : Calls Tryz.prog 186 #[m.v v, k.v, .string t] w fun e w' => e = .returned (.bool (callsB m k && touchB t.data.toList)) ∧ Below w.heap.size w w' := by
  have HM := Lib.hid (fun W hW => l8Good_any m v k W (h.to hW) hs hk)
  have HB := Lib.hid (fun W => l9Good_any t W ht)
  obtain ⟨A, c, hv⟩ := h.form
  subst hv
  obtain ⟨p, hp⟩ : ∃ p, p = callsB m k := ⟨_, rfl⟩
  obtain ⟨q, hq⟩ : ∃ q, q = touchB t.data.toList := ⟨_, rfl⟩
  rw [← hp, ← hq]
  rw [← hp] at HM
  rw [← hq] at HB
  clear h hp hq
  unfold Mt.v Cl.v at *
  go_enter Tryz.func186, Tryz.ntmps186
  go_wp2_with fail
  refine box2 (C := fun W => Calls _ _ _ W _) ?_
  intro wb hw k1 k2 hB0
  refine (HM.out _ hw).mono ?_; rintro e w1 ⟨rfl, hb1⟩
  cases p
  · go_wp2_with fail
    go_ret
    exact ⟨rfl, bw_to hw hb1⟩
  · go_wp2_with fail
    refine (HB.out _).mono ?_; rintro e w2 ⟨rfl, rfl⟩
    go_wp2_with fail
    go_ret
    exact ⟨ret_bool (by simp), bw_to hw hb1⟩
theorem last_get {l : List ByteArray} (h : 1 ≤ l.length) : l[l.length - 1]'(by omega) = l.getLastD ⟨#[]⟩ := by
  rw [List.getLastD_eq_getLast?, List.getLast?_eq_getElem?, List.getElem?_eq_getElem (by omega)]; rfl
set_option maxHeartbeats 1000000 in
theorem l8Change_any (m : Mt) (v : Value) (k : Cl) (c : UInt8) (w : World) (h : Strs w v m.l) (hl : 1 ≤ m.l.length ∧ m.l.length ≤ 40) : Calls Tryz.prog 312 #[m.v v, k.v, .string (callT c)] w fun e w' => e = .returned (.string (callCh m.l k.bob k.single c)) ∧ Below w.heap.size w w' := by
  have e1 := callT_is c 98
  have e2 := callT_is c 115
  have HT : Hid (callCh m.l k.bob k.single c = if c = 98 then k.bob else if c = 115 then k.single else m.l.getLastD ⟨#[]⟩) := Lib.hid rfl
  obtain ⟨A, q, hv, h1, h2, hrd⟩ := h
  subst hv
  unfold maxLen at h2
  obtain ⟨ad, rfl, hC⟩ := strs_el (k := m.l.length - 1) hrd (by omega)
  rw [last_get hl.1] at hC
  have hi0 : (0 : Int) ≤ (m.l.length : Int) - 1 := by omega
  have hi1 : ((m.l.length : Int) - 1).toNat = m.l.length - 1 := by omega
  obtain ⟨y, hy⟩ : ∃ y, y = m.l.getLastD ⟨#[]⟩ := ⟨_, rfl⟩
  rw [← hy] at hC HT
  unfold Mt.v Cl.v
  clear hrd hy
  by_cases c1 : c = 98
  · rw [decide_eq_true c1] at e1
    have HE : Hid (callCh m.l k.bob k.single c = k.bob) := Lib.hid (by rw [HT.out, if_pos c1])
    clear c1 HT
    go_enter Tryz.func312, Tryz.ntmps312
    go_wp2_with fail
    go_ret
    exact ⟨ret_str HE.out.symm, bw_al (bw_al (Below.refl _ _) _) _⟩
  · rw [decide_eq_false c1] at e1
    by_cases c2 : c = 115
    · rw [decide_eq_true c2] at e2
      have HE : Hid (callCh m.l k.bob k.single c = k.single) := Lib.hid (by rw [HT.out, if_neg c1, if_pos c2])
      clear c1 c2 HT
      go_enter Tryz.func312, Tryz.ntmps312
      go_wp2_with fail
      go_ret
      exact ⟨ret_str HE.out.symm, bw_al (bw_al (Below.refl _ _) _) _⟩
    · rw [decide_eq_false c2] at e2
      have HE : Hid (callCh m.l k.bob k.single c = y) := Lib.hid (by rw [HT.out, if_neg c1, if_neg c2])
      have hCA : ∀ o1 o2, ((w.alloc o1).alloc o2).cell? (ad.add (m.l.length - 1)) = some (.string y) := fun _ _ => hC _ (bw_al (bw_al (Below.refl _ _) _) _)
      clear c1 c2 HT hC
      go_enter Tryz.func312, Tryz.ntmps312
      go_wp2_with fail
      go_ret
      exact ⟨ret_str HE.out.symm, bw_al (bw_al (Below.refl _ _) _) _⟩
set_option maxRecDepth 10000 in
set_option maxHeartbeats 2000000 in
theorem l8Head_any (m : Mt) (v : Value) (k : Cl) (n : Nat) (c : UInt8) (w : World) (hg : CGood m k n) (hv : Strs w v m.l) : Calls Tryz.prog 257 #[m.v v, k.v, .string (callT c)] w fun e w' => e = .returned (.string (headB n m.l k.bob k.single c)) ∧ Below w.heap.size w w' := by
  have HT := Lib.hid (headB_last n m.l k.bob k.single c)
  have hst := hg.m.st
  have hn := hg.m.hi
  have hl := hg.m.len
  have Hg := Lib.hid hg
  obtain ⟨ad, q, rfl⟩ := strs_some hv hl.1
  have h1 : m.l.length ≤ q := let ⟨_, _, e, h1, _⟩ := hv; by cases e; exact h1
  have h2 : q ≤ maxLen := let ⟨_, _, e, _, h2, _⟩ := hv; by cases e; exact h2
  unfold maxLen at h2
  have Hv := Lib.hid hv
  have Hu := Lib.hid (strs_upto hv (k := m.l.length - 1) (by omega))
  have Hch := Lib.hid (fun W hW => l8Change_any m (.slice (some ad) m.l.length q) k c W (Hv.out.to hW) hl)
  have Hcc := Lib.hid (calls_chs hg c (callCh m.l k.bob k.single c) (by unfold calledL; simp))
  obtain ⟨L, hL⟩ : ∃ L, L = m.l.take (m.l.length - 1) := ⟨_, rfl⟩
  have hLl : L.length = m.l.length - 1 := by rw [hL]; simp
  have hLok : ChsOk L := hg.m.ok.sub (fun c hc => by rw [hL] at hc; exact List.mem_of_mem_take hc)
  rw [← hL] at HT Hu
  obtain ⟨y, hy⟩ : ∃ y, y = callCh m.l k.bob k.single c := ⟨_, rfl⟩
  rw [← hy] at HT Hch Hcc
  unfold Mt.v Cl.v at *
  rw [hst] at Hch
  rw [hst]
  have hi0 : (0 : Int) ≤ (m.l.length : Int) - 1 := by omega
  have hi1 : ((m.l.length : Int) - 1).toNat = m.l.length - 1 := by omega
  have hi2 : (m.l.length : Int) - 1 ≤ (q : Int) := by omega
  have hi3 : (1 : Int) ≤ (m.l.length : Int) := by omega
  have hi4 : (m.l.length : Int) ≤ (q : Int) + 1 := by omega
  have hi5 : 1 ≤ m.l.length := by omega
  have hi6 : m.l.length ≤ q + 1 := by omega
  have hi7 : m.l.length - 1 ≤ q := by omega
  have hLl2 : L.length ≤ 1000000 := by omega
  have HLl := Lib.hid hLl
  clear hv hst hg hL hy hLl
  go_enter Tryz.func257, Tryz.ntmps257
  go_wp2_with fail
  refine box2 (C := fun W => Code.wp _ _ _ _ W) ?_
  intro wb hw k1 k2 hB0
  have R1 := boxRule k1
  have R2 := boxRule k2
  have Hru := Lib.hid (fun W hW => l4Lead_any (roundsB n) (.slice (some ad) (m.l.length - 1) q) L n W hn (rounds_in hn) (Strs.to Hu.out (bw_to hw hW)) hLl2 hLok)
  have hdr : Below wb.heap.size wb wb.drew := Below.drew (Below.refl _ _)
  clear k1 k2 hLok
  go_region_held3 (fun W => Below wb.heap.size wb W) (first | exact Below.drew (by assumption) | exact bw_to (by assumption) hb')
    (first | (go_at_call 139; refine (l1Rounds_any n _ hn).mono ?_; rintro e w' ⟨rfl, rfl⟩) | (go_at_call 137; refine (Hru.out _ (by assumption)).mono ?_; rintro e w' ⟨A1, q1, rfl, hown, hb'⟩))
  all_goals
    clear hown
    have hb1 : Below wb.heap.size wb w' := by assumption
    have hin := runB_in hn L (rounds_in hn)
    have Hap := Lib.hid (fun W => l2Apply_any (runB (roundsB n) L) y W (by rw [hin.1]; exact hn) Hcc.out.1)
    obtain ⟨z, hz⟩ : ∃ z, z = runB (roundsB n) L := ⟨_, rfl⟩
    rw [← hz] at Hap HT ⊢
    clear hin hz
    go_wp2_with fail
    refine (Hch.out _ (bw_to hw (by first | exact hb1 | exact hb1.drew))).mono ?_; rintro e w3 ⟨rfl, hb3⟩
    have hB3 := bw_to hw (bw_to (by first | exact hb1 | exact hb1.drew) hb3)
    go_wp2_with fail
    refine (Hap.out _).mono ?_; rintro e w4 ⟨rfl, hb4⟩
    go_wp2_with fail
    go_ret
    exact ⟨ret_str HT.out.symm, bw_to hB3 hb4⟩
end Go.Proofs.YtjiiflpoiaaccaaGreat

/- A law's arguments opened: calls. -/
namespace Go.Proofs.YtjiiflpoiaaccaaGreat
open Go Go.RowKit Go.WideShapes Go.ChangeShapes Go.ChangeAt Go.Joins Go.Deep
set_option linter.unusedVariables false
set_option linter.unusedSimpArgs false
set_option maxRecDepth 100000

section
variable {H : Type} {enc : TypeId × Value → H} {w : World} {base : Nat} {spare : Nat → Bool} {held : Bool}
theorem cells_Calls : Tryz.prog.cellsOf 26 = 2 := by kernel_rfl
theorem op_Calls {b0 : Nat} {r : Reach} {v : Value} {d : DataW H} {p : List MemPlace} (hv : Value.okWide Tryz.prog w r b0 26 v) (h : DataW.Trod enc Tryz.prog w base spare held 26 v d p) :
    ∃ k : Cl, v = k.v ∧ ClFit k := by
  obtain ⟨cs, n, rfl, hn⟩ := agg_of Tryz.underlying26 hv h
  obtain ⟨hl, m, hf⟩ := rd_struct Tryz.underlying26 hn
  rw [cells_Calls] at hl
  match cs, hl with
  | ⟨[c0, c1]⟩, _ =>
    obtain ⟨y0, h0⟩ : ∃ y', DataW.trod enc Tryz.prog w base spare held m 9 [c0] = some y' := by simpa [cells_string] using hf 0 _ rfl
    obtain ⟨y1, h1⟩ : ∃ y', DataW.trod enc Tryz.prog w base spare held m 9 [c1] = some y' := by simpa [cells_string] using hf 1 _ rfl
    obtain ⟨s, e0, _, hs⟩ := DataW.trod_string Tryz.underlying9 h0
    obtain ⟨s', e1, _, hs'⟩ := DataW.trod_string Tryz.underlying9 h1
    simp only [List.cons.injEq, and_true] at e0 e1
    subst e0 e1
    exact ⟨⟨s, s'⟩, rfl, hs, hs'⟩
end
end Go.Proofs.YtjiiflpoiaaccaaGreat

/- Contracts of the library laid at this program (the kit's shelf, its plain mode). -/
namespace Go.Proofs
open Go.Shelf
def Tryz.lays106_ren : Go.Shelf.Ren := ⟨fun | 106 => 133 | 213 => 225 | 265 => 296 | n => n, fun | 9 => 9 | 3 => 3 | n => n, fun | n => n⟩
theorem Tryz.lays106 : Go.Proofs.Lays.n106 Tryz.prog Tryz.lays106_ren := {
  mixed := by kernel_rfl
  f106 := Tryz.func133.trans (congrArg some (by kernel_rfl))
  f213 := Tryz.func225.trans (congrArg some (by kernel_rfl))
  f265 := Tryz.func296.trans (congrArg some (by kernel_rfl))
  t3 := Tryz.underlying3
  a3 := Tryz.isAgg3
  z3 := Tryz.sizeOf3
  v3 := Tryz.zeroValue3
  t9 := Tryz.underlying9
  a9 := Tryz.isAgg9
  z9 := Tryz.sizeOf9
  v9 := Tryz.zeroValue9 }
open Go.RowKit in
theorem Tryz.strings_Compare (a b : ByteArray) (w : World) :
    Calls Tryz.prog 133 #[.string a, .string b] w fun e w' => e = .returned (.int .i64 (Lib.compareBytes a.data.toList b.data.toList)) ∧ w' = w := Any.strings_Compare Tryz.lays106 a b w
def Tryz.lays190_ren : Go.Shelf.Ren := ⟨fun | 190 => 309 | 125 => 224 | 258 => 334 | 128 => 294 | 129 => 295 | 302 => 346 | 303 => 347 | 304 => 348 | 305 => 349 | 306 => 350 | 307 => 351 | 308 => 307 | 309 => 352 | 310 => 353 | 333 => 362 | 329 => 326 | 330 => 327 | 334 => 363 | 335 => 364 | 336 => 333 | 344 => 368 | n => n, fun | 31 => 22 | 9 => 9 | 3 => 3 | 46 => 215 | 0 => 0 | 51 => 247 | 53 => 128 | 4 => 4 | 183 => 241 | 182 => 240 | 131 => 75 | 5 => 5 | 218 => 262 | 222 => 266 | 228 => 281 | 229 => 282 | n => n, fun | n => n⟩
theorem Tryz.lays190 : Go.Proofs.Lays.n190 Tryz.prog Tryz.lays190_ren := {
  mixed := by kernel_rfl
  f125 := Tryz.func224.trans (congrArg some (by kernel_rfl))
  f128 := Tryz.func294.trans (congrArg some (by kernel_rfl))
  f129 := Tryz.func295.trans (congrArg some (by kernel_rfl))
  f190 := Tryz.func309.trans (congrArg some (by kernel_rfl))
  f258 := Tryz.func334.trans (congrArg some (by kernel_rfl))
  f302 := Tryz.func346.trans (congrArg some (by kernel_rfl))
  f303 := Tryz.func347.trans (congrArg some (by kernel_rfl))
  f304 := Tryz.func348.trans (congrArg some (by kernel_rfl))
  f305 := Tryz.func349.trans (congrArg some (by kernel_rfl))
  f306 := Tryz.func350.trans (congrArg some (by kernel_rfl))
  f307 := Tryz.func351.trans (congrArg some (by kernel_rfl))
  f308 := Tryz.func307.trans (congrArg some (by kernel_rfl))
  f309 := Tryz.func352.trans (congrArg some (by kernel_rfl))
  f310 := Tryz.func353.trans (congrArg some (by kernel_rfl))
  f329 := Tryz.func326.trans (congrArg some (by kernel_rfl))
  f330 := Tryz.func327.trans (congrArg some (by kernel_rfl))
  f333 := Tryz.func362.trans (congrArg some (by kernel_rfl))
  f334 := Tryz.func363.trans (congrArg some (by kernel_rfl))
  f335 := Tryz.func364.trans (congrArg some (by kernel_rfl))
  f336 := Tryz.func333.trans (congrArg some (by kernel_rfl))
  f344 := Tryz.func368.trans (congrArg some (by kernel_rfl))
  t0 := Tryz.underlying0
  a0 := Tryz.isAgg0
  z0 := Tryz.sizeOf0
  v0 := Tryz.zeroValue0
  t3 := Tryz.underlying3
  a3 := Tryz.isAgg3
  z3 := Tryz.sizeOf3
  v3 := Tryz.zeroValue3
  t4 := Tryz.underlying4
  a4 := Tryz.isAgg4
  z4 := Tryz.sizeOf4
  v4 := Tryz.zeroValue4
  t5 := Tryz.underlying5
  a5 := Tryz.isAgg5
  z5 := Tryz.sizeOf5
  v5 := Tryz.zeroValue5
  t9 := Tryz.underlying9
  a9 := Tryz.isAgg9
  z9 := Tryz.sizeOf9
  v9 := Tryz.zeroValue9
  t31 := Tryz.underlying22
  a31 := Tryz.isAgg22
  z31 := Tryz.sizeOf22
  v31 := Tryz.zeroValue22
  t46 := Tryz.underlying215
  a46 := Tryz.isAgg215
  z46 := Tryz.sizeOf215
  v46 := Tryz.zeroValue215
  t51 := Tryz.underlying247
  a51 := Tryz.isAgg247
  z51 := Tryz.sizeOf247
  v51 := Tryz.zeroValue247
  t53 := Tryz.underlying128
  a53 := Tryz.isAgg128
  z53 := Tryz.sizeOf128
  v53 := Tryz.zeroValue128
  t131 := Tryz.underlying75
  a131 := Tryz.isAgg75
  z131 := Tryz.sizeOf75
  v131 := Tryz.zeroValue75
  t182 := Tryz.underlying240
  a182 := Tryz.isAgg240
  z182 := Tryz.sizeOf240
  v182 := Tryz.zeroValue240
  t183 := Tryz.underlying241
  a183 := Tryz.isAgg241
  z183 := Tryz.sizeOf241
  v183 := Tryz.zeroValue241
  t218 := Tryz.underlying262
  a218 := Tryz.isAgg262
  z218 := Tryz.sizeOf262
  v218 := Tryz.zeroValue262
  t222 := Tryz.underlying266
  a222 := Tryz.isAgg266
  z222 := Tryz.sizeOf266
  v222 := Tryz.zeroValue266
  t228 := Tryz.underlying281
  a228 := Tryz.isAgg281
  z228 := Tryz.sizeOf281
  v228 := Tryz.zeroValue281
  t229 := Tryz.underlying282
  a229 := Tryz.isAgg282
  z229 := Tryz.sizeOf282
  v229 := Tryz.zeroValue282 }
open Go.Sort Go.RowKit in
theorem Tryz.slices_Sort_string (blk off cap : Nat) (ss : List (List UInt8)) (w : World) (hH : Holds encStr w blk off ss.toArray) (hblk : blk < w.heap.size) (hsz : ss.length < 4611686018427387904) :
    Calls Tryz.prog 309 #[.slice (some ⟨blk, off, none⟩) ss.length cap] w fun e w' =>
      e = .returned (.tuple #[]) ∧ ∃ n os, w' = grow (putRow encStr (Sort.ahead w n) blk off (ss.mergeSort fun x y => decide (x ≤ y)).toArray) os := Any.slices_Sort_string Tryz.lays190 blk off cap ss w hH hblk hsz
def Tryz.lays194_ren : Go.Shelf.Ren := ⟨fun | 194 => 253 | n => n, fun | 31 => 22 | 9 => 9 | 3 => 3 | 4 => 4 | 0 => 0 | n => n, fun | n => n⟩
theorem Tryz.lays194 : Go.Proofs.Lays.n194 Tryz.prog Tryz.lays194_ren := {
  mixed := by kernel_rfl
  f194 := Tryz.func253.trans (congrArg some (by kernel_rfl))
  t0 := Tryz.underlying0
  a0 := Tryz.isAgg0
  z0 := Tryz.sizeOf0
  v0 := Tryz.zeroValue0
  t3 := Tryz.underlying3
  a3 := Tryz.isAgg3
  z3 := Tryz.sizeOf3
  v3 := Tryz.zeroValue3
  t4 := Tryz.underlying4
  a4 := Tryz.isAgg4
  z4 := Tryz.sizeOf4
  v4 := Tryz.zeroValue4
  t9 := Tryz.underlying9
  a9 := Tryz.isAgg9
  z9 := Tryz.sizeOf9
  v9 := Tryz.zeroValue9
  t31 := Tryz.underlying22
  a31 := Tryz.isAgg22
  z31 := Tryz.sizeOf22
  v31 := Tryz.zeroValue22 }
open Go.RowKit Go.Lib Go.Sort in
theorem Tryz.slices_Compact_string (blk off cap : Nat) (zs : List (List UInt8)) (w : World) (hH : Holds encStr w blk off zs.toArray) (hsz : zs.length ≤ 9223372036854775807) (hcap : zs.length ≤ cap) :
    Calls Tryz.prog 253 #[.slice (some ⟨blk, off, none⟩) zs.length cap] w fun e w' => e = .returned (.slice (some ⟨blk, off, none⟩) (Lib.compact zs).length cap) ∧ ∃ q, w' = putRow encStr (Sort.ahead w q) blk off (Lib.compact zs ++ List.replicate (zs.length - (Lib.compact zs).length) []).toArray := Any.slices_Compact_string Tryz.lays194 blk off cap zs w hH hsz hcap
end Go.Proofs

/- A contract of the library laid at this program: slices.SortFunc at lines. -/
namespace Go.Proofs
open Go.Shelf
def Tryz.sortL_ren : Go.Shelf.Ren := ⟨fun | 6 => 131 | 15 => 224 | 14 => 223 | 28 => 294 | 29 => 295 | 20 => 286 | 21 => 287 | 22 => 288 | 23 => 289 | 24 => 290 | 25 => 291 | 26 => 292 | 27 => 293 | 46 => 325 | 47 => 326 | 48 => 327 | 49 => 328 | 50 => 329 | 57 => 342 | n => n, fun | 22 => 65 | 24 => 83 | 25 => 150 | 3 => 3 | 39 => 215 | 0 => 0 | 53 => 247 | 55 => 128 | 4 => 4 | 46 => 241 | 45 => 240 | 50 => 75 | 5 => 5 | 9 => 9 | 66 => 262 | 70 => 266 | 76 => 281 | 77 => 282 | n => n, fun | n => n⟩
theorem Tryz.sortL : Go.Proofs.SlLaysF0.n6 Tryz.prog Tryz.sortL_ren := {
  mixed := by kernel_rfl
  f6 := ⟨Tryz.f131.name, by decide, Tryz.func131.trans (congrArg some (by kernel_rfl))⟩
  f14 := ⟨Tryz.f223.name, by decide, Tryz.func223.trans (congrArg some (by kernel_rfl))⟩
  f15 := Tryz.func224.trans (congrArg some (by kernel_rfl))
  f20 := ⟨Tryz.f286.name, by decide, Tryz.func286.trans (congrArg some (by kernel_rfl))⟩
  f21 := ⟨Tryz.f287.name, by decide, Tryz.func287.trans (congrArg some (by kernel_rfl))⟩
  f22 := ⟨Tryz.f288.name, by decide, Tryz.func288.trans (congrArg some (by kernel_rfl))⟩
  f23 := ⟨Tryz.f289.name, by decide, Tryz.func289.trans (congrArg some (by kernel_rfl))⟩
  f24 := ⟨Tryz.f290.name, by decide, Tryz.func290.trans (congrArg some (by kernel_rfl))⟩
  f25 := ⟨Tryz.f291.name, by decide, Tryz.func291.trans (congrArg some (by kernel_rfl))⟩
  f26 := ⟨Tryz.f292.name, by decide, Tryz.func292.trans (congrArg some (by kernel_rfl))⟩
  f27 := ⟨Tryz.f293.name, by decide, Tryz.func293.trans (congrArg some (by kernel_rfl))⟩
  f28 := Tryz.func294.trans (congrArg some (by kernel_rfl))
  f29 := Tryz.func295.trans (congrArg some (by kernel_rfl))
  f46 := ⟨Tryz.f325.name, by decide, Tryz.func325.trans (congrArg some (by kernel_rfl))⟩
  f47 := Tryz.func326.trans (congrArg some (by kernel_rfl))
  f48 := Tryz.func327.trans (congrArg some (by kernel_rfl))
  f49 := ⟨Tryz.f328.name, by decide, Tryz.func328.trans (congrArg some (by kernel_rfl))⟩
  f50 := ⟨Tryz.f329.name, by decide, Tryz.func329.trans (congrArg some (by kernel_rfl))⟩
  f57 := ⟨Tryz.f342.name, by decide, Tryz.func342.trans (congrArg some (by kernel_rfl))⟩
  t0 := Tryz.underlying0
  a0 := Tryz.isAgg0
  z0 := Tryz.sizeOf0
  v0 := Tryz.zeroValue0
  t3 := Tryz.underlying3
  a3 := Tryz.isAgg3
  z3 := Tryz.sizeOf3
  v3 := Tryz.zeroValue3
  t4 := Tryz.underlying4
  a4 := Tryz.isAgg4
  z4 := Tryz.sizeOf4
  v4 := Tryz.zeroValue4
  t5 := Tryz.underlying5
  a5 := Tryz.isAgg5
  z5 := Tryz.sizeOf5
  v5 := Tryz.zeroValue5
  t9 := Tryz.underlying9
  a9 := Tryz.isAgg9
  z9 := Tryz.sizeOf9
  v9 := Tryz.zeroValue9
  t22 := Tryz.underlying65
  a22 := Tryz.isAgg65
  z22 := Tryz.sizeOf65
  v22 := Tryz.zeroValue65
  t25 := Tryz.underlying150
  a25 := Tryz.isAgg150
  z25 := Tryz.sizeOf150
  v25 := Tryz.zeroValue150
  t39 := Tryz.underlying215
  a39 := Tryz.isAgg215
  z39 := Tryz.sizeOf215
  v39 := Tryz.zeroValue215
  t45 := Tryz.underlying240
  a45 := Tryz.isAgg240
  z45 := Tryz.sizeOf240
  v45 := Tryz.zeroValue240
  t46 := Tryz.underlying241
  a46 := Tryz.isAgg241
  z46 := Tryz.sizeOf241
  v46 := Tryz.zeroValue241
  t50 := Tryz.underlying75
  a50 := Tryz.isAgg75
  z50 := Tryz.sizeOf75
  v50 := Tryz.zeroValue75
  t53 := Tryz.underlying247
  a53 := Tryz.isAgg247
  z53 := Tryz.sizeOf247
  v53 := Tryz.zeroValue247
  t55 := Tryz.underlying128
  a55 := Tryz.isAgg128
  z55 := Tryz.sizeOf128
  v55 := Tryz.zeroValue128
  t66 := Tryz.underlying262
  a66 := Tryz.isAgg262
  z66 := Tryz.sizeOf262
  v66 := Tryz.zeroValue262
  t70 := Tryz.underlying266
  a70 := Tryz.isAgg266
  z70 := Tryz.sizeOf266
  v70 := Tryz.zeroValue266
  t76 := Tryz.underlying281
  a76 := Tryz.isAgg281
  z76 := Tryz.sizeOf281
  v76 := Tryz.zeroValue281
  t77 := Tryz.underlying282
  a77 := Tryz.isAgg282
  z77 := Tryz.sizeOf282
  v77 := Tryz.zeroValue282 }
end Go.Proofs
