/- Contract: the layers of a repair, the program's. -/
import Derived.Test.YtjiiflpoiaaccaaGreatPk28
import Derived.Test.YtjiiflpoiaaccaaGreatPk29
namespace Go.Proofs.YtjiiflpoiaaccaaGreat
open Go Go.RowKit
set_option linter.unusedVariables false
set_option linter.unusedSimpArgs false

def laysU (hs : List ByteArray) (fr : ByteArray) (i : Nat) : List (List ByteArray) := (List.range i).map (layR hs fr)
theorem laysU_len (hs : List ByteArray) (fr : ByteArray) (i : Nat) : (laysU hs fr i).length = i := by simp [laysU]
theorem laysU_get {hs : List ByteArray} {fr : ByteArray} {i j : Nat} (h : j < (laysU hs fr i).length) : (laysU hs fr i)[j] = layR hs fr j := by simp [laysU]
theorem laysU_succ (hs : List ByteArray) (fr : ByteArray) (i : Nat) : laysU hs fr (i + 1) = laysU hs fr i ++ [layR hs fr i] := by simp [laysU, List.range_succ]
def laysB (hs : List ByteArray) (fr tg : ByteArray) : List (List ByteArray) := match repB hs fr tg with
  | some N => laysU hs fr (N + 1)
  | none => []
theorem laysB_some {hs : List ByteArray} {fr tg : ByteArray} {N : Nat} (h : repB hs fr tg = some N) : laysB hs fr tg = laysU hs fr (N + 1) := by unfold laysB; rw [h]
theorem laysB_none {hs : List ByteArray} {fr tg : ByteArray} (h : repB hs fr tg = none) : laysB hs fr tg = [] := by unfold laysB; rw [h]
theorem info_slU : (Tryz.prog.info? 22).map (fun i => (i.zero, i.size, i.bytes)) = some (some (.slice none 0 0), 1, 24) := by kernel_rfl
theorem layR_in {n : Nat} (hn : n ≤ 8) {hs : List ByteArray} (hh : ∀ h ∈ hs, RowIn n h) {fr : ByteArray} (hf : RowIn n fr) : ∀ i, ∀ x ∈ layR hs fr i, RowIn n x
  | 0, x, hx => by
    have e : x = fr := by simpa [layR, lsR] using hx
    rw [e]; exact hf
  | i + 1, x, hx => by
    obtain ⟨y, hy, h, hh', rfl⟩ := layR_pred hx
    exact times_in (layR_in hn hh hf i y hy) (hh h hh')
theorem layR_few {hs : List ByteArray} {fr : ByteArray} {i : Nat} (h : (layR hs fr i).length ≤ 800) (hh : hs.length = 3) : (layR hs fr (i + 1)).length ≤ 2400 := by
  rw [layR_succ, sortB_len]
  have h1 := news_len (seenR hs fr i) (prodsB hs (layR hs fr i))
  rw [prods_len, hh] at h1
  omega
set_option maxRecDepth 100000 in
set_option maxHeartbeats 8000000 in
theorem repairLayers_any (m : Mt) (v : Value) (k : Cl) (n : Nat) (fr tg : ByteArray) (w : World) (hg : CGood m k n) (hv : Strs w v m.l) (hfr : RowIn n fr) (htg : tg.size ≤ 1048576) : Calls Tryz.prog 198 #[m.v v, k.v, .string fr, .string tg] w fun e w' =>
    ∃ (A : Option Addr) (q : Nat) (vs : List Value), e = .returned (.tuple #[.slice A (laysB (headsR (headB n m.l k.bob k.single)) fr tg).length q, .bool (repB (headsR (headB n m.l k.bob k.single)) fr tg).isSome]) ∧ OwnSV w' w.heap.size (.slice A (laysB (headsR (headB n m.l k.bob k.single)) fr tg).length q) (laysB (headsR (headB n m.l k.bob k.single)) fr tg) vs ∧ Below w.heap.size w w' := by
  have Hch := Lib.hid (fun W (hW : Below w.heap.size w W) => callHeads_any m v k n W hg (hv.to hW))
  have hn := hg.m.hi
  obtain ⟨hs, hhs⟩ : ∃ x, x = headsR (headB n m.l k.bob k.single) := ⟨_, rfl⟩
  have Hin : Hid (∀ h ∈ hs, RowIn n h) := Lib.hid (fun h hh => by
    rw [hhs] at hh
    unfold headsR at hh
    simp only [List.mem_cons, List.not_mem_nil, or_false] at hh
    rcases hh with rfl | rfl | rfl <;> exact head_in hn _ _ _ _)
  have Hh3 : Hid (hs.length = 3) := Lib.hid (by rw [hhs]; rfl)
  simp only [← hhs] at Hch ⊢
  have Hlin := Lib.hid (layR_in hn Hin.out hfr)
  have hfs := hfr.1
  have Hr0 : Hid (repB hs fr tg = repGo hs fr tg (8 - 0) 0) := Lib.hid rfl
  have Hsm := Lib.hid (fun N (h : repB hs fr tg = some N) => laysB_some h)
  have Hno := Lib.hid (fun (h : repB hs fr tg = none) => laysB_none h)
  obtain ⟨RB, hRB⟩ : ∃ x, x = repB hs fr tg := ⟨_, rfl⟩
  obtain ⟨LB, hLB⟩ : ∃ x, x = laysB hs fr tg := ⟨_, rfl⟩
  simp only [← hRB, ← hLB] at Hr0 Hsm Hno ⊢
  obtain ⟨A, c, hv', _⟩ := hv
  subst hv'
  unfold Mt.v Cl.v at *
  have Hfrs : Hid (fr.size ≤ maxLen) := Lib.hid (by rw [hfs]; unfold maxLen; omega)
  clear hg hhs hRB hLB hfr
  go_enter Tryz.func198, Tryz.ntmps198
  go_wp2_with fail
  refine box2 (C := fun W => Calls _ _ _ W _) ?_
  intro wb hw k1 k2 hB0
  have R1 := boxRule k1
  have R2 := boxRule k2
  clear k1 k2
  refine (Hch.out _ hw).mono ?_; rintro e w1 ⟨A1, q1, rfl, hown1, hb1⟩
  have hw1 := bw_to hw hb1
  have Ho1 := Lib.hid hown1
  clear hown1
  go_wp2_with fail
  refine upon_mkS ?_
  intro w2 hm2 hb2
  have hbl2 := hm2.lt
  clear R1 R2
  go_wp2_with fail
  refine upon_insS Tryz.underlying197 hm2 (by omega) fr Hfrs.out ?_
  intro w3 hm3 hg3
  have hb3 := gr_lowS hb2 hg3 (Nat.le_refl _)
  have hz3 : w1.heap.size < w3.heap.size := Nat.lt_of_lt_of_le hbl2 hg3.size
  have Hm3 := Lib.hid hm3
  clear hm3 hm2 hg3 hb2
  go_wp2_with fail
  refine box2 (C := fun W => Code.wp _ _ _ _ W) ?_
  intro w4 hw4 k3 k4 hB04
  have hr0 : w4.ownsRow w3.heap.size 9 1 (.slice (some ⟨w3.heap.size, 0, none⟩) 1 1) (layR hs fr 0).length ((layR hs fr 0).map Value.string) := own_of_heap k3 (Nat.le_refl _) (by unfold maxLen; omega) rfl
  have hl0 : w4.ownsRow w3.heap.size 22 1 (.slice (some ⟨w3.heap.size + 1, 0, none⟩) 1 1) 1 [.slice (some ⟨w3.heap.size, 0, none⟩) 1 1] := own_of_heap k4 (Nat.le_succ _) (by unfold maxLen; omega) rfl
  have Hv0 : Hid (OwnSV w4 w3.heap.size (.slice (some ⟨w3.heap.size + 1, 0, none⟩) (0 + 1) 1) (laysU hs fr (0 + 1)) [.slice (some ⟨w3.heap.size, 0, none⟩) 1 1]) := Lib.hid ⟨hl0, fun i h1 h2 => by
    have : i = 0 := by simp at h2; omega
    subst this
    exact hr0⟩
  have hm4 := Hm3.out.to hw4
  have hB4 := bw_to hb3 hw4
  have ho4 := own_to Ho1.out (bw_to hb3 hw4)
  have Hf0 : Hid (∀ s, updF (fun _ => false) fr s = true ↔ s ∈ seenR hs fr 0) := Lib.hid (fun s => by
    unfold updF
    show (if s = fr then true else false) = true ↔ s ∈ [fr]
    by_cases e : s = fr <;> simp [e])
  have hz4 : w3.heap.size ≤ w4.heap.size := hw4.size
  have hbw : w1.heap.size < w3.heap.size := hz3
  clear k3 k4 hr0 hl0
  go_loopw [12, 13] (fun o x wr => ∃ (i r q cnt : Nat) (A : Option Addr) (vs : List Value) (f : ByteArray → Bool), i ≤ 8 ∧ o = .slice A (i + 1) q ∧ x = .int .i64 r ∧ RB = repGo hs fr tg (8 - i) i ∧ r + (layR hs fr i).length = (seenR hs fr i).length ∧ (layR hs fr i).length ≤ 2400 ∧ r ≤ 800 ∧ OwnSV wr w3.heap.size (.slice A (i + 1) q) (laysU hs fr (i + 1)) vs ∧ SM wr w1.heap.size cnt f ∧ (∀ s, f s = true ↔ s ∈ seenR hs fr i) ∧ cnt ≤ 1 + i * 2400 ∧ wr.ownsRow wb.heap.size 9 1 (.slice A1 3 q1) 3 (hs.map Value.string) ∧ Below w1.heap.size w1 wr ∧ w3.heap.size ≤ wr.heap.size) (fun o _ _ => 9 - lenV o)
  case atStart => exact ⟨0, 0, 1, 0 + 1, _, _, _, by omega, rfl, rfl, Hr0.out, by simp [layR, seenR, lsR], by simp [layR, lsR], by omega, Hv0.out, hm4, Hf0.out, by omega, ho4, hB4, hz4⟩
  case round =>
    clear hm4 hB4 ho4 Hv0 hz4
    obtain ⟨i, r, q, cnt, A, vs, f, hi, rfl, rfl, hRB, hrl, hlb, hr8, hV, hm, hf, hcnt, ho, hB, hsz⟩ := hrel
    have Hrl := Lib.hid hrl
    have HRB := Lib.hid hRB
    have HV := Lib.hid hV
    have Hm := Lib.hid hm
    have Hf := Lib.hid hf
    have Ho := Lib.hid ho
    have hvl := hV.len
    rw [laysU_len] at hvl
    clear hrl hRB hm hf ho
    by_cases hlt : i < 8
    · have hV1 := hV.1
      rw [laysU_len] at hV1
      obtain ⟨g, hA, hgl⟩ := own_ptr hV1 (by omega)
      have hil : i < (laysU hs fr (i + 1)).length := by rw [laysU_len]; omega
      have hiv : i < vs.length := by omega
      have hrow := hV.2 i hil hiv
      rw [laysU_get hil] at hrow
      have hcell := hV1
      rw [hA] at hcell
      have hC0 := hcell.cellAt i (by omega)
      rw [List.getElem?_eq_getElem hiv] at hC0
      obtain ⟨Ai, ci, eiv, _⟩ := sl_of_own hrow
      rw [eiv] at hC0 hrow
      have Hrow := Lib.hid hrow
      obtain ⟨l, hl⟩ : ∃ l, l = (layR hs fr i).length := ⟨_, rfl⟩
      obtain ⟨sl, hsl⟩ : ∃ s, s = (seenR hs fr i).length := ⟨_, rfl⟩
      rw [← hl] at hC0 hlb
      have Hrl2 : Hid (r + l = sl) := Lib.hid (by rw [hl, hsl]; exact Hrl.out)
      have hsl2 : sl ≤ 3200 := by have := Hrl2.out; omega
      have hi1 : IntKind.i64.wrap ((i : Int) + 1 - 1) = (i : Int) := by rw [show (i : Int) + 1 - 1 = (i : Int) by omega]; exact IntWalk.i64_in _ ⟨by omega, by omega⟩
      have hi2 : (i : Int) + 1 - 1 = (i : Int) := by omega
      have hrl1 : (r : Int) + (l : Int) = (sl : Int) := by have := Hrl2.out; omega
      have hrl3 : IntKind.i64.wrap ((r : Int) + (l : Int)) = (sl : Int) := by rw [hrl1]; exact IntWalk.i64_in _ ⟨by omega, by omega⟩
      have hi0 : (0 : Int) ≤ (i : Int) := by omega
      have hii : (i : Int) < (i : Int) + 1 := by omega
      have hi8 : (i : Int) + 1 ≤ 8 := by omega
      obtain ⟨fu, hfu⟩ : ∃ fu, 8 - i = fu + 1 := ⟨8 - i - 1, by omega⟩
      have Hst : Hid (RB = if 800 < sl then none else if tg ∈ layR hs fr (i + 1) then some (i + 1) else repGo hs fr tg fu (i + 1)) := Lib.hid (by rw [HRB.out, hfu, repGo, ← hsl])
      have Hfu : Hid (fu = 8 - (i + 1)) := Lib.hid (by omega)
      have HgA := Lib.hid hA
      have Hl := Lib.hid hl
      have Hsl := Lib.hid hsl
      subst hA
      clear hV hV1 hcell hrow eiv hl hsl hfu hil
      by_cases hbig : 800 < sl
      · have hd : decide ((800 : Int) < (sl : Int)) = true := by simp; omega
        have HN : Hid (RB = none) := Lib.hid (by rw [Hst.out, if_pos hbig])
        have HL := Lib.hid (Hno.out HN.out)
        go_wp2_with fail
        go_ret2
        exact ⟨none, 0, by rw [HL.out, HN.out]; rfl, ⟨[], by rw [HL.out]; exact OwnSV.nil _ _⟩, bw_to hw1 hB⟩
      · have hd : decide ((800 : Int) < (sl : Int)) = false := by simp; omega
        have hl8 : l ≤ 800 := by have := Hrl2.out; omega
        have Hnl := Lib.hid (nextLayer_any n w1.heap.size cnt f (.slice A1 3 q1) (.slice Ai l ci) hs (layR hs fr i) (seenR hs fr i) wr hn Hm.out Hf.out
          (fun W hW => by
            have h1 := Ho.out.kept hW (own_neG Ho1.out (.inr (Nat.le_refl _)))
            exact strs_of_own (by rw [Hh3.out]; exact h1))
          (fun W hW => by
            have h1 := Hrow.out.kept hW (own_neG Hrow.out (.inl hbw))
            rw [← Hl.out] at h1
            exact strs_of_own (by rw [← Hl.out]; exact h1))
          Hh3.out (by rw [← Hl.out]; exact hl8) (Hlin.out i) Hin.out (by omega))
        have HnL : Hid ((newsB (seenR hs fr i) (prodsB hs (layR hs fr i))).length = (layR hs fr (i + 1)).length) := Lib.hid (by rw [layR_succ, sortB_len])
        have Hnx : Hid (sortB (newsB (seenR hs fr i) (prodsB hs (layR hs fr i))) = layR hs fr (i + 1)) := Lib.hid (layR_succ hs fr i).symm
        have Hsx : Hid (visitAll (seenR hs fr i) (prodsB hs (layR hs fr i)) = seenR hs fr (i + 1)) := Lib.hid (seenR_succ hs fr i).symm
        have Hsn := Lib.hid (seenR_len hs fr i)
        have Hfew : Hid ((layR hs fr (i + 1)).length ≤ 2400) := Lib.hid (layR_few (by rw [← Hl.out]; exact hl8) Hh3.out)
        rw [Hnx.out, Hsx.out, HnL.out] at Hnl
        have Hnb : Hid (¬ 800 < sl) := Lib.hid hbig
        clear hbig
        go_wp2_with fail
        refine Hnl.out.mono ?_; rintro e w6 ⟨g9, q9, N9, cnt9, f9, rfl, hN9, hown9, hm9, hf9, hc9, hg9⟩
        have Hm9 := Lib.hid hm9
        have Hf9 := Lib.hid hf9
        have HN9 := Lib.hid hN9
        have Hx9 := Lib.hid hown9
        have HV9 := Lib.hid (HV.out.kept hg9 (fun k e => .inl (by cases e; exact hbw)))
        have hB9 := gr_lowS hB hg9 (Nat.le_refl _)
        have Ho9 := Lib.hid (Ho.out.kept hg9 (own_neG Ho1.out (.inr (Nat.le_refl _))))
        have hz9 : w3.heap.size ≤ w6.heap.size := Nat.le_trans hsz hg9.size
        have hv9 := HV9.out.1
        rw [laysU_len] at hv9
        have Hhas := Lib.hid (fun W (hW : W.ownsRow wr.heap.size 9 1 (.slice (some ⟨g9, 0, none⟩) N9 q9) N9 ((layR hs fr (i + 1)).map Value.string)) => has_any (.slice (some ⟨g9, 0, none⟩) N9 q9) (layR hs fr (i + 1)) tg W (by
          rw [hN9] at hW ⊢
          exact strs_of_own hW) (layR_sorted hs fr i) (by have := Hfew.out; omega))
        have hgg : wr.heap.size ≤ g9 := (World.ownsRow.lt hown9 g9 rfl).1
        have hNf : N9 ≤ 2400 := by rw [hN9]; exact Hfew.out
        clear hm9 hf9 hN9 hown9
        go_wp2_with (at_builtin; go_must (refine wpList_app _ rfl _ _ _ rfl w3.heap.size 22 _ 1 24 Tryz.underlying101 info_slU rfl (by omega) hv9 [.slice (some ⟨g9, 0, none⟩) N9 q9] rfl rfl rfl (one_mem rfl) (by omega) (by omega) hz9 ?_); intro v7 w7 hown7 hb7 hg7 _)
        obtain ⟨A7, q7, e7, _⟩ := sl_of_own hown7
        subst e7
        have hx7 := Hx9.out.kept hg7 (.inr (fun e => by have e2 : some g9 = some g := e; injection e2 with e3; omega))
        have Hb : Hid (∀ k, (Value.slice A1 3 q1).ownBlock = some k → k < w3.heap.size) := Lib.hid (fun k hk => by have := (World.ownsRow.lt Ho1.out k hk).2; omega)
        have Ho7 := Lib.hid (own_low Ho9.out hb7 Hb.out)
        have hm7 := Hm9.out.kept hg7 (fun e => by
          have h1 := own_neG hv9 (.inl hbw)
          rcases h1 with h1 | h1
          · rw [h1] at e; cases e
          · exact h1 e.symm)
        have HV7 := Lib.hid (HV9.out.push (l := layR hs fr (i + 1)) (x := .slice (some ⟨g9, 0, none⟩) N9 q9) (by rw [← HN9.out]; exact own_base Hx9.out hsz) (by rw [laysU_len]; exact hown7) hg7)
        rw [← laysU_succ] at HV7
        have Hm7 := Lib.hid hm7
        have hB7 : Below w1.heap.size w1 w7 := hB9.trans (hb7.mono (by omega))
        have hz7 : w3.heap.size ≤ w7.heap.size := Nat.le_trans hz9 (by have := hg7.size; exact this)
        have Hx7 := Lib.hid hx7
        have Hha := Lib.hid (Hhas.out w7 hx7)
        obtain ⟨bb, hbb⟩ : ∃ b, b = decide (tg ∈ layR hs fr (i + 1)) := ⟨_, rfl⟩
        rw [← hbb] at Hha
        have Hbb := Lib.hid hbb
        clear hown7 hx7 hm7 hbb hv9
        go_wp2_with fail
        refine Hha.out.mono ?_; rintro e w8 ⟨rfl, rfl⟩
        cases bb
        · have hni := of_decide_eq_false Hbb.out.symm
          have HR : Hid (RB = repGo hs fr tg (8 - (i + 1)) (i + 1)) := Lib.hid (by rw [Hst.out, if_neg Hnb.out, if_neg hni, Hfu.out])
          have Hrl9 : Hid (sl + (layR hs fr (i + 1)).length = (seenR hs fr (i + 1)).length) := Lib.hid (by rw [Hsn.out, ← Hsl.out])
          have hsl8 : sl ≤ 800 := Nat.not_lt.1 Hnb.out
          clear hni
          go_wp2_with fail
          refine ⟨⟨i + 1, sl, q7, cnt9, A7, _, f9, by omega, rfl, ?_, HR.out, Hrl9.out, Hfew.out, hsl8, HV7.out, Hm7.out, Hf9.out, by omega, Ho7.out, hB7, hz7⟩, by simp [lenV]; omega⟩
          first | rfl | exact congrArg _ hrl1 | (rw [hrl1])
        · have hyi := of_decide_eq_true Hbb.out.symm
          have HR : Hid (RB = some (i + 1)) := Lib.hid (by rw [Hst.out, if_neg Hnb.out, if_pos hyi])
          have HL := Lib.hid (Hsm.out _ HR.out)
          have HLl : Hid (LB.length = i + 1 + 1) := Lib.hid (by rw [HL.out, laysU_len])
          clear hyi
          go_wp2_with fail
          go_ret2
          refine ⟨A7, q7, vs ++ [.slice (some ⟨g9, 0, none⟩) N9 q9], by rw [HLl.out, HR.out]; rfl, ?_, bw_to hw1 hB7⟩
          rw [HLl.out, HL.out]
          exact HV7.out.base (Nat.le_trans hw1.size (by omega))
    · obtain rfl : i = 8 := by omega
      have hd : decide (((8 + 1 : Nat) : Int) ≤ 8) = false := rfl
      have HN : Hid (RB = none) := Lib.hid (by rw [HRB.out]; rfl)
      have HL := Lib.hid (Hno.out HN.out)
      clear hV hvl
      go_wp2_with fail
      go_ret2
      exact ⟨none, 0, [], by rw [HL.out, HN.out]; rfl, by rw [HL.out]; exact OwnSV.nil _ _, bw_to hw1 hB⟩
end Go.Proofs.YtjiiflpoiaaccaaGreat

/- Contract: a repair, the program's. -/
namespace Go.Proofs.YtjiiflpoiaaccaaGreat
open Go Go.RowKit
set_option linter.unusedVariables false
set_option linter.unusedSimpArgs false

/-- The rows' maps, one for each layer from lo on. -/
def GM (W : World) (g hi lo N : Nat) (vs : List Value) (P : Nat → ByteArray → Prop) : Prop :=
  ∀ j, lo ≤ j → j ≤ N → ∃ (b cnt : Nat) (f : ByteArray → Bool), vs[j]? = some (.map (some b)) ∧ g < b ∧ b < hi ∧ SM W b cnt f ∧ ∀ s, f s = true ↔ P j s
theorem GM.kept {W W' : World} {g hi lo N : Nat} {vs : List Value} {P : Nat → ByteArray → Prop} {row : Option Nat} (h : GM W g hi lo N vs P) (hg : W.grownBy W' row) (hr : ∀ k, row = some k → k ≤ g ∨ hi ≤ k) : GM W' g hi lo N vs P := by
  intro j h1 h2
  obtain ⟨b, cnt, f, e, hb, hb2, hs, hf⟩ := h j h1 h2
  exact ⟨b, cnt, f, e, hb, hb2, hs.kept hg (fun e => by rcases hr b e.symm with h | h <;> omega), hf⟩
theorem GM.to {W W' : World} {g hi lo N : Nat} {vs : List Value} {P : Nat → ByteArray → Prop} (h : GM W g hi lo N vs P) (hb : Below W.heap.size W W') : GM W' g hi lo N vs P := h.kept (gr_ofB hb none) (fun k e => by cases e)
theorem GM.put {W : World} {g hi lo N i : Nat} {vs : List Value} {P : Nat → ByteArray → Prop} (h : GM W g hi lo N vs P) (hi' : i < lo) (u : Value) : GM (W.setCell ⟨g, i, none⟩ u) g hi lo N (vs.set i u) P := by
  have h2 := h.kept (gr_set (j := i) (gr_refl W (some g)) u) (fun k e => by cases e; exact .inl (Nat.le_refl _))
  intro j h3 h4
  obtain ⟨b, cnt, f, e, r⟩ := h2 j h3 h4
  exact ⟨b, cnt, f, by rw [List.getElem?_set_ne (by omega)]; exact e, r⟩
theorem GM.more {W : World} {g hi hi2 i N b cnt : Nat} {vs : List Value} {P : Nat → ByteArray → Prop} {f : ByteArray → Bool} (h : GM W g hi (i + 1) N vs P) (hv : vs[i]? = some (.map (some b))) (hb : g < b) (hb2 : b < hi2) (hh : hi ≤ hi2) (hs : SM W b cnt f) (hf : ∀ s, f s = true ↔ P i s) : GM W g hi2 i N vs P := by
  intro j h1 h2
  by_cases e : j = i
  · subst e; exact ⟨b, cnt, f, hv, hb, hb2, hs, hf⟩
  · obtain ⟨b, cnt, f, e, hb, hb2, hs, hf⟩ := h j (by omega) h2
    exact ⟨b, cnt, f, e, hb, by omega, hs, hf⟩
theorem info_msb : (Tryz.prog.info? 197).map (fun i => (i.zero, i.size, i.bytes)) = some (some (.map none), 1, 8) := by kernel_rfl
def clB : List UInt8 := [98, 112, 115]
theorem least_hit {F : UInt8 → ByteArray} {tg r : ByteArray} {n q : Nat} {t : List UInt8} (hq : q < clB.length) (hn : ∀ p (h : p < clB.length), p < q → leastB F tg n (timesB r (F clB[p])) = none) (hy : leastB F tg n (timesB r (F clB[q])) = some t) : leastB F tg (n + 1) r = some (clB[q] :: t) := by
  rw [leastB]
  match q, hq with
  | 0, _ =>
    have h0 : leastB F tg n (timesB r (F 98)) = some t := hy
    rw [h0]; rfl
  | 1, _ =>
    have h0 : leastB F tg n (timesB r (F 98)) = none := hn 0 (by decide) (by omega)
    have h1 : leastB F tg n (timesB r (F 112)) = some t := hy
    rw [h0, h1]; rfl
  | 2, _ =>
    have h0 : leastB F tg n (timesB r (F 98)) = none := hn 0 (by decide) (by omega)
    have h1 : leastB F tg n (timesB r (F 112)) = none := hn 1 (by decide) (by omega)
    have h2 : leastB F tg n (timesB r (F 115)) = some t := hy
    rw [h0, h1, h2]; rfl
theorem least_miss {F : UInt8 → ByteArray} {tg r : ByteArray} {n : Nat} (hn : ∀ p (h : p < clB.length), leastB F tg n (timesB r (F clB[p])) = none) : leastB F tg (n + 1) r = none := by
  rw [leastB]
  have h0 : leastB F tg n (timesB r (F 98)) = none := hn 0 (by decide)
  have h1 : leastB F tg n (timesB r (F 112)) = none := hn 1 (by decide)
  have h2 : leastB F tg n (timesB r (F 115)) = none := hn 2 (by decide)
  rw [h0, h1, h2]
theorem clB_in {F : UInt8 → ByteArray} {q : Nat} (hq : q < clB.length) : F clB[q] ∈ headsR F := by
  unfold headsR
  match q, hq with
  | 0, _ => exact .tail _ (.head _)
  | 1, _ => exact .head _
  | 2, _ => exact .tail _ (.tail _ (.head _))
theorem ofL_call (l : List UInt8) (c : UInt8) : ofL l ++ callT c = ofL (l ++ [c]) := bytes_ext (by simp [ofL, callT])
/-- The rows of a layer that are good, found so far. -/
theorem good_start {F : UInt8 → ByteArray} {fr tg : ByteArray} {N i k : Nat} {f : ByteArray → Bool} {L hs : List ByteArray} (hf : ∀ s, f s = true ↔ s ∈ L.take k ∧ goodR F fr tg N i s) (r : ByteArray) (s : ByteArray) :
    f s = true ↔ (s ∈ L.take k ∧ goodR F fr tg N i s) ∨ s = r ∧ ∃ h ∈ hs.take 0, goodR F fr tg N (i + 1) (timesB r h) := by
  rw [hf s]; simp
theorem good_put {P : ByteArray → Prop} {Q : ByteArray → Prop} {r : ByteArray} {hs : List ByteArray} {j : Nat} {f : ByteArray → Bool} (hj : j < hs.length) (hf : ∀ s, f s = true ↔ P s ∨ s = r ∧ ∃ h ∈ hs.take j, Q h) (hq : Q hs[j]) (s : ByteArray) : updF f r s = true ↔ P s ∨ s = r ∧ ∃ h ∈ hs.take (j + 1), Q h := by
  unfold updF
  rw [List.take_succ_eq_append_getElem hj]
  by_cases e : s = r
  · rw [if_pos e]
    exact ⟨fun _ => .inr ⟨e, _, List.mem_append.2 (.inr (.head _)), hq⟩, fun _ => rfl⟩
  · rw [if_neg e, hf s]; simp [e]
theorem good_skip {P : ByteArray → Prop} {Q : ByteArray → Prop} {r : ByteArray} {hs : List ByteArray} {j : Nat} {f : ByteArray → Bool} (hj : j < hs.length) (hf : ∀ s, f s = true ↔ P s ∨ s = r ∧ ∃ h ∈ hs.take j, Q h) (hq : ¬ Q hs[j]) (s : ByteArray) : f s = true ↔ P s ∨ s = r ∧ ∃ h ∈ hs.take (j + 1), Q h := by
  rw [hf s, List.take_succ_eq_append_getElem hj]
  constructor
  · rintro (h | ⟨e, h, hh, hq'⟩)
    · exact .inl h
    · exact .inr ⟨e, h, List.mem_append.2 (.inl hh), hq'⟩
  · rintro (h | ⟨e, h, hh, hq'⟩)
    · exact .inl h
    · rw [List.mem_append, List.mem_singleton] at hh
      rcases hh with hh | rfl
      · exact .inr ⟨e, h, hh, hq'⟩
      · exact absurd hq' hq
theorem good_end {F : UInt8 → ByteArray} {fr tg : ByteArray} {N i k : Nat} {f : ByteArray → Bool} (ht : tg ∈ layR (headsR F) fr N) (hi : i < N) (hk : k < (layR (headsR F) fr i).length)
    (hf : ∀ s, f s = true ↔ (s ∈ (layR (headsR F) fr i).take k ∧ goodR F fr tg N i s) ∨ s = (layR (headsR F) fr i)[k] ∧ ∃ h ∈ headsR F, goodR F fr tg N (i + 1) (timesB (layR (headsR F) fr i)[k] h)) (s : ByteArray) :
    f s = true ↔ s ∈ (layR (headsR F) fr i).take (k + 1) ∧ goodR F fr tg N i s := by
  rw [hf s, List.take_succ_eq_append_getElem hk, List.mem_append, List.mem_singleton, ← goodR_step ht hi (List.getElem_mem hk)]
  constructor
  · rintro (⟨h1, h2⟩ | ⟨rfl, h2⟩)
    · exact ⟨.inl h1, h2⟩
    · exact ⟨.inr rfl, h2⟩
  · rintro ⟨h1 | rfl, h2⟩
    · exact .inl ⟨h1, h2⟩
    · exact .inr ⟨rfl, h2⟩
theorem good_all {F : UInt8 → ByteArray} {fr tg : ByteArray} {N i : Nat} {f : ByteArray → Bool} (hf : ∀ s, f s = true ↔ s ∈ (layR (headsR F) fr i).take (layR (headsR F) fr i).length ∧ goodR F fr tg N i s) (s : ByteArray) : f s = true ↔ goodR F fr tg N i s := by
  rw [hf s, List.take_length]
  exact ⟨fun h => h.2, fun h => ⟨h.1, h⟩⟩
theorem seenR_mono (hs : List ByteArray) (fr : ByteArray) (i : Nat) : ∀ d, (seenR hs fr i).length ≤ (seenR hs fr (i + d)).length
  | 0 => Nat.le_refl _
  | d + 1 => by have := seenR_mono hs fr i d; rw [← Nat.add_assoc, seenR_len]; omega
/-- The layers ahead of the last are short. -/
theorem layR_short {hs : List ByteArray} {fr tg : ByteArray} {N i : Nat} (h : repB hs fr tg = some N) (hi : i < N) : (layR hs fr i).length ≤ 800 := by
  obtain ⟨_, _, _, h4⟩ := repGo_some 8 0 N h
  have h1 := layR_le hs fr i
  have h2 := seenR_mono hs fr i (N - 1 - i)
  rw [show i + (N - 1 - i) = N - 1 by omega] at h2
  omega
/-- The answer of a repair. -/
def mendQ (F : UInt8 → ByteArray) (fr tg : ByteArray) : Option (List UInt8) := if fr = tg then none else mendB F fr tg
theorem mendQ_same (F : UInt8 → ByteArray) {fr tg : ByteArray} (h : fr = tg) : mendQ F fr tg = none := by unfold mendQ; rw [if_pos h]
theorem mendQ_none {F : UInt8 → ByteArray} {fr tg : ByteArray} (h : repB (headsR F) fr tg = none) : mendQ F fr tg = none := by
  unfold mendQ mendB
  split
  · rfl
  · rw [h]
theorem mendQ_some {F : UInt8 → ByteArray} {fr tg : ByteArray} {N : Nat} (hne : fr ≠ tg) (h : repB (headsR F) fr tg = some N) : mendQ F fr tg = leastB F tg N fr := by
  unfold mendQ mendB
  rw [if_neg hne, h]
theorem least_len {F : UInt8 → ByteArray} {tg : ByteArray} : ∀ (n : Nat) (r : ByteArray) (t : List UInt8), leastB F tg n r = some t → t.length = n
  | 0, r, t, h => by
    rw [leastB] at h
    split at h
    · cases h; rfl
    · cases h
  | n + 1, r, t, h => by
    rw [leastB] at h
    split at h
    · cases h; rename_i t' h'; simp [least_len n _ _ h']
    · split at h
      · cases h; rename_i t' h'; simp [least_len n _ _ h']
      · split at h
        · cases h; rename_i t' h'; simp [least_len n _ _ h']
        · cases h
end Go.Proofs.YtjiiflpoiaaccaaGreat
