/- Contracts: the lead head of a call, the lead heads of a touch: the program's. -/
import Derived.Test.YtimeecimaokldaaGreatDoorPk12
import Derived.Maps.Own
import Derived.Maps.OwnOps
import Derived.Maps.Views
import Derived.Maps.StringElems
namespace Go.Proofs.YtimeecimaokldaaGreatDoor
open Go Go.RowKit
set_option linter.unusedVariables false
set_option linter.unusedSimpArgs false

set_option maxHeartbeats 1000000 in
theorem callHead_any (m : Mt) (v : Value) (k : Cl) (n : Nat) (c : UInt8) (w : World) (hg : CGood m k n) (hv : Strs w v m.l) : Calls Tryz.prog 151 #[m.v v, k.v, .string (callT c)] w fun e w' => e = .returned (.string (headB n m.l k.bob k.single c)) ∧ Below w.heap.size w w' := by
  have Hc := Lib.hid (fun W hW => calledLead_any m v k n c W hg (hv.to hW))
  have hcl := called_len hg.m.len.1 k.bob k.single c
  have Hg : Hid (MGood ⟨m.name, m.stage, calledL m.l k.bob k.single c⟩ n) := Lib.hid ⟨hg.m.st, hg.m.lo, hg.m.hi, by show 1 ≤ (calledL m.l k.bob k.single c).length ∧ _; rw [hcl]; exact hg.m.len, calls_chs hg c⟩
  have HT : Hid (headB n m.l k.bob k.single c = runB (roundsB n) (calledL m.l k.bob k.single c)) := Lib.hid rfl
  obtain ⟨A, q, hv', _⟩ := hv
  subst hv'
  unfold Mt.v Cl.v at *
  have Hcl := Lib.hid hcl
  clear hg hcl
  go_enter Tryz.func151, Tryz.ntmps151
  go_wp2_with fail
  refine box2 (C := fun W => Calls _ _ _ W _) ?_
  intro wb hw k1 k2 hB0
  refine (Hc.out _ hw).mono ?_; rintro e w1 ⟨r, rfl, hown, hb1⟩
  obtain ⟨A', q', e', _⟩ := sl_of_own hown
  subst e'
  rw [← Hcl.out] at hown
  have Hs := Lib.hid (strs_of_own hown)
  have Hl := Lib.hid (fun h => leadHead_any ⟨m.name, m.stage, calledL m.l k.bob k.single c⟩ (.slice A' m.l.length q') n w1 Hg.out h)
  unfold Mt.v at Hl
  clear hown
  go_wp2_with fail
  refine (Hl.out (by rw [← Hcl.out]; exact Hs.out)).mono ?_; rintro e w2 ⟨rfl, hb2⟩
  go_wp2_with fail
  go_ret
  exact ⟨ret_str HT.out.symm, bw_to hw (bw_to hb1 hb2)⟩
theorem keysU8 : Maps.Keyed Tryz.prog 5 := Maps.int_keyed Tryz.underlying5
/-- Block b is a map from bytes to texts of the call's own. -/
def CM (W : World) (b n : Nat) (f : UInt8 → Option ByteArray) : Prop :=
  ∃ D : DataW Unit, W.ownsMap Tryz.prog 5 (plainElem Tryz.prog 9) b n D ∧ Maps.IsMap D ∧ ∀ c s, f c = some s → ∀ z, D.atKey (.int .u8 (c.toNat : Int)) z = .lit (.string s.data.toList)
theorem u8_wf (c : UInt8) : (Lit.int .u8 (c.toNat : Int)).wf = true := by
  have h := c.toNat_lt
  have h1 : IntKind.u8.min = 0 := rfl
  have h2 : IntKind.u8.max = 255 := rfl
  simp only [Lit.wf, Bool.and_eq_true, decide_eq_true_eq]
  omega
theorem CM.kept {W W' : World} {b n : Nat} {f : UInt8 → Option ByteArray} {row : Option Nat} (h : CM W b n f) (hg : W.grownBy W' row) (hne : some b ≠ row) : CM W' b n f := by
  obtain ⟨D, h1, h2, h3⟩ := h; exact ⟨D, h1.kept hg hne, h2, h3⟩
theorem CM.lt {W : World} {b n : Nat} {f : UInt8 → Option ByteArray} (h : CM W b n f) : b < W.heap.size := by obtain ⟨D, h1, _⟩ := h; exact h1.lt
theorem CM.to {W W' : World} {b n : Nat} {f : UInt8 → Option ByteArray} (h : CM W b n f) (hb : Below W.heap.size W W') : CM W' b n f :=
  h.kept (row := none) ⟨hb.os, hb.tape, hb.output, hb.size, fun i hi _ => hb.block i hi⟩ (by simp)
theorem CM.made (W : World) : CM (W.alloc (.map #[] 0)) W.heap.size 0 (fun _ => none) := ⟨.map [], World.ownsMap_made _ _ _ _, Maps.isMap_empty, fun _ _ h => by cases h⟩
def updM (f : UInt8 → Option ByteArray) (c : UInt8) (s : ByteArray) : UInt8 → Option ByteArray := fun x => if x = c then some s else f x
theorem CM.put {W : World} {b n : Nat} {f : UInt8 → Option ByteArray} (h : CM W b n f) (hn : n < 1000) (t : TypeId) (ht : Tryz.prog.underlying t = some (.map 5 9)) (c : UInt8) (s : ByteArray) (hs : s.size ≤ maxLen) :
    ∃ W', (Instr.mapUpdate t (.map (some b)) (.int .u8 (c.toNat : Int)) (.string s)).run Tryz.prog W = .ok () W' ∧ CM W' b (n + 1) (updM f c s) ∧ W.grownBy W' (some b) := by
  obtain ⟨D, h1, h2, h3⟩ := h
  obtain ⟨W', hr, ho, hg⟩ := h1.update keysU8 ht (by unfold maxLen; omega) (Maps.keyOf_int_mk Tryz.underlying5 (u8_wf c)) (plainElem_string Tryz.underlying9 hs)
  refine ⟨W', hr, ⟨_, ho, h2.put _ _, fun x y hx z => ?_⟩, hg⟩
  unfold updM at hx
  by_cases hc : x = c
  · subst hc
    rw [if_pos rfl] at hx
    cases hx
    exact Maps.atKey_put_same h2 (by simp [WideAt.IsKeyLit]) _ _
  · rw [if_neg hc] at hx
    rw [Maps.atKey_put_other (by intro e; injection e with _ e; exact hc (UInt8.toNat_inj.1 (by omega)))]
    exact h3 x y hx z
theorem zeroS (W : World) : (zeroValue 9).run Tryz.prog W = .ok (.string ⟨#[]⟩) W := by kernel_rfl
theorem CM.look {W : World} {b n : Nat} {f : UInt8 → Option ByteArray} (h : CM W b n f) (t : TypeId) (ht : Tryz.prog.underlying t = some (.map 5 9)) (c : UInt8) {s : ByteArray} (hf : f c = some s) :
    (Instr.lookup t (.map (some b)) (.int .u8 (c.toNat : Int)) false).run Tryz.prog W = .ok (.string s) W := by
  obtain ⟨D, h1, h2, h3⟩ := h
  have hz : (zeroValue 9).run Tryz.prog W = .ok (.string ⟨#[]⟩) W := zeroS W
  obtain ⟨v, ps, hrun, hv⟩ := h1.lookup keysU8 ht hz (plainElem_string Tryz.underlying9 (by show 0 ≤ _; omega)) (Maps.keyOf_int_mk Tryz.underlying5 (u8_wf c))
  obtain ⟨s', rfl, hs', _⟩ := plainElem_string_inv Tryz.underlying9 hv
  have h4 := (h3 c s hf _).symm.trans (Prod.mk.inj hs').1
  have this : s.data.toList = s'.data.toList := Lit.string.inj (DataW.lit.inj h4)
  have e := bytes_ext this
  subst e
  exact hrun
set_option maxRecDepth 20000 in
theorem upon_mk {o : Oper} {a : Act} {K : Act → World → Prop} {Q : Exit → Act → World → Prop} {t : TypeId} {w : World} (h : ∀ b w', CM w' b 0 (fun _ => none) → Below w.heap.size w w' → w.heap.size ≤ b → K (a.put o.dst (.map (some b))) w') :
    Oper.upon Tryz.prog o a K Q ((Sem.run Tryz.prog (Instr.makeMap t none) w).andThen fun a w' => Result.ok (Next.value a) w') := by
  have e : Sem.run Tryz.prog (Instr.makeMap t none) w = .ok (.map (some w.heap.size)) (w.alloc (.map #[] 0)) := rfl
  rw [e]
  show K _ _
  exact h _ _ (CM.made w) (bw_al (Below.refl _ _) _) (Nat.le_refl _)
set_option maxRecDepth 20000 in
theorem upon_ins {o : Oper} {a : Act} {K : Act → World → Prop} {Q : Exit → Act → World → Prop} {t : TypeId} {w : World} (ht : Tryz.prog.underlying t = some (.map 5 9)) {b n : Nat} {f : UInt8 → Option ByteArray} (hm : CM w b n f) (hn : n < 1000)
    (c : UInt8) (x : Int) (hx : (c.toNat : Int) = x) (s : ByteArray) (hs : s.size ≤ maxLen) (h : ∀ w', CM w' b (n + 1) (updM f c s) → w.grownBy w' (some b) → K (a.put o.dst undef) w') :
    Oper.upon Tryz.prog o a K Q ((Sem.run Tryz.prog (Instr.mapUpdate t (.map (some b)) (.int .u8 x) (.string s)) w).andThen fun _ w' => Result.ok Next.skip w') := by
  subst hx
  obtain ⟨w', hr, h1, h2⟩ := hm.put hn t ht c s hs
  rw [hr]
  exact h w' h1 h2
theorem gr_low {wb w w' : World} {b : Nat} (h : Below wb.heap.size wb w) (hg : w.grownBy w' (some b)) (hb : wb.heap.size ≤ b) : Below wb.heap.size wb w' := h.grown hg h.size (fun k e => by cases e; exact hb)
set_option maxRecDepth 10000 in
set_option maxHeartbeats 4000000 in
theorem heads_any (m : Mt) (v : Value) (k : Cl) (t : ByteArray) (n : Nat) (w : World) (hg : CGood m k n) (hv : Strs w v m.l) (ht : touchB t.data.toList = true) : Calls Tryz.prog 116 #[m.v v, k.v, .string t] w fun e w' =>
    ∃ A q, e = .returned (.slice A (t.size + 1) q) ∧ w'.ownsRow w.heap.size 9 1 (.slice A (t.size + 1) q) (t.size + 1) ((headsB (headB n m.l k.bob k.single) (roundsB n) t.data.toList).map Value.string) ∧ Below w.heap.size w w' := by
  have hfin : ∀ c, RowIn n (headB n m.l k.bob k.single c) := fun c => head_in hg.m.hi _ _ _ _
  have hHH := fun W (hW : Below w.heap.size w W) c => callHead_any m v k n c W hg (hv.to hW)
  obtain ⟨F, hF⟩ : ∃ F, F = headB n m.l k.bob k.single := ⟨_, rfl⟩
  rw [← hF] at hfin ⊢
  have Hfin := Lib.hid hfin
  have hHH2 : ∀ W, Below w.heap.size w W → ∀ c, Calls Tryz.prog 151 #[m.v v, k.v, .string (callT c)] W fun e w' => e = .returned (.string (F c)) ∧ Below W.heap.size W w' := by rw [hF]; exact hHH
  have hn := hg.m.hi
  have hst := hg.m.st
  have Ht := Lib.hid ht
  obtain ⟨A, q, hv', _⟩ := hv
  subst hv'
  unfold Mt.v Cl.v at *
  rw [hst] at hHH2 ⊢
  have H112 : Hid (∀ W, Below w.heap.size w W → Calls Tryz.prog 151 #[.agg #[.string m.name, .int .i64 (n : Int), .slice A m.l.length q], .agg #[.string k.bob, .string k.single], .string ⟨#[112]⟩] W fun e w' => e = .returned (.string (F 112)) ∧ Below W.heap.size W w') := Lib.hid fun W hW => hHH2 W hW 112
  have H98 : Hid (∀ W, Below w.heap.size w W → Calls Tryz.prog 151 #[.agg #[.string m.name, .int .i64 (n : Int), .slice A m.l.length q], .agg #[.string k.bob, .string k.single], .string ⟨#[98]⟩] W fun e w' => e = .returned (.string (F 98)) ∧ Below W.heap.size W w') := Lib.hid fun W hW => hHH2 W hW 98
  have H115 : Hid (∀ W, Below w.heap.size w W → Calls Tryz.prog 151 #[.agg #[.string m.name, .int .i64 (n : Int), .slice A m.l.length q], .agg #[.string k.bob, .string k.single], .string ⟨#[115]⟩] W fun e w' => e = .returned (.string (F 115)) ∧ Below W.heap.size W w') := Lib.hid fun W hW => hHH2 W hW 115
  have htl : t.size ≤ 60 := by unfold touchB at ht; rw [Bool.and_eq_true, decide_eq_true_eq, bytes_len] at ht; omega
  clear hg hfin hF hHH hHH2 hst ht
  go_enter Tryz.func116, Tryz.ntmps116
  go_upto_region 1 with fail
  refine box2 (C := fun W => Code.wp _ _ _ _ W) ?_
  intro wb hw k1 k2 hB0
  have R1 := boxRule k1
  have R2 := boxRule k2
  clear k1 k2
  go_cut [7] (fun s7 wx => ∃ b n f, s7 = .map (some b) ∧ CM wx b n f ∧ f 112 = some (F 112) ∧ f 98 = some (F 98) ∧ f 115 = some (F 115) ∧ Below wb.heap.size wb wx)
  case first =>
    have hdr : Below wb.heap.size wb wb.drew := Below.drew (Below.refl _ _)
    have Hsz : ∀ c, Hid ((F c).size ≤ maxLen) := fun c => Lib.hid (by rw [(Hfin.out c).1]; unfold maxLen; omega)
    go_region_held3 (fun W => Below wb.heap.size wb W) (first | exact Below.drew (by assumption) | exact bw_to (by assumption) hb' | exact bw_al (by assumption) _ | assumption)
      (first | (go_at_call_of 151 (Value.string { data := #[115] }); ((with_reducible refine (H115.out _ (bw_to hw (by assumption))).mono ?_); rintro e w' ⟨rfl, hb'⟩); (try (have hm := hm.to hb'))) | (go_at_call_of 151 (Value.string { data := #[98] }); ((with_reducible refine (H98.out _ (bw_to hw (by assumption))).mono ?_); rintro e w' ⟨rfl, hb'⟩); (try (have hm := hm.to hb'))) | (go_at_call_of 151 (Value.string { data := #[112] }); ((with_reducible refine (H112.out _ (bw_to hw (by assumption))).mono ?_); rintro e w' ⟨rfl, hb'⟩); (try (have hm := hm.to hb'))) | ((with_reducible refine upon_mk ?_); intro b w' hm hb' hbb; (have hbb := Nat.le_trans (Below.size (by assumption : Below wb.heap.size wb _)) hbb)) | ((with_reducible refine upon_ins Tryz.underlying156 hm (by omega) 112 112 rfl (F 112) (Hsz 112).out ?_); intro w' hm hg'; (have hB' := gr_low (by assumption : Below wb.heap.size wb _) hg' hbb)) | ((with_reducible refine upon_ins Tryz.underlying156 hm (by omega) 98 98 rfl (F 98) (Hsz 98).out ?_); intro w' hm hg'; (have hB' := gr_low (by assumption : Below wb.heap.size wb _) hg' hbb)) | ((with_reducible refine upon_ins Tryz.underlying156 hm (by omega) 115 115 rfl (F 115) (Hsz 115).out ?_); intro w' hm hg'; (have hB' := gr_low (by assumption : Below wb.heap.size wb _) hg' hbb)))
    all_goals
      have hBB : Below wb.heap.size wb w' := by assumption
      go_wp2_with fail
      go_meet
      exact ⟨b, _, _, rfl, hm, by simp [updM], by simp [updM], by simp [updM], hBB⟩
  case rest =>
    obtain ⟨b, nb, f, rfl, hm, f1, f2, f3, hBw⟩ := hcut
    have Hf : Hid (∀ c, callC c = true → f c = some (F c)) := Lib.hid (fun c hc => by
      unfold callC at hc
      simp only [Bool.or_eq_true, decide_eq_true_eq] at hc
      rcases hc with (hc | hc) | hc
      · obtain rfl : c = 112 := UInt8.toNat_inj.1 (by show c.toNat = 112; omega)
        exact f1
      · obtain rfl : c = 98 := UInt8.toNat_inj.1 (by show c.toNat = 98; omega)
        exact f2
      · obtain rfl : c = 115 := UInt8.toNat_inj.1 (by show c.toNat = 115; omega)
        exact f3)
    clear f1 f2 f3 H112 H98 H115
    have hbl := hm.lt
    have Hm := Lib.hid hm
    clear hm
    go_wp2_with (go_at_call 104; refine (rounds_any n _ hn).mono ?_; rintro e w' ⟨rfl, rfl⟩)
    refine box1 (C := fun W => Code.wp _ _ _ _ W) ?_
    intro wd hwd k3 hBd
    have hown0 : wd.ownsRow wc.heap.size 9 1 (.slice (some ⟨wc.heap.size, 0, none⟩) 1 1) 1 [.string (roundsB n)] := own_of_heap k3 (Nat.le_refl _) (by unfold maxLen; omega) rfl
    have hall : t.data.toList.all callC = true := by have h := Ht.out; unfold touchB at h; rw [Bool.and_eq_true] at h; exact h.1
    have Hall := Lib.hid hall
    have hrin := Lib.hid (rounds_in hn)
    have hBc := bw_to hw hBw
    clear k3 hall R1 R2
    go_loopw [8, 9, 29] (fun h o i wr => ∃ (j : Nat) (x : ByteArray) (A' : Option Addr) (q' : Nat), j ≤ t.size ∧ i = .int .i64 j ∧ h = .string x ∧ x = endB F (roundsB n) (t.data.toList.take j) ∧ o = .slice A' (j + 1) q' ∧ wr.ownsRow wc.heap.size 9 1 (.slice A' (j + 1) q') (j + 1) ((headsB F (roundsB n) (t.data.toList.take j)).map Value.string) ∧ Below wc.heap.size wc wr) (fun _ _ i _ => t.size - (intOf i).toNat)
    case atStart => exact ⟨0, _, _, 1, by omega, rfl, rfl, rfl, rfl, hown0, hwd⟩
    case round =>
      obtain ⟨j, x, A', q', hj, rfl, rfl, hx, rfl, hown, hB⟩ := hrel
      by_cases hlt : j < t.size
      · have hlt' : j < t.data.toList.length := by rw [bytes_len]; exact hlt
        have hcc : callC t[j] = true := by have h := List.all_eq_true.1 Hall.out _ (List.getElem_mem hlt'); rw [bytes_get t j hlt] at h; exact h
        have hlk := (Hm.out.to hB).look 156 Tryz.underlying156 t[j] (Hf.out _ hcc)
        have hxin : RowIn n x := by rw [hx]; exact end_in Hfin.out _ hrin.out
        have Hx : Hid (timesB x (F t[j]) = endB F (roundsB n) (t.data.toList.take (j + 1))) := Lib.hid (by rw [end_take hlt', hx, bytes_get t j hlt])
        have Hs : Hid (headsB F (roundsB n) (t.data.toList.take (j + 1)) = headsB F (roundsB n) (t.data.toList.take j) ++ [timesB x (F t[j])]) := Lib.hid (by rw [heads_take hlt', Hx.out])
        have Htm := Lib.hid (fun W => times_any x (F t[j]) W (by rw [hxin.1]; omega) (by rw [(Hfin.out t[j]).1]; omega) (row_hin hxin.1 (Hfin.out t[j])))
        obtain ⟨z, hz⟩ : ∃ z, z = F t[j] := ⟨_, rfl⟩
        rw [← hz] at hlk Hx Hs Htm
        clear hz hxin hx hcc
        go_wp2_with fail
        refine (Htm.out _).mono ?_; rintro e w2 ⟨rfl, hb2⟩
        have hown2 := own_to hown hb2
        have hB2 := bw_to hB hb2
        obtain ⟨y, hy⟩ : ∃ y, y = timesB x z := ⟨_, rfl⟩
        rw [← hy] at Hx Hs ⊢
        clear hy hlk
        go_wp2_with (at_builtin; go_must (refine wpList_app _ rfl _ _ _ rfl wc.heap.size 9 _ 1 16 Tryz.underlying22 info_str rfl (by omega) hown2 [.string y] rfl rfl rfl (one_mem rfl) (by omega) (by omega) hB2.size ?_); intro v2 w3 hown3 hb3 hg3 _)
        obtain ⟨A2, q2, e2, _⟩ := sl_of_own hown3
        subst e2
        refine ⟨⟨j + 1, y, A2, q2, by omega, by go_num, rfl, Hx.out, rfl, ?_, hB2.trans hb3⟩, by simp [intOf]; omega⟩
        rw [← str_snoc Hs.out]
        exact hown3
      · obtain rfl : j = t.size := by omega
        rw [List.take_of_length_le (by rw [bytes_len]; exact Nat.le_refl _)] at hown
        clear hx
        go_wp2_with fail
        go_ret
        exact ⟨_, _, rfl, own_base hown hBc.size, bw_to hBc hB⟩
end Go.Proofs.YtimeecimaokldaaGreatDoor
