/- Contracts: the lead head of a call, the lead heads of a touch: the program's. -/
import Derived.Test.YtofpjbdelmmclaaGreatDoorPk28
import Derived.Maps.Own
import Derived.Maps.OwnOps
import Derived.Maps.Views
import Derived.Maps.StringElems
import Derived.Test.YtofpjbdelmmclaaGreatDoorPk25
import Derived.Test.YtofpjbdelmmclaaGreatDoorPk27
namespace Go.Proofs.YtofpjbdelmmclaaGreatDoor
open Go Go.RowKit
set_option linter.unusedVariables false
set_option linter.unusedSimpArgs false

set_option maxHeartbeats 1000000 in
theorem callHead_any (m : Mt) (v : Value) (k : Cl) (n : Nat) (c : UInt8) (w : World) (hg : CGood m k n) (hv : Strs w v m.l) : Calls Tryz.prog 161 #[m.v v, k.v, .string (callT c)] w fun e w' => e = .returned (.string (headB n m.l k.bob k.single c)) ∧ Below w.heap.size w w' := by
  have Hc := Lib.hid (fun W hW => calledLead_any m v k n c W hg (hv.to hW))
  have hcl := called_len hg.m.len.1 k.bob k.single c
  have Hg : Hid (MGood ⟨m.name, m.stage, calledL m.l k.bob k.single c⟩ n) := Lib.hid ⟨hg.m.st, hg.m.lo, hg.m.hi, by show 1 ≤ (calledL m.l k.bob k.single c).length ∧ _; rw [hcl]; exact hg.m.len, calls_chs hg c⟩
  have HT : Hid (headB n m.l k.bob k.single c = runB (roundsB n) (calledL m.l k.bob k.single c)) := Lib.hid rfl
  obtain ⟨A, q, hv', _⟩ := hv
  subst hv'
  unfold Mt.v Cl.v at *
  have Hcl := Lib.hid hcl
  clear hg hcl
  go_enter Tryz.func161, Tryz.ntmps161
  go_wp2_with fail
  refine box2 (C := fun W => Calls _ _ _ W _) ?_
  intro wb hw k1 k2 hB0
  refine (Hc.out _ hw).mono ?_; rintro e w1 ⟨r, rfl, hown, hb1⟩
  obtain ⟨A', q', e', _⟩ := sl_of_own hown
  subst e'
  rw [← Hcl.out] at hown
  have Hs := Lib.hid (strs_of_own hown)
  have Hl := Lib.hid (fun h => leadHead_any ⟨m.name, m.stage, calledL m.l k.bob k.single c⟩ (.slice A' m.l.length q') n w1 Hg.out h)
  unfold Mt.v at Hl
  clear hown
  go_wp2_with fail
  refine (Hl.out (by rw [← Hcl.out]; exact Hs.out)).mono ?_; rintro e w2 ⟨rfl, hb2⟩
  go_wp2_with fail
  go_ret
  exact ⟨ret_str HT.out.symm, bw_to hw (bw_to hb1 hb2)⟩
theorem keysU8 : Maps.Keyed Tryz.prog 5 := Maps.int_keyed Tryz.underlying5
/-- Block b is a map from bytes to texts of the call's own. -/
def CM (W : World) (b n : Nat) (f : UInt8 → Option ByteArray) : Prop :=
  ∃ D : DataW Unit, W.ownsMap Tryz.prog 5 (plainElem Tryz.prog 9) b n D ∧ Maps.IsMap D ∧ ∀ c s, f c = some s → ∀ z, D.atKey (.int .u8 (c.toNat : Int)) z = .lit (.string s.data.toList)
theorem u8_wf (c : UInt8) : (Lit.int .u8 (c.toNat : Int)).wf = true := by
  have h := c.toNat_lt
  have h1 : IntKind.u8.min = 0 := rfl
  have h2 : IntKind.u8.max = 255 := rfl
  simp only [Lit.wf, Bool.and_eq_true, decide_eq_true_eq]
  omega
theorem CM.kept {W W' : World} {b n : Nat} {f : UInt8 → Option ByteArray} {row : Option Nat} (h : CM W b n f) (hg : W.grownBy W' row) (hne : some b ≠ row) : CM W' b n f := by
  obtain ⟨D, h1, h2, h3⟩ := h; exact ⟨D, h1.kept hg hne, h2, h3⟩
theorem CM.lt {W : World} {b n : Nat} {f : UInt8 → Option ByteArray} (h : CM W b n f) : b < W.heap.size := by obtain ⟨D, h1, _⟩ := h; exact h1.lt
theorem CM.to {W W' : World} {b n : Nat} {f : UInt8 → Option ByteArray} (h : CM W b n f) (hb : Below W.heap.size W W') : CM W' b n f :=
  h.kept (row := none) ⟨hb.os, hb.tape, hb.output, hb.size, fun i hi _ => hb.block i hi⟩ (by simp)
theorem CM.made (W : World) : CM (W.alloc (.map #[] 0)) W.heap.size 0 (fun _ => none) := ⟨.map [], World.ownsMap_made _ _ _ _, Maps.isMap_empty, fun _ _ h => by cases h⟩
def updM (f : UInt8 → Option ByteArray) (c : UInt8) (s : ByteArray) : UInt8 → Option ByteArray := fun x => if x = c then some s else f x
theorem CM.put {W : World} {b n : Nat} {f : UInt8 → Option ByteArray} (h : CM W b n f) (hn : n < 1000) (t : TypeId) (ht : Tryz.prog.underlying t = some (.map 5 9)) (c : UInt8) (s : ByteArray) (hs : s.size ≤ maxLen) :
    ∃ W', (Instr.mapUpdate t (.map (some b)) (.int .u8 (c.toNat : Int)) (.string s)).run Tryz.prog W = .ok () W' ∧ CM W' b (n + 1) (updM f c s) ∧ W.grownBy W' (some b) := by
  obtain ⟨D, h1, h2, h3⟩ := h
  obtain ⟨W', hr, ho, hg⟩ := h1.update keysU8 ht (by unfold maxLen; omega) (Maps.keyOf_int_mk Tryz.underlying5 (u8_wf c)) (plainElem_string Tryz.underlying9 hs)
  refine ⟨W', hr, ⟨_, ho, h2.put _ _, fun x y hx z => ?_⟩, hg⟩
  unfold updM at hx
  by_cases hc : x = c
  · subst hc
    rw [if_pos rfl] at hx
    cases hx
    exact Maps.atKey_put_same h2 (by simp [WideAt.IsKeyLit]) _ _
  · rw [if_neg hc] at hx
    rw [Maps.atKey_put_other (by intro e; injection e with _ e; exact hc (UInt8.toNat_inj.1 (by omega)))]
    exact h3 x y hx z
theorem zeroS (W : World) : (zeroValue 9).run Tryz.prog W = .ok (.string ⟨#[]⟩) W := by kernel_rfl
theorem CM.look {W : World} {b n : Nat} {f : UInt8 → Option ByteArray} (h : CM W b n f) (t : TypeId) (ht : Tryz.prog.underlying t = some (.map 5 9)) (c : UInt8) {s : ByteArray} (hf : f c = some s) :
    (Instr.lookup t (.map (some b)) (.int .u8 (c.toNat : Int)) false).run Tryz.prog W = .ok (.string s) W := by
  obtain ⟨D, h1, h2, h3⟩ := h
  have hz : (zeroValue 9).run Tryz.prog W = .ok (.string ⟨#[]⟩) W := zeroS W
  obtain ⟨v, ps, hrun, hv⟩ := h1.lookup keysU8 ht hz (plainElem_string Tryz.underlying9 (by show 0 ≤ _; omega)) (Maps.keyOf_int_mk Tryz.underlying5 (u8_wf c))
  obtain ⟨s', rfl, hs', _⟩ := plainElem_string_inv Tryz.underlying9 hv
  have h4 := (h3 c s hf _).symm.trans (Prod.mk.inj hs').1
  have this : s.data.toList = s'.data.toList := Lit.string.inj (DataW.lit.inj h4)
  have e := bytes_ext this
  subst e
  exact hrun
set_option maxRecDepth 20000 in
theorem upon_mk {o : Oper} {a : Act} {K : Act → World → Prop} {Q : Exit → Act → World → Prop} {t : TypeId} {w : World} (h : ∀ b w', CM w' b 0 (fun _ => none) → Below w.heap.size w w' → w.heap.size ≤ b → K (a.put o.dst (.map (some b))) w') :
    Oper.upon Tryz.prog o a K Q ((Sem.run Tryz.prog (Instr.makeMap t none) w).andThen fun a w' => Result.ok (Next.value a) w') := by
  have e : Sem.run Tryz.prog (Instr.makeMap t none) w = .ok (.map (some w.heap.size)) (w.alloc (.map #[] 0)) := rfl
  rw [e]
  show K _ _
  exact h _ _ (CM.made w) (bw_al (Below.refl _ _) _) (Nat.le_refl _)
set_option maxRecDepth 20000 in
theorem upon_ins {o : Oper} {a : Act} {K : Act → World → Prop} {Q : Exit → Act → World → Prop} {t : TypeId} {w : World} (ht : Tryz.prog.underlying t = some (.map 5 9)) {b n : Nat} {f : UInt8 → Option ByteArray} (hm : CM w b n f) (hn : n < 1000)
    (c : UInt8) (x : Int) (hx : (c.toNat : Int) = x) (s : ByteArray) (hs : s.size ≤ maxLen) (h : ∀ w', CM w' b (n + 1) (updM f c s) → w.grownBy w' (some b) → K (a.put o.dst undef) w') :
    Oper.upon Tryz.prog o a K Q ((Sem.run Tryz.prog (Instr.mapUpdate t (.map (some b)) (.int .u8 x) (.string s)) w).andThen fun _ w' => Result.ok Next.skip w') := by
  subst hx
  obtain ⟨w', hr, h1, h2⟩ := hm.put hn t ht c s hs
  rw [hr]
  exact h w' h1 h2
theorem gr_low {wb w w' : World} {b : Nat} (h : Below wb.heap.size wb w) (hg : w.grownBy w' (some b)) (hb : wb.heap.size ≤ b) : Below wb.heap.size wb w' := h.grown hg h.size (fun k e => by cases e; exact hb)
set_option maxRecDepth 10000 in
set_option maxHeartbeats 4000000 in
theorem heads_any (m : Mt) (v : Value) (k : Cl) (t : ByteArray) (n : Nat) (w : World) (hg : CGood m k n) (hv : Strs w v m.l) (ht : touchB t.data.toList = true) : Calls Tryz.prog 132 #[m.v v, k.v, .string t] w fun e w' =>
    ∃ A q, e = .returned (.slice A (t.size + 1) q) ∧ w'.ownsRow w.heap.size 9 1 (.slice A (t.size + 1) q) (t.size + 1) ((headsB (headB n m.l k.bob k.single) (roundsB n) t.data.toList).map Value.string) ∧ Below w.heap.size w w' := by
  have hfin : ∀ c, RowIn n (headB n m.l k.bob k.single c) := fun c => head_in hg.m.hi _ _ _ _
  have hHH := fun W (hW : Below w.heap.size w W) c => callHead_any m v k n c W hg (hv.to hW)
  obtain ⟨F, hF⟩ : ∃ F, F = headB n m.l k.bob k.single := ⟨_, rfl⟩
  rw [← hF] at hfin ⊢
  have Hfin := Lib.hid hfin
  have hHH2 : ∀ W, Below w.heap.size w W → ∀ c, Calls Tryz.prog 161 #[m.v v, k.v, .string (callT c)] W fun e w' => e = .returned (.string (F c)) ∧ Below W.heap.size W w' := by rw [hF]; exact hHH
  have hn := hg.m.hi
  have hst := hg.m.st
  have Ht := Lib.hid ht
  obtain ⟨A, q, hv', _⟩ := hv
  subst hv'
  unfold Mt.v Cl.v at *
  rw [hst] at hHH2 ⊢
  have H112 : Hid (∀ W, Below w.heap.size w W → Calls Tryz.prog 161 #[.agg #[.string m.name, .int .i64 (n : Int), .slice A m.l.length q], .agg #[.string k.bob, .string k.single], .string ⟨#[112]⟩] W fun e w' => e = .returned (.string (F 112)) ∧ Below W.heap.size W w') := Lib.hid fun W hW => hHH2 W hW 112
  have H98 : Hid (∀ W, Below w.heap.size w W → Calls Tryz.prog 161 #[.agg #[.string m.name, .int .i64 (n : Int), .slice A m.l.length q], .agg #[.string k.bob, .string k.single], .string ⟨#[98]⟩] W fun e w' => e = .returned (.string (F 98)) ∧ Below W.heap.size W w') := Lib.hid fun W hW => hHH2 W hW 98
  have H115 : Hid (∀ W, Below w.heap.size w W → Calls Tryz.prog 161 #[.agg #[.string m.name, .int .i64 (n : Int), .slice A m.l.length q], .agg #[.string k.bob, .string k.single], .string ⟨#[115]⟩] W fun e w' => e = .returned (.string (F 115)) ∧ Below W.heap.size W w') := Lib.hid fun W hW => hHH2 W hW 115
  have htl : t.size ≤ 60 := by unfold touchB at ht; rw [Bool.and_eq_true, decide_eq_true_eq, bytes_len] at ht; omega
  clear hg hfin hF hHH hHH2 hst ht
  go_enter Tryz.func132, Tryz.ntmps132
  go_upto_region 1 with fail
  refine box2 (C := fun W => Code.wp _ _ _ _ W) ?_
  intro wb hw k1 k2 hB0
  have R1 := boxRule k1
  have R2 := boxRule k2
  clear k1 k2
  go_cut [7] (fun s7 wx => ∃ b n f, s7 = .map (some b) ∧ CM wx b n f ∧ f 112 = some (F 112) ∧ f 98 = some (F 98) ∧ f 115 = some (F 115) ∧ Below wb.heap.size wb wx)
  case first =>
    have hdr : Below wb.heap.size wb wb.drew := Below.drew (Below.refl _ _)
    have Hsz : ∀ c, Hid ((F c).size ≤ maxLen) := fun c => Lib.hid (by rw [(Hfin.out c).1]; unfold maxLen; omega)
    go_region_held3 (fun W => Below wb.heap.size wb W) (first | exact Below.drew (by assumption) | exact bw_to (by assumption) hb' | exact bw_al (by assumption) _ | assumption)
      (first | (go_at_call_of 161 (Value.string { data := #[115] }); ((with_reducible refine (H115.out _ (bw_to hw (by assumption))).mono ?_); rintro e w' ⟨rfl, hb'⟩); (try (have hm := hm.to hb'))) | (go_at_call_of 161 (Value.string { data := #[98] }); ((with_reducible refine (H98.out _ (bw_to hw (by assumption))).mono ?_); rintro e w' ⟨rfl, hb'⟩); (try (have hm := hm.to hb'))) | (go_at_call_of 161 (Value.string { data := #[112] }); ((with_reducible refine (H112.out _ (bw_to hw (by assumption))).mono ?_); rintro e w' ⟨rfl, hb'⟩); (try (have hm := hm.to hb'))) | ((with_reducible refine upon_mk ?_); intro b w' hm hb' hbb; (have hbb := Nat.le_trans (Below.size (by assumption : Below wb.heap.size wb _)) hbb)) | ((with_reducible refine upon_ins Tryz.underlying162 hm (by omega) 112 112 rfl (F 112) (Hsz 112).out ?_); intro w' hm hg'; (have hB' := gr_low (by assumption : Below wb.heap.size wb _) hg' hbb)) | ((with_reducible refine upon_ins Tryz.underlying162 hm (by omega) 98 98 rfl (F 98) (Hsz 98).out ?_); intro w' hm hg'; (have hB' := gr_low (by assumption : Below wb.heap.size wb _) hg' hbb)) | ((with_reducible refine upon_ins Tryz.underlying162 hm (by omega) 115 115 rfl (F 115) (Hsz 115).out ?_); intro w' hm hg'; (have hB' := gr_low (by assumption : Below wb.heap.size wb _) hg' hbb)))
    all_goals
      have hBB : Below wb.heap.size wb w' := by assumption
      go_wp2_with fail
      go_meet
      exact ⟨b, _, _, rfl, hm, by simp [updM], by simp [updM], by simp [updM], hBB⟩
  case rest =>
    obtain ⟨b, nb, f, rfl, hm, f1, f2, f3, hBw⟩ := hcut
    have Hf : Hid (∀ c, callC c = true → f c = some (F c)) := Lib.hid (fun c hc => by
      unfold callC at hc
      simp only [Bool.or_eq_true, decide_eq_true_eq] at hc
      rcases hc with (hc | hc) | hc
      · obtain rfl : c = 112 := UInt8.toNat_inj.1 (by show c.toNat = 112; omega)
        exact f1
      · obtain rfl : c = 98 := UInt8.toNat_inj.1 (by show c.toNat = 98; omega)
        exact f2
      · obtain rfl : c = 115 := UInt8.toNat_inj.1 (by show c.toNat = 115; omega)
        exact f3)
    clear f1 f2 f3 H112 H98 H115
    have hbl := hm.lt
    have Hm := Lib.hid hm
    clear hm
    go_wp2_with (go_at_call 162; refine (rounds_any n _ hn).mono ?_; rintro e w' ⟨rfl, rfl⟩)
    refine box1 (C := fun W => Code.wp _ _ _ _ W) ?_
    intro wd hwd k3 hBd
    have hown0 : wd.ownsRow wc.heap.size 9 1 (.slice (some ⟨wc.heap.size, 0, none⟩) 1 1) 1 [.string (roundsB n)] := own_of_heap k3 (Nat.le_refl _) (by unfold maxLen; omega) rfl
    have hall : t.data.toList.all callC = true := by have h := Ht.out; unfold touchB at h; rw [Bool.and_eq_true] at h; exact h.1
    have Hall := Lib.hid hall
    have hrin := Lib.hid (rounds_in hn)
    have hBc := bw_to hw hBw
    clear k3 hall R1 R2
    go_loopw [8, 9, 29] (fun h o i wr => ∃ (j : Nat) (x : ByteArray) (A' : Option Addr) (q' : Nat), j ≤ t.size ∧ i = .int .i64 j ∧ h = .string x ∧ x = endB F (roundsB n) (t.data.toList.take j) ∧ o = .slice A' (j + 1) q' ∧ wr.ownsRow wc.heap.size 9 1 (.slice A' (j + 1) q') (j + 1) ((headsB F (roundsB n) (t.data.toList.take j)).map Value.string) ∧ Below wc.heap.size wc wr) (fun _ _ i _ => t.size - (intOf i).toNat)
    case atStart => exact ⟨0, _, _, 1, by omega, rfl, rfl, rfl, rfl, hown0, hwd⟩
    case round =>
      obtain ⟨j, x, A', q', hj, rfl, rfl, hx, rfl, hown, hB⟩ := hrel
      by_cases hlt : j < t.size
      · have hlt' : j < t.data.toList.length := by rw [bytes_len]; exact hlt
        have hcc : callC t[j] = true := by have h := List.all_eq_true.1 Hall.out _ (List.getElem_mem hlt'); rw [bytes_get t j hlt] at h; exact h
        have hlk := (Hm.out.to hB).look 162 Tryz.underlying162 t[j] (Hf.out _ hcc)
        have hxin : RowIn n x := by rw [hx]; exact end_in Hfin.out _ hrin.out
        have Hx : Hid (timesB x (F t[j]) = endB F (roundsB n) (t.data.toList.take (j + 1))) := Lib.hid (by rw [end_take hlt', hx, bytes_get t j hlt])
        have Hs : Hid (headsB F (roundsB n) (t.data.toList.take (j + 1)) = headsB F (roundsB n) (t.data.toList.take j) ++ [timesB x (F t[j])]) := Lib.hid (by rw [heads_take hlt', Hx.out])
        have Htm := Lib.hid (fun W => times_any x (F t[j]) W (by rw [hxin.1]; omega) (by rw [(Hfin.out t[j]).1]; omega) (row_hin hxin.1 (Hfin.out t[j])))
        obtain ⟨z, hz⟩ : ∃ z, z = F t[j] := ⟨_, rfl⟩
        rw [← hz] at hlk Hx Hs Htm
        clear hz hxin hx hcc
        go_wp2_with fail
        refine (Htm.out _).mono ?_; rintro e w2 ⟨rfl, hb2⟩
        have hown2 := own_to hown hb2
        have hB2 := bw_to hB hb2
        obtain ⟨y, hy⟩ : ∃ y, y = timesB x z := ⟨_, rfl⟩
        rw [← hy] at Hx Hs ⊢
        clear hy hlk
        go_wp2_with (at_builtin; go_must (refine wpList_app _ rfl _ _ _ rfl wc.heap.size 9 _ 1 16 Tryz.underlying24 info_str rfl (by omega) hown2 [.string y] rfl rfl rfl (one_mem rfl) (by omega) (by omega) hB2.size ?_); intro v2 w3 hown3 hb3 hg3 _)
        obtain ⟨A2, q2, e2, _⟩ := sl_of_own hown3
        subst e2
        refine ⟨⟨j + 1, y, A2, q2, by omega, by go_num, rfl, Hx.out, rfl, ?_, hB2.trans hb3⟩, by simp [intOf]; omega⟩
        rw [← str_snoc Hs.out]
        exact hown3
      · obtain rfl : j = t.size := by omega
        rw [List.take_of_length_le (by rw [bytes_len]; exact Nat.le_refl _)] at hown
        clear hx
        go_wp2_with fail
        go_ret
        exact ⟨_, _, rfl, own_base hown hBc.size, bw_to hBc hB⟩
end Go.Proofs.YtofpjbdelmmclaaGreatDoor

/- The lead heads of a method with its calls, and their group, both sides. -/
namespace Go.Proofs.YtofpjbdelmmclaaGreatDoor
open Go Go.RowKit
set_option linter.unusedVariables false
set_option linter.unusedSimpArgs false

theorem box4 {C : World → Prop} {w : World} {o1 o2 o3 o4 : Obj} (h : ∀ wb, Below w.heap.size w wb → wb.heap.size = w.heap.size + 4 → wb.heap[w.heap.size]? = some o1 → wb.heap[w.heap.size + 1]? = some o2 → wb.heap[w.heap.size + 2]? = some o3 → wb.heap[w.heap.size + 3]? = some o4 → Below wb.heap.size wb wb → C wb) : C ((((w.alloc o1).alloc o2).alloc o3).alloc o4) :=
  h _ (bw_al (bw_al (bw_al (bw_al (Below.refl _ _) o1) o2) o3) o4) (by simp) ((Below.heap_alloc _ _ _ (by first | (simp; done) | (simp; omega))).trans ((Below.heap_alloc _ _ _ (by first | (simp; done) | (simp; omega))).trans ((Below.heap_alloc _ _ _ (by simp)).trans (heap_new w o1))))
    ((Below.heap_alloc _ _ _ (by first | (simp; done) | (simp; omega))).trans ((Below.heap_alloc _ _ _ (by simp)).trans (by have := heap_new (w.alloc o1) o2; simpa using this)))
    ((Below.heap_alloc _ _ _ (by simp)).trans (by have := heap_new ((w.alloc o1).alloc o2) o3; simpa using this)) (by have := heap_new (((w.alloc o1).alloc o2).alloc o3) o4; simpa using this) (Below.refl _ _)
/-- What a good method with good calls gives. -/
structure BK (m : Mt) (k : Cl) (n T : Nat) (P B B' Q : ByteArray) : Prop where
  ok : callsB m k = true
  cg : CGood m k n
  hP : P = headB n m.l k.bob k.single 112
  hB : B = headB n m.l k.bob k.single 98
  inv : Inv2 n B B'
  hQ : Q = timesB P B'
  clo : IsClo n [P, B] T
  tb : T ≤ 16777216
theorem head_inv {n : Nat} (hn : n ≤ 8) (l : List ByteArray) (b s : ByteArray) (c : UInt8) : Inv n (headB n l b s c) := run_inv hn _ (Inv.rounds hn)
theorem head_perm {n : Nat} (hn : n ≤ 8) (l : List ByteArray) (b s : ByteArray) (c : UInt8) : PermR n (headB n l b s c) := run_perm hn _ (rounds_in hn) (PermR.rounds hn)
theorem bk_of {m : Mt} {k : Cl} (h : callsB m k = true) : ∃ n T P B B' Q, BK m k n T P B B' Q := by
  obtain ⟨n, hg⟩ := cgood_of h
  obtain ⟨B', hB'⟩ := inv2_of hg.m.hi (head_inv hg.m.hi m.l k.bob k.single 98)
  obtain ⟨T, hT, hc⟩ := clo_ex (n := n) hg.m.hi (gens := [headB n m.l k.bob k.single 112, headB n m.l k.bob k.single 98]) (fun g hg' => by
    rcases List.mem_cons.1 hg' with rfl | hg'
    · exact head_in hg.m.hi _ _ _ _
    · rw [List.mem_singleton.1 hg']; exact head_in hg.m.hi _ _ _ _)
  exact ⟨n, T, _, _, B', _, h, hg, rfl, rfl, hB', rfl, hc, hT⟩
theorem BK.hn {m : Mt} {k : Cl} {n T : Nat} {P B B' Q : ByteArray} (h : BK m k n T P B B' Q) : n ≤ 8 := h.cg.m.hi
theorem BK.invP {m : Mt} {k : Cl} {n T : Nat} {P B B' Q : ByteArray} (h : BK m k n T P B B' Q) : Inv n P := by rw [h.hP]; exact head_inv h.hn _ _ _ _
theorem BK.invB {m : Mt} {k : Cl} {n T : Nat} {P B B' Q : ByteArray} (h : BK m k n T P B B' Q) : Inv n B := by rw [h.hB]; exact head_inv h.hn _ _ _ _
theorem BK.invQ {m : Mt} {k : Cl} {n T : Nat} {P B B' Q : ByteArray} (h : BK m k n T P B B' Q) : Inv n Q := by rw [h.hQ]; exact h.invP.times h.hn ⟨h.inv.hb, B, h.inv.ha, h.inv.ba, h.inv.ab⟩
theorem BK.gin {m : Mt} {k : Cl} {n T : Nat} {P B B' Q : ByteArray} (h : BK m k n T P B B' Q) : ∀ g ∈ [P, B], RowIn n g := fun g hg => by
  rcases List.mem_cons.1 hg with rfl | hg
  · exact h.invP.1
  · rw [List.mem_singleton.1 hg]; exact h.invB.1
theorem BK.gperm {m : Mt} {k : Cl} {n T : Nat} {P B B' Q : ByteArray} (h : BK m k n T P B B' Q) : ∀ g ∈ [P, B], PermR n g := fun g hg => by
  rcases List.mem_cons.1 hg with rfl | hg
  · rw [h.hP]; exact head_perm h.hn _ _ _ _
  · rw [List.mem_singleton.1 hg, h.hB]; exact head_perm h.hn _ _ _ _
theorem grow_setB {a w : World} {B : Nat} (h : Below B a w) {g j : Nat} (hg : B ≤ g) (u : Value) : Below B a (w.setCell ⟨g, j, none⟩ u) := h.setCell (p := ⟨g, j, none⟩) hg u
theorem frz {w w' : World} {g B : Nat} {cs : Array Value} {t : TypeId} (h : w.heap[g]? = some (.cells cs t (0, 0))) (j : Nat) (hg : g < B) (hb : Below B w w') : w'.frozen? ⟨g, j, none⟩ = false := by
  have h2 := (hb.block g hg).trans h
  simp [World.frozen?, h2]
/-- The reference's box of lead heads in block g. -/
def CB (W : World) (g : Nat) (a b c d : Value) : Prop := W.ownsRow g 146 4 (.slice (some ⟨g, 0, none⟩) 1 1) 1 [a, b, c, d]
theorem CB.to {W W' : World} {g : Nat} {a b c d : Value} (h : CB W g a b c d) (hb : Below W.heap.size W W') : CB W' g a b c d := own_to h hb
theorem CB.cells {W : World} {g : Nat} {a b c d : Value} (h : CB W g a b c d) : (W.cell? ⟨g, 0, none⟩ = some a ∧ W.cell? ⟨g, 1, none⟩ = some b ∧ W.cell? ⟨g, 2, none⟩ = some c ∧ W.cell? ⟨g, 3, none⟩ = some d) ∧ (W.frozen? ⟨g, 0, none⟩ = false ∧ W.frozen? ⟨g, 1, none⟩ = false ∧ W.frozen? ⟨g, 2, none⟩ = false ∧ W.frozen? ⟨g, 3, none⟩ = false) :=
  ⟨⟨(h.cellAt 0 (by omega)).trans rfl, (h.cellAt 1 (by omega)).trans rfl, (h.cellAt 2 (by omega)).trans rfl, (h.cellAt 3 (by omega)).trans rfl⟩, h.frozenAt _, h.frozenAt _, h.frozenAt _, h.frozenAt _⟩
set_option maxRecDepth 100000 in
set_option maxHeartbeats 8000000 in
theorem l17Of_yes (m : Mt) (v : Value) (k : Cl) (n T : Nat) (P B B' Q : ByteArray) (w : World) (hK : BK m k n T P B B' Q) (h : MethAt w m v) (hs : MtSmall m) (hk : ClSmall k) : Calls Tryz.prog 138 #[m.v v, k.v] w fun e w' =>
    ∃ A q, e = .returned (.tuple #[.agg #[.string P, .string B, .string Q, .slice A (grp8 (cloB n [P, B] T)).length q], .bool (decide ((cloB n [P, B] T).length ≤ 130))]) ∧ w'.ownsRow w.heap.size 9 1 (.slice A (grp8 (cloB n [P, B] T)).length q) (grp8 (cloB n [P, B] T)).length ((grp8 (cloB n [P, B] T)).map Value.string) ∧ Below w.heap.size w w' := by
  have H112 := Lib.hid (fun W (hW : Below w.heap.size w W) => specCallHead_yes m v k n 112 (.inl rfl) W hK.cg hK.ok (h.to hW) hs hk)
  have H98 := Lib.hid (fun W (hW : Below w.heap.size w W) => specCallHead_yes m v k n 98 (.inr rfl) W hK.cg hK.ok (h.to hW) hs hk)
  rw [← hK.hP] at H112
  rw [← hK.hB] at H98
  have Hge := Lib.hid (fun V W (hV : Strs W V [P, B]) => l6Close_any n T [P, B] V W hK.hn hK.gin hK.gperm hV (by simp) (by simp) hK.clo hK.tb)
  have Htu := Lib.hid (fun W => l1Turn_any n B B' W hK.inv)
  have hPs := hK.invP.1.1
  have Hti := Lib.hid (fun W => l1Times_any P B' W (by rw [hPs]; have := hK.hn; omega) (by rw [hK.inv.hb.1]; have := hK.hn; omega) (row_hin hPs hK.inv.hb))
  rw [← hK.hQ] at Hti
  obtain ⟨F, hF⟩ : ∃ F, F = cloB n [P, B] T := ⟨_, rfl⟩
  obtain ⟨u8, hu8⟩ : ∃ u, u = decide (F.length ≤ 800) := ⟨_, rfl⟩
  obtain ⟨u, hu⟩ : ∃ u, u = decide (F.length ≤ 130) := ⟨_, rfl⟩
  obtain ⟨G, hG⟩ : ∃ G, G = grp8 F := ⟨_, rfl⟩
  have hlen : u8 = true → G.length = F.length := fun e => by rw [hG, grp8_yes (of_decide_eq_true (hu8.symm.trans e)), sortB_len]
  have hu80 : u8 = false → u = false := fun e => by rw [hu]; exact decide_eq_false (fun h => by have := of_decide_eq_false (hu8.symm.trans e); omega)
  have hu81 : u8 = true → u = decide (G.length ≤ 130) := fun e => by rw [hu, hlen e]
  have Hlen := Lib.hid hu80
  have Hlen1 := Lib.hid hu81
  simp only [← hF, ← hu8, ← hu, ← hG] at Hge ⊢
  obtain ⟨A, c, hv⟩ := h.form
  subst hv
  unfold Mt.v Cl.v callT at *
  clear h hK hF hu hu8 hG hPs hlen hu80 hu81
  go_enter Tryz.func138, Tryz.ntmps138
  go_wp2_with fail
  refine box4 (C := fun W => Calls _ _ _ W _) ?_
  intro wb hw hwsz k1 k2 k3 k4 hB0
  have R1 := fun i W (hW : Below (w.heap.size + 3) wb W) => boxRuleB k1 (by omega) W i hW
  have R2 := fun i W (hW : Below (w.heap.size + 3) wb W) => boxRuleB k2 (by omega) W i hW
  have R3 := fun i W (hW : Below (w.heap.size + 3) wb W) => boxRuleB k3 (by omega) W i hW
  have F3 := fun j W (hW : Below (w.heap.size + 3) wb W) => frz k3 j (by omega) hW
  have hcb0 : CB wb (w.heap.size + 3) (.string ⟨#[]⟩) (.string ⟨#[]⟩) (.string ⟨#[]⟩) (.slice none 0 0) := own_of_heap k4 (Nat.le_refl _) (by unfold maxLen; omega) rfl
  have hlow : ∀ W, Below (w.heap.size + 3) wb W → Below w.heap.size w W := fun W hW => hw.trans (hW.mono (by omega))
  have Hlow := Lib.hid hlow
  have Hwsz := Lib.hid hwsz
  clear k1 k2 k3 k4 hlow
  refine (H112.out _ hw).mono ?_; rintro e w1 ⟨rfl, hb1⟩
  have hL1 : Below (w.heap.size + 3) wb w1 := hb1.mono (by omega)
  have hc1 := hcb0.to hb1
  have r1 := fun i => R1 i _ hL1
  have r2 := fun i => R2 i _ hL1
  go_wp2_with fail
  refine (H98.out _ (Hlow.out _ hL1)).mono ?_; rintro e w2 ⟨rfl, hb2⟩
  have hz1 : wb.heap.size ≤ w1.heap.size := hb1.size
  have hL2 : Below (w.heap.size + 3) wb w2 := hL1.trans (hb2.mono (by omega))
  have hz2 : wb.heap.size ≤ w2.heap.size := Nat.le_trans hz1 hb2.size
  have hc2 := hc1.to hb2
  obtain ⟨⟨x0, x1, x2, x3⟩, g0, g1, g2, g3⟩ := hc2.cells
  have hc3 : CB ((w2.setCell ⟨w.heap.size + 3, 0, none⟩ (.string P)).setCell ⟨w.heap.size + 3, 1, none⟩ (.string B)) (w.heap.size + 3) (.string P) (.string B) (.string ⟨#[]⟩) (.slice none 0 0) := own_set (own_set hc2 0 (.string P)) 1 (.string B)
  have hL3 := grow_setB (grow_setB hL2 (Nat.le_refl _) (j := 0) (.string P)) (Nat.le_refl _) (j := 1) (.string B)
  clear r1 r2 hc1 hcb0
  go_wp2_with fail
  refine (Htu.out _).mono ?_; rintro e w4 ⟨rfl, hb4⟩
  have hz4 : wb.heap.size ≤ w4.heap.size := by have h := hb4.size; simp [World.setCell] at h; omega
  have hL4 : Below (w.heap.size + 3) wb w4 := hL3.trans (hb4.mono (by simp [World.setCell]; omega))
  have hc4 := hc3.to hb4
  clear hc3 hc2 x0 x1 x2 x3 g0 g1 g2 g3
  obtain ⟨⟨x0, x1, x2, x3⟩, g0, g1, g2, g3⟩ := hc4.cells
  have hc5 : CB (w4.setCell ⟨w.heap.size + 3, 2, none⟩ (.string Q)) (w.heap.size + 3) (.string P) (.string B) (.string Q) (.slice none 0 0) := own_set hc4 2 (.string Q)
  have hL5 := grow_setB hL4 (Nat.le_refl _) (j := 2) (.string Q)
  go_wp2_with (go_at_call 145; refine (Hti.out _).mono ?_; rintro e w' ⟨rfl, rfl⟩)
  refine box1 (C := fun W => Calls _ _ _ W _) ?_
  intro w6 hw6 k6 hB06
  obtain ⟨g6, hg6⟩ : ∃ g, g = (w4.setCell ⟨w.heap.size + 3, 2, none⟩ (.string Q)).heap.size := ⟨_, rfl⟩
  have hg6' : g6 = w4.heap.size := by rw [hg6]; simp [World.setCell]
  have hown6 : w6.ownsRow g6 9 1 (.slice (some ⟨g6, 0, none⟩) 2 2) 2 ([P, B].map Value.string) := by rw [hg6]; exact own_of_heap k6 (Nat.le_refl _) (by unfold maxLen; omega) rfl
  rw [hg6'] at hown6
  have hS6 : Strs w6 (.slice (some ⟨w4.heap.size, 0, none⟩) 2 2) [P, B] := strs_of_own hown6
  have hc6 := hc5.to hw6
  have hz6 : wb.heap.size ≤ w6.heap.size := by have h := hw6.size; rw [← hg6, hg6'] at h; omega
  have hL6 : Below (w.heap.size + 3) wb w6 := hL5.trans (hw6.mono (by rw [← hg6, hg6']; omega))
  clear k6 hown6 hg6 hg6' hc5 hc4 x0 x1 x2 x3 g0 g1 g2 g3
  refine (Hge.out _ _ hS6).mono ?_; rintro e w7 ⟨A7, q7, rfl, hown7, hb7⟩
  have hL7 : Below (w.heap.size + 3) wb w7 := hL6.trans (hb7.mono (by omega))
  have hc7 := hc6.to hb7
  obtain ⟨⟨x0, x1, x2, x3⟩, g0, g1, g2, g3⟩ := hc7.cells
  have r0 := R3 0 w7 hL7
  have r1 := R3 1 w7 hL7
  have r2 := R3 2 w7 hL7
  have r3 := R3 3 w7 hL7
  have f0 := F3 0 w7 hL7
  have f1 := F3 1 w7 hL7
  have f2 := F3 2 w7 hL7
  have f3 := F3 3 w7 hL7
  have Hown7 := Lib.hid hown7
  have hgl := sl_cap hown7
  have hl3 : w.heap.size + 3 < w6.heap.size := by omega
  have hl2 : w.heap.size + 2 < w6.heap.size := by omega
  have HEnd := Lib.hid (Hlow.out _ hL7)
  have Hn1 : Hid (w.heap.size ≤ w6.heap.size) := Lib.hid (by omega)
  clear hc6 hc7 hown7 hS6
  cases u8
  · have hu0 := Hlen.out rfl
    subst hu0
    go_wp2_with fail
    refine bodyPost_ret (v := .tuple #[.agg #[.string P, .string B, .string Q, .slice A7 G.length q7], .bool false]) (by simp [results, go_sem, r0, r1, r2, r3]) rfl ⟨A7, q7, rfl, ?_, ?_⟩
    · exact own_base (own_past (own_past (own_past (own_past (own_past Hown7.out hl3 _ _) hl2 _ _) hl2 _ _) hl2 _ _) hl2 _ _) Hn1.out
    · exact grow_set (grow_set (grow_set (grow_set (grow_set HEnd.out (Nat.le_add_right _ 3) _) (Nat.le_add_right _ 2) _) (Nat.le_add_right _ 2) _) (Nat.le_add_right _ 2) _) (Nat.le_add_right _ 2) _
  · have hu1 := Hlen1.out rfl
    have hdl : decide ((G.length : Int) ≤ 130) = u := by rw [hu1]; simp only [decide_eq_decide]; omega
    have Hu1 := Lib.hid hu1
    clear hu1
    cases u
    · go_wp2_with fail
      refine bodyPost_ret (v := .tuple #[.agg #[.string P, .string B, .string Q, .slice A7 G.length q7], .bool false]) (by simp [results, go_sem, r0, r1, r2, r3]) rfl ⟨A7, q7, rfl, ?_, ?_⟩
      · exact own_base (own_past (own_past (own_past (own_past (own_past Hown7.out hl3 _ _) hl2 _ _) hl2 _ _) hl2 _ _) hl2 _ _) Hn1.out
      · exact grow_set (grow_set (grow_set (grow_set (grow_set HEnd.out (Nat.le_add_right _ 3) _) (Nat.le_add_right _ 2) _) (Nat.le_add_right _ 2) _) (Nat.le_add_right _ 2) _) (Nat.le_add_right _ 2) _
    · go_wp2_with fail
      refine bodyPost_ret (v := .tuple #[.agg #[.string P, .string B, .string Q, .slice A7 G.length q7], .bool true]) (by simp [results, go_sem, r0, r1, r2, r3]) rfl ⟨A7, q7, rfl, ?_, ?_⟩
      · exact own_base (own_past (own_past (own_past (own_past (own_past Hown7.out hl3 _ _) hl2 _ _) hl2 _ _) hl2 _ _) hl2 _ _) Hn1.out
      · exact grow_set (grow_set (grow_set (grow_set (grow_set HEnd.out (Nat.le_add_right _ 3) _) (Nat.le_add_right _ 2) _) (Nat.le_add_right _ 2) _) (Nat.le_add_right _ 2) _) (Nat.le_add_right _ 2) _
set_option maxHeartbeats 4000000 in
theorem l17Of_no (m : Mt) (v : Value) (k : Cl) (w : World) (hno : callsB m k = false) (h : MethAt w m v) (hs : MtSmall m) (hk : ClSmall k) : Calls Tryz.prog 138 #[m.v v, k.v] w fun e w' =>
    e = .returned (.tuple #[.agg #[.string ⟨#[]⟩, .string ⟨#[]⟩, .string ⟨#[]⟩, .slice none 0 0], .bool false]) ∧ Below w.heap.size w w' := by
  have H112 := Lib.hid (fun W (hW : Below w.heap.size w W) => specCallHead_no m v k 112 (.inl rfl) W hno (h.to hW) hs hk)
  have H98 := Lib.hid (fun W (hW : Below w.heap.size w W) => specCallHead_no m v k 98 (.inr rfl) W hno (h.to hW) hs hk)
  obtain ⟨A, c, hv⟩ := h.form
  subst hv
  unfold Mt.v Cl.v callT at *
  clear h hno
  go_enter Tryz.func138, Tryz.ntmps138
  go_wp2_with fail
  refine box4 (C := fun W => Calls _ _ _ W _) ?_
  intro wb hw hwsz k1 k2 k3 k4 hB0
  have R1 := fun i W (hW : Below wb.heap.size wb W) => boxRule k1 W i hW
  have R2 := fun i W (hW : Below wb.heap.size wb W) => boxRule k2 W i hW
  have R3 := fun i W (hW : Below wb.heap.size wb W) => boxRule k3 W i hW
  have R4 := fun i W (hW : Below wb.heap.size wb W) => boxRule k4 W i hW
  have F3 := fun j W hb => frozen_of_heap k3 j (w' := W) hb
  have hsz2 : w.heap.size + 2 < wb.heap.size := blk_lt k3
  clear k1 k2 k3 k4
  refine (H112.out _ hw).mono ?_; rintro e w1 ⟨rfl, hb1⟩
  have r1 := fun i => R1 i _ hb1
  have r2 := fun i => R2 i _ hb1
  go_wp2_with fail
  refine (H98.out _ (bw_to hw hb1)).mono ?_; rintro e w2 ⟨rfl, hb2⟩
  have hB2 := bw_to hb1 hb2
  have r0 := R3 0 w2 hB2
  have r1' := R3 1 w2 hB2
  have r2' := R3 2 w2 hB2
  have r3 := R3 3 w2 hB2
  have s0 := R4 0 w2 hB2
  have s1 := R4 1 w2 hB2
  have s2 := R4 2 w2 hB2
  have s3 := R4 3 w2 hB2
  have f0 := F3 0 w2 hB2
  have f1 := F3 1 w2 hB2
  have f2 := F3 2 w2 hB2
  have f3 := F3 3 w2 hB2
  have Hend := Lib.hid (bw_to hw hB2)
  clear r1 r2
  go_wp2_with fail
  refine bodyPost_ret (v := .tuple #[.agg #[.string ⟨#[]⟩, .string ⟨#[]⟩, .string ⟨#[]⟩, .slice none 0 0], .bool false]) (by simp [results, go_sem, r0, r1', r2', r3]) rfl ⟨rfl, ?_⟩
  exact grow_set (grow_set (grow_set (grow_set Hend.out (Nat.le_add_right _ 2) _) (Nat.le_add_right _ 2) _) (Nat.le_add_right _ 2) _) (Nat.le_add_right _ 2) _
end Go.Proofs.YtofpjbdelmmclaaGreatDoor
