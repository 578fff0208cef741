/- spec.l17Put, spec.l17C.set. -/
import Derived.Test.YtofpjbdelmmclaaGreatDoorPk22
import Derived.Test.YtofpjbdelmmclaaGreatDoorPk13
namespace Go.Proofs.YtofpjbdelmmclaaGreatDoor
open Go Go.RowKit
set_option linter.unusedVariables false
set_option linter.unusedSimpArgs false

theorem drop_up {l : List ByteArray} {r : ByteArray} {k : Nat} (hk : k < l.length) (h : ∀ x ∈ l.drop (k + 1), nmLt r x = true) (e : nmLt r l[k] = true) : ∀ x ∈ l.drop k, nmLt r x = true := by
  intro x hx
  rw [List.drop_eq_getElem_cons hk] at hx
  rcases List.mem_cons.1 hx with rfl | hx
  · exact e
  · exact h x hx
theorem take_dn {l : List ByteArray} {r : ByteArray} {k : Nat} (hs : SortedS l) (hk : k < l.length) (e : nmLt r l[k] = false) : ∀ x ∈ l.take (k + 1), nmLt r x = false := by
  intro x hx
  obtain ⟨i, hi, rfl⟩ := List.getElem_of_mem hx
  rw [List.length_take] at hi
  rw [List.getElem_take]
  rcases Nat.eq_or_lt_of_le (show i ≤ k by omega) with e2 | hlt
  · subst e2; exact e
  · have h3 : nmLt l[k] l[i] = false := (List.pairwise_iff_getElem.1 hs) i k (by omega) hk hlt
    cases hb : nmLt r l[i]
    · rfl
    · exfalso
      cases hc : nmLt l[i] l[k]
      · rw [sl_tot hc h3] at hb; rw [hb] at e; cases e
      · have := sl_trans hb hc; rw [this] at e; cases e
theorem put_out {l : List ByteArray} {r : ByteArray} {k : Nat} (hs : SortedS l) (hk : k < l.length) (e : nmLt r l[k] = false) (h2 : ∀ x ∈ l.drop (k + 1), nmLt r x = true) (hne : l[k] ≠ r) : r ∉ l := by
  intro hm
  rw [← List.take_append_drop (k + 1) l, List.mem_append] at hm
  rcases hm with hm | hm
  · obtain ⟨i, hi, er⟩ := List.getElem_of_mem hm
    rw [List.length_take] at hi
    rw [List.getElem_take] at er
    rcases Nat.eq_or_lt_of_le (show i ≤ k by omega) with e2 | hlt
    · subst e2; exact hne er
    · have h3 : nmLt l[k] l[i] = false := (List.pairwise_iff_getElem.1 hs) i k (by omega) hk hlt
      rw [er] at h3
      exact hne (sl_tot h3 e)
  · have := h2 r hm; rw [sl_irr] at this; cases this
theorem strs_fromG {w : World} {ad : Addr} {c k n : Nat} {ss : List ByteArray} (h : Strs w (.slice (some ad) n c) ss) (hk : k ≤ n) : Strs w (.slice (if c = k then some ad else some (ad.add k)) (n - k) (c - k)) (ss.drop k) := by
  obtain rfl := strs_len h
  obtain ⟨A', c', hA, h1, h2, hr⟩ := h
  cases hA
  have hc := hr.cut (k := k) (cap := c) (by omega) h1
  refine ⟨_, c - k, by rw [List.length_drop], by rw [List.length_drop]; omega, by omega, ?_⟩
  have e2 : (if c = k then some ad else some (ad.add k)) = (if c = k then some ad else (some ad).map (·.add (k * 1))) := by simp
  rw [e2, List.length_drop, List.map_drop]
  simpa using hc
theorem strs_uptoG {w : World} {ad : Addr} {c k n : Nat} {ss : List ByteArray} (h : Strs w (.slice (some ad) n c) ss) (hk : k ≤ n) : Strs w (.slice (some ad) k c) (ss.take k) := by
  obtain rfl := strs_len h
  rcases Nat.lt_or_ge k ss.length with hlt | hge
  · exact strs_upto h hlt
  · obtain rfl : k = ss.length := by omega
    rw [List.take_length]; exact h
theorem strs_own_v {w : World} {base n : Nat} {v : Value} {l : List ByteArray} (hl : l.length = n) (h : w.ownsRow base 9 1 v n (l.map Value.string)) : Strs w v l := by
  subst hl; exact strs_of_own h
theorem nilok_nil0 : NilOk (.slice none 0 0) := fun n c h => by injection h with _ h1 h2; exact ⟨h1.symm, h2.symm⟩
set_option maxRecDepth 100000 in
set_option maxHeartbeats 4000000 in
theorem l17Put_some (V : Value) (l : List ByteArray) (r : ByteArray) (w : World) (hV : Strs w V l) (hs : SortedS l) (hA : ∃ ad c, V = .slice (some ad) l.length c) (hl : l.length ≤ 20000000) : Calls Tryz.prog 172 #[V, .string r] w fun e w' =>
    ∃ A q, e = .returned (.slice A (putS l r).length q) ∧ (w'.ownsRow w.heap.size 9 1 (.slice A (putS l r).length q) (putS l r).length ((putS l r).map Value.string) ∨ (r ∈ l ∧ V = .slice A (putS l r).length q)) ∧ Below w.heap.size w w' := by
  have HV := Lib.hid hV
  have Hs := Lib.hid hs
  obtain ⟨ad, c, rfl⟩ := hA
  obtain ⟨_, _, e0, hc1, hc2, hrd⟩ := hV
  injection e0 with ea eb ec
  subst ea ec
  unfold maxLen at hc2
  clear hs
  go_enter Tryz.func172, Tryz.ntmps172
  go_wp2_with fail
  go_loop [5] (fun i => ∃ k : Nat, k ≤ l.length ∧ i = .int .i64 k ∧ ∀ x ∈ l.drop k, nmLt r x = true) (fun i => (intOf i).toNat)
  case atStart => exact ⟨l.length, by omega, rfl, by rw [List.drop_length]; simp⟩
  case round =>
    obtain ⟨k, hk, rfl, hdr⟩ := hrel
    have Hdr := Lib.hid hdr
    clear hdr
    by_cases hk0 : k = 0
    · subst hk0
      have hno : r ∉ l := fun hm => by
        have := Hdr.out r (by rw [List.drop_zero]; exact hm)
        rw [sl_irr] at this; cases this
      have htk : ∀ x ∈ l.take 0, nmLt r x = false := by simp
      have hcell := hk
      have hkc : ((0 : Nat) : Int) ≤ (c : Int) := by omega
      have hkl : ((0 : Nat) : Int) ≤ (l.length : Int) := by omega
      have Hf := Lib.hid (fun W (hW : Below w.heap.size w W) => l1OwnS_any (.slice (some ad) l.length c) (l.drop (0)) W (by rw [List.drop_zero]; exact HV.out.to hW) (nilok_some _ _ _) (by rw [List.length_drop]; omega))
      have Hu := Lib.hid (fun W (hW : Below w.heap.size w W) => l1OwnS_any (.slice (some ad) (0) c) (l.take (0)) W ((strs_uptoG HV.out hk).to hW) (nilok_some _ _ _) (by rw [List.length_take]; omega))
      have el : (l.drop (0)).length = l.length - (0) := List.length_drop ..
      have et : (l.take (0)).length = 0 := by rw [List.length_take]; omega
      rw [el] at Hf
      rw [et] at Hu
      have Hp : Hid (putS l r = l.take (0) ++ [r] ++ l.drop (0)) := Lib.hid (by rw [putS_new Hs.out hno hk htk Hdr.out]; simp)
      have hz : (putS l r).length = (0) + 1 + (l.length - (0)) := by rw [Hp.out, List.length_append, List.length_append, et, el]; rfl
      have Hz := Lib.hid hz
      have He := Lib.hid el
      clear hno htk el et hz hcell
      go_wp2_with fail
      refine (Hf.out _ (Below.refl _ _)).mono ?_; rintro e w1 ⟨v1, rfl, hown1, hb1⟩
      have hS1 := strs_own_v He.out hown1
      have hn1 := nilok_own hown1
      obtain ⟨A1, q1, rfl, _⟩ := sl_of_own hown1
      have hlow := hb1.size
      clear hown1
      go_wp2_with fail
      refine (Hu.out _ hb1).mono ?_; rintro e w2 ⟨v2, rfl, hown2, hb2⟩
      obtain ⟨A2, q2, rfl, _⟩ := sl_of_own hown2
      go_wp2_with (first | (at_builtin; refine wpList_app_sl _ rfl _ _ _ rfl w1.heap.size 9 _ 1 16 Tryz.underlying24 info_str rfl (by omega) hown3 rfl (hS1.to (hb2.trans hb3)) hn1 rfl (strs_one _) (by omega) (by have := He.out; omega) (Below.size (hb2.trans hb3)) ?_; intro v4 w4 hown4 hb4 _ _) | (at_builtin; refine wpList_app _ rfl _ _ _ rfl w1.heap.size 9 _ 1 16 Tryz.underlying24 info_str rfl (by omega) hown2 [.string r] rfl rfl rfl (one_mem rfl) (by omega) (by omega) hb2.size ?_; intro v3 w3 hown3 hb3 hg3 _; (obtain ⟨A3, q3, rfl, _⟩ := sl_of_own hown3)))
      have e5 : (l.take (0)).map Value.string ++ [Value.string r] ++ (l.drop (0)).map Value.string = (putS l r).map Value.string := by rw [Hp.out]; simp
      rw [e5, He.out, ← Hz.out] at hown4
      obtain ⟨A4, q4, rfl, _⟩ := sl_of_own hown4
      have Hown := Lib.hid hown4
      clear hown4 hown3 hown2 e5
      go_wp2_with fail
      go_ret
      exact ⟨A4, q4, rfl, .inl (own_base Hown.out hlow), bw_tr hb1 ((hb2.trans hb3).trans hb4) hlow⟩
    · obtain ⟨j, rfl⟩ : ∃ j, k = j + 1 := ⟨k - 1, by omega⟩
      have hjl : j < l.length := by omega
      obtain ⟨_, ea, hC⟩ := strs_el hrd hjl
      cases ea
      have hC0 := hC w (Below.refl _ _)
      have hd0 : decide ((0 : Int) < ((j + 1 : Nat) : Int)) = true := by simp
      have hsub : IntKind.i64.wrap (((j + 1 : Nat) : Int) - 1) = (j : Int) := by rw [show ((j + 1 : Nat) : Int) - 1 = (j : Int) by omega]; exact IntWalk.i64_in _ (by omega)
      have Hup := Lib.hid (drop_up hjl Hdr.out)
      have Hdn := Lib.hid (take_dn (r := r) Hs.out hjl)
      have Hout := Lib.hid (fun e => put_out Hs.out hjl e Hdr.out)
      have Hin : Hid (l[j] = r → r ∈ l) := Lib.hid (fun e => by rw [← e]; exact List.getElem_mem hjl)
      obtain ⟨x, hx⟩ : ∃ x, x = l[j] := ⟨_, rfl⟩
      rw [← hx] at hC0 Hup Hdn Hout Hin
      clear hC hx
      have Htot := Lib.hid (less_tot x.toList r.toList)
      cases hb : Op.bytesLess x.toList r.toList <;> cases hq : (x.toList == r.toList)
      case false.false =>
        have hd := Hup.out (by have := Htot.out; rw [hb, hq] at this; unfold nmLt; simpa using this.symm)
        go_wp2_with fail
        exact ⟨⟨j, by omega, by go_num, hd⟩, by simp [intOf]⟩
      case true.false =>
        have hbb : nmLt r x = false := by have := Htot.out; rw [hb, hq] at this; unfold nmLt; simpa using this.symm
        have hno : r ∉ l := Hout.out hbb (fun e => by rw [bl_of_eq e] at hq; cases hq)
        have htk := Hdn.out hbb
        have hcell := hbb
        by_cases hcj : c = j + 1
        · have hcj2 := hcj
          have hlj : l.length = j + 1 := by omega
          subst hcj
          have hkc : ((j + 1 : Nat) : Int) ≤ ((j + 1 : Nat) : Int) := by omega
          have hkl : ((j + 1 : Nat) : Int) ≤ (l.length : Int) := by omega
          have Hf := Lib.hid (fun W (hW : Below w.heap.size w W) => l1OwnS_any (.slice (some ad) 0 0) (l.drop (j + 1)) W (by have h9 := strs_fromG HV.out hk; rw [if_pos rfl, Nat.sub_self, hlj, Nat.sub_self] at h9; exact h9.to hW) (nilok_some _ _ _) (by rw [List.length_drop]; omega))
          have Hu := Lib.hid (fun W (hW : Below w.heap.size w W) => l1OwnS_any (.slice (some ad) (j + 1) (j + 1)) (l.take (j + 1)) W ((strs_uptoG HV.out hk).to hW) (nilok_some _ _ _) (by rw [List.length_take]; omega))
          have el : (l.drop (j + 1)).length = 0 := by rw [List.length_drop, hlj]; omega
          have et : (l.take (j + 1)).length = j + 1 := by rw [List.length_take]; omega
          rw [el] at Hf
          rw [et] at Hu
          have Hp : Hid (putS l r = l.take (j + 1) ++ [r] ++ l.drop (j + 1)) := Lib.hid (by rw [putS_new Hs.out hno hk htk Hdr.out]; simp)
          have hz : (putS l r).length = (j + 1) + 1 + 0 := by rw [Hp.out, List.length_append, List.length_append, et, el]; rfl
          have Hz := Lib.hid hz
          have He := Lib.hid el
          clear hno htk el et hz hcell
          go_wp2_with fail
          refine (Hf.out _ (Below.refl _ _)).mono ?_; rintro e w1 ⟨v1, rfl, hown1, hb1⟩
          have hS1 := strs_own_v He.out hown1
          have hn1 := nilok_own hown1
          obtain ⟨A1, q1, rfl, _⟩ := sl_of_own hown1
          have hlow := hb1.size
          clear hown1
          go_wp2_with fail
          refine (Hu.out _ hb1).mono ?_; rintro e w2 ⟨v2, rfl, hown2, hb2⟩
          obtain ⟨A2, q2, rfl, _⟩ := sl_of_own hown2
          go_wp2_with (first | (at_builtin; refine wpList_app_sl _ rfl _ _ _ rfl w1.heap.size 9 _ 1 16 Tryz.underlying24 info_str rfl (by omega) hown3 rfl (hS1.to (hb2.trans hb3)) hn1 rfl (strs_one _) (by omega) (by have := He.out; omega) (Below.size (hb2.trans hb3)) ?_; intro v4 w4 hown4 hb4 _ _) | (at_builtin; refine wpList_app _ rfl _ _ _ rfl w1.heap.size 9 _ 1 16 Tryz.underlying24 info_str rfl (by omega) hown2 [.string r] rfl rfl rfl (one_mem rfl) (by omega) (by omega) hb2.size ?_; intro v3 w3 hown3 hb3 hg3 _; (obtain ⟨A3, q3, rfl, _⟩ := sl_of_own hown3)))
          have e5 : (l.take (j + 1)).map Value.string ++ [Value.string r] ++ (l.drop (j + 1)).map Value.string = (putS l r).map Value.string := by rw [Hp.out]; simp
          rw [e5, He.out, ← Hz.out] at hown4
          obtain ⟨A4, q4, rfl, _⟩ := sl_of_own hown4
          have Hown := Lib.hid hown4
          clear hown4 hown3 hown2 e5
          go_wp2_with fail
          go_ret
          exact ⟨A4, q4, rfl, .inl (own_base Hown.out hlow), bw_tr hb1 ((hb2.trans hb3).trans hb4) hlow⟩
        · have hcj2 := hcj
          have hkc : ((j + 1 : Nat) : Int) ≤ (c : Int) := by omega
          have hkl : ((j + 1 : Nat) : Int) ≤ (l.length : Int) := by omega
          have Hf := Lib.hid (fun W (hW : Below w.heap.size w W) => l1OwnS_any (.slice (some (ad.add (j + 1))) (l.length - (j + 1)) (c - (j + 1))) (l.drop (j + 1)) W (by have h9 := strs_fromG HV.out hk; rw [if_neg hcj2] at h9; exact h9.to hW) (nilok_some _ _ _) (by rw [List.length_drop]; omega))
          have Hu := Lib.hid (fun W (hW : Below w.heap.size w W) => l1OwnS_any (.slice (some ad) (j + 1) c) (l.take (j + 1)) W ((strs_uptoG HV.out hk).to hW) (nilok_some _ _ _) (by rw [List.length_take]; omega))
          have el : (l.drop (j + 1)).length = l.length - (j + 1) := List.length_drop ..
          have et : (l.take (j + 1)).length = j + 1 := by rw [List.length_take]; omega
          rw [el] at Hf
          rw [et] at Hu
          have Hp : Hid (putS l r = l.take (j + 1) ++ [r] ++ l.drop (j + 1)) := Lib.hid (by rw [putS_new Hs.out hno hk htk Hdr.out]; simp)
          have hz : (putS l r).length = (j + 1) + 1 + (l.length - (j + 1)) := by rw [Hp.out, List.length_append, List.length_append, et, el]; rfl
          have Hz := Lib.hid hz
          have He := Lib.hid el
          clear hno htk el et hz hcell
          go_wp2_with fail
          refine (Hf.out _ (Below.refl _ _)).mono ?_; rintro e w1 ⟨v1, rfl, hown1, hb1⟩
          have hS1 := strs_own_v He.out hown1
          have hn1 := nilok_own hown1
          obtain ⟨A1, q1, rfl, _⟩ := sl_of_own hown1
          have hlow := hb1.size
          clear hown1
          go_wp2_with fail
          refine (Hu.out _ hb1).mono ?_; rintro e w2 ⟨v2, rfl, hown2, hb2⟩
          obtain ⟨A2, q2, rfl, _⟩ := sl_of_own hown2
          go_wp2_with (first | (at_builtin; refine wpList_app_sl _ rfl _ _ _ rfl w1.heap.size 9 _ 1 16 Tryz.underlying24 info_str rfl (by omega) hown3 rfl (hS1.to (hb2.trans hb3)) hn1 rfl (strs_one _) (by omega) (by have := He.out; omega) (Below.size (hb2.trans hb3)) ?_; intro v4 w4 hown4 hb4 _ _) | (at_builtin; refine wpList_app _ rfl _ _ _ rfl w1.heap.size 9 _ 1 16 Tryz.underlying24 info_str rfl (by omega) hown2 [.string r] rfl rfl rfl (one_mem rfl) (by omega) (by omega) hb2.size ?_; intro v3 w3 hown3 hb3 hg3 _; (obtain ⟨A3, q3, rfl, _⟩ := sl_of_own hown3)))
          have e5 : (l.take (j + 1)).map Value.string ++ [Value.string r] ++ (l.drop (j + 1)).map Value.string = (putS l r).map Value.string := by rw [Hp.out]; simp
          rw [e5, He.out, ← Hz.out] at hown4
          obtain ⟨A4, q4, rfl, _⟩ := sl_of_own hown4
          have Hown := Lib.hid hown4
          clear hown4 hown3 hown2 e5
          go_wp2_with fail
          go_ret
          exact ⟨A4, q4, rfl, .inl (own_base Hown.out hlow), bw_tr hb1 ((hb2.trans hb3).trans hb4) hlow⟩
      all_goals
        have hm := Hin.out (eq_of_bl hq)
        have Hp := Lib.hid (putS_in Hs.out hm)
        have Hm := Lib.hid hm
        clear hm
        go_wp2_with fail
        go_ret
        exact ⟨some ad, c, by simp [Hp.out], .inr ⟨Hm.out, by simp [Hp.out]⟩, Below.refl _ _⟩
theorem l17Put_any (V : Value) (l : List ByteArray) (r : ByteArray) (w : World) (hV : Strs w V l) (hs : SortedS l) (h1 : 1 ≤ l.length) (hl : l.length ≤ 20000000) : Calls Tryz.prog 172 #[V, .string r] w fun e w' =>
    ∃ A q, e = .returned (.slice A (putS l r).length q) ∧ (w'.ownsRow w.heap.size 9 1 (.slice A (putS l r).length q) (putS l r).length ((putS l r).map Value.string) ∨ (r ∈ l ∧ V = .slice A (putS l r).length q)) ∧ Below w.heap.size w w' :=
  l17Put_some V l r w hV hs (strs_some hV h1) hl
set_option maxRecDepth 100000 in
set_option maxHeartbeats 4000000 in
theorem l17Put_none (r : ByteArray) (w : World) : Calls Tryz.prog 172 #[.slice none 0 0, .string r] w fun e w' =>
    ∃ A q, e = .returned (.slice A 1 q) ∧ w'.ownsRow w.heap.size 9 1 (.slice A 1 q) 1 [.string r] ∧ Below w.heap.size w w' := by
  have hst := Below.refl w.heap.size w
  have Hn := Lib.hid (fun W => l1OwnS_any (.slice none 0 0) [] W (strs_nil W) nilok_nil0 (by simp))
  go_enter Tryz.func172, Tryz.ntmps172
  go_wp2_with fail
  go_loop [5] (fun i => i = .int .i64 0) (fun i => 0)
  case atStart => rfl
  case round =>
    subst hrel
    go_wp2_with fail
    refine (Hn.out _).mono ?_; rintro e w1 ⟨v1, rfl, hown1, hb1⟩
    have hS1 : Strs w1 v1 [] := strs_own_v rfl hown1
    have hn1 := nilok_own hown1
    obtain ⟨A1, q1, rfl, _⟩ := sl_of_own hown1
    have hlow := hb1.size
    clear hown1
    go_wp2_with fail
    refine (Hn.out _).mono ?_; rintro e w2 ⟨v2, rfl, hown2, hb2⟩
    obtain ⟨A2, q2, rfl, _⟩ := sl_of_own hown2
    go_wp2_with (first | (at_builtin; refine wpList_app_sl _ rfl _ _ _ rfl w1.heap.size 9 _ 1 16 Tryz.underlying24 info_str rfl (by omega) hown3 rfl (hS1.to (hb2.trans hb3)) hn1 rfl (strs_one _) (by simp) (by simp) (Below.size (hb2.trans hb3)) ?_; intro v4 w4 hown4 hb4 _ _) | (at_builtin; refine wpList_app _ rfl _ _ _ rfl w1.heap.size 9 _ 1 16 Tryz.underlying24 info_str rfl (by omega) hown2 [.string r] rfl rfl rfl (one_mem rfl) (by omega) (by simp) hb2.size ?_; intro v3 w3 hown3 hb3 hg3 _; (obtain ⟨A3, q3, rfl, _⟩ := sl_of_own hown3)))
    obtain ⟨A4, q4, rfl, _⟩ := sl_of_own hown4
    have Hown := Lib.hid hown4
    clear hown4 hown3 hown2
    go_wp2_with fail
    go_ret
    exact ⟨A4, q4, rfl, own_base (by simpa using Hown.out) hlow, bw_tr hb1 ((hb2.trans hb3).trans hb4) hlow⟩
theorem putS_nil (r : ByteArray) : putS [] r = [r] := by
  unfold putS visitB
  rw [if_neg (by simp)]
  exact sortB_short (by simp)
/-- A row put into rising rows, in whatever slice (a nil one of length 0). -/
theorem l17Put_all (V : Value) (l : List ByteArray) (r : ByteArray) (w : World) (hV : Strs w V l) (hN : NilOk V) (hs : SortedS l) (hl : l.length ≤ 20000000) : Calls Tryz.prog 172 #[V, .string r] w fun e w' =>
    ∃ A q, e = .returned (.slice A (putS l r).length q) ∧ (w'.ownsRow w.heap.size 9 1 (.slice A (putS l r).length q) (putS l r).length ((putS l r).map Value.string) ∨ (r ∈ l ∧ V = .slice A (putS l r).length q)) ∧ Below w.heap.size w w' := by
  have hV0 := hV
  obtain ⟨A, c, rfl, _⟩ := hV
  cases A with
  | some ad => exact l17Put_some _ l r w hV0 hs ⟨ad, c, rfl⟩ hl
  | none =>
    obtain ⟨h0, rfl⟩ := hN _ _ rfl
    obtain rfl := List.eq_nil_of_length_eq_zero h0
    rw [putS_nil]
    exact (l17Put_none r w).mono fun e w' ⟨A, q, e1, h1, h2⟩ => ⟨A, q, e1, .inl h1, h2⟩
set_option maxRecDepth 100000 in
set_option maxHeartbeats 4000000 in
theorem setS_any (n K : Nat) (P B Q h : ByteArray) (gv : Value) (w : World) (hn : n ≤ 8) (hQ : Inv n Q) (hh : Inv n h) (hK : IsOrd n Q K) (hKb : K ≤ 16777216) (hf : ∃ A l c, gv = .slice A l c) : Calls Tryz.prog 171 #[.agg #[.string P, .string B, .string Q, gv], .string h] w fun e w' =>
    ∃ A q, e = .returned (.slice A K q) ∧ w'.ownsRow w.heap.size 9 1 (.slice A K q) K ((sortB (setB n Q h K)).map Value.string) ∧ Below w.heap.size w w' := by
  have hK1 := hK.1
  have Htm := Lib.hid (fun j W => l1Times_any (timesB h (powB n Q j)) Q W (by rw [(times_in hh.1 (pow_in hn hQ.1 j)).1]; omega) (by rw [hQ.1.1]; omega) (row_hin (times_in hh.1 (pow_in hn hQ.1 j)).1 hQ.1))
  have Ht0 := Lib.hid (fun W => l1Times_any h Q W (by rw [hh.1.1]; omega) (by rw [hQ.1.1]; omega) (row_hin hh.1.1 hQ.1))
  have Hx0 : Hid (timesB h Q = timesB h (powB n Q 1)) := Lib.hid (by rw [pow_one hn hQ.1])
  have Hxs : Hid (∀ j, timesB (timesB h (powB n Q j)) Q = timesB h (powB n Q (j + 1))) := Lib.hid (fun j => by rw [times_assoc h (pow_in hn hQ.1 j) hQ.1]; rfl)
  have Hend : Hid (timesB h (powB n Q K) = h) := Lib.hid (by rw [hK.2.1, times_rounds hn hh.1])
  have Hne : Hid (∀ j, 1 ≤ j → j < K → timesB h (powB n Q j) ≠ h) := Lib.hid (fun j h1 h2 e => hK.2.2 j h1 h2 (hh.cancel_left hn (pow_in hn hQ.1 j) (rounds_in hn) (by rw [e, times_rounds hn hh.1])))
  have Hput : Hid (∀ j, j < K → putS (sortB (setB n Q h j)) (timesB h (powB n Q j)) = sortB (setB n Q h (j + 1)) ∧ timesB h (powB n Q j) ∉ sortB (setB n Q h j)) := Lib.hid (fun j hj => ⟨set_put hn hQ hh hK hj, fun hm => set_new hn hQ hh hK hj ((sortB_mem _ _).1 hm)⟩)
  have Hone : Hid (sortB (setB n Q h 1) = [h]) := Lib.hid (by
    have e : setB n Q h 1 = [h] := by
      unfold setB powL
      show [timesB h (roundsB n)] = [h]
      rw [times_rounds hn hh.1]
    rw [e]
    exact sortB_short (by simp))
  have Hlen : Hid (∀ j, (sortB (setB n Q h j)).length = j) := Lib.hid (fun j => by rw [sortB_len, setB_len])
  obtain ⟨A, gl, c, rfl⟩ := hf
  clear hK hQ hh
  go_enter Tryz.func171, Tryz.ntmps171
  go_wp2_with fail
  refine box2 (C := fun W => Calls _ _ _ W _) ?_
  intro wb hw k1 k2 hB0
  have R1 := boxRule k1
  have hown0 : wb.ownsRow w.heap.size 9 1 (.slice (some ⟨w.heap.size + 1, 0, none⟩) 1 1) 1 [.string h] := own_of_heap k2 (by omega) (by unfold maxLen; omega) rfl
  clear k1 k2
  refine (Ht0.out _).mono ?_; rintro e w1 ⟨rfl, rfl⟩
  rw [Hx0.out]
  go_wp2_with fail
  go_loopw [5, 6] (fun o x wr => ∃ (j : Nat) (A' : Option Addr) (q' : Nat), 1 ≤ j ∧ j ≤ K ∧ o = .slice A' j q' ∧ x = .string (timesB h (powB n Q j)) ∧ wr.ownsRow w.heap.size 9 1 (.slice A' j q') j ((sortB (setB n Q h j)).map Value.string) ∧ Below wb.heap.size wb wr) (fun o _ _ => K - lenV o)
  case atStart => exact ⟨1, _, 1, by omega, by omega, rfl, rfl, by rw [Hone.out]; exact hown0, Below.refl _ _⟩
  case round =>
    obtain ⟨j, A', q', h1j, hj, rfl, rfl, hown, hB⟩ := hrel
    have hS := strs_own_n (Hlen.out j) hown
    have Ht := Lib.hid (Htm.out j)
    have Hx : Hid (timesB (timesB h (powB n Q j)) Q = timesB h (powB n Q (j + 1))) := Lib.hid (Hxs.out j)
    have Hj : Hid ((timesB h (powB n Q j)).toList == h.toList → j = K) := Lib.hid (fun e => by
      rcases Nat.lt_or_ge j K with hlt | hge
      · exact absurd (eq_of_bl e) (Hne.out j h1j hlt)
      · omega)
    have Hj2 : Hid (((timesB h (powB n Q j)).toList == h.toList) = false → j < K) := Lib.hid (fun e => by
      rcases Nat.lt_or_ge j K with hlt | hge
      · exact hlt
      · obtain rfl : j = K := by omega
        rw [Hend.out, beq_self_eq_true] at e; cases e)
    have Hpj := Lib.hid (Hput.out j)
    have Hp := Lib.hid (fun W (hW : Strs W (.slice A' j q') (sortB (setB n Q h j))) => l17Put_any (.slice A' j q') (sortB (setB n Q h j)) (timesB h (powB n Q j)) W hW (sortB_sorted _) (by rw [Hlen.out]; omega) (by rw [Hlen.out]; omega))
    obtain ⟨x, hx⟩ : ∃ x, x = timesB h (powB n Q j) := ⟨_, rfl⟩
    rw [← hx] at Ht Hx Hj Hj2 Hpj Hp ⊢
    clear hx
    cases hb : (x.toList == h.toList)
    · have hlt := Hj2.out hb
      have hpp := Hpj.out hlt
      rw [hpp.1, Hlen.out] at Hp
      have Hno := Lib.hid hpp.2
      clear hpp
      go_wp2_with fail
      refine (Hp.out _ hS).mono ?_; rintro e w2 ⟨A2, q2, rfl, hor, hb2⟩
      have hown2 := hor.resolve_right (fun hh => Hno.out hh.1)
      have hown3 := own_base hown2 (show w.heap.size ≤ wr.heap.size by have := hw.size; have := hB.size; omega)
      have hB2 := bw_to hB hb2
      clear hor hown hown2 hS
      go_wp2_with fail
      refine (Ht.out _).mono ?_; rintro e w3 ⟨rfl, rfl⟩
      rw [Hx.out]
      go_wp2_with fail
      exact ⟨⟨j + 1, A2, q2, by omega, by omega, rfl, rfl, hown3, hB2⟩, by simp [lenV]; omega⟩
    · obtain rfl := Hj.out hb
      go_wp2_with fail
      go_ret
      exact ⟨_, _, rfl, hown, bw_to hw hB⟩
end Go.Proofs.YtofpjbdelmmclaaGreatDoor
