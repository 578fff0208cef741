/- Contracts: the rows that a new band rings for a touch; both sides. -/
import Derived.Test.YtimeecimaokldaaGreatDoorPk29
namespace Go.Proofs.YtimeecimaokldaaGreatDoor
open Go Go.RowKit
set_option linter.unusedVariables false
set_option linter.unusedSimpArgs false

def rtB (m : Mt) (k : Cl) (t : ByteArray) : Bool := callsB m k && touchB t.data.toList
def RtOk (m : Mt) (k : Cl) (t : ByteArray) : Prop := rtB m k t = true ∧ (actsL m.l.length [] t.data.toList).length ≤ 400
def rtRows (m : Mt) (k : Cl) (t : ByteArray) : List ByteArray := (playB m k m.stage.toNat (newB m.stage.toNat) (actsL m.l.length [] t.data.toList)).2
theorem touch_len {t : ByteArray} (h : touchB t.data.toList = true) : t.size ≤ 60 := by
  unfold touchB at h
  rw [Bool.and_eq_true] at h
  have := of_decide_eq_true h.2
  rw [bytes_len] at this
  exact this.2
theorem callC_three' {c : UInt8} (h : callC c = true) : c = 112 ∨ c = 98 ∨ c = 115 := by
  unfold callC at h
  simp only [Bool.or_eq_true, decide_eq_true_eq] at h
  rcases h with (h | h) | h
  · exact .inl (UInt8.toNat_inj.1 (by show c.toNat = 112; omega))
  · exact .inr (.inl (UInt8.toNat_inj.1 (by show c.toNat = 98; omega)))
  · exact .inr (.inr (UInt8.toNat_inj.1 (by show c.toNat = 115; omega)))
theorem acts_ok {n N : Nat} {ah : List Act3} (hah : ∀ a ∈ ah, a.ok n) : ∀ {l : List UInt8}, l.all callC = true → ∀ a ∈ actsL N ah l, a.ok n
  | [], _, a, ha => by cases ha
  | c :: l, h, a, ha => by
    rw [List.all_cons, Bool.and_eq_true] at h
    rw [actsL] at ha
    rcases List.mem_append.1 ha with ha | ha
    · rcases List.mem_append.1 ha with ha | ha
      · exact hah a ha
      · rcases List.mem_cons.1 ha with rfl | ha
        · exact callC_three' h.1
        · rw [List.eq_of_mem_replicate ha]; trivial
    · exact acts_ok hah h.2 a ha
theorem touch_acts {t : ByteArray} {n N : Nat} {ah : List Act3} (h : touchB t.data.toList = true) (hah : ∀ a ∈ ah, a.ok n) : ∀ a ∈ actsL N ah t.data.toList, a.ok n := by
  unfold touchB at h
  rw [Bool.and_eq_true] at h
  exact acts_ok hah h.1
/-- What RingTouch leaves. -/
def RtPost (w : World) (m : Mt) (k : Cl) (t : ByteArray) (e : Ending) (w' : World) : Prop :=
  ((RtOk m k t ∧ ∃ A c, e = .returned (.tuple #[.slice A (rtRows m k t).length c, .bool true]) ∧ w'.ownsRow w.heap.size 9 1 (.slice A (rtRows m k t).length c) (rtRows m k t).length ((rtRows m k t).map Value.string)) ∨ (¬ RtOk m k t ∧ e = .returned (.tuple #[.slice none 0 0, .bool false]))) ∧ Below w.heap.size w w'
set_option maxRecDepth 10000 in
set_option maxHeartbeats 4000000 in
theorem ringTouch_any (m : Mt) (v : Value) (k : Cl) (t : ByteArray) (w : World) (h : MethAt w m v) (hn : NilOk v) (hs : MtSmall m) (hk : ClSmall k) (ht : t.size ≤ 1048576) (htab : Tab10 w) : Calls Tryz.prog 34 #[m.v v, k.v, .string t] w (RtPost w m k t) := by
  have Hgf := Lib.hid (fun W (hW : Below w.heap.size w W) => goodFor_any m v k t W (h.to hW) hs hk (Nat.le_trans ht (by unfold maxLen; omega)))
  have H := Lib.hid h
  have Htab := Lib.hid htab
  obtain ⟨A, q, rfl, _⟩ := h.1
  clear h htab
  unfold Mt.v Cl.v at *
  cases hok : callsB m k && touchB t.data.toList
  · have HN : Hid (¬ RtOk m k t) := Lib.hid (fun x => by have := x.1; unfold rtB at this; rw [hok] at this; cases this)
    rw [hok] at Hgf
    clear hok
    go_enter Tryz.func34, Tryz.ntmps34
    go_wp2_with fail
    refine box2 (C := fun W => Calls _ _ _ W _) ?_
    intro wb hw k1 k2 hB0
    clear k1 k2
    refine (Hgf.out _ hw).mono ?_; rintro e w1 ⟨rfl, hb1⟩
    go_wp2_with fail
    go_ret2
    exact ⟨.inr ⟨HN.out, rfl⟩, bw_to hw hb1⟩
  rw [hok] at Hgf
  have hokk := hok
  rw [Bool.and_eq_true] at hokk
  obtain ⟨hcb, htb⟩ := hokk
  obtain ⟨n, hg⟩ := cgood_of hcb
  have hn8 := hg.m.hi
  have hl := hg.m.len
  have hst : m.stage.toNat = n := by rw [hg.m.st]; rfl
  have ht60 := touch_len htb
  have Hac := Lib.hid (fun W (hW : Below w.heap.size w W) => actsFor_any m (.slice A m.l.length q) (.slice none 0 0) t [] W (H.out.1.to hW) hl.2 ht60 ⟨none, 0, rfl, Nat.le_refl _, by unfold maxLen; omega, Reads.none_⟩ (fun n' c' e => by injection e with _ e1 e2; exact ⟨e1.symm, e2.symm⟩) (by simp))
  have Hnb := Lib.hid (fun W (hW : Below w.heap.size w W) => newBand_any m (.slice A m.l.length q) k n W hg (H.out.1.to hW) hn)
  have Hok : Hid (rtB m k t = true) := Lib.hid hok
  have Hao := Lib.hid (touch_acts (n := n) (N := m.l.length) (ah := []) htb (fun a ha => by cases ha))
  have Hg := Lib.hid hg
  have Hrr : Hid (rtRows m k t = (playB m k n (newB n) (actsL m.l.length [] t.data.toList)).2) := Lib.hid (by unfold rtRows; rw [hst])
  have Hqo : Hid ((actsL m.l.length [] t.data.toList).length ≤ 400 → RtOk m k t) := Lib.hid (fun h => ⟨hok, h⟩)
  have Hqn : Hid (¬ (actsL m.l.length [] t.data.toList).length ≤ 400 → ¬ RtOk m k t) := Lib.hid (fun h x => h x.2)
  have hfew := actsL_few (N := m.l.length) (ah := []) (l := t.data.toList) hl.2 (by simp) (by rw [bytes_len]; exact ht60)
  unfold Mt.v Cl.v at *
  obtain ⟨acts, hacts⟩ : ∃ a, a = actsL m.l.length [] t.data.toList := ⟨_, rfl⟩
  rw [← hacts] at hfew Hqo Hqn Hrr Hao
  simp only [← hacts] at Hac
  clear hok hcb htb hg hst hacts
  go_enter Tryz.func34, Tryz.ntmps34
  go_wp2_with fail
  refine box2 (C := fun W => Calls _ _ _ W _) ?_
  intro wb hw k1 k2 hB0
  have h1 : Bc wb w.heap.size [.string m.name, .int .i64 m.stage, .slice A m.l.length q] 29 := k1
  have h2 : Bc wb (w.heap.size + 1) [.string k.bob, .string k.single] 30 := k2
  clear k1 k2
  refine (Hgf.out _ hw).mono ?_; rintro e w1 ⟨rfl, hb1⟩
  have r1 := h1.to hb1 h1.blk
  obtain ⟨x0, x1, x2⟩ : _ ∧ _ ∧ _ := ⟨r1.at_ 0 rfl, r1.at_ 1 rfl, r1.at_ 2 rfl⟩
  go_wp2_with fail
  refine (Hac.out _ (bw_to hw hb1)).mono ?_; rintro e w2 ⟨Aa, qa, rfl, hoa, hb2⟩
  have hb12 := bw_to hb1 hb2
  have Hoa := Lib.hid hoa
  clear x0 x1 x2 r1 hoa
  by_cases hfit : acts.length ≤ 400
  · have d1 : ¬ ((400 : Int) < (acts.length : Int)) := by omega
    have r1 := h1.to hb12 h1.blk
    have r2 := h2.to hb12 h2.blk
    obtain ⟨x0, x1, x2⟩ : _ ∧ _ ∧ _ := ⟨r1.at_ 0 rfl, r1.at_ 1 rfl, r1.at_ 2 rfl⟩
    obtain ⟨z0, z1⟩ : _ ∧ _ := ⟨r2.at_ 0 rfl, r2.at_ 1 rfl⟩
    have HY := Lib.hid (Hqo.out hfit)
    clear hfit
    go_wp2_with fail
    refine (Hnb.out _ (bw_to hw hb12)).mono ?_; intro e w3 hq3; obtain ⟨B1, d1, B2, d2, he3, n1, n2, hb3⟩ := hq3
    unfold Bd.v at he3
    subst he3
    have hb13 := bw_to hb12 hb3
    have Hpl := Lib.hid (played_any m k n (newB n) (.slice B1 m.l.length d1) (.slice B2 (newB n).rs.length d2) (.slice Aa acts.length qa) acts w3 (newB_good Hg.out) Hao.out (strs_of_own n1) (nilok_own n1) (sl_of_own n2) (nilok_own n2) (sl_of_own (own_to Hoa.out hb3)) (by have := HY.out.2; omega) (Htab.out.to (bw_to hw hb13)))
    clear n1 n2 x0 x1 x2 z0 z1 r1 r2 h1 h2
    unfold Bd.v at Hpl
    go_wp2_with fail
    refine Hpl.out.mono ?_; intro e w4 hq4; obtain ⟨C1, f1, C2, f2, C3, f3, he4, _, _, p3, hb4⟩ := hq4
    unfold Bd.v at he4
    subst he4
    have Hp3 := Lib.hid p3
    have Hb4 := Lib.hid (bw_to hw (bw_to hb13 hb4))
    have Hle := Lib.hid (Nat.le_trans hw.size hb13.size)
    clear p3
    go_wp2_with fail
    go_ret2
    unfold RtPost
    rw [Hrr.out]
    exact ⟨.inl ⟨HY.out, C3, f3, rfl, own_base (own_to Hp3.out (bw_al (Below.refl _ _) _)) Hle.out⟩, bw_al Hb4.out _⟩
  · have d1 : (400 : Int) < (acts.length : Int) := by omega
    have HN := Lib.hid (Hqn.out hfit)
    clear hfit
    go_wp2_with fail
    go_ret2
    exact ⟨.inr ⟨HN.out, rfl⟩, bw_to hw hb12⟩
end Go.Proofs.YtimeecimaokldaaGreatDoor
