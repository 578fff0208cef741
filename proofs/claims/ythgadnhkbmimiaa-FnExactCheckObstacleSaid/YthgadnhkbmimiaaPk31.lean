/- Contracts: the reference's lead head of a call; the inverse of a row, both sides. -/
import Derived.Test.YthgadnhkbmimiaaPk18
import Derived.Test.YthgadnhkbmimiaaPk23
namespace Go.Proofs.Ythgadnhkbmimiaa
open Go Go.RowKit
set_option linter.unusedVariables false
set_option linter.unusedSimpArgs false

theorem l8CallP_any (c : UInt8) (hc : c = 112 ∨ c = 98) (w : World) : Calls Try.prog 144 #[.string (callT c)] w fun e w' => e = .returned (.bool true) ∧ w = w' := by
  rcases hc with rfl | rfl
  · unfold callT
    go_enter Try.func144, Try.ntmps144
    go_wp2_with fail
    go_ret
    exact ⟨rfl, rfl⟩
  · unfold callT
    go_enter Try.func144, Try.ntmps144
    go_wp2_with fail
    go_ret
    exact ⟨rfl, rfl⟩
set_option maxHeartbeats 2000000 in
theorem l8AskedP_any (m : Mt) (v : Value) (k : Cl) (c : UInt8) (hc : c = 112 ∨ c = 98) (w : World) (h : MethAt w m v) (hs : MtSmall m) (hk : ClSmall k) : Calls Try.prog 122 #[m.v v, k.v, .string (callT c)] w fun e w' => e = .returned (.bool (callsB m k)) ∧ Below w.heap.size w w' := by
  have HM := Lib.hid (fun W (hW : Below w.heap.size w W) => l8Good_any m v k W (h.to hW) hs hk)
  have HC := Lib.hid (fun W => l8CallP_any c hc W)
  obtain ⟨A, q, hv⟩ := h.form
  subst hv
  obtain ⟨p, hp⟩ : ∃ p, p = callsB m k := ⟨_, rfl⟩
  rw [← hp] at HM ⊢
  clear h hp hc
  unfold Mt.v Cl.v at *
  go_enter Try.func122, Try.ntmps122
  go_wp2_with fail
  refine box2 (C := fun W => Calls _ _ _ W _) ?_
  intro wb hw k1 k2 hB0
  have R1 := boxRule k1
  have R2 := boxRule k2
  clear k1 k2
  refine (HM.out _ hw).mono ?_; rintro e w1 ⟨rfl, hb1⟩
  cases p
  · go_wp2_with fail
    go_ret
    exact ⟨rfl, bw_to hw hb1⟩
  · go_wp2_with (go_at_call 144; refine (HC.out _).mono ?_; rintro e w' ⟨rfl, rfl⟩)
    go_ret
    exact ⟨rfl, bw_to hw hb1⟩
set_option maxHeartbeats 2000000 in
theorem specCallHead_yes (m : Mt) (v : Value) (k : Cl) (n : Nat) (c : UInt8) (hc : c = 112 ∨ c = 98) (w : World) (hg : CGood m k n) (hok : callsB m k = true) (h : MethAt w m v) (hs : MtSmall m) (hk : ClSmall k) : Calls Try.prog 85 #[m.v v, k.v, .string (callT c)] w fun e w' => e = .returned (.tuple #[.string (headB n m.l k.bob k.single c), .bool true]) ∧ Below w.heap.size w w' := by
  have HM := Lib.hid (fun W (hW : Below w.heap.size w W) => l8AskedP_any m v k c hc W (h.to hW) hs hk)
  have HH := Lib.hid (fun W (hW : Below w.heap.size w W) => l8Head_any m v k n c W hg (h.1.to hW))
  rw [hok] at HM
  obtain ⟨A, q, hv⟩ := h.form
  subst hv
  clear h hc
  unfold Mt.v Cl.v at *
  go_enter Try.func85, Try.ntmps85
  go_wp2_with fail
  refine box2 (C := fun W => Calls _ _ _ W _) ?_
  intro wb hw k1 k2 hB0
  have R1 := boxRule k1
  have R2 := boxRule k2
  clear k1 k2
  refine (HM.out _ hw).mono ?_; rintro e w1 ⟨rfl, hb1⟩
  have hB1 := bw_to hw hb1
  go_wp2_with fail
  refine (HH.out _ hB1).mono ?_; rintro e w2 ⟨rfl, hb2⟩
  go_wp2_with fail
  go_ret2
  exact ⟨rfl, bw_to hB1 hb2⟩
set_option maxHeartbeats 2000000 in
theorem specCallHead_no (m : Mt) (v : Value) (k : Cl) (c : UInt8) (hc : c = 112 ∨ c = 98) (w : World) (hno : callsB m k = false) (h : MethAt w m v) (hs : MtSmall m) (hk : ClSmall k) : Calls Try.prog 85 #[m.v v, k.v, .string (callT c)] w fun e w' => e = .returned (.tuple #[.string ⟨#[]⟩, .bool false]) ∧ Below w.heap.size w w' := by
  have HM := Lib.hid (fun W (hW : Below w.heap.size w W) => l8AskedP_any m v k c hc W (h.to hW) hs hk)
  rw [hno] at HM
  obtain ⟨A, q, hv⟩ := h.form
  subst hv
  clear h hc
  unfold Mt.v Cl.v at *
  go_enter Try.func85, Try.ntmps85
  go_wp2_with fail
  refine box2 (C := fun W => Calls _ _ _ W _) ?_
  intro wb hw k1 k2 hB0
  have R1 := boxRule k1
  have R2 := boxRule k2
  clear k1 k2
  refine (HM.out _ hw).mono ?_; rintro e w1 ⟨rfl, hb1⟩
  go_wp2_with fail
  go_ret2
  exact ⟨rfl, bw_to hw hb1⟩
end Go.Proofs.Ythgadnhkbmimiaa
