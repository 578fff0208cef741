/- BandAfter answers as the reference's: joined. -/
import Derived.Test.YtimeecimaokldaaGreatDoorPk38
import Derived.Test.YtimeecimaokldaaGreatDoorPk13
import Derived.Test.YtimeecimaokldaaGreatDoorRows
import Derived.Lib.LaidTab
import Derived.Stop.LaidErr
namespace Go.Proofs.YtimeecimaokldaaGreatDoor
open Go Go.RowKit
set_option linter.unusedVariables false
set_option linter.unusedSimpArgs false

theorem play_rs (m : Mt) (k : Cl) (n : Nat) : ∀ (l : List Act3) (b : Bd), (playB m k n b l).1.rs.length = b.rs.length
  | [], _ => rfl
  | a :: l, b => by
    rw [playB]
    refine (play_rs m k n l _).trans ?_
    cases a with
    | step =>
      show (stepB m k n b).rs.length = _
      unfold stepB
      split <;> simp
    | call c => rfl
    | deaf i => simp [doB, deafB]
theorem baB_len {m : Mt} {k : Cl} {t : ByteArray} {bell : Int} (h : BaOk m k t bell) : (baB m k t bell).rs.length ≤ 8 := by
  have h1 := h.1
  unfold rtB at h1
  rw [Bool.and_eq_true] at h1
  obtain ⟨n, hg⟩ := cgood_of h1.1
  have hs := hg.m.st
  have hh := hg.m.hi
  unfold baB
  rw [play_rs]
  simp only [newB, List.length_map, List.length_range]
  omega
theorem bothBandAfter (m : Mt) (k : Cl) (t : ByteArray) (bell : Int) (hs : MtSmall m) (hk : ClSmall k) (ht : t.size ≤ 1048576) : BothBandAfter m k t bell := by
  by_cases hP : BaOk m k t bell
  · have key : ∀ {w w' : World} {e : Ending}, BaPost w m k t bell e w' → ∃ A1 c1 A2 c2, e = .returned (.tuple #[(baB m k t bell).v m k (.slice A1 m.l.length c1) (.slice A2 (baB m k t bell).rs.length c2), .bool true]) ∧ w'.ownsRow w.heap.size 9 1 (.slice A1 m.l.length c1) m.l.length (m.l.map Value.string) ∧ w'.ownsRow w.heap.size 104 2 (.slice A2 (baB m k t bell).rs.length c2) (baB m k t bell).rs.length ((baB m k t bell).rs.flatMap rsC) ∧ Below w.heap.size w w' := by
      intro w w' e h
      rcases h with ⟨⟨_, A1, c1, A2, c2, e1, h1, h2⟩ | ⟨h1, _⟩, hb⟩
      · exact ⟨A1, c1, A2, c2, e1, h1, h2, hb⟩
      · exact absurd hP h1
    refine ⟨m, k, baB m k t bell, true, ⟨by have := hs.2.1; omega, by have := baB_len hP; omega⟩, ?_, ?_⟩
    · exact fun v W h hn hT => (bandAfter_any m v k t bell W h hn hs hk ht hT).mono fun e w' hp => key hp
    · exact fun v W h hn hT => (specBandAfter_any m v k t bell W h hn hs hk ht).mono fun e w' hp => key hp
  · have key : ∀ {w w' : World} {e : Ending}, BaPost w m k t bell e w' → ∃ (A1 : Option Addr) (c1 : Nat) (A2 : Option Addr) (c2 : Nat), e = .returned (.tuple #[.agg #[.string ⟨#[]⟩, .int .i64 0, .slice A1 0 c1, .string ⟨#[]⟩, .string ⟨#[]⟩, .int .i64 ((0 : Nat) : Int), .string ⟨#[]⟩, .string ⟨#[]⟩, .slice A2 0 c2], .bool false]) ∧ w'.ownsRow w.heap.size 9 1 (.slice A1 0 c1) 0 ([].map Value.string) ∧ w'.ownsRow w.heap.size 104 2 (.slice A2 0 c2) 0 (([] : List (Nat × Bool)).flatMap rsC) ∧ Below w.heap.size w w' := by
      intro w w' e h
      rcases h with ⟨⟨h1, _⟩ | ⟨_, e1⟩, hb⟩
      · exact absurd h1 hP
      · exact ⟨none, 0, none, 0, e1, World.ownsRow_nil _ _ _ _, World.ownsRow_nil _ _ _ _, hb⟩
    refine ⟨⟨⟨#[]⟩, 0, []⟩, ⟨⟨#[]⟩, ⟨#[]⟩⟩, ⟨0, ⟨#[]⟩, ⟨#[]⟩, []⟩, false, ⟨by simp, by simp⟩, ?_, ?_⟩
    · exact fun v W h hn hT => (bandAfter_any m v k t bell W h hn hs hk ht hT).mono fun e w' hp => key hp
    · exact fun v W h hn hT => (specBandAfter_any m v k t bell W h hn hs hk ht).mono fun e w' hp => key hp
theorem lawBandAfter_row (m : Mt) (v : Value) (k : Cl) (t : ByteArray) (bell : Int) (w : World) (hm : MethAt w m v) (hk : ClFit k) (hr : t.size ≤ maxLen) (htab : Tab10 w) : Calls Tryz.prog 3 #[m.v v, k.v, .string t, .int .i64 bell] w fun e w' => e = .returned (.bool true) ∧ Below w.heap.size w w' :=
  lawBandAfter_of m v k t bell w hm hk htab hr (fun h1 h2 h3 => bothBandAfter m k t bell h1 h2 h3)
end Go.Proofs.YtimeecimaokldaaGreatDoor

/- From a row's list to the library's table of powers of ten. -/
namespace Go.Proofs.YtimeecimaokldaaGreatDoor
open Go Go.RowKit
set_option maxRecDepth 100000
theorem tab_same : (Rows.laid_internal_strconv_uint64pow10 : DataW Unit) = Lib.tabData .u64 Lib.pow10Tab := by kernel_rfl
theorem tab_of {x y : String × DataW Unit} {rest : List (String × DataW Unit)} {W : World} (h : laidMet Tryz.prog (x :: y :: ("internal/strconv.uint64pow10", Rows.laid_internal_strconv_uint64pow10) :: rest) W) : Tab10 W := by
  have h1 := laidMet.tail (laidMet.tail h)
  rw [tab_same] at h1
  exact Lib.tabBelow_of_tabIs (Lib.tabIs_of_head (g := 0) (by kernel_rfl) (t := 207) (e := 97) (n := 20) (by kernel_rfl) Tryz.underlying207 Tryz.underlying97 (by kernel_rfl) (by kernel_rfl) h1)
end Go.Proofs.YtimeecimaokldaaGreatDoor
