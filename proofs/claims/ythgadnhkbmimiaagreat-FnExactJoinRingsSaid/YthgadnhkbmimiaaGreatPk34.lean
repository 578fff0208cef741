/- Contracts: goodBlocks, l17Bobs: the two answers; AddSet, RingsIn, JoinRings on both sides. (Printed by a program: tools/mkIJ.py.) -/
import Derived.Test.YthgadnhkbmimiaaGreatPk30
import Derived.Test.YthgadnhkbmimiaaGreatPk33
namespace Go.Proofs.YthgadnhkbmimiaaGreat
open Go Go.RowKit
set_option linter.unusedVariables false
set_option linter.unusedSimpArgs false

theorem goodBlocks_bad (m : Mt) (v : Value) (k : Cl) (Vb : Value) (bobs : List ByteArray) (w : World) (hb : BadBob m k bobs) (h : MethAt w m v) (hs : MtSmall m) (hk : ClSmall k) (hV : Strs w Vb bobs) (hbl : bobs.length ≤ 100000000) : Calls Tryz.prog 56 #[m.v v, k.v, Vb] w fun e w' =>
    ∃ (a b d : ByteArray) (A : Option Addr) (l q : Nat), e = .returned (.tuple #[.agg #[.string a, .string b, .slice A l q, .string d], .bool false]) ∧ Below w.heap.size w w' := by
  rcases hb with hb | ⟨n, T, P, B, B', Q, hK, hF, hn⟩
  · exact goodBlocks_false m v k Vb w hb h hs hk
  · have hso := sortB_sorted (cloB n [P, B] T)
    have hGl : (sortB (cloB n [P, B] T)).length ≤ 130 := by rw [sortB_len]; exact hF
    have hnb : ∀ W, Below w.heap.size w W → Calls Tryz.prog 64 #[m.v v, k.v] W fun e w' => ∃ A q, e = .returned (.tuple #[.agg #[.string P, .string B, .slice A (sortB (cloB n [P, B] T)).length q, .string Q], .bool true]) ∧ w'.ownsRow W.heap.size 9 1 (.slice A (sortB (cloB n [P, B] T)).length q) (sortB (cloB n [P, B] T)).length ((sortB (cloB n [P, B] T)).map Value.string) ∧ Below W.heap.size W w' := fun W hW => by
      have hx := newBlocks_yes m v k n T P B B' Q W hK (h.to hW) hs hk
      rw [grpL_yes hF, decide_eq_true hF] at hx
      exact hx
    by_cases hin : InG (sortB (cloB n [P, B] T)) bobs
    · have hq : decide (goodQ bobs Q) = false := decide_eq_false fun hq => hn ⟨hin, hq⟩
      obtain ⟨K, hKb, hO⟩ := ord_ex hK.hn hK.invQ
      have hr : ∀ x ∈ bobs, RowIn n x := fun x hx => (bk_all hK).1 x ((sortB_mem _ _).1 (hin.1 x hx))
      have hl := hin.len
      refine (goodBlocks_gtrue m v k Vb bobs (sortB (cloB n [P, B] T)) P B Q false w h hV hnb (fun A q W hG hV' => ?_) (fun A q W hG hV' => ?_)).mono ?_
      · have hx := inGroup_any P B Q (.slice A (sortB (cloB n [P, B] T)).length q) Vb (sortB (cloB n [P, B] T)) bobs W hG hso (by omega) hV'
        rw [decide_eq_true hin] at hx
        exact hx
      · have hx := areBobs_any n K P B Q (.slice A (sortB (cloB n [P, B] T)).length q) Vb bobs W hK.hn hK.invQ hO hKb ⟨_, _, _, rfl⟩ hV' hin.2.sorted (by omega) hr
        rw [hq] at hx
        exact hx
      · rintro e w' ⟨A, q, rfl, _, hb'⟩
        exact ⟨P, B, Q, A, _, q, rfl, hb'⟩
    · refine (goodBlocks_gfalse m v k Vb bobs (sortB (cloB n [P, B] T)) P B Q false w h hV hnb (fun A q W hG hV' => ?_)).mono ?_
      · have hx := inGroup_any P B Q (.slice A (sortB (cloB n [P, B] T)).length q) Vb (sortB (cloB n [P, B] T)) bobs W hG hso (by omega) hV'
        rw [decide_eq_false hin] at hx
        exact hx
      · rintro e w' ⟨A, q, rfl, _, hb'⟩
        exact ⟨P, B, Q, A, _, q, rfl, hb'⟩
theorem goodBlocks_yes (m : Mt) (v : Value) (k : Cl) (Vb : Value) (n T : Nat) (P B B' Q : ByteArray) (bobs : List ByteArray) (w : World) (hK : BK m k n T P B B' Q) (hF : (cloB n [P, B] T).length ≤ 130) (hbg : BG (sortB (cloB n [P, B] T)) bobs Q) (h : MethAt w m v) (hs : MtSmall m) (hk : ClSmall k) (hV : Strs w Vb bobs) : Calls Tryz.prog 56 #[m.v v, k.v, Vb] w fun e w' =>
    ∃ A q, e = .returned (.tuple #[.agg #[.string P, .string B, .slice A (sortB (cloB n [P, B] T)).length q, .string Q], .bool true]) ∧ w'.ownsRow w.heap.size 9 1 (.slice A (sortB (cloB n [P, B] T)).length q) (sortB (cloB n [P, B] T)).length ((sortB (cloB n [P, B] T)).map Value.string) ∧ Below w.heap.size w w' := by
  have hso := sortB_sorted (cloB n [P, B] T)
  have hGl : (sortB (cloB n [P, B] T)).length ≤ 130 := by rw [sortB_len]; exact hF
  have hnb : ∀ W, Below w.heap.size w W → Calls Tryz.prog 64 #[m.v v, k.v] W fun e w' => ∃ A q, e = .returned (.tuple #[.agg #[.string P, .string B, .slice A (sortB (cloB n [P, B] T)).length q, .string Q], .bool true]) ∧ w'.ownsRow W.heap.size 9 1 (.slice A (sortB (cloB n [P, B] T)).length q) (sortB (cloB n [P, B] T)).length ((sortB (cloB n [P, B] T)).map Value.string) ∧ Below W.heap.size W w' := fun W hW => by
    have hx := newBlocks_yes m v k n T P B B' Q W hK (h.to hW) hs hk
    rw [grpL_yes hF, decide_eq_true hF] at hx
    exact hx
  obtain ⟨hin, hq⟩ := hbg
  obtain ⟨K, hKb, hO⟩ := ord_ex hK.hn hK.invQ
  have hr : ∀ x ∈ bobs, RowIn n x := fun x hx => (bk_all hK).1 x ((sortB_mem _ _).1 (hin.1 x hx))
  have hl := hin.len
  refine goodBlocks_gtrue m v k Vb bobs (sortB (cloB n [P, B] T)) P B Q true w h hV hnb (fun A q W hG hV' => ?_) (fun A q W hG hV' => ?_)
  · have hx := inGroup_any P B Q (.slice A (sortB (cloB n [P, B] T)).length q) Vb (sortB (cloB n [P, B] T)) bobs W hG hso (by omega) hV'
    rw [decide_eq_true hin] at hx
    exact hx
  · have hx := areBobs_any n K P B Q (.slice A (sortB (cloB n [P, B] T)).length q) Vb bobs W hK.hn hK.invQ hO hKb ⟨_, _, _, rfl⟩ hV' hin.2.sorted (by omega) hr
    rw [decide_eq_true hq] at hx
    exact hx
theorem l17Bobs_bad (m : Mt) (v : Value) (k : Cl) (Vb : Value) (bobs : List ByteArray) (w : World) (hb : BadBob m k bobs) (h : MethAt w m v) (hs : MtSmall m) (hk : ClSmall k) (hV : Strs w Vb bobs) (hbl : bobs.length ≤ 100000000) : Calls Tryz.prog 53 #[m.v v, k.v, Vb] w fun e w' =>
    ∃ (a b d : ByteArray) (A : Option Addr) (l q : Nat), e = .returned (.tuple #[.agg #[.string a, .string b, .string d, .slice A l q], .bool false]) ∧ Below w.heap.size w w' := by
  rcases hb with hb | ⟨n, T, P, B, B', Q, hK, hF, hn⟩
  · exact l17Bobs_false m v k Vb w hb h hs hk
  · have hso := sortB_sorted (cloB n [P, B] T)
    have hGl : (sortB (cloB n [P, B] T)).length ≤ 130 := by rw [sortB_len]; exact hF
    have hnb : ∀ W, Below w.heap.size w W → Calls Tryz.prog 62 #[m.v v, k.v] W fun e w' => ∃ A q, e = .returned (.tuple #[.agg #[.string P, .string B, .string Q, .slice A (sortB (cloB n [P, B] T)).length q], .bool true]) ∧ w'.ownsRow W.heap.size 9 1 (.slice A (sortB (cloB n [P, B] T)).length q) (sortB (cloB n [P, B] T)).length ((sortB (cloB n [P, B] T)).map Value.string) ∧ Below W.heap.size W w' := fun W hW => by
      have hx := l17Of_yes m v k n T P B B' Q W hK (h.to hW) hs hk
      rw [grp8_yes (Nat.le_trans hF (by omega)), decide_eq_true hF] at hx
      exact hx
    by_cases hin : InG (sortB (cloB n [P, B] T)) bobs
    · have hq : decide (goodQ bobs Q) = false := decide_eq_false fun hq => hn ⟨hin, hq⟩
      obtain ⟨K, hKb, hO⟩ := ord_ex hK.hn hK.invQ
      have hr : ∀ x ∈ bobs, RowIn n x := fun x hx => (bk_all hK).1 x ((sortB_mem _ _).1 (hin.1 x hx))
      have hl := hin.len
      refine (l17Bobs_gtrue m v k Vb bobs (sortB (cloB n [P, B] T)) P B Q false w h hV hnb (fun A q W hG hV' => ?_) (fun A q W hG hV' => ?_)).mono ?_
      · have hx := rowsS_any P B Q (.slice A (sortB (cloB n [P, B] T)).length q) Vb (sortB (cloB n [P, B] T)) bobs W hG hV'
        rw [decide_eq_true hin] at hx
        exact hx
      · have hx := goodS_any n P B Q (.slice A (sortB (cloB n [P, B] T)).length q) Vb bobs W hK.hn hK.invQ ⟨_, _, _, rfl⟩ hV' hr
        rw [hq] at hx
        exact hx
      · rintro e w' ⟨A, q, rfl, _, hb'⟩
        exact ⟨P, B, Q, A, _, q, rfl, hb'⟩
    · refine (l17Bobs_gfalse m v k Vb bobs (sortB (cloB n [P, B] T)) P B Q false w h hV hnb (fun A q W hG hV' => ?_)).mono ?_
      · have hx := rowsS_any P B Q (.slice A (sortB (cloB n [P, B] T)).length q) Vb (sortB (cloB n [P, B] T)) bobs W hG hV'
        rw [decide_eq_false hin] at hx
        exact hx
      · rintro e w' ⟨A, q, rfl, _, hb'⟩
        exact ⟨P, B, Q, A, _, q, rfl, hb'⟩
theorem l17Bobs_yes (m : Mt) (v : Value) (k : Cl) (Vb : Value) (n T : Nat) (P B B' Q : ByteArray) (bobs : List ByteArray) (w : World) (hK : BK m k n T P B B' Q) (hF : (cloB n [P, B] T).length ≤ 130) (hbg : BG (sortB (cloB n [P, B] T)) bobs Q) (h : MethAt w m v) (hs : MtSmall m) (hk : ClSmall k) (hV : Strs w Vb bobs) : Calls Tryz.prog 53 #[m.v v, k.v, Vb] w fun e w' =>
    ∃ A q, e = .returned (.tuple #[.agg #[.string P, .string B, .string Q, .slice A (sortB (cloB n [P, B] T)).length q], .bool true]) ∧ w'.ownsRow w.heap.size 9 1 (.slice A (sortB (cloB n [P, B] T)).length q) (sortB (cloB n [P, B] T)).length ((sortB (cloB n [P, B] T)).map Value.string) ∧ Below w.heap.size w w' := by
  have hso := sortB_sorted (cloB n [P, B] T)
  have hGl : (sortB (cloB n [P, B] T)).length ≤ 130 := by rw [sortB_len]; exact hF
  have hnb : ∀ W, Below w.heap.size w W → Calls Tryz.prog 62 #[m.v v, k.v] W fun e w' => ∃ A q, e = .returned (.tuple #[.agg #[.string P, .string B, .string Q, .slice A (sortB (cloB n [P, B] T)).length q], .bool true]) ∧ w'.ownsRow W.heap.size 9 1 (.slice A (sortB (cloB n [P, B] T)).length q) (sortB (cloB n [P, B] T)).length ((sortB (cloB n [P, B] T)).map Value.string) ∧ Below W.heap.size W w' := fun W hW => by
    have hx := l17Of_yes m v k n T P B B' Q W hK (h.to hW) hs hk
    rw [grp8_yes (Nat.le_trans hF (by omega)), decide_eq_true hF] at hx
    exact hx
  obtain ⟨hin, hq⟩ := hbg
  obtain ⟨K, hKb, hO⟩ := ord_ex hK.hn hK.invQ
  have hr : ∀ x ∈ bobs, RowIn n x := fun x hx => (bk_all hK).1 x ((sortB_mem _ _).1 (hin.1 x hx))
  have hl := hin.len
  refine l17Bobs_gtrue m v k Vb bobs (sortB (cloB n [P, B] T)) P B Q true w h hV hnb (fun A q W hG hV' => ?_) (fun A q W hG hV' => ?_)
  · have hx := rowsS_any P B Q (.slice A (sortB (cloB n [P, B] T)).length q) Vb (sortB (cloB n [P, B] T)) bobs W hG hV'
    rw [decide_eq_true hin] at hx
    exact hx
  · have hx := goodS_any n P B Q (.slice A (sortB (cloB n [P, B] T)).length q) Vb bobs W hK.hn hK.invQ ⟨_, _, _, rfl⟩ hV' hr
    rw [decide_eq_true hq] at hx
    exact hx
end Go.Proofs.YthgadnhkbmimiaaGreat
