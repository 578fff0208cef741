/- Contracts: the rings with their rows, both sides. (Turned from HI by a program.) -/
import Derived.Test.YtofpjbdelmmclaaGreatDoorPk22
import Derived.Test.YtofpjbdelmmclaaGreatDoorPk19
import Derived.Test.YtofpjbdelmmclaaGreatDoorPk34
import Derived.Test.YtofpjbdelmmclaaGreatDoorPk32
namespace Go.Proofs.YtofpjbdelmmclaaGreatDoor
open Go Go.RowKit
set_option linter.unusedVariables false
set_option linter.unusedSimpArgs false

end Go.Proofs.YtofpjbdelmmclaaGreatDoor

/- Contracts: goodBlocks, l17Bobs: the two answers; AddSet, RingsIn, JoinRings on both sides. (Printed by a program: tools/mkIJ.py.) -/
namespace Go.Proofs.YtofpjbdelmmclaaGreatDoor
open Go Go.RowKit
set_option linter.unusedVariables false
set_option linter.unusedSimpArgs false

theorem l17Bobs_bad (m : Mt) (v : Value) (k : Cl) (Vb : Value) (bobs : List ByteArray) (w : World) (hb : BadBob m k bobs) (h : MethAt w m v) (hs : MtSmall m) (hk : ClSmall k) (hV : Strs w Vb bobs) (hbl : bobs.length ≤ 100000000) : Calls Tryz.prog 168 #[m.v v, k.v, Vb] w fun e w' =>
    ∃ (a b d : ByteArray) (A : Option Addr) (l q : Nat), e = .returned (.tuple #[.agg #[.string a, .string b, .string d, .slice A l q], .bool false]) ∧ Below w.heap.size w w' := by
  rcases hb with hb | ⟨n, T, P, B, B', Q, hK, hF, hn⟩
  · exact l17Bobs_false m v k Vb w hb h hs hk
  · have hso := sortB_sorted (cloB n [P, B] T)
    have hGl : (sortB (cloB n [P, B] T)).length ≤ 130 := by rw [sortB_len]; exact hF
    have hnb : ∀ W, Below w.heap.size w W → Calls Tryz.prog 138 #[m.v v, k.v] W fun e w' => ∃ A q, e = .returned (.tuple #[.agg #[.string P, .string B, .string Q, .slice A (sortB (cloB n [P, B] T)).length q], .bool true]) ∧ w'.ownsRow W.heap.size 9 1 (.slice A (sortB (cloB n [P, B] T)).length q) (sortB (cloB n [P, B] T)).length ((sortB (cloB n [P, B] T)).map Value.string) ∧ Below W.heap.size W w' := fun W hW => by
      have hx := l17Of_yes m v k n T P B B' Q W hK (h.to hW) hs hk
      rw [grp8_yes (Nat.le_trans hF (by omega)), decide_eq_true hF] at hx
      exact hx
    by_cases hin : InG (sortB (cloB n [P, B] T)) bobs
    · have hq : decide (goodQ bobs Q) = false := decide_eq_false fun hq => hn ⟨hin, hq⟩
      obtain ⟨K, hKb, hO⟩ := ord_ex hK.hn hK.invQ
      have hr : ∀ x ∈ bobs, RowIn n x := fun x hx => (bk_all hK).1 x ((sortB_mem _ _).1 (hin.1 x hx))
      have hl := hin.len
      refine (l17Bobs_gtrue m v k Vb bobs (sortB (cloB n [P, B] T)) P B Q false w h hV hnb (fun A q W hG hV' => ?_) (fun A q W hG hV' => ?_)).mono ?_
      · have hx := rowsS_any P B Q (.slice A (sortB (cloB n [P, B] T)).length q) Vb (sortB (cloB n [P, B] T)) bobs W hG hV'
        rw [decide_eq_true hin] at hx
        exact hx
      · have hx := goodS_any n P B Q (.slice A (sortB (cloB n [P, B] T)).length q) Vb bobs W hK.hn hK.invQ ⟨_, _, _, rfl⟩ hV' hr
        rw [hq] at hx
        exact hx
      · rintro e w' ⟨A, q, rfl, _, hb'⟩
        exact ⟨P, B, Q, A, _, q, rfl, hb'⟩
    · refine (l17Bobs_gfalse m v k Vb bobs (sortB (cloB n [P, B] T)) P B Q false w h hV hnb (fun A q W hG hV' => ?_)).mono ?_
      · have hx := rowsS_any P B Q (.slice A (sortB (cloB n [P, B] T)).length q) Vb (sortB (cloB n [P, B] T)) bobs W hG hV'
        rw [decide_eq_false hin] at hx
        exact hx
      · rintro e w' ⟨A, q, rfl, _, hb'⟩
        exact ⟨P, B, Q, A, _, q, rfl, hb'⟩
theorem l17Bobs_yes (m : Mt) (v : Value) (k : Cl) (Vb : Value) (n T : Nat) (P B B' Q : ByteArray) (bobs : List ByteArray) (w : World) (hK : BK m k n T P B B' Q) (hF : (cloB n [P, B] T).length ≤ 130) (hbg : BG (sortB (cloB n [P, B] T)) bobs Q) (h : MethAt w m v) (hs : MtSmall m) (hk : ClSmall k) (hV : Strs w Vb bobs) : Calls Tryz.prog 168 #[m.v v, k.v, Vb] w fun e w' =>
    ∃ A q, e = .returned (.tuple #[.agg #[.string P, .string B, .string Q, .slice A (sortB (cloB n [P, B] T)).length q], .bool true]) ∧ w'.ownsRow w.heap.size 9 1 (.slice A (sortB (cloB n [P, B] T)).length q) (sortB (cloB n [P, B] T)).length ((sortB (cloB n [P, B] T)).map Value.string) ∧ Below w.heap.size w w' := by
  have hso := sortB_sorted (cloB n [P, B] T)
  have hGl : (sortB (cloB n [P, B] T)).length ≤ 130 := by rw [sortB_len]; exact hF
  have hnb : ∀ W, Below w.heap.size w W → Calls Tryz.prog 138 #[m.v v, k.v] W fun e w' => ∃ A q, e = .returned (.tuple #[.agg #[.string P, .string B, .string Q, .slice A (sortB (cloB n [P, B] T)).length q], .bool true]) ∧ w'.ownsRow W.heap.size 9 1 (.slice A (sortB (cloB n [P, B] T)).length q) (sortB (cloB n [P, B] T)).length ((sortB (cloB n [P, B] T)).map Value.string) ∧ Below W.heap.size W w' := fun W hW => by
    have hx := l17Of_yes m v k n T P B B' Q W hK (h.to hW) hs hk
    rw [grp8_yes (Nat.le_trans hF (by omega)), decide_eq_true hF] at hx
    exact hx
  obtain ⟨hin, hq⟩ := hbg
  obtain ⟨K, hKb, hO⟩ := ord_ex hK.hn hK.invQ
  have hr : ∀ x ∈ bobs, RowIn n x := fun x hx => (bk_all hK).1 x ((sortB_mem _ _).1 (hin.1 x hx))
  have hl := hin.len
  refine l17Bobs_gtrue m v k Vb bobs (sortB (cloB n [P, B] T)) P B Q true w h hV hnb (fun A q W hG hV' => ?_) (fun A q W hG hV' => ?_)
  · have hx := rowsS_any P B Q (.slice A (sortB (cloB n [P, B] T)).length q) Vb (sortB (cloB n [P, B] T)) bobs W hG hV'
    rw [decide_eq_true hin] at hx
    exact hx
  · have hx := goodS_any n P B Q (.slice A (sortB (cloB n [P, B] T)).length q) Vb bobs W hK.hn hK.invQ ⟨_, _, _, rfl⟩ hV' hr
    rw [decide_eq_true hq] at hx
    exact hx
end Go.Proofs.YtofpjbdelmmclaaGreatDoor

/- AddSet and RingsIn on both sides. (Printed by a program: tools/mkIQ.py.) -/
namespace Go.Proofs.YtofpjbdelmmclaaGreatDoor
open Go Go.RowKit
set_option linter.unusedVariables false
set_option linter.unusedSimpArgs false

/-- What AddSet answers. -/
def addO (n T K : Nat) (P B Q r : ByteArray) (bobs : List ByteArray) : List ByteArray := if r ∈ sortB (cloB n [P, B] T) then addS bobs (sortB (setB n Q r K)) else []
end Go.Proofs.YtofpjbdelmmclaaGreatDoor

/- Joining rings on both sides. (Printed by a program: tools/mkIQ.py.) -/
namespace Go.Proofs.YtofpjbdelmmclaaGreatDoor
open Go Go.RowKit
set_option linter.unusedVariables false
set_option linter.unusedSimpArgs false

/-- What a search for a joining set answers. -/
def JPost (w : World) (o : Option (List ByteArray)) (e : Ending) (w' : World) : Prop :=
  ∃ x : Value, e = .returned (.tuple #[x, .bool o.isSome]) ∧ (∀ m, o = some m → w'.ownsRow w.heap.size 9 1 x m.length (m.map Value.string)) ∧ Below w.heap.size w w'
/-- All that joining asks of a group. -/
structure JG (n K : Nat) (P B Q : ByteArray) (G : List ByteArray) (RR : List ByteArray → ByteArray → Nat) : Prop where
  hn : n ≤ 8
  hGs : SortedS G
  hGl : G.length ≤ 130
  hQ : Inv n Q
  hK : IsOrd n Q K
  hKb : K ≤ 16777216
  hI : ∀ x ∈ G, Inv n x
  hX : ∀ b, BG G b Q → CX n P B Q b G (RR b) K
  hA : ∀ b, BG G b Q → ∀ x ∈ G, BG G (addS b (sortB (setB n Q x K))) Q
def cntB (P B : ByteArray) (G : List ByteArray) (RR : List ByteArray → ByteArray → Nat) (b : List ByteArray) : Nat := (rgs (nxB b P B) (RR b) G []).length
def setF (n K : Nat) (Q x : ByteArray) : List ByteArray := sortB (setB n Q x K)
theorem jg_of {m : Mt} {k : Cl} {n T : Nat} {P B B' Q : ByteArray} (h : BK m k n T P B B' Q) (hF : (cloB n [P, B] T).length ≤ 130) : ∃ RR K, JG n K P B Q (sortB (cloB n [P, B] T)) RR := by
  obtain ⟨RR, K, hO, hKb, hX⟩ := cx_all h hF
  exact ⟨RR, K, h.hn, sortB_sorted _, by rw [sortB_len]; exact hF, h.invQ, hO, hKb, fun x hx => (bk_all h).2.2 x ((sortB_mem _ _).1 hx), fun b hb => hX b hb.2, fun b hb x hx => bg_add h hO hx hb⟩
/-- What JoinRings answers. -/
def joinO (n K : Nat) (P B Q : ByteArray) (G : List ByteArray) (RR : List ByteArray → ByteArray → Nat) : List ByteArray := joinL (cntB P B G RR) (setF n K Q) G (cntB P B G RR []) []
end Go.Proofs.YtofpjbdelmmclaaGreatDoor

/- Drawn bobs, a drawn head. -/
namespace Go.Proofs.YtofpjbdelmmclaaGreatDoor
open Go Go.RowKit
set_option linter.unusedVariables false
set_option linter.unusedSimpArgs false

/-- A row of texts of the call's own, or all of it but its first. -/
def BobV (w : World) (base : Nat) (V : Value) (l : List ByteArray) : Prop :=
  w.ownsRow base 9 1 V l.length (l.map Value.string) ∨ ∃ g q x, w.ownsRow base 9 1 (.slice (some ⟨g, 0, none⟩) (l.length + 1) q) (l.length + 1) ((x :: l).map Value.string) ∧ V = .slice (if q = 1 then some ⟨g, 0, none⟩ else some (Addr.add ⟨g, 0, none⟩ 1)) l.length (q - 1)
theorem BobV.to {w w' : World} {base : Nat} {V : Value} {l : List ByteArray} (h : BobV w base V l) (hb : Below w.heap.size w w') : BobV w' base V l := by
  rcases h with h | ⟨g, q, x, h, e⟩
  · exact .inl (own_to h hb)
  · exact .inr ⟨g, q, x, own_to h hb, e⟩
theorem BobV.base {w : World} {base base' : Nat} {V : Value} {l : List ByteArray} (h : BobV w base V l) (hb : base' ≤ base) : BobV w base' V l := by
  rcases h with h | ⟨g, q, x, h, e⟩
  · exact .inl (own_base h hb)
  · exact .inr ⟨g, q, x, own_base h hb, e⟩
theorem BobV.draw {w w' : World} {base C : Nat} {V : Value} {l : List ByteArray} (h : BobV w base V l) (hg : w.grownBy w' (some C)) (hC : C < base) : BobV w' base V l := by
  rcases h with h | ⟨g, q, x, h, e⟩
  · exact .inl (own_ltC h hg hC)
  · exact .inr ⟨g, q, x, own_ltC h hg hC, e⟩
theorem BobV.strs {w : World} {base : Nat} {V : Value} {l : List ByteArray} (h : BobV w base V l) : Strs w V l := by
  rcases h with h | ⟨g, q, x, h, rfl⟩
  · exact strs_own_v rfl h
  · have h1 := strs_fromG (k := 1) (strs_own_v (l := x :: l) rfl h) (by simp)
    simpa using h1
theorem BobV.nil {w : World} {base : Nat} {V : Value} {l : List ByteArray} (h : BobV w base V l) : NilOk V := by
  rcases h with h | ⟨g, q, x, h, rfl⟩
  · exact nilok_own h
  · intro n c e
    split at e <;> cases e
def DrewB (w : World) (C lim : Nat) (e : Ending) (w' : World) : Prop := ∃ V bobs, e = .returned V ∧ BobV w' w.heap.size V bobs ∧ bobs.length ≤ 130 ∧ Cur w' C lim ∧ w.grownBy w' (some C)
/-- The state of a draw beside the lead heads in box X. -/
structure BS (w : World) (C X : Nat) (P B Q : ByteArray) (gv : Value) (G : List ByteArray) (lim : Nat) (W : World) : Prop where
  cur : Cur W C lim
  gb : w.grownBy W (some C)
  box : W.ownsRow w.heap.size 146 4 (.slice (some ⟨X, 0, none⟩) 1 1) 1 [.string P, .string B, .string Q, gv]
  row : W.ownsRow w.heap.size 9 1 gv G.length (G.map Value.string)
  hC : C < w.heap.size
theorem BS.to {w : World} {C X : Nat} {P B Q : ByteArray} {gv : Value} {G : List ByteArray} {lim : Nat} {W W' : World} (h : BS w C X P B Q gv G lim W) (hb : Below W.heap.size W W') : BS w C X P B Q gv G lim W' := ⟨h.cur.to hb, gb_to h.gb hb, own_to h.box hb, own_to h.row hb, h.hC⟩
theorem BS.draw {w : World} {C X : Nat} {P B Q : ByteArray} {gv : Value} {G : List ByteArray} {lim lim' : Nat} {W W' : World} (h : BS w C X P B Q gv G lim W) (hc : Cur W' C lim') (hg : W.grownBy W' (some C)) : BS w C X P B Q gv G lim' W' := ⟨hc, gb_tr h.gb hg, own_ltC h.box hg h.hC, own_ltC h.row hg h.hC, h.hC⟩
theorem BS.more {w : World} {C X : Nat} {P B Q : ByteArray} {gv : Value} {G : List ByteArray} {lim lim' : Nat} {W : World} (h : BS w C X P B Q gv G lim W) (hl : lim ≤ lim') : BS w C X P B Q gv G lim' W := { h with cur := h.cur.more hl }
def BSx (w : World) (C X : Nat) (P B Q : ByteArray) (gv : Value) (G : List ByteArray) (L : Nat) (W : World) : Prop := ∃ l, l ≤ L ∧ BS w C X P B Q gv G l W
theorem BSx.all {w : World} {C X : Nat} {P B Q : ByteArray} {ga q : Nat} {G : List ByteArray} {L : Nat} {W : World} (h : BSx w C X P B Q (.slice (some ⟨ga, 0, none⟩) G.length q) G L W) :
    BSx w C X P B Q (.slice (some ⟨ga, 0, none⟩) G.length q) G L W ∧ W.cell? ⟨X, 0, none⟩ = some (.string P) ∧ W.cell? ⟨X, 1, none⟩ = some (.string B) ∧ W.cell? ⟨X, 2, none⟩ = some (.string Q) ∧ W.cell? ⟨X, 3, none⟩ = some (.slice (some ⟨ga, 0, none⟩) G.length q) ∧ ∀ i (hi : i < G.length), W.cell? ⟨ga, i, none⟩ = some (.string G[i]) :=
  ⟨h, let ⟨_, _, h⟩ := h; ⟨(h.box.cellAt 0 (by omega)).trans rfl, (h.box.cellAt 1 (by omega)).trans rfl, (h.box.cellAt 2 (by omega)).trans rfl, (h.box.cellAt 3 (by omega)).trans rfl, fun i hi => by rw [h.row.cellAt i (by omega)]; simp [hi]⟩⟩
theorem BS.x {w : World} {C X : Nat} {P B Q : ByteArray} {gv : Value} {G : List ByteArray} {lim L : Nat} {W : World} (h : BS w C X P B Q gv G lim W) (hl : lim ≤ L) : BSx w C X P B Q gv G L W := ⟨lim, hl, h⟩
end Go.Proofs.YtofpjbdelmmclaaGreatDoor

/- What the laws on rings draw. (Printed by a program: tools/mkXG.py.) -/
namespace Go.Proofs.YtofpjbdelmmclaaGreatDoor
open Go Go.RowKit
set_option linter.unusedVariables false
set_option linter.unusedSimpArgs false

/-- What a drawn method with its calls is known by. -/
structure PMK (w w' : World) (m : Mt) (v : Value) (k : Cl) : Prop where
  nm : m.name.size ≤ 20
  ln : m.l.length ≤ 60
  sm : ∀ s ∈ m.l, s.size ≤ 20
  st : StageM m
  kb : k.bob.size ≤ 20
  ks : k.single.size ≤ 20
  row : w'.ownsRow w.heap.size 9 1 v m.l.length (m.l.map Value.string)
  bw : Below w.heap.size w w'
theorem PMK.small {w w' : World} {m : Mt} {v : Value} {k : Cl} (h : PMK w w' m v k) : MtSmall m ∧ ClSmall k :=
  ⟨⟨by have := h.nm; omega, by have := h.ln; omega, fun s hs => by have := h.sm s hs; omega⟩, by have := h.kb; omega, by have := h.ks; omega⟩
theorem PMK.meth {w w' : World} {m : Mt} {v : Value} {k : Cl} (h : PMK w w' m v k) : MethAt w' m v :=
  ⟨strs_own_v rfl h.row, by have := h.nm; unfold maxLen; omega, fun s hs => by have := h.sm s hs; unfold maxLen; omega⟩
theorem PMK.to {w w' w2 : World} {m : Mt} {v : Value} {k : Cl} (h : PMK w w' m v k) (hb : Below w'.heap.size w' w2) : PMK w w2 m v k := { h with row := own_to h.row hb, bw := bw_to h.bw hb }
theorem PMK.from_ {w w1 w2 : World} {m : Mt} {v : Value} {k : Cl} (h : PMK w1 w2 m v k) (hb : Below w.heap.size w w1) : PMK w w2 m v k := { h with row := own_base h.row hb.size, bw := bw_to hb h.bw }
theorem own_noC {w w' : World} {C lim base size n : Nat} {e : TypeId} {v : Value} {xs : List Value} (h : w.ownsRow base e size v n xs) (hc : Cur w C lim) (he : e ≠ 70) (hg : w.grownBy w' (some C)) : w'.ownsRow base e size v n xs := by
  obtain ⟨_, _, _, _, _, _, _, _, ho⟩ := hc
  exact h.kept hg (own_kindsX h ho he)
theorem own_blk_ne {w : World} {b1 b2 : Nat} {e1 e2 : TypeId} {s1 s2 : Nat} {R K : Nat} {x1 x2 : List Value} (h1 : w.ownsRow b1 e1 s1 (.slice (some ⟨R, 0, none⟩) 1 1) 1 x1) (h2 : w.ownsRow b2 e2 s2 (.slice (some ⟨K, 0, none⟩) 1 1) 1 x2) (he : e1 ≠ e2) : R ≠ K := by
  intro e
  subst e
  rcases own_kindsX h1 h2 he with h | h
  · cases h
  · exact h rfl
theorem own_ne1 {w : World} {base g D : Nat} {e : TypeId} {s : Nat} {xs : List Value} (h : w.ownsRow base e s (.slice (some ⟨g, 0, none⟩) 1 1) 1 xs) (hne : g ≠ D) (j : Nat) (u : Value) : (w.setCell ⟨D, j, none⟩ u).ownsRow base e s (.slice (some ⟨g, 0, none⟩) 1 1) 1 xs :=
  h.kept (gb_set (gb_refl w D) j u) (.inr (by simp [Value.ownBlock]; omega))
/-- The state of a drawer: the results' blocks R and K, the method's box G, the calls' box D. -/
structure DN (w : World) (R K G D : Nat) (nm : ByteArray) (n : Int) (v : Value) (ss : List ByteArray) (b s : ByteArray) (W : World) : Prop where
  bw : Below w.heap.size w W
  rm : ∃ xs, W.ownsRow w.heap.size 49 3 (.slice (some ⟨R, 0, none⟩) 1 1) 1 xs
  rk : ∃ ys, W.ownsRow w.heap.size 51 2 (.slice (some ⟨K, 0, none⟩) 1 1) 1 ys
  box : W.ownsRow w.heap.size 49 3 (.slice (some ⟨G, 0, none⟩) 1 1) 1 [.string nm, .int .i64 n, v]
  kx : W.ownsRow w.heap.size 51 2 (.slice (some ⟨D, 0, none⟩) 1 1) 1 [.string b, .string s]
  row : W.ownsRow w.heap.size 9 1 v ss.length (ss.map Value.string)
  ne : R ≠ G
  nk : K ≠ D
theorem DN.to {w : World} {R K G D : Nat} {nm : ByteArray} {n : Int} {v : Value} {ss : List ByteArray} {b s : ByteArray} {W W' : World} (h : DN w R K G D nm n v ss b s W) (hb : Below W.heap.size W W') : DN w R K G D nm n v ss b s W' :=
  ⟨bw_to h.bw hb, let ⟨xs, hx⟩ := h.rm; ⟨xs, own_to hx hb⟩, let ⟨xs, hx⟩ := h.rk; ⟨xs, own_to hx hb⟩, own_to h.box hb, own_to h.kx hb, own_to h.row hb, h.ne, h.nk⟩
theorem DN.drew {w : World} {R K G D : Nat} {nm : ByteArray} {n : Int} {v : Value} {ss : List ByteArray} {b s : ByteArray} {W : World} (h : DN w R K G D nm n v ss b s W) : DN w R K G D nm n v ss b s W.drew := h.to (Below.drew (Below.refl _ _))
theorem DN.draw {w : World} {R K G D : Nat} {nm : ByteArray} {n : Int} {v : Value} {ss : List ByteArray} {b s : ByteArray} {C lim : Nat} {W W' : World} (h : DN w R K G D nm n v ss b s W) (hC : w.heap.size ≤ C) (hc : Cur W C lim) (hg : W.grownBy W' (some C)) : DN w R K G D nm n v ss b s W' :=
  ⟨gb_below h.bw hg hC, let ⟨xs, hx⟩ := h.rm; ⟨xs, own_noC hx hc (by decide) hg⟩, let ⟨xs, hx⟩ := h.rk; ⟨xs, own_noC hx hc (by decide) hg⟩, own_noC h.box hc (by decide) hg, own_noC h.kx hc (by decide) hg, own_noC h.row hc (by decide) hg, h.ne, h.nk⟩
theorem DN.nes {w : World} {R K G D : Nat} {nm : ByteArray} {n : Int} {v : Value} {ss : List ByteArray} {b s : ByteArray} {W : World} (h : DN w R K G D nm n v ss b s W) : R ≠ K ∧ R ≠ D ∧ K ≠ G ∧ w.heap.size ≤ R ∧ w.heap.size ≤ K := by
  obtain ⟨xs, hx⟩ := h.rm
  obtain ⟨ys, hy⟩ := h.rk
  exact ⟨own_blk_ne hx hy (by decide), own_blk_ne hx h.kx (by decide), own_blk_ne hy h.box (by decide), (hx.lt R rfl).1, (hy.lt K rfl).1⟩
theorem DN.setR1 {w : World} {R K G D : Nat} {nm : ByteArray} {n : Int} {v : Value} {ss : List ByteArray} {b s : ByteArray} {W : World} (h : DN w R K G D nm n v ss b s W) (j : Nat) (u : Value) : DN w R K G D nm n v ss b s (W.setCell ⟨R, j, none⟩ u) := by
  obtain ⟨n1, n2, n3, n4, n5⟩ := h.nes
  obtain ⟨xs, hx⟩ := h.rm
  obtain ⟨ys, hy⟩ := h.rk
  have hne := h.ne
  exact ⟨grow_setB9 h.bw n4 u, ⟨_, own_set hx j u⟩, ⟨ys, own_ne1 hy (by omega) j u⟩, own_ne1 h.box (by omega) j u, own_ne1 h.kx (by omega) j u, h.row.kept (gb_set (gb_refl W R) j u) ((own_kindsX h.row hx (by decide)).imp id (fun x y => x (by rw [y]; rfl))), h.ne, h.nk⟩
theorem DN.setK1 {w : World} {R K G D : Nat} {nm : ByteArray} {n : Int} {v : Value} {ss : List ByteArray} {b s : ByteArray} {W : World} (h : DN w R K G D nm n v ss b s W) (j : Nat) (u : Value) : DN w R K G D nm n v ss b s (W.setCell ⟨K, j, none⟩ u) := by
  obtain ⟨n1, n2, n3, n4, n5⟩ := h.nes
  obtain ⟨xs, hx⟩ := h.rm
  obtain ⟨ys, hy⟩ := h.rk
  have hnk := h.nk
  exact ⟨grow_setB9 h.bw n5 u, ⟨xs, own_ne1 hx (by omega) j u⟩, ⟨_, own_set hy j u⟩, own_ne1 h.box (by omega) j u, own_ne1 h.kx (by omega) j u, h.row.kept (gb_set (gb_refl W K) j u) ((own_kindsX h.row hy (by decide)).imp id (fun x y => x (by rw [y]; rfl))), h.ne, h.nk⟩
theorem DN.setR {w : World} {R K G D : Nat} {nm : ByteArray} {n : Int} {v : Value} {ss : List ByteArray} {b s : ByteArray} {W : World} {a0 a1 a2 : Value} (h : DN w R K G D nm n v ss b s W) : DN w R K G D nm n v ss b s (((W.setCell ⟨R, 0, none⟩ a0).setCell ⟨R, 1, none⟩ a1).setCell ⟨R, 2, none⟩ a2) := ((h.setR1 0 a0).setR1 1 a1).setR1 2 a2
theorem DN.setK {w : World} {R K G D : Nat} {nm : ByteArray} {n : Int} {v : Value} {ss : List ByteArray} {b s : ByteArray} {W : World} {a0 a1 : Value} (h : DN w R K G D nm n v ss b s W) : DN w R K G D nm n v ss b s ((W.setCell ⟨K, 0, none⟩ a0).setCell ⟨K, 1, none⟩ a1) := (h.setK1 0 a0).setK1 1 a1
theorem DN.all {w : World} {R K G D : Nat} {nm : ByteArray} {n : Int} {v : Value} {ss : List ByteArray} {b s : ByteArray} {W : World} (h : DN w R K G D nm n v ss b s W) : DN w R K G D nm n v ss b s W ∧ W.cell? ⟨G, 0, none⟩ = some (.string nm) ∧ W.cell? ⟨G, 1, none⟩ = some (.int .i64 n) ∧ W.cell? ⟨G, 2, none⟩ = some (v) ∧ W.cell? ⟨D, 0, none⟩ = some (.string b) ∧ W.cell? ⟨D, 1, none⟩ = some (.string s) ∧ W.cell? ⟨R, 0, none⟩ = some (oldC R 0 W) ∧ W.cell? ⟨R, 1, none⟩ = some (oldC R 1 W) ∧ W.cell? ⟨R, 2, none⟩ = some (oldC R 2 W) ∧ W.cell? ⟨K, 0, none⟩ = some (oldC K 0 W) ∧ W.cell? ⟨K, 1, none⟩ = some (oldC K 1 W) ∧ W.frozen? ⟨R, 0, none⟩ = false ∧ W.frozen? ⟨R, 1, none⟩ = false ∧ W.frozen? ⟨R, 2, none⟩ = false ∧ W.frozen? ⟨K, 0, none⟩ = false ∧ W.frozen? ⟨K, 1, none⟩ = false := by
  obtain ⟨xs, hx⟩ := h.rm
  obtain ⟨ys, hy⟩ := h.rk
  have hl : xs.length = 3 := hx.1
  have hl2 : ys.length = 2 := hy.1
  refine ⟨h, (h.box.cellAt 0 (by omega)).trans rfl, (h.box.cellAt 1 (by omega)).trans rfl, (h.box.cellAt 2 (by omega)).trans rfl, (h.kx.cellAt 0 (by omega)).trans rfl, (h.kx.cellAt 1 (by omega)).trans rfl, ?_, ?_, ?_, ?_, ?_, hx.frozenAt _, hx.frozenAt _, hx.frozenAt _, hy.frozenAt _, hy.frozenAt _⟩
  · exact oldC_of (x := xs[0]) (by rw [hx.cellAt 0 (by omega)]; simp [hl])
  · exact oldC_of (x := xs[1]) (by rw [hx.cellAt 1 (by omega)]; simp [hl])
  · exact oldC_of (x := xs[2]) (by rw [hx.cellAt 2 (by omega)]; simp [hl])
  · exact oldC_of (x := ys[0]) (by rw [hy.cellAt 0 (by omega)]; simp [hl2])
  · exact oldC_of (x := ys[1]) (by rw [hy.cellAt 1 (by omega)]; simp [hl2])
theorem DN.allR {w : World} {R K G D : Nat} {nm : ByteArray} {n : Int} {v : Value} {ss : List ByteArray} {b s : ByteArray} {W : World} {a0 a1 a2 : Value} (h : DN w R K G D nm n v ss b s W ∧ W.cell? ⟨G, 0, none⟩ = some (.string nm) ∧ W.cell? ⟨G, 1, none⟩ = some (.int .i64 n) ∧ W.cell? ⟨G, 2, none⟩ = some (v) ∧ W.cell? ⟨D, 0, none⟩ = some (.string b) ∧ W.cell? ⟨D, 1, none⟩ = some (.string s) ∧ W.cell? ⟨R, 0, none⟩ = some (oldC R 0 W) ∧ W.cell? ⟨R, 1, none⟩ = some (oldC R 1 W) ∧ W.cell? ⟨R, 2, none⟩ = some (oldC R 2 W) ∧ W.cell? ⟨K, 0, none⟩ = some (oldC K 0 W) ∧ W.cell? ⟨K, 1, none⟩ = some (oldC K 1 W) ∧ W.frozen? ⟨R, 0, none⟩ = false ∧ W.frozen? ⟨R, 1, none⟩ = false ∧ W.frozen? ⟨R, 2, none⟩ = false ∧ W.frozen? ⟨K, 0, none⟩ = false ∧ W.frozen? ⟨K, 1, none⟩ = false) : DN w R K G D nm n v ss b s (((W.setCell ⟨R, 0, none⟩ a0).setCell ⟨R, 1, none⟩ a1).setCell ⟨R, 2, none⟩ a2) ∧ (((W.setCell ⟨R, 0, none⟩ a0).setCell ⟨R, 1, none⟩ a1).setCell ⟨R, 2, none⟩ a2).cell? ⟨G, 0, none⟩ = some (.string nm) ∧ (((W.setCell ⟨R, 0, none⟩ a0).setCell ⟨R, 1, none⟩ a1).setCell ⟨R, 2, none⟩ a2).cell? ⟨G, 1, none⟩ = some (.int .i64 n) ∧ (((W.setCell ⟨R, 0, none⟩ a0).setCell ⟨R, 1, none⟩ a1).setCell ⟨R, 2, none⟩ a2).cell? ⟨G, 2, none⟩ = some (v) ∧ (((W.setCell ⟨R, 0, none⟩ a0).setCell ⟨R, 1, none⟩ a1).setCell ⟨R, 2, none⟩ a2).cell? ⟨D, 0, none⟩ = some (.string b) ∧ (((W.setCell ⟨R, 0, none⟩ a0).setCell ⟨R, 1, none⟩ a1).setCell ⟨R, 2, none⟩ a2).cell? ⟨D, 1, none⟩ = some (.string s) ∧ (((W.setCell ⟨R, 0, none⟩ a0).setCell ⟨R, 1, none⟩ a1).setCell ⟨R, 2, none⟩ a2).cell? ⟨R, 0, none⟩ = some (oldC R 0 (((W.setCell ⟨R, 0, none⟩ a0).setCell ⟨R, 1, none⟩ a1).setCell ⟨R, 2, none⟩ a2)) ∧ (((W.setCell ⟨R, 0, none⟩ a0).setCell ⟨R, 1, none⟩ a1).setCell ⟨R, 2, none⟩ a2).cell? ⟨R, 1, none⟩ = some (oldC R 1 (((W.setCell ⟨R, 0, none⟩ a0).setCell ⟨R, 1, none⟩ a1).setCell ⟨R, 2, none⟩ a2)) ∧ (((W.setCell ⟨R, 0, none⟩ a0).setCell ⟨R, 1, none⟩ a1).setCell ⟨R, 2, none⟩ a2).cell? ⟨R, 2, none⟩ = some (oldC R 2 (((W.setCell ⟨R, 0, none⟩ a0).setCell ⟨R, 1, none⟩ a1).setCell ⟨R, 2, none⟩ a2)) ∧ (((W.setCell ⟨R, 0, none⟩ a0).setCell ⟨R, 1, none⟩ a1).setCell ⟨R, 2, none⟩ a2).cell? ⟨K, 0, none⟩ = some (oldC K 0 (((W.setCell ⟨R, 0, none⟩ a0).setCell ⟨R, 1, none⟩ a1).setCell ⟨R, 2, none⟩ a2)) ∧ (((W.setCell ⟨R, 0, none⟩ a0).setCell ⟨R, 1, none⟩ a1).setCell ⟨R, 2, none⟩ a2).cell? ⟨K, 1, none⟩ = some (oldC K 1 (((W.setCell ⟨R, 0, none⟩ a0).setCell ⟨R, 1, none⟩ a1).setCell ⟨R, 2, none⟩ a2)) ∧ (((W.setCell ⟨R, 0, none⟩ a0).setCell ⟨R, 1, none⟩ a1).setCell ⟨R, 2, none⟩ a2).frozen? ⟨R, 0, none⟩ = false ∧ (((W.setCell ⟨R, 0, none⟩ a0).setCell ⟨R, 1, none⟩ a1).setCell ⟨R, 2, none⟩ a2).frozen? ⟨R, 1, none⟩ = false ∧ (((W.setCell ⟨R, 0, none⟩ a0).setCell ⟨R, 1, none⟩ a1).setCell ⟨R, 2, none⟩ a2).frozen? ⟨R, 2, none⟩ = false ∧ (((W.setCell ⟨R, 0, none⟩ a0).setCell ⟨R, 1, none⟩ a1).setCell ⟨R, 2, none⟩ a2).frozen? ⟨K, 0, none⟩ = false ∧ (((W.setCell ⟨R, 0, none⟩ a0).setCell ⟨R, 1, none⟩ a1).setCell ⟨R, 2, none⟩ a2).frozen? ⟨K, 1, none⟩ = false := h.1.setR.all
theorem DN.allK {w : World} {R K G D : Nat} {nm : ByteArray} {n : Int} {v : Value} {ss : List ByteArray} {b s : ByteArray} {W : World} {a0 a1 : Value} (h : DN w R K G D nm n v ss b s W ∧ W.cell? ⟨G, 0, none⟩ = some (.string nm) ∧ W.cell? ⟨G, 1, none⟩ = some (.int .i64 n) ∧ W.cell? ⟨G, 2, none⟩ = some (v) ∧ W.cell? ⟨D, 0, none⟩ = some (.string b) ∧ W.cell? ⟨D, 1, none⟩ = some (.string s) ∧ W.cell? ⟨R, 0, none⟩ = some (oldC R 0 W) ∧ W.cell? ⟨R, 1, none⟩ = some (oldC R 1 W) ∧ W.cell? ⟨R, 2, none⟩ = some (oldC R 2 W) ∧ W.cell? ⟨K, 0, none⟩ = some (oldC K 0 W) ∧ W.cell? ⟨K, 1, none⟩ = some (oldC K 1 W) ∧ W.frozen? ⟨R, 0, none⟩ = false ∧ W.frozen? ⟨R, 1, none⟩ = false ∧ W.frozen? ⟨R, 2, none⟩ = false ∧ W.frozen? ⟨K, 0, none⟩ = false ∧ W.frozen? ⟨K, 1, none⟩ = false) : DN w R K G D nm n v ss b s ((W.setCell ⟨K, 0, none⟩ a0).setCell ⟨K, 1, none⟩ a1) ∧ ((W.setCell ⟨K, 0, none⟩ a0).setCell ⟨K, 1, none⟩ a1).cell? ⟨G, 0, none⟩ = some (.string nm) ∧ ((W.setCell ⟨K, 0, none⟩ a0).setCell ⟨K, 1, none⟩ a1).cell? ⟨G, 1, none⟩ = some (.int .i64 n) ∧ ((W.setCell ⟨K, 0, none⟩ a0).setCell ⟨K, 1, none⟩ a1).cell? ⟨G, 2, none⟩ = some (v) ∧ ((W.setCell ⟨K, 0, none⟩ a0).setCell ⟨K, 1, none⟩ a1).cell? ⟨D, 0, none⟩ = some (.string b) ∧ ((W.setCell ⟨K, 0, none⟩ a0).setCell ⟨K, 1, none⟩ a1).cell? ⟨D, 1, none⟩ = some (.string s) ∧ ((W.setCell ⟨K, 0, none⟩ a0).setCell ⟨K, 1, none⟩ a1).cell? ⟨R, 0, none⟩ = some (oldC R 0 ((W.setCell ⟨K, 0, none⟩ a0).setCell ⟨K, 1, none⟩ a1)) ∧ ((W.setCell ⟨K, 0, none⟩ a0).setCell ⟨K, 1, none⟩ a1).cell? ⟨R, 1, none⟩ = some (oldC R 1 ((W.setCell ⟨K, 0, none⟩ a0).setCell ⟨K, 1, none⟩ a1)) ∧ ((W.setCell ⟨K, 0, none⟩ a0).setCell ⟨K, 1, none⟩ a1).cell? ⟨R, 2, none⟩ = some (oldC R 2 ((W.setCell ⟨K, 0, none⟩ a0).setCell ⟨K, 1, none⟩ a1)) ∧ ((W.setCell ⟨K, 0, none⟩ a0).setCell ⟨K, 1, none⟩ a1).cell? ⟨K, 0, none⟩ = some (oldC K 0 ((W.setCell ⟨K, 0, none⟩ a0).setCell ⟨K, 1, none⟩ a1)) ∧ ((W.setCell ⟨K, 0, none⟩ a0).setCell ⟨K, 1, none⟩ a1).cell? ⟨K, 1, none⟩ = some (oldC K 1 ((W.setCell ⟨K, 0, none⟩ a0).setCell ⟨K, 1, none⟩ a1)) ∧ ((W.setCell ⟨K, 0, none⟩ a0).setCell ⟨K, 1, none⟩ a1).frozen? ⟨R, 0, none⟩ = false ∧ ((W.setCell ⟨K, 0, none⟩ a0).setCell ⟨K, 1, none⟩ a1).frozen? ⟨R, 1, none⟩ = false ∧ ((W.setCell ⟨K, 0, none⟩ a0).setCell ⟨K, 1, none⟩ a1).frozen? ⟨R, 2, none⟩ = false ∧ ((W.setCell ⟨K, 0, none⟩ a0).setCell ⟨K, 1, none⟩ a1).frozen? ⟨K, 0, none⟩ = false ∧ ((W.setCell ⟨K, 0, none⟩ a0).setCell ⟨K, 1, none⟩ a1).frozen? ⟨K, 1, none⟩ = false := h.1.setK.all
/-- The five cells of the results, written. -/
theorem DN.fin {w : World} {R K G D : Nat} {nm : ByteArray} {n : Int} {v : Value} {ss : List ByteArray} {b s : ByteArray} {W : World} (h : DN w R K G D nm n v ss b s W) (a0 a1 a2 a3 a4 : Value) :
    ∃ W', W' = ((((W.setCell ⟨R, 0, none⟩ a0).setCell ⟨R, 1, none⟩ a1).setCell ⟨R, 2, none⟩ a2).setCell ⟨K, 0, none⟩ a3).setCell ⟨K, 1, none⟩ a4 ∧ DN w R K G D nm n v ss b s W' ∧
      (W'.cell? ⟨R, 0, none⟩ = some a0 ∧ W'.cell? ⟨R, 1, none⟩ = some a1 ∧ W'.cell? ⟨R, 2, none⟩ = some a2) ∧ (W'.cell? ⟨K, 0, none⟩ = some a3 ∧ W'.cell? ⟨K, 1, none⟩ = some a4) ∧
      (∀ base V l, BobV W base V l → R < base → K < base → BobV W' base V l) := by
  obtain ⟨n1, n2, n3, n4, n5⟩ := h.nes
  refine ⟨_, rfl, ((((h.setR1 0 a0).setR1 1 a1).setR1 2 a2).setK1 0 a3).setK1 1 a4, ?_, ?_, ?_⟩
  · obtain ⟨xs, hx⟩ := h.rm
    have hl : xs.length = 3 := hx.1
    have h5 := own_ne1 (own_ne1 (own_set (own_set (own_set hx 0 a0) 1 a1) 2 a2) (D := K) (by omega) 0 a3) (D := K) (by omega) 1 a4
    refine ⟨?_, ?_, ?_⟩
    · rw [h5.cellAt 0 (by omega)]; simp [hl]
    · rw [h5.cellAt 1 (by omega)]; simp [hl]
    · rw [h5.cellAt 2 (by omega)]; simp [hl]
  · obtain ⟨ys, hy⟩ := (((h.setR1 0 a0).setR1 1 a1).setR1 2 a2).rk
    have hl : ys.length = 2 := hy.1
    have h5 := own_set (own_set hy 0 a3) 1 a4
    refine ⟨?_, ?_⟩
    · rw [h5.cellAt 0 (by omega)]; simp [hl]
    · rw [h5.cellAt 1 (by omega)]; simp [hl]
  · intro base V l hB hR hK
    have st : ∀ (W : World) (g j : Nat) (u : Value), g < base → BobV W base V l → BobV (W.setCell ⟨g, j, none⟩ u) base V l := fun W g j u hg h => h.draw (gb_set (gb_refl W g) j u) hg
    exact st _ K 1 a4 hK (st _ K 0 a3 hK (st _ R 2 a2 hR (st _ R 1 a1 hR (st _ R 0 a0 hR hB))))
theorem cur_box {w wb : World} {C : Nat} {V : Value} (h : BytesAt w w.heap.size V) (hb : Below w.heap.size w wb) (hC : w.heap.size ≤ C) (hh : wb.heap[C]? = some (.cells #[V, .int .i64 0, .int .u64 0] 70 (0, 0))) : Cur wb C 0 :=
  ⟨V, 0, 0, (h.keep (fun p hp => hb.cell hp)).more hC, by omega, by omega, by omega, by omega, own_of_heap hh (Nat.le_refl _) (by unfold maxLen; omega) rfl⟩
/-- The five cells of two results' blocks written behind a drawer. -/
theorem five_fin {w wb w1 : World} {R K : Nat} {xs ys : List Value} (hw : Below w.heap.size w wb) (hb : Below wb.heap.size wb w1) (hx : w1.ownsRow w.heap.size 49 3 (.slice (some ⟨R, 0, none⟩) 1 1) 1 xs) (hy : w1.ownsRow w.heap.size 51 2 (.slice (some ⟨K, 0, none⟩) 1 1) 1 ys) (a0 a1 a2 a3 a4 : Value) :
    ∃ W', W' = ((((w1.setCell ⟨R, 0, none⟩ a0).setCell ⟨R, 1, none⟩ a1).setCell ⟨R, 2, none⟩ a2).setCell ⟨K, 0, none⟩ a3).setCell ⟨K, 1, none⟩ a4 ∧ Below w.heap.size w W' ∧
      (W'.cell? ⟨R, 0, none⟩ = some a0 ∧ W'.cell? ⟨R, 1, none⟩ = some a1 ∧ W'.cell? ⟨R, 2, none⟩ = some a2) ∧ (W'.cell? ⟨K, 0, none⟩ = some a3 ∧ W'.cell? ⟨K, 1, none⟩ = some a4) ∧
      (∀ base (e : TypeId) (s n : Nat) v zs, w1.ownsRow base e s v n zs → e ≠ 49 → e ≠ 51 → W'.ownsRow base e s v n zs) ∧ (∀ base V l, BobV w1 base V l → BobV W' base V l) := by
  have hl : xs.length = 3 := hx.1
  have hl2 : ys.length = 2 := hy.1
  have hRK := own_blk_ne hx hy (by decide)
  have hR := (hx.lt R rfl).1
  have hK := (hy.lt K rfl).1
  have y3 := own_ne1 (own_ne1 (own_ne1 hy (D := R) (by omega) 0 a0) (D := R) (by omega) 1 a1) (D := R) (by omega) 2 a2
  have hro : ∀ base (e : TypeId) (s n : Nat) v zs, w1.ownsRow base e s v n zs → e ≠ 49 → e ≠ 51 → (((((w1.setCell ⟨R, 0, none⟩ a0).setCell ⟨R, 1, none⟩ a1).setCell ⟨R, 2, none⟩ a2).setCell ⟨K, 0, none⟩ a3).setCell ⟨K, 1, none⟩ a4).ownsRow base e s v n zs := by
    intro base e s n v zs h he1 he2
    have st : ∀ (W : World) (b2 : Nat) (e2 : TypeId) (s2 g j : Nat) (u : Value) (zz : List Value), W.ownsRow base e s v n zs → W.ownsRow b2 e2 s2 (.slice (some ⟨g, 0, none⟩) 1 1) 1 zz → e ≠ e2 → (W.setCell ⟨g, j, none⟩ u).ownsRow base e s v n zs := fun W b2 e2 s2 g j u zz h1 h2 hne =>
      h1.kept (gb_set (gb_refl W g) j u) ((own_kindsX h1 h2 hne).imp id (fun x y => x (by rw [y]; rfl)))
    have x1 := own_set hx 0 a0
    have x2 := own_set x1 1 a1
    have h3 := st _ _ _ _ R 2 a2 _ (st _ _ _ _ R 1 a1 _ (st _ _ _ _ R 0 a0 _ h hx he1) x1 he1) x2 he1
    exact st _ _ _ _ K 1 a4 _ (st _ _ _ _ K 0 a3 _ h3 y3 he2) (own_set y3 0 a3) he2
  refine ⟨_, rfl, ?_, ?_, ?_, hro, ?_⟩
  · exact grow_setB9 (grow_setB9 (grow_setB9 (grow_setB9 (grow_setB9 (bw_to hw hb) hR a0) hR a1) hR a2) hK a3) hK a4
  · have h5 := own_ne1 (own_ne1 (own_set (own_set (own_set hx 0 a0) 1 a1) 2 a2) (D := K) (by omega) 0 a3) (D := K) (by omega) 1 a4
    refine ⟨?_, ?_, ?_⟩
    · rw [h5.cellAt 0 (by omega)]; simp [hl]
    · rw [h5.cellAt 1 (by omega)]; simp [hl]
    · rw [h5.cellAt 2 (by omega)]; simp [hl]
  · have h5 := own_set (own_set y3 0 a3) 1 a4
    refine ⟨?_, ?_⟩
    · rw [h5.cellAt 0 (by omega)]; simp [hl2]
    · rw [h5.cellAt 1 (by omega)]; simp [hl2]
  · intro base V l h
    rcases h with h | ⟨g, q, x, h, e⟩
    · exact .inl (hro _ _ _ _ _ _ h (by decide) (by decide))
    · exact .inr ⟨g, q, x, hro _ _ _ _ _ _ h (by decide) (by decide), e⟩
end Go.Proofs.YtofpjbdelmmclaaGreatDoor
